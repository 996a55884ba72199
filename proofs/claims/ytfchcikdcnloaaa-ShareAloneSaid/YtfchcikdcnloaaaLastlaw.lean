/- Plain law: who can get or lose a log by the reference is who the greatest and the least quotient say; how many ways there are. -/
import Derived.Test.YtfchcikdcnloaaaGreed
namespace Go.Proofs.Ytfchcikdcnloaaa
open Go Go.RowKit Go.Proofs

/-- The owner i loses its last log to the owner k by right. -/
def lastCond (had : List Int) (part : Int) (sh : List Int) (i k : Nat) : Bool :=
  decide (i ≠ k) && decide (0 < sh.getD i 0) && decide (had.getD i 0 * (100 * sh.getD k 0 + part) = had.getD k 0 * (100 * (sh.getD i 0 - 1) + part))
def lastStep (had : List Int) (part : Int) (sh : List Int) (l : List Int) (i k : Nat) : List Int := if lastCond had part sh i k = true then (l.set i 1).set k 2 else l
def lastRow (had : List Int) (part : Int) (sh : List Int) (l : List Int) (i : Nat) : Nat → List Int
  | 0 => l
  | k + 1 => lastStep had part sh (lastRow had part sh l i k) i k
def lastAll (had : List Int) (part : Int) (sh : List Int) (n : Nat) : Nat → List Int
  | 0 => List.replicate n 0
  | i + 1 => lastRow had part sh (lastAll had part sh n i) i n
theorem lastStep_len (had : List Int) (part : Int) (sh l : List Int) (i k : Nat) : (lastStep had part sh l i k).length = l.length := by unfold lastStep; split <;> simp
theorem lastRow_len (had : List Int) (part : Int) (sh l : List Int) (i k : Nat) : (lastRow had part sh l i k).length = l.length := by
  induction k with
  | zero => rfl
  | succ k ih => rw [lastRow, lastStep_len, ih]
theorem lastAll_len (had : List Int) (part : Int) (sh : List Int) (n i : Nat) : (lastAll had part sh n i).length = n := by
  induction i with
  | zero => simp [lastAll]
  | succ i ih => rw [lastAll, lastRow_len, ih]

/-- What the list says of the pairs that were looked at. -/
def Marks (l : List Int) (n : Nat) (P : Nat → Nat → Prop) : Prop :=
  l.length = n ∧ ∀ j, j < n → (l.getD j 0 = 1 ∧ ∃ k, k < n ∧ P j k) ∨ (l.getD j 0 = 2 ∧ ∃ i, i < n ∧ P i j) ∨ (l.getD j 0 = 0 ∧ ∀ m, ¬ P j m ∧ ¬ P m j)

theorem set_at (l : List Int) (i j : Nat) (x : Int) (hi : i < l.length) : (l.set i x).getD j 0 = if i = j then x else l.getD j 0 := by
  by_cases e : i = j
  · subst e; simp [List.getD, hi]
  · simp [List.getD, e]

theorem Marks.step {l : List Int} {n : Nat} {P P' : Nat → Nat → Prop} {had sh : List Int} {part : Int} {i k : Nat} (h : Marks l n P) (hi : i < n) (hk : k < n) (hP : ∀ a b, P' a b ↔ P a b ∨ (a = i ∧ b = k ∧ lastCond had part sh i k = true)) : Marks (lastStep had part sh l i k) n P' := by
  obtain ⟨hl, hm⟩ := h
  refine ⟨by rw [lastStep_len, hl], fun j hj => ?_⟩
  unfold lastStep
  by_cases hc : lastCond had part sh i k = true
  · rw [if_pos hc]
    have hne : i ≠ k := by
      simp only [lastCond, Bool.and_eq_true, decide_eq_true_eq] at hc
      exact hc.1.1
    rw [set_at _ _ _ _ (by simpa [hl] using hk), set_at _ _ _ _ (by omega)]
    by_cases hkj : k = j
    · subst hkj
      rw [if_pos rfl]
      exact .inr (.inl ⟨rfl, i, hi, (hP i k).2 (.inr ⟨rfl, rfl, hc⟩)⟩)
    · rw [if_neg hkj]
      by_cases hij : i = j
      · subst hij
        rw [if_pos rfl]
        exact .inl ⟨rfl, k, hk, (hP i k).2 (.inr ⟨rfl, rfl, hc⟩)⟩
      · rw [if_neg hij]
        rcases hm j hj with ⟨h1, m, h2, h3⟩ | ⟨h1, m, h2, h3⟩ | ⟨h1, h2⟩
        · exact .inl ⟨h1, m, h2, (hP j m).2 (.inl h3)⟩
        · exact .inr (.inl ⟨h1, m, h2, (hP m j).2 (.inl h3)⟩)
        · refine .inr (.inr ⟨h1, fun m => ⟨fun hp => ?_, fun hp => ?_⟩⟩)
          · rcases (hP j m).1 hp with hp | hp
            · exact (h2 m).1 hp
            · exact hij hp.1.symm
          · rcases (hP m j).1 hp with hp | hp
            · exact (h2 m).2 hp
            · exact hkj hp.2.1.symm
  · rw [if_neg hc]
    have e : ∀ a b, P' a b ↔ P a b := fun a b => by
      rw [hP]
      exact ⟨fun h => h.elim id (fun h => absurd h.2.2 hc), .inl⟩
    rcases hm j hj with ⟨h1, m, h2, h3⟩ | ⟨h1, m, h2, h3⟩ | ⟨h1, h2⟩
    · exact .inl ⟨h1, m, h2, (e j m).2 h3⟩
    · exact .inr (.inl ⟨h1, m, h2, (e m j).2 h3⟩)
    · exact .inr (.inr ⟨h1, fun m => ⟨fun hp => (h2 m).1 ((e j m).1 hp), fun hp => (h2 m).2 ((e m j).1 hp)⟩⟩)

theorem marks_row {had sh : List Int} {part : Int} {n i : Nat} {l : List Int} {P : Nat → Nat → Prop} (hi : i < n) (h : Marks l n P) : ∀ k, k ≤ n → Marks (lastRow had part sh l i k) n (fun a b => P a b ∨ (a = i ∧ b < k ∧ lastCond had part sh i b = true)) := by
  intro k
  induction k with
  | zero =>
    intro _
    refine ⟨h.1, fun j hj => ?_⟩
    rcases h.2 j hj with ⟨h1, m, h2, h3⟩ | ⟨h1, m, h2, h3⟩ | ⟨h1, h2⟩
    · exact .inl ⟨h1, m, h2, .inl h3⟩
    · exact .inr (.inl ⟨h1, m, h2, .inl h3⟩)
    · exact .inr (.inr ⟨h1, fun m => ⟨fun hp => hp.elim (h2 m).1 (fun hp => absurd hp.2.1 (by omega)), fun hp => hp.elim (h2 m).2 (fun hp => absurd hp.2.1 (by omega))⟩⟩)
  | succ k ih =>
    intro hk
    refine (ih (by omega)).step hi (by omega) (fun a b => ?_)
    constructor
    · rintro (h | ⟨h1, h2, h3⟩)
      · exact .inl (.inl h)
      · by_cases e : b = k
        · subst e; exact .inr ⟨h1, rfl, h3⟩
        · exact .inl (.inr ⟨h1, by omega, h3⟩)
    · rintro ((h | ⟨h1, h2, h3⟩) | ⟨h1, h2, h3⟩)
      · exact .inl h
      · exact .inr ⟨h1, by omega, h3⟩
      · subst h2; exact .inr ⟨h1, by omega, h3⟩

theorem marks_all (had sh : List Int) (part : Int) (n : Nat) : ∀ i, i ≤ n → Marks (lastAll had part sh n i) n (fun a b => a < i ∧ b < n ∧ lastCond had part sh a b = true) := by
  intro i
  induction i with
  | zero =>
    intro _
    refine ⟨by simp [lastAll], fun j hj => .inr (.inr ⟨by simp [lastAll, List.getD, hj], fun m => ⟨fun hp => by omega, fun hp => by omega⟩⟩)⟩
  | succ i ih =>
    intro hi
    have := marks_row (had := had) (sh := sh) (part := part) (i := i) (by omega) (ih (by omega)) n (Nat.le_refl _)
    refine ⟨this.1, fun j hj => ?_⟩
    have e : ∀ a b, ((a < i ∧ b < n ∧ lastCond had part sh a b = true) ∨ (a = i ∧ b < n ∧ lastCond had part sh i b = true)) ↔ (a < i + 1 ∧ b < n ∧ lastCond had part sh a b = true) := fun a b => by
      constructor
      · rintro (⟨h1, h2, h3⟩ | ⟨h1, h2, h3⟩)
        · exact ⟨by omega, h2, h3⟩
        · subst h1; exact ⟨by omega, h2, h3⟩
      · rintro ⟨h1, h2, h3⟩
        by_cases e : a = i
        · subst e; exact .inr ⟨rfl, h2, h3⟩
        · exact .inl ⟨by omega, h2, h3⟩
    rcases this.2 j hj with ⟨h1, m, h2, h3⟩ | ⟨h1, m, h2, h3⟩ | ⟨h1, h2⟩
    · exact .inl ⟨h1, m, h2, (e j m).1 h3⟩
    · exact .inr (.inl ⟨h1, m, h2, (e m j).1 h3⟩)
    · exact .inr (.inr ⟨h1, fun m => ⟨fun hp => (h2 m).1 ((e j m).2 hp), fun hp => (h2 m).2 ((e m j).2 hp)⟩⟩)

section
variable {had got sh : List Int} {part prize : Int}

theorem cond_iff (V : Val had part prize) (G : GotOk got) (he : ∀ i, i < had.length → sh.getD i 0 = got.getD i 0) {i k : Nat} (hi : i < had.length) (hk : k < had.length) :
    lastCond had part sh i k = true ↔ 0 < got.getD i 0 ∧ lastQ had part got i = nextQ had part got k := by
  simp only [lastCond, Bool.and_eq_true, decide_eq_true_eq, he i hi, he k hk]
  constructor
  · rintro ⟨⟨_, h1⟩, h2⟩
    have a := last_pos V G hi h1
    have b := next_pos V G hk
    refine ⟨h1, ?_⟩
    rw [lastQ_eq h1, next_quo, quo_eq a.1 a.2 b.1 b.2, Int.mul_assoc, Int.mul_assoc, h2]
  · rintro ⟨h1, h2⟩
    have a := last_pos V G hi h1
    have b := next_pos V G hk
    refine ⟨⟨?_, h1⟩, ?_⟩
    · rintro rfl
      have := next_lt_last V G hi h1
      rw [h2, less_irr] at this
      cases this
    · rw [lastQ_eq h1, next_quo, quo_eq a.1 a.2 b.1 b.2, Int.mul_assoc, Int.mul_assoc] at h2
      omega

theorem next_same (V : Val had part prize) (G : GotOk got) {i k : Nat} (hi : i < had.length) (hk : k < had.length) (h1 : lessB (nextQ had part got i) (nextQ had part got k) = false) (h2 : lessB (nextQ had part got k) (nextQ had part got i) = false) : nextQ had part got i = nextQ had part got k := by
  have a := next_pos V G hi
  have b := next_pos V G hk
  rw [next_quo, next_quo] at *
  exact quo_same a.1 a.2 b.1 b.2 h1 h2
theorem last_next_same (V : Val had part prize) (G : GotOk got) {i k : Nat} (hi : i < had.length) (hk : k < had.length) (hg : 0 < got.getD i 0) (h1 : lessB (lastQ had part got i) (nextQ had part got k) = false) (h2 : lessB (nextQ had part got k) (lastQ had part got i) = false) : lastQ had part got i = nextQ had part got k := by
  have a := last_pos V G hi hg
  have b := next_pos V G hk
  rw [lastQ_eq hg] at *
  rw [next_quo] at *
  exact quo_same a.1 a.2 b.1 b.2 h1 h2

/-- A last quotient is a next one just if both are the greatest and the least. -/
theorem meet_iff (V : Val had part prize) (G : GotOk got) (F : FairG had part got) {i k : Nat} (hi : i < had.length) (hk : k < had.length) (hg : 0 < got.getD i 0) :
    lastQ had part got i = nextQ had part got k ↔ greatQ had part got = leastQ had part got ∧ lastQ had part got i = leastQ had part got ∧ nextQ had part got k = leastQ had part got := by
  constructor
  · intro h
    obtain ⟨⟨j, hj, hgj, ej⟩, hl⟩ := least_facts V G ⟨i, hi, hg⟩
    obtain ⟨⟨m, hm, em⟩, hgr⟩ := great_facts V G
    -- least ≤ last i = next k ≤ great ≤ least
    have h1 := hl i hi hg
    have h2 := hgr k hk
    have h3 := F j m hj hm hgj
    rw [ej] at h1 ⊢
    rw [em] at h2 ⊢
    have pj := lastQ_pos V G hj hgj
    have pi := lastQ_pos V G hi hg
    have pk := nextQ_pos V G hk
    have pm := nextQ_pos V G hm
    have e1 : lastQ had part got j = nextQ had part got m := last_next_same V G hj hm hgj h3 (ge_trans pm pk pj h2 (by rw [← h]; exact h1))
    have e2 : nextQ had part got k = nextQ had part got m := next_same V G hk hm (by rw [← h, ← e1]; exact h1) h2
    exact ⟨e1.symm, by rw [h, e2, e1], by rw [e2, e1]⟩
  · rintro ⟨_, h1, h2⟩
    rw [h1, h2]

/-- The reference's word for the owner i, by the quotients. -/
theorem lasts_one (V : Val had part prize) (G : GotOk got) (F : FairG had part got) (he : ∀ i, i < had.length → sh.getD i 0 = got.getD i 0) {i : Nat} (hi : i < had.length) :
    ((lastAll had part sh had.length had.length).getD i 0 = 1 ↔ greatQ had part got = leastQ had part got ∧ lastIs had part got (leastQ had part got) i = true) ∧
    ((lastAll had part sh had.length had.length).getD i 0 = 2 ↔ greatQ had part got = leastQ had part got ∧ nextQ had part got i = leastQ had part got ∧ ∃ j, j < had.length ∧ 0 < got.getD j 0) ∧
    ((lastAll had part sh had.length had.length).getD i 0 = 0 ∨ (lastAll had part sh had.length had.length).getD i 0 = 1 ∨ (lastAll had part sh had.length had.length).getD i 0 = 2) := by
  obtain ⟨_, hm⟩ := marks_all had sh part had.length had.length (Nat.le_refl _)
  have A : (∃ k, k < had.length ∧ i < had.length ∧ k < had.length ∧ lastCond had part sh i k = true) ↔ greatQ had part got = leastQ had part got ∧ lastIs had part got (leastQ had part got) i = true := by
    constructor
    · rintro ⟨k, hk, _, _, hc⟩
      obtain ⟨h1, h2⟩ := (cond_iff V G he hi hk).1 hc
      obtain ⟨a, b, _⟩ := (meet_iff V G F hi hk h1).1 h2
      exact ⟨a, lastIs_true h1 b⟩
    · rintro ⟨h1, h2⟩
      simp only [lastIs, Bool.and_eq_true, decide_eq_true_eq] at h2
      obtain ⟨⟨m, hm, em⟩, _⟩ := great_facts V G
      refine ⟨m, hm, hi, hm, (cond_iff V G he hi hm).2 ⟨h2.1, ?_⟩⟩
      rw [h2.2, ← em, h1]
  have B : (∃ j, j < had.length ∧ j < had.length ∧ i < had.length ∧ lastCond had part sh j i = true) ↔ greatQ had part got = leastQ had part got ∧ nextQ had part got i = leastQ had part got ∧ ∃ j, j < had.length ∧ 0 < got.getD j 0 := by
    constructor
    · rintro ⟨j, hj, _, _, hc⟩
      obtain ⟨h1, h2⟩ := (cond_iff V G he hj hi).1 hc
      obtain ⟨a, _, b⟩ := (meet_iff V G F hj hi h1).1 h2
      exact ⟨a, b, j, hj, h1⟩
    · rintro ⟨h1, h2, hs⟩
      obtain ⟨⟨j, hj, hgj, ej⟩, _⟩ := least_facts V G hs
      exact ⟨j, hj, hj, hi, (cond_iff V G he hj hi).2 ⟨hgj, by rw [← ej, h2]⟩⟩
  have C : greatQ had part got = leastQ had part got ∧ lastIs had part got (leastQ had part got) i = true → ¬ (nextQ had part got i = leastQ had part got) := by
    rintro ⟨_, h2⟩ h3
    simp only [lastIs, Bool.and_eq_true, decide_eq_true_eq] at h2
    have := next_lt_last V G hi h2.1
    rw [h2.2, h3, less_irr] at this
    cases this
  rcases hm i hi with ⟨h1, k, h2, h3⟩ | ⟨h1, j, h2, h3⟩ | ⟨h1, h2⟩
  · have a := A.1 ⟨k, h2, h3⟩
    have c := C a
    rw [h1]
    exact ⟨⟨fun _ => a, fun _ => rfl⟩, ⟨fun h => by omega, fun h => absurd h.2.1 c⟩, .inr (.inl rfl)⟩
  · have b := B.1 ⟨j, h2, h3⟩
    rw [h1]
    exact ⟨⟨fun h => by omega, fun h => absurd b.2.1 (C h)⟩, ⟨fun _ => b, fun _ => rfl⟩, .inr (.inr rfl)⟩
  · rw [h1]
    refine ⟨⟨fun h => by omega, fun h => ?_⟩, ⟨fun h => by omega, fun h => ?_⟩, .inl rfl⟩
    · obtain ⟨k, _, hk⟩ := A.2 h
      exact absurd hk (h2 k).1
    · obtain ⟨j, _, hj⟩ := B.2 h
      exact absurd hj (h2 j).2
end

/-- The reference's ends of a span. -/
def refSpan (had : List Int) (part : Int) (sh : List Int) (i : Nat) : Int × Int :=
  if (lastAll had part sh had.length had.length).getD i 0 = 1 then (sh.getD i 0 - 1, sh.getD i 0) else if (lastAll had part sh had.length had.length).getD i 0 = 2 then (sh.getD i 0, sh.getD i 0 + 1) else (sh.getD i 0, sh.getD i 0)
/-- Of the first k owners those of which the reference says so. -/
def refWays (d : Int) : Nat → Int
  | 0 => 1
  | k + 1 => wrap64 ((wrap64 (refWays d k * (d + (k + 1)))).tdiv (k + 1))
def refHas (had : List Int) (part : Int) (sh : List Int) (k : Nat) : Int := cntB (fun i => decide ((lastAll had part sh had.length had.length).getD i 0 = 1)) k
def refAll (had : List Int) (part : Int) (sh : List Int) (k : Nat) : Int := cntB (fun i => decide (0 < (lastAll had part sh had.length had.length).getD i 0)) k

section
variable {had sh : List Int} {part prize : Int}
theorem span_law (V : Val had part prize) (he : ∀ i, i < had.length → sh.getD i 0 = (gotEnd had part prize).getD i 0) {i : Nat} (hi : i < had.length) : (spanLo had part prize i, spanHi had part prize i) = refSpan had part sh i := by
  have G := gotEnd_ok V
  have F := end_fair V
  have hz := V.z1
  obtain ⟨h1, h2, h3⟩ := lasts_one V G F he hi
  unfold refSpan spanLo spanHi
  simp only [he i hi]
  by_cases hp : 0 < prize
  · have hs := ordN_some V hp
    have hp0 : prize ≠ 0 := by omega
    have hl1 : leastQ had part (gotEnd had part prize) = lastQ had part (gotEnd had part prize) i → 0 < (gotEnd had part prize).getD i 0 := fun h => by
      have hg := got_get G (i := i) (by have := V.l2; omega)
      by_cases h0 : (gotEnd had part prize).getD i 0 = 0
      · obtain ⟨⟨j, hj, hgj, ej⟩, hl⟩ := least_facts V G hs
        have a := last_pos V G hj hgj
        have q := quo_facts a.1 a.2
        obtain ⟨g, _, _, _, q1, _, _⟩ := q
        rw [← lastQ_eq hgj, ← ej, h] at q1
        unfold lastQ at q1
        rw [if_pos h0] at q1
        simp at q1
      · omega
    by_cases hgl : greatQ had part (gotEnd had part prize) = leastQ had part (gotEnd had part prize)
    · by_cases hn : leastQ had part (gotEnd had part prize) = nextQ had part (gotEnd had part prize) i
      · have h2' := h2.2 ⟨hgl, hn.symm, hs⟩
        rw [if_neg (fun h => h.2.2.1 hn), if_pos ⟨hp0, hgl, hn⟩, h2']
        simp
      · have h2' : ¬ (lastAll had part sh had.length had.length).getD i 0 = 2 := fun h => hn (h2.1 h).2.1.symm
        by_cases hla : leastQ had part (gotEnd had part prize) = lastQ had part (gotEnd had part prize) i
        · have h1' := h1.2 ⟨hgl, lastIs_true (hl1 hla) hla.symm⟩
          rw [if_pos ⟨hp0, hgl, hn, hla⟩, if_neg (fun h => hn h.2.2), h1']
          simp
        · have h1' : ¬ (lastAll had part sh had.length had.length).getD i 0 = 1 := fun h => by
            have := (h1.1 h).2
            simp only [lastIs, Bool.and_eq_true, decide_eq_true_eq] at this
            exact hla this.2.symm
          rw [if_neg (fun h => hla h.2.2.2), if_neg (fun h => hn h.2.2), if_neg h1', if_neg h2']
    · rw [if_neg (fun h => hgl h.2.1), if_neg (fun h => hgl h.2.1), if_neg (fun h => hgl (h1.1 h).1), if_neg (fun h => hgl (h2.1 h).1)]
  · have hp0 : prize = 0 := by omega
    have hno : ∀ j, ¬ 0 < (gotEnd had part prize).getD j 0 := fun j => by
      have := zero12_at j
      rw [hp0]
      rw [show gotEnd had part 0 = zero12 from rfl, this]
      omega
    have n1 : ¬ (lastAll had part sh had.length had.length).getD i 0 = 1 := fun h => by
      have := (h1.1 h).2
      simp only [lastIs, Bool.and_eq_true, decide_eq_true_eq] at this
      exact hno i this.1
    have n2 : ¬ (lastAll had part sh had.length had.length).getD i 0 = 2 := fun h => by
      obtain ⟨j, _, hj⟩ := (h2.1 h).2.2
      exact hno j hj
    rw [if_neg (fun h => h.1 hp0), if_neg (fun h => h.1 hp0), if_neg n1, if_neg n2]

theorem nextN_cnt (had : List Int) (part prize : Int) (hp : 0 < prize) (k : Nat) : nextN had part prize k = cntB (fun i => decide (nextQ had part (gotEnd had part prize) i = leastQ had part (gotEnd had part prize))) k := by
  induction k with
  | zero => rfl
  | succ k ih => simp [nextN, cntB, ih, hp]

theorem ways_table : ∀ h : Nat, h < 13 → ∀ a : Nat, a < 25 → h ≤ a → waysW a h = refWays ((a : Int) - h) h := by decide +kernel
theorem ways_all : ∀ h : Nat, h < 13 → waysW h h = 1 := by decide +kernel

theorem count_law (V : Val had part prize) (he : ∀ i, i < had.length → sh.getD i 0 = (gotEnd had part prize).getD i 0) : waysW (allN had part prize) (hasN had part prize).toNat = refWays (refAll had part sh had.length - refHas had part sh had.length) (refHas had part sh had.length).toNat := by
  have G := gotEnd_ok V
  have F := end_fair V
  have hz := V.z1
  have hv2 := V.l2
  by_cases hp : 0 < prize
  · have hs := ordN_some V hp
    have hN := hasN_law V hp
    have hnn := nextN_cnt had part prize hp had.length
    have b1 := cntB_bd (lastIs had part (gotEnd had part prize) (leastQ had part (gotEnd had part prize))) had.length
    have b2 := cntB_bd (fun i => decide (nextQ had part (gotEnd had part prize) i = leastQ had part (gotEnd had part prize))) had.length
    by_cases hgl : greatQ had part (gotEnd had part prize) = leastQ had part (gotEnd had part prize)
    · have e1 : refHas had part sh had.length = hasN had part prize := by
        rw [hN]
        refine cntB_congr fun i hi => ?_
        obtain ⟨h1, _, _⟩ := lasts_one V G F he hi
        rw [Bool.eq_iff_iff, decide_eq_true_eq, h1]
        exact ⟨fun h => h.2, fun h => ⟨hgl, h⟩⟩
      have e2 : refAll had part sh had.length = allN had part prize := by
        unfold refAll allN
        rw [hN, hnn]
        -- who has the last log and who gets the next one are not the same owner
        have : ∀ k, k ≤ had.length → cntB (fun i => decide (0 < (lastAll had part sh had.length had.length).getD i 0)) k = cntB (lastIs had part (gotEnd had part prize) (leastQ had part (gotEnd had part prize))) k + cntB (fun i => decide (nextQ had part (gotEnd had part prize) i = leastQ had part (gotEnd had part prize))) k := by
          intro k
          induction k with
          | zero => intro _; rfl
          | succ k ih =>
            intro hk
            obtain ⟨h1, h2, h3⟩ := lasts_one V G F he (i := k) (by omega)
            unfold cntB
            rw [ih (by omega)]
            rcases h3 with h3 | h3 | h3
            · have n1 : ¬ lastIs had part (gotEnd had part prize) (leastQ had part (gotEnd had part prize)) k = true := fun h => by have := h1.2 ⟨hgl, h⟩; omega
              have n2 : ¬ nextQ had part (gotEnd had part prize) k = leastQ had part (gotEnd had part prize) := fun h => by have := h2.2 ⟨hgl, h, hs⟩; omega
              rw [h3, if_neg (by simp), if_neg n1, if_neg (by simpa using n2)]; omega
            · have n1 := (h1.1 h3).2
              have n2 : ¬ nextQ had part (gotEnd had part prize) k = leastQ had part (gotEnd had part prize) := fun h => by have := h2.2 ⟨hgl, h, hs⟩; omega
              rw [h3, if_pos (by simp), if_pos n1, if_neg (by simpa using n2)]; omega
            · have n1 : ¬ lastIs had part (gotEnd had part prize) (leastQ had part (gotEnd had part prize)) k = true := fun h => by have := h1.2 ⟨hgl, h⟩; omega
              have n2 := (h2.1 h3).2.1
              rw [h3, if_pos (by simp), if_neg n1, if_pos (by simpa using n2)]; omega
        exact this _ (Nat.le_refl _)
      rw [e1, e2]
      have hA : allN had part prize = hasN had part prize + nextN had part prize had.length := rfl
      obtain ⟨h, eh⟩ : ∃ h : Nat, hasN had part prize = h := ⟨(hasN had part prize).toNat, by omega⟩
      obtain ⟨a, ea⟩ : ∃ a : Nat, allN had part prize = a := ⟨(allN had part prize).toNat, by omega⟩
      rw [eh, ea, Int.toNat_natCast]
      exact ways_table h (by omega) a (by omega) (by omega)
    · have e1 : refHas had part sh had.length = 0 := cntB_none fun i hi => by
        obtain ⟨h1, _, _⟩ := lasts_one V G F he hi
        rw [decide_eq_false_iff_not]
        exact fun h => hgl (h1.1 h).1
      have e2 : refAll had part sh had.length = 0 := cntB_none fun i hi => by
        obtain ⟨h1, h2, h3⟩ := lasts_one V G F he hi
        rw [decide_eq_false_iff_not]
        rcases h3 with h3 | h3 | h3
        · omega
        · exact fun _ => hgl (h1.1 h3).1
        · exact fun _ => hgl (h2.1 h3).1
      have e3 : nextN had part prize had.length = 0 := by
        rw [hnn]
        refine cntB_none fun i hi => ?_
        rw [decide_eq_false_iff_not]
        intro h
        apply hgl
        obtain ⟨⟨j, hj, hgj, ej⟩, _⟩ := least_facts V G hs
        exact ((meet_iff V G F hj hi hgj).1 (by rw [h, ej])).1
      have hA : allN had part prize = hasN had part prize := by unfold allN; omega
      rw [e1, e2, hA]
      obtain ⟨h, eh⟩ : ∃ h : Nat, hasN had part prize = h := ⟨(hasN had part prize).toNat, by omega⟩
      rw [eh, Int.toNat_natCast, ways_all h (by omega)]
      rfl
  · have hp0 : prize = 0 := by omega
    subst hp0
    have hno : ∀ j, ¬ 0 < (gotEnd had part 0).getD j 0 := fun j => by
      have := zero12_at j
      rw [show gotEnd had part 0 = zero12 from rfl, this]
      omega
    have hh : hasN had part 0 = 0 := rfl
    have e1 : refHas had part sh had.length = 0 := cntB_none fun i hi => by
      obtain ⟨h1, _, _⟩ := lasts_one V G F he hi
      rw [decide_eq_false_iff_not]
      intro h
      have := (h1.1 h).2
      simp only [lastIs, Bool.and_eq_true, decide_eq_true_eq] at this
      exact hno i this.1
    rw [e1, hh]
    rfl
end

end Go.Proofs.Ytfchcikdcnloaaa
