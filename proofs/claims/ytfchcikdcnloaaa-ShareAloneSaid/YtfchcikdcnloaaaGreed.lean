/- Plain law: the shares that are given one after another are fair; how many logs went by the last quotient. -/
import Derived.Test.YtfchcikdcnloaaaDivlaw
import Derived.Test.YtfchcikdcnloaaaCount
namespace Go.Proofs.Ytfchcikdcnloaaa

section
variable {had got : List Int} {part prize : Int}

theorem nextOwner_great (V : Val had part prize) (got : List Int) : greatQ had part got = nextQ had part got (nextOwner had part got) := by
  have hl := nextOwner_lt part got V.l1
  have hlen : (nextsQ had part got had.length).length = had.length := by simp [nextsQ]
  unfold greatQ bestOf
  rw [hlen, show (bestAt gtB (nextsQ had part got had.length) had.length).toNat = nextOwner had part got from rfl, nexts_at had got part hl]
  rfl
theorem nextOwner_best (V : Val had part prize) (G : GotOk got) {k : Nat} (hk : k < had.length) : lessB (nextQ had part got (nextOwner had part got)) (nextQ had part got k) = false := by
  rw [← nextOwner_great V]
  exact (great_facts V G).2 k hk

theorem bump_at (l : List Int) (x i : Nat) (hx : x < l.length) : (bump l x).getD i 0 = if x = i then l.getD x 0 + 1 else l.getD i 0 := by
  unfold bump
  by_cases e : x = i
  · subst e; simp [List.getD, hx]
  · simp [List.getD, e]

theorem next_other {g g' : List Int} {i : Nat} (h : g'.getD i 0 = g.getD i 0) : nextQ had part g' i = nextQ had part g i := by unfold nextQ; rw [h]
theorem last_other {g g' : List Int} {i : Nat} (h : g'.getD i 0 = g.getD i 0) : lastQ had part g' i = lastQ had part g i := by unfold lastQ; rw [h]
theorem last_bump (G : GotOk got) {j : Nat} (hj : j < 12) : lastQ had part (bump got j) j = nextQ had part got j := by
  have h := bump_at got j j (by rw [G.1]; exact hj)
  have h0 := got_get G hj
  simp only [if_true] at h
  unfold lastQ nextQ
  rw [if_neg (by rw [h]; omega), h]
  congr 1
  omega

/-- A step further is a lesser quotient. -/
theorem quo_lt {a b c : Int} (ha : 0 < a) (hb : 0 < b) (hbc : b < c) : lessB (quo a c) (quo a b) = true := by
  rw [less_quo ha (by omega) ha hb, decide_eq_true_eq]
  exact Int.mul_lt_mul_of_pos_left hbc ha
theorem next_lt_last (V : Val had part prize) (G : GotOk got) {i : Nat} (hi : i < had.length) (hg : 0 < got.getD i 0) : lessB (nextQ had part got i) (lastQ had part got i) = true := by
  have h1 := last_pos V G hi hg
  rw [lastQ_eq hg, next_quo]
  exact quo_lt h1.1 h1.2 (by omega)

/-- No owner can get a log of another one. -/
def FairG (had : List Int) (part : Int) (got : List Int) : Prop := ∀ i k, i < had.length → k < had.length → 0 < got.getD i 0 → lessB (lastQ had part got i) (nextQ had part got k) = false

theorem fair_bump (V : Val had part prize) (G : GotOk got) (G' : GotOk (bump got (nextOwner had part got))) (F : FairG had part got) : FairG had part (bump got (nextOwner had part got)) := by
  have hj := nextOwner_lt part got V.l1
  have hv2 := V.l2
  obtain ⟨j, ej⟩ : ∃ j, nextOwner had part got = j := ⟨_, rfl⟩
  have hbest : ∀ k, k < had.length → lessB (nextQ had part got j) (nextQ had part got k) = false := fun k hk => by rw [← ej]; exact nextOwner_best V G hk
  rw [ej] at hj G' ⊢
  have hb := fun i => bump_at got j i (by rw [G.1]; omega)
  have hbj : 0 < (bump got j).getD j 0 := by have := got_get G (i := j) (by omega); rw [hb, if_pos rfl]; omega
  have hlb := last_bump (had := had) (part := part) G (j := j) (by omega)
  have hlow : lessB (nextQ had part (bump got j) j) (nextQ had part got j) = true := by
    rw [← hlb]
    exact next_lt_last V G' hj hbj
  intro i k hi hk hg
  by_cases hij : i = j
  · subst hij
    rw [hlb]
    by_cases hkj : k = i
    · subst hkj
      exact less_asym hlow
    · rw [next_other (g := got) (g' := bump got i) (by rw [hb, if_neg (Ne.symm hkj)])]
      exact hbest k hk
  · have e1 : (bump got j).getD i 0 = got.getD i 0 := by rw [hb, if_neg (Ne.symm hij)]
    rw [e1] at hg
    rw [last_other e1]
    by_cases hkj : k = j
    · subst hkj
      exact ge_trans (lastQ_pos V G hi hg) (nextQ_pos V G hk) (nextQ_pos V G' hk) (F i k hi hk hg) (less_asym hlow)
    · rw [next_other (g := got) (g' := bump got j) (by rw [hb, if_neg (Ne.symm hkj)])]
      exact F i k hi hk hg

theorem zero12_at (i : Nat) : zero12.getD i 0 = 0 := by
  match i with
  | 0 | 1 | 2 | 3 | 4 | 5 | 6 | 7 | 8 | 9 | 10 | 11 => rfl
  | _ + 12 => rfl

theorem ordN_ok {k : Nat} (hk : k ≤ 1000) : GotOk (gotOf (ordN had part k)) := gotOf_ok (by rw [ordN_len]; exact hk)

theorem greedy_fair (V : Val had part prize) : ∀ k, k ≤ 1000 → FairG had part (gotOf (ordN had part k)) := by
  intro k
  induction k with
  | zero =>
    intro _ i k _ _ hg
    have := zero12_at i
    rw [show gotOf (ordN had part 0) = zero12 from rfl, this] at hg
    omega
  | succ k ih =>
    intro hk
    have G' := ordN_ok (had := had) (part := part) (k := k + 1) hk
    rw [ordN, gotOf_snoc] at G' ⊢
    exact fair_bump V (ordN_ok (by omega)) G' (ih (by omega))

/-- How many of the first n are so. -/
def cntB (f : Nat → Bool) : Nat → Int
  | 0 => 0
  | k + 1 => cntB f k + if f k = true then 1 else 0
theorem cntB_bd (f : Nat → Bool) (n : Nat) : 0 ≤ cntB f n ∧ cntB f n ≤ n := by
  induction n with
  | zero => simp [cntB]
  | succ n ih => unfold cntB; split <;> omega
theorem cntB_congr {f g : Nat → Bool} {n : Nat} (h : ∀ i, i < n → f i = g i) : cntB f n = cntB g n := by
  induction n with
  | zero => rfl
  | succ n ih => unfold cntB; rw [ih (fun i hi => h i (by omega)), h n (by omega)]
theorem cntB_one {f g : Nat → Bool} {n j : Nat} (hj : j < n) (h1 : f j = true) (h2 : g j = false) (h : ∀ i, i < n → i ≠ j → f i = g i) : cntB f n = cntB g n + 1 := by
  induction n with
  | zero => omega
  | succ n ih =>
    unfold cntB
    by_cases e : j = n
    · subst e
      rw [cntB_congr (fun i hi => h i (by omega) (by omega)), h1, h2]
      simp
    · rw [ih (by omega) (fun i hi => h i (by omega)), h n (by omega) (Ne.symm e)]
      split <;> omega
theorem cntB_none {f : Nat → Bool} {n : Nat} (h : ∀ i, i < n → f i = false) : cntB f n = 0 := by
  induction n with
  | zero => rfl
  | succ n ih => unfold cntB; rw [ih (fun i hi => h i (by omega)), h n (by omega)]; simp

/-- The owner's last log went by that quotient. -/
def lastIs (had : List Int) (part : Int) (got : List Int) (q : Int × Int) (i : Nat) : Bool := decide (0 < got.getD i 0) && decide (lastQ had part got i = q)

theorem lastIs_true {q : Int × Int} {i : Nat} (h1 : 0 < got.getD i 0) (h2 : lastQ had part got i = q) : lastIs had part got q i = true := by
  unfold lastIs; rw [decide_eq_true h1, decide_eq_true h2]; rfl
theorem lastIs_none {q : Int × Int} {i : Nat} (h1 : got.getD i 0 = 0) : lastIs had part got q i = false := by
  unfold lastIs; rw [decide_eq_false (by omega)]; rfl
theorem lastIs_other {g' : List Int} {q : Int × Int} {i : Nat} (h : g'.getD i 0 = got.getD i 0) : lastIs had part g' q i = lastIs had part got q i := by
  unfold lastIs; rw [last_other h, h]
theorem lastIs_false {q : Int × Int} {i : Nat} (h : 0 < got.getD i 0 → lastQ had part got i ≠ q) : lastIs had part got q i = false := by
  unfold lastIs
  by_cases hg : 0 < got.getD i 0
  · rw [decide_eq_false (h hg)]; simp
  · rw [decide_eq_false hg]; rfl

theorem last_same (V : Val had part prize) (G : GotOk got) {i k : Nat} (hi : i < had.length) (hk : k < had.length) (hgi : 0 < got.getD i 0) (hgk : 0 < got.getD k 0) (h1 : lessB (lastQ had part got i) (lastQ had part got k) = false) (h2 : lessB (lastQ had part got k) (lastQ had part got i) = false) : lastQ had part got i = lastQ had part got k := by
  have a := last_pos V G hi hgi
  have b := last_pos V G hk hgk
  rw [lastQ_eq hgi, lastQ_eq hgk] at h1 h2 ⊢
  exact quo_same a.1 a.2 b.1 b.2 h1 h2

theorem runSt_law (V : Val had part prize) : ∀ k, k + 1 ≤ 1000 → ∃ q, runSt had part (ordN had part (k + 1)) = some (q, cntB (lastIs had part (gotOf (ordN had part (k + 1))) q) had.length) ∧
    (∃ j, j < had.length ∧ 0 < (gotOf (ordN had part (k + 1))).getD j 0 ∧ lastQ had part (gotOf (ordN had part (k + 1))) j = q) ∧
    ∀ i, i < had.length → 0 < (gotOf (ordN had part (k + 1))).getD i 0 → lessB (lastQ had part (gotOf (ordN had part (k + 1))) i) q = false := by
  intro k
  induction k with
  | zero =>
    intro _
    have hj := nextOwner_lt part zero12 V.l1
    have hv2 := V.l2
    have e : gotOf (ordN had part (0 + 1)) = bump zero12 (nextOwner had part zero12) := rfl
    have hr : runSt had part (ordN had part (0 + 1)) = some (nextQ had part zero12 (nextOwner had part zero12), 1) := rfl
    rw [e, hr]
    obtain ⟨j, ej⟩ : ∃ j, nextOwner had part zero12 = j := ⟨_, rfl⟩
    rw [ej] at hj ⊢
    have hb := fun i => bump_at zero12 j i (by rw [zero12_ok.1]; omega)
    have hlb := last_bump (had := had) (part := part) zero12_ok (j := j) (by omega)
    have hz := zero12_at
    have hbj : (bump zero12 j).getD j 0 = 1 := by rw [hb, if_pos rfl, hz]; rfl
    have hbo : ∀ i, i ≠ j → (bump zero12 j).getD i 0 = 0 := fun i hi => by rw [hb, if_neg (Ne.symm hi), hz]
    refine ⟨_, ?_, ⟨j, hj, by omega, hlb⟩, fun i hi hg => ?_⟩
    · have hc : cntB (lastIs had part (bump zero12 j) (nextQ had part zero12 j)) had.length = 1 := by
        rw [cntB_one (g := fun _ => false) hj (lastIs_true (by omega) hlb) rfl (fun i hi hij => lastIs_none (hbo i hij)), cntB_none (fun _ _ => rfl)]
        rfl
      rw [hc]
    · by_cases hij : i = j
      · subst hij; rw [hlb]; exact less_irr _
      · rw [hbo i hij] at hg; omega
  | succ k ih =>
    intro hk
    obtain ⟨q, hr, ⟨j0, hj0, hg0, e0⟩, hmin⟩ := ih (by omega)
    have F := greedy_fair V (k + 1) (by omega)
    have G := ordN_ok (had := had) (part := part) (k := k + 1) (by omega)
    have G' := ordN_ok (had := had) (part := part) (k := k + 1 + 1) (by omega)
    have e : gotOf (ordN had part (k + 1 + 1)) = bump (gotOf (ordN had part (k + 1))) (nextOwner had part (gotOf (ordN had part (k + 1)))) := by rw [ordN, gotOf_snoc]
    have hr' : runSt had part (ordN had part (k + 1 + 1)) = some (stepRun (runSt had part (ordN had part (k + 1))) (nextQ had part (gotOf (ordN had part (k + 1))) (nextOwner had part (gotOf (ordN had part (k + 1)))))) := by rw [ordN, runSt_snoc]
    rw [hr'] 
    rw [e] at G' ⊢
    rw [hr]
    generalize gotOf (ordN had part (k + 1)) = got at *
    have hj := nextOwner_lt part got V.l1
    have hv2 := V.l2
    obtain ⟨j, ej⟩ : ∃ j, nextOwner had part got = j := ⟨_, rfl⟩
    rw [ej] at hj G' ⊢
    have hb := fun i => bump_at got j i (by rw [G.1]; omega)
    have hlb := last_bump (had := had) (part := part) G (j := j) (by omega)
    have hbj : 0 < (bump got j).getD j 0 := by have := got_get G (i := j) (by omega); rw [hb, if_pos rfl]; omega
    have hbo : ∀ i, i ≠ j → (bump got j).getD i 0 = got.getD i 0 := fun i hi => by rw [hb, if_neg (Ne.symm hi)]
    have hqq : lessB q (nextQ had part got j) = false := by rw [← e0]; exact F j0 j hj0 hj hg0
    have pq : 0 < q.2 := by rw [← e0]; exact lastQ_pos V G hj0 hg0
    have pn := nextQ_pos V G hj
    have hnl : 0 < got.getD j 0 → lastQ had part got j ≠ nextQ had part got j := fun hg h => by
      have := next_lt_last V G hj hg
      rw [h, less_irr] at this
      cases this
    have hmin' : ∀ i, i < had.length → 0 < (bump got j).getD i 0 → lessB (lastQ had part (bump got j) i) (nextQ had part got j) = false := fun i hi hg => by
      by_cases hij : i = j
      · subst hij; rw [hlb]; exact less_irr _
      · rw [hbo i hij] at hg
        rw [last_other (hbo i hij)]
        exact F i j hi hj hg
    refine ⟨nextQ had part got j, ?_, ⟨j, hj, hbj, hlb⟩, hmin'⟩
    congr 1
    unfold stepRun
    simp only
    by_cases hq : q = nextQ had part got j
    · rw [if_pos hq]
      subst hq
      rw [cntB_one hj (lastIs_true hbj hlb) (lastIs_false hnl) (fun i hi hij => lastIs_other (hbo i hij))]
    · rw [if_neg hq]
      have hc : cntB (lastIs had part (bump got j) (nextQ had part got j)) had.length = 1 := by
        rw [cntB_one (g := fun _ => false) hj (lastIs_true hbj hlb) rfl (fun i hi hij => ?_), cntB_none (fun _ _ => rfl)]
        · rfl
        · rw [lastIs_other (hbo i hij)]
          refine lastIs_false fun hg h => hq ?_
          have h1 := hmin i hi hg
          rw [h] at h1
          have a := last_pos V G hj0 hg0
          have b := next_pos V G hj
          rw [lastQ_eq hg0] at e0
          rw [← e0, next_quo] at h1 hqq ⊢
          exact quo_same a.1 a.2 b.1 b.2 hqq h1
      rw [hc]

theorem ordN_some (V : Val had part prize) (hp : 0 < prize) : ∃ j, j < had.length ∧ 0 < (gotEnd had part prize).getD j 0 := by
  obtain ⟨k, hk⟩ : ∃ k, prize.toNat = k + 1 := ⟨prize.toNat - 1, by omega⟩
  obtain ⟨q, _, ⟨j, h1, h2, _⟩, _⟩ := runSt_law V k (by have := V.z2; omega)
  exact ⟨j, h1, by unfold gotEnd; rw [hk]; exact h2⟩

theorem end_fair (V : Val had part prize) : FairG had part (gotEnd had part prize) := greedy_fair V _ (by have := V.z2; omega)

/-- How many logs went by the last quotient. -/
theorem hasN_law (V : Val had part prize) (hp : 0 < prize) : hasN had part prize = cntB (lastIs had part (gotEnd had part prize) (leastQ had part (gotEnd had part prize))) had.length := by
  obtain ⟨k, hk⟩ : ∃ k, prize.toNat = k + 1 := ⟨prize.toNat - 1, by omega⟩
  obtain ⟨q, hr, ⟨j, h1, h2, h3⟩, h4⟩ := runSt_law V k (by have := V.z2; omega)
  have G := gotEnd_ok V
  have hs := ordN_some V hp
  unfold hasN
  rw [hk, hr]
  have e : gotOf (ordN had part (k + 1)) = gotEnd had part prize := by unfold gotEnd; rw [hk]
  rw [e] at h2 h3 h4 ⊢
  obtain ⟨⟨m, hm, hgm, em⟩, hl⟩ := least_facts V G hs
  have : leastQ had part (gotEnd had part prize) = q := by
    rw [em, ← h3]
    refine last_same V G hm h1 hgm h2 ?_ ?_
    · rw [h3]; exact h4 m hm hgm
    · rw [← em]; exact hl j h1 h2
  rw [this]
  rfl
end

end Go.Proofs.Ytfchcikdcnloaaa
