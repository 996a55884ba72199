/- Plain law: spans, and how many ways there are. -/
import Derived.Test.YtfchcikdcnloaaaPlain2
import Derived.Test.YtfchcikdcnloaaaPlain3
namespace Go.Proofs.Ytfchcikdcnloaaa
open Go Go.RowKit Go.Proofs

section
variable {had : List Int} {part prize : Int}

/-- What the reference says of an owner: 1, if it can lose its last log; 2, if it can get one. -/
def mark (had : List Int) (part prize : Int) (i : Nat) : Int := (lastAll had part (sharesE had part prize) had.length had.length).getD i 0

theorem span_mark (V : Val had part prize) {i : Nat} (hi : i < had.length) :
    spanLo had part prize i = (if mark had part prize i = 1 then (sharesE had part prize).getD i 0 - 1 else (sharesE had part prize).getD i 0) ∧
    spanHi had part prize i = (if mark had part prize i = 2 then (sharesE had part prize).getD i 0 + 1 else (sharesE had part prize).getD i 0) := by
  have h := span_law V (shares_facts V).2.2 hi
  unfold refSpan at h
  unfold mark
  by_cases h1 : (lastAll had part (sharesE had part prize) had.length had.length).getD i 0 = 1
  · rw [if_pos h1] at h
    injection h with ha hb
    rw [ha, hb, h1]
    simp
  · by_cases h2 : (lastAll had part (sharesE had part prize) had.length had.length).getD i 0 = 2
    · rw [if_neg h1, if_pos h2] at h
      injection h with ha hb
      rw [ha, hb, h2]
      simp
    · rw [if_neg h1, if_neg h2] at h
      injection h with ha hb
      rw [ha, hb, if_neg h1, if_neg h2]
      exact ⟨rfl, rfl⟩

theorem mark_three (V : Val had part prize) {i : Nat} (hi : i < had.length) : mark had part prize i = 0 ∨ mark had part prize i = 1 ∨ mark had part prize i = 2 :=
  (lasts_one V (gotEnd_ok V) (end_fair V) (shares_facts V).2.2 hi).2.2

/-- The owner i loses its last log to k by right: what is said of both. -/
theorem mark_cond (V : Val had part prize) {i k : Nat} (hi : i < had.length) (hk : k < had.length) (hc : lastCond had part (sharesE had part prize) i k = true) : mark had part prize i = 1 ∧ mark had part prize k = 2 := by
  have G := gotEnd_ok V
  have F := end_fair V
  have he := (shares_facts V).2.2
  obtain ⟨h1, h2⟩ := (cond_iff V G he hi hk).1 hc
  obtain ⟨a, b, c⟩ := (meet_iff V G F hi hk h1).1 h2
  exact ⟨(lasts_one V G F he hi).1.2 ⟨a, lastIs_true h1 b⟩, (lasts_one V G F he hk).2.1.2 ⟨a, c, i, hi, h1⟩⟩
theorem mark_one (_V : Val had part prize) {i : Nat} (hi : i < had.length) (h : mark had part prize i = 1) : ∃ k, k < had.length ∧ lastCond had part (sharesE had part prize) i k = true := by
  obtain ⟨_, hm⟩ := marks_all had (sharesE had part prize) part had.length had.length (Nat.le_refl _)
  unfold mark at h
  rcases hm i hi with ⟨_, k, hk, hp⟩ | ⟨h1, _⟩ | ⟨h1, _⟩
  · exact ⟨k, hk, hp.2.2⟩
  · omega
  · omega
theorem mark_two (_V : Val had part prize) {i : Nat} (hi : i < had.length) (h : mark had part prize i = 2) : ∃ k, k < had.length ∧ lastCond had part (sharesE had part prize) k i = true := by
  obtain ⟨_, hm⟩ := marks_all had (sharesE had part prize) part had.length had.length (Nat.le_refl _)
  unfold mark at h
  rcases hm i hi with ⟨h1, _⟩ | ⟨_, k, hk, hp⟩ | ⟨h1, _⟩
  · omega
  · exact ⟨k, hk, hp.2.2⟩
  · omega

theorem cond_parts {sh : List Int} {i k : Nat} : lastCond had part sh i k = true ↔ i ≠ k ∧ 0 < sh.getD i 0 ∧ had.getD i 0 * (100 * sh.getD k 0 + part) = had.getD k 0 * (100 * (sh.getD i 0 - 1) + part) := by
  simp only [lastCond, Bool.and_eq_true, decide_eq_true_eq, and_assoc]

theorem nonneg_at {sh : List Int} (O : ShOk had part prize sh) (i : Nat) : 0 ≤ sh.getD i 0 := by
  by_cases h : i < sh.length
  · obtain ⟨x, hx⟩ := get_at h
    have := O.rng x (List.mem_of_getElem? hx)
    simp only [List.getD, hx, Option.getD_some]
    exact this.1
  · simp [List.getD, List.getElem?_eq_none (Nat.le_of_not_lt h)]
theorem sum_at {sh : List Int} (O : ShOk had part prize sh) : sumN (fun i => sh.getD i 0) had.length = prize := by
  have := sum_sumN sh
  rw [O.len, O.sum] at this
  exact this.symm

/-- Fair shares are within all spans. -/
theorem span_within {g : List Int} (V : Val had part prize) (O : ShOk had part prize g) (F : FairP had part g) {i : Nat} (hi : i < had.length) : spanLo had part prize i ≤ g.getD i 0 ∧ g.getD i 0 ≤ spanHi had part prize i := by
  obtain ⟨e1, e2⟩ := span_mark V hi
  have Fs := own_fairP V
  have hsum := (own_sumN V).trans (sum_at O).symm
  have ai := had_at V hi
  rw [e1, e2]
  constructor
  · refine Int.not_lt.1 fun h => ?_
    have hlt : g.getD i 0 < (sharesE had part prize).getD i 0 := by split at h <;> omega
    obtain ⟨k, hk, h2⟩ := sumN_other (j := i) hsum.symm hi hlt
    have ak := had_at V hk
    have n1 := nonneg_at O i
    have n2 := own_nonneg V k
    have f1 := Fs i k hi hk (by omega)
    have f2 := F k i hk hi (by omega)
    have c1 : had.getD i 0 * (100 * (sharesE had part prize).getD k 0 + part) ≤ had.getD i 0 * (100 * (g.getD k 0 - 1) + part) := Int.mul_le_mul_of_nonneg_left (by omega) (by omega)
    have c2 : had.getD k 0 * (100 * g.getD i 0 + part) ≤ had.getD k 0 * (100 * ((sharesE had part prize).getD i 0 - 1) + part) := Int.mul_le_mul_of_nonneg_left (by omega) (by omega)
    have e : had.getD i 0 * (100 * (sharesE had part prize).getD k 0 + part) = had.getD k 0 * (100 * ((sharesE had part prize).getD i 0 - 1) + part) := by omega
    have e' : had.getD k 0 * (100 * g.getD i 0 + part) = had.getD k 0 * (100 * ((sharesE had part prize).getD i 0 - 1) + part) := by omega
    have e'' := Int.eq_of_mul_eq_mul_left (by omega) e'
    have hik : i ≠ k := by rintro rfl; omega
    have := (mark_cond V hi hk (cond_parts.2 ⟨hik, by omega, e⟩)).1
    rw [if_pos this] at h
    omega
  · refine Int.not_lt.1 fun h => ?_
    have hlt : (sharesE had part prize).getD i 0 < g.getD i 0 := by split at h <;> omega
    obtain ⟨k, hk, h2⟩ := sumN_other (j := i) hsum hi hlt
    have ak := had_at V hk
    have n1 := nonneg_at O k
    have n2 := own_nonneg V i
    have f1 := F i k hi hk (by omega)
    have f2 := Fs k i hk hi (by omega)
    have c1 : had.getD k 0 * (100 * (sharesE had part prize).getD i 0 + part) ≤ had.getD k 0 * (100 * (g.getD i 0 - 1) + part) := Int.mul_le_mul_of_nonneg_left (by omega) (by omega)
    have c2 : had.getD i 0 * (100 * g.getD k 0 + part) ≤ had.getD i 0 * (100 * ((sharesE had part prize).getD k 0 - 1) + part) := Int.mul_le_mul_of_nonneg_left (by omega) (by omega)
    have e : had.getD k 0 * (100 * (sharesE had part prize).getD i 0 + part) = had.getD i 0 * (100 * ((sharesE had part prize).getD k 0 - 1) + part) := by omega
    have e' : had.getD k 0 * (100 * (sharesE had part prize).getD i 0 + part) = had.getD k 0 * (100 * (g.getD i 0 - 1) + part) := by omega
    have e'' := Int.eq_of_mul_eq_mul_left (by omega) e'
    have hik : k ≠ i := by rintro rfl; omega
    have := (mark_cond V hk hi (cond_parts.2 ⟨hik, by omega, e⟩)).2
    rw [if_pos this] at h
    omega

/-! ### The sums over all owners -/
def spanW (had : List Int) (part prize : Int) (k : Nat) : Int := sumN (fun i => spanHi had part prize i - spanLo had part prize i) k
def spanL (had : List Int) (part prize : Int) (k : Nat) : Int := sumN (fun i => spanLo had part prize i) k

theorem spanW_all (V : Val had part prize) : ∀ k, k ≤ had.length → spanW had part prize k = refAll had part (sharesE had part prize) k ∧ spanL had part prize k = sumN (fun i => (sharesE had part prize).getD i 0) k - refHas had part (sharesE had part prize) k := by
  intro k
  induction k with
  | zero => intro _; exact ⟨rfl, rfl⟩
  | succ k ih =>
    intro hk
    obtain ⟨h1, h2⟩ := ih (by omega)
    obtain ⟨e1, e2⟩ := span_mark V (i := k) (by omega)
    have s1 : refAll had part (sharesE had part prize) (k + 1) = refAll had part (sharesE had part prize) k + (if 0 < mark had part prize k then 1 else 0) := by unfold refAll mark; simp only [cntB, decide_eq_true_eq]
    have s2 : refHas had part (sharesE had part prize) (k + 1) = refHas had part (sharesE had part prize) k + (if mark had part prize k = 1 then 1 else 0) := by unfold refHas mark; simp only [cntB, decide_eq_true_eq]
    have s3 : spanW had part prize (k + 1) = spanW had part prize k + (spanHi had part prize k - spanLo had part prize k) := rfl
    have s4 : spanL had part prize (k + 1) = spanL had part prize k + spanLo had part prize k := rfl
    have s5 : sumN (fun i => (sharesE had part prize).getD i 0) (k + 1) = sumN (fun i => (sharesE had part prize).getD i 0) k + (sharesE had part prize).getD k 0 := rfl
    rw [s1, s2, s3, s4, s5, h1, h2, e1, e2]
    generalize (sharesE had part prize).getD k 0 = x
    rcases mark_three V (i := k) (by omega) with h | h | h <;> rw [h] <;> simp <;> omega

theorem ways_pos : ∀ h : Nat, h < 13 → ∀ a : Nat, a < 13 → h ≤ a → 1 ≤ refWays ((a : Int) - h) h := by decide +kernel
theorem ways_le : ∀ h : Nat, h < 13 → ∀ a : Nat, a < 13 → h ≤ a → refWays ((a : Int) - h) h ≤ 1000 := by decide +kernel
theorem ways_two : ∀ h : Nat, h < 13 → ∀ a : Nat, a < 13 → 1 ≤ h → h < a → 2 ≤ refWays ((a : Int) - h) h := by decide +kernel

theorem refAll_succ (k : Nat) : refAll had part (sharesE had part prize) (k + 1) = refAll had part (sharesE had part prize) k + (if 0 < mark had part prize k then 1 else 0) := by unfold refAll mark; simp only [cntB, decide_eq_true_eq]
theorem refHas_succ (k : Nat) : refHas had part (sharesE had part prize) (k + 1) = refHas had part (sharesE had part prize) k + (if mark had part prize k = 1 then 1 else 0) := by unfold refHas mark; simp only [cntB, decide_eq_true_eq]
theorem has_le_all (k : Nat) : 0 ≤ refHas had part (sharesE had part prize) k ∧ refHas had part (sharesE had part prize) k ≤ refAll had part (sharesE had part prize) k := by
  induction k with
  | zero => exact ⟨Int.le_refl _, Int.le_refl _⟩
  | succ k ih => rw [refAll_succ, refHas_succ]; split <;> split <;> omega
theorem has_one {i : Nat} (hm : mark had part prize i = 1) (k : Nat) : i < k → 1 ≤ refHas had part (sharesE had part prize) k := by
  induction k with
  | zero => intro h; omega
  | succ k ih =>
    intro h
    have h0 := has_le_all (had := had) (part := part) (prize := prize) k
    rw [refHas_succ]
    by_cases e : i = k
    · subst e; rw [if_pos hm]; omega
    · have := ih (by omega); split <;> omega
theorem has_two {i : Nat} (hm : mark had part prize i = 2) (k : Nat) : i < k → refHas had part (sharesE had part prize) k + 1 ≤ refAll had part (sharesE had part prize) k := by
  induction k with
  | zero => intro h; omega
  | succ k ih =>
    intro h
    have h0 := has_le_all (had := had) (part := part) (prize := prize) k
    rw [refHas_succ, refAll_succ]
    by_cases e : i = k
    · subst e; rw [hm, if_neg (by omega), if_pos (by omega)]; omega
    · have := ih (by omega); split <;> split <;> omega

theorem count_ways (V : Val had part prize) : countE had part prize = refWays (refAll had part (sharesE had part prize) had.length - refHas had part (sharesE had part prize) had.length) (refHas had part (sharesE had part prize) had.length).toNat := by
  rw [countE, if_pos (checkPool_ok.2 V), count_law V (shares_facts V).2.2]
/-- What is said of the ways. -/
theorem ways_facts (V : Val had part prize) : 0 ≤ refHas had part (sharesE had part prize) had.length ∧ refHas had part (sharesE had part prize) had.length ≤ refAll had part (sharesE had part prize) had.length ∧ refAll had part (sharesE had part prize) had.length ≤ 12 ∧
    1 ≤ countE had part prize ∧ countE had part prize ≤ 1000 ∧ refAll had part (sharesE had part prize) had.length ≠ 1 ∧ (countE had part prize = 1 ↔ refAll had part (sharesE had part prize) had.length = 0) ∧
    countE had part prize = refWays (refAll had part (sharesE had part prize) had.length - refHas had part (sharesE had part prize) had.length) (refHas had part (sharesE had part prize) had.length).toNat := by
  have hv := V.l2
  have b2 : refAll had part (sharesE had part prize) had.length ≤ had.length := (cntB_bd _ _).2
  have some' : 1 ≤ refAll had part (sharesE had part prize) had.length → ∃ i, i < had.length ∧ mark had part prize i ≠ 0 := fun h => by
    refine Classical.byContradiction fun hn => ?_
    have : refAll had part (sharesE had part prize) had.length = 0 := cntB_none fun i hi => by
      have : mark had part prize i = 0 := Classical.byContradiction fun hm => hn ⟨i, hi, hm⟩
      unfold mark at this
      rw [this]; rfl
    omega
  have both : 1 ≤ refAll had part (sharesE had part prize) had.length → 1 ≤ refHas had part (sharesE had part prize) had.length ∧ refHas had part (sharesE had part prize) had.length + 1 ≤ refAll had part (sharesE had part prize) had.length := fun h => by
    obtain ⟨i, hi, hm⟩ := some' h
    have hh : (∃ j, j < had.length ∧ mark had part prize j = 1) ∧ (∃ j, j < had.length ∧ mark had part prize j = 2) := by
      rcases mark_three V hi with h1 | h1 | h1
      · exact absurd h1 hm
      · obtain ⟨k, hk, hc⟩ := mark_one V hi h1
        exact ⟨⟨i, hi, h1⟩, k, hk, (mark_cond V hi hk hc).2⟩
      · obtain ⟨k, hk, hc⟩ := mark_two V hi h1
        exact ⟨⟨k, hk, (mark_cond V hk hi hc).1⟩, i, hi, h1⟩
    obtain ⟨⟨j, hj, h1⟩, k, hk, h2⟩ := hh
    exact ⟨has_one h1 _ hj, has_two h2 _ hk⟩
  obtain ⟨h0, hm⟩ := has_le_all (had := had) (part := part) (prize := prize) had.length
  have hc := count_ways V
  generalize refHas had part (sharesE had part prize) had.length = h at *
  generalize refAll had part (sharesE had part prize) had.length = a at *
  obtain ⟨h', rfl⟩ : ∃ x : Nat, h = x := ⟨h.toNat, by omega⟩
  obtain ⟨a', rfl⟩ : ∃ x : Nat, a = x := ⟨a.toNat, by omega⟩
  rw [Int.toNat_natCast] at hc ⊢
  have w1 := ways_pos h' (by omega) a' (by omega) (by omega)
  have w2 := ways_le h' (by omega) a' (by omega) (by omega)
  rw [hc]
  refine ⟨by omega, hm, by omega, w1, w2, fun e => by have := both (by omega); omega, ⟨fun e => ?_, fun e => ?_⟩, rfl⟩
  · refine Classical.byContradiction fun hn => ?_
    have := both (by omega)
    have := ways_two h' (by omega) a' (by omega) (by omega) (by omega)
    omega
  · obtain rfl : h' = 0 := by omega
    rfl

/-! ### A log goes from one owner to another one -/
/-- If one fraction lies between all next and all last quotients, the shares are fair. -/
theorem fair_at {sh : List Int} {A B : Int} (V : Val had part prize) (hs : ∀ i, i < had.length → 0 ≤ sh.getD i 0) (_hA : 0 < A) (hB : 0 < B) (h1 : ∀ a, a < had.length → 0 < sh.getD a 0 → A * (100 * (sh.getD a 0 - 1) + part) ≤ had.getD a 0 * B) (h2 : ∀ b, b < had.length → had.getD b 0 * B ≤ A * (100 * sh.getD b 0 + part)) : FairP had part sh := by
  have hp := V.p1
  intro i k hi hk hg
  have n := hs k hk
  exact frac_le (a := had.getD k 0) (b := 100 * sh.getD k 0 + part) (c := A) (d := B) (e := had.getD i 0) (f := 100 * (sh.getD i 0 - 1) + part) (by omega) hB (by omega) (h2 k hk) (h1 i hi hg)

/-- The shares with one log of k for i. -/
def moved (sh : List Int) (i k : Nat) : List Int := (sh.set i (sh.getD i 0 + 1)).set k (sh.getD k 0 - 1)
theorem moved_at {sh : List Int} {i k : Nat} (_hik : i ≠ k) (hi : i < sh.length) (hk : k < sh.length) (j : Nat) : (moved sh i k).getD j 0 = if k = j then sh.getD k 0 - 1 else if i = j then sh.getD i 0 + 1 else sh.getD j 0 := by
  unfold moved
  rw [set_at _ _ _ _ (by simpa using hk), set_at _ _ _ _ hi]

theorem mem_le_sum {l : List Int} (h : ∀ x ∈ l, 0 ≤ x) : ∀ x ∈ l, x ≤ l.sum := by
  induction l with
  | nil => intro x hx; cases hx
  | cons a l ih =>
    intro x hx
    have h1 := ih (fun x hx => h x (by simp [hx]))
    have h2 : 0 ≤ l.sum := by
      cases l with
      | nil => simp
      | cons b m => have a1 := h1 b (by simp); have a2 := h b (by simp); omega
    have h3 := h a (by simp)
    simp only [List.mem_cons] at hx
    simp only [List.sum_cons]
    rcases hx with rfl | hx
    · omega
    · have := h1 x hx; omega

theorem moved_ok (V : Val had part prize) {i k : Nat} (hi : i < had.length) (hk : k < had.length) (hc : lastCond had part (sharesE had part prize) k i = true) : refSharesE had part prize (moved (sharesE had part prize) i k) = 0 := by
  obtain ⟨hki, hk0, he⟩ := cond_parts.1 hc
  have O := own_ok V
  have F := own_fairP V
  have hlen := O.len
  have hp := V.p1
  have hnn := own_nonneg V
  have hat := moved_at (sh := sharesE had part prize) (Ne.symm hki) (by omega) (by omega)
  have ai := had_at V hi
  have ak := had_at V hk
  have ni := hnn i
  obtain ⟨xi, hxi⟩ := get_at (l := sharesE had part prize) (k := i) (by omega)
  obtain ⟨xk, hxk⟩ := get_at (l := sharesE had part prize) (k := k) (by omega)
  have gi : (sharesE had part prize).getD i 0 = xi := by simp only [List.getD, hxi, Option.getD_some]
  have gk : (sharesE had part prize).getD k 0 = xk := by simp only [List.getD, hxk, Option.getD_some]
  have hsum : (moved (sharesE had part prize) i k).sum = prize := by
    unfold moved
    rw [sum_set _ (y := xk) (by rw [List.getElem?_set_ne (Ne.symm hki)]; exact hxk), sum_set _ hxi, O.sum, gi, gk]
    omega
  have hml : (moved (sharesE had part prize) i k).length = had.length := by simp [moved, hlen]
  have hnn2 : ∀ x ∈ moved (sharesE had part prize) i k, 0 ≤ x := fun x hx => by
    obtain ⟨j, hj, rfl⟩ := List.mem_iff_getElem.mp hx
    have e : (moved (sharesE had part prize) i k)[j] = (moved (sharesE had part prize) i k).getD j 0 := by simp only [List.getD, List.getElem?_eq_getElem hj, Option.getD_some]
    rw [e, hat]
    have nj := hnn j
    split
    · omega
    · split
      · omega
      · exact nj
  refine refShares_ok'.2 ⟨⟨V, hml, fun x hx => ⟨hnn2 x hx, by have := mem_le_sum hnn2 x hx; omega⟩, hsum⟩, ?_⟩
  have n1 : ∀ j, j < had.length → 0 ≤ (moved (sharesE had part prize) i k).getD j 0 := fun j hj => by
    rw [hat]
    have nj := hnn j
    split
    · omega
    · split <;> omega
  -- the fraction that is the next one of i
  refine fair_at (A := had.getD i 0) (B := 100 * (sharesE had part prize).getD i 0 + part) V n1 (by omega) (by omega) (fun a ha hg => ?_) (fun b hb => ?_)
  · rw [hat] at hg ⊢
    by_cases e1 : k = a
    · subst e1
      rw [if_pos rfl] at hg ⊢
      rw [he]
      exact Int.mul_le_mul_of_nonneg_left (by omega) (by omega)
    · rw [if_neg e1] at hg ⊢
      by_cases e2 : i = a
      · subst e2
        rw [if_pos rfl] at hg ⊢
        rw [show (sharesE had part prize).getD i 0 + 1 - 1 = (sharesE had part prize).getD i 0 by omega]
        exact Int.le_refl _
      · rw [if_neg e2] at hg ⊢
        exact F a i ha hi hg
  · rw [hat]
    have fb := F k b hk hb hk0
    have hle : had.getD b 0 * (100 * (sharesE had part prize).getD i 0 + part) ≤ had.getD i 0 * (100 * (sharesE had part prize).getD b 0 + part) :=
      frac_le (a := had.getD b 0) (b := 100 * (sharesE had part prize).getD b 0 + part) (c := had.getD k 0) (d := 100 * ((sharesE had part prize).getD k 0 - 1) + part) (e := had.getD i 0) (f := 100 * (sharesE had part prize).getD i 0 + part)
        (by have := hnn b; omega) (by omega) (by omega) fb (by rw [he]; exact Int.le_refl _)
    by_cases e1 : k = b
    · subst e1
      rw [if_pos rfl, he]
      exact Int.le_refl _
    · rw [if_neg e1]
      by_cases e2 : i = b
      · subst e2
        rw [if_pos rfl]
        exact Int.mul_le_mul_of_nonneg_left (by omega) (by omega)
      · rw [if_neg e2]; exact hle
end
end Go.Proofs.Ytfchcikdcnloaaa
