/- Plain law: all Had as many times as great. -/
import Derived.Test.YtfchcikdcnloaaaPlain3
namespace Go.Proofs.Ytfchcikdcnloaaa

def timesL (t : Int) (had : List Int) : List Int := had.map (t * ·)
theorem times_len (t : Int) (had : List Int) : (timesL t had).length = had.length := by simp [timesL]
theorem times_at (t : Int) (had : List Int) (i : Nat) : (timesL t had).getD i 0 = t * had.getD i 0 := by
  by_cases h : i < had.length
  · simp [timesL, List.getD, h]
  · simp [timesL, List.getD, List.getElem?_eq_none (Nat.le_of_not_lt h)]

theorem times_lt {t a b c d : Int} (ht : 0 < t) : (t * a * b < t * c * d) ↔ (a * b < c * d) := by
  rw [Int.mul_assoc, Int.mul_assoc]
  exact ⟨fun h => Int.lt_of_mul_lt_mul_left h (by omega), fun h => Int.mul_lt_mul_of_pos_left h ht⟩
theorem times_eq {t a b c d : Int} (ht : 0 < t) : (t * a * b = t * c * d) ↔ (a * b = c * d) := by
  rw [Int.mul_assoc, Int.mul_assoc]
  exact ⟨fun h => Int.eq_of_mul_eq_mul_left (by omega) h, fun h => by rw [h]⟩

section
variable {had : List Int} {part prize t : Int}
theorem times_best (ht : 0 < t) (sh : List Int) (k : Nat) : refBest (timesL t had) part sh k = refBest had part sh k := by
  induction k with
  | zero => rfl
  | succ k ih =>
    rw [refBest, refBest, ih]
    simp only [times_at, times_lt ht]
theorem times_ord (ht : 0 < t) (k : Nat) : ordR (timesL t had) part k = ordR had part k := by
  induction k with
  | zero => rfl
  | succ k ih => rw [ordR, ordR, ih, times_len, times_best ht]
theorem times_shares (ht : 0 < t) (V : Val had part prize) (V2 : Val (timesL t had) part prize) : sharesE (timesL t had) part prize = sharesE had part prize := by
  rw [own_cnt V, own_cnt V2, times_ord ht, times_len]
theorem times_order (ht : 0 < t) (V : Val had part prize) (V2 : Val (timesL t had) part prize) : orderE (timesL t had) part prize = orderE had part prize := by
  have hz := V.z2
  rw [orderE, orderE, if_pos (checkPool_ok.2 V), if_pos (checkPool_ok.2 V2), ord_law V _ (by omega), ord_law V2 _ (by omega), times_ord ht]
theorem times_cond (ht : 0 < t) (sh : List Int) (i k : Nat) : lastCond (timesL t had) part sh i k = lastCond had part sh i k := by
  simp only [lastCond, times_at, times_eq ht]
theorem times_row (ht : 0 < t) (sh l : List Int) (i k : Nat) : lastRow (timesL t had) part sh l i k = lastRow had part sh l i k := by
  induction k with
  | zero => rfl
  | succ k ih => rw [lastRow, lastRow, ih]; simp only [lastStep, times_cond ht]
theorem times_last (ht : 0 < t) (sh : List Int) (n i : Nat) : lastAll (timesL t had) part sh n i = lastAll had part sh n i := by
  induction i with
  | zero => rfl
  | succ i ih => rw [lastAll, lastAll, ih, times_row ht]
theorem count_ref (V : Val had part prize) : countE had part prize = refWays (refAll had part (sharesE had part prize) had.length - refHas had part (sharesE had part prize) had.length) (refHas had part (sharesE had part prize) had.length).toNat := by
  rw [countE, if_pos (checkPool_ok.2 V), count_law V (shares_facts V).2.2]
theorem times_count (ht : 0 < t) (V : Val had part prize) (V2 : Val (timesL t had) part prize) : countE (timesL t had) part prize = countE had part prize := by
  rw [count_ref V, count_ref V2, times_shares ht V V2]
  unfold refAll refHas
  rw [times_len, times_last ht]
theorem times_shared (V : Val had part prize) (V2 : Val (timesL t had) part prize) (sh : List Int) : sharedE (timesL t had) part prize sh = sharedE had part prize sh := by
  unfold sharedE
  rw [checkPool_ok.2 V, checkPool_ok.2 V2, times_len]
theorem times_fair (ht : 0 < t) (sh : List Int) : isFairR (timesL t had) part sh = isFairR had part sh := by
  unfold isFairR
  congr 1
  funext i
  congr 1
  funext k
  simp only [fairAt, times_at, times_lt ht]
theorem times_check (ht : 0 < t) (V : Val had part prize) (V2 : Val (timesL t had) part prize) (sh : List Int) : refSharesE (timesL t had) part prize sh = refSharesE had part prize sh := by
  unfold refSharesE
  rw [times_shared V V2, times_fair ht]
theorem times_div (ht : 0 < t) (V : Val had part prize) (V2 : Val (timesL t had) part prize) (sh : List Int) : divisorsE (timesL t had) part prize sh = divisorsE had part prize sh := by
  unfold divisorsE
  rw [checkShares_law, checkShares_law, times_check ht V V2]

def scaleQ (t : Int) (q : Int × Int) : Int × Int := quo (t * q.1) q.2
theorem scale_quo (ht : 0 < t) {a b : Int} (ha : 0 < a) (hb : 0 < b) : scaleQ t (quo a b) = quo (t * a) b := by
  obtain ⟨g, hg, e1, e2, p1, p2, _⟩ := quo_facts ha hb
  unfold scaleQ
  rw [quo_eq (Int.mul_pos ht p1) p2 (Int.mul_pos ht ha) hb]
  generalize quo a b = q at *
  subst e1 e2
  rw [Int.mul_assoc, Int.mul_assoc, Int.mul_assoc, Int.mul_comm g]
theorem scale_less (ht : 0 < t) {a b c d : Int} (ha : 0 < a) (hb : 0 < b) (hc : 0 < c) (hd : 0 < d) : lessB (quo (t * a) b) (quo (t * c) d) = lessB (quo a b) (quo c d) := by
  rw [less_quo (Int.mul_pos ht ha) hb (Int.mul_pos ht hc) hd, less_quo ha hb hc hd]
  congr 1
  exact propext (times_lt ht)

theorem times_next (t : Int) (had got : List Int) (part : Int) (i : Nat) : nextQ (timesL t had) part got i = quo (t * (100 * had.getD i 0)) (100 * got.getD i 0 + part) := by
  rw [next_quo, times_at, Int.mul_left_comm]
theorem times_lastQ {got : List Int} {i : Nat} (h : 0 < got.getD i 0) : lastQ (timesL t had) part got i = quo (t * (100 * had.getD i 0)) (100 * (got.getD i 0 - 1) + part) := by
  rw [lastQ_eq h, times_at, Int.mul_left_comm]

theorem times_great (ht : 0 < t) (V : Val had part prize) (V2 : Val (timesL t had) part prize) {got : List Int} (G : GotOk got) : greatQ (timesL t had) part got = scaleQ t (greatQ had part got) := by
  obtain ⟨⟨j, hj, ej⟩, hg⟩ := great_facts V G
  obtain ⟨⟨m, hm, em⟩, hg2⟩ := great_facts V2 G
  rw [times_len] at hm hg2
  have pj := next_pos V G hj
  have pm := next_pos V G hm
  rw [ej, next_quo, scale_quo ht pj.1 pj.2, ← times_next, em]
  refine next_same V2 G (by rw [times_len]; exact hm) (by rw [times_len]; exact hj) ?_ ?_
  · rw [← em]; exact hg2 j hj
  · rw [times_next, times_next, scale_less ht pj.1 pj.2 pm.1 pm.2, ← next_quo, ← next_quo, ← ej]
    exact hg m hm
theorem times_least (ht : 0 < t) (V : Val had part prize) (V2 : Val (timesL t had) part prize) {got : List Int} (G : GotOk got) (hs : ∃ i, i < had.length ∧ 0 < got.getD i 0) : leastQ (timesL t had) part got = scaleQ t (leastQ had part got) := by
  obtain ⟨⟨j, hj, hgj, ej⟩, hl⟩ := least_facts V G hs
  obtain ⟨⟨m, hm, hgm, em⟩, hl2⟩ := least_facts V2 G (by rw [times_len]; exact hs)
  rw [times_len] at hm hl2
  have pj := last_pos V G hj hgj
  have pm := last_pos V G hm hgm
  rw [ej, lastQ_eq hgj, scale_quo ht pj.1 pj.2, ← times_lastQ hgj, em]
  refine last_same V2 G (by rw [times_len]; exact hm) (by rw [times_len]; exact hj) hgm hgj ?_ ?_
  · rw [times_lastQ hgj, times_lastQ hgm, scale_less ht pm.1 pm.2 pj.1 pj.2, ← lastQ_eq hgj, ← lastQ_eq hgm, ← ej]
    exact hl m hm hgm
  · rw [← em]; exact hl2 j hj hgj

theorem times_bounds (ht : 0 < t) (V : Val had part prize) (V2 : Val (timesL t had) part prize) {sh : List Int} (h : divisorsE had part prize sh = 0) :
    divLo (timesL t had) part prize sh = scaleQ t (divLo had part prize sh) ∧ divHi (timesL t had) part prize sh = scaleQ t (divHi had part prize sh) ∧ Tiny (divLo had part prize sh) ∧ Tiny (divHi had part prize sh) := by
  have h2 := (times_div ht V V2 sh).trans h
  have hp : prize ≠ 0 := by
    intro hp
    unfold divisorsE at h
    by_cases hc : checkSharesE had part prize sh ≠ 0
    · rw [if_pos hc] at h; exact hc h
    · rw [if_neg hc, if_pos hp] at h; cases h
  have hr := div_same (had := had) (part := part) (sh := sh) hp
  rw [h] at hr
  have O := (refShares_ok'.1 hr.symm).1
  rw [divLo, divLo, divHi, divHi, if_pos h, if_pos h, if_pos h2, if_pos h2]
  exact ⟨times_great ht V V2 O.got, times_least ht V V2 O.got (sh_some O hp), great_tiny O, least_tiny O hp⟩
end

end Go.Proofs.Ytfchcikdcnloaaa
