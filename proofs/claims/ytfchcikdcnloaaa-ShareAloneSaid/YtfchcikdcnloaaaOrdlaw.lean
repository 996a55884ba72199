/- The plain law of the order: the table gives the logs as the reference does. -/
import Derived.Test.YtfchcikdcnloaaaRefe
namespace Go.Proofs.Ytfchcikdcnloaaa
open Go Go.RowKit Go.Proofs

section
variable {had got sh : List Int} {part prize : Int}
theorem next_next (V : Val had part prize) (G : GotOk got) {i k : Nat} (hi : i < had.length) (hk : k < had.length) :
    lessB (nextQ had part got i) (nextQ had part got k) = decide (had.getD i 0 * (100 * got.getD k 0 + part) < had.getD k 0 * (100 * got.getD i 0 + part)) := by
  have h1 := next_pos V G hi
  have h2 := next_pos V G hk
  show lessB (quo _ _) (quo _ _) = _
  rw [less_quo h1.1 h1.2 h2.1 h2.2]
  congr 1
  rw [Int.mul_assoc, Int.mul_assoc]
  exact propext (by omega)

theorem best_ref (V : Val had part prize) (G : GotOk got) (he : ∀ i, i < had.length → got.getD i 0 = sh.getD i 0) : ∀ k, k + 1 ≤ had.length → bestAt gtB (nextsQ had part got had.length) (k + 1) = (refBest had part sh k : Nat) := by
  intro k
  induction k with
  | zero =>
    intro hk
    have := bestAt_neg (better := gtB) (nexts_at had got part (i := 0) (n := had.length) (by omega)) (by simp [bestAt])
    simpa [refBest] using this
  | succ k ih =>
    intro hk
    have hb := refBest_le had part sh k
    have h1 := ih (by omega)
    have hx := nexts_at had got part (i := k + 1) (n := had.length) (by omega)
    have hy := nexts_at had got part (i := refBest had part sh k) (n := had.length) (by omega)
    have hc : gtB (nextQ had part got (k + 1)) (nextQ had part got (refBest had part sh k)) = decide (had.getD (refBest had part sh k) 0 * (100 * sh.getD (k + 1) 0 + part) < had.getD (k + 1) 0 * (100 * sh.getD (refBest had part sh k) 0 + part)) := by
      rw [gtB, next_next V G (by omega) (by omega), he (k + 1) (by omega), he (refBest had part sh k) (by omega)]
    by_cases hlt : had.getD (refBest had part sh k) 0 * (100 * sh.getD (k + 1) 0 + part) < had.getD (k + 1) 0 * (100 * sh.getD (refBest had part sh k) 0 + part)
    · rw [bestAt_yes hx h1 hy (by rw [hc]; simpa using hlt), refBest, if_pos hlt]
    · rw [bestAt_no hx h1 hy (by rw [hc]; simpa using hlt), refBest, if_neg hlt]

theorem nextOwner_ref (V : Val had part prize) (G : GotOk got) (he : ∀ i, i < had.length → got.getD i 0 = sh.getD i 0) : nextOwner had part got = refBest had part sh (had.length - 1) := by
  have hl := V.l1
  have := best_ref V G he (had.length - 1) (by omega)
  unfold nextOwner
  rw [show had.length - 1 + 1 = had.length by omega] at this
  rw [this, Int.toNat_natCast]
end

theorem bump_getD (l : List Int) (x i : Nat) (hx : x < l.length) : (bump l x).getD i 0 = if x = i then l.getD x 0 + 1 else l.getD i 0 := by
  unfold bump
  by_cases e : x = i
  · subst e; simp [List.getD, hx]
  · simp [List.getD, e]

theorem from_end {α : Type} {P : List α → Prop} (h0 : P []) (hs : ∀ l x, P l → P (l ++ [x])) (l : List α) : P l := by
  rw [← List.reverse_reverse l]
  induction l.reverse with
  | nil => exact h0
  | cons a m ih => rw [List.reverse_cons]; exact hs _ _ ih

/-- What the table has given and what the reference has counted. -/
theorem got_cnt (n : Nat) (hn : n ≤ 12) : ∀ l : List Nat, (∀ x ∈ l, x < n) → ∀ i, i < n → (gotOf l).getD i 0 = (cntOf n l).getD i 0 := by
  intro l
  refine from_end (P := fun l => (∀ x ∈ l, x < n) → ∀ i, i < n → (gotOf l).getD i 0 = (cntOf n l).getD i 0) ?_ ?_ l
  · intro _ i hi
    have h1 : i < 12 := by omega
    have e1 : (gotOf []).getD i 0 = 0 := by
      match i, h1 with
      | 0, _ | 1, _ | 2, _ | 3, _ | 4, _ | 5, _ | 6, _ | 7, _ | 8, _ | 9, _ | 10, _ | 11, _ => rfl
    rw [e1]
    simp [cntOf, List.getD, hi]
  · intro l x ih h i hi
    have hx : x < n := h x (by simp)
    have ih' := ih (fun y hy => h y (by simp [hy]))
    rw [gotOf_snoc, cntOf_snoc, bump_getD _ _ _ (by rw [gotOf_len]; omega), bump_getD _ _ _ (by rw [cntOf_len]; exact hx), ih' x hx, ih' i hi]

theorem ordR_lt {had : List Int} (part : Int) (h : 1 ≤ had.length) (k : Nat) : ∀ x ∈ ordR had part k, x < had.length := by
  induction k with
  | zero => intro x hx; cases hx
  | succ k ih =>
    intro x hx
    simp only [ordR, List.mem_append, List.mem_singleton] at hx
    rcases hx with hx | rfl
    · exact ih x hx
    · have := refBest_le had part (cntOf had.length (ordR had part k)) (had.length - 1)
      omega

theorem ord_law {had : List Int} {part prize : Int} (V : Val had part prize) : ∀ k, k ≤ 1000 → ordN had part k = ordR had part k := by
  intro k
  induction k with
  | zero => intro _; rfl
  | succ k ih =>
    intro hk
    have e := ih (by omega)
    rw [ordN, ordR, e]
    have G : GotOk (gotOf (ordR had part k)) := gotOf_ok (by rw [ordR_len]; omega)
    rw [nextOwner_ref V G (got_cnt had.length V.l2 _ (ordR_lt part V.l1 k))]

end Go.Proofs.Ytfchcikdcnloaaa
