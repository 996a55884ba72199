/- The plain law of divisors: the greatest and the least quotient are what the reference folds up. -/
import Derived.Test.YtfchcikdcnloaaaFairlaw
namespace Go.Proofs.Ytfchcikdcnloaaa

theorem quo_same {a b c d : Int} (ha : 0 < a) (hb : 0 < b) (hc : 0 < c) (hd : 0 < d) (h1 : lessB (quo a b) (quo c d) = false) (h2 : lessB (quo c d) (quo a b) = false) : quo a b = quo c d := by
  rw [less_quo ha hb hc hd, decide_eq_false_iff_not] at h1
  rw [less_quo hc hd ha hb, decide_eq_false_iff_not] at h2
  exact (quo_eq ha hb hc hd).2 (by omega)

/-- What the reference has found of the first k owners. -/
def refLo (had : List Int) (part : Int) (sh : List Int) : Nat → Int × Int
  | 0 => (0, 1)
  | k + 1 => if lessB (refLo had part sh k) (quo (100 * had.getD k 0) (100 * sh.getD k 0 + part)) = true then quo (100 * had.getD k 0) (100 * sh.getD k 0 + part) else refLo had part sh k
def refHi (had : List Int) (part : Int) (sh : List Int) : Nat → Int × Int
  | 0 => (1073741824, 1)
  | k + 1 => if 0 < sh.getD k 0 then (if lessB (quo (100 * had.getD k 0) (100 * (sh.getD k 0 - 1) + part)) (refHi had part sh k) = true then quo (100 * had.getD k 0) (100 * (sh.getD k 0 - 1) + part) else refHi had part sh k) else refHi had part sh k

section
variable {had got sh : List Int} {part prize : Int}
theorem next_quo (had got : List Int) (part : Int) (i : Nat) : nextQ had part got i = quo (100 * had.getD i 0) (100 * got.getD i 0 + part) := rfl

theorem refLo_facts (V : Val had part prize) (G : GotOk got) (he : ∀ i, i < had.length → got.getD i 0 = sh.getD i 0) : ∀ k, k ≤ had.length →
    (k = 0 ∧ refLo had part sh k = (0, 1)) ∨ ((∃ j, j < k ∧ refLo had part sh k = nextQ had part got j) ∧ ∀ i, i < k → lessB (refLo had part sh k) (nextQ had part got i) = false) := by
  intro k
  induction k with
  | zero => intro _; exact .inl ⟨rfl, rfl⟩
  | succ k ih =>
    intro hk
    have e : quo (100 * had.getD k 0) (100 * sh.getD k 0 + part) = nextQ had part got k := by rw [next_quo, he k (by omega)]
    have hp := next_pos V G (i := k) (by omega)
    right
    rw [refLo, e]
    rcases ih (by omega) with ⟨rfl, h⟩ | ⟨⟨j, hj, h1⟩, h2⟩
    · rw [h]
      have hq : lessB (0, 1) (nextQ had part got 0) = true := by
        have := (quo_facts hp.1 hp.2)
        obtain ⟨g, _, _, _, h1, h2, _⟩ := this
        rw [next_quo]
        simp only [lessB, decide_eq_true_eq]
        omega
      rw [if_pos hq]
      exact ⟨⟨0, by omega, rfl⟩, fun i hi => by
        obtain rfl : i = 0 := by omega
        exact less_irr _⟩
    · by_cases hl : lessB (refLo had part sh k) (nextQ had part got k) = true
      · rw [if_pos hl]
        refine ⟨⟨k, by omega, rfl⟩, fun i hi => ?_⟩
        by_cases hik : i = k
        · subst hik; exact less_irr _
        · have h3 := h2 i (by omega)
          rw [h1] at hl h3
          exact ge_trans (nextQ_pos V G (by omega)) (nextQ_pos V G (by omega)) (nextQ_pos V G (by omega)) (less_asym hl) h3
      · rw [if_neg hl]
        refine ⟨⟨j, by omega, h1⟩, fun i hi => ?_⟩
        by_cases hik : i = k
        · subst hik; simpa using hl
        · exact h2 i (by omega)

theorem refLo_law (V : Val had part prize) (G : GotOk got) (he : ∀ i, i < had.length → got.getD i 0 = sh.getD i 0) : refLo had part sh had.length = greatQ had part got := by
  have hl := V.l1
  obtain ⟨⟨j, hj, h1⟩, h2⟩ := great_facts V G
  rcases refLo_facts V G he had.length (Nat.le_refl _) with ⟨h, _⟩ | ⟨⟨i, hi, h3⟩, h4⟩
  · omega
  · have a1 := next_pos V G hi
    have a2 := next_pos V G hj
    have b1 := h4 j hj
    have b2 := h2 i hi
    rw [h3] at b1
    rw [h1] at b2
    rw [h3, h1]
    exact quo_same a1.1 a1.2 a2.1 a2.2 b1 b2

theorem refHi_facts (V : Val had part prize) (G : GotOk got) (he : ∀ i, i < had.length → got.getD i 0 = sh.getD i 0) : ∀ k, k ≤ had.length →
    ((∀ i, i < k → ¬ 0 < got.getD i 0) ∧ refHi had part sh k = (1073741824, 1)) ∨ ((∃ j, j < k ∧ 0 < got.getD j 0 ∧ refHi had part sh k = lastQ had part got j) ∧ ∀ i, i < k → 0 < got.getD i 0 → lessB (lastQ had part got i) (refHi had part sh k) = false) := by
  intro k
  induction k with
  | zero => intro _; exact .inl ⟨fun i hi => by omega, rfl⟩
  | succ k ih =>
    intro hk
    rw [refHi]
    by_cases h0 : 0 < sh.getD k 0
    · rw [if_pos h0]
      have h0' : 0 < got.getD k 0 := by rw [he k (by omega)]; exact h0
      have e : quo (100 * had.getD k 0) (100 * (sh.getD k 0 - 1) + part) = lastQ had part got k := by rw [lastQ_eq h0', he k (by omega)]
      have hp := last_pos V G (i := k) (by omega) h0'
      rw [e]
      right
      rcases ih (by omega) with ⟨hn, h⟩ | ⟨⟨j, hj, hj0, h1⟩, h2⟩
      · rw [h]
        have hq : lessB (lastQ had part got k) (1073741824, 1) = true := by
          have hs := lastQ_small V G (i := k) (by omega)
          have hps := lastQ_pos V G (i := k) (by omega) h0'
          obtain ⟨s1, s2, s3, s4⟩ := hs
          simp only [lessB, decide_eq_true_eq]
          omega
        rw [if_pos hq]
        exact ⟨⟨k, by omega, h0', rfl⟩, fun i hi hi0 => by
          by_cases hik : i = k
          · subst hik; exact less_irr _
          · exact absurd hi0 (hn i (by omega))⟩
      · by_cases hl : lessB (lastQ had part got k) (refHi had part sh k) = true
        · rw [if_pos hl]
          refine ⟨⟨k, by omega, h0', rfl⟩, fun i hi hi0 => ?_⟩
          by_cases hik : i = k
          · subst hik; exact less_irr _
          · have h3 := h2 i (by omega) hi0
            rw [h1] at hl h3
            exact ge_trans (lastQ_pos V G (by omega) hi0) (lastQ_pos V G (by omega) hj0) (lastQ_pos V G (by omega) h0') h3 (less_asym hl)
        · rw [if_neg hl]
          refine ⟨⟨j, by omega, hj0, h1⟩, fun i hi hi0 => ?_⟩
          by_cases hik : i = k
          · subst hik; simpa using hl
          · exact h2 i (by omega) hi0
    · rw [if_neg h0]
      have h0' : ¬ 0 < got.getD k 0 := by rw [he k (by omega)]; exact h0
      rcases ih (by omega) with ⟨hn, h⟩ | ⟨⟨j, hj, hj0, h1⟩, h2⟩
      · refine .inl ⟨fun i hi => ?_, h⟩
        by_cases hik : i = k
        · subst hik; exact h0'
        · exact hn i (by omega)
      · refine .inr ⟨⟨j, by omega, hj0, h1⟩, fun i hi hi0 => ?_⟩
        by_cases hik : i = k
        · subst hik; exact absurd hi0 h0'
        · exact h2 i (by omega) hi0

theorem refHi_law (V : Val had part prize) (G : GotOk got) (he : ∀ i, i < had.length → got.getD i 0 = sh.getD i 0) (hs : ∃ i, i < had.length ∧ 0 < got.getD i 0) : refHi had part sh had.length = leastQ had part got := by
  obtain ⟨⟨j, hj, hj0, h1⟩, h2⟩ := least_facts V G hs
  rcases refHi_facts V G he had.length (Nat.le_refl _) with ⟨h, _⟩ | ⟨⟨i, hi, hi0, h3⟩, h4⟩
  · obtain ⟨i, hi, hi0⟩ := hs
    exact absurd hi0 (h i hi)
  · have a1 := last_pos V G hi hi0
    have a2 := last_pos V G hj hj0
    have b1 := h4 j hj hj0
    have b2 := h2 i hi hi0
    rw [h3] at b1
    rw [h1] at b2
    rw [h3, h1, lastQ_eq hi0, lastQ_eq hj0]
    rw [lastQ_eq hi0, lastQ_eq hj0] at b1 b2
    exact quo_same a1.1 a1.2 a2.1 a2.2 b2 b1
end

end Go.Proofs.Ytfchcikdcnloaaa
