/- The plain law of quotients: fractions in least terms, their order, the first best of a list. No program in sight. -/
import Derived.Test.YtfchcikdcnloaaaRefc
namespace Go.Proofs.Ytfchcikdcnloaaa
open Go Go.RowKit Go.Proofs

theorem quo_facts {a b : Int} (ha : 0 < a) (hb : 0 < b) : ∃ g : Int, 0 < g ∧ a = (quo a b).1 * g ∧ b = (quo a b).2 * g ∧ 0 < (quo a b).1 ∧ 0 < (quo a b).2 ∧ Int.gcd (quo a b).1 (quo a b).2 = 1 := by
  have hg : 0 < Int.gcd a b := Int.gcd_pos_of_ne_zero_left b (by omega)
  have h1 : ((Int.gcd a b : Nat) : Int) ∣ a := Int.gcd_dvd_left ..
  have h2 : ((Int.gcd a b : Nat) : Int) ∣ b := Int.gcd_dvd_right ..
  have e1 : a = (quo a b).1 * (Int.gcd a b : Int) := (Int.ediv_mul_cancel h1).symm
  have e2 : b = (quo a b).2 * (Int.gcd a b : Int) := (Int.ediv_mul_cancel h2).symm
  have p1 : 0 < (quo a b).1 := by
    rcases Int.lt_or_le 0 (quo a b).1 with h | h
    · exact h
    · have := Int.mul_le_mul_of_nonneg_right h (show (0 : Int) ≤ (Int.gcd a b : Int) by omega)
      omega
  have p2 : 0 < (quo a b).2 := by
    rcases Int.lt_or_le 0 (quo a b).2 with h | h
    · exact h
    · have := Int.mul_le_mul_of_nonneg_right h (show (0 : Int) ≤ (Int.gcd a b : Int) by omega)
      omega
  exact ⟨_, by omega, e1, e2, p1, p2, by
    unfold quo
    exact Int.gcd_ediv_gcd_ediv_gcd hg⟩

/-- The order of quotients is that of the products crosswise. -/
theorem less_quo {a b c d : Int} (ha : 0 < a) (hb : 0 < b) (hc : 0 < c) (hd : 0 < d) : lessB (quo a b) (quo c d) = decide (a * d < c * b) := by
  obtain ⟨g, hg, e1, e2, p1, p2, _⟩ := quo_facts ha hb
  obtain ⟨k, hk, f1, f2, q1, q2, _⟩ := quo_facts hc hd
  generalize quo a b = x at *
  generalize quo c d = y at *
  subst e1 e2 f1 f2
  unfold lessB
  have hgk : 0 < g * k := Int.mul_pos hg hk
  have l : x.1 * g * (y.2 * k) = x.1 * y.2 * (g * k) := by ac_rfl
  have r : y.1 * k * (x.2 * g) = y.1 * x.2 * (g * k) := by ac_rfl
  rw [l, r]
  congr 1
  exact propext ⟨fun h => Int.mul_lt_mul_of_pos_right h hgk, fun h => Int.lt_of_mul_lt_mul_right h (Int.le_of_lt hgk)⟩

theorem dvd_cop {x y z : Int} (h : x ∣ y * z) (g : Int.gcd x z = 1) : x ∣ y := by
  rw [← Int.natAbs_dvd_natAbs] at h ⊢
  rw [Int.natAbs_mul] at h
  exact Nat.Coprime.dvd_of_dvd_mul_right (show Nat.Coprime x.natAbs z.natAbs from g) h
theorem quo_eq {a b c d : Int} (ha : 0 < a) (hb : 0 < b) (hc : 0 < c) (hd : 0 < d) : quo a b = quo c d ↔ a * d = c * b := by
  obtain ⟨g, hg, e1, e2, p1, p2, g1⟩ := quo_facts ha hb
  obtain ⟨k, hk, f1, f2, q1, q2, g2⟩ := quo_facts hc hd
  generalize quo a b = x at *
  generalize quo c d = y at *
  subst e1 e2 f1 f2
  obtain ⟨x1, x2⟩ := x
  obtain ⟨y1, y2⟩ := y
  simp only at *
  have l : x1 * g * (y2 * k) = x1 * y2 * (g * k) := by ac_rfl
  have r : y1 * k * (x2 * g) = y1 * x2 * (g * k) := by ac_rfl
  have hgk : g * k ≠ 0 := by have := Int.mul_pos hg hk; omega
  rw [l, r]
  constructor
  · rintro ⟨rfl, rfl⟩
    rfl
  · intro h
    have h' : x1 * y2 = y1 * x2 := Int.eq_of_mul_eq_mul_right hgk h
    have d1 : x1 ∣ y1 := by
      have : x1 ∣ y1 * x2 := ⟨y2, h'.symm⟩
      exact dvd_cop this g1
    have d2 : y1 ∣ x1 := by
      have : y1 ∣ x1 * y2 := ⟨x2, h'⟩
      exact dvd_cop this g2
    have e : x1 = y1 := Int.dvd_antisymm (by omega) (by omega) d1 d2
    subst e
    have := Int.eq_of_mul_eq_mul_left (show x1 ≠ 0 by omega) h'
    rw [this]

/-- What the first best of a list is. -/
structure FirstBest {α : Type} (better : α → α → Bool) (l : List α) (k : Nat) (j : Nat) (y : α) : Prop where
  eq : bestAt better l k = j
  lt : j < k
  at' : l[j]? = some y
  best : ∀ i x, i < k → l[i]? = some x → better x y = false
  first : ∀ i x, i < j → l[i]? = some x → better y x = true

theorem firstBest {α : Type} {better : α → α → Bool} {l : List α} (hirr : ∀ x ∈ l, better x x = false) (hasym : ∀ x ∈ l, ∀ y ∈ l, better x y = true → better y x = false)
    (htr : ∀ x ∈ l, ∀ y ∈ l, ∀ z ∈ l, better x y = false → better y z = false → better x z = false) : ∀ (k : Nat), k + 1 ≤ l.length → ∃ j y, FirstBest better l (k + 1) j y := by
  intro k
  induction k with
  | zero =>
    intro hk
    obtain ⟨x, hx⟩ := get_at (l := l) (k := 0) (by omega)
    refine ⟨0, x, by simpa using bestAt_neg hx (by simp [bestAt]), by omega, hx, fun i z hi hz => ?_, fun i z hi => by omega⟩
    obtain rfl : i = 0 := by omega
    rw [hx] at hz
    injection hz with hz
    rw [← hz]
    exact hirr x (List.mem_of_getElem? hx)
  | succ k ih =>
    intro hk
    obtain ⟨j, y, h⟩ := ih (by omega)
    obtain ⟨x, hx⟩ := get_at (l := l) (k := k + 1) (by omega)
    have mx := List.mem_of_getElem? hx
    have my := List.mem_of_getElem? h.at'
    cases hb : better x y with
    | true =>
      refine ⟨k + 1, x, bestAt_yes hx h.eq h.at' hb, by omega, hx, fun i z hi hz => ?_, fun i z hi hz => ?_⟩
      · by_cases e : i = k + 1
        · subst e
          rw [hx] at hz
          injection hz with hz
          rw [← hz]
          exact hirr x mx
        · exact htr z (List.mem_of_getElem? hz) y my x mx (h.best i z (by omega) hz) (hasym x mx y my hb)
      · have h1 := h.best i z (by omega) hz
        have mz := List.mem_of_getElem? hz
        cases hxz : better x z with
        | true => rfl
        | false => have := htr x mx z mz y my hxz h1; rw [hb] at this; cases this
    | false =>
      refine ⟨j, y, bestAt_no hx h.eq h.at' hb, by have := h.lt; omega, h.at', fun i z hi hz => ?_, h.first⟩
      by_cases e : i = k + 1
      · subst e
        rw [hx] at hz
        injection hz with hz
        rw [← hz]
        exact hb
      · exact h.best i z (by omega) hz

end Go.Proofs.Ytfchcikdcnloaaa
