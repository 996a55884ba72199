/- What a chain goes round: inside and outside, how many cells, how many sticks (plain). -/
import Derived.Test.YtlkoadcbolkhoaaJordan
set_option linter.all false
namespace Go.Proofs.Ytlkoadcbolkhoaa

section
variable (x y : Int)
theorem rightC_S' : rightC (x, y + 1) (x, y) = (x - 1, y) := by have := rightC_S x (y + 1); rwa [Int.add_sub_cancel] at this
end
section
variable {P : Nat → Corner} {n : Nat}
theorem left_all (h : Loop P n) : ∀ i, i < n → windC P n (leftC (P i) (P (i + 1))) = windC P n (leftC (P 0) (P 1))
  | 0, _ => rfl
  | i + 1, hi => by rw [← left_all h i (by omega)]; exact (left_same h hi).symm
/-- All corners lie in a box. -/
def InBox (P : Nat → Corner) (n : Nat) (lx hx ly hy : Int) : Prop := ∀ i, i ≤ n → (lx ≤ (P i).1 ∧ (P i).1 ≤ hx) ∧ (ly ≤ (P i).2 ∧ (P i).2 ≤ hy)
theorem wind_east {lx hx ly hy : Int} (hb : InBox P n lx hx ly hy) {x y : Int} (h : hx ≤ x) : wind P n x y = 0 := by
  refine sumN_zero _ _ fun i hi => ?_
  have := (hb i (by omega)).1
  unfold wv
  rw [if_neg (by omega)]
theorem wind_step (h : Loop P n) (x y : Int) : wind P n x y = wind P n (x + 1) y ∨ (wind P n x y = windC P n (leftC (P 0) (P 1)) ∧ wind P n (x + 1) y = windC P n (leftC (P 0) (P 1)) - 1) ∨ (wind P n x y = windC P n (leftC (P 0) (P 1)) - 1 ∧ wind P n (x + 1) y = windC P n (leftC (P 0) (P 1))) := by
  have hd := wind_left h (x + 1) y
  rw [Int.add_sub_cancel] at hd
  by_cases hf : flux P n (x + 1, y) (x + 1, y + 1) = 0
  · omega
  · rcases flux_some h hf with ⟨i, hi, e1, e2⟩ | ⟨i, hi, e1, e2⟩
    · have h1 := left_all h i hi
      have h2 := left_right h hi
      rw [e1, e2, leftC_N] at h1 h2
      rw [rightC_N] at h2
      simp only [windC, Int.add_sub_cancel] at h1 h2 ⊢
      omega
    · have h1 := left_all h i hi
      have h2 := left_right h hi
      rw [e1, e2, leftC_S'] at h1 h2
      rw [rightC_S'] at h2
      simp only [windC, Int.add_sub_cancel] at h1 h2 ⊢
      omega
theorem wind_vals (h : Loop P n) {lx hx ly hy : Int} (hb : InBox P n lx hx ly hy) (y : Int) : ∀ (m : Nat) (x : Int), hx - x ≤ m →
    wind P n x y = 0 ∨ ((wind P n x y = windC P n (leftC (P 0) (P 1)) ∨ wind P n x y = windC P n (leftC (P 0) (P 1)) - 1) ∧ (windC P n (leftC (P 0) (P 1)) = 0 ∨ windC P n (leftC (P 0) (P 1)) = 1))
  | 0, x, hm => .inl (wind_east hb (by omega))
  | m + 1, x, hm => by
    have ih := wind_vals h hb y m (x + 1) (by omega)
    have hs := wind_step h x y
    omega
/-- Inside the winding is one number, the same everywhere; outside it is 0. -/
theorem loop_sign (h : Loop P n) {lx hx ly hy : Int} (hb : InBox P n lx hx ly hy) : ∃ s : Int, (s = 1 ∨ s = -1) ∧ (∀ x y, wind P n x y = 0 ∨ wind P n x y = s) ∧ (∀ i, i < n → windC P n (leftC (P i) (P (i + 1))) = if s = 1 then 1 else 0) := by
  have hn := h.n4
  have hall : ∀ x y, wind P n x y = 0 ∨ ((wind P n x y = windC P n (leftC (P 0) (P 1)) ∨ wind P n x y = windC P n (leftC (P 0) (P 1)) - 1) ∧ (windC P n (leftC (P 0) (P 1)) = 0 ∨ windC P n (leftC (P 0) (P 1)) = 1)) := fun x y => wind_vals h hb y (hx - x).toNat x (by omega)
  have hk : windC P n (leftC (P 0) (P 1)) = 0 ∨ windC P n (leftC (P 0) (P 1)) = 1 := by
    have h1 := hall (leftC (P 0) (P 1)).1 (leftC (P 0) (P 1)).2
    have h2 := hall (rightC (P 0) (P 1)).1 (rightC (P 0) (P 1)).2
    have h3 := left_right h (i := 0) (by omega)
    simp only [windC, Nat.zero_add] at h1 h2 h3 ⊢
    omega
  rcases hk with hk | hk
  · refine ⟨-1, .inr rfl, fun x y => ?_, fun i hi => ?_⟩
    · have := hall x y; omega
    · rw [left_all h i hi, hk]; rfl
  · refine ⟨1, .inl rfl, fun x y => ?_, fun i hi => ?_⟩
    · have := hall x y; omega
    · rw [left_all h i hi, hk]; rfl
theorem wind_west (h : Loop P n) {lx hx ly hy : Int} (hb : InBox P n lx hx ly hy) {x y : Int} (hx : x < lx) : wind P n x y = 0 := by
  have ht := sumN_tele (fun i => if y < (P i).2 then (1 : Int) else 0) n
  rw [h.c] at ht
  unfold wind
  rw [sumN_congr (g := fun i => (if y < (P (i + 1)).2 then (1 : Int) else 0) - (if y < (P i).2 then 1 else 0)) fun i hi => ?_, ht]
  · omega
  · have h1 := (hb i (by omega)).1
    have h2 := (h.u i hi).to
    revert h1 h2
    generalize P i = p
    generalize P (i + 1) = q
    obtain ⟨a, b⟩ := p
    intro h1 h2
    simp only at h1 h2
    unfold wv
    rcases h2 with rfl | rfl | rfl | rfl <;> simp only [true_and] <;> (repeat' split) <;> omega
theorem wind_north (h : Loop P n) {lx hx ly hy : Int} (hb : InBox P n lx hx ly hy) {x y : Int} (hy' : hy ≤ y ∨ y < ly) : wind P n x y = 0 := by
  refine sumN_zero _ _ fun i hi => ?_
  have h0 := (hb i (by omega)).2
  have h1 := (hb (i + 1) (by omega)).2
  have h2 := (h.u i hi).to
  revert h0 h1 h2
  generalize P i = p
  generalize P (i + 1) = q
  obtain ⟨a, b⟩ := p
  intro h0 h1 h2
  simp only at h0 h2
  unfold wv
  rcases h2 with rfl | rfl | rfl | rfl <;> simp only at h1 ⊢ <;> (repeat' split) <;> omega
/-- Where the winding is not 0. -/
theorem wind_in (h : Loop P n) {lx hx ly hy : Int} (hb : InBox P n lx hx ly hy) {x y : Int} (hw : wind P n x y ≠ 0) : (lx ≤ x ∧ x < hx) ∧ (ly ≤ y ∧ y < hy) := by
  refine ⟨⟨?_, ?_⟩, ?_, ?_⟩
  · by_cases k : lx ≤ x
    · exact k
    · exact absurd (wind_west h hb (by omega)) hw
  · by_cases k : x < hx
    · exact k
    · exact absurd (wind_east hb (by omega)) hw
  · by_cases k : ly ≤ y
    · exact k
    · exact absurd (wind_north h hb (.inr (by omega))) hw
  · by_cases k : y < hy
    · exact k
    · exact absurd (wind_north h hb (.inl (by omega))) hw
end

/-! ### The cells of the pond of 8 by 8 -/
def gridS (f : Int → Int → Int) : Int := sumN (fun y => sumN (fun x => f (x : Int) (y : Int)) 8) 8
theorem gridS_congr {f g : Int → Int → Int} (h : ∀ x y : Int, 0 ≤ x → x < 8 → 0 ≤ y → y < 8 → f x y = g x y) : gridS f = gridS g :=
  sumN_congr fun y hy => sumN_congr fun x hx => h x y (by omega) (by omega) (by omega) (by omega)
theorem gridS_sum (f : Nat → Int → Int → Int) (n : Nat) : gridS (fun x y => sumN (fun i => f i x y) n) = sumN (fun i => gridS (f i)) n := by
  unfold gridS
  rw [sumN_congr (g := fun y => sumN (fun i => sumN (fun x => f i (x : Int) (y : Int)) 8) n) fun y _ => sumN_swap _ _ _]
  exact sumN_swap _ _ _
theorem gridS_mul (c : Int) (f : Int → Int → Int) : gridS (fun x y => c * f x y) = c * gridS f := by
  unfold gridS
  rw [sumN_congr (g := fun y => c * sumN (fun x => f (x : Int) (y : Int)) 8) fun y _ => sumN_mul _ _ _]
  exact sumN_mul _ _ _
theorem gridS_sub (f g : Int → Int → Int) : gridS (fun x y => f x y - g x y) = gridS f - gridS g := by
  unfold gridS
  rw [sumN_congr (g := fun y => sumN (fun x => f (x : Int) (y : Int)) 8 - sumN (fun x => g (x : Int) (y : Int)) 8) fun y _ => sumN_sub _ _ _]
  exact sumN_sub _ _ _
/-- One cell alone. -/
theorem gridS_one (f : Int → Int → Int) (c : Corner) (h0 : ¬ ((0 ≤ c.1 ∧ c.1 < 8) ∧ (0 ≤ c.2 ∧ c.2 < 8)) → f c.1 c.2 = 0) : gridS (fun x y => f x y * (if (x, y) = c then 1 else 0)) = f c.1 c.2 := by
  obtain ⟨a, b⟩ := c
  simp only [Prod.mk.injEq] at *
  by_cases hin : (0 ≤ a ∧ a < 8) ∧ (0 ≤ b ∧ b < 8)
  · obtain ⟨m, rfl⟩ : ∃ m : Nat, a = m := ⟨a.toNat, by omega⟩
    obtain ⟨k, rfl⟩ : ∃ m : Nat, b = m := ⟨b.toNat, by omega⟩
    unfold gridS
    rw [sumN_one (k := k) (by omega) fun y _ hy => sumN_zero _ _ fun x _ => by dsimp only; rw [if_neg (by omega)]; omega]
    rw [sumN_one (k := m) (by omega) fun x _ hx => by dsimp only; rw [if_neg (by omega)]; omega]
    dsimp only
    rw [if_pos ⟨rfl, rfl⟩]; omega
  · rw [h0 hin]
    unfold gridS
    refine sumN_zero _ _ fun y hy => sumN_zero _ _ fun x hx => ?_
    dsimp only
    rw [if_neg (by rintro ⟨rfl, rfl⟩; apply hin; omega)]; omega
/-- The cells of a row that are left of a corner. -/
theorem row_sum (X c : Int) (hX : 0 ≤ X) : ∀ m : Nat, sumN (fun x => if (x : Int) < X then c else 0) m = min X m * c
  | 0 => by rw [sumN, show min X ((0 : Nat) : Int) = 0 by omega, Int.zero_mul]
  | m + 1 => by
    rw [sumN, row_sum X c hX m]
    split
    · rw [show min X ((m + 1 : Nat) : Int) = min X (m : Int) + 1 by omega, Int.add_mul]; omega
    · rw [show min X ((m + 1 : Nat) : Int) = min X (m : Int) by omega]; omega
theorem grid_wv {p q : Corner} (hu : Unit4 p q) (hp : (0 ≤ p.1 ∧ p.1 ≤ 8) ∧ (0 ≤ p.2 ∧ p.2 ≤ 8)) (hq : (0 ≤ q.1 ∧ q.1 ≤ 8) ∧ (0 ≤ q.2 ∧ q.2 ≤ 8)) : gridS (fun x y => wv x y p q) = p.1 * (q.2 - p.2) := by
  obtain ⟨a, b⟩ := p
  have hu := hu.to
  simp only at hu hp
  by_cases hv : q.1 = a
  · obtain ⟨k, hk⟩ : ∃ k : Nat, min b q.2 = k := ⟨(min b q.2).toNat, by omega⟩
    have hk8 : k < 8 := by
      obtain ⟨q1, q2⟩ := q
      simp only [Prod.mk.injEq] at hu hv hk hq
      omega
    unfold gridS
    rw [sumN_one (k := k) hk8 fun y _ hy => sumN_zero _ _ fun x _ => by unfold wv; simp only; rw [if_neg (by omega)]]
    rw [sumN_congr (g := fun x => if (x : Int) < a then q.2 - b else 0) fun x _ => by
      unfold wv; simp only [hk, hv, true_and, and_true]]
    rw [row_sum a _ (by omega), show min a ((8 : Nat) : Int) = a by omega]
  · have e : q.2 = b := by
      obtain ⟨q1, q2⟩ := q
      simp only [Prod.mk.injEq] at hu hv ⊢
      omega
    simp only [e]
    rw [Int.sub_self, Int.mul_zero]
    unfold gridS
    exact sumN_zero _ _ fun y _ => sumN_zero _ _ fun x _ => by dsimp only [wv]; rw [if_neg (fun h => hv h.1.symm)]
section
variable {P : Nat → Corner} {n : Nat}
def areaN (P : Nat → Corner) (n : Nat) : Int := sumN (fun i => (P i).1 * ((P (i + 1)).2 - (P i).2)) n
theorem area_grid (h : Loop P n) (hb : InBox P n 0 8 0 8) : gridS (wind P n) = areaN P n := by
  unfold areaN
  show gridS (fun x y => sumN (fun i => wv x y (P i) (P (i + 1))) n) = _
  rw [gridS_sum (fun i x y => wv x y (P i) (P (i + 1)))]
  exact sumN_congr fun i hi => grid_wv (h.u i hi) (hb i (by omega)) (hb (i + 1) (by omega))
/-- How many cells are inside. -/
def insideN (P : Nat → Corner) (n : Nat) : Int := gridS fun x y => if wind P n x y = 0 then 0 else 1
theorem area_inside (h : Loop P n) (hb : InBox P n 0 8 0 8) {s : Int} (hs : s = 1 ∨ s = -1) (hw : ∀ x y, wind P n x y = 0 ∨ wind P n x y = s) : areaN P n = s * insideN P n := by
  rw [← area_grid h hb]
  unfold insideN
  rw [← gridS_mul]
  refine gridS_congr fun x y _ _ _ _ => ?_
  have := hw x y
  split <;> omega

/-! ### Its sticks -/
/-- The side of a cell, as a stick that has the cell on its left. -/
def sideA (x y : Int) (d : Int) : Corner := if d = 0 then (x + 1, y) else if d = 1 then (x + 1, y + 1) else if d = 2 then (x, y + 1) else (x, y)
def sideB (x y : Int) (d : Int) : Corner := if d = 0 then (x + 1, y + 1) else if d = 1 then (x, y + 1) else if d = 2 then (x, y) else (x + 1, y)
theorem steps_sum {p q : Corner} (x y : Int) (hu : Unit4 p q) :
    stepS (x + 1, y) (x + 1, y + 1) p q + stepS (x + 1, y + 1) (x, y + 1) p q + stepS (x, y + 1) (x, y) p q + stepS (x, y) (x + 1, y) p q = (if (x, y) = leftC p q then 1 else 0) - (if (x, y) = rightC p q then 1 else 0) := by
  obtain ⟨a, b⟩ := p
  have hu := hu.to
  simp only at hu
  rcases hu with rfl | rfl | rfl | rfl
  · rw [leftC_E, rightC_E]
    have e1 : stepS (x + 1, y) (x + 1, y + 1) (a, b) (a + 1, b) = 0 := by unfold stepS; simp only [Prod.mk.injEq]; (repeat' split) <;> omega
    have e2 : stepS (x + 1, y + 1) (x, y + 1) (a, b) (a + 1, b) = if x = a ∧ y + 1 = b then -1 else 0 := by unfold stepS; simp only [Prod.mk.injEq]; (repeat' split) <;> omega
    have e3 : stepS (x, y + 1) (x, y) (a, b) (a + 1, b) = 0 := by unfold stepS; simp only [Prod.mk.injEq]; (repeat' split) <;> omega
    have e4 : stepS (x, y) (x + 1, y) (a, b) (a + 1, b) = if x = a ∧ y = b then 1 else 0 := by unfold stepS; simp only [Prod.mk.injEq]; (repeat' split) <;> omega
    rw [e1, e2, e3, e4]; simp only [Prod.mk.injEq]; (repeat' split) <;> omega
  · rw [leftC_N, rightC_N]
    have e1 : stepS (x + 1, y) (x + 1, y + 1) (a, b) (a, b + 1) = if x + 1 = a ∧ y = b then 1 else 0 := by unfold stepS; simp only [Prod.mk.injEq]; (repeat' split) <;> omega
    have e2 : stepS (x + 1, y + 1) (x, y + 1) (a, b) (a, b + 1) = 0 := by unfold stepS; simp only [Prod.mk.injEq]; (repeat' split) <;> omega
    have e3 : stepS (x, y + 1) (x, y) (a, b) (a, b + 1) = if x = a ∧ y = b then -1 else 0 := by unfold stepS; simp only [Prod.mk.injEq]; (repeat' split) <;> omega
    have e4 : stepS (x, y) (x + 1, y) (a, b) (a, b + 1) = 0 := by unfold stepS; simp only [Prod.mk.injEq]; (repeat' split) <;> omega
    rw [e1, e2, e3, e4]; simp only [Prod.mk.injEq]; (repeat' split) <;> omega
  · rw [leftC_W, rightC_W]
    have e1 : stepS (x + 1, y) (x + 1, y + 1) (a, b) (a - 1, b) = 0 := by unfold stepS; simp only [Prod.mk.injEq]; (repeat' split) <;> omega
    have e2 : stepS (x + 1, y + 1) (x, y + 1) (a, b) (a - 1, b) = if x + 1 = a ∧ y + 1 = b then 1 else 0 := by unfold stepS; simp only [Prod.mk.injEq]; (repeat' split) <;> omega
    have e3 : stepS (x, y + 1) (x, y) (a, b) (a - 1, b) = 0 := by unfold stepS; simp only [Prod.mk.injEq]; (repeat' split) <;> omega
    have e4 : stepS (x, y) (x + 1, y) (a, b) (a - 1, b) = if x + 1 = a ∧ y = b then -1 else 0 := by unfold stepS; simp only [Prod.mk.injEq]; (repeat' split) <;> omega
    rw [e1, e2, e3, e4]; simp only [Prod.mk.injEq]; (repeat' split) <;> omega
  · rw [leftC_S, rightC_S]
    have e1 : stepS (x + 1, y) (x + 1, y + 1) (a, b) (a, b - 1) = if x + 1 = a ∧ y + 1 = b then -1 else 0 := by unfold stepS; simp only [Prod.mk.injEq]; (repeat' split) <;> omega
    have e2 : stepS (x + 1, y + 1) (x, y + 1) (a, b) (a, b - 1) = 0 := by unfold stepS; simp only [Prod.mk.injEq]; (repeat' split) <;> omega
    have e3 : stepS (x, y + 1) (x, y) (a, b) (a, b - 1) = if x = a ∧ y + 1 = b then 1 else 0 := by unfold stepS; simp only [Prod.mk.injEq]; (repeat' split) <;> omega
    have e4 : stepS (x, y) (x + 1, y) (a, b) (a, b - 1) = 0 := by unfold stepS; simp only [Prod.mk.injEq]; (repeat' split) <;> omega
    rw [e1, e2, e3, e4]; simp only [Prod.mk.injEq]; (repeat' split) <;> omega
/-- How many sides of a cell have the outside behind them. -/
def outN (P : Nat → Corner) (n : Nat) (x y : Int) : Int := (if wind P n (x + 1) y = 0 then 1 else 0) + (if wind P n x (y + 1) = 0 then 1 else 0) + (if wind P n (x - 1) y = 0 then 1 else 0) + (if wind P n x (y - 1) = 0 then 1 else 0)
theorem sides_cell (h : Loop P n) {s : Int} (hs : s = 1 ∨ s = -1) (hw : ∀ x y, wind P n x y = 0 ∨ wind P n x y = s) (x y : Int) :
    (if wind P n x y = 0 then 0 else outN P n x y) = (s * s) * ((if wind P n x y = 0 then 0 else 1) * (s * sumN (fun i => (if (x, y) = leftC (P i) (P (i + 1)) then 1 else 0) - (if (x, y) = rightC (P i) (P (i + 1)) then 1 else 0)) n)) := by
  have e : sumN (fun i => (if (x, y) = leftC (P i) (P (i + 1)) then (1 : Int) else 0) - (if (x, y) = rightC (P i) (P (i + 1)) then 1 else 0)) n = flux P n (x + 1, y) (x + 1, y + 1) + flux P n (x + 1, y + 1) (x, y + 1) + flux P n (x, y + 1) (x, y) + flux P n (x, y) (x + 1, y) := by
    unfold flux
    rw [← sumN_add, ← sumN_add, ← sumN_add]
    exact sumN_congr fun i hi => (steps_sum x y (h.u i hi)).symm
  rw [e]
  have a1 := wind_left h (x + 1) y
  have a2 := wind_up h x (y + 1)
  have a3 := wind_left h x y
  have a4 := wind_up h x y
  rw [Int.add_sub_cancel] at a1 a2
  have n2 : flux P n (x + 1, y + 1) (x, y + 1) = - flux P n (x, y + 1) (x + 1, y + 1) := flux_neg _ _
  have n3 : flux P n (x, y + 1) (x, y) = - flux P n (x, y) (x, y + 1) := flux_neg _ _
  have w0 := hw x y
  have w1 := hw (x + 1) y
  have w2 := hw x (y + 1)
  have w3 := hw (x - 1) y
  have w4 := hw x (y - 1)
  unfold outN
  by_cases h0 : wind P n x y = 0
  · rw [if_pos h0, if_pos h0]; omega
  · rw [if_neg h0, if_neg h0]
    rcases hs with rfl | rfl
    · (repeat' split) <;> omega
    · (repeat' split) <;> omega
theorem sticks_grid (h : Loop P n) (hb : InBox P n 0 8 0 8) : gridS (fun x y => if wind P n x y = 0 then 0 else outN P n x y) = n := by
  obtain ⟨s, hs, hw, hl⟩ := loop_sign h hb
  have hss : s * s = 1 := by rcases hs with rfl | rfl <;> rfl
  rw [gridS_congr fun x y _ _ _ _ => sides_cell h hs hw x y]
  have e : ∀ x y, (s * s) * ((if wind P n x y = 0 then 0 else 1) * (s * sumN (fun i => (if (x, y) = leftC (P i) (P (i + 1)) then (1 : Int) else 0) - (if (x, y) = rightC (P i) (P (i + 1)) then 1 else 0)) n))
      = sumN (fun i => wind P n x y * (if (x, y) = leftC (P i) (P (i + 1)) then 1 else 0) - wind P n x y * (if (x, y) = rightC (P i) (P (i + 1)) then 1 else 0)) n := fun x y => by
    rw [hss, Int.one_mul, ← Int.mul_assoc, show (if wind P n x y = 0 then (0 : Int) else 1) * s = wind P n x y by rcases hw x y with k | k <;> rw [k] <;> rcases hs with rfl | rfl <;> simp, ← sumN_mul]
    exact sumN_congr fun i _ => Int.mul_sub _ _ _
  rw [gridS_congr fun x y _ _ _ _ => e x y, gridS_sum (fun i x y => wind P n x y * (if (x, y) = leftC (P i) (P (i + 1)) then (1 : Int) else 0) - wind P n x y * (if (x, y) = rightC (P i) (P (i + 1)) then 1 else 0))]
  have hz : ∀ c : Corner, ¬ ((0 ≤ c.1 ∧ c.1 < 8) ∧ (0 ≤ c.2 ∧ c.2 < 8)) → wind P n c.1 c.2 = 0 := fun c hc => by
    by_cases k : wind P n c.1 c.2 = 0
    · exact k
    · exact absurd (wind_in h hb k) hc
  rw [sumN_congr (g := fun _ => 1) fun i hi => ?_, sumN_const, Int.mul_one]
  rw [gridS_sub (fun x y => wind P n x y * (if (x, y) = leftC (P i) (P (i + 1)) then (1 : Int) else 0)) (fun x y => wind P n x y * (if (x, y) = rightC (P i) (P (i + 1)) then 1 else 0))]
  rw [gridS_one _ _ (hz _), gridS_one _ _ (hz _)]
  have := left_right h hi
  simpa [windC] using this
end
end Go.Proofs.Ytlkoadcbolkhoaa
