/- What a chain goes round: how often it winds round a cell (plain). -/
import Derived.Test.YtlkoadcbolkhoaaChain
set_option linter.all false
namespace Go.Proofs.Ytlkoadcbolkhoaa

/-! ### Sums -/
def sumN (f : Nat → Int) : Nat → Int
  | 0 => 0
  | n + 1 => sumN f n + f n
theorem sumN_congr {f g : Nat → Int} : ∀ {n : Nat}, (∀ i, i < n → f i = g i) → sumN f n = sumN g n
  | 0, _ => rfl
  | n + 1, h => by rw [sumN, sumN, sumN_congr fun i hi => h i (by omega), h n (by omega)]
theorem sumN_add (f g : Nat → Int) : ∀ n, sumN (fun i => f i + g i) n = sumN f n + sumN g n
  | 0 => rfl
  | n + 1 => by rw [sumN, sumN, sumN, sumN_add f g n]; omega
theorem sumN_sub (f g : Nat → Int) : ∀ n, sumN (fun i => f i - g i) n = sumN f n - sumN g n
  | 0 => rfl
  | n + 1 => by rw [sumN, sumN, sumN, sumN_sub f g n]; omega
theorem sumN_zero (f : Nat → Int) : ∀ n, (∀ i, i < n → f i = 0) → sumN f n = 0
  | 0, _ => rfl
  | n + 1, h => by rw [sumN, sumN_zero f n fun i hi => h i (by omega), h n (by omega)]; rfl
theorem sumN_mul (c : Int) (f : Nat → Int) : ∀ n, sumN (fun i => c * f i) n = c * sumN f n
  | 0 => by simp [sumN]
  | n + 1 => by rw [sumN, sumN, sumN_mul c f n, Int.mul_add]
theorem sumN_tele (g : Nat → Int) : ∀ n, sumN (fun i => g (i + 1) - g i) n = g n - g 0
  | 0 => by simp [sumN]
  | n + 1 => by rw [sumN, sumN_tele g n]; omega
theorem sumN_one {f : Nat → Int} {k : Nat} : ∀ {n : Nat}, k < n → (∀ i, i < n → i ≠ k → f i = 0) → sumN f n = f k
  | n + 1, hk, h => by
    rw [sumN]
    by_cases e : k = n
    · subst e
      rw [sumN_zero f k fun i hi => h i (by omega) (by omega)]; omega
    · rw [sumN_one (k := k) (by omega) fun i hi hik => h i (by omega) hik, h n (by omega) (fun h => e h.symm)]; omega
theorem sumN_swap (f : Nat → Nat → Int) (m : Nat) : ∀ n, sumN (fun i => sumN (fun j => f i j) m) n = sumN (fun j => sumN (fun i => f i j) n) m
  | 0 => by rw [sumN, sumN_zero]; intro j _; rfl
  | n + 1 => by
    rw [sumN, sumN_swap f m n, ← sumN_add]
    rfl
theorem sumN_const (c : Int) : ∀ n : Nat, sumN (fun _ => c) n = n * c
  | 0 => by simp [sumN]
  | n + 1 => by
    rw [sumN, sumN_const c n]
    rw [Int.natCast_add, Int.add_mul]; simp

/-! ### Steps -/
def Unit4 (p q : Corner) : Prop := (q.1 = p.1 + 1 ∧ q.2 = p.2) ∨ (q.1 = p.1 ∧ q.2 = p.2 + 1) ∨ (q.1 = p.1 - 1 ∧ q.2 = p.2) ∨ (q.1 = p.1 ∧ q.2 = p.2 - 1)
/-- What a step adds to the winding round a cell. -/
def wv (x y : Int) (p q : Corner) : Int := if p.1 = q.1 ∧ x < p.1 ∧ min p.2 q.2 = y then q.2 - p.2 else 0
/-- Whether a step leads from a to b, less whether it leads back. -/
def stepS (a b p q : Corner) : Int := (if p = a ∧ q = b then 1 else 0) - (if p = b ∧ q = a then 1 else 0)
theorem wv_left {x y : Int} {p q : Corner} (h : Unit4 p q) : wv (x - 1) y p q - wv x y p q = stepS (x, y) (x, y + 1) p q := by
  obtain ⟨p1, p2⟩ := p
  obtain ⟨q1, q2⟩ := q
  unfold wv stepS
  simp only [Unit4, Prod.mk.injEq] at h ⊢
  rcases h with ⟨rfl, rfl⟩ | ⟨rfl, rfl⟩ | ⟨rfl, rfl⟩ | ⟨rfl, rfl⟩ <;> (repeat' split) <;> omega
def chi (x y : Int) (p : Corner) : Int := if x < p.1 ∧ p.2 = y then 1 else 0
theorem wv_up {x y : Int} {p q : Corner} (h : Unit4 p q) : wv x y p q - wv x (y - 1) p q = stepS (x, y) (x + 1, y) p q + (chi x y p - chi x y q) := by
  obtain ⟨p1, p2⟩ := p
  obtain ⟨q1, q2⟩ := q
  unfold wv stepS chi
  simp only [Unit4, Prod.mk.injEq] at h ⊢
  rcases h with ⟨rfl, rfl⟩ | ⟨rfl, rfl⟩ | ⟨rfl, rfl⟩ | ⟨rfl, rfl⟩ <;> (repeat' split) <;> omega

/-- A chain: unit steps, back to where it begins, no corner met twice. -/
structure Loop (P : Nat → Corner) (n : Nat) : Prop where
  n4 : 4 ≤ n
  u : ∀ i, i < n → Unit4 (P i) (P (i + 1))
  c : P n = P 0
  d : ∀ i j, i < n → j < n → P i = P j → i = j

section
variable {P : Nat → Corner} {n : Nat}
def wind (P : Nat → Corner) (n : Nat) (x y : Int) : Int := sumN (fun i => wv x y (P i) (P (i + 1))) n
def flux (P : Nat → Corner) (n : Nat) (a b : Corner) : Int := sumN (fun i => stepS a b (P i) (P (i + 1))) n
theorem wind_left (h : Loop P n) (x y : Int) : wind P n (x - 1) y - wind P n x y = flux P n (x, y) (x, y + 1) := by
  unfold wind flux
  rw [← sumN_sub]
  exact sumN_congr fun i hi => wv_left (h.u i hi)
theorem wind_up (h : Loop P n) (x y : Int) : wind P n x y - wind P n x (y - 1) = flux P n (x, y) (x + 1, y) := by
  unfold wind flux
  rw [← sumN_sub]
  have e : sumN (fun i => chi x y (P i) - chi x y (P (i + 1))) n = 0 := by
    have h1 := sumN_tele (fun i => - chi x y (P i)) n
    rw [h.c] at h1
    rw [sumN_congr (g := fun i => - chi x y (P (i + 1)) - - chi x y (P i)) fun i _ => by omega, h1]
    omega
  have := sumN_add (fun i => stepS (x, y) (x + 1, y) (P i) (P (i + 1))) (fun i => chi x y (P i) - chi x y (P (i + 1))) n
  rw [e] at this
  rw [sumN_congr fun i hi => wv_up (h.u i hi), this]
  omega
theorem flux_neg (a b : Corner) : flux P n b a = - flux P n a b := by
  unfold flux
  have := sumN_mul (-1) (fun i => stepS a b (P i) (P (i + 1))) n
  rw [sumN_congr (g := fun i => -1 * stepS a b (P i) (P (i + 1))) fun i _ => by unfold stepS; omega, this]
  omega
/-- The corner behind. -/
theorem Loop.idx (h : Loop P n) {i j : Nat} (hi : i ≤ n) (hj : j ≤ n) (e : P i = P j) : i = j ∨ (i = 0 ∧ j = n) ∨ (i = n ∧ j = 0) := by
  have hn := h.n4
  by_cases h1 : i = n
  · by_cases h2 : j = n
    · omega
    · rw [h1, h.c] at e
      have := h.d 0 j (by omega) (by omega) e
      omega
  · by_cases h2 : j = n
    · rw [h2, h.c] at e
      have := h.d i 0 (by omega) (by omega) e
      omega
    · exact .inl (h.d i j (by omega) (by omega) e)
theorem flux_step (h : Loop P n) {i : Nat} (hi : i < n) : flux P n (P i) (P (i + 1)) = 1 := by
  have hn := h.n4
  unfold flux
  rw [sumN_one hi fun j hj hji => ?_]
  · unfold stepS
    rw [if_pos ⟨rfl, rfl⟩, if_neg]
    · rfl
    · rintro ⟨e, _⟩
      rcases h.idx (by omega) (by omega) e with h | h | h <;> omega
  · unfold stepS
    rw [if_neg, if_neg]
    · rfl
    · rintro ⟨e1, e2⟩
      have a := h.idx (by omega) (by omega) e1
      have b := h.idx (by omega) (by omega) e2
      omega
    · rintro ⟨e, _⟩
      have := h.d j i hj hi e
      omega
theorem flux_none {a b : Corner} (h : ∀ i, i < n → ¬ (P i = a ∧ P (i + 1) = b) ∧ ¬ (P i = b ∧ P (i + 1) = a)) : flux P n a b = 0 := by
  unfold flux
  refine sumN_zero _ _ fun i hi => ?_
  unfold stepS
  rw [if_neg (h i hi).1, if_neg (h i hi).2]; rfl
theorem flux_some (h : Loop P n) {a b : Corner} (hf : flux P n a b ≠ 0) : (∃ i, i < n ∧ P i = a ∧ P (i + 1) = b) ∨ (∃ i, i < n ∧ P i = b ∧ P (i + 1) = a) := by
  by_cases h1 : ∃ i, i < n ∧ P i = a ∧ P (i + 1) = b
  · exact .inl h1
  · by_cases h2 : ∃ i, i < n ∧ P i = b ∧ P (i + 1) = a
    · exact .inr h2
    · exact absurd (flux_none fun i hi => ⟨fun e => h1 ⟨i, hi, e⟩, fun e => h2 ⟨i, hi, e⟩⟩) hf

/-! ### What lies on both hands -/
def leftC (p q : Corner) : Corner := if q.1 = p.1 + 1 then (p.1, p.2) else if q.2 = p.2 + 1 then (p.1 - 1, p.2) else if q.1 = p.1 - 1 then (p.1 - 1, p.2 - 1) else (p.1, p.2 - 1)
def rightC (p q : Corner) : Corner := if q.1 = p.1 + 1 then (p.1, p.2 - 1) else if q.2 = p.2 + 1 then (p.1, p.2) else if q.1 = p.1 - 1 then (p.1 - 1, p.2) else (p.1 - 1, p.2 - 1)
def windC (P : Nat → Corner) (n : Nat) (c : Corner) : Int := wind P n c.1 c.2
/-- The four facts at a corner. -/
theorem four (h : Loop P n) (X Y : Int) :
    wind P n (X - 1) Y - wind P n X Y = flux P n (X, Y) (X, Y + 1) ∧ wind P n X Y - wind P n X (Y - 1) = flux P n (X, Y) (X + 1, Y) ∧
    wind P n X (Y - 1) - wind P n (X - 1) (Y - 1) = flux P n (X, Y) (X, Y - 1) ∧ wind P n (X - 1) (Y - 1) - wind P n (X - 1) Y = flux P n (X, Y) (X - 1, Y) := by
  refine ⟨wind_left h X Y, wind_up h X Y, ?_, ?_⟩
  · have := wind_left h X (Y - 1)
    rw [Int.sub_add_cancel] at this
    rw [flux_neg]
    omega
  · have := wind_up h (X - 1) Y
    rw [Int.sub_add_cancel] at this
    rw [flux_neg]
    omega
theorem Unit4.to {p q : Corner} (h : Unit4 p q) : q = (p.1 + 1, p.2) ∨ q = (p.1, p.2 + 1) ∨ q = (p.1 - 1, p.2) ∨ q = (p.1, p.2 - 1) := by
  obtain ⟨p1, p2⟩ := p
  obtain ⟨q1, q2⟩ := q
  simp only [Unit4, Prod.mk.injEq] at *
  omega
theorem Unit4.from_ {p q : Corner} (h : Unit4 p q) : p = (q.1 - 1, q.2) ∨ p = (q.1, q.2 - 1) ∨ p = (q.1 + 1, q.2) ∨ p = (q.1, q.2 + 1) := by
  obtain ⟨p1, p2⟩ := p
  obtain ⟨q1, q2⟩ := q
  simp only [Unit4, Prod.mk.injEq] at *
  omega
section
variable (x y : Int)
theorem leftC_E : leftC (x, y) (x + 1, y) = (x, y) := by unfold leftC; rw [if_pos rfl]
theorem leftC_N : leftC (x, y) (x, y + 1) = (x - 1, y) := by unfold leftC; rw [if_neg (show ¬ x = x + 1 by omega), if_pos rfl]
theorem leftC_W : leftC (x, y) (x - 1, y) = (x - 1, y - 1) := by unfold leftC; rw [if_neg (show ¬ x - 1 = x + 1 by omega), if_neg (show ¬ y = y + 1 by omega), if_pos rfl]
theorem leftC_S : leftC (x, y) (x, y - 1) = (x, y - 1) := by unfold leftC; rw [if_neg (show ¬ x = x + 1 by omega), if_neg (show ¬ y - 1 = y + 1 by omega), if_neg (show ¬ x = x - 1 by omega)]
theorem rightC_E : rightC (x, y) (x + 1, y) = (x, y - 1) := by unfold rightC; rw [if_pos rfl]
theorem rightC_N : rightC (x, y) (x, y + 1) = (x, y) := by unfold rightC; rw [if_neg (show ¬ x = x + 1 by omega), if_pos rfl]
theorem rightC_W : rightC (x, y) (x - 1, y) = (x - 1, y) := by unfold rightC; rw [if_neg (show ¬ x - 1 = x + 1 by omega), if_neg (show ¬ y = y + 1 by omega), if_pos rfl]
theorem rightC_S : rightC (x, y) (x, y - 1) = (x - 1, y - 1) := by unfold rightC; rw [if_neg (show ¬ x = x + 1 by omega), if_neg (show ¬ y - 1 = y + 1 by omega), if_neg (show ¬ x = x - 1 by omega)]
theorem leftC_E' : leftC (x - 1, y) (x, y) = (x - 1, y) := by have := leftC_E (x - 1) y; rwa [Int.sub_add_cancel] at this
theorem leftC_N' : leftC (x, y - 1) (x, y) = (x - 1, y - 1) := by have := leftC_N x (y - 1); rwa [Int.sub_add_cancel] at this
theorem leftC_W' : leftC (x + 1, y) (x, y) = (x, y - 1) := by have := leftC_W (x + 1) y; rwa [Int.add_sub_cancel] at this
theorem leftC_S' : leftC (x, y + 1) (x, y) = (x, y) := by have := leftC_S x (y + 1); rwa [Int.add_sub_cancel] at this
end
theorem left_right (h : Loop P n) {i : Nat} (hi : i < n) : windC P n (leftC (P i) (P (i + 1))) - windC P n (rightC (P i) (P (i + 1))) = 1 := by
  have hf := flux_step h hi
  have hu := (h.u i hi).to
  have h4 := four h (P i).1 (P i).2
  revert hf hu h4
  generalize P i = p
  generalize P (i + 1) = q
  obtain ⟨x, y⟩ := p
  intro hf hu h4
  simp only at hu h4
  obtain ⟨f1, f2, f3, f4⟩ := h4
  rcases hu with rfl | rfl | rfl | rfl
  · rw [leftC_E, rightC_E]; simp only [windC]; omega
  · rw [leftC_N, rightC_N]; simp only [windC]; omega
  · rw [leftC_W, rightC_W]; simp only [windC]; omega
  · rw [leftC_S, rightC_S]; simp only [windC]; omega
/-- At a corner only the sticks that meet there are of the chain. -/
theorem flux_corner (h : Loop P n) {i : Nat} (hi : i + 1 < n) {a : Corner} (h1 : a ≠ P i) (h2 : a ≠ P (i + 2)) : flux P n (P (i + 1)) a = 0 := by
  refine flux_none fun j hj => ⟨?_, ?_⟩
  · rintro ⟨e1, e2⟩
    have := h.d j (i + 1) hj hi e1
    subst this
    exact h2 e2.symm
  · rintro ⟨e1, e2⟩
    rcases h.idx (i := j + 1) (by omega) (by omega) e2 with k | k | k
    · have : j = i := by omega
      subst this
      exact h1 e1.symm
    · omega
    · omega
theorem left_same (h : Loop P n) {i : Nat} (hi : i + 1 < n) : windC P n (leftC (P i) (P (i + 1))) = windC P n (leftC (P (i + 1)) (P (i + 2))) := by
  have hn := h.n4
  have hu := (h.u i (by omega)).from_
  have hv := (h.u (i + 1) hi).to
  have hne : P i ≠ P (i + 2) := fun e => by rcases h.idx (by omega) (by omega) e with h | h | h <;> omega
  have h4 := four h (P (i + 1)).1 (P (i + 1)).2
  have hz : ∀ a, a ≠ P i → a ≠ P (i + 2) → flux P n (P (i + 1)) a = 0 := fun a => flux_corner h hi
  revert hu hv hne h4 hz
  show _ → _ ∨ _ → _
  rw [show i + 1 + 1 = i + 2 from rfl]
  generalize P i = p
  generalize P (i + 1) = q
  generalize P (i + 2) = r
  obtain ⟨x, y⟩ := q
  intro hu hv hne h4 hz
  simp only at h4 hu hv
  have z1 := hz (x, y + 1)
  have z2 := hz (x + 1, y)
  have z3 := hz (x, y - 1)
  have z4 := hz (x - 1, y)
  clear hz
  obtain ⟨f1, f2, f3, f4⟩ := h4
  rw [← f1] at z1
  rw [← f2] at z2
  rw [← f3] at z3
  rw [← f4] at z4
  clear f1 f2 f3 f4
  rcases hu with rfl | rfl | rfl | rfl <;> rcases hv with rfl | rfl | rfl | rfl <;>
    simp only [leftC_E, leftC_N, leftC_W, leftC_S, leftC_E', leftC_N', leftC_W', leftC_S', windC] <;>
    simp only [ne_eq, Prod.mk.injEq] at hne z1 z2 z3 z4 <;> omega
end
end Go.Proofs.Ytlkoadcbolkhoaa
