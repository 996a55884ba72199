/- What chains enclose, and how many cells: the implementation tells what the reference tells (plain). -/
import Derived.Test.YtlkoadcbolkhoaaRarea
set_option linter.all false
namespace Go.Proofs.Ytlkoadcbolkhoaa

/-! ### Sums along a chain -/
def sumL (F : Corner → Corner → Int) : Corner → List Nat → Int
  | _, [] => 0
  | p, b :: l => F p (stepC p b) + sumL F (stepC p b) l
theorem sumN_shift (f : Nat → Int) : ∀ n, sumN f (n + 1) = f 0 + sumN (fun i => f (i + 1)) n
  | 0 => by simp [sumN]
  | n + 1 => by
    rw [sumN, sumN_shift f n, sumN]
    omega
theorem posC_zero (p : Corner) (l : List Nat) : posC p l 0 = p := by cases l <;> rfl
theorem sumL_sumN (F : Corner → Corner → Int) : ∀ (l : List Nat) (p : Corner), sumL F p l = sumN (fun i => F (posC p l i) (posC p l (i + 1))) l.length
  | [], p => rfl
  | b :: l, p => by
    rw [List.length_cons, sumN_shift, sumL, sumL_sumN F l (stepC p b)]
    have e : posC p (b :: l) (0 + 1) = stepC p b := by show posC (stepC p b) l 0 = _; exact posC_zero _ _
    rw [e]
    rfl

/-! ### How many cells -/
theorem shoe_sum : ∀ (l : List Nat) (p : Corner), shoe p l = sumL (fun p q => p.1 * q.2 - p.2 * q.1) p l
  | [], _ => rfl
  | b :: l, p => by
    unfold shoe sumL
    rw [shoe_sum l (stepC p b)]
theorem shoe_step {p q : Corner} (h : Unit4 p q) : p.1 * q.2 - p.2 * q.1 = 2 * (p.1 * (q.2 - p.2)) - (q.1 * q.2 - p.1 * p.2) := by
  obtain ⟨a, b⟩ := p
  have hu := h.to
  simp only at hu
  rcases hu with rfl | rfl | rfl | rfl <;> simp only [Int.mul_add, Int.add_mul, Int.mul_sub, Int.sub_mul, Int.mul_one, Int.one_mul] <;> (have := Int.mul_comm b a) <;> omega
theorem area_step {p q : Corner} (h : Unit4 p q) : q.1 * (q.2 - p.2) = p.1 * (q.2 - p.2) := by
  obtain ⟨a, b⟩ := p
  have hu := h.to
  simp only at hu
  rcases hu with rfl | rfl | rfl | rfl <;> simp
theorem areaQ_N {P : Nat → Corner} {n : Nat} (h : Loop P n) : areaQ P n = areaN P n := sumN_congr fun i hi => area_step (h.u i hi)
theorem shoe_area {x y : Int} {s : ByteArray} (h : Loop (posC (x, y) (bytesL s)) s.size) : shoe (x, y) (bytesL s) = 2 * areaN (posC (x, y) (bytesL s)) s.size := by
  rw [shoe_sum, sumL_sumN, bytesL_len]
  have e := sumN_sub (fun i => 2 * ((posC (x, y) (bytesL s) i).1 * ((posC (x, y) (bytesL s) (i + 1)).2 - (posC (x, y) (bytesL s) i).2))) (fun i => (posC (x, y) (bytesL s) (i + 1)).1 * (posC (x, y) (bytesL s) (i + 1)).2 - (posC (x, y) (bytesL s) i).1 * (posC (x, y) (bytesL s) i).2) s.size
  rw [sumN_congr fun i hi => shoe_step (h.u i hi), e, sumN_mul, sumN_tele (fun i => (posC (x, y) (bytesL s) i).1 * (posC (x, y) (bytesL s) i).2), h.c]
  unfold areaN
  omega
theorem area_same (x y : Int) (s : ByteArray) : areaS x y s = 2 * areaR x y s := by
  unfold areaS areaR
  by_cases h : chainE x y s = 0
  · obtain ⟨h1, _⟩ := chain_loop h
    rw [if_pos h, if_pos h, shoe_area h1, areaQ_N h1]
  · rw [if_neg h, if_neg h]; rfl
theorem area_max (x y : Int) (s : ByteArray) : max (areaS x y s) (-areaS x y s) / 2 = max (areaR x y s) (-areaR x y s) := by
  rw [area_same]; omega
theorem area_sign (x y : Int) (s : ByteArray) : decide (0 < areaS x y s) = decide (0 < areaR x y s) := by
  rw [area_same]
  by_cases h : 0 < areaR x y s
  · rw [decide_eq_true h, decide_eq_true (by omega)]
  · rw [decide_eq_false h, decide_eq_false (by omega)]

/-! ### Which cells -/
theorem flipRow_at (row : Int) : ∀ (n : Nat) (l : List Int) (i : Nat), i < l.length → (flipRow row n l).getD i 0 = if row.toNat * 8 ≤ i ∧ i < row.toNat * 8 + n then 1 - l.getD i 0 else l.getD i 0
  | 0, l, i, hi => by unfold flipRow; rw [if_neg (by omega)]
  | n + 1, l, i, hi => by
    have ih := flipRow_at row n l
    unfold flipRow
    rw [List.getD_eq_getElem?_getD, List.getElem?_set]
    by_cases h : row.toNat * 8 + n = i
    · rw [if_pos h, if_pos (by rw [flipRow_len]; omega), ih _ (by omega), if_neg (by omega), if_pos (by omega)]
      rw [h]; rfl
    · rw [if_neg h, ← List.getD_eq_getElem?_getD, ih i hi]
      by_cases k : row.toNat * 8 ≤ i ∧ i < row.toNat * 8 + n
      · rw [if_pos k, if_pos (by omega)]
      · rw [if_neg k, if_neg (by omega)]
def crossF (x y : Int) (p q : Corner) : Int := if q.1 = p.1 ∧ x < q.1 ∧ min q.2 p.2 = y then 1 else 0
theorem encF_len : ∀ (l : List Nat) (p : Corner) (L : List Int), (encF p l L).length = L.length
  | [], _, _ => rfl
  | b :: l, p, L => by
    unfold encF
    rw [encF_len l]
    split
    · exact flipRow_len _ _ _
    · rfl
theorem encF_at {x y : Nat} (hx : x < 8) (hy : y < 8) : ∀ (l : List Nat) (p : Corner) (L : List Int), L.length = 64 → (L.getD (y * 8 + x) 0 = 0 ∨ L.getD (y * 8 + x) 0 = 1) → (∀ i, i ≤ l.length → inC (posC p l i) = true) →
    (encF p l L).getD (y * 8 + x) 0 = (L.getD (y * 8 + x) 0 + sumL (crossF x y) p l) % 2
  | [], p, L, hL, hb, _ => by unfold encF sumL; omega
  | b :: l, p, L, hL, hb, hin => by
    have h0 := inC_bd (hin 0 (by omega))
    have h1 := inC_bd (hin 1 (by simp))
    rw [posC_zero] at h0
    rw [show posC p (b :: l) 1 = stepC p b from posC_zero _ _] at h1
    have hrest : ∀ i, i ≤ l.length → inC (posC (stepC p b) l i) = true := fun i hi => hin (i + 1) (by simpa using hi)
    unfold encF sumL
    obtain ⟨q, hq⟩ : ∃ q, stepC p b = q := ⟨_, rfl⟩
    rw [hq] at h1 hrest ⊢
    have hlt : y * 8 + x < L.length := by omega
    by_cases hv : p.1 = q.1
    · rw [if_pos hv]
      have hf := flipRow_at (min p.2 q.2) p.1.toNat L (y * 8 + x) hlt
      have hcf : crossF x y p q = if (min p.2 q.2).toNat * 8 ≤ y * 8 + x ∧ y * 8 + x < (min p.2 q.2).toNat * 8 + p.1.toNat then 1 else 0 := by
        unfold crossF
        by_cases k : q.1 = p.1 ∧ (x : Int) < q.1 ∧ min q.2 p.2 = (y : Int)
        · rw [if_pos k, if_pos (by omega)]
        · rw [if_neg k, if_neg]
          intro hk
          apply k
          refine ⟨hv.symm, ?_, ?_⟩ <;> omega
      rw [encF_at hx hy l q _ (by rw [flipRow_len, hL]) (by rw [hf]; split <;> omega) hrest, hf, hcf]
      split <;> omega
    · rw [if_neg hv, encF_at hx hy l q L hL hb hrest]
      have : crossF x y p q = 0 := by unfold crossF; rw [if_neg (fun h => hv h.1.symm)]
      rw [this]; omega
theorem pickC_congr {p q : Int → Bool} {k : Nat} (h : ∀ i : Nat, i < k → p i = q i) : pickC p k = pickC q k := by
  unfold pickC
  refine List.filter_congr fun x hx => ?_
  rw [List.mem_map] at hx
  obtain ⟨i, hi, rfl⟩ := hx
  exact h i (by simpa using hi)
theorem encl_same (x y : Int) (s : ByteArray) : enclL x y s = enclR x y s := by
  unfold enclL enclR
  by_cases h : chainE x y s = 0
  · rw [if_pos h, if_pos h]
    obtain ⟨h1, hb⟩ := chain_loop h
    refine pickC_congr fun i hi => ?_
    have hin : ∀ k, k ≤ (bytesL s).length → inC (posC (x, y) (bytesL s) k) = true := fun k hk => by
      rw [bytesL_len] at hk
      have := hb k hk
      unfold inC
      simp; omega
    have e := encF_at (x := i % 8) (y := i / 8) (by omega) (by omega) (bytesL s) (x, y) (List.replicate 64 0) (by simp) (by rw [List.getD_eq_getElem?_getD, List.getElem?_replicate]; split <;> simp) hin
    rw [show i / 8 * 8 + i % 8 = i by omega] at e
    rw [show (List.replicate 64 (0 : Int)).getD i 0 = 0 by rw [List.getD_eq_getElem?_getD, List.getElem?_replicate]; split <;> simp, sumL_sumN, bytesL_len] at e
    unfold enclP
    rw [Int.toNat_natCast, e]
    have ec : sumN (fun j => crossF ((i % 8 : Nat) : Int) ((i / 8 : Nat) : Int) (posC (x, y) (bytesL s) j) (posC (x, y) (bytesL s) (j + 1))) s.size = crossQ (posC (x, y) (bytesL s)) ((i : Int) % 8) ((i : Int) / 8) s.size := rfl
    rw [ec, Int.zero_add]
  · rw [if_neg h, if_neg h]
end Go.Proofs.Ytlkoadcbolkhoaa
