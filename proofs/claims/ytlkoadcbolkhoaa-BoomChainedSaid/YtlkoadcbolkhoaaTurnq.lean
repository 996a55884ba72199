/- A chain encloses as many cells as its area says, with as many sticks as it has; so when it is turned (plain). -/
import Derived.Test.YtlkoadcbolkhoaaTurnp
set_option linter.all false
namespace Go.Proofs.Ytlkoadcbolkhoaa

/-! ### A turned chain -/
theorem sumL_neg (F : Corner → Corner → Int) : ∀ (l : List Nat) (p : Corner), sumL (fun p q => - F p q) p l = - sumL F p l
  | [], _ => rfl
  | b :: l, p => by
    unfold sumL
    rw [sumL_neg F l]; omega
theorem sumL_congr {F G : Corner → Corner → Int} (h : ∀ p q, F p q = G p q) (l : List Nat) (p : Corner) : sumL F p l = sumL G p l := by
  have : F = G := funext fun p => funext fun q => h p q
  rw [this]
section
variable {x y : Int} {l : List UInt8} {f : Nat} {back : Bool}
theorem turn_size (f : Nat) (back : Bool) (l : List UInt8) (hf : f < l.length) : (turnU f back l).length = l.length := by
  unfold turnU revU rotU
  split <;> simp <;> omega
theorem crossF_swap (x y : Int) (p q : Corner) : crossF x y q p = crossF x y p q := by
  unfold crossF
  by_cases h : q.1 = p.1
  · rw [h, Int.min_comm]
  · rw [if_neg (fun k => h k.1.symm), if_neg (fun k => h k.1)]
theorem turn_encl (h : chainE x y ⟨l.toArray⟩ = 0) (hf : f < l.length) : enclL (posC (x, y) (l.map UInt8.toNat) f).1 (posC (x, y) (l.map UInt8.toNat) f).2 ⟨(turnU f back l).toArray⟩ = enclL x y ⟨l.toArray⟩ := by
  obtain ⟨hok, hsum⟩ := turn_known h hf back
  rw [encl_same, encl_same]
  unfold enclR
  rw [if_pos hok, if_pos h]
  refine pickC_congr fun i hi => ?_
  unfold enclP
  have e1 : crossQ (posC (posC (x, y) (l.map UInt8.toNat) f) ((turnU f back l).map UInt8.toNat)) ((i : Int) % 8) ((i : Int) / 8) l.length = crossQ (posC (x, y) (l.map UInt8.toNat)) ((i : Int) % 8) ((i : Int) / 8) l.length := by
    have a := sumL_sumN (crossF ((i : Int) % 8) ((i : Int) / 8)) ((turnU f back l).map UInt8.toNat) (posC (x, y) (l.map UInt8.toNat) f)
    have b := sumL_sumN (crossF ((i : Int) % 8) ((i : Int) / 8)) (l.map UInt8.toNat) (x, y)
    rw [hsum] at a
    rw [sumL_congr (G := crossF ((i : Int) % 8) ((i : Int) / 8)) (fun p q => by cases back; rfl; exact crossF_swap _ _ p q), b] at a
    rw [List.length_map, List.length_map, turn_size f back l hf] at a
    exact a.symm
  have hs1 : (ByteArray.mk (turnU f back l).toArray).size = l.length := by show (turnU f back l).toArray.size = _; simp [turn_size f back l hf]
  have hs2 : (ByteArray.mk l.toArray).size = l.length := rfl
  rw [bytesL_list, bytesL_list, hs1, hs2, e1]
theorem turn_area (h : chainE x y ⟨l.toArray⟩ = 0) (hf : f < l.length) : areaS (posC (x, y) (l.map UInt8.toNat) f).1 (posC (x, y) (l.map UInt8.toNat) f).2 ⟨(turnU f back l).toArray⟩ = if back = true then - areaS x y ⟨l.toArray⟩ else areaS x y ⟨l.toArray⟩ := by
  obtain ⟨hok, hsum⟩ := turn_known h hf back
  unfold areaS
  rw [if_pos hok, if_pos h, shoe_sum, shoe_sum, bytesL_list, bytesL_list, hsum]
  cases back with
  | false => simp
  | true =>
    simp only [if_true]
    rw [← sumL_neg]
    exact sumL_congr (fun p q => by rw [Int.mul_comm q.1, Int.mul_comm q.2]; omega) _ _
end

/-! ### Its cells -/
theorem sumN_blocks (f : Nat → Int) : ∀ m : Nat, sumN f (m * 8) = sumN (fun y => sumN (fun x => f (y * 8 + x)) 8) m
  | 0 => by rw [Nat.zero_mul]; rfl
  | m + 1 => by
    rw [sumN, ← sumN_blocks f m, Nat.succ_mul]
    show sumN f (m * 8) + f (m * 8) + f (m * 8 + 1) + f (m * 8 + 2) + f (m * 8 + 3) + f (m * 8 + 4) + f (m * 8 + 5) + f (m * 8 + 6) + f (m * 8 + 7) = sumN f (m * 8) + (0 + f (m * 8) + f (m * 8 + 1) + f (m * 8 + 2) + f (m * 8 + 3) + f (m * 8 + 4) + f (m * 8 + 5) + f (m * 8 + 6) + f (m * 8 + 7))
    omega
theorem sumN_64 (f : Nat → Int) : sumN f 64 = sumN (fun y => sumN (fun x => f (y * 8 + x)) 8) 8 := sumN_blocks f 8
theorem pick_length (p : Int → Bool) : ∀ n : Nat, ((pickC p n).length : Int) = sumN (fun i => if p (i : Int) = true then 1 else 0) n
  | 0 => rfl
  | n + 1 => by
    rw [sumN, ← pick_length p n]
    cases h : p (n : Int) with
    | true => rw [pickC_yes h]; simp
    | false => rw [pickC_no h]; simp
section
variable {P : Nat → Corner} {n : Nat}
theorem sumN_even {f g : Nat → Int} : ∀ {n : Nat}, (∀ i, i < n → (f i - g i) % 2 = 0) → (sumN f n - sumN g n) % 2 = 0
  | 0, _ => rfl
  | n + 1, h => by
    have h1 := sumN_even (n := n) fun i hi => h i (by omega)
    have h2 := h n (by omega)
    rw [sumN, sumN]; omega
theorem cross_wind (h : Loop P n) (x y : Int) : (crossQ P x y n - wind P n x y) % 2 = 0 := by
  refine sumN_even fun i hi => ?_
  have hu := (h.u i hi).to
  revert hu
  generalize P i = p
  generalize P (i + 1) = q
  obtain ⟨a, b⟩ := p
  intro hu
  unfold wv
  simp only at hu
  rcases hu with rfl | rfl | rfl | rfl <;> simp only [true_and] <;> (repeat' split) <;> omega
theorem encl_wind (h : Loop P n) (hb : InBox P n 0 8 0 8) {x y : Nat} (hx : x < 8) (hy : y < 8) : enclP P n ((y * 8 + x : Nat) : Int) = decide (wind P n x y ≠ 0) := by
  obtain ⟨s, hs, hw, _⟩ := loop_sign h hb
  have hc := cross_wind h (x : Int) (y : Int)
  have hk := hw (x : Int) (y : Int)
  unfold enclP
  rw [show ((y * 8 + x : Nat) : Int) % 8 = x by omega, show ((y * 8 + x : Nat) : Int) / 8 = y by omega]
  by_cases h0 : wind P n x y = 0
  · rw [decide_eq_false (by omega), decide_eq_false (fun k => k h0)]
  · rw [decide_eq_true h0, decide_eq_true (by omega)]
theorem encl_count (h : Loop P n) (hb : InBox P n 0 8 0 8) : ((pickC (enclP P n) 64).length : Int) = insideN P n := by
  rw [pick_length, sumN_64]
  unfold insideN gridS
  refine sumN_congr fun y hy => sumN_congr fun x hx => ?_
  rw [encl_wind h hb hx hy]
  dsimp only
  by_cases h0 : wind P n x y = 0
  · rw [if_pos h0, if_neg (by simp [h0])]
  · rw [if_neg h0, if_pos (by simp [h0])]
theorem inside_pos (h : Loop P n) (hb : InBox P n 0 8 0 8) : 1 ≤ insideN P n := by
  have hn := h.n4
  have hst := sticks_grid h hb
  by_cases hk : 1 ≤ insideN P n
  · exact hk
  · exfalso
    have hz : ∀ y : Nat, y < 8 → ∀ x : Nat, x < 8 → wind P n x y = 0 := by
      have hin : insideN P n = sumN (fun y => sumN (fun x => if wind P n (x : Int) (y : Int) = 0 then 0 else 1) 8) 8 := rfl
      have hnn : ∀ y : Nat, y < 8 → 0 ≤ sumN (fun x => if wind P n (x : Int) (y : Int) = 0 then 0 else 1) 8 := fun y _ => by
        have := sumN_le (f := fun _ => 0) (g := fun x => if wind P n (x : Int) (y : Int) = 0 then 0 else 1) (n := 8) fun x _ => by split <;> omega
        rwa [sumN_zero _ _ fun _ _ => rfl] at this
      have h0 : sumN (fun _ => 0) 8 = sumN (fun y => sumN (fun x => if wind P n (x : Int) (y : Int) = 0 then 0 else 1) 8) 8 := by
        have := sumN_le (f := fun _ => 0) (n := 8) hnn
        rw [sumN_zero _ _ fun _ _ => rfl] at this ⊢
        omega
      intro y hy x hx
      have h1 := sumN_le_eq hnn h0 y hy
      have h2 := sumN_le_eq (f := fun _ => 0) (g := fun x => if wind P n (x : Int) (y : Int) = 0 then 0 else 1) (n := 8) (fun x _ => by split <;> omega) (by rw [sumN_zero _ _ fun _ _ => rfl]; exact h1) x hx
      by_cases h3 : wind P n x y = 0
      · exact h3
      · rw [if_neg h3] at h2; omega
    have : gridS (fun x y => if wind P n x y = 0 then 0 else outN P n x y) = 0 := by
      unfold gridS
      refine sumN_zero _ _ fun y hy => sumN_zero _ _ fun x hx => ?_
      dsimp only
      rw [if_pos (hz y hy x hx)]
    rw [this] at hst
    omega
end

/-! ### Its sticks -/
theorem board8 : Board 8 8 := ⟨by decide, by decide⟩
theorem chain_sticks {P : Nat → Corner} {n : Nat} (h : Loop P n) (hb : InBox P n 0 8 0 8) : stickN 8 8 (pickC (enclP P n) 64) (pickC (enclP P n) 64) = n := by
  rw [stick_cut (pick_list _ _ _ (by decide)), cutX_congr board8 (Y := enclP P n) fun c hc => pick_has _ _ ⟨hc.1, hc.2⟩]
  have e64 : ((8 : Int) * 8).toNat = 64 := rfl
  unfold cutX
  rw [e64]
  show sumN (fun i => _) 64 = _
  rw [sumN_64, ← sticks_grid h hb]
  unfold gridS
  refine sumN_congr fun y hy => sumN_congr fun x hx => ?_
  dsimp only
  rw [encl_wind h hb hx hy]
  have hc : ((y * 8 + x : Nat) : Int) = (y : Int) * 8 + x := by omega
  have out : ∀ d : Int, ∀ nx ny : Int, (nbr 8 8 ((y * 8 + x : Nat) : Int) d = if (0 ≤ nx ∧ nx < 8) ∧ (0 ≤ ny ∧ ny < 8) then ny * 8 + nx else -1) → (if outS 8 8 (enclP P n) ((y * 8 + x : Nat) : Int) d = true then (1 : Int) else 0) = if wind P n nx ny = 0 then 1 else 0 := fun d nx ny hnb => by
    unfold outS
    by_cases hin : (0 ≤ nx ∧ nx < 8) ∧ (0 ≤ ny ∧ ny < 8)
    · rw [if_pos hin] at hnb
      have e := encl_wind h hb (x := nx.toNat) (y := ny.toNat) (by omega) (by omega)
      rw [show ((ny.toNat * 8 + nx.toNat : Nat) : Int) = ny * 8 + nx by omega, show ((nx.toNat : Nat) : Int) = nx by omega, show ((ny.toNat : Nat) : Int) = ny by omega] at e
      rw [hnb, decide_eq_false (by omega), Bool.false_or, e]
      by_cases h0 : wind P n nx ny = 0
      · rw [if_pos h0]; simp [h0]
      · rw [if_neg h0]; simp [h0]
    · rw [if_neg hin] at hnb
      rw [hnb, decide_eq_true (by decide), Bool.true_or, if_pos rfl]
      by_cases h0 : wind P n nx ny = 0
      · rw [if_pos h0]
      · exact absurd (wind_in h hb h0) hin
  have nb := fun d => nbr_at (wd := 8) (hg := 8) (x := (x : Int)) (y := (y : Int)) (d := d) (by omega)
  have o0 := out 0 ((x : Int) + 1) y (by rw [hc, nb]; simp only [if_true]; (repeat' split) <;> omega)
  have o1 := out 1 x ((y : Int) + 1) (by rw [hc, nb]; simp only [if_true, if_neg (show ¬ (1 : Int) = 0 by decide)]; (repeat' split) <;> omega)
  have o2 := out 2 ((x : Int) - 1) y (by rw [hc, nb]; simp only [if_true, if_neg (show ¬ (2 : Int) = 0 by decide), if_neg (show ¬ (2 : Int) = 1 by decide)]; (repeat' split) <;> omega)
  have o3 := out 3 x ((y : Int) - 1) (by rw [hc, nb]; simp only [if_neg (show ¬ (3 : Int) = 0 by decide), if_neg (show ¬ (3 : Int) = 1 by decide), if_neg (show ¬ (3 : Int) = 2 by decide)]; (repeat' split) <;> omega)
  by_cases h0 : wind P n x y = 0
  · rw [if_neg (by simp [h0]), if_pos h0]
  · rw [if_pos (by simp [h0]), if_neg h0]
    unfold dsum outN
    dsimp only
    rw [o0, o1, o2, o3]

/-! ### All of it -/
section
variable {x y : Int} {s : ByteArray}
theorem chain_count (h : chainE x y s = 0) : max (areaS x y s) (-areaS x y s) / 2 = ((enclL x y s).length : Int) ∧ areaS x y s ≠ 0 := by
  obtain ⟨hl, hb⟩ := chain_loop h
  obtain ⟨g, hg, hw, _⟩ := loop_sign hl hb
  have e1 : areaS x y s = 2 * (g * insideN (posC (x, y) (bytesL s)) s.size) := by
    rw [area_same]
    unfold areaR
    rw [if_pos h, areaQ_N hl, area_inside hl hb hg hw]
  have e2 : ((enclL x y s).length : Int) = insideN (posC (x, y) (bytesL s)) s.size := by
    rw [encl_same]
    unfold enclR
    rw [if_pos h, encl_count hl hb]
  have hp := inside_pos hl hb
  rw [e1, e2]
  rcases hg with rfl | rfl <;> constructor <;> omega
theorem chain_water (h : chainE x y s = 0) : sticksE 8 8 (enclL x y s) [] (enclL x y s) = 0 ∧ sticksV 8 8 (enclL x y s) [] (enclL x y s) = s.size := by
  obtain ⟨hl, hb⟩ := chain_loop h
  have e : enclL x y s = pickC (enclP (posC (x, y) (bytesL s)) s.size) 64 := by rw [encl_same]; unfold enclR; rw [if_pos h]
  have hls : listB (8 * 8) 0 (enclL x y s) = true := by rw [e]; exact pick_list _ _ _ (by decide)
  have hst := chain_sticks hl hb
  rw [← e] at hst
  have hp : pondE 8 8 (enclL x y s) [] = 0 := by
    unfold pondE
    rw [if_neg (by decide), if_neg (by rintro (k | k); rw [hls] at k; cases k; cases k), if_neg (by simp)]
  have he : sticksE 8 8 (enclL x y s) [] (enclL x y s) = 0 := by
    unfold sticksE
    rw [if_neg (by simp [hp]), if_neg (by rw [hls]; simp), if_neg]
    unfold enclB
    simp
  exact ⟨he, by unfold sticksV; rw [if_pos he, hst]⟩
end
end Go.Proofs.Ytlkoadcbolkhoaa
