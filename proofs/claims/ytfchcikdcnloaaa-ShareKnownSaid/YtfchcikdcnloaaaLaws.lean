/- ShareKnown: the examples of the chapter. -/
import Derived.Test.YtfchcikdcnloaaaLawb
import Derived.Test.YtfchcikdcnloaaaRegs
import Derived.Test.YtfchcikdcnloaaaQuota
import Derived.Deep.Cut
namespace Go.Proofs.Ytfchcikdcnloaaa
open Go Go.RowKit Go.Proofs
attribute [local go_sem] cell_grow frozen_grow

theorem kn_a : sharesE [10, 10, 10] 50 4 = [2, 1, 1] := by kernel_rfl
theorem kn_e2 : checkSharesE [10, 10, 10] 50 4 [2, 2, 0] = 22 := by kernel_rfl
theorem kn_e3 : checkSharesE [10, 10, 10] 50 4 [1, 1, 1] = 14 := by kernel_rfl
theorem kn_lo : divLo [10, 10, 10] 50 4 [2, 1, 1] = (20, 3) := by kernel_rfl
theorem kn_hi : divHi [10, 10, 10] 50 4 [2, 1, 1] = (20, 3) := by kernel_rfl
theorem kn_e4 : divisorsE [10, 10, 10] 50 4 [2, 1, 1] = 0 := by kernel_rfl
theorem kn_e5 : checkDivisorE [53, 24, 23] 50 10 [6, 2, 2] 0 1 = 2 := by kernel_rfl
theorem kn_n : countE [53, 24, 23] 50 10 = 1 := by kernel_rfl
theorem kn_s : spanR [53, 24, 23] 50 10 0 = (6, 6) := by kernel_rfl
theorem kn_se : ownedE [53, 24, 23] 50 10 0 = 0 := by kernel_rfl
theorem kn_q : quotaR [53, 24, 23] 50 10 1 = (2, 3) := by kernel_rfl
theorem kn_qe : ownedE [53, 24, 23] 50 10 1 = 0 := by kernel_rfl
theorem kn_r : quotaR [10, 10, 10] 50 4 2 = (1, 2) := by kernel_rfl
theorem kn_re : ownedE [10, 10, 10] 50 4 2 = 0 := by kernel_rfl

set_option maxRecDepth 100000 in
set_option maxHeartbeats 16000000 in
theorem shareKnown_any (w : World) : Calls Try.prog 16 #[] w fun e w' => e = .returned (.bool true) ∧ Below w.heap.size w w' := by
  go_enter Try.func16, Try.ntmps16
  go_wp2_with fail
  refine (pool_any 50 _).mono ?_
  rintro e w1 ⟨⟨vp, rfl, hI1⟩, hb1⟩
  go_wp2_with fail
  refine (tied_any _).mono ?_
  rintro e w2 ⟨⟨vt, rfl, hI2⟩, hb2⟩
  have hB2 := bl_trans hb1 hb2
  obtain ⟨Ap, cp, rfl⟩ := hI1.slice
  obtain ⟨At, ct, rfl⟩ := hI2.slice
  have hI1' := hI1.mono hb2
  simp only [List.length_cons, List.length_nil, Nat.zero_add, Nat.reduceAdd] at hI1' hI2
  clear hI1
  go_upto_region 2 with (fail)
  obtain ⟨w3, hw3⟩ : ∃ w3, (w2.alloc (.cells #[.slice Ap 3 cp, .int .i64 50, .int .i64 10] 24)).alloc (.cells #[.slice At 3 ct, .int .i64 50, .int .i64 4] 24) = w3 := ⟨_, rfl⟩
  have hb3 : Below w2.heap.size w2 w3 := by rw [← hw3]; exact bl_alloc (bl_alloc (bl_refl _) _) _
  have HP : Hid (∀ W, Below w3.heap.size w3 W → Ints W (.slice Ap 3 cp) [53, 24, 23] ∧ Ints W (.slice At 3 ct) [10, 10, 10] ∧
      (∀ i, W.cell? ⟨w2.heap.size, i, none⟩ = #[Value.slice Ap 3 cp, .int .i64 50, .int .i64 10][i]?) ∧ (∀ i, W.cell? ⟨w2.heap.size + 1, i, none⟩ = #[Value.slice At 3 ct, .int .i64 50, .int .i64 4][i]?) ∧ w2.heap.size + 1 < W.heap.size) := fun W hW => by
    have hW2 := bl_trans hb3 hW
    rw [← hw3] at hW
    have h1 := (new_cells (w := w2) (bl_trans (bl_alloc (bl_refl _) _) hW)).1
    have h2 := (new_cells (w := w2.alloc _) hW).1
    rw [World.size_alloc] at h2
    have := hW.size
    simp only [World.size_alloc] at this
    exact ⟨hI1'.mono hW2, hI2.mono hW2, h1, h2, by omega⟩
  rw [hw3]
  have hB3 := bl_trans hB2 hb3
  clear hw3 hI1' hI2 hb1 hb2 hb3 hB2
  obtain ⟨hp3, ht3, hcp3, hct3, hz3⟩ := HP.out w3 (bl_refl _)
  go_wp2_with fail
  refine (shares_any _ 50 4 _ _ (by simp) ht3).mono ?_
  rintro e w4 ⟨⟨va, rfl, hIa⟩, hb34⟩
  rw [kn_a] at hIa
  rw [know_t]
  clear hp3 ht3 hcp3 hct3 hz3
  have HA := hid hIa
  clear hIa
  go_upto_region 3 with (fail)
  refine wp_region_vals [27, 28, 29, 30, 31, 32, 33, 34, 5, 6] (fun seen u W => (seen 0 = true → u 27 = .agg #[.slice At 3 ct, .int .i64 50, .int .i64 4]) ∧
    (seen 1 = true → RowAt w4.heap.size W (u 28) 2 #[.int .i64 2, .int .i64 2, .int .i64 0]) ∧
    (seen 2 = true → RowAt w4.heap.size W (u 29) 2 #[.int .i64 2, .int .i64 2, .int .i64 0]) ∧
    (seen 3 = true → u 30 = .int .i64 22) ∧
    (seen 4 = true → u 31 = .agg #[.slice At 3 ct, .int .i64 50, .int .i64 4]) ∧
    (seen 5 = true → RowAt w4.heap.size W (u 32) 2 #[.int .i64 1, .int .i64 1, .int .i64 1]) ∧
    (seen 6 = true → RowAt w4.heap.size W (u 33) 2 #[.int .i64 1, .int .i64 1, .int .i64 1]) ∧
    (seen 7 = true → u 34 = .int .i64 14) ∧
    (seen 8 = true → u 5 = .int .i64 22) ∧
    (seen 9 = true → u 6 = .int .i64 14))
    (by kernel_rfl) (by kernel_rfl) (by kernel_rfl) (by simp) (by simp) ?_ ?_
  · intro i o ho seen a' w9 hb9 ⟨F0, F1, F2, F3, F4, F5, F6, F7, F8, F9⟩ hv hsi hdep
    obtain ⟨hp9, ht9, hcp9, hct9, hz9⟩ := HP.out w9 (bl_trans hb34 hb9)
    rcases i with _ | _ | _ | _ | _ | _ | _ | _ | _ | _ | i <;> simp only [List.getElem?_cons_zero, List.getElem?_cons_succ, List.getElem?_nil, Option.some.injEq, reduceCtorEq] at ho <;> subst ho
    · have x2 := val_at (hv 2 (by simp))
      simp [valsOf] at x2
      refine wp_value (.agg #[.slice At 3 ct, .int .i64 50, .int .i64 4]) (w' := w9) (by simp [execOp, x2, go_sem, hct9]) ⟨_, rfl, hb9, ?_⟩
      exact ⟨by simp, by simpa using F1, by simpa using F2, by simpa using F3, by simpa using F4, by simpa using F5, by simpa using F6, by simpa using F7, by simpa using F8, by simpa using F9⟩
    · have hg : Below w9.heap.size w9 (w9.alloc (.cells #[.int .i64 2, .int .i64 2, .int .i64 0] 2)) := bl_alloc (bl_refl _) _
      refine wp_value (.slice (some ⟨w9.heap.size, 0, none⟩) 3 3) (w' := w9.alloc (.cells #[.int .i64 2, .int .i64 2, .int .i64 0] 2)) (by simp [execOp, go_sem]) ⟨_, rfl, bl_trans hb9 hg, ?_⟩
      have hn : RowAt w4.heap.size (w9.alloc (.cells #[.int .i64 2, .int .i64 2, .int .i64 0] 2)) (.slice (some ⟨w9.heap.size, 0, none⟩) 3 3) 2 #[.int .i64 2, .int .i64 2, .int .i64 0] := RowAt.new (by have := hb9.size; omega)
      exact ⟨by simpa using F0, by simpa using hn, by simpa using fun h => (F2 h).mono hg, by simpa using F3, by simpa using F4, by simpa using fun h => (F5 h).mono hg, by simpa using fun h => (F6 h).mono hg, by simpa using F7, by simpa using F8, by simpa using F9⟩
    · have d1 := hdep ⟨1, .data⟩ (by simp) rfl
      refine wp_calls (f := 49) (args := #[valsOf a' 28]) (w' := w9) (by simp [go_sem, valsOf]) (of_any _ _) ?_
      rintro e w10 ⟨rfl, rfl⟩
      refine ⟨_, rfl, _, rfl, hb9, ?_⟩
      exact ⟨by simpa using F0, by simpa using F1, by simpa using F1 d1, by simpa using F3, by simpa using F4, by simpa using F5, by simpa using F6, by simpa using F7, by simpa using F8, by simpa using F9⟩
    · have d0 := hdep ⟨0, .data⟩ (by simp) rfl
      have e0 := val_at (F0 d0)
      have d2 := hdep ⟨2, .data⟩ (by simp) rfl
      refine wp_calls (f := 21) (args := #[.agg #[.slice At 3 ct, .int .i64 50, .int .i64 4], valsOf a' 29]) (w' := w9) (by simp [e0, go_sem, valsOf]) (by have q := checkShares_any [10, 10, 10] 50 4 [2, 2, 0] _ _ w9 (by simp) (by simp) ht9 (F2 d2).ints; rw [kn_e2] at q; exact q) ?_
      rintro e w10 ⟨rfl, hg⟩
      refine ⟨_, rfl, _, rfl, bl_trans hb9 hg, ?_⟩
      exact ⟨by simpa using F0, by simpa using fun h => (F1 h).mono hg, by simpa using fun h => (F2 h).mono hg, by simp, by simpa using F4, by simpa using fun h => (F5 h).mono hg, by simpa using fun h => (F6 h).mono hg, by simpa using F7, by simpa using F8, by simpa using F9⟩
    · have x2 := val_at (hv 2 (by simp))
      simp [valsOf] at x2
      refine wp_value (.agg #[.slice At 3 ct, .int .i64 50, .int .i64 4]) (w' := w9) (by simp [execOp, x2, go_sem, hct9]) ⟨_, rfl, hb9, ?_⟩
      exact ⟨by simpa using F0, by simpa using F1, by simpa using F2, by simpa using F3, by simp, by simpa using F5, by simpa using F6, by simpa using F7, by simpa using F8, by simpa using F9⟩
    · have hg : Below w9.heap.size w9 (w9.alloc (.cells #[.int .i64 1, .int .i64 1, .int .i64 1] 2)) := bl_alloc (bl_refl _) _
      refine wp_value (.slice (some ⟨w9.heap.size, 0, none⟩) 3 3) (w' := w9.alloc (.cells #[.int .i64 1, .int .i64 1, .int .i64 1] 2)) (by simp [execOp, go_sem]) ⟨_, rfl, bl_trans hb9 hg, ?_⟩
      have hn : RowAt w4.heap.size (w9.alloc (.cells #[.int .i64 1, .int .i64 1, .int .i64 1] 2)) (.slice (some ⟨w9.heap.size, 0, none⟩) 3 3) 2 #[.int .i64 1, .int .i64 1, .int .i64 1] := RowAt.new (by have := hb9.size; omega)
      exact ⟨by simpa using F0, by simpa using fun h => (F1 h).mono hg, by simpa using fun h => (F2 h).mono hg, by simpa using F3, by simpa using F4, by simpa using hn, by simpa using fun h => (F6 h).mono hg, by simpa using F7, by simpa using F8, by simpa using F9⟩
    · have d5 := hdep ⟨5, .data⟩ (by simp) rfl
      refine wp_calls (f := 49) (args := #[valsOf a' 32]) (w' := w9) (by simp [go_sem, valsOf]) (of_any _ _) ?_
      rintro e w10 ⟨rfl, rfl⟩
      refine ⟨_, rfl, _, rfl, hb9, ?_⟩
      exact ⟨by simpa using F0, by simpa using F1, by simpa using F2, by simpa using F3, by simpa using F4, by simpa using F5, by simpa using F5 d5, by simpa using F7, by simpa using F8, by simpa using F9⟩
    · have d4 := hdep ⟨4, .data⟩ (by simp) rfl
      have e4 := val_at (F4 d4)
      have d6 := hdep ⟨6, .data⟩ (by simp) rfl
      refine wp_calls (f := 21) (args := #[.agg #[.slice At 3 ct, .int .i64 50, .int .i64 4], valsOf a' 33]) (w' := w9) (by simp [e4, go_sem, valsOf]) (by have q := checkShares_any [10, 10, 10] 50 4 [1, 1, 1] _ _ w9 (by simp) (by simp) ht9 (F6 d6).ints; rw [kn_e3] at q; exact q) ?_
      rintro e w10 ⟨rfl, hg⟩
      refine ⟨_, rfl, _, rfl, bl_trans hb9 hg, ?_⟩
      exact ⟨by simpa using F0, by simpa using fun h => (F1 h).mono hg, by simpa using fun h => (F2 h).mono hg, by simpa using F3, by simpa using F4, by simpa using fun h => (F5 h).mono hg, by simpa using fun h => (F6 h).mono hg, by simp, by simpa using F8, by simpa using F9⟩
    · have d3 := hdep ⟨3, .data⟩ (by simp) rfl
      have e3 := val_at (F3 d3)
      refine wp_value (.int .i64 22) (w' := w9) (by simp [execOp, e3, go_sem]) ⟨_, rfl, hb9, ?_⟩
      exact ⟨by simpa using F0, by simpa using F1, by simpa using F2, by simpa using F3, by simpa using F4, by simpa using F5, by simpa using F6, by simpa using F7, by simp, by simpa using F9⟩
    · have d7 := hdep ⟨7, .data⟩ (by simp) rfl
      have e7 := val_at (F7 d7)
      refine wp_value (.int .i64 14) (w' := w9) (by simp [execOp, e7, go_sem]) ⟨_, rfl, hb9, ?_⟩
      exact ⟨by simpa using F0, by simpa using F1, by simpa using F2, by simpa using F3, by simpa using F4, by simpa using F5, by simpa using F6, by simpa using F7, by simpa using F8, by simp⟩
  intro u w5 hb5 seen hall ⟨F0, F1, F2, F3, F4, F5, F6, F7, F8, F9⟩
  replace F0 := F0 (hall 0 (by decide))
  replace F1 := F1 (hall 1 (by decide))
  replace F2 := F2 (hall 2 (by decide))
  replace F3 := F3 (hall 3 (by decide))
  replace F4 := F4 (hall 4 (by decide))
  replace F5 := F5 (hall 5 (by decide))
  replace F6 := F6 (hall 6 (by decide))
  replace F7 := F7 (hall 7 (by decide))
  replace F8 := F8 (hall 8 (by decide))
  replace F9 := F9 (hall 9 (by decide))
  simp only [setAll, F0, F3, F4, F7, F8, F9]
  obtain ⟨u28, h28⟩ : ∃ x, u 28 = x := ⟨_, rfl⟩
  obtain ⟨u29, h29⟩ : ∃ x, u 29 = x := ⟨_, rfl⟩
  obtain ⟨u32, h32⟩ : ∃ x, u 32 = x := ⟨_, rfl⟩
  obtain ⟨u33, h33⟩ : ∃ x, u 33 = x := ⟨_, rfl⟩
  rw [h28, h29, h32, h33]
  clear h28 h29 h32 h33 F0 F1 F2 F3 F4 F5 F6 F7 F8 F9 hall seen
  have hb35 := bl_trans hb34 hb5
  go_upto_region 4 with (fail)
  refine wp_region_vals [36, 37, 38, 39, 35, 40, 41, 42, 7, 8, 9] (fun seen u W => (seen 0 = true → u 36 = .agg #[.slice At 3 ct, .int .i64 50, .int .i64 4]) ∧
    (seen 1 = true → RowAt w5.heap.size W (u 37) 2 #[.int .i64 2, .int .i64 1, .int .i64 1]) ∧
    (seen 2 = true → RowAt w5.heap.size W (u 38) 2 #[.int .i64 2, .int .i64 1, .int .i64 1]) ∧
    (seen 3 = true → u 39 = .tuple #[.agg #[.int .i64 20, .int .i64 3], .agg #[.int .i64 20, .int .i64 3], .int .i64 0]) ∧
    (seen 4 = true → u 35 = .tuple #[.agg #[.int .i64 20, .int .i64 3], .agg #[.int .i64 20, .int .i64 3], .int .i64 0]) ∧
    (seen 5 = true → u 40 = .agg #[.int .i64 20, .int .i64 3]) ∧
    (seen 6 = true → u 41 = .agg #[.int .i64 20, .int .i64 3]) ∧
    (seen 7 = true → u 42 = .int .i64 0) ∧
    (seen 8 = true → BoxAt w5.heap.size W (u 7) 39 (if seen 10 = true then #[.int .i64 20, .int .i64 3] else #[.int .i64 0, .int .i64 0])) ∧
    (seen 9 = true → BoxAt w5.heap.size W (u 8) 39 (if seen 11 = true then #[.int .i64 20, .int .i64 3] else #[.int .i64 0, .int .i64 0])) ∧
    (seen 10 = true → seen 8 = true) ∧
    (seen 11 = true → seen 9 = true) ∧
    (seen 12 = true → u 9 = .int .i64 0) ∧
    (seen 8 = true → seen 9 = true → u 7 ≠ u 8))
    (by kernel_rfl) (by kernel_rfl) (by kernel_rfl) (by simp) (by simp) ?_ ?_
  · intro i o ho seen a' w9 hb9 ⟨F0, F1, F2, F3, F4, F5, F6, F7, F8, F9, F10, F11, F12, F13⟩ hv hsi hdep
    obtain ⟨hp9, ht9, hcp9, hct9, hz9⟩ := HP.out w9 (bl_trans hb35 hb9)
    rcases i with _ | _ | _ | _ | _ | _ | _ | _ | _ | _ | _ | _ | _ | i <;> simp only [List.getElem?_cons_zero, List.getElem?_cons_succ, List.getElem?_nil, Option.some.injEq, reduceCtorEq] at ho <;> subst ho
    · have x2 := val_at (hv 2 (by simp))
      simp [valsOf] at x2
      refine wp_value (.agg #[.slice At 3 ct, .int .i64 50, .int .i64 4]) (w' := w9) (by simp [execOp, x2, go_sem, hct9]) ⟨_, rfl, hb9, ?_⟩
      exact ⟨by simp, by simpa using F1, by simpa using F2, by simpa using F3, by simpa using F4, by simpa using F5, by simpa using F6, by simpa using F7, by simpa using F8, by simpa using F9, by simpa using F10, by simpa using F11, by simpa using F12, by simpa using F13⟩
    · have hg : Below w9.heap.size w9 (w9.alloc (.cells #[.int .i64 2, .int .i64 1, .int .i64 1] 2)) := bl_alloc (bl_refl _) _
      refine wp_value (.slice (some ⟨w9.heap.size, 0, none⟩) 3 3) (w' := w9.alloc (.cells #[.int .i64 2, .int .i64 1, .int .i64 1] 2)) (by simp [execOp, go_sem]) ⟨_, rfl, bl_trans hb9 hg, ?_⟩
      have hn : RowAt w5.heap.size (w9.alloc (.cells #[.int .i64 2, .int .i64 1, .int .i64 1] 2)) (.slice (some ⟨w9.heap.size, 0, none⟩) 3 3) 2 #[.int .i64 2, .int .i64 1, .int .i64 1] := RowAt.new (by have := hb9.size; omega)
      exact ⟨by simpa using F0, by simpa using hn, by simpa using fun h => (F2 h).mono hg, by simpa using F3, by simpa using F4, by simpa using F5, by simpa using F6, by simpa using F7, by simpa using fun h => (F8 h).mono hg, by simpa using fun h => (F9 h).mono hg, by simpa using F10, by simpa using F11, by simpa using F12, by simpa using F13⟩
    · have d1 := hdep ⟨1, .data⟩ (by simp) rfl
      refine wp_calls (f := 49) (args := #[valsOf a' 37]) (w' := w9) (by simp [go_sem, valsOf]) (of_any _ _) ?_
      rintro e w10 ⟨rfl, rfl⟩
      refine ⟨_, rfl, _, rfl, hb9, ?_⟩
      exact ⟨by simpa using F0, by simpa using F1, by simpa using F1 d1, by simpa using F3, by simpa using F4, by simpa using F5, by simpa using F6, by simpa using F7, by simpa using F8, by simpa using F9, by simpa using F10, by simpa using F11, by simpa using F12, by simpa using F13⟩
    · have d0 := hdep ⟨0, .data⟩ (by simp) rfl
      have e0 := val_at (F0 d0)
      have d2 := hdep ⟨2, .data⟩ (by simp) rfl
      refine wp_calls (f := 29) (args := #[.agg #[.slice At 3 ct, .int .i64 50, .int .i64 4], valsOf a' 38]) (w' := w9) (by simp [e0, go_sem, valsOf]) (by have q := divisors_any [10, 10, 10] 50 4 [2, 1, 1] _ _ w9 (by simp) (by simp) ht9 (F2 d2).ints; rw [kn_lo, kn_hi, kn_e4] at q; exact q) ?_
      rintro e w10 ⟨rfl, hg⟩
      refine ⟨_, rfl, _, rfl, bl_trans hb9 hg, ?_⟩
      exact ⟨by simpa using F0, by simpa using fun h => (F1 h).mono hg, by simpa using fun h => (F2 h).mono hg, by simp [encQ], by simpa using F4, by simpa using F5, by simpa using F6, by simpa using F7, by simpa using fun h => (F8 h).mono hg, by simpa using fun h => (F9 h).mono hg, by simpa using F10, by simpa using F11, by simpa using F12, by simpa using F13⟩
    · have d3 := hdep ⟨3, .data⟩ (by simp) rfl
      have e3 := val_at (F3 d3)
      refine wp_value (.tuple #[.agg #[.int .i64 20, .int .i64 3], .agg #[.int .i64 20, .int .i64 3], .int .i64 0]) (w' := w9) (by simp [execOp, e3, go_sem]) ⟨_, rfl, hb9, ?_⟩
      exact ⟨by simpa using F0, by simpa using F1, by simpa using F2, by simpa using F3, by simp, by simpa using F5, by simpa using F6, by simpa using F7, by simpa using F8, by simpa using F9, by simpa using F10, by simpa using F11, by simpa using F12, by simpa using F13⟩
    · have d4 := hdep ⟨4, .data⟩ (by simp) rfl
      have e4 := val_at (F4 d4)
      refine wp_value (.agg #[.int .i64 20, .int .i64 3]) (w' := w9) (by simp [execOp, e4, go_sem]) ⟨_, rfl, hb9, ?_⟩
      exact ⟨by simpa using F0, by simpa using F1, by simpa using F2, by simpa using F3, by simpa using F4, by simp, by simpa using F6, by simpa using F7, by simpa using F8, by simpa using F9, by simpa using F10, by simpa using F11, by simpa using F12, by simpa using F13⟩
    · have d4 := hdep ⟨4, .data⟩ (by simp) rfl
      have e4 := val_at (F4 d4)
      refine wp_value (.agg #[.int .i64 20, .int .i64 3]) (w' := w9) (by simp [execOp, e4, go_sem]) ⟨_, rfl, hb9, ?_⟩
      exact ⟨by simpa using F0, by simpa using F1, by simpa using F2, by simpa using F3, by simpa using F4, by simpa using F5, by simp, by simpa using F7, by simpa using F8, by simpa using F9, by simpa using F10, by simpa using F11, by simpa using F12, by simpa using F13⟩
    · have d4 := hdep ⟨4, .data⟩ (by simp) rfl
      have e4 := val_at (F4 d4)
      refine wp_value (.int .i64 0) (w' := w9) (by simp [execOp, e4, go_sem]) ⟨_, rfl, hb9, ?_⟩
      exact ⟨by simpa using F0, by simpa using F1, by simpa using F2, by simpa using F3, by simpa using F4, by simpa using F5, by simpa using F6, by simp, by simpa using F8, by simpa using F9, by simpa using F10, by simpa using F11, by simpa using F12, by simpa using F13⟩
    · have hg : Below w9.heap.size w9 (w9.alloc (.cells #[.int .i64 0, .int .i64 0] 39)) := bl_alloc (bl_refl _) _
      have hs : seen 10 = false := by
        cases h : seen 10 with
        | false => rfl
        | true => have := F10 h; rw [this] at hsi; cases hsi
      refine wp_value (.pointer (some ⟨w9.heap.size, 0, none⟩)) (w' := w9.alloc (.cells #[.int .i64 0, .int .i64 0] 39)) (by simp [execOp, go_sem]) ⟨_, rfl, bl_trans hb9 hg, ?_⟩
      exact ⟨by simpa using F0, by simpa using fun h => (F1 h).mono hg, by simpa using fun h => (F2 h).mono hg, by simpa using F3, by simpa using F4, by simpa using F5, by simpa using F6, by simpa using F7, by simpa [hs] using BoxAt.new (by have := hb9.size; omega), by simpa using fun h => (F9 h).mono hg, by simp, by simpa using F11, by simpa using F12, by simpa using fun h => (F9 h).ne_new⟩
    · have hg : Below w9.heap.size w9 (w9.alloc (.cells #[.int .i64 0, .int .i64 0] 39)) := bl_alloc (bl_refl _) _
      have hs : seen 11 = false := by
        cases h : seen 11 with
        | false => rfl
        | true => have := F11 h; rw [this] at hsi; cases hsi
      refine wp_value (.pointer (some ⟨w9.heap.size, 0, none⟩)) (w' := w9.alloc (.cells #[.int .i64 0, .int .i64 0] 39)) (by simp [execOp, go_sem]) ⟨_, rfl, bl_trans hb9 hg, ?_⟩
      exact ⟨by simpa using F0, by simpa using fun h => (F1 h).mono hg, by simpa using fun h => (F2 h).mono hg, by simpa using F3, by simpa using F4, by simpa using F5, by simpa using F6, by simpa using F7, by simpa using fun h => (F8 h).mono hg, by simpa [hs] using BoxAt.new (by have := hb9.size; omega), by simpa using F10, by simp, by simpa using F12, by simpa using fun h => ((F8 h).ne_new).symm⟩
    · have d8 := hdep ⟨8, .data⟩ (by simp) rfl
      have d5 := hdep ⟨5, .data⟩ (by simp) rfl
      have e5 := val_at (F5 d5)
      have e1 := F8 d8
      rw [hsi] at e1
      simp only [Bool.false_eq_true, if_false] at e1
      obtain ⟨B, hB, hB2, hB3⟩ := e1
      have ep := val_at hB
      have c0 := cell_of_heap (i := 0) hB3
      have c1 := cell_of_heap (i := 1) hB3
      have f0 := fun i => frozen_of_heap (i := i) hB3
      have hBl := (Array.getElem?_eq_some_iff.1 hB3).1
      have hst := BoxAt.put2 hB hB2 hB3 (.int .i64 20) (.int .i64 3)
      refine wp_effect (w' := ((w9.setCell ⟨B, 0, none⟩ (.int .i64 20)).setCell ⟨B, 1, none⟩ (.int .i64 3))) (by simp [execOp, e5, ep, go_sem, c0, c1, f0]) ⟨_, rfl, (bl_set (bl_set hb9 _ hB2) _ hB2), ?_⟩
      exact ⟨by simpa using F0, by simpa using fun h => (F1 h).past hB3 (by decide) hst.2.2, by simpa using fun h => (F2 h).past hB3 (by decide) hst.2.2, by simpa using F3, by simpa using F4, by simpa using F5, by simpa using F6, by simpa using F7, by simpa using fun _ => hst.1, by simpa using fun h => hst.2.1 _ _ _ (F9 h) (fun e => F13 d8 h (hB.trans e.symm)), by simpa using d8, by simpa using F11, by simpa using F12, by simpa using F13⟩
    · have d9 := hdep ⟨9, .data⟩ (by simp) rfl
      have d6 := hdep ⟨6, .data⟩ (by simp) rfl
      have e6 := val_at (F6 d6)
      have e1 := F9 d9
      rw [hsi] at e1
      simp only [Bool.false_eq_true, if_false] at e1
      obtain ⟨B, hB, hB2, hB3⟩ := e1
      have ep := val_at hB
      have c0 := cell_of_heap (i := 0) hB3
      have c1 := cell_of_heap (i := 1) hB3
      have f0 := fun i => frozen_of_heap (i := i) hB3
      have hBl := (Array.getElem?_eq_some_iff.1 hB3).1
      have hst := BoxAt.put2 hB hB2 hB3 (.int .i64 20) (.int .i64 3)
      refine wp_effect (w' := ((w9.setCell ⟨B, 0, none⟩ (.int .i64 20)).setCell ⟨B, 1, none⟩ (.int .i64 3))) (by simp [execOp, e6, ep, go_sem, c0, c1, f0]) ⟨_, rfl, (bl_set (bl_set hb9 _ hB2) _ hB2), ?_⟩
      exact ⟨by simpa using F0, by simpa using fun h => (F1 h).past hB3 (by decide) hst.2.2, by simpa using fun h => (F2 h).past hB3 (by decide) hst.2.2, by simpa using F3, by simpa using F4, by simpa using F5, by simpa using F6, by simpa using F7, by simpa using fun h => hst.2.1 _ _ _ (F8 h) (fun e => F13 h d9 (e.trans hB.symm)), by simpa using fun _ => hst.1, by simpa using F10, by simpa using d9, by simpa using F12, by simpa using F13⟩
    · have d7 := hdep ⟨7, .data⟩ (by simp) rfl
      have e7 := val_at (F7 d7)
      refine wp_value (.int .i64 0) (w' := w9) (by simp [execOp, e7, go_sem]) ⟨_, rfl, hb9, ?_⟩
      exact ⟨by simpa using F0, by simpa using F1, by simpa using F2, by simpa using F3, by simpa using F4, by simpa using F5, by simpa using F6, by simpa using F7, by simpa using F8, by simpa using F9, by simpa using F10, by simpa using F11, by simp, by simpa using F13⟩
  intro u w6 hb6 seen hall ⟨F0, F1, F2, F3, F4, F5, F6, F7, F8, F9, F10, F11, F12, F13⟩
  replace F0 := F0 (hall 0 (by decide))
  replace F1 := F1 (hall 1 (by decide))
  replace F2 := F2 (hall 2 (by decide))
  replace F3 := F3 (hall 3 (by decide))
  replace F4 := F4 (hall 4 (by decide))
  replace F5 := F5 (hall 5 (by decide))
  replace F6 := F6 (hall 6 (by decide))
  replace F7 := F7 (hall 7 (by decide))
  replace F8 := F8 (hall 8 (by decide))
  replace F9 := F9 (hall 9 (by decide))
  replace F10 := F10 (hall 10 (by decide))
  replace F11 := F11 (hall 11 (by decide))
  replace F12 := F12 (hall 12 (by decide))
  obtain ⟨u37, h37⟩ : ∃ x, u 37 = x := ⟨_, rfl⟩
  obtain ⟨u38, h38⟩ : ∃ x, u 38 = x := ⟨_, rfl⟩
  rw [if_pos (hall 10 (by decide))] at F8
  rw [if_pos (hall 11 (by decide))] at F9
  obtain ⟨B7, h7, h7', h7c⟩ := F8
  obtain ⟨B8, h8, h8', h8c⟩ := F9
  simp only [setAll, F0, F3, F4, F5, F6, F7, F12, h37, h38, h7, h8]
  clear h37 h38 h7 h8 F0 F1 F2 F3 F4 F5 F6 F7 F10 F11 F12 F13 hall seen
  have hb36 := bl_trans hb35 hb6
  have HB7 := hid h7c
  have HB8 := hid h8c
  clear h7c h8c
  go_upto_region 5 with (fail)
  refine wp_region_vals [43, 44, 45, 46, 47, 10] (fun seen u W => (seen 0 = true → u 43 = .agg #[.slice Ap 3 cp, .int .i64 50, .int .i64 10]) ∧
    (seen 1 = true → RowAt w6.heap.size W (u 44) 2 #[.int .i64 6, .int .i64 2, .int .i64 2]) ∧
    (seen 2 = true → RowAt w6.heap.size W (u 45) 2 #[.int .i64 6, .int .i64 2, .int .i64 2]) ∧
    (seen 3 = true → u 46 = .agg #[.int .i64 0, .int .i64 1]) ∧
    (seen 4 = true → u 47 = .int .i64 2) ∧
    (seen 5 = true → u 10 = .int .i64 2))
    (by kernel_rfl) (by kernel_rfl) (by kernel_rfl) (by simp) (by simp) ?_ ?_
  · intro i o ho seen a' w9 hb9 ⟨F0, F1, F2, F3, F4, F5⟩ hv hsi hdep
    obtain ⟨hp9, ht9, hcp9, hct9, hz9⟩ := HP.out w9 (bl_trans hb36 hb9)
    rcases i with _ | _ | _ | _ | _ | _ | i <;> simp only [List.getElem?_cons_zero, List.getElem?_cons_succ, List.getElem?_nil, Option.some.injEq, reduceCtorEq] at ho <;> subst ho
    · have x1 := val_at (hv 1 (by simp))
      simp [valsOf] at x1
      refine wp_value (.agg #[.slice Ap 3 cp, .int .i64 50, .int .i64 10]) (w' := w9) (by simp [execOp, x1, go_sem, hcp9]) ⟨_, rfl, hb9, ?_⟩
      exact ⟨by simp, by simpa using F1, by simpa using F2, by simpa using F3, by simpa using F4, by simpa using F5⟩
    · have hg : Below w9.heap.size w9 (w9.alloc (.cells #[.int .i64 6, .int .i64 2, .int .i64 2] 2)) := bl_alloc (bl_refl _) _
      refine wp_value (.slice (some ⟨w9.heap.size, 0, none⟩) 3 3) (w' := w9.alloc (.cells #[.int .i64 6, .int .i64 2, .int .i64 2] 2)) (by simp [execOp, go_sem]) ⟨_, rfl, bl_trans hb9 hg, ?_⟩
      have hn : RowAt w6.heap.size (w9.alloc (.cells #[.int .i64 6, .int .i64 2, .int .i64 2] 2)) (.slice (some ⟨w9.heap.size, 0, none⟩) 3 3) 2 #[.int .i64 6, .int .i64 2, .int .i64 2] := RowAt.new (by have := hb9.size; omega)
      exact ⟨by simpa using F0, by simpa using hn, by simpa using fun h => (F2 h).mono hg, by simpa using F3, by simpa using F4, by simpa using F5⟩
    · have d1 := hdep ⟨1, .data⟩ (by simp) rfl
      refine wp_calls (f := 49) (args := #[valsOf a' 44]) (w' := w9) (by simp [go_sem, valsOf]) (of_any _ _) ?_
      rintro e w10 ⟨rfl, rfl⟩
      refine ⟨_, rfl, _, rfl, hb9, ?_⟩
      exact ⟨by simpa using F0, by simpa using F1, by simpa using F1 d1, by simpa using F3, by simpa using F4, by simpa using F5⟩
    · refine wp_value (.agg #[.int .i64 0, .int .i64 1]) (w' := w9) (by simp [execOp, go_sem]) ⟨_, rfl, hb9, ?_⟩
      exact ⟨by simpa using F0, by simpa using F1, by simpa using F2, by simp, by simpa using F4, by simpa using F5⟩
    · have d0 := hdep ⟨0, .data⟩ (by simp) rfl
      have e0 := val_at (F0 d0)
      have d2 := hdep ⟨2, .data⟩ (by simp) rfl
      have d3 := hdep ⟨3, .data⟩ (by simp) rfl
      have e3 := val_at (F3 d3)
      refine wp_calls (f := 31) (args := #[.agg #[.slice Ap 3 cp, .int .i64 50, .int .i64 10], valsOf a' 45, .agg #[.int .i64 0, .int .i64 1]]) (w' := w9) (by simp [e0, e3, go_sem, valsOf]) (by have q := checkDivisor_any [53, 24, 23] 50 10 [6, 2, 2] 0 1 _ _ w9 (by simp) (by simp) hp9 (F2 d2).ints; rw [kn_e5] at q; exact q) ?_
      rintro e w10 ⟨rfl, hg⟩
      refine ⟨_, rfl, _, rfl, bl_trans hb9 hg, ?_⟩
      exact ⟨by simpa using F0, by simpa using fun h => (F1 h).mono hg, by simpa using fun h => (F2 h).mono hg, by simpa using F3, by simp, by simpa using F5⟩
    · have d4 := hdep ⟨4, .data⟩ (by simp) rfl
      have e4 := val_at (F4 d4)
      refine wp_value (.int .i64 2) (w' := w9) (by simp [execOp, e4, go_sem]) ⟨_, rfl, hb9, ?_⟩
      exact ⟨by simpa using F0, by simpa using F1, by simpa using F2, by simpa using F3, by simpa using F4, by simp⟩
  intro u w7 hb7 seen hall ⟨F0, F1, F2, F3, F4, F5⟩
  replace F0 := F0 (hall 0 (by decide))
  replace F1 := F1 (hall 1 (by decide))
  replace F2 := F2 (hall 2 (by decide))
  replace F3 := F3 (hall 3 (by decide))
  replace F4 := F4 (hall 4 (by decide))
  replace F5 := F5 (hall 5 (by decide))
  obtain ⟨u44, h44⟩ : ∃ x, u 44 = x := ⟨_, rfl⟩
  obtain ⟨u45, h45⟩ : ∃ x, u 45 = x := ⟨_, rfl⟩
  simp only [setAll, F0, F3, F4, F5, h44, h45]
  clear h44 h45 F0 F1 F2 F3 F4 F5 hall seen
  have hb37 := bl_trans hb36 hb7
  obtain ⟨hp7, ht7, hcp7, hct7, hz7⟩ := HP.out w7 hb37
  go_wp2_with fail
  have hcn := count_any [53, 24, 23] 50 10 (.slice Ap 3 cp) w7 (by simp) hp7
  rw [kn_n, know_p 50 (.inl rfl)] at hcn
  refine hcn.mono ?_
  rintro e w8 ⟨rfl, hb8⟩
  clear hcn hp7 ht7 hcp7 hct7 hz7
  have hb38 := bl_trans hb37 hb8
  obtain ⟨hp8, ht8, hcp8, hct8, hz8⟩ := HP.out w8 hb38
  go_wp2_with fail
  have hsp := span_any [53, 24, 23] 50 10 0 (.slice Ap 3 cp) w8 (by simp) hp8
  rw [kn_s, kn_se] at hsp
  refine hsp.mono ?_
  rintro e w9 ⟨rfl, hb9⟩
  unfold encQ
  clear hsp hp8 ht8 hcp8 hct8 hz8
  have k13 := World.alloc_heap_new w9 (.cells #[.int .i64 6, .int .i64 6] 47)
  have hb10 := bl_alloc (bl_refl w9) (.cells #[.int .i64 6, .int .i64 6] 47)
  go_upto_region 8 with (fail)
  obtain ⟨w10, hw10⟩ : ∃ w10, w9.alloc (.cells #[.int .i64 6, .int .i64 6] 47) = w10 := ⟨_, rfl⟩
  rw [hw10] at k13 hb10 ⊢
  have hb310 := bl_trans hb38 (bl_trans hb9 hb10)
  have H13 := hid k13
  clear hw10 k13
  obtain ⟨hp10, ht10, hcp10, hct10, hz10⟩ := HP.out w10 hb310
  go_wp2_with fail
  have hq := quota_any [53, 24, 23] 50 10 1 (.slice Ap 3 cp) w10 (by simp) hp10
  rw [kn_q, kn_qe] at hq
  refine hq.mono ?_
  rintro e w11 ⟨rfl, hb11⟩
  unfold encQ
  clear hq hp10 ht10 hcp10 hct10 hz10
  have k15 := World.alloc_heap_new w11 (.cells #[.int .i64 2, .int .i64 3] 47)
  have hb12 := bl_alloc (bl_refl w11) (.cells #[.int .i64 2, .int .i64 3] 47)
  go_upto_region 9 with (fail)
  obtain ⟨w12, hw12⟩ : ∃ w12, w11.alloc (.cells #[.int .i64 2, .int .i64 3] 47) = w12 := ⟨_, rfl⟩
  rw [hw12] at k15 hb12 ⊢
  have hb1012 := bl_trans hb11 hb12
  have hb312 := bl_trans hb310 hb1012
  have H15 := hid k15
  have H13b := hid (heap_mono H13.out hb1012)
  clear hw12 k15
  obtain ⟨hp12, ht12, hcp12, hct12, hz12⟩ := HP.out w12 hb312
  go_wp2_with fail
  have hq := quota_any [10, 10, 10] 50 4 2 (.slice At 3 ct) w12 (by simp) ht12
  rw [kn_r, kn_re] at hq
  refine hq.mono ?_
  rintro e w13 ⟨rfl, hb13⟩
  unfold encQ
  clear hq hp12 ht12 hcp12 hct12 hz12
  have k17 := World.alloc_heap_new w13 (.cells #[.int .i64 1, .int .i64 2] 47)
  have hb14 := bl_alloc (bl_refl w13) (.cells #[.int .i64 1, .int .i64 2] 47)
  go_upto_region 10 with (fail)
  obtain ⟨w14, hw14⟩ : ∃ w14, w13.alloc (.cells #[.int .i64 1, .int .i64 2] 47) = w14 := ⟨_, rfl⟩
  rw [hw14] at k17 hb14 ⊢
  have hb1214 := bl_trans hb13 hb14
  have H17 := hid k17
  have H15b := hid (heap_mono H15.out hb1214)
  have H13c := hid (heap_mono H13b.out hb1214)
  have hb614 := bl_trans hb7 (bl_trans hb8 (bl_trans hb9 (bl_trans hb10 (bl_trans hb1012 hb1214))))
  have HB7c := hid (heap_mono HB7.out hb614)
  have HB8c := hid (heap_mono HB8.out hb614)
  have hI14 := HA.out.mono (bl_trans hb5 (bl_trans hb6 hb614))
  have hB14 := bl_trans hB3 (bl_trans hb312 hb1214)
  clear hw14 k17 hb5 hb6 hb7 hb8 hb9 hb10 hb11 hb12 hb13 hb14 hb34 hb35 hb36 hb37 hb38 hb310 hb312 hb1012 hb1214 hb614 HA HB7 HB8 HP H13 H13b H15 hB3
  go_wp2_with fail
  refine (of_any _ _).mono ?_
  rintro e wo ⟨rfl, rfl⟩
  have k19 := World.alloc_heap_new w14 (.cells #[.int .i64 20, .int .i64 3] 39)
  have hb15 := bl_alloc (bl_refl w14) (.cells #[.int .i64 20, .int .i64 3] 39)
  obtain ⟨w15, hw15⟩ : ∃ w15, w14.alloc (.cells #[.int .i64 20, .int .i64 3] 39) = w15 := ⟨_, rfl⟩
  have hz15 : w14.heap.size + 1 = w15.heap.size := by rw [← hw15]; simp
  rw [hw15] at k19 hb15
  go_wp2_with fail
  clear hw15
  have hbA := bl_alloc (bl_refl w15) (.cells #[.int .i64 2, .int .i64 1, .int .i64 1] 2)
  refine (eqLongs_any [2, 1, 1] [2, 1, 1] _ _ _ (by simp) (by simp) ((hI14.mono hb15).mono hbA) (builtInts (bl_refl _))).mono ?_
  rintro e w16 ⟨rfl, hb16⟩
  have hb1516 := bl_trans hbA hb16
  have hb1416 := bl_trans hb15 hb1516
  rw [decide_eq_true rfl]
  have k1 := fun i => cell_of_heap (i := i) (heap_mono HB7c.out hb1416)
  have k2 := fun i => cell_of_heap (i := i) (heap_mono HB8c.out hb1416)
  have k3 := fun i => cell_of_heap (i := i) (heap_mono H13c.out hb1416)
  have k4 := fun i => cell_of_heap (i := i) (heap_mono H15b.out hb1416)
  have k5 := fun i => cell_of_heap (i := i) (heap_mono H17.out hb1416)
  have k6 := fun i => cell_of_heap (i := i) (heap_mono k19 hb1516)
  have hB16 := bl_trans hB14 hb1416
  clear hI14 k19 hz15 HB7c HB8c H13c H15b H17 hb15 hb16 hbA hb1516 hb1416 hB14
  go_wp2_with fail
  refine (works_any _).mono ?_
  rintro e wz ⟨rfl, hbz⟩
  go_wp2
  go_ret
  exact ⟨rfl, bl_trans hB16 hbz⟩

end Go.Proofs.Ytfchcikdcnloaaa
