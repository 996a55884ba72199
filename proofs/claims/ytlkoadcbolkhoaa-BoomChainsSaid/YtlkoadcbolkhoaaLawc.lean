/- BoomChains: the law's walk. -/
import Derived.Test.YtlkoadcbolkhoaaSame
import Derived.Test.YtlkoadcbolkhoaaFacts
set_option linter.all false
namespace Go.Proofs.Ytlkoadcbolkhoaa
open Go Go.RowKit Go.Proofs
attribute [local go_sem] cell_grow frozen_grow

theorem enclL_len (x y : Int) (s : ByteArray) : (enclL x y s).length ≤ 64 := by
  unfold enclL
  split
  · exact pickC_len _ _
  · simp
set_option maxRecDepth 100000 in
set_option maxHeartbeats 8000000 in
theorem boomChains_any (x y : Int) (s : ByteArray) (w : World) (_ : s.size ≤ maxLen) :
    Calls Try.prog 6 #[.agg #[.int .i64 x, .int .i64 y, .string s]] w fun e w' => e = .returned (.bool true) ∧ Below w.heap.size w w' := by
  have HK0 := hid (World.alloc_heap_new w (.cells #[.int .i64 x, .int .i64 y, .string s] 45))
  have HB0 := hid (bl_alloc (bl_refl w) (.cells #[.int .i64 x, .int .i64 y, .string s] 45))
  have hel := enclL_len x y s
  obtain ⟨CE, hCE⟩ : ∃ a, chainE x y s = a := ⟨_, rfl⟩
  have HCE := hid hCE
  obtain ⟨L, hL⟩ : ∃ a, enclL x y s = a := ⟨_, rfl⟩
  have HEL := hid hL
  have HER := hid (show enclR x y s = L by rw [← encl_same, hL])
  have HLL := hid (show L.length ≤ 1000 by rw [← hL]; omega)
  obtain ⟨AM, hAM⟩ : ∃ a, max (areaS x y s) (-areaS x y s) / 2 = a := ⟨_, rfl⟩
  have HAM := hid hAM
  have HRM := hid (show max (areaR x y s) (-areaR x y s) = AM by rw [← area_max, hAM])
  obtain ⟨AS, hAS⟩ : ∃ a, decide (0 < areaS x y s) = a := ⟨_, rfl⟩
  have HAS := hid hAS
  have HRS := hid (show decide (0 < areaR x y s) = AS by rw [← area_sign, hAS])
  clear hCE hL hAM hAS hel
  go_enter Try.func6, Try.ntmps6
  go_upto_region 1 with (fail)
  obtain ⟨w0, hw0⟩ : ∃ w0, w.alloc (.cells #[.int .i64 x, .int .i64 y, .string s] 45) = w0 := ⟨_, rfl⟩
  obtain ⟨X, hX⟩ : ∃ X, w.heap.size = X := ⟨_, rfl⟩
  rw [hX] at HK0 ⊢
  rw [hw0] at HB0 HK0 ⊢
  clear hw0 hX
  by_cases hl : 90 < s.size
  · have t0 : decide ((90 : Int) < (s.size : Int)) = true := decide_eq_true (by omega)
    clear hl
    have q0 : w0.cell? ⟨X, 0, none⟩ = some (.int .i64 x) := cell_of_heap HK0.out
    have q1 : w0.cell? ⟨X, 1, none⟩ = some (.int .i64 y) := cell_of_heap HK0.out
    have q2 : w0.cell? ⟨X, 2, none⟩ = some (.string s) := cell_of_heap HK0.out
    have ql := (Array.getElem?_eq_some_iff.1 HK0.out).1
    have hworks := works_any w0
    go_wp2_with fail
    refine hworks.mono ?_
    rintro e wz ⟨rfl, hbz⟩
    clear hworks
    go_wp2
    go_ret
    exact ⟨rfl, bl_trans HB0.out hbz⟩
  have t0 : decide ((90 : Int) < (s.size : Int)) = false := decide_eq_false (by omega)
  have hs : s.size ≤ 90 := by omega
  clear hl
  have q0 : w0.cell? ⟨X, 0, none⟩ = some (.int .i64 x) := cell_of_heap HK0.out
  have q1 : w0.cell? ⟨X, 1, none⟩ = some (.int .i64 y) := cell_of_heap HK0.out
  have q2 : w0.cell? ⟨X, 2, none⟩ = some (.string s) := cell_of_heap HK0.out
  have ql := (Array.getElem?_eq_some_iff.1 HK0.out).1
  have hcall := encl_any x y s w0 (by omega)
  rw [HCE.out, HEL.out] at hcall
  go_wp2_with fail
  refine hcall.mono ?_
  rintro e w1 ⟨⟨v, rfl, hv⟩, hb1⟩
  clear hcall q0 q1 q2 ql
  have HK1 := hid (heap_mono HK0.out hb1)
  have HB1 := hid (bl_trans HB0.out hb1)
  clear HK0 
  have HV_1 := hid hv
  clear hv
  clear hb1
  clear t0
  obtain ⟨VA, vc, rfl⟩ := HV_1.out.slice
  have q0 : w1.cell? ⟨X, 0, none⟩ = some (.int .i64 x) := cell_of_heap HK1.out
  have q1 : w1.cell? ⟨X, 1, none⟩ = some (.int .i64 y) := cell_of_heap HK1.out
  have q2 : w1.cell? ⟨X, 2, none⟩ = some (.string s) := cell_of_heap HK1.out
  have ql := (Array.getElem?_eq_some_iff.1 HK1.out).1
  have hcall := rencld_any x y s w1 (by omega)
  rw [HCE.out, HER.out] at hcall
  go_wp2_with fail
  refine hcall.mono ?_
  rintro e w2 ⟨⟨u, rfl, hu⟩, hb2⟩
  clear hcall q0 q1 q2 ql
  have HK2 := hid (heap_mono HK1.out hb2)
  have HB2 := hid (bl_trans HB1.out hb2)
  have HV_2 := hid (HV_1.out.mono hb2)
  clear HK1 HV_1
  have HU_2 := hid hu
  clear hu
  clear hb2
  obtain ⟨UA, uc, rfl⟩ := HU_2.out.slice
  have q0 : w2.cell? ⟨X, 0, none⟩ = some (.int .i64 x) := cell_of_heap HK2.out
  have q1 : w2.cell? ⟨X, 1, none⟩ = some (.int .i64 y) := cell_of_heap HK2.out
  have q2 : w2.cell? ⟨X, 2, none⟩ = some (.string s) := cell_of_heap HK2.out
  have ql := (Array.getElem?_eq_some_iff.1 HK2.out).1
  have hcall := area_any x y s w2 (by omega)
  rw [HAM.out, HAS.out, HCE.out] at hcall
  go_wp2_with fail
  refine hcall.mono ?_
  rintro e w3 ⟨rfl, hb3⟩
  clear hcall q0 q1 q2 ql
  have HK3 := hid (heap_mono HK2.out hb3)
  have HB3 := hid (bl_trans HB2.out hb3)
  have HV_3 := hid (HV_2.out.mono hb3)
  have HU_3 := hid (HU_2.out.mono hb3)
  clear HK2 HV_2 HU_2
  clear hb3
  have q0 : w3.cell? ⟨X, 0, none⟩ = some (.int .i64 x) := cell_of_heap HK3.out
  have q1 : w3.cell? ⟨X, 1, none⟩ = some (.int .i64 y) := cell_of_heap HK3.out
  have q2 : w3.cell? ⟨X, 2, none⟩ = some (.string s) := cell_of_heap HK3.out
  have ql := (Array.getElem?_eq_some_iff.1 HK3.out).1
  have hcall := rarea_any x y s w3 (by omega)
  rw [HRM.out, HRS.out, HCE.out] at hcall
  go_wp2_with fail
  refine hcall.mono ?_
  rintro e w4 ⟨rfl, hb4⟩
  clear hcall q0 q1 q2 ql
  have HK4 := hid (heap_mono HK3.out hb4)
  have HB4 := hid (bl_trans HB3.out hb4)
  have HV_4 := hid (HV_3.out.mono hb4)
  have HU_4 := hid (HU_3.out.mono hb4)
  clear HK3 HV_3 HU_3
  clear hb4
  have e1 : (CE == CE) = true := by simp
  have e2 : (AM == AM) = true := by simp
  have e3 : (AS == AS) = true := by cases AS <;> rfl
  have q0 : w4.cell? ⟨X, 0, none⟩ = some (.int .i64 x) := cell_of_heap HK4.out
  have q1 : w4.cell? ⟨X, 1, none⟩ = some (.int .i64 y) := cell_of_heap HK4.out
  have q2 : w4.cell? ⟨X, 2, none⟩ = some (.string s) := cell_of_heap HK4.out
  have ql := (Array.getElem?_eq_some_iff.1 HK4.out).1
  have A41 : Hid (∀ W, Below w4.heap.size w4 W → Calls Try.prog 41 #[.agg #[.int .i64 x, .int .i64 y, .string s]] W fun e w' => e = .returned (.int .i64 CE) ∧ Below W.heap.size W w') := fun W hW => by rw [← HCE.out]; exact chkchain_any x y s W (by omega)
  have A42 : Hid (∀ W, Below w4.heap.size w4 W → Calls Try.prog 42 #[.agg #[.int .i64 x, .int .i64 y, .string s]] W fun e w' => e = .returned (.int .i64 CE) ∧ Below W.heap.size W w') := fun W hW => by rw [← HCE.out]; exact rchain_any x y s W (by omega)
  have A32 : Hid (∀ W, Below w4.heap.size w4 W → Calls Try.prog 32 #[.slice VA L.length vc, .slice UA L.length uc] W fun e w' => e = .returned (.bool true) ∧ Below W.heap.size W w') := fun W hW => by have h := ints_any L L _ _ W HLL.out (HV_4.out.mono hW) (HU_4.out.mono hW); rw [decide_eq_true (rfl : L = L)] at h; exact h
  have A18 : Hid (∀ W, Below w4.heap.size w4 W → Calls Try.prog 18 #[] W fun e w' => e = .returned (.bool true) ∧ Below W.heap.size W w') := fun W hW => works_any W
  go_upto_region 7 with (fail)
  refine wp_region_below (by kernel_rfl) (by kernel_rfl) ?_
  repeat (first | go_big_quiet_step (first | (go_at_call 41; exact Calls.regrown_of (A41.out _ (below_regrown _ _ _))) | (go_at_call 42; exact Calls.regrown_of (A42.out _ (below_regrown _ _ _))) | (go_at_call 32; exact Calls.regrown_of (A32.out _ (below_regrown _ _ _))) | (go_at_call 18; exact Calls.regrown_of (A18.out _ (below_regrown _ _ _)))) | quiet_step (first | (go_at_call 41; exact Calls.regrown_of (A41.out _ (below_regrown _ _ _))) | (go_at_call 42; exact Calls.regrown_of (A42.out _ (below_regrown _ _ _))) | (go_at_call 32; exact Calls.regrown_of (A32.out _ (below_regrown _ _ _))) | (go_at_call 18; exact Calls.regrown_of (A18.out _ (below_regrown _ _ _)))))
  refine wpQuiet_nil ?_
  intro w5 hb5
  have HB5 := hid (bl_trans HB4.out hb5)
  clear q0 q1 q2 ql hb5 A41 A42 A32 A18
  go_wp2
  go_ret
  exact ⟨rfl, HB5.out⟩
end Go.Proofs.Ytlkoadcbolkhoaa
