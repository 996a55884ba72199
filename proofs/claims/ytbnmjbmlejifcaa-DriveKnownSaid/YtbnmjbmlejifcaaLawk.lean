/- The examples of the chapter: the walk. -/
import Derived.Test.YtbnmjbmlejifcaaWorks
import Derived.Test.YtbnmjbmlejifcaaFactsb
set_option linter.all false
namespace Go.Proofs.Ytbnmjbmlejifcaa
open Go Go.RowKit Go.Proofs
attribute [local go_sem] cell_grow frozen_grow

set_option maxRecDepth 100000 in
set_option maxHeartbeats 16000000 in
theorem driveKnown_any (w : World) : Calls Try.prog 17 #[] w fun e w' => e = .returned (.bool true) ∧ Below w.heap.size w w' := by
  have h1 := river_any 9 w
  go_enter Try.func17, Try.ntmps17
  go_wp2_with fail
  refine h1.mono ?_
  rintro e w1 ⟨⟨s1, rfl, hs1⟩, hb1⟩
  clear h1
  obtain ⟨A1, c1, rfl⟩ := hs1.slice
  have h2 := river_any 4 w1
  go_wp2_with fail
  refine h2.mono ?_
  rintro e w2 ⟨⟨s2, rfl, hs2⟩, hb2⟩
  clear h2
  obtain ⟨A2, c2, rfl⟩ := hs2.slice
  have b3 := bl_alloc (bl_refl w2) (.cells #[.int .i64 10, .slice A1 (rvL 9).length c1] 24)
  have b4 := bl_alloc (bl_refl (w2.alloc (.cells #[.int .i64 10, .slice A1 (rvL 9).length c1] 24))) (.cells #[.int .i64 10, .slice A2 (rvL 4).length c2] 24)
  have e3 := World.alloc_heap_new w2 (.cells #[.int .i64 10, .slice A1 (rvL 9).length c1] 24)
  have e4 := World.alloc_heap_new (w2.alloc (.cells #[.int .i64 10, .slice A1 (rvL 9).length c1] 24)) (.cells #[.int .i64 10, .slice A2 (rvL 4).length c2] 24)
  simp only [World.size_alloc] at e4
  have HV3 := hid (heap_mono e3 b4)
  have HW3 := hid e4
  have HB3 := hid (bl_trans (bl_trans hb1 hb2) (bl_trans b3 b4))
  have HSVa := hid (hs1.mono (bl_trans hb2 (bl_trans b3 b4)))
  have HSWa := hid (hs2.mono (bl_trans b3 b4))
  clear hs1 hs2 b3 b4 e3 e4 hb1 hb2
  go_upto_region 2 with (fail)
  obtain ⟨V, hV⟩ : ∃ V, w2.heap.size = V := ⟨_, rfl⟩
  obtain ⟨w3, hw3⟩ : ∃ w3, (w2.alloc (.cells #[.int .i64 10, .slice A1 (rvL 9).length c1] 24)).alloc (.cells #[.int .i64 10, .slice A2 (rvL 4).length c2] 24) = w3 := ⟨_, rfl⟩
  rw [hV] at HV3 HW3 ⊢
  rw [hw3] at HV3 HW3 HB3 HSVa HSWa ⊢
  clear hV hw3
  have HB0 := HB3
  clear HB3
  have HB3 := hid (bl_refl w3)
  have HSV := HSVa
  have HSW := HSWa
  have s0 : w3.cell? ⟨V, 0, none⟩ = some (.int .i64 10) := cell_of_heap HV3.out
  have s1 : w3.cell? ⟨V, 1, none⟩ = some (.slice A1 (rvL 9).length c1) := cell_of_heap HV3.out
  have sl := (Array.getElem?_eq_some_iff.1 HV3.out).1
  have hcall := most_any 10 (rvL 9) _ 2 w3 (by decide) (HSV.out.mono HB3.out)
  rw [asked9 (by decide) (by decide), if_pos rfl, k_most2] at hcall
  go_wp2_with fail
  refine hcall.mono ?_
  rintro e w4 ⟨rfl, hb4⟩
  have HV4 := hid (heap_mono HV3.out hb4)
  have HW4 := hid (heap_mono HW3.out hb4)
  have HB4 := hid (bl_trans HB3.out hb4)
  clear hcall s0 s1 sl hb4 HV3 HW3
  have s0 : w4.cell? ⟨V, 0, none⟩ = some (.int .i64 10) := cell_of_heap HV4.out
  have s1 : w4.cell? ⟨V, 1, none⟩ = some (.slice A1 (rvL 9).length c1) := cell_of_heap HV4.out
  have sl := (Array.getElem?_eq_some_iff.1 HV4.out).1
  have hcall := most_any 10 (rvL 9) _ 5 w4 (by decide) (HSV.out.mono HB4.out)
  rw [asked9 (by decide) (by decide), if_pos rfl, k_most5] at hcall
  go_wp2_with fail
  refine hcall.mono ?_
  rintro e w5 ⟨rfl, hb5⟩
  have HV5 := hid (heap_mono HV4.out hb5)
  have HW5 := hid (heap_mono HW4.out hb5)
  have HB5 := hid (bl_trans HB4.out hb5)
  clear hcall s0 s1 sl hb5 HV4 HW4
  have s0 : w5.cell? ⟨V, 0, none⟩ = some (.int .i64 10) := cell_of_heap HV5.out
  have s1 : w5.cell? ⟨V, 1, none⟩ = some (.slice A1 (rvL 9).length c1) := cell_of_heap HV5.out
  have sl := (Array.getElem?_eq_some_iff.1 HV5.out).1
  have hcall := most_any 10 (rvL 9) _ 8 w5 (by decide) (HSV.out.mono HB5.out)
  rw [asked9 (by decide) (by decide), if_pos rfl, k_most8] at hcall
  go_wp2_with fail
  refine hcall.mono ?_
  rintro e w6 ⟨rfl, hb6⟩
  have HV6 := hid (heap_mono HV5.out hb6)
  have HW6 := hid (heap_mono HW5.out hb6)
  have HB6 := hid (bl_trans HB5.out hb6)
  clear hcall s0 s1 sl hb6 HV5 HW5
  have s0 : w6.cell? ⟨V + 1, 0, none⟩ = some (.int .i64 10) := cell_of_heap HW6.out
  have s1 : w6.cell? ⟨V + 1, 1, none⟩ = some (.slice A2 (rvL 4).length c2) := cell_of_heap HW6.out
  have sl := (Array.getElem?_eq_some_iff.1 HW6.out).1
  have hcall := most_any 10 (rvL 4) _ 10 w6 (by decide) (HSW.out.mono HB6.out)
  rw [asked4 (by decide) (by decide), if_pos rfl, k_mostw] at hcall
  go_wp2_with fail
  refine hcall.mono ?_
  rintro e w7 ⟨rfl, hb7⟩
  have HV7 := hid (heap_mono HV6.out hb7)
  have HW7 := hid (heap_mono HW6.out hb7)
  have HB7 := hid (bl_trans HB6.out hb7)
  clear hcall s0 s1 sl hb7 HV6 HW6
  have s0 : w7.cell? ⟨V, 0, none⟩ = some (.int .i64 10) := cell_of_heap HV7.out
  have s1 : w7.cell? ⟨V, 1, none⟩ = some (.slice A1 (rvL 9).length c1) := cell_of_heap HV7.out
  have sl := (Array.getElem?_eq_some_iff.1 HV7.out).1
  have hcall := by_any 10 (rvL 9) _ 20 w7 (by decide) (HSV.out.mono HB7.out)
  rw [k_by20.1, k_by20.2] at hcall
  go_wp2_with fail
  refine hcall.mono ?_
  rintro e w8 ⟨rfl, hb8⟩
  have HV8 := hid (heap_mono HV7.out hb8)
  have HW8 := hid (heap_mono HW7.out hb8)
  have HB8 := hid (bl_trans HB7.out hb8)
  clear hcall s0 s1 sl hb8 HV7 HW7
  have s0 : w8.cell? ⟨V, 0, none⟩ = some (.int .i64 10) := cell_of_heap HV8.out
  have s1 : w8.cell? ⟨V, 1, none⟩ = some (.slice A1 (rvL 9).length c1) := cell_of_heap HV8.out
  have sl := (Array.getElem?_eq_some_iff.1 HV8.out).1
  have hcall := by_any 10 (rvL 9) _ 0 w8 (by decide) (HSV.out.mono HB8.out)
  rw [k_by0.1, k_by0.2] at hcall
  go_wp2_with fail
  refine hcall.mono ?_
  rintro e w9 ⟨rfl, hb9⟩
  have HV9 := hid (heap_mono HV8.out hb9)
  have HW9 := hid (heap_mono HW8.out hb9)
  have HB9 := hid (bl_trans HB8.out hb9)
  clear hcall s0 s1 sl hb9 HV8 HW8
  have s0 : w9.cell? ⟨V, 0, none⟩ = some (.int .i64 10) := cell_of_heap HV9.out
  have s1 : w9.cell? ⟨V, 1, none⟩ = some (.slice A1 (rvL 9).length c1) := cell_of_heap HV9.out
  have sl := (Array.getElem?_eq_some_iff.1 HV9.out).1
  have ba9 := bl_alloc (bl_refl w9) (.cells #[.int .i64 7, .int .i64 7, .int .i64 7] 2)
  have hcall := checkCut_any 10 (rvL 9) _ 6 [7, 7, 7] _ _ (by decide) (HSV.out.mono (bl_trans HB9.out ba9)) (by decide) (ints_three (W := w9) 7 7 7 2 rfl)
  rw [k_cut777.1, k_cut777.2] at hcall
  go_wp2_with fail
  refine hcall.mono ?_
  rintro e w10 ⟨rfl, hb10⟩
  have HV10 := hid (heap_mono HV9.out (bl_trans ba9 hb10))
  have HW10 := hid (heap_mono HW9.out (bl_trans ba9 hb10))
  have HB10 := hid (bl_trans HB9.out (bl_trans ba9 hb10))
  clear hcall s0 s1 sl hb10 HV9 HW9 ba9
  have s0 : w10.cell? ⟨V, 0, none⟩ = some (.int .i64 10) := cell_of_heap HV10.out
  have s1 : w10.cell? ⟨V, 1, none⟩ = some (.slice A1 (rvL 9).length c1) := cell_of_heap HV10.out
  have sl := (Array.getElem?_eq_some_iff.1 HV10.out).1
  have ba10 := bl_alloc (bl_refl w10) (.cells #[.int .i64 1, .int .i64 1, .int .i64 1] 2)
  have hcall := checkCut_any 10 (rvL 9) _ 6 [1, 1, 1] _ _ (by decide) (HSV.out.mono (bl_trans HB10.out ba10)) (by decide) (ints_three (W := w10) 1 1 1 2 rfl)
  rw [k_cut111.1, k_cut111.2] at hcall
  go_wp2_with fail
  refine hcall.mono ?_
  rintro e w11 ⟨rfl, hb11⟩
  have HV11 := hid (heap_mono HV10.out (bl_trans ba10 hb11))
  have HW11 := hid (heap_mono HW10.out (bl_trans ba10 hb11))
  have HB11 := hid (bl_trans HB10.out (bl_trans ba10 hb11))
  clear hcall s0 s1 sl hb11 HV10 HW10 ba10
  have s0 : w11.cell? ⟨V, 0, none⟩ = some (.int .i64 10) := cell_of_heap HV11.out
  have s1 : w11.cell? ⟨V, 1, none⟩ = some (.slice A1 (rvL 9).length c1) := cell_of_heap HV11.out
  have sl := (Array.getElem?_eq_some_iff.1 HV11.out).1
  have hcall := left_any 10 (rvL 9) _ w11 (by decide) (HSV.out.mono HB11.out)
  rw [river9, k_left9] at hcall
  go_wp2_with fail
  refine hcall.mono ?_
  rintro e w12 ⟨⟨lf, rfl, hlf⟩, hb12⟩
  have HV12 := hid (heap_mono HV11.out hb12)
  have HW12 := hid (heap_mono HW11.out hb12)
  have HB12 := hid (bl_trans HB11.out hb12)
  have HL12 := hid hlf
  clear hlf
  clear hcall s0 s1 sl hb12 HV11 HW11
  have s0 : w12.cell? ⟨V, 0, none⟩ = some (.int .i64 10) := cell_of_heap HV12.out
  have s1 : w12.cell? ⟨V, 1, none⟩ = some (.slice A1 (rvL 9).length c1) := cell_of_heap HV12.out
  have sl := (Array.getElem?_eq_some_iff.1 HV12.out).1
  have hcall := worth_any 10 (rvL 9) _ 6 0 w12 (by decide) (HSV.out.mono HB12.out)
  rw [k_worth0, reached9 (by decide) (by decide) (by decide) (by decide)] at hcall
  go_wp2_with fail
  refine hcall.mono ?_
  rintro e w13 ⟨rfl, hb13⟩
  have HV13 := hid (heap_mono HV12.out hb13)
  have HW13 := hid (heap_mono HW12.out hb13)
  have HB13 := hid (bl_trans HB12.out hb13)
  have HL13 := hid (HL12.out.mono hb13)
  clear HL12
  clear hcall s0 s1 sl hb13 HV12 HW12
  have s0 : w13.cell? ⟨V, 0, none⟩ = some (.int .i64 10) := cell_of_heap HV13.out
  have s1 : w13.cell? ⟨V, 1, none⟩ = some (.slice A1 (rvL 9).length c1) := cell_of_heap HV13.out
  have sl := (Array.getElem?_eq_some_iff.1 HV13.out).1
  have hcall := worth_any 10 (rvL 9) _ 6 1 w13 (by decide) (HSV.out.mono HB13.out)
  rw [k_worth1, reached9 (by decide) (by decide) (by decide) (by decide)] at hcall
  go_wp2_with fail
  refine hcall.mono ?_
  rintro e w14 ⟨rfl, hb14⟩
  have HV14 := hid (heap_mono HV13.out hb14)
  have HW14 := hid (heap_mono HW13.out hb14)
  have HB14 := hid (bl_trans HB13.out hb14)
  have HL14 := hid (HL13.out.mono hb14)
  clear HL13
  clear hcall s0 s1 sl hb14 HV13 HW13
  have s0 : w14.cell? ⟨V, 0, none⟩ = some (.int .i64 10) := cell_of_heap HV14.out
  have s1 : w14.cell? ⟨V, 1, none⟩ = some (.slice A1 (rvL 9).length c1) := cell_of_heap HV14.out
  have sl := (Array.getElem?_eq_some_iff.1 HV14.out).1
  have hcall := latest_any 10 (rvL 9) _ 10 1 w14 (by decide) (HSV.out.mono HB14.out)
  rw [k_late10, reached9 (by decide) (by decide) (by decide) (by decide)] at hcall
  go_wp2_with fail
  refine hcall.mono ?_
  rintro e w15 ⟨rfl, hb15⟩
  have HV15 := hid (heap_mono HV14.out hb15)
  have HW15 := hid (heap_mono HW14.out hb15)
  have HB15 := hid (bl_trans HB14.out hb15)
  have HL15 := hid (HL14.out.mono hb15)
  clear HL14
  clear hcall s0 s1 sl hb15 HV14 HW14
  have ba := bl_alloc (bl_refl w15) (.cells #[.int .i64 0, .int .i64 0, .int .i64 0] 2)
  have hcall := longs_any [0, 0, 0] [0, 0, 0] _ _ _ (by decide) (HL15.out.mono ba) (ints_three (W := w15) 0 0 0 2 rfl)
  rw [decide_eq_true (rfl : ([0, 0, 0] : List Int) = [0, 0, 0])] at hcall
  have HB16 := hid (bl_trans HB15.out ba)
  clear ba
  go_wp2_with fail
  refine hcall.mono ?_
  rintro e w16 ⟨rfl, hb16⟩
  clear hcall
  have hcall := works_any w16
  go_wp2_with fail
  refine hcall.mono ?_
  rintro e w17 ⟨rfl, hb17⟩
  clear hcall
  go_wp2
  go_ret
  exact ⟨rfl, bl_trans HB0.out (bl_trans (bl_trans HB16.out hb16) hb17)⟩

end Go.Proofs.Ytbnmjbmlejifcaa
