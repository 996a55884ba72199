/- The chapter's examples hold: the walk. -/
import Derived.Test.YtbnmjbmlejifcaaLawb
import Derived.Test.YtbnmjbmlejifcaaFacts
set_option linter.all false
namespace Go.Proofs.Ytbnmjbmlejifcaa
open Go Go.RowKit Go.Proofs
attribute [local go_sem] cell_grow frozen_grow

set_option maxRecDepth 100000 in
set_option maxHeartbeats 16000000 in
theorem works_any (w : World) : Calls Try.prog 20 #[] w fun e w' => e = .returned (.bool true) ∧ Below w.heap.size w w' := by
  have h1 := river_any 9 w
  go_enter Try.func20, Try.ntmps20
  go_wp2_with fail
  refine h1.mono ?_
  rintro e w1 ⟨⟨s1, rfl, hs1⟩, hb1⟩
  clear h1
  obtain ⟨A1, c1, rfl⟩ := hs1.slice
  have h2 := river_any 4 w1
  go_wp2_with fail
  refine h2.mono ?_
  rintro e w2 ⟨⟨s2, rfl, hs2⟩, hb2⟩
  clear h2
  obtain ⟨A2, c2, rfl⟩ := hs2.slice
  have b3 := bl_alloc (bl_refl w2) (.cells #[.int .i64 10, .slice A1 (rvL 9).length c1] 24)
  have b4 := bl_alloc (bl_refl (w2.alloc (.cells #[.int .i64 10, .slice A1 (rvL 9).length c1] 24))) (.cells #[.int .i64 10, .slice A2 (rvL 4).length c2] 24)
  have e3 := World.alloc_heap_new w2 (.cells #[.int .i64 10, .slice A1 (rvL 9).length c1] 24)
  have e4 := World.alloc_heap_new (w2.alloc (.cells #[.int .i64 10, .slice A1 (rvL 9).length c1] 24)) (.cells #[.int .i64 10, .slice A2 (rvL 4).length c2] 24)
  simp only [World.size_alloc] at e4
  have HV3 := hid (heap_mono e3 b4)
  have HW3 := hid e4
  have HB3 := hid (bl_trans (bl_trans hb1 hb2) (bl_trans b3 b4))
  have HSVa := hid (hs1.mono (bl_trans hb2 (bl_trans b3 b4)))
  have HSWa := hid (hs2.mono (bl_trans b3 b4))
  clear hs1 hs2 b3 b4 e3 e4 hb1 hb2
  go_upto_region 2 with (fail)
  obtain ⟨V, hV⟩ : ∃ V, w2.heap.size = V := ⟨_, rfl⟩
  obtain ⟨w3, hw3⟩ : ∃ w3, (w2.alloc (.cells #[.int .i64 10, .slice A1 (rvL 9).length c1] 24)).alloc (.cells #[.int .i64 10, .slice A2 (rvL 4).length c2] 24) = w3 := ⟨_, rfl⟩
  rw [hV] at HV3 HW3 ⊢
  rw [hw3] at HV3 HW3 HB3 HSVa HSWa ⊢
  clear hV hw3
  have HB0 := HB3
  clear HB3
  have HB3 := hid (bl_refl w3)
  have HSV := HSVa
  have HSW := HSWa
  have s0 : w3.cell? ⟨V, 0, none⟩ = some (.int .i64 10) := cell_of_heap HV3.out
  have s1 : w3.cell? ⟨V, 1, none⟩ = some (.slice A1 (rvL 9).length c1) := cell_of_heap HV3.out
  have sl := (Array.getElem?_eq_some_iff.1 HV3.out).1
  have hcall := plan_any 10 (rvL 9) _ w3 (by decide) HSV.out
  rw [river9, k_plan] at hcall
  go_wp2_with fail
  refine hcall.mono ?_
  rintro e w4 ⟨⟨p, rfl, hp⟩, hb4⟩
  have HV4 := hid (heap_mono HV3.out hb4)
  have HW4 := hid (heap_mono HW3.out hb4)
  have HB4 := hid (bl_trans HB3.out hb4)
  have HP4 := hid hp
  clear hp
  clear hcall s0 s1 sl hb4 HV3 HW3
  go_upto_region 3 with (fail)
  refine wp_region_vals [35, 36, 37, 34, 38, 39, 5, 6] (fun seen u W => (seen 0 = true → u 35 = .agg #[.int .i64 10, .slice A1 (rvL 9).length c1]) ∧
    (seen 1 = true → Rows W (u 36) earlyL) ∧
    (seen 2 = true → u 37 = .tuple #[.int .i64 20, .int .i64 0]) ∧
    (seen 3 = true → u 34 = .tuple #[.int .i64 20, .int .i64 0]) ∧
    (seen 4 = true → u 38 = .int .i64 20) ∧
    (seen 5 = true → u 39 = .int .i64 0) ∧
    (seen 6 = true → u 5 = .int .i64 20) ∧
    (seen 7 = true → u 6 = .int .i64 0))
    (by kernel_rfl) (by kernel_rfl) (by kernel_rfl) (by simp) (by simp) ?_ ?_
  · intro i o ho seen a' w9 hb9 ⟨F0, F1, F2, F3, F4, F5, F6, F7⟩ hv hsi hdep
    have hbx := heap_mono HV4.out hb9
    have c0 : w9.cell? ⟨V, 0, none⟩ = some (.int .i64 10) := cell_of_heap hbx
    have c1' : w9.cell? ⟨V, 1, none⟩ = some (.slice A1 (rvL 9).length c1) := cell_of_heap hbx
    have hXl := (Array.getElem?_eq_some_iff.1 hbx).1
    rcases i with _ | _ | _ | _ | _ | _ | _ | _ | i <;> simp only [List.getElem?_cons_zero, List.getElem?_cons_succ, List.getElem?_nil, Option.some.injEq, reduceCtorEq] at ho <;> subst ho
    · have x1 := val_at (hv 1 (by simp))
      simp [valsOf] at x1
      refine wp_value (.agg #[.int .i64 10, .slice A1 (rvL 9).length c1]) (w' := w9) (by simp [execOp, x1, go_sem, c0, c1', hXl]) ⟨_, rfl, hb9, ?_⟩
      exact ⟨by simp, by simpa using F1, by simpa using F2, by simpa using F3, by simpa using F4, by simpa using F5, by simpa using F6, by simpa using F7⟩
    · refine wp_calls (f := 55) (args := #[]) (w' := w9) (by simp [execOp, go_sem]) (earlyPlan_any w9) ?_
      rintro e w10 ⟨⟨v, rfl, hv⟩, hg⟩
      refine ⟨_, rfl, _, rfl, bl_trans hb9 hg, ?_⟩
      exact ⟨by simpa using F0, by simpa using hv, by simpa using F2, by simpa using F3, by simpa using F4, by simpa using F5, by simpa using F6, by simpa using F7⟩
    · have d0 := hdep ⟨0, .data⟩ (by simp) rfl
      have e0 := val_at (F0 d0)
      have d1 := hdep ⟨1, .data⟩ (by simp) rfl
      have hrow := F1 d1
      obtain ⟨A7, c7, h7⟩ := hrow.slice
      have e7 := val_at h7
      rw [h7] at hrow
      have hcl := checkPlan_any 10 (rvL 9) _ earlyL _ 8 w9 (by decide) (HSV.out.mono (bl_trans HB4.out hb9)) (by decide) (by decide) hrow.weak
      rw [k_check.1, k_check.2] at hcl
      refine wp_calls (f := 21) (args := #[.agg #[.int .i64 10, .slice A1 (rvL 9).length c1], .slice A7 earlyL.length c7, .int .i64 8]) (w' := w9) (by simp [execOp, e0, e7, go_sem]) hcl ?_
      rintro e w10 ⟨rfl, hg⟩
      refine ⟨_, rfl, _, rfl, bl_trans hb9 hg, ?_⟩
      exact ⟨by simpa using F0, by simpa using fun h => (F1 h).mono hg, by simp, by simpa using F3, by simpa using F4, by simpa using F5, by simpa using F6, by simpa using F7⟩
    · have d2 := hdep ⟨2, .data⟩ (by simp) rfl
      have e2 := val_at (F2 d2)
      refine wp_value (.tuple #[.int .i64 20, .int .i64 0]) (w' := w9) (by simp [execOp, e2, go_sem, c0, c1', hXl]) ⟨_, rfl, hb9, ?_⟩
      exact ⟨by simpa using F0, by simpa using F1, by simpa using F2, by simp, by simpa using F4, by simpa using F5, by simpa using F6, by simpa using F7⟩
    · have d3 := hdep ⟨3, .data⟩ (by simp) rfl
      have e3 := val_at (F3 d3)
      refine wp_value (.int .i64 20) (w' := w9) (by simp [execOp, e3, go_sem, c0, c1', hXl]) ⟨_, rfl, hb9, ?_⟩
      exact ⟨by simpa using F0, by simpa using F1, by simpa using F2, by simpa using F3, by simp, by simpa using F5, by simpa using F6, by simpa using F7⟩
    · have d3 := hdep ⟨3, .data⟩ (by simp) rfl
      have e3 := val_at (F3 d3)
      refine wp_value (.int .i64 0) (w' := w9) (by simp [execOp, e3, go_sem, c0, c1', hXl]) ⟨_, rfl, hb9, ?_⟩
      exact ⟨by simpa using F0, by simpa using F1, by simpa using F2, by simpa using F3, by simpa using F4, by simp, by simpa using F6, by simpa using F7⟩
    · have d4 := hdep ⟨4, .data⟩ (by simp) rfl
      have e4 := val_at (F4 d4)
      refine wp_value (.int .i64 20) (w' := w9) (by simp [execOp, e4, go_sem, c0, c1', hXl]) ⟨_, rfl, hb9, ?_⟩
      exact ⟨by simpa using F0, by simpa using F1, by simpa using F2, by simpa using F3, by simpa using F4, by simpa using F5, by simp, by simpa using F7⟩
    · have d5 := hdep ⟨5, .data⟩ (by simp) rfl
      have e5 := val_at (F5 d5)
      refine wp_value (.int .i64 0) (w' := w9) (by simp [execOp, e5, go_sem, c0, c1', hXl]) ⟨_, rfl, hb9, ?_⟩
      exact ⟨by simpa using F0, by simpa using F1, by simpa using F2, by simpa using F3, by simpa using F4, by simpa using F5, by simpa using F6, by simp⟩
  intro u w5 hb5 seen hall ⟨F0, F1, F2, F3, F4, F5, F6, F7⟩
  replace F0 := F0 (hall 0 (by decide))
  replace F1 := F1 (hall 1 (by decide))
  replace F2 := F2 (hall 2 (by decide))
  replace F3 := F3 (hall 3 (by decide))
  replace F4 := F4 (hall 4 (by decide))
  replace F5 := F5 (hall 5 (by decide))
  replace F6 := F6 (hall 6 (by decide))
  replace F7 := F7 (hall 7 (by decide))
  simp only [setAll, F6, F7]
  have HV5 := hid (heap_mono HV4.out hb5)
  have HW5 := hid (heap_mono HW4.out hb5)
  have HB5 := hid (bl_trans HB4.out hb5)
  have HP5 := hid (HP4.out.mono hb5)
  clear F0 F1 F2 F3 F4 F5 F6 F7 hall seen hb5 HV4 HW4 HP4
  generalize u 35 = u35
  generalize u 36 = u36
  generalize u 37 = u37
  generalize u 34 = u34
  generalize u 38 = u38
  generalize u 39 = u39
  have s0 : w5.cell? ⟨V, 0, none⟩ = some (.int .i64 10) := cell_of_heap HV5.out
  have s1 : w5.cell? ⟨V, 1, none⟩ = some (.slice A1 (rvL 9).length c1) := cell_of_heap HV5.out
  have sl := (Array.getElem?_eq_some_iff.1 HV5.out).1
  have hcall := most_any 10 (rvL 9) _ 6 w5 (by decide) (HSV.out.mono HB5.out)
  rw [asked9 (by decide) (by decide), if_pos rfl, k_most6] at hcall
  go_wp2_with fail
  refine hcall.mono ?_
  rintro e w6 ⟨rfl, hb6⟩
  have HV6 := hid (heap_mono HV5.out hb6)
  have HW6 := hid (heap_mono HW5.out hb6)
  have HB6 := hid (bl_trans HB5.out hb6)
  have HP6 := hid (HP5.out.mono hb6)
  clear HP5
  clear hcall s0 s1 sl hb6 HV5 HW5
  have s0 : w6.cell? ⟨V, 0, none⟩ = some (.int .i64 10) := cell_of_heap HV6.out
  have s1 : w6.cell? ⟨V, 1, none⟩ = some (.slice A1 (rvL 9).length c1) := cell_of_heap HV6.out
  have sl := (Array.getElem?_eq_some_iff.1 HV6.out).1
  have hcall := by_any 10 (rvL 9) _ 16 w6 (by decide) (HSV.out.mono HB6.out)
  rw [k_by16.1, k_by16.2] at hcall
  go_wp2_with fail
  refine hcall.mono ?_
  rintro e w7 ⟨rfl, hb7⟩
  have HV7 := hid (heap_mono HV6.out hb7)
  have HW7 := hid (heap_mono HW6.out hb7)
  have HB7 := hid (bl_trans HB6.out hb7)
  have HP7 := hid (HP6.out.mono hb7)
  clear HP6
  clear hcall s0 s1 sl hb7 HV6 HW6
  have s0 : w7.cell? ⟨V, 0, none⟩ = some (.int .i64 10) := cell_of_heap HV7.out
  have s1 : w7.cell? ⟨V, 1, none⟩ = some (.slice A1 (rvL 9).length c1) := cell_of_heap HV7.out
  have sl := (Array.getElem?_eq_some_iff.1 HV7.out).1
  have hcall := by_any 10 (rvL 9) _ 21 w7 (by decide) (HSV.out.mono HB7.out)
  rw [k_by21.1, k_by21.2] at hcall
  go_wp2_with fail
  refine hcall.mono ?_
  rintro e w8 ⟨rfl, hb8⟩
  have HV8 := hid (heap_mono HV7.out hb8)
  have HW8 := hid (heap_mono HW7.out hb8)
  have HB8 := hid (bl_trans HB7.out hb8)
  have HP8 := hid (HP7.out.mono hb8)
  clear HP7
  clear hcall s0 s1 sl hb8 HV7 HW7
  have s0 : w8.cell? ⟨V, 0, none⟩ = some (.int .i64 10) := cell_of_heap HV8.out
  have s1 : w8.cell? ⟨V, 1, none⟩ = some (.slice A1 (rvL 9).length c1) := cell_of_heap HV8.out
  have sl := (Array.getElem?_eq_some_iff.1 HV8.out).1
  have ba8 := bl_alloc (bl_refl w8) (.cells #[.int .i64 1, .int .i64 2, .int .i64 5] 2)
  have hcall := checkCut_any 10 (rvL 9) _ 6 [1, 2, 5] _ _ (by decide) (HSV.out.mono (bl_trans HB8.out ba8)) (by decide) (ints_three (W := w8) 1 2 5 2 rfl)
  rw [k_cut125.1, k_cut125.2] at hcall
  go_wp2_with fail
  refine hcall.mono ?_
  rintro e w9 ⟨rfl, hb9⟩
  have HV9 := hid (heap_mono HV8.out (bl_trans ba8 hb9))
  have HW9 := hid (heap_mono HW8.out (bl_trans ba8 hb9))
  have HB9 := hid (bl_trans HB8.out (bl_trans ba8 hb9))
  have HP9 := hid (HP8.out.mono (bl_trans ba8 hb9))
  clear HP8
  clear hcall s0 s1 sl hb9 HV8 HW8 ba8
  have s0 : w9.cell? ⟨V, 0, none⟩ = some (.int .i64 10) := cell_of_heap HV9.out
  have s1 : w9.cell? ⟨V, 1, none⟩ = some (.slice A1 (rvL 9).length c1) := cell_of_heap HV9.out
  have sl := (Array.getElem?_eq_some_iff.1 HV9.out).1
  have hcall := cutFn_any 10 (rvL 9) _ 6 w9 (by decide) (HSV.out.mono HB9.out)
  rw [asked9 (by decide) (by decide)] at hcall
  go_wp2_with fail
  refine hcall.mono ?_
  rintro e w10 ⟨⟨fc, o, rfl, hfi, hfo⟩, hb10⟩
  have HV10 := hid (heap_mono HV9.out hb10)
  have HW10 := hid (heap_mono HW9.out hb10)
  have HB10 := hid (bl_trans HB9.out hb10)
  have HP10 := hid (HP9.out.mono hb10)
  have HFO := hid hfo
  have HF10 := hid hfi
  clear HP9 hfo hfi
  clear hcall s0 s1 sl hb10 HV9 HW9
  have s0 : w10.cell? ⟨V + 1, 0, none⟩ = some (.int .i64 10) := cell_of_heap HW10.out
  have s1 : w10.cell? ⟨V + 1, 1, none⟩ = some (.slice A2 (rvL 4).length c2) := cell_of_heap HW10.out
  have sl := (Array.getElem?_eq_some_iff.1 HW10.out).1
  have hcall := left_any 10 (rvL 4) _ w10 (by decide) (HSW.out.mono HB10.out)
  rw [river4, k_left4] at hcall
  go_wp2_with fail
  refine hcall.mono ?_
  rintro e w11 ⟨⟨lf, rfl, hlf⟩, hb11⟩
  have HV11 := hid (heap_mono HV10.out hb11)
  have HW11 := hid (heap_mono HW10.out hb11)
  have HB11 := hid (bl_trans HB10.out hb11)
  have HP11 := hid (HP10.out.mono hb11)
  have HF11 := hid (HF10.out.mono hb11)
  have HL11 := hid hlf
  clear HP10 HF10 hlf
  clear hcall s0 s1 sl hb11 HV10 HW10
  have s0 : w11.cell? ⟨V, 0, none⟩ = some (.int .i64 10) := cell_of_heap HV11.out
  have s1 : w11.cell? ⟨V, 1, none⟩ = some (.slice A1 (rvL 9).length c1) := cell_of_heap HV11.out
  have sl := (Array.getElem?_eq_some_iff.1 HV11.out).1
  have hcall := worth_any 10 (rvL 9) _ 6 2 w11 (by decide) (HSV.out.mono HB11.out)
  rw [k_worth2, reached9 (by decide) (by decide) (by decide) (by decide)] at hcall
  go_wp2_with fail
  refine hcall.mono ?_
  rintro e w12 ⟨rfl, hb12⟩
  have HV12 := hid (heap_mono HV11.out hb12)
  have HW12 := hid (heap_mono HW11.out hb12)
  have HB12 := hid (bl_trans HB11.out hb12)
  have HP12 := hid (HP11.out.mono hb12)
  have HF12 := hid (HF11.out.mono hb12)
  have HL12 := hid (HL11.out.mono hb12)
  clear HP11 HF11 HL11
  clear hcall s0 s1 sl hb12 HV11 HW11
  have s0 : w12.cell? ⟨V, 0, none⟩ = some (.int .i64 10) := cell_of_heap HV12.out
  have s1 : w12.cell? ⟨V, 1, none⟩ = some (.slice A1 (rvL 9).length c1) := cell_of_heap HV12.out
  have sl := (Array.getElem?_eq_some_iff.1 HV12.out).1
  have hcall := latest_any 10 (rvL 9) _ 8 1 w12 (by decide) (HSV.out.mono HB12.out)
  rw [k_late8, reached9 (by decide) (by decide) (by decide) (by decide)] at hcall
  go_wp2_with fail
  refine hcall.mono ?_
  rintro e w13 ⟨rfl, hb13⟩
  have HV13 := hid (heap_mono HV12.out hb13)
  have HW13 := hid (heap_mono HW12.out hb13)
  have HB13 := hid (bl_trans HB12.out hb13)
  have HP13 := hid (HP12.out.mono hb13)
  have HF13 := hid (HF12.out.mono hb13)
  have HL13 := hid (HL12.out.mono hb13)
  clear HP12 HF12 HL12
  clear hcall s0 s1 sl hb13 HV12 HW12
  have s0 : w13.cell? ⟨V, 0, none⟩ = some (.int .i64 10) := cell_of_heap HV13.out
  have s1 : w13.cell? ⟨V, 1, none⟩ = some (.slice A1 (rvL 9).length c1) := cell_of_heap HV13.out
  have sl := (Array.getElem?_eq_some_iff.1 HV13.out).1
  have ba13 := bl_alloc (bl_refl w13) (.cells #[.int .i64 1, .int .i64 1, .int .i64 8] 2)
  have hcall := checkCut_any 10 (rvL 9) _ 6 [1, 1, 8] _ _ (by decide) (HSV.out.mono (bl_trans HB13.out ba13)) (by decide) (ints_three (W := w13) 1 1 8 2 rfl)
  rw [k_cut118.1, k_cut118.2] at hcall
  go_wp2_with fail
  refine hcall.mono ?_
  rintro e w14 ⟨rfl, hb14⟩
  have HV14 := hid (heap_mono HV13.out (bl_trans ba13 hb14))
  have HW14 := hid (heap_mono HW13.out (bl_trans ba13 hb14))
  have HB14 := hid (bl_trans HB13.out (bl_trans ba13 hb14))
  have HP14 := hid (HP13.out.mono (bl_trans ba13 hb14))
  have HF14 := hid (HF13.out.mono (bl_trans ba13 hb14))
  have HL14 := hid (HL13.out.mono (bl_trans ba13 hb14))
  clear HP13 HF13 HL13
  clear hcall s0 s1 sl hb14 HV13 HW13 ba13
  obtain ⟨Af, cf, rfl⟩ := HF14.out.slice
  have hol : o.length ≤ 1000 := by
    rcases HFO.out with ⟨h, _⟩ | ⟨_, h, _⟩
    · exact absurd (asked9 (by decide) (by decide)) h
    · rw [h]; decide
  have s0 : w14.cell? ⟨V, 0, none⟩ = some (.int .i64 10) := cell_of_heap HV14.out
  have s1 : w14.cell? ⟨V, 1, none⟩ = some (.slice A1 (rvL 9).length c1) := cell_of_heap HV14.out
  have sl := (Array.getElem?_eq_some_iff.1 HV14.out).1
  have hcall := refCheckCut_any 10 (rvL 9) _ 6 o _ w14 (HSV.out.mono HB14.out) hol HF14.out
  rw [(k_cut HFO.out).1, (k_cut HFO.out).2] at hcall
  go_wp2_with fail
  refine hcall.mono ?_
  rintro e w15 ⟨rfl, hb15⟩
  have HV15 := hid (heap_mono HV14.out hb15)
  have HW15 := hid (heap_mono HW14.out hb15)
  have HB15 := hid (bl_trans HB14.out hb15)
  have HP15 := hid (HP14.out.mono hb15)
  have HL15 := hid (HL14.out.mono hb15)
  clear HP14 HL14
  clear hcall s0 s1 sl hb15 HV14 HW14
  have hcall := earlyPlan_any w15
  go_wp2_with fail
  refine hcall.mono ?_
  rintro e w16 ⟨⟨ep, rfl, hep⟩, hb16⟩
  have HP16 := hid (HP15.out.mono hb16)
  have HL16 := hid (HL15.out.mono hb16)
  have HB16 := hid (bl_trans HB15.out hb16)
  have HE16 := hid hep
  clear hcall hep hb16 HP15 HL15 HV15 HW15
  have hcall := same_any earlyL earlyL _ _ w16 (by decide) (by decide) HP16.out HE16.out
  rw [decide_eq_true (rfl : earlyL = earlyL)] at hcall
  go_wp2_with fail
  refine hcall.mono ?_
  rintro e w17 ⟨rfl, hb17⟩
  have HB17 := hid (bl_trans HB16.out hb17)
  have HL17 := hid (HL16.out.mono hb17)
  clear hcall hb17 HP16 HL16 HE16
  have ba := bl_alloc (bl_refl w17) (.cells #[.int .i64 0, .int .i64 0, .int .i64 9] 2)
  have hcall := longs_any [0, 0, 9] [0, 0, 9] _ _ _ (by decide) (HL17.out.mono ba) (ints_three (W := w17) 0 0 9 2 rfl)
  rw [decide_eq_true (rfl : ([0, 0, 9] : List Int) = [0, 0, 9])] at hcall
  have HB18 := hid (bl_trans HB17.out ba)
  clear ba
  go_wp2_with fail
  refine hcall.mono ?_
  rintro e w18 ⟨rfl, hb18⟩
  clear hcall
  go_wp2
  go_ret
  exact ⟨rfl, bl_trans HB0.out (bl_trans HB18.out hb18)⟩

end Go.Proofs.Ytbnmjbmlejifcaa
