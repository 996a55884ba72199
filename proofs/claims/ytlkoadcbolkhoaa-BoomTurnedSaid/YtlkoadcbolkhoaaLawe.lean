/- BoomMore: the law's walk. -/
import Derived.Test.YtlkoadcbolkhoaaSubm
set_option linter.all false
namespace Go.Proofs.Ytlkoadcbolkhoaa
open Go Go.RowKit Go.Proofs
attribute [local go_sem] cell_grow frozen_grow

/-- A pond's value; a value of best. -/
def PondV (W : World) (v : Value) (wd hg : Int) (A B : List Int) : Prop := ∃ s1 s2, v = .agg #[.int .i64 wd, .int .i64 hg, s1, s2] ∧ Ints W s1 A ∧ Ints W s2 B
theorem PondV.mono {W W' : World} {v : Value} {wd hg : Int} {A B : List Int} (h : PondV W v wd hg A B) (hb : Below W.heap.size W W') : PondV W' v wd hg A B := by
  obtain ⟨a, b, h1, h2, h3⟩ := h
  exact ⟨a, b, h1, h2.mono hb, h3.mono hb⟩
def BestV (W : World) (v : Value) (m : Int) (A B : List Int) : Prop := ∃ s1 s2, v = .tuple #[.int .i64 m, s1, s2, .bool true] ∧ Ints W s1 A ∧ Ints W s2 B
theorem BestV.mono {W W' : World} {v : Value} {m : Int} {A B : List Int} (h : BestV W v m A B) (hb : Below W.heap.size W W') : BestV W' v m A B := by
  obtain ⟨a, b, h1, h2, h3⟩ := h
  exact ⟨a, b, h1, h2.mono hb, h3.mono hb⟩
theorem fine_yes {wd hg : Int} {want keep : List Int} (h : fineB wd hg want keep = true) : pondE wd hg want keep = 0 ∧ want.length ≤ 70 ∧ keep.length ≤ 70 := by
  unfold fineB at h
  rw [Bool.and_eq_true, Bool.not_eq_true'] at h
  have := great_no h.1
  exact ⟨of_decide_eq_true h.2, this.1, this.2⟩
theorem free_len {wd hg : Int} {want keep : List Int} (hV : Valid wd hg want keep) : (freeL wd hg want keep).length ≤ 64 := by
  have h := pickC_len (freeP want keep) (wd * hg).toNat
  have := hV.cells
  exact Nat.le_trans h (by omega)
set_option maxRecDepth 100000 in
set_option maxHeartbeats 16000000 in
theorem boomMore_any (wd hg : Int) (sw sk : Value) (want keep : List Int) (which : Int) (w : World) (hw : Ints w sw want) (hk : Ints w sk keep) (hwh : 0 ≤ which ∧ which < 256) :
    Calls Try.prog 10 #[.agg #[.int .i64 wd, .int .i64 hg, sw, sk], .int .u8 which] w fun e w' => e = .returned (.bool true) ∧ Below w.heap.size w w' := by
  obtain ⟨A, ca, rfl⟩ := hw.slice
  obtain ⟨Bk, ck, rfl⟩ := hk.slice
  obtain ⟨fb, hfb⟩ : ∃ b, fineB wd hg want keep = b := ⟨_, rfl⟩
  have HFB := hid hfb
  clear hfb
  have HX_0 := hid (World.alloc_heap_new w (.cells #[.int .i64 wd, .int .i64 hg, .slice A want.length ca, .slice Bk keep.length ck] 24))
  have hb0 := bl_alloc (bl_refl w) (.cells #[.int .i64 wd, .int .i64 hg, .slice A want.length ca, .slice Bk keep.length ck] 24)
  have HB0 := hid hb0
  have HW_0 := hid (hw.mono hb0)
  have HK_0 := hid (hk.mono hb0)
  clear hb0 hw hk
  go_enter Try.func10, Try.ntmps10
  go_upto_region 1 with (fail)
  obtain ⟨w0, hw0⟩ : ∃ w0, w.alloc (.cells #[.int .i64 wd, .int .i64 hg, .slice A want.length ca, .slice Bk keep.length ck] 24) = w0 := ⟨_, rfl⟩
  obtain ⟨X, hX⟩ : ∃ X, w.heap.size = X := ⟨_, rfl⟩
  rw [hX] at HX_0 ⊢
  rw [hw0] at HB0 HX_0 HW_0 HK_0 ⊢
  clear hw0 hX
  have sX0 : w0.cell? ⟨X, 0, none⟩ = some (.int .i64 wd) := cell_of_heap HX_0.out
  have sX1 : w0.cell? ⟨X, 1, none⟩ = some (.int .i64 hg) := cell_of_heap HX_0.out
  have sX2 : w0.cell? ⟨X, 2, none⟩ = some (.slice A want.length ca) := cell_of_heap HX_0.out
  have sX3 : w0.cell? ⟨X, 3, none⟩ = some (.slice Bk keep.length ck) := cell_of_heap HX_0.out
  have slX := (Array.getElem?_eq_some_iff.1 HX_0.out).1
  have hcall := fine_any (wd := wd) (hg := hg) w0 HW_0.out HK_0.out
  rw [HFB.out] at hcall
  go_wp2_with fail
  refine hcall.mono ?_
  rintro e w1 ⟨rfl, hb1⟩
  clear hcall sX0 sX1 sX2 sX3 slX
  have HX_1 := hid (heap_mono HX_0.out hb1)
  have HW_1 := hid (HW_0.out.mono hb1)
  have HK_1 := hid (HK_0.out.mono hb1)
  have HB1 := hid (bl_trans HB0.out hb1)
  clear HX_0 HW_0 HK_0
  clear hb1
  cases fb with
  | false =>
    have hworks := works_any w1
    go_wp2_with fail
    refine hworks.mono ?_
    rintro e wz ⟨rfl, hbz⟩
    clear hworks
    go_wp2
    go_ret
    exact ⟨rfl, bl_trans HB1.out hbz⟩
  | true =>
    obtain ⟨hp, hl1, hl2⟩ := fine_yes HFB.out
    have hV := pond_valid hp
    have HP := hid hp
    have HBo := hid hV.B
    clear hp
    have hfl := free_len (want := want) (keep := keep) hV
    obtain ⟨FL, hFL⟩ : ∃ l, freeL wd hg want keep = l := ⟨_, rfl⟩
    have HFL := hid hFL
    rw [hFL] at hfl
    clear hFL
    have sX0 : w1.cell? ⟨X, 0, none⟩ = some (.int .i64 wd) := cell_of_heap HX_1.out
    have sX1 : w1.cell? ⟨X, 1, none⟩ = some (.int .i64 hg) := cell_of_heap HX_1.out
    have sX2 : w1.cell? ⟨X, 2, none⟩ = some (.slice A want.length ca) := cell_of_heap HX_1.out
    have sX3 : w1.cell? ⟨X, 3, none⟩ = some (.slice Bk keep.length ck) := cell_of_heap HX_1.out
    have slX := (Array.getElem?_eq_some_iff.1 HX_1.out).1
    have hcall := rfree_any (wd := wd) (hg := hg) w1 HBo.out (by omega) (by omega) HW_1.out HK_1.out
    rw [HFL.out] at hcall
    go_wp2_with fail
    refine hcall.mono ?_
    rintro e w2 ⟨⟨v1, rfl, hv1⟩, hb2⟩
    clear hcall sX0 sX1 sX2 sX3 slX
    have HX_2 := hid (heap_mono HX_1.out hb2)
    have HW_2 := hid (HW_1.out.mono hb2)
    have HK_2 := hid (HK_1.out.mono hb2)
    have HB2 := hid (bl_trans HB1.out hb2)
    clear HX_1 HW_1 HK_1
    clear hb2
    obtain ⟨Av, cv, rfl⟩ := hv1.slice
    clear hv1
    by_cases h0 : FL.length = 0
    · have t0 : ((FL.length : Int) == 0) = true := by simp [h0]
      have hworks := works_any w2
      go_wp2_with fail
      refine hworks.mono ?_
      rintro e wz ⟨rfl, hbz⟩
      clear hworks
      go_wp2
      go_ret
      exact ⟨rfl, bl_trans HB2.out hbz⟩
    have t0 : ((FL.length : Int) == 0) = false := beq_eq_false_iff_ne.2 (by omega)
    have sX0 : w2.cell? ⟨X, 0, none⟩ = some (.int .i64 wd) := cell_of_heap HX_2.out
    have sX1 : w2.cell? ⟨X, 1, none⟩ = some (.int .i64 hg) := cell_of_heap HX_2.out
    have sX2 : w2.cell? ⟨X, 2, none⟩ = some (.slice A want.length ca) := cell_of_heap HX_2.out
    have sX3 : w2.cell? ⟨X, 3, none⟩ = some (.slice Bk keep.length ck) := cell_of_heap HX_2.out
    have slX := (Array.getElem?_eq_some_iff.1 HX_2.out).1
    have hcall := rfree_any (wd := wd) (hg := hg) w2 HBo.out (by omega) (by omega) HW_2.out HK_2.out
    rw [HFL.out] at hcall
    go_wp2_with fail
    refine hcall.mono ?_
    rintro e w3 ⟨⟨v2, rfl, hv2⟩, hb3⟩
    clear hcall sX0 sX1 sX2 sX3 slX
    have HX_3 := hid (heap_mono HX_2.out hb3)
    have HW_3 := hid (HW_2.out.mono hb3)
    have HK_3 := hid (HK_2.out.mono hb3)
    have HB3 := hid (bl_trans HB2.out hb3)
    clear HX_2 HW_2 HK_2
    have HFr_3 := hid hv2
    clear hv2
    clear hb3
    obtain ⟨Af, cf, rfl⟩ := HFr_3.out.slice
    obtain ⟨i, hi⟩ : ∃ i : Nat, which % (FL.length : Int) = i := ⟨(which % (FL.length : Int)).toNat, by have := Int.emod_nonneg which (show (FL.length : Int) ≠ 0 by omega); omega⟩
    have hil : i < FL.length := by have := Int.emod_lt_of_pos which (show 0 < (FL.length : Int) by omega); omega
    have htm : Int.tmod which (FL.length : Int) = i := by rw [Int.tmod_eq_emod_of_nonneg hwh.1, hi]
    obtain ⟨c, hc⟩ := get_at hil
    have hcf := free_mem (want := want) (keep := keep) HBo.out (show c ∈ freeL wd hg want keep by rw [HFL.out]; exact List.mem_of_getElem? hc)
    obtain ⟨bf, of_, hA, hbf, hcy⟩ : ∃ bb oo, Af = some ⟨bb, oo, none⟩ ∧ bb < w3.heap.size ∧ w3.cell? ⟨bb, oo + i, none⟩ = some (.int .i64 c) := by
      rcases HFr_3.out with ⟨hv, h0⟩ | ⟨bb, oo, c3, hv, h4, h5, h6⟩
      · rw [h0] at hil; simp at hil
      · injection hv with hv1 hv2 hv3
        exact ⟨bb, oo, hv1, h5, h6 i c hc⟩
    subst hA
    have hkI : (i : Int) < (FL.length : Int) := by omega
    have wwh : IntKind.i64.wrap which = which := IntWalk.i64_in _ (by omega)
    have HCF := hid hcf
    clear hcf hc hi
    have hbm := best_known hV
    obtain ⟨M, hM⟩ : ∃ m : Int, ((raft wd hg want keep).2 : Int) = m := ⟨_, rfl⟩
    obtain ⟨SL, hSL⟩ : ∃ l, smallL wd hg want keep = l := ⟨_, rfl⟩
    obtain ⟨LL, hLL⟩ : ∃ l, largeL wd hg want keep = l := ⟨_, rfl⟩
    have hsl := small_list hV
    have hll := large_list hV
    have hsn := small_len hV
    have hln := large_len hV
    rw [hM, hSL, hLL] at hbm
    rw [hSL] at hsl hsn
    rw [hLL] at hll hln
    have HBM := hid hbm
    have HM := hid hM
    have HSL := hid hSL
    have HLL := hid hLL
    have Hsl := hid hsl
    have Hll := hid hll
    have HV := hid hV
    clear hbm hM hSL hLL hsl hll hV
    obtain ⟨WC, hWC⟩ : ∃ l, withL want c = l := ⟨_, rfl⟩
    have hWCm : ∀ x, x ∈ WC ↔ x = c ∨ x ∈ want := fun x => by rw [← hWC]; exact with_mem _ x
    have hWCl : listB (wd * hg) 0 WC = true := by rw [← hWC]; exact with_list HV.out.w HCF.out.1.1 HCF.out.1.2 HCF.out.2.1
    have hWCn : WC.length ≤ 71 := by rw [← hWC]; have := withF_len c false want; unfold withL; omega
    have hp1 : pondE wd hg WC keep = 0 := pond_of HBo.out hWCl HV.out.k fun x hx hk => by
      rcases (hWCm x).1 hx with rfl | e
      · exact HCF.out.2.2 hk
      · exact HV.out.d x e hk
    have hv1 := pond_valid hp1
    have hb1 := best_known hv1
    have hs1l := small_list hv1
    have hl1l := large_list hv1
    have hs1n := small_len hv1
    have hl1n := large_len hv1
    obtain ⟨M1, hM1⟩ : ∃ m : Int, ((raft wd hg WC keep).2 : Int) = m := ⟨_, rfl⟩
    obtain ⟨S1, hS1⟩ : ∃ l, smallL wd hg WC keep = l := ⟨_, rfl⟩
    obtain ⟨L1, hL1⟩ : ∃ l, largeL wd hg WC keep = l := ⟨_, rfl⟩
    rw [hM1, hS1, hL1] at hb1
    rw [hS1] at hs1l hs1n
    rw [hL1] at hl1l hl1n
    have HP1 := hid hp1
    have HM1 := hid hM1
    have HS1 := hid hS1
    have HL1 := hid hL1
    have HWC := hid hWC
    obtain ⟨KC, hKC⟩ : ∃ l, withL keep c = l := ⟨_, rfl⟩
    have hKCm : ∀ x, x ∈ KC ↔ x = c ∨ x ∈ keep := fun x => by rw [← hKC]; exact with_mem _ x
    have hKCl : listB (wd * hg) 0 KC = true := by rw [← hKC]; exact with_list HV.out.k HCF.out.1.1 HCF.out.1.2 HCF.out.2.2
    have hKCn : KC.length ≤ 71 := by rw [← hKC]; have := withF_len c false keep; unfold withL; omega
    have hp2 : pondE wd hg want KC = 0 := pond_of HBo.out HV.out.w hKCl fun x hx hk => by
      rcases (hKCm x).1 hk with rfl | e
      · exact HCF.out.2.1 hx
      · exact HV.out.d x hx e
    have hv2 := pond_valid hp2
    have hb2 := best_known hv2
    have hs2l := small_list hv2
    have hl2l := large_list hv2
    have hs2n := small_len hv2
    have hl2n := large_len hv2
    obtain ⟨M2, hM2⟩ : ∃ m : Int, ((raft wd hg want KC).2 : Int) = m := ⟨_, rfl⟩
    obtain ⟨S2, hS2⟩ : ∃ l, smallL wd hg want KC = l := ⟨_, rfl⟩
    obtain ⟨L2, hL2⟩ : ∃ l, largeL wd hg want KC = l := ⟨_, rfl⟩
    rw [hM2, hS2, hL2] at hb2
    rw [hS2] at hs2l hs2n
    rw [hL2] at hl2l hl2n
    have HP2 := hid hp2
    have HM2 := hid hM2
    have HS2 := hid hS2
    have HL2 := hid hL2
    have HKC := hid hKC
    obtain ⟨g1, g2, g3, g4, g5, g6, g7⟩ := BestW.more HBM.out hb1 hb2 hWCm hKCm
    have GA1 := hid (show (SL.all fun c => S1.contains c) = true from all_in Hsl.out g4)
    have GA2 := hid (show (LL.all fun c => L1.contains c) = true from all_in Hll.out g5)
    have GA3 := hid (show (S2.all fun c => SL.contains c) = true from all_in hs2l g6)
    have GA4 := hid (show (L2.all fun c => LL.contains c) = true from all_in hl2l g7)
    clear hb1 hb2 hs1l hl1l hs2l hl2l hM1 hM2 hS1 hS2 hL1 hL2 hp1 hp2 hv1 hv2 g4 g5 g6 g7 hWC hKC hWCm hKCm hWCl hKCl
    have sX0 : w3.cell? ⟨X, 0, none⟩ = some (.int .i64 wd) := cell_of_heap HX_3.out
    have sX1 : w3.cell? ⟨X, 1, none⟩ = some (.int .i64 hg) := cell_of_heap HX_3.out
    have sX2 : w3.cell? ⟨X, 2, none⟩ = some (.slice A want.length ca) := cell_of_heap HX_3.out
    have sX3 : w3.cell? ⟨X, 3, none⟩ = some (.slice Bk keep.length ck) := cell_of_heap HX_3.out
    have slX := (Array.getElem?_eq_some_iff.1 HX_3.out).1
    have hcall := best_any' (wd := wd) (hg := hg) w3 HP.out HW_3.out HK_3.out
    rw [HM.out, HSL.out, HLL.out] at hcall
    go_wp2_with fail
    refine hcall.mono ?_
    rintro e w4 ⟨⟨sv, lv, rfl, hsv, hlv⟩, hb4⟩
    clear hcall sX0 sX1 sX2 sX3 slX
    have HX_4 := hid (heap_mono HX_3.out hb4)
    have HW_4 := hid (HW_3.out.mono hb4)
    have HK_4 := hid (HK_3.out.mono hb4)
    have HFr_4 := hid (HFr_3.out.mono hb4)
    have HB4 := hid (bl_trans HB3.out hb4)
    clear HX_3 HW_3 HK_3 HFr_3
    have HS0_4 := hid hsv
    clear hsv
    have HL0_4 := hid hlv
    clear hlv
    clear hb4
    clear hcy hbf wwh htm t0
    obtain ⟨Am, cm, rfl⟩ := HS0_4.out.slice
    obtain ⟨Al, cl, rfl⟩ := HL0_4.out.slice
    go_upto_region 6 with (fail)
    refine wp_region_valsG w4 (bl_refl _) [47, 48, 49, 50, 51, 52, 53, 54, 55, 56, 57, 58, 46, 59, 60, 61, 62, 11, 12, 13, 14] (fun seen u W => (seen 0 = true → u 47 = .pointer (some ⟨X, 0, none⟩)) ∧
      (seen 1 = true → u 48 = .int .i64 wd) ∧
      (seen 2 = true → u 49 = .pointer (some ⟨X, 1, none⟩)) ∧
      (seen 3 = true → u 50 = .int .i64 hg) ∧
      (seen 4 = true → u 51 = .pointer (some ⟨X, 2, none⟩)) ∧
      (seen 5 = true → u 52 = .slice A want.length ca) ∧
      (seen 6 = true → u 53 = .int .i64 c) ∧
      (seen 7 = true → Ints W (u 54) WC) ∧
      (seen 8 = true → u 55 = .pointer (some ⟨X, 3, none⟩)) ∧
      (seen 9 = true → u 56 = .slice Bk keep.length ck) ∧
      (seen 10 = true → PondV W (u 57) wd hg WC keep) ∧
      (seen 11 = true → BestV W (u 58) M1 S1 L1) ∧
      (seen 12 = true → BestV W (u 46) M1 S1 L1) ∧
      (seen 13 = true → u 59 = .int .i64 M1) ∧
      (seen 14 = true → Ints W (u 60) S1) ∧
      (seen 15 = true → Ints W (u 61) L1) ∧
      (seen 16 = true → u 62 = .bool true) ∧
      (seen 17 = true → u 11 = .int .i64 M1) ∧
      (seen 18 = true → Ints W (u 12) S1) ∧
      (seen 19 = true → Ints W (u 13) L1) ∧
      (seen 20 = true → u 14 = .bool true))
      (by kernel_rfl) (by kernel_rfl) (by kernel_rfl) (by simp) (by simp) ?_ ?_
    · intro i o ho seen a' w9 hb9 ⟨F0, F1, F2, F3, F4, F5, F6, F7, F8, F9, F10, F11, F12, F13, F14, F15, F16, F17, F18, F19, F20⟩ hv hsi hdep
      have hbx := heap_mono HX_4.out hb9
      have c0 : w9.cell? ⟨X, 0, none⟩ = some (.int .i64 wd) := cell_of_heap hbx
      have c1 : w9.cell? ⟨X, 1, none⟩ = some (.int .i64 hg) := cell_of_heap hbx
      have c2 : w9.cell? ⟨X, 2, none⟩ = some (.slice A want.length ca) := cell_of_heap hbx
      have c3 : w9.cell? ⟨X, 3, none⟩ = some (.slice Bk keep.length ck) := cell_of_heap hbx
      have hXl := (Array.getElem?_eq_some_iff.1 hbx).1
      rcases i with _ | _ | _ | _ | _ | _ | _ | _ | _ | _ | _ | _ | _ | _ | _ | _ | _ | _ | _ | _ | _ | i <;> simp only [List.getElem?_cons_zero, List.getElem?_cons_succ, List.getElem?_nil, Option.some.injEq, reduceCtorEq] at ho <;> subst ho
      · refine if_free rfl ?_
        have x2 := val_at (hv 2 (by simp))
        simp [valsOf] at x2
        refine wp_value (.pointer (some ⟨X, 0, none⟩)) (w' := w9) (by simp [execOp, x2, go_sem, c0, c1, c2, c3, hXl]) ⟨_, rfl, hb9, ?_⟩
        exact ⟨by simp, by simpa using F1, by simpa using F2, by simpa using F3, by simpa using F4, by simpa using F5, by simpa using F6, by simpa using F7, by simpa using F8, by simpa using F9, by simpa using F10, by simpa using F11, by simpa using F12, by simpa using F13, by simpa using F14, by simpa using F15, by simpa using F16, by simpa using F17, by simpa using F18, by simpa using F19, by simpa using F20⟩
      · refine if_free rfl ?_
        have d0 := hdep ⟨0, .data⟩ (by simp) rfl
        have e0 := val_at (F0 d0)
        refine wp_value (.int .i64 wd) (w' := w9) (by simp [execOp, e0, go_sem, c0, c1, c2, c3, hXl]) ⟨_, rfl, hb9, ?_⟩
        exact ⟨by simpa using F0, by simp, by simpa using F2, by simpa using F3, by simpa using F4, by simpa using F5, by simpa using F6, by simpa using F7, by simpa using F8, by simpa using F9, by simpa using F10, by simpa using F11, by simpa using F12, by simpa using F13, by simpa using F14, by simpa using F15, by simpa using F16, by simpa using F17, by simpa using F18, by simpa using F19, by simpa using F20⟩
      · refine if_free rfl ?_
        have x2 := val_at (hv 2 (by simp))
        simp [valsOf] at x2
        refine wp_value (.pointer (some ⟨X, 1, none⟩)) (w' := w9) (by simp [execOp, x2, go_sem, c0, c1, c2, c3, hXl]) ⟨_, rfl, hb9, ?_⟩
        exact ⟨by simpa using F0, by simpa using F1, by simp, by simpa using F3, by simpa using F4, by simpa using F5, by simpa using F6, by simpa using F7, by simpa using F8, by simpa using F9, by simpa using F10, by simpa using F11, by simpa using F12, by simpa using F13, by simpa using F14, by simpa using F15, by simpa using F16, by simpa using F17, by simpa using F18, by simpa using F19, by simpa using F20⟩
      · refine if_free rfl ?_
        have d2 := hdep ⟨2, .data⟩ (by simp) rfl
        have e2 := val_at (F2 d2)
        refine wp_value (.int .i64 hg) (w' := w9) (by simp [execOp, e2, go_sem, c0, c1, c2, c3, hXl]) ⟨_, rfl, hb9, ?_⟩
        exact ⟨by simpa using F0, by simpa using F1, by simpa using F2, by simp, by simpa using F4, by simpa using F5, by simpa using F6, by simpa using F7, by simpa using F8, by simpa using F9, by simpa using F10, by simpa using F11, by simpa using F12, by simpa using F13, by simpa using F14, by simpa using F15, by simpa using F16, by simpa using F17, by simpa using F18, by simpa using F19, by simpa using F20⟩
      · refine if_free rfl ?_
        have x2 := val_at (hv 2 (by simp))
        simp [valsOf] at x2
        refine wp_value (.pointer (some ⟨X, 2, none⟩)) (w' := w9) (by simp [execOp, x2, go_sem, c0, c1, c2, c3, hXl]) ⟨_, rfl, hb9, ?_⟩
        exact ⟨by simpa using F0, by simpa using F1, by simpa using F2, by simpa using F3, by simp, by simpa using F5, by simpa using F6, by simpa using F7, by simpa using F8, by simpa using F9, by simpa using F10, by simpa using F11, by simpa using F12, by simpa using F13, by simpa using F14, by simpa using F15, by simpa using F16, by simpa using F17, by simpa using F18, by simpa using F19, by simpa using F20⟩
      · refine if_free rfl ?_
        have d4 := hdep ⟨4, .data⟩ (by simp) rfl
        have e4 := val_at (F4 d4)
        refine wp_value (.slice A want.length ca) (w' := w9) (by simp [execOp, e4, go_sem, c0, c1, c2, c3, hXl]) ⟨_, rfl, hb9, ?_⟩
        exact ⟨by simpa using F0, by simpa using F1, by simpa using F2, by simpa using F3, by simpa using F4, by simp, by simpa using F6, by simpa using F7, by simpa using F8, by simpa using F9, by simpa using F10, by simpa using F11, by simpa using F12, by simpa using F13, by simpa using F14, by simpa using F15, by simpa using F16, by simpa using F17, by simpa using F18, by simpa using F19, by simpa using F20⟩
      · refine if_free rfl ?_
        have x6 := val_at (hv 6 (by simp))
        simp [valsOf] at x6
        refine wp_value (.int .i64 c) (w' := w9) (by simp [execOp, x6, go_sem, c0, c1, c2, c3, hXl]) ⟨_, rfl, hb9, ?_⟩
        exact ⟨by simpa using F0, by simpa using F1, by simpa using F2, by simpa using F3, by simpa using F4, by simpa using F5, by simp, by simpa using F7, by simpa using F8, by simpa using F9, by simpa using F10, by simpa using F11, by simpa using F12, by simpa using F13, by simpa using F14, by simpa using F15, by simpa using F16, by simpa using F17, by simpa using F18, by simpa using F19, by simpa using F20⟩
      · refine if_free rfl ?_
        have d5 := hdep ⟨5, .data⟩ (by simp) rfl
        have e5 := val_at (F5 d5)
        have d6 := hdep ⟨6, .data⟩ (by simp) rfl
        have e6 := val_at (F6 d6)
        have hcl := with_any want c (.slice A want.length ca) w9 (by omega) (HW_4.out.mono hb9)
        rw [HWC.out] at hcl
        refine wp_calls (f := 54) (args := #[.slice A want.length ca, .int .i64 c]) (w' := w9) (by simp [execOp, e5, e6, go_sem]) hcl ?_
        rintro e w10 ⟨⟨v, rfl, hv⟩, hg⟩
        refine ⟨_, rfl, _, rfl, bl_trans hb9 hg, ?_⟩
        exact ⟨by simpa using F0, by simpa using F1, by simpa using F2, by simpa using F3, by simpa using F4, by simpa using F5, by simpa using F6, by simpa using hv, by simpa using F8, by simpa using F9, by simpa using fun h => (F10 h).mono hg, by simpa using fun h => (F11 h).mono hg, by simpa using fun h => (F12 h).mono hg, by simpa using F13, by simpa using fun h => (F14 h).mono hg, by simpa using fun h => (F15 h).mono hg, by simpa using F16, by simpa using F17, by simpa using fun h => (F18 h).mono hg, by simpa using fun h => (F19 h).mono hg, by simpa using F20⟩
      · refine if_free rfl ?_
        have x2 := val_at (hv 2 (by simp))
        simp [valsOf] at x2
        refine wp_value (.pointer (some ⟨X, 3, none⟩)) (w' := w9) (by simp [execOp, x2, go_sem, c0, c1, c2, c3, hXl]) ⟨_, rfl, hb9, ?_⟩
        exact ⟨by simpa using F0, by simpa using F1, by simpa using F2, by simpa using F3, by simpa using F4, by simpa using F5, by simpa using F6, by simpa using F7, by simp, by simpa using F9, by simpa using F10, by simpa using F11, by simpa using F12, by simpa using F13, by simpa using F14, by simpa using F15, by simpa using F16, by simpa using F17, by simpa using F18, by simpa using F19, by simpa using F20⟩
      · refine if_free rfl ?_
        have d8 := hdep ⟨8, .data⟩ (by simp) rfl
        have e8 := val_at (F8 d8)
        refine wp_value (.slice Bk keep.length ck) (w' := w9) (by simp [execOp, e8, go_sem, c0, c1, c2, c3, hXl]) ⟨_, rfl, hb9, ?_⟩
        exact ⟨by simpa using F0, by simpa using F1, by simpa using F2, by simpa using F3, by simpa using F4, by simpa using F5, by simpa using F6, by simpa using F7, by simpa using F8, by simp, by simpa using F10, by simpa using F11, by simpa using F12, by simpa using F13, by simpa using F14, by simpa using F15, by simpa using F16, by simpa using F17, by simpa using F18, by simpa using F19, by simpa using F20⟩
      · refine if_free rfl ?_
        have d1 := hdep ⟨1, .data⟩ (by simp) rfl
        have e1 := val_at (F1 d1)
        have d3 := hdep ⟨3, .data⟩ (by simp) rfl
        have e3 := val_at (F3 d3)
        have d7 := hdep ⟨7, .data⟩ (by simp) rfl
        have d9 := hdep ⟨9, .data⟩ (by simp) rfl
        have e9 := val_at (F9 d9)
        have hi := F7 d7
        obtain ⟨A7, c7, e7⟩ := hi.slice
        have e7' := val_at e7
        rw [e7] at hi
        have hn : ∀ w10, Below w9.heap.size w9 w10 → PondV w10 (.agg #[.int .i64 wd, .int .i64 hg, .slice A7 WC.length c7, .slice Bk keep.length ck]) wd hg WC keep := fun w10 hb => ⟨_, _, rfl, hi.mono hb, HK_4.out.mono (bl_trans hb9 hb)⟩
        refine wp_calls (f := 53) (args := #[.int .i64 wd, .int .i64 hg, .slice A7 WC.length c7, .slice Bk keep.length ck]) (w' := w9) (by simp [execOp, e1, e3, e7', e9, go_sem]) (mkpond_any _ _ _ _ _ _ _ _ w9) ?_
        rintro e w10 ⟨rfl, hg⟩
        refine ⟨_, rfl, _, rfl, bl_trans hb9 hg, ?_⟩
        exact ⟨by simpa using F0, by simpa using F1, by simpa using F2, by simpa using F3, by simpa using F4, by simpa using F5, by simpa using F6, by simpa using fun h => (F7 h).mono hg, by simpa using F8, by simpa using F9, by simpa using hn _ hg, by simpa using fun h => (F11 h).mono hg, by simpa using fun h => (F12 h).mono hg, by simpa using F13, by simpa using fun h => (F14 h).mono hg, by simpa using fun h => (F15 h).mono hg, by simpa using F16, by simpa using F17, by simpa using fun h => (F18 h).mono hg, by simpa using fun h => (F19 h).mono hg, by simpa using F20⟩
      · refine if_free rfl ?_
        have d10 := hdep ⟨10, .data⟩ (by simp) rfl
        obtain ⟨s1, s2, e10, hi1, hi2⟩ := F10 d10
        have e10' := val_at e10
        have hcl := best_any' (wd := wd) (hg := hg) w9 HP1.out hi1 hi2
        rw [HM1.out, HS1.out, HL1.out] at hcl
        refine wp_calls (f := 46) (args := #[.agg #[.int .i64 wd, .int .i64 hg, s1, s2]]) (w' := w9) (by simp [execOp, e10', go_sem]) hcl ?_
        rintro e w10 ⟨⟨s, l, rfl, h1, h2⟩, hg⟩
        have hn : BestV w10 (.tuple #[.int .i64 M1, s, l, .bool true]) M1 S1 L1 := ⟨_, _, rfl, h1, h2⟩
        refine ⟨_, rfl, _, rfl, bl_trans hb9 hg, ?_⟩
        exact ⟨by simpa using F0, by simpa using F1, by simpa using F2, by simpa using F3, by simpa using F4, by simpa using F5, by simpa using F6, by simpa using fun h => (F7 h).mono hg, by simpa using F8, by simpa using F9, by simpa using fun h => (F10 h).mono hg, by simpa using hn, by simpa using fun h => (F12 h).mono hg, by simpa using F13, by simpa using fun h => (F14 h).mono hg, by simpa using fun h => (F15 h).mono hg, by simpa using F16, by simpa using F17, by simpa using fun h => (F18 h).mono hg, by simpa using fun h => (F19 h).mono hg, by simpa using F20⟩
      · refine if_free rfl ?_
        have d11 := hdep ⟨11, .data⟩ (by simp) rfl
        refine wp_value (valsOf a' 58) (w' := w9) (by simp [execOp, go_sem, valsOf]) ⟨_, rfl, hb9, ?_⟩
        exact ⟨by simpa using F0, by simpa using F1, by simpa using F2, by simpa using F3, by simpa using F4, by simpa using F5, by simpa using F6, by simpa using F7, by simpa using F8, by simpa using F9, by simpa using F10, by simpa using F11, by simpa using F11 d11, by simpa using F13, by simpa using F14, by simpa using F15, by simpa using F16, by simpa using F17, by simpa using F18, by simpa using F19, by simpa using F20⟩
      · refine if_free rfl ?_
        have d12 := hdep ⟨12, .data⟩ (by simp) rfl
        obtain ⟨s1, s2, e12, hi1, hi2⟩ := F12 d12
        have e12' := val_at e12
        refine wp_value (.int .i64 M1) (w' := w9) (by simp [execOp, e12', go_sem]) ⟨_, rfl, hb9, ?_⟩
        exact ⟨by simpa using F0, by simpa using F1, by simpa using F2, by simpa using F3, by simpa using F4, by simpa using F5, by simpa using F6, by simpa using F7, by simpa using F8, by simpa using F9, by simpa using F10, by simpa using F11, by simpa using F12, by simp, by simpa using F14, by simpa using F15, by simpa using F16, by simpa using F17, by simpa using F18, by simpa using F19, by simpa using F20⟩
      · refine if_free rfl ?_
        have d12 := hdep ⟨12, .data⟩ (by simp) rfl
        obtain ⟨s1, s2, e12, hi1, hi2⟩ := F12 d12
        have e12' := val_at e12
        refine wp_value s1 (w' := w9) (by simp [execOp, e12', go_sem]) ⟨_, rfl, hb9, ?_⟩
        exact ⟨by simpa using F0, by simpa using F1, by simpa using F2, by simpa using F3, by simpa using F4, by simpa using F5, by simpa using F6, by simpa using F7, by simpa using F8, by simpa using F9, by simpa using F10, by simpa using F11, by simpa using F12, by simpa using F13, by simpa using hi1, by simpa using F15, by simpa using F16, by simpa using F17, by simpa using F18, by simpa using F19, by simpa using F20⟩
      · refine if_free rfl ?_
        have d12 := hdep ⟨12, .data⟩ (by simp) rfl
        obtain ⟨s1, s2, e12, hi1, hi2⟩ := F12 d12
        have e12' := val_at e12
        refine wp_value s2 (w' := w9) (by simp [execOp, e12', go_sem]) ⟨_, rfl, hb9, ?_⟩
        exact ⟨by simpa using F0, by simpa using F1, by simpa using F2, by simpa using F3, by simpa using F4, by simpa using F5, by simpa using F6, by simpa using F7, by simpa using F8, by simpa using F9, by simpa using F10, by simpa using F11, by simpa using F12, by simpa using F13, by simpa using F14, by simpa using hi2, by simpa using F16, by simpa using F17, by simpa using F18, by simpa using F19, by simpa using F20⟩
      · refine if_free rfl ?_
        have d12 := hdep ⟨12, .data⟩ (by simp) rfl
        obtain ⟨s1, s2, e12, hi1, hi2⟩ := F12 d12
        have e12' := val_at e12
        refine wp_value (.bool true) (w' := w9) (by simp [execOp, e12', go_sem]) ⟨_, rfl, hb9, ?_⟩
        exact ⟨by simpa using F0, by simpa using F1, by simpa using F2, by simpa using F3, by simpa using F4, by simpa using F5, by simpa using F6, by simpa using F7, by simpa using F8, by simpa using F9, by simpa using F10, by simpa using F11, by simpa using F12, by simpa using F13, by simpa using F14, by simpa using F15, by simp, by simpa using F17, by simpa using F18, by simpa using F19, by simpa using F20⟩
      · refine if_free rfl ?_
        have d13 := hdep ⟨13, .data⟩ (by simp) rfl
        have e13 := val_at (F13 d13)
        refine wp_value (.int .i64 M1) (w' := w9) (by simp [execOp, e13, go_sem, c0, c1, c2, c3, hXl]) ⟨_, rfl, hb9, ?_⟩
        exact ⟨by simpa using F0, by simpa using F1, by simpa using F2, by simpa using F3, by simpa using F4, by simpa using F5, by simpa using F6, by simpa using F7, by simpa using F8, by simpa using F9, by simpa using F10, by simpa using F11, by simpa using F12, by simpa using F13, by simpa using F14, by simpa using F15, by simpa using F16, by simp, by simpa using F18, by simpa using F19, by simpa using F20⟩
      · refine if_free rfl ?_
        have d14 := hdep ⟨14, .data⟩ (by simp) rfl
        refine wp_value (valsOf a' 60) (w' := w9) (by simp [execOp, go_sem, valsOf]) ⟨_, rfl, hb9, ?_⟩
        exact ⟨by simpa using F0, by simpa using F1, by simpa using F2, by simpa using F3, by simpa using F4, by simpa using F5, by simpa using F6, by simpa using F7, by simpa using F8, by simpa using F9, by simpa using F10, by simpa using F11, by simpa using F12, by simpa using F13, by simpa using F14, by simpa using F15, by simpa using F16, by simpa using F17, by simpa using F14 d14, by simpa using F19, by simpa using F20⟩
      · refine if_free rfl ?_
        have d15 := hdep ⟨15, .data⟩ (by simp) rfl
        refine wp_value (valsOf a' 61) (w' := w9) (by simp [execOp, go_sem, valsOf]) ⟨_, rfl, hb9, ?_⟩
        exact ⟨by simpa using F0, by simpa using F1, by simpa using F2, by simpa using F3, by simpa using F4, by simpa using F5, by simpa using F6, by simpa using F7, by simpa using F8, by simpa using F9, by simpa using F10, by simpa using F11, by simpa using F12, by simpa using F13, by simpa using F14, by simpa using F15, by simpa using F16, by simpa using F17, by simpa using F18, by simpa using F15 d15, by simpa using F20⟩
      · refine if_free rfl ?_
        have d16 := hdep ⟨16, .data⟩ (by simp) rfl
        have e16 := val_at (F16 d16)
        refine wp_value (.bool true) (w' := w9) (by simp [execOp, e16, go_sem, c0, c1, c2, c3, hXl]) ⟨_, rfl, hb9, ?_⟩
        exact ⟨by simpa using F0, by simpa using F1, by simpa using F2, by simpa using F3, by simpa using F4, by simpa using F5, by simpa using F6, by simpa using F7, by simpa using F8, by simpa using F9, by simpa using F10, by simpa using F11, by simpa using F12, by simpa using F13, by simpa using F14, by simpa using F15, by simpa using F16, by simpa using F17, by simpa using F18, by simpa using F19, by simp⟩
    intro u w5 hb5 seen hall ⟨F0, F1, F2, F3, F4, F5, F6, F7, F8, F9, F10, F11, F12, F13, F14, F15, F16, F17, F18, F19, F20⟩
    replace F0 := F0 (hall 0 (by decide))
    replace F1 := F1 (hall 1 (by decide))
    replace F2 := F2 (hall 2 (by decide))
    replace F3 := F3 (hall 3 (by decide))
    replace F4 := F4 (hall 4 (by decide))
    replace F5 := F5 (hall 5 (by decide))
    replace F6 := F6 (hall 6 (by decide))
    replace F7 := F7 (hall 7 (by decide))
    replace F8 := F8 (hall 8 (by decide))
    replace F9 := F9 (hall 9 (by decide))
    replace F10 := F10 (hall 10 (by decide))
    replace F11 := F11 (hall 11 (by decide))
    replace F12 := F12 (hall 12 (by decide))
    replace F13 := F13 (hall 13 (by decide))
    replace F14 := F14 (hall 14 (by decide))
    replace F15 := F15 (hall 15 (by decide))
    replace F16 := F16 (hall 16 (by decide))
    replace F17 := F17 (hall 17 (by decide))
    replace F18 := F18 (hall 18 (by decide))
    replace F19 := F19 (hall 19 (by decide))
    replace F20 := F20 (hall 20 (by decide))
    have hS1v := F18
    have hL1v := F19
    simp only [setAll, F17, F20]
    clear hall seen F0 F1 F2 F3 F4 F5 F6 F7 F8 F9 F10 F11 F12 F13 F14 F15 F16 F17 F18 F19 F20
    generalize u 47 = u47
    generalize u 48 = u48
    generalize u 49 = u49
    generalize u 50 = u50
    generalize u 51 = u51
    generalize u 52 = u52
    generalize u 55 = u55
    generalize u 56 = u56
    generalize u 53 = u53
    generalize u 54 = u54
    generalize u 57 = u57
    generalize u 58 = u58
    generalize u 46 = u46
    generalize u 59 = u59
    generalize u 60 = u60
    generalize u 61 = u61
    generalize u 62 = u62
    generalize u 12 = sv1 at hS1v ⊢
    generalize u 13 = lv1 at hL1v ⊢
    have HX_5 := hid (heap_mono HX_4.out hb5)
    have HW_5 := hid (HW_4.out.mono hb5)
    have HK_5 := hid (HK_4.out.mono hb5)
    have HFr_5 := hid (HFr_4.out.mono hb5)
    have HS0_5 := hid (HS0_4.out.mono hb5)
    have HL0_5 := hid (HL0_4.out.mono hb5)
    have HB5 := hid (bl_trans HB4.out hb5)
    clear HX_4 HW_4 HK_4 HFr_4 HS0_4 HL0_4
    clear hb5
    have HSv1_5 := hid hS1v
    have HLv1_5 := hid hL1v
    clear hS1v hL1v
    obtain ⟨As1, cs1, rfl⟩ := HSv1_5.out.slice
    obtain ⟨Ah1, ch1, rfl⟩ := HLv1_5.out.slice
    go_upto_region 7 with (fail)
    refine wp_region_valsG w5 (bl_refl _) [64, 65, 66, 67, 68, 69, 70, 71, 72, 73, 74, 75, 63, 76, 77, 78, 79, 15, 16, 17, 18] (fun seen u W => (seen 0 = true → u 64 = .pointer (some ⟨X, 0, none⟩)) ∧
      (seen 1 = true → u 65 = .int .i64 wd) ∧
      (seen 2 = true → u 66 = .pointer (some ⟨X, 1, none⟩)) ∧
      (seen 3 = true → u 67 = .int .i64 hg) ∧
      (seen 4 = true → u 68 = .pointer (some ⟨X, 2, none⟩)) ∧
      (seen 5 = true → u 69 = .slice A want.length ca) ∧
      (seen 6 = true → u 70 = .pointer (some ⟨X, 3, none⟩)) ∧
      (seen 7 = true → u 71 = .slice Bk keep.length ck) ∧
      (seen 8 = true → u 72 = .int .i64 c) ∧
      (seen 9 = true → Ints W (u 73) KC) ∧
      (seen 10 = true → PondV W (u 74) wd hg want KC) ∧
      (seen 11 = true → BestV W (u 75) M2 S2 L2) ∧
      (seen 12 = true → BestV W (u 63) M2 S2 L2) ∧
      (seen 13 = true → u 76 = .int .i64 M2) ∧
      (seen 14 = true → Ints W (u 77) S2) ∧
      (seen 15 = true → Ints W (u 78) L2) ∧
      (seen 16 = true → u 79 = .bool true) ∧
      (seen 17 = true → u 15 = .int .i64 M2) ∧
      (seen 18 = true → Ints W (u 16) S2) ∧
      (seen 19 = true → Ints W (u 17) L2) ∧
      (seen 20 = true → u 18 = .bool true))
      (by kernel_rfl) (by kernel_rfl) (by kernel_rfl) (by simp) (by simp) ?_ ?_
    · intro i o ho seen a' w9 hb9 ⟨F0, F1, F2, F3, F4, F5, F6, F7, F8, F9, F10, F11, F12, F13, F14, F15, F16, F17, F18, F19, F20⟩ hv hsi hdep
      have hbx := heap_mono HX_5.out hb9
      have c0 : w9.cell? ⟨X, 0, none⟩ = some (.int .i64 wd) := cell_of_heap hbx
      have c1 : w9.cell? ⟨X, 1, none⟩ = some (.int .i64 hg) := cell_of_heap hbx
      have c2 : w9.cell? ⟨X, 2, none⟩ = some (.slice A want.length ca) := cell_of_heap hbx
      have c3 : w9.cell? ⟨X, 3, none⟩ = some (.slice Bk keep.length ck) := cell_of_heap hbx
      have hXl := (Array.getElem?_eq_some_iff.1 hbx).1
      rcases i with _ | _ | _ | _ | _ | _ | _ | _ | _ | _ | _ | _ | _ | _ | _ | _ | _ | _ | _ | _ | _ | i <;> simp only [List.getElem?_cons_zero, List.getElem?_cons_succ, List.getElem?_nil, Option.some.injEq, reduceCtorEq] at ho <;> subst ho
      · refine if_free rfl ?_
        have x2 := val_at (hv 2 (by simp))
        simp [valsOf] at x2
        refine wp_value (.pointer (some ⟨X, 0, none⟩)) (w' := w9) (by simp [execOp, x2, go_sem, c0, c1, c2, c3, hXl]) ⟨_, rfl, hb9, ?_⟩
        exact ⟨by simp, by simpa using F1, by simpa using F2, by simpa using F3, by simpa using F4, by simpa using F5, by simpa using F6, by simpa using F7, by simpa using F8, by simpa using F9, by simpa using F10, by simpa using F11, by simpa using F12, by simpa using F13, by simpa using F14, by simpa using F15, by simpa using F16, by simpa using F17, by simpa using F18, by simpa using F19, by simpa using F20⟩
      · refine if_free rfl ?_
        have d0 := hdep ⟨0, .data⟩ (by simp) rfl
        have e0 := val_at (F0 d0)
        refine wp_value (.int .i64 wd) (w' := w9) (by simp [execOp, e0, go_sem, c0, c1, c2, c3, hXl]) ⟨_, rfl, hb9, ?_⟩
        exact ⟨by simpa using F0, by simp, by simpa using F2, by simpa using F3, by simpa using F4, by simpa using F5, by simpa using F6, by simpa using F7, by simpa using F8, by simpa using F9, by simpa using F10, by simpa using F11, by simpa using F12, by simpa using F13, by simpa using F14, by simpa using F15, by simpa using F16, by simpa using F17, by simpa using F18, by simpa using F19, by simpa using F20⟩
      · refine if_free rfl ?_
        have x2 := val_at (hv 2 (by simp))
        simp [valsOf] at x2
        refine wp_value (.pointer (some ⟨X, 1, none⟩)) (w' := w9) (by simp [execOp, x2, go_sem, c0, c1, c2, c3, hXl]) ⟨_, rfl, hb9, ?_⟩
        exact ⟨by simpa using F0, by simpa using F1, by simp, by simpa using F3, by simpa using F4, by simpa using F5, by simpa using F6, by simpa using F7, by simpa using F8, by simpa using F9, by simpa using F10, by simpa using F11, by simpa using F12, by simpa using F13, by simpa using F14, by simpa using F15, by simpa using F16, by simpa using F17, by simpa using F18, by simpa using F19, by simpa using F20⟩
      · refine if_free rfl ?_
        have d2 := hdep ⟨2, .data⟩ (by simp) rfl
        have e2 := val_at (F2 d2)
        refine wp_value (.int .i64 hg) (w' := w9) (by simp [execOp, e2, go_sem, c0, c1, c2, c3, hXl]) ⟨_, rfl, hb9, ?_⟩
        exact ⟨by simpa using F0, by simpa using F1, by simpa using F2, by simp, by simpa using F4, by simpa using F5, by simpa using F6, by simpa using F7, by simpa using F8, by simpa using F9, by simpa using F10, by simpa using F11, by simpa using F12, by simpa using F13, by simpa using F14, by simpa using F15, by simpa using F16, by simpa using F17, by simpa using F18, by simpa using F19, by simpa using F20⟩
      · refine if_free rfl ?_
        have x2 := val_at (hv 2 (by simp))
        simp [valsOf] at x2
        refine wp_value (.pointer (some ⟨X, 2, none⟩)) (w' := w9) (by simp [execOp, x2, go_sem, c0, c1, c2, c3, hXl]) ⟨_, rfl, hb9, ?_⟩
        exact ⟨by simpa using F0, by simpa using F1, by simpa using F2, by simpa using F3, by simp, by simpa using F5, by simpa using F6, by simpa using F7, by simpa using F8, by simpa using F9, by simpa using F10, by simpa using F11, by simpa using F12, by simpa using F13, by simpa using F14, by simpa using F15, by simpa using F16, by simpa using F17, by simpa using F18, by simpa using F19, by simpa using F20⟩
      · refine if_free rfl ?_
        have d4 := hdep ⟨4, .data⟩ (by simp) rfl
        have e4 := val_at (F4 d4)
        refine wp_value (.slice A want.length ca) (w' := w9) (by simp [execOp, e4, go_sem, c0, c1, c2, c3, hXl]) ⟨_, rfl, hb9, ?_⟩
        exact ⟨by simpa using F0, by simpa using F1, by simpa using F2, by simpa using F3, by simpa using F4, by simp, by simpa using F6, by simpa using F7, by simpa using F8, by simpa using F9, by simpa using F10, by simpa using F11, by simpa using F12, by simpa using F13, by simpa using F14, by simpa using F15, by simpa using F16, by simpa using F17, by simpa using F18, by simpa using F19, by simpa using F20⟩
      · refine if_free rfl ?_
        have x2 := val_at (hv 2 (by simp))
        simp [valsOf] at x2
        refine wp_value (.pointer (some ⟨X, 3, none⟩)) (w' := w9) (by simp [execOp, x2, go_sem, c0, c1, c2, c3, hXl]) ⟨_, rfl, hb9, ?_⟩
        exact ⟨by simpa using F0, by simpa using F1, by simpa using F2, by simpa using F3, by simpa using F4, by simpa using F5, by simp, by simpa using F7, by simpa using F8, by simpa using F9, by simpa using F10, by simpa using F11, by simpa using F12, by simpa using F13, by simpa using F14, by simpa using F15, by simpa using F16, by simpa using F17, by simpa using F18, by simpa using F19, by simpa using F20⟩
      · refine if_free rfl ?_
        have d6 := hdep ⟨6, .data⟩ (by simp) rfl
        have e6 := val_at (F6 d6)
        refine wp_value (.slice Bk keep.length ck) (w' := w9) (by simp [execOp, e6, go_sem, c0, c1, c2, c3, hXl]) ⟨_, rfl, hb9, ?_⟩
        exact ⟨by simpa using F0, by simpa using F1, by simpa using F2, by simpa using F3, by simpa using F4, by simpa using F5, by simpa using F6, by simp, by simpa using F8, by simpa using F9, by simpa using F10, by simpa using F11, by simpa using F12, by simpa using F13, by simpa using F14, by simpa using F15, by simpa using F16, by simpa using F17, by simpa using F18, by simpa using F19, by simpa using F20⟩
      · refine if_free rfl ?_
        have x6 := val_at (hv 6 (by simp))
        simp [valsOf] at x6
        refine wp_value (.int .i64 c) (w' := w9) (by simp [execOp, x6, go_sem, c0, c1, c2, c3, hXl]) ⟨_, rfl, hb9, ?_⟩
        exact ⟨by simpa using F0, by simpa using F1, by simpa using F2, by simpa using F3, by simpa using F4, by simpa using F5, by simpa using F6, by simpa using F7, by simp, by simpa using F9, by simpa using F10, by simpa using F11, by simpa using F12, by simpa using F13, by simpa using F14, by simpa using F15, by simpa using F16, by simpa using F17, by simpa using F18, by simpa using F19, by simpa using F20⟩
      · refine if_free rfl ?_
        have d7 := hdep ⟨7, .data⟩ (by simp) rfl
        have e7 := val_at (F7 d7)
        have d8 := hdep ⟨8, .data⟩ (by simp) rfl
        have e8 := val_at (F8 d8)
        have hcl := with_any keep c (.slice Bk keep.length ck) w9 (by omega) (HK_5.out.mono hb9)
        rw [HKC.out] at hcl
        refine wp_calls (f := 54) (args := #[.slice Bk keep.length ck, .int .i64 c]) (w' := w9) (by simp [execOp, e7, e8, go_sem]) hcl ?_
        rintro e w10 ⟨⟨v, rfl, hv⟩, hg⟩
        refine ⟨_, rfl, _, rfl, bl_trans hb9 hg, ?_⟩
        exact ⟨by simpa using F0, by simpa using F1, by simpa using F2, by simpa using F3, by simpa using F4, by simpa using F5, by simpa using F6, by simpa using F7, by simpa using F8, by simpa using hv, by simpa using fun h => (F10 h).mono hg, by simpa using fun h => (F11 h).mono hg, by simpa using fun h => (F12 h).mono hg, by simpa using F13, by simpa using fun h => (F14 h).mono hg, by simpa using fun h => (F15 h).mono hg, by simpa using F16, by simpa using F17, by simpa using fun h => (F18 h).mono hg, by simpa using fun h => (F19 h).mono hg, by simpa using F20⟩
      · refine if_free rfl ?_
        have d1 := hdep ⟨1, .data⟩ (by simp) rfl
        have e1 := val_at (F1 d1)
        have d3 := hdep ⟨3, .data⟩ (by simp) rfl
        have e3 := val_at (F3 d3)
        have d5 := hdep ⟨5, .data⟩ (by simp) rfl
        have e5 := val_at (F5 d5)
        have d9 := hdep ⟨9, .data⟩ (by simp) rfl
        have hi := F9 d9
        obtain ⟨A7, c7, e7⟩ := hi.slice
        have e7' := val_at e7
        rw [e7] at hi
        have hn : ∀ w10, Below w9.heap.size w9 w10 → PondV w10 (.agg #[.int .i64 wd, .int .i64 hg, .slice A want.length ca, .slice A7 KC.length c7]) wd hg want KC := fun w10 hb => ⟨_, _, rfl, HW_5.out.mono (bl_trans hb9 hb), hi.mono hb⟩
        refine wp_calls (f := 53) (args := #[.int .i64 wd, .int .i64 hg, .slice A want.length ca, .slice A7 KC.length c7]) (w' := w9) (by simp [execOp, e1, e3, e5, e7', go_sem]) (mkpond_any _ _ _ _ _ _ _ _ w9) ?_
        rintro e w10 ⟨rfl, hg⟩
        refine ⟨_, rfl, _, rfl, bl_trans hb9 hg, ?_⟩
        exact ⟨by simpa using F0, by simpa using F1, by simpa using F2, by simpa using F3, by simpa using F4, by simpa using F5, by simpa using F6, by simpa using F7, by simpa using F8, by simpa using fun h => (F9 h).mono hg, by simpa using hn _ hg, by simpa using fun h => (F11 h).mono hg, by simpa using fun h => (F12 h).mono hg, by simpa using F13, by simpa using fun h => (F14 h).mono hg, by simpa using fun h => (F15 h).mono hg, by simpa using F16, by simpa using F17, by simpa using fun h => (F18 h).mono hg, by simpa using fun h => (F19 h).mono hg, by simpa using F20⟩
      · refine if_free rfl ?_
        have d10 := hdep ⟨10, .data⟩ (by simp) rfl
        obtain ⟨s1, s2, e10, hi1, hi2⟩ := F10 d10
        have e10' := val_at e10
        have hcl := best_any' (wd := wd) (hg := hg) w9 HP2.out hi1 hi2
        rw [HM2.out, HS2.out, HL2.out] at hcl
        refine wp_calls (f := 46) (args := #[.agg #[.int .i64 wd, .int .i64 hg, s1, s2]]) (w' := w9) (by simp [execOp, e10', go_sem]) hcl ?_
        rintro e w10 ⟨⟨s, l, rfl, h1, h2⟩, hg⟩
        have hn : BestV w10 (.tuple #[.int .i64 M2, s, l, .bool true]) M2 S2 L2 := ⟨_, _, rfl, h1, h2⟩
        refine ⟨_, rfl, _, rfl, bl_trans hb9 hg, ?_⟩
        exact ⟨by simpa using F0, by simpa using F1, by simpa using F2, by simpa using F3, by simpa using F4, by simpa using F5, by simpa using F6, by simpa using F7, by simpa using F8, by simpa using fun h => (F9 h).mono hg, by simpa using fun h => (F10 h).mono hg, by simpa using hn, by simpa using fun h => (F12 h).mono hg, by simpa using F13, by simpa using fun h => (F14 h).mono hg, by simpa using fun h => (F15 h).mono hg, by simpa using F16, by simpa using F17, by simpa using fun h => (F18 h).mono hg, by simpa using fun h => (F19 h).mono hg, by simpa using F20⟩
      · refine if_free rfl ?_
        have d11 := hdep ⟨11, .data⟩ (by simp) rfl
        refine wp_value (valsOf a' 75) (w' := w9) (by simp [execOp, go_sem, valsOf]) ⟨_, rfl, hb9, ?_⟩
        exact ⟨by simpa using F0, by simpa using F1, by simpa using F2, by simpa using F3, by simpa using F4, by simpa using F5, by simpa using F6, by simpa using F7, by simpa using F8, by simpa using F9, by simpa using F10, by simpa using F11, by simpa using F11 d11, by simpa using F13, by simpa using F14, by simpa using F15, by simpa using F16, by simpa using F17, by simpa using F18, by simpa using F19, by simpa using F20⟩
      · refine if_free rfl ?_
        have d12 := hdep ⟨12, .data⟩ (by simp) rfl
        obtain ⟨s1, s2, e12, hi1, hi2⟩ := F12 d12
        have e12' := val_at e12
        refine wp_value (.int .i64 M2) (w' := w9) (by simp [execOp, e12', go_sem]) ⟨_, rfl, hb9, ?_⟩
        exact ⟨by simpa using F0, by simpa using F1, by simpa using F2, by simpa using F3, by simpa using F4, by simpa using F5, by simpa using F6, by simpa using F7, by simpa using F8, by simpa using F9, by simpa using F10, by simpa using F11, by simpa using F12, by simp, by simpa using F14, by simpa using F15, by simpa using F16, by simpa using F17, by simpa using F18, by simpa using F19, by simpa using F20⟩
      · refine if_free rfl ?_
        have d12 := hdep ⟨12, .data⟩ (by simp) rfl
        obtain ⟨s1, s2, e12, hi1, hi2⟩ := F12 d12
        have e12' := val_at e12
        refine wp_value s1 (w' := w9) (by simp [execOp, e12', go_sem]) ⟨_, rfl, hb9, ?_⟩
        exact ⟨by simpa using F0, by simpa using F1, by simpa using F2, by simpa using F3, by simpa using F4, by simpa using F5, by simpa using F6, by simpa using F7, by simpa using F8, by simpa using F9, by simpa using F10, by simpa using F11, by simpa using F12, by simpa using F13, by simpa using hi1, by simpa using F15, by simpa using F16, by simpa using F17, by simpa using F18, by simpa using F19, by simpa using F20⟩
      · refine if_free rfl ?_
        have d12 := hdep ⟨12, .data⟩ (by simp) rfl
        obtain ⟨s1, s2, e12, hi1, hi2⟩ := F12 d12
        have e12' := val_at e12
        refine wp_value s2 (w' := w9) (by simp [execOp, e12', go_sem]) ⟨_, rfl, hb9, ?_⟩
        exact ⟨by simpa using F0, by simpa using F1, by simpa using F2, by simpa using F3, by simpa using F4, by simpa using F5, by simpa using F6, by simpa using F7, by simpa using F8, by simpa using F9, by simpa using F10, by simpa using F11, by simpa using F12, by simpa using F13, by simpa using F14, by simpa using hi2, by simpa using F16, by simpa using F17, by simpa using F18, by simpa using F19, by simpa using F20⟩
      · refine if_free rfl ?_
        have d12 := hdep ⟨12, .data⟩ (by simp) rfl
        obtain ⟨s1, s2, e12, hi1, hi2⟩ := F12 d12
        have e12' := val_at e12
        refine wp_value (.bool true) (w' := w9) (by simp [execOp, e12', go_sem]) ⟨_, rfl, hb9, ?_⟩
        exact ⟨by simpa using F0, by simpa using F1, by simpa using F2, by simpa using F3, by simpa using F4, by simpa using F5, by simpa using F6, by simpa using F7, by simpa using F8, by simpa using F9, by simpa using F10, by simpa using F11, by simpa using F12, by simpa using F13, by simpa using F14, by simpa using F15, by simp, by simpa using F17, by simpa using F18, by simpa using F19, by simpa using F20⟩
      · refine if_free rfl ?_
        have d13 := hdep ⟨13, .data⟩ (by simp) rfl
        have e13 := val_at (F13 d13)
        refine wp_value (.int .i64 M2) (w' := w9) (by simp [execOp, e13, go_sem, c0, c1, c2, c3, hXl]) ⟨_, rfl, hb9, ?_⟩
        exact ⟨by simpa using F0, by simpa using F1, by simpa using F2, by simpa using F3, by simpa using F4, by simpa using F5, by simpa using F6, by simpa using F7, by simpa using F8, by simpa using F9, by simpa using F10, by simpa using F11, by simpa using F12, by simpa using F13, by simpa using F14, by simpa using F15, by simpa using F16, by simp, by simpa using F18, by simpa using F19, by simpa using F20⟩
      · refine if_free rfl ?_
        have d14 := hdep ⟨14, .data⟩ (by simp) rfl
        refine wp_value (valsOf a' 77) (w' := w9) (by simp [execOp, go_sem, valsOf]) ⟨_, rfl, hb9, ?_⟩
        exact ⟨by simpa using F0, by simpa using F1, by simpa using F2, by simpa using F3, by simpa using F4, by simpa using F5, by simpa using F6, by simpa using F7, by simpa using F8, by simpa using F9, by simpa using F10, by simpa using F11, by simpa using F12, by simpa using F13, by simpa using F14, by simpa using F15, by simpa using F16, by simpa using F17, by simpa using F14 d14, by simpa using F19, by simpa using F20⟩
      · refine if_free rfl ?_
        have d15 := hdep ⟨15, .data⟩ (by simp) rfl
        refine wp_value (valsOf a' 78) (w' := w9) (by simp [execOp, go_sem, valsOf]) ⟨_, rfl, hb9, ?_⟩
        exact ⟨by simpa using F0, by simpa using F1, by simpa using F2, by simpa using F3, by simpa using F4, by simpa using F5, by simpa using F6, by simpa using F7, by simpa using F8, by simpa using F9, by simpa using F10, by simpa using F11, by simpa using F12, by simpa using F13, by simpa using F14, by simpa using F15, by simpa using F16, by simpa using F17, by simpa using F18, by simpa using F15 d15, by simpa using F20⟩
      · refine if_free rfl ?_
        have d16 := hdep ⟨16, .data⟩ (by simp) rfl
        have e16 := val_at (F16 d16)
        refine wp_value (.bool true) (w' := w9) (by simp [execOp, e16, go_sem, c0, c1, c2, c3, hXl]) ⟨_, rfl, hb9, ?_⟩
        exact ⟨by simpa using F0, by simpa using F1, by simpa using F2, by simpa using F3, by simpa using F4, by simpa using F5, by simpa using F6, by simpa using F7, by simpa using F8, by simpa using F9, by simpa using F10, by simpa using F11, by simpa using F12, by simpa using F13, by simpa using F14, by simpa using F15, by simpa using F16, by simpa using F17, by simpa using F18, by simpa using F19, by simp⟩
    intro u w6 hb6 seen hall ⟨F0, F1, F2, F3, F4, F5, F6, F7, F8, F9, F10, F11, F12, F13, F14, F15, F16, F17, F18, F19, F20⟩
    replace F0 := F0 (hall 0 (by decide))
    replace F1 := F1 (hall 1 (by decide))
    replace F2 := F2 (hall 2 (by decide))
    replace F3 := F3 (hall 3 (by decide))
    replace F4 := F4 (hall 4 (by decide))
    replace F5 := F5 (hall 5 (by decide))
    replace F6 := F6 (hall 6 (by decide))
    replace F7 := F7 (hall 7 (by decide))
    replace F8 := F8 (hall 8 (by decide))
    replace F9 := F9 (hall 9 (by decide))
    replace F10 := F10 (hall 10 (by decide))
    replace F11 := F11 (hall 11 (by decide))
    replace F12 := F12 (hall 12 (by decide))
    replace F13 := F13 (hall 13 (by decide))
    replace F14 := F14 (hall 14 (by decide))
    replace F15 := F15 (hall 15 (by decide))
    replace F16 := F16 (hall 16 (by decide))
    replace F17 := F17 (hall 17 (by decide))
    replace F18 := F18 (hall 18 (by decide))
    replace F19 := F19 (hall 19 (by decide))
    replace F20 := F20 (hall 20 (by decide))
    have hS2v := F18
    have hL2v := F19
    simp only [setAll, F17, F20]
    clear hall seen F0 F1 F2 F3 F4 F5 F6 F7 F8 F9 F10 F11 F12 F13 F14 F15 F16 F17 F18 F19 F20
    generalize u 64 = u64
    generalize u 65 = u65
    generalize u 66 = u66
    generalize u 67 = u67
    generalize u 68 = u68
    generalize u 69 = u69
    generalize u 70 = u70
    generalize u 71 = u71
    generalize u 72 = u72
    generalize u 73 = u73
    generalize u 74 = u74
    generalize u 75 = u75
    generalize u 63 = u63
    generalize u 76 = u76
    generalize u 77 = u77
    generalize u 78 = u78
    generalize u 79 = u79
    generalize u 16 = sv2 at hS2v ⊢
    generalize u 17 = lv2 at hL2v ⊢
    have HX_6 := hid (heap_mono HX_5.out hb6)
    have HW_6 := hid (HW_5.out.mono hb6)
    have HK_6 := hid (HK_5.out.mono hb6)
    have HFr_6 := hid (HFr_5.out.mono hb6)
    have HS0_6 := hid (HS0_5.out.mono hb6)
    have HL0_6 := hid (HL0_5.out.mono hb6)
    have HSv1_6 := hid (HSv1_5.out.mono hb6)
    have HLv1_6 := hid (HLv1_5.out.mono hb6)
    have HB6 := hid (bl_trans HB5.out hb6)
    clear HX_5 HW_5 HK_5 HFr_5 HS0_5 HL0_5 HSv1_5 HLv1_5
    clear hb6
    have HSv2_6 := hid hS2v
    have HLv2_6 := hid hL2v
    clear hS2v hL2v
    obtain ⟨As2, cs2, rfl⟩ := HSv2_6.out.slice
    obtain ⟨Ah2, ch2, rfl⟩ := HLv2_6.out.slice
    have t1 : decide (M ≤ M1) = true := decide_eq_true g1
    have t2 : decide (M ≤ M2) = true := decide_eq_true g2
    have hmn := min_run M1 M2 3
    rw [g3] at hmn
    have t3 : (M == M) = true := by simp
    have hcall := allin_any SL S1 _ _ w6 (by omega) (by omega) HS0_6.out HSv1_6.out
    rw [GA1.out] at hcall
    go_wp2_with fail
    refine hcall.mono ?_
    rintro e w7 ⟨rfl, hb7⟩
    clear hcall 
    have HX_7 := hid (heap_mono HX_6.out hb7)
    have HW_7 := hid (HW_6.out.mono hb7)
    have HK_7 := hid (HK_6.out.mono hb7)
    have HFr_7 := hid (HFr_6.out.mono hb7)
    have HS0_7 := hid (HS0_6.out.mono hb7)
    have HL0_7 := hid (HL0_6.out.mono hb7)
    have HSv1_7 := hid (HSv1_6.out.mono hb7)
    have HLv1_7 := hid (HLv1_6.out.mono hb7)
    have HSv2_7 := hid (HSv2_6.out.mono hb7)
    have HLv2_7 := hid (HLv2_6.out.mono hb7)
    have HB7 := hid (bl_trans HB6.out hb7)
    clear HX_6 HW_6 HK_6 HFr_6 HS0_6 HL0_6 HSv1_6 HLv1_6 HSv2_6 HLv2_6
    clear hb7
    have hcall := allin_any LL L1 _ _ w7 (by omega) (by omega) HL0_7.out HLv1_7.out
    rw [GA2.out] at hcall
    go_wp2_with fail
    refine hcall.mono ?_
    rintro e w8 ⟨rfl, hb8⟩
    clear hcall 
    have HX_8 := hid (heap_mono HX_7.out hb8)
    have HW_8 := hid (HW_7.out.mono hb8)
    have HK_8 := hid (HK_7.out.mono hb8)
    have HFr_8 := hid (HFr_7.out.mono hb8)
    have HS0_8 := hid (HS0_7.out.mono hb8)
    have HL0_8 := hid (HL0_7.out.mono hb8)
    have HSv1_8 := hid (HSv1_7.out.mono hb8)
    have HLv1_8 := hid (HLv1_7.out.mono hb8)
    have HSv2_8 := hid (HSv2_7.out.mono hb8)
    have HLv2_8 := hid (HLv2_7.out.mono hb8)
    have HB8 := hid (bl_trans HB7.out hb8)
    clear HX_7 HW_7 HK_7 HFr_7 HS0_7 HL0_7 HSv1_7 HLv1_7 HSv2_7 HLv2_7
    clear hb8
    have hcall := allin_any S2 SL _ _ w8 (by omega) (by omega) HSv2_8.out HS0_8.out
    rw [GA3.out] at hcall
    go_wp2_with fail
    refine hcall.mono ?_
    rintro e w9 ⟨rfl, hb9⟩
    clear hcall 
    have HX_9 := hid (heap_mono HX_8.out hb9)
    have HW_9 := hid (HW_8.out.mono hb9)
    have HK_9 := hid (HK_8.out.mono hb9)
    have HFr_9 := hid (HFr_8.out.mono hb9)
    have HS0_9 := hid (HS0_8.out.mono hb9)
    have HL0_9 := hid (HL0_8.out.mono hb9)
    have HSv1_9 := hid (HSv1_8.out.mono hb9)
    have HLv1_9 := hid (HLv1_8.out.mono hb9)
    have HSv2_9 := hid (HSv2_8.out.mono hb9)
    have HLv2_9 := hid (HLv2_8.out.mono hb9)
    have HB9 := hid (bl_trans HB8.out hb9)
    clear HX_8 HW_8 HK_8 HFr_8 HS0_8 HL0_8 HSv1_8 HLv1_8 HSv2_8 HLv2_8
    clear hb9
    have hcall := allin_any L2 LL _ _ w9 (by omega) (by omega) HLv2_9.out HL0_9.out
    rw [GA4.out] at hcall
    go_wp2_with fail
    refine hcall.mono ?_
    rintro e w10 ⟨rfl, hb10⟩
    clear hcall 
    have HX_10 := hid (heap_mono HX_9.out hb10)
    have HW_10 := hid (HW_9.out.mono hb10)
    have HK_10 := hid (HK_9.out.mono hb10)
    have HFr_10 := hid (HFr_9.out.mono hb10)
    have HS0_10 := hid (HS0_9.out.mono hb10)
    have HL0_10 := hid (HL0_9.out.mono hb10)
    have HSv1_10 := hid (HSv1_9.out.mono hb10)
    have HLv1_10 := hid (HLv1_9.out.mono hb10)
    have HSv2_10 := hid (HSv2_9.out.mono hb10)
    have HLv2_10 := hid (HLv2_9.out.mono hb10)
    have HB10 := hid (bl_trans HB9.out hb10)
    clear HX_9 HW_9 HK_9 HFr_9 HS0_9 HL0_9 HSv1_9 HLv1_9 HSv2_9 HLv2_9
    clear hb10
    have hworks := works_any w10
    go_wp2_with fail
    refine hworks.mono ?_
    rintro e wz ⟨rfl, hbz⟩
    clear hworks
    go_wp2
    go_ret
    exact ⟨rfl, bl_trans HB10.out hbz⟩

end Go.Proofs.Ytlkoadcbolkhoaa
