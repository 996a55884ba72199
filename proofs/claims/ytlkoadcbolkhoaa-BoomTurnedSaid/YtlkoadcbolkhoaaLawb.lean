/- Best water as the program says it, water by bits, lists within lists, free cells: the walks. -/
import Derived.Test.YtlkoadcbolkhoaaLawp
import Derived.Test.YtlkoadcbolkhoaaMinc
set_option linter.all false
namespace Go.Proofs.Ytlkoadcbolkhoaa
open Go Go.RowKit Go.Proofs
attribute [local go_sem] cell_grow frozen_grow

/-! ### What is known of sticks -/
section
variable {wd hg : Int} {want keep water : List Int}
theorem encl_of {X : List Int} (h : enclX want keep fun c => X.contains c) : enclB want keep X = true := by
  refine encl_yes (fun i x _ hx => ?_) fun i x _ hx => ?_
  · have := h.1 x (List.mem_of_getElem? hx)
    dsimp only at this ⊢
    rw [this]; rfl
  · exact h.2 x (List.mem_of_getElem? hx)
theorem encl_iff {X : List Int} (h : enclB want keep X = true) : enclX want keep fun c => X.contains c := by
  unfold enclB at h
  rw [Bool.and_eq_true, Bool.not_eq_true', Bool.not_eq_true', List.any_eq_false, List.any_eq_false] at h
  exact ⟨fun c hc => by have := h.2 c hc; simpa using this, fun c hc => by have := h.1 c hc; simpa using this⟩
theorem sticks_of (hp : pondE wd hg want keep = 0) {X : List Int} (hl : listB (wd * hg) 0 X = true) (h : enclX want keep fun c => X.contains c) : sticksE wd hg want keep X = 0 ∧ sticksV wd hg want keep X = cutX wd hg fun c => X.contains c := by
  have e : sticksE wd hg want keep X = 0 := by unfold sticksE; rw [if_neg (by simp [hp]), if_neg (by simp [hl]), if_neg (by simp [encl_of h])]
  exact ⟨e, by unfold sticksV; rw [if_pos e, stick_cut hl]⟩
theorem small_list (hV : Valid wd hg want keep) : listB (wd * hg) 0 (smallL wd hg want keep) = true := pick_list _ _ _ (by have := hV.B.nat; omega)
theorem large_list (hV : Valid wd hg want keep) : listB (wd * hg) 0 (largeL wd hg want keep) = true := pick_list _ _ _ (by have := hV.B.nat; omega)
theorem small_len (hV : Valid wd hg want keep) : (smallL wd hg want keep).length ≤ 64 := by
  have h := pickC_len (fun c => decide (0 ≤ ((reachU (raft wd hg want keep).1 wd hg want keep).1.getD c.toNat (0, 0)).1)) (wd * hg).toNat
  have := hV.cells
  exact Nat.le_trans h (by omega)
theorem large_len (hV : Valid wd hg want keep) : (largeL wd hg want keep).length ≤ 64 := by
  have h := pickC_len (fun c => decide ((lostL (raft wd hg want keep).1 wd hg keep).getD c.toNat 0 = 0)) (wd * hg).toNat
  have := hV.cells
  exact Nat.le_trans h (by omega)
end

set_option maxRecDepth 100000 in
set_option maxHeartbeats 8000000 in
theorem best_any' {wd hg : Int} {sw sk : Value} {want keep : List Int} (w : World) (hp : pondE wd hg want keep = 0) (hw : Ints w sw want) (hk : Ints w sk keep) :
    Calls Try.prog 46 #[.agg #[.int .i64 wd, .int .i64 hg, sw, sk]] w fun e w' => (∃ s l, e = .returned (.tuple #[.int .i64 ((raft wd hg want keep).2 : Int), s, l, .bool true]) ∧ Ints w' s (smallL wd hg want keep) ∧ Ints w' l (largeL wd hg want keep)) ∧ Below w.heap.size w w' := by
  have hV := pond_valid hp
  have hbk := best_known hV
  have hc64 := hV.cells
  have hl1 : want.length ≤ 64 := by have := hV.len; omega
  have hl2 : keep.length ≤ 64 := by have := listB_len (k := 0) (by omega) (by omega) hV.k; omega
  have HP := hid hp
  have HSl := hid (show (smallL wd hg want keep).length ≤ 1000000 by have := small_len hV; omega)
  have HLl := hid (show (largeL wd hg want keep).length ≤ 1000000 by have := large_len hV; omega)
  obtain ⟨e1, e2⟩ := sticks_of hp (small_list hV) hbk.s
  obtain ⟨e3, e4⟩ := sticks_of hp (large_list hV) hbk.l
  rw [hbk.ms] at e2
  rw [hbk.ml] at e4
  have HF := hid (show fewestV wd hg want keep = ((raft wd hg want keep).2 : Int) by unfold fewestV; rw [if_pos hp])
  have HS := hid (show smallV wd hg want keep = smallL wd hg want keep by unfold smallV; rw [if_pos hp])
  have HL := hid (show largeV wd hg want keep = largeL wd hg want keep by unfold largeV; rw [if_pos hp])
  obtain ⟨SL, hSL⟩ : ∃ s, smallL wd hg want keep = s := ⟨_, rfl⟩
  obtain ⟨LL, hLL⟩ : ∃ s, largeL wd hg want keep = s := ⟨_, rfl⟩
  obtain ⟨M, hM⟩ : ∃ s : Int, ((raft wd hg want keep).2 : Int) = s := ⟨_, rfl⟩
  rw [hSL] at HSl HS e1 e2 ⊢
  rw [hLL] at HLl HL e3 e4 ⊢
  rw [hM] at HF e2 e4 ⊢
  have HS2 := hid e1
  have HS1 := hid e2
  have HL2 := hid e3
  have HL1 := hid e4
  clear hp hV hbk hc64 e1 e2 e3 e4 hSL hLL hM
  have HX_0 := hid (World.alloc_heap_new w (.cells #[.int .i64 wd, .int .i64 hg, sw, sk] 24))
  have hb0 := bl_alloc (bl_refl w) (.cells #[.int .i64 wd, .int .i64 hg, sw, sk] 24)
  have HB0 := hid hb0
  have HW_0 := hid (hw.mono hb0)
  have HK_0 := hid (hk.mono hb0)
  clear hb0 hw hk
  go_enter Try.func46, Try.ntmps46
  go_upto_region 1 with (fail)
  obtain ⟨w0, hw0⟩ : ∃ w0, w.alloc (.cells #[.int .i64 wd, .int .i64 hg, sw, sk] 24) = w0 := ⟨_, rfl⟩
  obtain ⟨X, hX⟩ : ∃ X, w.heap.size = X := ⟨_, rfl⟩
  rw [hX] at HX_0 ⊢
  rw [hw0] at HB0 HX_0 HW_0 HK_0 ⊢
  clear hw0 hX
  have sX0 : w0.cell? ⟨X, 0, none⟩ = some (.int .i64 wd) := cell_of_heap HX_0.out
  have sX1 : w0.cell? ⟨X, 1, none⟩ = some (.int .i64 hg) := cell_of_heap HX_0.out
  have sX2 : w0.cell? ⟨X, 2, none⟩ = some (sw) := cell_of_heap HX_0.out
  have sX3 : w0.cell? ⟨X, 3, none⟩ = some (sk) := cell_of_heap HX_0.out
  have slX := (Array.getElem?_eq_some_iff.1 HX_0.out).1
  have hcall := fewest_any (wd := wd) (hg := hg) w0 (by omega) (by omega) HW_0.out HK_0.out
  rw [HF.out, HP.out] at hcall
  go_wp2_with fail
  refine hcall.mono ?_
  rintro e w1 ⟨rfl, hb1⟩
  clear hcall sX0 sX1 sX2 sX3 slX
  have HX_1 := hid (heap_mono HX_0.out hb1)
  have HW_1 := hid (HW_0.out.mono hb1)
  have HK_1 := hid (HK_0.out.mono hb1)
  have HB1 := hid (bl_trans HB0.out hb1)
  clear HX_0 HW_0 HK_0
  clear hb1
  have sX0 : w1.cell? ⟨X, 0, none⟩ = some (.int .i64 wd) := cell_of_heap HX_1.out
  have sX1 : w1.cell? ⟨X, 1, none⟩ = some (.int .i64 hg) := cell_of_heap HX_1.out
  have sX2 : w1.cell? ⟨X, 2, none⟩ = some (sw) := cell_of_heap HX_1.out
  have sX3 : w1.cell? ⟨X, 3, none⟩ = some (sk) := cell_of_heap HX_1.out
  have slX := (Array.getElem?_eq_some_iff.1 HX_1.out).1
  have hcall := smallest_any (wd := wd) (hg := hg) w1 (by omega) (by omega) HW_1.out HK_1.out
  rw [HS.out, HP.out] at hcall
  go_wp2_with fail
  refine hcall.mono ?_
  rintro e w2 ⟨⟨sm, rfl, hsm⟩, hb2⟩
  clear hcall sX0 sX1 sX2 sX3 slX
  have HX_2 := hid (heap_mono HX_1.out hb2)
  have HW_2 := hid (HW_1.out.mono hb2)
  have HK_2 := hid (HK_1.out.mono hb2)
  have HB2 := hid (bl_trans HB1.out hb2)
  clear HX_1 HW_1 HK_1
  have HSM_2 := hid hsm
  clear hsm
  clear hb2
  obtain ⟨Am, cm, rfl⟩ := HSM_2.out.slice
  have sX0 : w2.cell? ⟨X, 0, none⟩ = some (.int .i64 wd) := cell_of_heap HX_2.out
  have sX1 : w2.cell? ⟨X, 1, none⟩ = some (.int .i64 hg) := cell_of_heap HX_2.out
  have sX2 : w2.cell? ⟨X, 2, none⟩ = some (sw) := cell_of_heap HX_2.out
  have sX3 : w2.cell? ⟨X, 3, none⟩ = some (sk) := cell_of_heap HX_2.out
  have slX := (Array.getElem?_eq_some_iff.1 HX_2.out).1
  have hcall := largest_any (wd := wd) (hg := hg) w2 (by omega) (by omega) HW_2.out HK_2.out
  rw [HL.out, HP.out] at hcall
  go_wp2_with fail
  refine hcall.mono ?_
  rintro e w3 ⟨⟨la, rfl, hla⟩, hb3⟩
  clear hcall sX0 sX1 sX2 sX3 slX
  have HX_3 := hid (heap_mono HX_2.out hb3)
  have HW_3 := hid (HW_2.out.mono hb3)
  have HK_3 := hid (HK_2.out.mono hb3)
  have HSM_3 := hid (HSM_2.out.mono hb3)
  have HB3 := hid (bl_trans HB2.out hb3)
  clear HX_2 HW_2 HK_2 HSM_2
  have HLA_3 := hid hla
  clear hla
  clear hb3
  obtain ⟨Al, cl, rfl⟩ := HLA_3.out.slice
  have sX0 : w3.cell? ⟨X, 0, none⟩ = some (.int .i64 wd) := cell_of_heap HX_3.out
  have sX1 : w3.cell? ⟨X, 1, none⟩ = some (.int .i64 hg) := cell_of_heap HX_3.out
  have sX2 : w3.cell? ⟨X, 2, none⟩ = some (sw) := cell_of_heap HX_3.out
  have sX3 : w3.cell? ⟨X, 3, none⟩ = some (sk) := cell_of_heap HX_3.out
  have slX := (Array.getElem?_eq_some_iff.1 HX_3.out).1
  have hcall := rsticks_any (wd := wd) (hg := hg) w3 (by omega) (by omega) HSl.out HW_3.out HK_3.out HSM_3.out
  rw [HS1.out, HS2.out] at hcall
  go_wp2_with fail
  refine hcall.mono ?_
  rintro e w4 ⟨rfl, hb4⟩
  clear hcall sX0 sX1 sX2 sX3 slX
  have HX_4 := hid (heap_mono HX_3.out hb4)
  have HW_4 := hid (HW_3.out.mono hb4)
  have HK_4 := hid (HK_3.out.mono hb4)
  have HSM_4 := hid (HSM_3.out.mono hb4)
  have HLA_4 := hid (HLA_3.out.mono hb4)
  have HB4 := hid (bl_trans HB3.out hb4)
  clear HX_3 HW_3 HK_3 HSM_3 HLA_3
  clear hb4
  have sX0 : w4.cell? ⟨X, 0, none⟩ = some (.int .i64 wd) := cell_of_heap HX_4.out
  have sX1 : w4.cell? ⟨X, 1, none⟩ = some (.int .i64 hg) := cell_of_heap HX_4.out
  have sX2 : w4.cell? ⟨X, 2, none⟩ = some (sw) := cell_of_heap HX_4.out
  have sX3 : w4.cell? ⟨X, 3, none⟩ = some (sk) := cell_of_heap HX_4.out
  have slX := (Array.getElem?_eq_some_iff.1 HX_4.out).1
  have hcall := rsticks_any (wd := wd) (hg := hg) w4 (by omega) (by omega) HLl.out HW_4.out HK_4.out HLA_4.out
  rw [HL1.out, HL2.out] at hcall
  go_wp2_with fail
  refine hcall.mono ?_
  rintro e w5 ⟨rfl, hb5⟩
  clear hcall sX0 sX1 sX2 sX3 slX
  have HX_5 := hid (heap_mono HX_4.out hb5)
  have HW_5 := hid (HW_4.out.mono hb5)
  have HK_5 := hid (HK_4.out.mono hb5)
  have HSM_5 := hid (HSM_4.out.mono hb5)
  have HLA_5 := hid (HLA_4.out.mono hb5)
  have HB5 := hid (bl_trans HB4.out hb5)
  clear HX_4 HW_4 HK_4 HSM_4 HLA_4
  clear hb5
  have em : (M == M) = true := by simp
  go_wp2
  refine bodyPost_ret (v := .tuple #[.int .i64 M, .slice Am SL.length cm, .slice Al LL.length cl, .bool true]) (by simp [results, Try.results46, go_sem]) rfl ⟨⟨_, _, rfl, HSM_5.out, HLA_5.out⟩, HB5.out⟩

set_option maxRecDepth 100000 in
set_option maxHeartbeats 8000000 in
theorem allin_any (a b : List Int) (sa sb : Value) (w : World) (hal : a.length ≤ 1000000) (hbl : b.length ≤ 1000000) (ha : Ints w sa a) (hb : Ints w sb b) :
    Calls Try.prog 49 #[sa, sb] w fun e w' => e = .returned (.bool (a.all fun c => b.contains c)) ∧ Below w.heap.size w w' := by
  obtain ⟨A, ca, rfl⟩ := ha.slice
  have HA := hid ha
  have HBb := hid hb
  obtain ⟨R, hR⟩ : ∃ r, (a.all fun c => b.contains c) = r := ⟨_, rfl⟩
  have HR := hid hR
  rw [hR]
  clear ha hb hR
  go_enter Try.func49, Try.ntmps49
  go_wp2
  go_loopw [5] (fun p wr => ∃ k : Nat, k ≤ a.length ∧ p = .int .i64 (k : Int) ∧ NoP (fun c => !b.contains c) a k ∧ wr = w) (fun p _ => a.length - (intOf p).toNat)
  case atStart => exact ⟨0, Nat.zero_le _, rfl, fun i _ h => by omega, rfl⟩
  case round =>
  obtain ⟨k, hk, rfl, hno, hwr⟩ := hrel
  subst wr
  have HNO := hid hno
  clear hno
  by_cases hlt : k < a.length
  · obtain ⟨x, hx⟩ := get_at hlt
    obtain ⟨bb, oo, hA, hbb, hcy⟩ : ∃ bb oo, A = some ⟨bb, oo, none⟩ ∧ bb < w.heap.size ∧ w.cell? ⟨bb, oo + k, none⟩ = some (.int .i64 x) := by
      rcases HA.out with ⟨hv, h0⟩ | ⟨bb, oo, c3, hv, h4, h5, h6⟩
      · rw [h0] at hlt; simp at hlt
      · injection hv with hv1 hv2 hv3
        exact ⟨bb, oo, hv1, h5, h6 k x hx⟩
    subst hA
    have hkI : (k : Int) < (a.length : Int) := by omega
    have hcall := rhas_any b sb x w hbl HBb.out
    have Hx := hid hx
    clear hx
    cases hcon : b.contains x with
    | false =>
      have he : R = false := by
        rw [← HR.out, List.all_eq_false]
        exact ⟨x, List.mem_of_getElem? Hx.out, by rw [hcon]; simp⟩
      subst he
      rw [hcon] at hcall
      clear hcon
      go_wp2_with fail
      refine hcall.mono ?_
      rintro e w8 ⟨rfl, rfl⟩
      clear hcall
      go_wp2
      go_ret
      exact ⟨rfl, bl_refl _⟩
    | true =>
      have hno2 := hid (noP_succ HNO.out Hx.out (by simp only [hcon]; rfl))
      rw [hcon] at hcall
      clear hcon
      go_wp2_with fail
      refine hcall.mono ?_
      rintro e w8 ⟨rfl, rfl⟩
      clear hcall
      go_wp2
      go_roundw
      case rel => exact ⟨k + 1, by omega, by go_num, hno2.out, trivial⟩
      case measure => simp [intOf]; omega
  obtain rfl : k = a.length := by omega
  have he : R = true := by
    rw [← HR.out, List.all_eq_true]
    intro x hx
    obtain ⟨i, hi⟩ := List.getElem?_of_mem hx
    have := HNO.out i x (List.getElem?_eq_some_iff.1 hi).1 hi
    simpa using this
  subst he
  clear hlt
  go_wp2
  go_ret
  exact ⟨rfl, bl_refl _⟩
end Go.Proofs.Ytlkoadcbolkhoaa
