/- DriveLatest: the walk. -/
import Derived.Test.YtbnmjbmlejifcaaLawf
set_option linter.all false
namespace Go.Proofs.Ytbnmjbmlejifcaa
open Go Go.RowKit Go.Proofs
attribute [local go_sem] cell_grow frozen_grow

set_option maxRecDepth 100000 in
set_option maxHeartbeats 8000000 in
theorem driveLatest_any (days : Int) (l : List Rch) (sr : Value) (day reach ready : Int) (w : World) (hs : Rchs w sr l) (b1 : 0 ≤ day ∧ day < 256) (b2 : 0 ≤ reach ∧ reach < 256) (b3 : 0 ≤ ready ∧ ready < 256) :
    Calls Try.prog 12 #[.agg #[.int .i64 days, sr], .int .u8 day, .int .u8 reach, .int .u8 ready] w fun e w' => e = .returned (.bool true) ∧ Below w.heap.size w w' := by
  obtain ⟨A, c, rfl⟩ := hs.slice
  have HX0 := hid (World.alloc_heap_new w (.cells #[.int .i64 days, .slice A l.length c] 24))
  have HB0 := hid (bl_alloc (bl_refl w) (.cells #[.int .i64 days, .slice A l.length c] 24))
  have HS := hid hs
  clear hs
  go_enter Try.func12, Try.ntmps12
  go_upto_region 1 with (fail)
  obtain ⟨R, hR⟩ : ∃ R, w.heap.size = R := ⟨_, rfl⟩
  obtain ⟨w0, hw0⟩ : ∃ w0, w.alloc (.cells #[.int .i64 days, .slice A l.length c] 24) = w0 := ⟨_, rfl⟩
  rw [hR] at HX0 ⊢
  rw [hw0] at HX0 HB0 ⊢
  clear hw0 hR
  by_cases h0 : ¬ riverE days l = 0
  · have hd0 : decide (riverE days l = 0) = false := by simpa using h0
    have sX0 : w0.cell? ⟨R, 0, none⟩ = some (.int .i64 days) := cell_of_heap HX0.out
    have sX1 : w0.cell? ⟨R, 1, none⟩ = some (.slice A l.length c) := cell_of_heap HX0.out
    have slX := (Array.getElem?_eq_some_iff.1 HX0.out).1
    have hcall := fine_any days l _ w0 (HS.out.mono HB0.out)
    rw [hd0] at hcall
    clear hd0 h0
    go_wp2_with fail
    refine hcall.mono ?_
    rintro e w1 ⟨rfl, hb1⟩
    clear hcall sX0 sX1 slX
    have HX1 := hid (heap_mono HX0.out hb1)
    have HB1 := hid (bl_trans HB0.out hb1)
    clear HX0  hb1
    have hworks := works_any w1
    go_wp2_with fail
    refine hworks.mono ?_
    rintro e w2 ⟨rfl, hb2⟩
    clear hworks
    go_wp2
    go_ret
    exact ⟨rfl, bl_trans HB1.out hb2⟩
  replace h0 := Decidable.not_not.1 h0
  have hd0 : decide (riverE days l = 0) = true := by simpa using h0
  have F0 := fit_of h0
  obtain ⟨D, rfl⟩ : ∃ D : Nat, days = D := ⟨days.toNat, by have := F0.d1; omega⟩
  have hD1 := F0.d1
  have hD2 := F0.d2
  have hl1 := F0.n1
  have hl8 := F0.n2
  have HR0 := hid h0
  have HF := hid F0
  clear F0
  have sX0 : w0.cell? ⟨R, 0, none⟩ = some (.int .i64 (D : Int)) := cell_of_heap HX0.out
  have sX1 : w0.cell? ⟨R, 1, none⟩ = some (.slice A l.length c) := cell_of_heap HX0.out
  have slX := (Array.getElem?_eq_some_iff.1 HX0.out).1
  have hcall := fine_any (D : Int) l _ w0 (HS.out.mono HB0.out)
  rw [hd0] at hcall
  clear hd0 h0
  go_wp2_with fail
  refine hcall.mono ?_
  rintro e w1 ⟨rfl, hb1⟩
  clear hcall sX0 sX1 slX
  have HX1 := hid (heap_mono HX0.out hb1)
  have HB1 := hid (bl_trans HB0.out hb1)
  clear HX0  hb1
  have hln : ((l.length : Int) == 0) = false := beq_eq_false_iff_ne.2 (by omega)
  have hln2 : ¬ ((l.length : Int) = 0) := by omega
  obtain ⟨i, hi, hil⟩ : ∃ i : Nat, reach % (l.length : Int) = i ∧ i < l.length := by
    have h1 := Int.emod_nonneg reach (b := (l.length : Int)) (by omega)
    have h2 := Int.emod_lt_of_pos reach (b := (l.length : Int)) (by omega)
    exact ⟨(reach % (l.length : Int)).toNat, by omega, by omega⟩
  have hrt : Int.tmod reach (l.length : Int) = (i : Int) := by rw [Int.tmod_eq_emod_of_nonneg (by omega), hi]
  have hrw1 : IntKind.i64.wrap reach = reach := IntWalk.i64_in _ (by omega)
  have hrw2 : IntKind.i64.wrap (i : Int) = i := IntWalk.i64_in _ (by omega)
  go_upto_region 3 with (fail)
  have sX0 : w1.cell? ⟨R, 0, none⟩ = some (.int .i64 (D : Int)) := cell_of_heap HX1.out
  have sX1 : w1.cell? ⟨R, 1, none⟩ = some (.slice A l.length c) := cell_of_heap HX1.out
  have slX := (Array.getElem?_eq_some_iff.1 HX1.out).1
  have G45 : Hid (∀ (x : Int) (_ : 0 ≤ x ∧ x < 256) W, Below w1.heap.size w1 W → Calls Try.prog 45 #[.agg #[.int .i64 (D : Int), .slice A l.length c], .int .u8 x] W fun e w' => e = .returned (.int .i64 (dayE D x)) ∧ Below W.heap.size W w') := fun x hx W hW => day_any (D : Int) l _ x W (HS.out.mono (bl_trans HB1.out hW)) (by omega) hx
  refine wp_region_below (by kernel_rfl) (by kernel_rfl) ?_
  repeat (first | go_big_quiet_step (first | (go_at_call 45; exact Calls.regrown_of (G45.out _ (by assumption) _ (below_regrown _ _ _)))) | quiet_step (first | (go_at_call 45; exact Calls.regrown_of (G45.out _ (by assumption) _ (below_regrown _ _ _)))))
  refine wpQuiet_nil ?_
  intro w2 hb2
  clear G45 sX0 sX1 slX
  have HX2 := hid (heap_mono HX1.out hb2)
  have HB2 := hid (bl_trans HB1.out hb2)
  clear HX1  hb2
  clear hln hln2 hi hrt hrw1 hrw2
  have p1 := dayE_bd (by_ := day) hD1
  generalize dayE (D : Int) day = p at *
  obtain ⟨x, hx⟩ := get_at hil
  obtain ⟨b, off, c', e5, hlc, hb, hcell⟩ := (HS.out.mono HB2.out).some hl1
  simp only [Value.slice.injEq, true_and] at e5
  obtain ⟨rfl, rfl⟩ := e5
  have q7 := (hcell i x hx).c7
  have hxr := reach_at HR0.out hx
  have hiI : (i : Int) < (l.length : Int) := by omega
  obtain ⟨r, hr1, hr2, hr3, hr4, hr5, hr6⟩ := latest_is HR0.out hx p1.1 p1.2
  have HSAME := hid hr5
  have HLESS := hid hr6
  clear hr5 hr6 hx hcell
  obtain ⟨_, _, _, _, _, hy1, hy2⟩ := hxr
  have HA1 := hid (asked_day HR0.out p1.1 p1.2)
  obtain ⟨y, hy⟩ : ∃ y, x.ready = y := ⟨_, rfl⟩
  rw [hy] at q7 hr3 hy1 hy2 HSAME
  clear hy
  have sX0 : w2.cell? ⟨R, 0, none⟩ = some (.int .i64 (D : Int)) := cell_of_heap HX2.out
  have sX1 : w2.cell? ⟨R, 1, none⟩ = some (.slice (some ⟨b, off, none⟩) l.length c) := cell_of_heap HX2.out
  have slX := (Array.getElem?_eq_some_iff.1 HX2.out).1
  have hcall := latest_any (D : Int) l _ p i w2 (by omega) (HS.out.mono HB2.out)
  rw [hr1, hr2] at hcall
  go_wp2_with fail
  refine hcall.mono ?_
  rintro e w3 ⟨rfl, hb3⟩
  clear hcall sX0 sX1 slX
  have HX3 := hid (heap_mono HX2.out hb3)
  have HB3 := hid (bl_trans HB2.out hb3)
  clear HX2  hb3
  clear q7 hb hr1 hr2
  have sX0 : w3.cell? ⟨R, 0, none⟩ = some (.int .i64 (D : Int)) := cell_of_heap HX3.out
  have sX1 : w3.cell? ⟨R, 1, none⟩ = some (.slice (some ⟨b, off, none⟩) l.length c) := cell_of_heap HX3.out
  have slX := (Array.getElem?_eq_some_iff.1 HX3.out).1
  have hcall := most_any (D : Int) l _ p w3 (by omega) (HS.out.mono HB3.out)
  rw [HA1.out, if_pos rfl] at hcall
  go_wp2_with fail
  refine hcall.mono ?_
  rintro e w4 ⟨rfl, hb4⟩
  clear hcall sX0 sX1 slX
  have HX4 := hid (heap_mono HX3.out hb4)
  have HB4 := hid (bl_trans HB3.out hb4)
  clear HX3  hb4
  obtain ⟨mo, hmo⟩ : ∃ mo, mostE (D : Int) l p = mo := ⟨_, rfl⟩
  rw [hmo] at HSAME HLESS ⊢
  clear hmo
  have sX0 : w4.cell? ⟨R, 0, none⟩ = some (.int .i64 (D : Int)) := cell_of_heap HX4.out
  have sX1 : w4.cell? ⟨R, 1, none⟩ = some (.slice (some ⟨b, off, none⟩) l.length c) := cell_of_heap HX4.out
  have slX := (Array.getElem?_eq_some_iff.1 HX4.out).1
  have t1 : decide (r < y) = false := by rw [decide_eq_false_iff_not]; omega
  have t2 : decide ((D : Int) < r) = false := by rw [decide_eq_false_iff_not]; omega
  obtain ⟨dv, hdv⟩ : ∃ dv, r - y + 1 = dv := ⟨_, rfl⟩
  have hdb : 1 ≤ dv ∧ dv ≤ 41 := by omega
  have hd1 : (dv == 0) = false := beq_eq_false_iff_ne.2 (by omega)
  have hd2 : ¬ dv = 0 := by omega
  obtain ⟨m, hm, hm1⟩ : ∃ m, Int.tmod ready dv = m ∧ 0 ≤ m ∧ m < dv := ⟨_, rfl, by rw [Int.tmod_eq_emod_of_nonneg (by omega)]; exact ⟨Int.emod_nonneg _ (by omega), Int.emod_lt_of_pos _ (by omega)⟩⟩
  obtain ⟨q, hq⟩ : ∃ q, y + m = q := ⟨_, rfl⟩
  have hqb : 1 ≤ q ∧ q ≤ (D : Int) := by omega
  have v1 : IntKind.i64.wrap ready = ready := IntWalk.i64_in _ (by omega)
  have v2 : IntKind.i64.wrap (r - y) = r - y := IntWalk.i64_in _ (by omega)
  have v3 : IntKind.i64.wrap dv = dv := IntWalk.i64_in _ (by omega)
  have v4 : IntKind.i64.wrap m = m := IntWalk.i64_in _ (by omega)
  have v5 : IntKind.i64.wrap q = q := IntWalk.i64_in _ (by omega)
  have hlr : riverE (D : Int) (laterL l i q) = 0 := later_river HR0.out hil hqb.1 hqb.2
  have hlen : (laterL l i q).length ≤ 1000 := by rw [later_len]; omega
  have HMC : Hid (∀ s W, Rchs W s (laterL l i q) → Calls Try.prog 31 #[.agg #[.int .i64 (D : Int), s], .int .i64 p] W fun e w' => e = .returned (.tuple #[.int .i64 mo, .int .i64 0]) ∧ Below W.heap.size W w') := hid fun s W h => by
    have hc := most_any (D : Int) _ s p W hlen h
    rw [asked_day hlr p1.1 p1.2, if_pos rfl, HSAME.out q (by omega) (by omega)] at hc
    exact hc
  clear hlr hlen
  go_upto_region 9 with (fail)
  clear sX0 sX1 slX t1 t2
  refine wp_region_vals [68, 69, 70, 71, 72, 73, 74, 75, 76, 77, 78, 79, 80, 81, 67, 82, 83, 16, 17] (fun seen u W => (seen 0 = true → u 68 = .agg #[.int .i64 (D : Int), .slice (some ⟨b, off, none⟩) l.length c]) ∧
    (seen 1 = true → u 69 = .int .i64 ((i : Int))) ∧
    (seen 2 = true → u 70 = .int .i64 (y)) ∧
    (seen 3 = true → u 71 = .int .u8 ready) ∧
    (seen 4 = true → u 72 = .int .i64 (ready)) ∧
    (seen 5 = true → u 73 = .int .i64 (r)) ∧
    (seen 6 = true → u 74 = .int .i64 (y)) ∧
    (seen 7 = true → u 75 = .int .i64 (r - y)) ∧
    (seen 8 = true → u 76 = .int .i64 (dv)) ∧
    (seen 9 = true → u 77 = .int .i64 (m)) ∧
    (seen 10 = true → u 78 = .int .i64 (q)) ∧
    (seen 11 = true → AgR W (u 79) (D : Int) (laterL l i q)) ∧
    (seen 12 = true → u 80 = .int .i64 (p)) ∧
    (seen 13 = true → u 81 = .tuple #[.int .i64 mo, .int .i64 0]) ∧
    (seen 14 = true → u 67 = .tuple #[.int .i64 mo, .int .i64 0]) ∧
    (seen 15 = true → u 82 = .int .i64 (mo)) ∧
    (seen 16 = true → u 83 = .int .i64 (0)) ∧
    (seen 17 = true → u 16 = .int .i64 (mo)) ∧
    (seen 18 = true → u 17 = .int .i64 (0)))
    (by kernel_rfl) (by kernel_rfl) (by kernel_rfl) (by simp) (by simp) ?_ ?_
  · intro i o ho seen a' w9 hb9 ⟨F0, F1, F2, F3, F4, F5, F6, F7, F8, F9, F10, F11, F12, F13, F14, F15, F16, F17, F18⟩ hv hsi hdep
    have hbx := heap_mono HX4.out hb9
    have c0 : w9.cell? ⟨R, 0, none⟩ = some (.int .i64 (D : Int)) := cell_of_heap hbx
    have c1 : w9.cell? ⟨R, 1, none⟩ = some (.slice (some ⟨b, off, none⟩) l.length c) := cell_of_heap hbx
    have hXl := (Array.getElem?_eq_some_iff.1 hbx).1
    rcases i with _ | _ | _ | _ | _ | _ | _ | _ | _ | _ | _ | _ | _ | _ | _ | _ | _ | _ | _ | i <;> simp only [List.getElem?_cons_zero, List.getElem?_cons_succ, List.getElem?_nil, Option.some.injEq, reduceCtorEq] at ho <;> subst ho
    · have x4 := val_at (hv 4 (by simp))
      simp [valsOf] at x4
      refine wp_value (.agg #[.int .i64 (D : Int), .slice (some ⟨b, off, none⟩) l.length c]) (w' := w9) (by simp [execOp, x4, go_sem, c0, c1, hXl, v1, v2, hdv, v3, hd1, hd2, hm, v4, hq, v5]) ⟨_, rfl, hb9, ?_⟩
      exact ⟨by simp, by simpa using F1, by simpa using F2, by simpa using F3, by simpa using F4, by simpa using F5, by simpa using F6, by simpa using F7, by simpa using F8, by simpa using F9, by simpa using F10, by simpa using F11, by simpa using F12, by simpa using F13, by simpa using F14, by simpa using F15, by simpa using F16, by simpa using F17, by simpa using F18⟩
    · have x10 := val_at (hv 10 (by simp))
      simp [valsOf] at x10
      refine wp_value (.int .i64 ((i : Int))) (w' := w9) (by simp [execOp, x10, go_sem, c0, c1, hXl, v1, v2, hdv, v3, hd1, hd2, hm, v4, hq, v5]) ⟨_, rfl, hb9, ?_⟩
      exact ⟨by simpa using F0, by simp, by simpa using F2, by simpa using F3, by simpa using F4, by simpa using F5, by simpa using F6, by simpa using F7, by simpa using F8, by simpa using F9, by simpa using F10, by simpa using F11, by simpa using F12, by simpa using F13, by simpa using F14, by simpa using F15, by simpa using F16, by simpa using F17, by simpa using F18⟩
    · have x11 := val_at (hv 11 (by simp))
      simp [valsOf] at x11
      refine wp_value (.int .i64 (y)) (w' := w9) (by simp [execOp, x11, go_sem, c0, c1, hXl, v1, v2, hdv, v3, hd1, hd2, hm, v4, hq, v5]) ⟨_, rfl, hb9, ?_⟩
      exact ⟨by simpa using F0, by simpa using F1, by simp, by simpa using F3, by simpa using F4, by simpa using F5, by simpa using F6, by simpa using F7, by simpa using F8, by simpa using F9, by simpa using F10, by simpa using F11, by simpa using F12, by simpa using F13, by simpa using F14, by simpa using F15, by simpa using F16, by simpa using F17, by simpa using F18⟩
    · have x3 := val_at (hv 3 (by simp))
      simp [valsOf] at x3
      refine wp_value (.int .u8 ready) (w' := w9) (by simp [execOp, x3, go_sem, c0, c1, hXl, v1, v2, hdv, v3, hd1, hd2, hm, v4, hq, v5]) ⟨_, rfl, hb9, ?_⟩
      exact ⟨by simpa using F0, by simpa using F1, by simpa using F2, by simp, by simpa using F4, by simpa using F5, by simpa using F6, by simpa using F7, by simpa using F8, by simpa using F9, by simpa using F10, by simpa using F11, by simpa using F12, by simpa using F13, by simpa using F14, by simpa using F15, by simpa using F16, by simpa using F17, by simpa using F18⟩
    · have d3 := hdep ⟨3, .data⟩ (by simp) rfl
      have e3 := val_at (F3 d3)
      refine wp_value (.int .i64 (ready)) (w' := w9) (by simp [execOp, e3, go_sem, c0, c1, hXl, v1, v2, hdv, v3, hd1, hd2, hm, v4, hq, v5]) ⟨_, rfl, hb9, ?_⟩
      exact ⟨by simpa using F0, by simpa using F1, by simpa using F2, by simpa using F3, by simp, by simpa using F5, by simpa using F6, by simpa using F7, by simpa using F8, by simpa using F9, by simpa using F10, by simpa using F11, by simpa using F12, by simpa using F13, by simpa using F14, by simpa using F15, by simpa using F16, by simpa using F17, by simpa using F18⟩
    · have x12 := val_at (hv 12 (by simp))
      simp [valsOf] at x12
      refine wp_value (.int .i64 (r)) (w' := w9) (by simp [execOp, x12, go_sem, c0, c1, hXl, v1, v2, hdv, v3, hd1, hd2, hm, v4, hq, v5]) ⟨_, rfl, hb9, ?_⟩
      exact ⟨by simpa using F0, by simpa using F1, by simpa using F2, by simpa using F3, by simpa using F4, by simp, by simpa using F6, by simpa using F7, by simpa using F8, by simpa using F9, by simpa using F10, by simpa using F11, by simpa using F12, by simpa using F13, by simpa using F14, by simpa using F15, by simpa using F16, by simpa using F17, by simpa using F18⟩
    · have x11 := val_at (hv 11 (by simp))
      simp [valsOf] at x11
      refine wp_value (.int .i64 (y)) (w' := w9) (by simp [execOp, x11, go_sem, c0, c1, hXl, v1, v2, hdv, v3, hd1, hd2, hm, v4, hq, v5]) ⟨_, rfl, hb9, ?_⟩
      exact ⟨by simpa using F0, by simpa using F1, by simpa using F2, by simpa using F3, by simpa using F4, by simpa using F5, by simp, by simpa using F7, by simpa using F8, by simpa using F9, by simpa using F10, by simpa using F11, by simpa using F12, by simpa using F13, by simpa using F14, by simpa using F15, by simpa using F16, by simpa using F17, by simpa using F18⟩
    · have d5 := hdep ⟨5, .data⟩ (by simp) rfl
      have e5 := val_at (F5 d5)
      have d6 := hdep ⟨6, .data⟩ (by simp) rfl
      have e6 := val_at (F6 d6)
      refine wp_value (.int .i64 (r - y)) (w' := w9) (by simp [execOp, e5, e6, go_sem, c0, c1, hXl, v1, v2, hdv, v3, hd1, hd2, hm, v4, hq, v5]) ⟨_, rfl, hb9, ?_⟩
      exact ⟨by simpa using F0, by simpa using F1, by simpa using F2, by simpa using F3, by simpa using F4, by simpa using F5, by simpa using F6, by simp, by simpa using F8, by simpa using F9, by simpa using F10, by simpa using F11, by simpa using F12, by simpa using F13, by simpa using F14, by simpa using F15, by simpa using F16, by simpa using F17, by simpa using F18⟩
    · have d7 := hdep ⟨7, .data⟩ (by simp) rfl
      have e7 := val_at (F7 d7)
      refine wp_value (.int .i64 (dv)) (w' := w9) (by simp [execOp, e7, go_sem, c0, c1, hXl, v1, v2, hdv, v3, hd1, hd2, hm, v4, hq, v5]) ⟨_, rfl, hb9, ?_⟩
      exact ⟨by simpa using F0, by simpa using F1, by simpa using F2, by simpa using F3, by simpa using F4, by simpa using F5, by simpa using F6, by simpa using F7, by simp, by simpa using F9, by simpa using F10, by simpa using F11, by simpa using F12, by simpa using F13, by simpa using F14, by simpa using F15, by simpa using F16, by simpa using F17, by simpa using F18⟩
    · have d4 := hdep ⟨4, .data⟩ (by simp) rfl
      have e4 := val_at (F4 d4)
      have d8 := hdep ⟨8, .data⟩ (by simp) rfl
      have e8 := val_at (F8 d8)
      refine wp_value (.int .i64 (m)) (w' := w9) (by simp [execOp, e4, e8, go_sem, c0, c1, hXl, v1, v2, hdv, v3, hd1, hd2, hm, v4, hq, v5]) ⟨_, rfl, hb9, ?_⟩
      exact ⟨by simpa using F0, by simpa using F1, by simpa using F2, by simpa using F3, by simpa using F4, by simpa using F5, by simpa using F6, by simpa using F7, by simpa using F8, by simp, by simpa using F10, by simpa using F11, by simpa using F12, by simpa using F13, by simpa using F14, by simpa using F15, by simpa using F16, by simpa using F17, by simpa using F18⟩
    · have d2 := hdep ⟨2, .data⟩ (by simp) rfl
      have e2 := val_at (F2 d2)
      have d9 := hdep ⟨9, .data⟩ (by simp) rfl
      have e9 := val_at (F9 d9)
      refine wp_value (.int .i64 (q)) (w' := w9) (by simp [execOp, e2, e9, go_sem, c0, c1, hXl, v1, v2, hdv, v3, hd1, hd2, hm, v4, hq, v5]) ⟨_, rfl, hb9, ?_⟩
      exact ⟨by simpa using F0, by simpa using F1, by simpa using F2, by simpa using F3, by simpa using F4, by simpa using F5, by simpa using F6, by simpa using F7, by simpa using F8, by simpa using F9, by simp, by simpa using F11, by simpa using F12, by simpa using F13, by simpa using F14, by simpa using F15, by simpa using F16, by simpa using F17, by simpa using F18⟩
    · have d0 := hdep ⟨0, .data⟩ (by simp) rfl
      have e0 := val_at (F0 d0)
      have d1 := hdep ⟨1, .data⟩ (by simp) rfl
      have e1 := val_at (F1 d1)
      have d10 := hdep ⟨10, .data⟩ (by simp) rfl
      have e10 := val_at (F10 d10)
      refine wp_calls (f := 52) (args := #[.agg #[.int .i64 (D : Int), .slice (some ⟨b, off, none⟩) l.length c], .int .i64 (i : Int), .int .i64 q]) (w' := w9) (by simp [execOp, e0, e1, e10, go_sem, valsOf]) (refLater_any (D : Int) l _ i q w9 hl1 (by omega) (HS.out.mono (bl_trans HB4.out hb9)) hil) ?_
      rintro e w10 ⟨⟨s, rfl, hv⟩, hg⟩
      refine ⟨_, rfl, _, rfl, bl_trans hb9 hg, ?_⟩
      exact ⟨by simpa using F0, by simpa using F1, by simpa using F2, by simpa using F3, by simpa using F4, by simpa using F5, by simpa using F6, by simpa using F7, by simpa using F8, by simpa using F9, by simpa using F10, by simpa using ⟨s, rfl, hv.rchs⟩, by simpa using F12, by simpa using F13, by simpa using F14, by simpa using F15, by simpa using F16, by simpa using F17, by simpa using F18⟩
    · have x9 := val_at (hv 9 (by simp))
      simp [valsOf] at x9
      refine wp_value (.int .i64 (p)) (w' := w9) (by simp [execOp, x9, go_sem, c0, c1, hXl, v1, v2, hdv, v3, hd1, hd2, hm, v4, hq, v5]) ⟨_, rfl, hb9, ?_⟩
      exact ⟨by simpa using F0, by simpa using F1, by simpa using F2, by simpa using F3, by simpa using F4, by simpa using F5, by simpa using F6, by simpa using F7, by simpa using F8, by simpa using F9, by simpa using F10, by simpa using F11, by simp, by simpa using F13, by simpa using F14, by simpa using F15, by simpa using F16, by simpa using F17, by simpa using F18⟩
    · have d11 := hdep ⟨11, .data⟩ (by simp) rfl
      have d12 := hdep ⟨12, .data⟩ (by simp) rfl
      have e12 := val_at (F12 d12)
      obtain ⟨s19, h19, hr19⟩ := F11 d11
      have e19 := val_at h19
      refine wp_calls (f := 31) (args := #[.agg #[.int .i64 (D : Int), s19], .int .i64 p]) (w' := w9) (by simp [execOp, e19, e12, go_sem, valsOf]) (HMC.out s19 w9 hr19) ?_
      rintro e w10 ⟨rfl, hg⟩
      refine ⟨_, rfl, _, rfl, bl_trans hb9 hg, ?_⟩
      exact ⟨by simpa using F0, by simpa using F1, by simpa using F2, by simpa using F3, by simpa using F4, by simpa using F5, by simpa using F6, by simpa using F7, by simpa using F8, by simpa using F9, by simpa using F10, by simpa using fun h => (F11 h).mono hg, by simpa using F12, by simp, by simpa using F14, by simpa using F15, by simpa using F16, by simpa using F17, by simpa using F18⟩
    · have d13 := hdep ⟨13, .data⟩ (by simp) rfl
      have e13 := val_at (F13 d13)
      refine wp_value (.tuple #[.int .i64 mo, .int .i64 0]) (w' := w9) (by simp [execOp, e13, go_sem, c0, c1, hXl, v1, v2, hdv, v3, hd1, hd2, hm, v4, hq, v5]) ⟨_, rfl, hb9, ?_⟩
      exact ⟨by simpa using F0, by simpa using F1, by simpa using F2, by simpa using F3, by simpa using F4, by simpa using F5, by simpa using F6, by simpa using F7, by simpa using F8, by simpa using F9, by simpa using F10, by simpa using F11, by simpa using F12, by simpa using F13, by simp, by simpa using F15, by simpa using F16, by simpa using F17, by simpa using F18⟩
    · have d14 := hdep ⟨14, .data⟩ (by simp) rfl
      have e14 := val_at (F14 d14)
      refine wp_value (.int .i64 (mo)) (w' := w9) (by simp [execOp, e14, go_sem, c0, c1, hXl, v1, v2, hdv, v3, hd1, hd2, hm, v4, hq, v5]) ⟨_, rfl, hb9, ?_⟩
      exact ⟨by simpa using F0, by simpa using F1, by simpa using F2, by simpa using F3, by simpa using F4, by simpa using F5, by simpa using F6, by simpa using F7, by simpa using F8, by simpa using F9, by simpa using F10, by simpa using F11, by simpa using F12, by simpa using F13, by simpa using F14, by simp, by simpa using F16, by simpa using F17, by simpa using F18⟩
    · have d14 := hdep ⟨14, .data⟩ (by simp) rfl
      have e14 := val_at (F14 d14)
      refine wp_value (.int .i64 (0)) (w' := w9) (by simp [execOp, e14, go_sem, c0, c1, hXl, v1, v2, hdv, v3, hd1, hd2, hm, v4, hq, v5]) ⟨_, rfl, hb9, ?_⟩
      exact ⟨by simpa using F0, by simpa using F1, by simpa using F2, by simpa using F3, by simpa using F4, by simpa using F5, by simpa using F6, by simpa using F7, by simpa using F8, by simpa using F9, by simpa using F10, by simpa using F11, by simpa using F12, by simpa using F13, by simpa using F14, by simpa using F15, by simp, by simpa using F17, by simpa using F18⟩
    · have d15 := hdep ⟨15, .data⟩ (by simp) rfl
      have e15 := val_at (F15 d15)
      refine wp_value (.int .i64 (mo)) (w' := w9) (by simp [execOp, e15, go_sem, c0, c1, hXl, v1, v2, hdv, v3, hd1, hd2, hm, v4, hq, v5]) ⟨_, rfl, hb9, ?_⟩
      exact ⟨by simpa using F0, by simpa using F1, by simpa using F2, by simpa using F3, by simpa using F4, by simpa using F5, by simpa using F6, by simpa using F7, by simpa using F8, by simpa using F9, by simpa using F10, by simpa using F11, by simpa using F12, by simpa using F13, by simpa using F14, by simpa using F15, by simpa using F16, by simp, by simpa using F18⟩
    · have d16 := hdep ⟨16, .data⟩ (by simp) rfl
      have e16 := val_at (F16 d16)
      refine wp_value (.int .i64 (0)) (w' := w9) (by simp [execOp, e16, go_sem, c0, c1, hXl, v1, v2, hdv, v3, hd1, hd2, hm, v4, hq, v5]) ⟨_, rfl, hb9, ?_⟩
      exact ⟨by simpa using F0, by simpa using F1, by simpa using F2, by simpa using F3, by simpa using F4, by simpa using F5, by simpa using F6, by simpa using F7, by simpa using F8, by simpa using F9, by simpa using F10, by simpa using F11, by simpa using F12, by simpa using F13, by simpa using F14, by simpa using F15, by simpa using F16, by simpa using F17, by simp⟩
  intro u w5 hb5 seen hall ⟨F0, F1, F2, F3, F4, F5, F6, F7, F8, F9, F10, F11, F12, F13, F14, F15, F16, F17, F18⟩
  replace F0 := F0 (hall 0 (by decide))
  replace F1 := F1 (hall 1 (by decide))
  replace F2 := F2 (hall 2 (by decide))
  replace F3 := F3 (hall 3 (by decide))
  replace F4 := F4 (hall 4 (by decide))
  replace F5 := F5 (hall 5 (by decide))
  replace F6 := F6 (hall 6 (by decide))
  replace F7 := F7 (hall 7 (by decide))
  replace F8 := F8 (hall 8 (by decide))
  replace F9 := F9 (hall 9 (by decide))
  replace F10 := F10 (hall 10 (by decide))
  replace F11 := F11 (hall 11 (by decide))
  replace F12 := F12 (hall 12 (by decide))
  replace F13 := F13 (hall 13 (by decide))
  replace F14 := F14 (hall 14 (by decide))
  replace F15 := F15 (hall 15 (by decide))
  replace F16 := F16 (hall 16 (by decide))
  replace F17 := F17 (hall 17 (by decide))
  replace F18 := F18 (hall 18 (by decide))
  simp only [setAll, F17, F18]
  clear F0 F1 F2 F3 F4 F5 F6 F7 F8 F9 F10 F11 F12 F13 F14 F15 F16 F17 F18 hall seen HMC v1 v2 v3 v4 v5 hd1 hd2 hm hq hdv hm1 hdb hqb
  have HX5 := hid (heap_mono HX4.out hb5)
  have HB5 := hid (bl_trans HB4.out hb5)
  clear HX4  hb5
  by_cases hrD : r = (D : Int)
  · have t3 : (r == (D : Int)) = true := by simp [hrD]
    clear hrD HLESS HSAME
    have sX0 : w5.cell? ⟨R, 0, none⟩ = some (.int .i64 (D : Int)) := cell_of_heap HX5.out
    have sX1 : w5.cell? ⟨R, 1, none⟩ = some (.slice (some ⟨b, off, none⟩) l.length c) := cell_of_heap HX5.out
    have slX := (Array.getElem?_eq_some_iff.1 HX5.out).1
    have hworks := works_any w5
    go_wp2_with fail
    refine hworks.mono ?_
    rintro e w6 ⟨rfl, hb6⟩
    clear hworks
    go_wp2
    go_ret
    exact ⟨rfl, bl_trans HB5.out hb6⟩
  have t3 : (r == (D : Int)) = false := beq_eq_false_iff_ne.2 hrD
  have v6 : IntKind.i64.wrap (r + 1) = r + 1 := IntWalk.i64_in _ (by omega)
  obtain ⟨q2, hq2⟩ : ∃ q2, r + 1 = q2 := ⟨_, rfl⟩
  rw [hq2] at v6 HLESS
  have hl2 := HLESS.out (by omega)
  have hq2b : 1 ≤ q2 ∧ q2 ≤ (D : Int) := by omega
  have hlr : riverE (D : Int) (laterL l i q2) = 0 := later_river HR0.out hil hq2b.1 hq2b.2
  have hlen : (laterL l i q2).length ≤ 1000 := by rw [later_len]; omega
  have HA2 := hid (asked_day hlr p1.1 p1.2)
  obtain ⟨ml, hml⟩ : ∃ ml, mostE (D : Int) (laterL l i q2) p = ml := ⟨_, rfl⟩
  have HML := hid hml
  rw [hml] at hl2
  have t4 : decide (ml < mo) = true := by simpa using hl2
  clear hml hl2 hlr HLESS HSAME hrD
  have sX0 : w5.cell? ⟨R, 0, none⟩ = some (.int .i64 (D : Int)) := cell_of_heap HX5.out
  have sX1 : w5.cell? ⟨R, 1, none⟩ = some (.slice (some ⟨b, off, none⟩) l.length c) := cell_of_heap HX5.out
  have slX := (Array.getElem?_eq_some_iff.1 HX5.out).1
  have hcall := refLater_any (D : Int) l _ i q2 w5 hl1 (by omega) (HS.out.mono HB5.out) hil
  go_wp2_with fail
  refine hcall.mono ?_
  rintro e w6 ⟨⟨s2, rfl, hch⟩, hb6⟩
  clear hcall sX0 sX1 slX
  have HX6 := hid (heap_mono HX5.out hb6)
  have HB6 := hid (bl_trans HB5.out hb6)
  clear HX5  hb6
  have HC6 := hid hch
  clear hch
  have hcall := most_any (D : Int) _ s2 p w6 hlen HC6.out.rchs
  rw [HA2.out, if_pos rfl, HML.out] at hcall
  go_wp2_with fail
  refine hcall.mono ?_
  rintro e w7 ⟨rfl, hb7⟩
  clear hcall 
  have HX7 := hid (heap_mono HX6.out hb7)
  have HB7 := hid (bl_trans HB6.out hb7)
  have HC7 := hid (HC6.out.mono hb7)
  clear HX6 HC6 hb7
  have hworks := works_any w7
  go_wp2_with fail
  refine hworks.mono ?_
  rintro e w8 ⟨rfl, hb8⟩
  clear hworks
  go_wp2
  go_ret
  exact ⟨rfl, bl_trans HB7.out hb8⟩

end Go.Proofs.Ytbnmjbmlejifcaa
