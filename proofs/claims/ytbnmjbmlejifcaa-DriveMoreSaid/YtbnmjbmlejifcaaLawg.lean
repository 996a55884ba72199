/- DriveMore: the walk. -/
import Derived.Test.YtbnmjbmlejifcaaLawf
import Derived.Test.YtbnmjbmlejifcaaRowkit
import Derived.OpenShut
set_option linter.all false
namespace Go.Proofs.Ytbnmjbmlejifcaa
open Go Go.RowKit Go.Proofs
attribute [local go_sem] cell_grow frozen_grow

section
open Go.ChangeShapes Go.WideShapes Go.ChangeAt Go.Joins
variable {H : Type} {enc : TypeId × Value → H} {W : World} {base : Nat}
theorem list5 {cs : List Value} (h : cs.length = 5) : ∃ c0 c1 c2 c3 c4, cs = [c0, c1, c2, c3, c4] := by
  match cs, h with
  | [c0, c1, c2, c3, c4], _ => exact ⟨c0, c1, c2, c3, c4, rfl⟩
set_option maxRecDepth 10000 in
theorem open_arr5 {v : Value} {d : DataW H} {p : List MemPlace} (hv : Value.okWide Try.prog W .any base 71 v) (h : DataW.Trod enc Try.prog W 0 (fun _ => true) true 71 v d p) :
    ∃ m0 m1 m2 m3 m4 : Int, v = .agg #[.int .u8 m0, .int .u8 m1, .int .u8 m2, .int .u8 m3, .int .u8 m4] ∧ (0 ≤ m0 ∧ m0 < 256) ∧ (0 ≤ m1 ∧ m1 < 256) ∧ (0 ≤ m2 ∧ m2 < 256) ∧ (0 ≤ m3 ∧ m3 < 256) ∧ (0 ≤ m4 ∧ m4 < 256) := by
  unfold Value.okWide at hv
  rw [Try.underlying71] at hv
  obtain ⟨cs, rfl, hsz, _⟩ := hv
  rw [show Try.prog.cellsOf 71 = 5 by kernel_rfl] at hsz
  obtain ⟨c0, c1, c2, c3, c4, hcs⟩ := list5 (cs := cs.toList) (by simpa using hsz)
  obtain rfl : cs = #[c0, c1, c2, c3, c4] := by rw [← Array.toArray_toList (xs := cs), hcs]
  obtain ⟨fuel, hf⟩ := h
  obtain ⟨xs, m, _, _, _, hxl, hg⟩ := DataW.trod_array Try.underlying71 hf
  have hc : Try.prog.cellsOf 5 = 1 := by kernel_rfl
  have each : ∀ (i : Nat) (c : Value), i < 5 → (([c0, c1, c2, c3, c4] : List Value).drop (i * 1)).take 1 = [c] → ∃ x : Int, c = .int .u8 x ∧ 0 ≤ x ∧ x < 256 := fun i c hi hcc => by
    have h1 := hg i hi
    have hlt : i < xs.length := by omega
    rw [hc, List.getElem?_eq_getElem hlt] at h1
    have h2 : DataW.trod enc Try.prog W 0 (fun _ => true) true m 5 [c] = some xs[i] := by rw [← hcc]; exact h1
    obtain ⟨x, e, _, hw⟩ := DataW.trod_int Try.underlying5 h2
    injection e with e
    exact ⟨x, e, wf_u8 hw⟩
  obtain ⟨m0, rfl, b0⟩ := each 0 c0 (by decide) rfl
  obtain ⟨m1, rfl, b1⟩ := each 1 c1 (by decide) rfl
  obtain ⟨m2, rfl, b2⟩ := each 2 c2 (by decide) rfl
  obtain ⟨m3, rfl, b3⟩ := each 3 c3 (by decide) rfl
  obtain ⟨m4, rfl, b4⟩ := each 4 c4 (by decide) rfl
  exact ⟨m0, m1, m2, m3, m4, rfl, b0, b1, b2, b3, b4⟩
end
theorem cap_wide {x y : Rch} (h1 : y.every = 1) (h2 : y.lo ≤ x.lo) (h3 : x.hi ≤ y.hi) (h4 : x.pass ≤ y.pass) (h5 : 0 ≤ y.pass) (d : Int) : capD x d ≤ capD y d := by
  unfold capD
  by_cases hx : openB x d = true
  · have hy : openB y d = true := by
      unfold openB at hx ⊢
      simp only [Bool.and_eq_true, decide_eq_true_eq] at hx ⊢
      have a := hx.1.1
      have b := hx.1.2
      clear hx
      rw [h1, Int.emod_one]
      exact ⟨⟨by omega, by omega⟩, rfl⟩
    rw [if_pos hx, if_pos hy]
    exact h4
  · rw [if_neg hx]
    split <;> omega

set_option maxRecDepth 100000 in
set_option maxHeartbeats 8000000 in
theorem driveMore_any (days : Int) (l : List Rch) (sr : Value) (day reach m0 m1 m2 m3 m4 : Int) (w : World) (hs : Rchs w sr l) (b1 : 0 ≤ day ∧ day < 256) (b2 : 0 ≤ reach ∧ reach < 256) (e0 : 0 ≤ m0 ∧ m0 < 256) (e1 : 0 ≤ m1 ∧ m1 < 256) (e2 : 0 ≤ m2 ∧ m2 < 256) (e3 : 0 ≤ m3 ∧ m3 < 256) (e4 : 0 ≤ m4 ∧ m4 < 256) :
    Calls Try.prog 15 #[.agg #[.int .i64 days, sr], .int .u8 day, .int .u8 reach, .agg #[.int .u8 m0, .int .u8 m1, .int .u8 m2, .int .u8 m3, .int .u8 m4]] w fun e w' => e = .returned (.bool true) ∧ Below w.heap.size w w' := by
  obtain ⟨A, c, rfl⟩ := hs.slice
  have b3 := bl_alloc (bl_refl w) (.cells #[.int .i64 days, .slice A l.length c] 24)
  have b4 := bl_alloc (bl_refl (w.alloc (.cells #[.int .i64 days, .slice A l.length c] 24))) (.cells #[.int .u8 m0, .int .u8 m1, .int .u8 m2, .int .u8 m3, .int .u8 m4] 71)
  have x3 := World.alloc_heap_new w (.cells #[.int .i64 days, .slice A l.length c] 24)
  have x4 := World.alloc_heap_new (w.alloc (.cells #[.int .i64 days, .slice A l.length c] 24)) (.cells #[.int .u8 m0, .int .u8 m1, .int .u8 m2, .int .u8 m3, .int .u8 m4] 71)
  simp only [World.size_alloc] at x4
  have HX0 := hid (heap_mono x3 b4)
  have HM0 := hid x4
  have HB0 := hid (bl_trans b3 b4)
  have HS := hid hs
  clear hs b3 b4 x3 x4
  go_enter Try.func15, Try.ntmps15
  go_upto_region 1 with (fail)
  obtain ⟨R, hR⟩ : ∃ R, w.heap.size = R := ⟨_, rfl⟩
  obtain ⟨w0, hw0⟩ : ∃ w0, (w.alloc (.cells #[.int .i64 days, .slice A l.length c] 24)).alloc (.cells #[.int .u8 m0, .int .u8 m1, .int .u8 m2, .int .u8 m3, .int .u8 m4] 71) = w0 := ⟨_, rfl⟩
  rw [hR] at HX0 HM0 ⊢
  rw [hw0] at HX0 HM0 HB0 ⊢
  clear hw0 hR
  by_cases h0 : ¬ riverE days l = 0
  · have hd0 : decide (riverE days l = 0) = false := by simpa using h0
    have sX0 : w0.cell? ⟨R, 0, none⟩ = some (.int .i64 days) := cell_of_heap HX0.out
    have sX1 : w0.cell? ⟨R, 1, none⟩ = some (.slice A l.length c) := cell_of_heap HX0.out
    have slX := (Array.getElem?_eq_some_iff.1 HX0.out).1
    have hcall := fine_any days l _ w0 (HS.out.mono HB0.out)
    rw [hd0] at hcall
    clear hd0 h0
    go_wp2_with fail
    refine hcall.mono ?_
    rintro e w1 ⟨rfl, hb1⟩
    clear hcall sX0 sX1 slX
    have HX1 := hid (heap_mono HX0.out hb1)
    have HM1 := hid (heap_mono HM0.out hb1)
    have HB1 := hid (bl_trans HB0.out hb1)
    clear HX0 HM0  hb1
    have hworks := works_any w1
    go_wp2_with fail
    refine hworks.mono ?_
    rintro e w2 ⟨rfl, hb2⟩
    clear hworks
    go_wp2
    go_ret
    exact ⟨rfl, bl_trans HB1.out hb2⟩
  replace h0 := Decidable.not_not.1 h0
  have hd0 : decide (riverE days l = 0) = true := by simpa using h0
  have F0 := fit_of h0
  obtain ⟨D, rfl⟩ : ∃ D : Nat, days = D := ⟨days.toNat, by have := F0.d1; omega⟩
  have hD1 := F0.d1
  have hD2 := F0.d2
  have hl1 := F0.n1
  have hl8 := F0.n2
  have HR0 := hid h0
  have HF := hid F0
  clear F0
  have sX0 : w0.cell? ⟨R, 0, none⟩ = some (.int .i64 (D : Int)) := cell_of_heap HX0.out
  have sX1 : w0.cell? ⟨R, 1, none⟩ = some (.slice A l.length c) := cell_of_heap HX0.out
  have slX := (Array.getElem?_eq_some_iff.1 HX0.out).1
  have hcall := fine_any (D : Int) l _ w0 (HS.out.mono HB0.out)
  rw [hd0] at hcall
  clear hd0 h0
  go_wp2_with fail
  refine hcall.mono ?_
  rintro e w1 ⟨rfl, hb1⟩
  clear hcall sX0 sX1 slX
  have HX1 := hid (heap_mono HX0.out hb1)
  have HM1 := hid (heap_mono HM0.out hb1)
  have HB1 := hid (bl_trans HB0.out hb1)
  clear HX0 HM0  hb1
  have hln : ((l.length : Int) == 0) = false := beq_eq_false_iff_ne.2 (by omega)
  have hln2 : ¬ ((l.length : Int) = 0) := by omega
  obtain ⟨i, hi, hil⟩ : ∃ i : Nat, reach % (l.length : Int) = i ∧ i < l.length := by
    have h1 := Int.emod_nonneg reach (b := (l.length : Int)) (by omega)
    have h2 := Int.emod_lt_of_pos reach (b := (l.length : Int)) (by omega)
    exact ⟨(reach % (l.length : Int)).toNat, by omega, by omega⟩
  have hrt : Int.tmod reach (l.length : Int) = (i : Int) := by rw [Int.tmod_eq_emod_of_nonneg (by omega), hi]
  have hrw1 : IntKind.i64.wrap reach = reach := IntWalk.i64_in _ (by omega)
  have hrw2 : IntKind.i64.wrap (i : Int) = i := IntWalk.i64_in _ (by omega)
  go_upto_region 3 with (fail)
  have sX0 : w1.cell? ⟨R, 0, none⟩ = some (.int .i64 (D : Int)) := cell_of_heap HX1.out
  have sX1 : w1.cell? ⟨R, 1, none⟩ = some (.slice A l.length c) := cell_of_heap HX1.out
  have slX := (Array.getElem?_eq_some_iff.1 HX1.out).1
  have G45 : Hid (∀ (x : Int) (_ : 0 ≤ x ∧ x < 256) W, Below w1.heap.size w1 W → Calls Try.prog 45 #[.agg #[.int .i64 (D : Int), .slice A l.length c], .int .u8 x] W fun e w' => e = .returned (.int .i64 (dayE D x)) ∧ Below W.heap.size W w') := fun x hx W hW => day_any (D : Int) l _ x W (HS.out.mono (bl_trans HB1.out hW)) (by omega) hx
  refine wp_region_below (by kernel_rfl) (by kernel_rfl) ?_
  repeat (first | go_big_quiet_step (first | (go_at_call 45; exact Calls.regrown_of (G45.out _ (by assumption) _ (below_regrown _ _ _)))) | quiet_step (first | (go_at_call 45; exact Calls.regrown_of (G45.out _ (by assumption) _ (below_regrown _ _ _)))))
  refine wpQuiet_nil ?_
  intro w2 hb2
  clear G45 sX0 sX1 slX
  have HX2 := hid (heap_mono HX1.out hb2)
  have HM2 := hid (heap_mono HM1.out hb2)
  have HB2 := hid (bl_trans HB1.out hb2)
  clear HX1 HM1  hb2
  clear hln hln2 hi hrt hrw1 hrw2
  have p1 := dayE_bd (by_ := day) hD1
  generalize dayE (D : Int) day = p at *
  obtain ⟨x, hx⟩ := get_at hil
  obtain ⟨b, off, c', e5, hlc, hb, hcell⟩ := (HS.out.mono HB2.out).some hl1
  simp only [Value.slice.injEq, true_and] at e5
  obtain ⟨rfl, rfl⟩ := e5
  obtain ⟨q0, q1, q2, q3, q4, q5, q6, q7⟩ := hcell i x hx
  have hxr := reach_at HR0.out hx
  have hiI : (i : Int) < (l.length : Int) := by omega
  have sX0 : w2.cell? ⟨R, 0, none⟩ = some (.int .i64 (D : Int)) := cell_of_heap HX2.out
  have sX1 : w2.cell? ⟨R, 1, none⟩ = some (.slice (some ⟨b, off, none⟩) l.length c) := cell_of_heap HX2.out
  have slX := (Array.getElem?_eq_some_iff.1 HX2.out).1
  have sM0 : w2.cell? ⟨R + 1, 0, none⟩ = some (.int .u8 m0) := cell_of_heap HM2.out
  have sM1 : w2.cell? ⟨R + 1, 1, none⟩ = some (.int .u8 m1) := cell_of_heap HM2.out
  have sM2 : w2.cell? ⟨R + 1, 2, none⟩ = some (.int .u8 m2) := cell_of_heap HM2.out
  have sM3 : w2.cell? ⟨R + 1, 3, none⟩ = some (.int .u8 m3) := cell_of_heap HM2.out
  have sM4 : w2.cell? ⟨R + 1, 4, none⟩ = some (.int .u8 m4) := cell_of_heap HM2.out
  have slM := (Array.getElem?_eq_some_iff.1 HM2.out).1
  obtain ⟨⟨x1, x2⟩, ⟨x3, x4⟩, ⟨x5, x6⟩, ⟨x7, x8, x9⟩, ⟨x10, x11⟩, x12, x13⟩ := hxr
  have HXX := hid hx
  clear hx hcell
  have mw0 : IntKind.i64.wrap m0 = m0 := IntWalk.i64_in _ (by omega)
  have mw1 : IntKind.i64.wrap m1 = m1 := IntWalk.i64_in _ (by omega)
  have mw2 : IntKind.i64.wrap m2 = m2 := IntWalk.i64_in _ (by omega)
  have mw4 : IntKind.i64.wrap m4 = m4 := IntWalk.i64_in _ (by omega)
  obtain ⟨r1, r1t, r1b⟩ : ∃ r1, Int.tmod m1 9 = r1 ∧ 0 ≤ r1 ∧ r1 < 9 := ⟨_, rfl, by rw [Int.tmod_eq_emod_of_nonneg (by omega)]; omega, by rw [Int.tmod_eq_emod_of_nonneg (by omega)]; omega⟩
  have r1w : IntKind.i64.wrap r1 = r1 := IntWalk.i64_in _ (by omega)
  obtain ⟨r2, r2t, r2b⟩ : ∃ r2, Int.tmod m2 4 = r2 ∧ 0 ≤ r2 ∧ r2 < 4 := ⟨_, rfl, by rw [Int.tmod_eq_emod_of_nonneg (by omega)]; omega, by rw [Int.tmod_eq_emod_of_nonneg (by omega)]; omega⟩
  have r2w : IntKind.i64.wrap r2 = r2 := IntWalk.i64_in _ (by omega)
  obtain ⟨r4, r4t, r4b⟩ : ∃ r4, Int.tmod m4 5 = r4 ∧ 0 ≤ r4 ∧ r4 < 5 := ⟨_, rfl, by rw [Int.tmod_eq_emod_of_nonneg (by omega)]; omega, by rw [Int.tmod_eq_emod_of_nonneg (by omega)]; omega⟩
  have r4w : IntKind.i64.wrap r4 = r4 := IntWalk.i64_in _ (by omega)
  obtain ⟨r5, r5t, r5b⟩ : ∃ r5, Int.tmod m4 7 = r5 ∧ 0 ≤ r5 ∧ r5 < 7 := ⟨_, rfl, by rw [Int.tmod_eq_emod_of_nonneg (by omega)]; omega, by rw [Int.tmod_eq_emod_of_nonneg (by omega)]; omega⟩
  have r5w : IntKind.i64.wrap r5 = r5 := IntWalk.i64_in _ (by omega)
  obtain ⟨r6, r6t, r6b⟩ : ∃ r6, Int.tmod m4 3 = r6 ∧ 0 ≤ r6 ∧ r6 < 3 := ⟨_, rfl, by rw [Int.tmod_eq_emod_of_nonneg (by omega)]; omega, by rw [Int.tmod_eq_emod_of_nonneg (by omega)]; omega⟩
  have r6w : IntKind.i64.wrap r6 = r6 := IntWalk.i64_in _ (by omega)
  obtain ⟨k3, k3t, k3b⟩ : ∃ k3, Int.tmod m3 2 = k3 ∧ 0 ≤ k3 ∧ k3 < 2 := ⟨_, rfl, by rw [Int.tmod_eq_emod_of_nonneg (by omega)]; omega, by rw [Int.tmod_eq_emod_of_nonneg (by omega)]; omega⟩
  have k3w : IntKind.u8.wrap k3 = k3 := IntWalk.u8_in _ (by omega)
  have s5 : IntKind.i64.wrap (x.logs + m0) = x.logs + m0 := IntWalk.i64_in _ (by omega)
  have s1 : IntKind.i64.wrap (x.pass + r1) = x.pass + r1 := IntWalk.i64_in _ (by omega)
  have s2 : IntKind.i64.wrap (x.takes - r2) = x.takes - r2 := IntWalk.i64_in _ (by omega)
  have s3 : IntKind.i64.wrap (x.lo - r4) = x.lo - r4 := IntWalk.i64_in _ (by omega)
  have s4 : IntKind.i64.wrap (x.hi + r5) = x.hi + r5 := IntWalk.i64_in _ (by omega)
  have s6 : IntKind.i64.wrap (x.ready - r6) = x.ready - r6 := IntWalk.i64_in _ (by omega)
  obtain ⟨yg, yge, ygb⟩ : ∃ yg, (if x.logs + m0 < 10000 then x.logs + m0 else 10000) = yg ∧ x.logs ≤ yg ∧ yg ≤ 10000 := ⟨_, rfl, by constructor <;> split <;> omega⟩
  obtain ⟨yp, ype, ypb⟩ : ∃ yp, (if x.pass + r1 < 1000 then x.pass + r1 else 1000) = yp ∧ x.pass ≤ yp ∧ yp ≤ 1000 := ⟨_, rfl, by constructor <;> split <;> omega⟩
  obtain ⟨yt, yte, ytb⟩ : ∃ yt, (if r2 < x.takes then x.takes - r2 else 0) = yt ∧ 0 ≤ yt ∧ yt ≤ x.takes := ⟨_, rfl, by constructor <;> split <;> omega⟩
  obtain ⟨yl, yle, ylb⟩ : ∃ yl, (if 1 < x.lo - r4 then x.lo - r4 else 1) = yl ∧ 1 ≤ yl ∧ yl ≤ x.lo := ⟨_, rfl, by constructor <;> split <;> omega⟩
  obtain ⟨yh, yhe, yhb⟩ : ∃ yh, (if x.hi + r5 < (D : Int) then x.hi + r5 else (D : Int)) = yh ∧ x.hi ≤ yh ∧ yh ≤ (D : Int) := ⟨_, rfl, by constructor <;> split <;> omega⟩
  obtain ⟨yr, yre, yrb⟩ : ∃ yr, (if 1 < x.ready - r6 then x.ready - r6 else 1) = yr ∧ 1 ≤ yr ∧ yr ≤ x.ready := ⟨_, rfl, by constructor <;> split <;> omega⟩
  go_upto_region 8 with (fail)
  by_cases hk : k3 = 1
  · have hkb : (k3 == 1) = true := by simp [hk]
    clear hk
    go_upto_region 13 with (fail)
    obtain ⟨Yb, hYb⟩ : ∃ Yb, w2.heap.size = Yb := ⟨_, rfl⟩
    have hy := World.alloc_heap_new w2 (.cells #[.int .i64 x.down, .int .i64 yp, .int .i64 yt, .int .i64 yl, .int .i64 yh, .int .i64 1, .int .i64 yg, .int .i64 yr] 59)
    have hb3 := bl_alloc (bl_refl w2) (.cells #[.int .i64 x.down, .int .i64 yp, .int .i64 yt, .int .i64 yl, .int .i64 yh, .int .i64 1, .int .i64 yg, .int .i64 yr] 59)
    obtain ⟨w3, hw3⟩ : ∃ w3, w2.alloc (.cells #[.int .i64 x.down, .int .i64 yp, .int .i64 yt, .int .i64 yl, .int .i64 yh, .int .i64 1, .int .i64 yg, .int .i64 yr] 59) = w3 := ⟨_, rfl⟩
    rw [hYb] at hy ⊢
    rw [hw3] at hy hb3 ⊢
    clear hYb hw3
    clear r1w r2w r4w r5w r6w k3w s5 s1 s2 s3 s4 s6 yge ype yte yle yhe yre mw0 mw1 mw2 mw4 r1t r2t r4t r5t r6t k3t
    clear sX0 sX1 slX sM0 sM1 sM2 sM3 sM4 slM q0 q1 q2 q3 q4 q5 q6 q7
    have HX3 := hid (heap_mono HX2.out hb3)
    have HM3 := hid (heap_mono HM2.out hb3)
    have HB3 := hid (bl_trans HB2.out hb3)
    clear HX2 HM2  hb3
    have HY3 := hid hy
    clear hy
    have hy1 : riverE (D : Int) (l.set i (⟨x.down, yp, yt, yl, yh, 1, yg, yr⟩ : Rch)) = 0 := river_set HR0.out hil (by rw [riv_at HXX.out]) (ranged_of (by refine ⟨?_, ?_, ?_, ?_, ?_, ?_⟩ <;> simp only <;> omega))
    have HA1 := hid (asked_day HR0.out p1.1 p1.2)
    have HA2 := hid (asked_day hy1 p1.1 p1.2)
    have HML : Hid (mostE (D : Int) l p ≤ mostE (D : Int) (l.set i (⟨x.down, yp, yt, yl, yh, 1, yg, yr⟩ : Rch)) p) := by
      obtain ⟨t, rfl⟩ : ∃ t : Nat, p = t := ⟨p.toNat, by omega⟩
      refine more_le HF.out hil (fit_of hy1) ?_ ?_ ?_ ?_ ?_ ?_ (by omega) <;> (try rw [riv_at HXX.out]) <;> (try simp only) <;> try omega
      exact cap_wide rfl ylb.2 yhb.1 ypb.1 (by show 0 ≤ yp; omega)
    have hsl : (l.set i (⟨x.down, yp, yt, yl, yh, 1, yg, yr⟩ : Rch)).length ≤ 1000 := by rw [List.length_set]; omega
    clear hy1
    have sX0 : w3.cell? ⟨R, 0, none⟩ = some (.int .i64 (D : Int)) := cell_of_heap HX3.out
    have sX1 : w3.cell? ⟨R, 1, none⟩ = some (.slice (some ⟨b, off, none⟩) l.length c) := cell_of_heap HX3.out
    have slX := (Array.getElem?_eq_some_iff.1 HX3.out).1
    have sY0 : w3.cell? ⟨Yb, 0, none⟩ = some (.int .i64 x.down) := cell_of_heap HY3.out
    have sY1 : w3.cell? ⟨Yb, 1, none⟩ = some (.int .i64 yp) := cell_of_heap HY3.out
    have sY2 : w3.cell? ⟨Yb, 2, none⟩ = some (.int .i64 yt) := cell_of_heap HY3.out
    have sY3 : w3.cell? ⟨Yb, 3, none⟩ = some (.int .i64 yl) := cell_of_heap HY3.out
    have sY4 : w3.cell? ⟨Yb, 4, none⟩ = some (.int .i64 yh) := cell_of_heap HY3.out
    have sY5 : w3.cell? ⟨Yb, 5, none⟩ = some (.int .i64 1) := cell_of_heap HY3.out
    have sY6 : w3.cell? ⟨Yb, 6, none⟩ = some (.int .i64 yg) := cell_of_heap HY3.out
    have sY7 : w3.cell? ⟨Yb, 7, none⟩ = some (.int .i64 yr) := cell_of_heap HY3.out
    have slY := (Array.getElem?_eq_some_iff.1 HY3.out).1
    have hcall := most_any (D : Int) l _ p w3 (by omega) (HS.out.mono HB3.out)
    rw [HA1.out, if_pos rfl] at hcall
    go_wp2_with fail
    refine hcall.mono ?_
    rintro e w4 ⟨rfl, hb4⟩
    clear hcall sX0 sX1 slX sY0 sY1 sY2 sY3 sY4 sY5 sY6 sY7 slY
    have HX4 := hid (heap_mono HX3.out hb4)
    have HM4 := hid (heap_mono HM3.out hb4)
    have HY4 := hid (heap_mono HY3.out hb4)
    have HB4 := hid (bl_trans HB3.out hb4)
    clear HX3 HM3 HY3  hb4
    have sX0 : w4.cell? ⟨R, 0, none⟩ = some (.int .i64 (D : Int)) := cell_of_heap HX4.out
    have sX1 : w4.cell? ⟨R, 1, none⟩ = some (.slice (some ⟨b, off, none⟩) l.length c) := cell_of_heap HX4.out
    have slX := (Array.getElem?_eq_some_iff.1 HX4.out).1
    have sY0 : w4.cell? ⟨Yb, 0, none⟩ = some (.int .i64 x.down) := cell_of_heap HY4.out
    have sY1 : w4.cell? ⟨Yb, 1, none⟩ = some (.int .i64 yp) := cell_of_heap HY4.out
    have sY2 : w4.cell? ⟨Yb, 2, none⟩ = some (.int .i64 yt) := cell_of_heap HY4.out
    have sY3 : w4.cell? ⟨Yb, 3, none⟩ = some (.int .i64 yl) := cell_of_heap HY4.out
    have sY4 : w4.cell? ⟨Yb, 4, none⟩ = some (.int .i64 yh) := cell_of_heap HY4.out
    have sY5 : w4.cell? ⟨Yb, 5, none⟩ = some (.int .i64 1) := cell_of_heap HY4.out
    have sY6 : w4.cell? ⟨Yb, 6, none⟩ = some (.int .i64 yg) := cell_of_heap HY4.out
    have sY7 : w4.cell? ⟨Yb, 7, none⟩ = some (.int .i64 yr) := cell_of_heap HY4.out
    have slY := (Array.getElem?_eq_some_iff.1 HY4.out).1
    have hcall := changed_any (D : Int) l _ i (⟨x.down, yp, yt, yl, yh, 1, yg, yr⟩ : Rch) w4 (by omega) (by omega) (HS.out.mono HB4.out) hil
    go_wp2_with fail
    refine hcall.mono ?_
    rintro e w5 ⟨⟨s2, rfl, hch⟩, hb5⟩
    clear hcall sX0 sX1 slX sY0 sY1 sY2 sY3 sY4 sY5 sY6 sY7 slY
    have HX5 := hid (heap_mono HX4.out hb5)
    have HM5 := hid (heap_mono HM4.out hb5)
    have HY5 := hid (heap_mono HY4.out hb5)
    have HB5 := hid (bl_trans HB4.out hb5)
    clear HX4 HM4 HY4  hb5
    have HC5 := hid hch
    clear hch
    have hcall := most_any (D : Int) _ s2 p w5 hsl HC5.out.rchs
    rw [HA2.out, if_pos rfl] at hcall
    go_wp2_with fail
    refine hcall.mono ?_
    rintro e w6 ⟨rfl, hb6⟩
    clear hcall 
    have HX6 := hid (heap_mono HX5.out hb6)
    have HM6 := hid (heap_mono HM5.out hb6)
    have HY6 := hid (heap_mono HY5.out hb6)
    have HB6 := hid (bl_trans HB5.out hb6)
    have HC6 := hid (HC5.out.mono hb6)
    clear HX5 HM5 HY5 HC5 hb6
    have hge := HML.out
    generalize mostE (D : Int) l p = va at *
    generalize mostE (D : Int) (l.set i (⟨x.down, yp, yt, yl, yh, 1, yg, yr⟩ : Rch)) p = vb at *
    have hgb : decide (va ≤ vb) = true := decide_eq_true hge
    clear hge
    have hworks := works_any w6
    go_wp2_with fail
    refine hworks.mono ?_
    rintro e w7 ⟨rfl, hb7⟩
    clear hworks
    go_wp2
    go_ret
    exact ⟨rfl, bl_trans HB6.out hb7⟩
  have hkb : (k3 == 1) = false := by rw [beq_eq_false_iff_ne]; exact hk
  clear hk
  go_upto_region 13 with (fail)
  obtain ⟨Yb, hYb⟩ : ∃ Yb, w2.heap.size = Yb := ⟨_, rfl⟩
  have hy := World.alloc_heap_new w2 (.cells #[.int .i64 x.down, .int .i64 yp, .int .i64 yt, .int .i64 x.lo, .int .i64 x.hi, .int .i64 x.every, .int .i64 yg, .int .i64 yr] 59)
  have hb3 := bl_alloc (bl_refl w2) (.cells #[.int .i64 x.down, .int .i64 yp, .int .i64 yt, .int .i64 x.lo, .int .i64 x.hi, .int .i64 x.every, .int .i64 yg, .int .i64 yr] 59)
  obtain ⟨w3, hw3⟩ : ∃ w3, w2.alloc (.cells #[.int .i64 x.down, .int .i64 yp, .int .i64 yt, .int .i64 x.lo, .int .i64 x.hi, .int .i64 x.every, .int .i64 yg, .int .i64 yr] 59) = w3 := ⟨_, rfl⟩
  rw [hYb] at hy ⊢
  rw [hw3] at hy hb3 ⊢
  clear hYb hw3
  clear r1w r2w r4w r5w r6w k3w s5 s1 s2 s3 s4 s6 yge ype yte yle yhe yre mw0 mw1 mw2 mw4 r1t r2t r4t r5t r6t k3t
  clear sX0 sX1 slX sM0 sM1 sM2 sM3 sM4 slM q0 q1 q2 q3 q4 q5 q6 q7
  have HX3 := hid (heap_mono HX2.out hb3)
  have HM3 := hid (heap_mono HM2.out hb3)
  have HB3 := hid (bl_trans HB2.out hb3)
  clear HX2 HM2  hb3
  have HY3 := hid hy
  clear hy
  have hy1 : riverE (D : Int) (l.set i (⟨x.down, yp, yt, x.lo, x.hi, x.every, yg, yr⟩ : Rch)) = 0 := river_set HR0.out hil (by rw [riv_at HXX.out]) (ranged_of (by refine ⟨?_, ?_, ?_, ?_, ?_, ?_⟩ <;> simp only <;> omega))
  have HA1 := hid (asked_day HR0.out p1.1 p1.2)
  have HA2 := hid (asked_day hy1 p1.1 p1.2)
  have HML : Hid (mostE (D : Int) l p ≤ mostE (D : Int) (l.set i (⟨x.down, yp, yt, x.lo, x.hi, x.every, yg, yr⟩ : Rch)) p) := by
    obtain ⟨t, rfl⟩ : ∃ t : Nat, p = t := ⟨p.toNat, by omega⟩
    refine more_le HF.out hil (fit_of hy1) ?_ ?_ ?_ ?_ ?_ ?_ (by omega) <;> (try rw [riv_at HXX.out]) <;> (try simp only) <;> try omega
    intro d
    show (if openB x d = true then x.pass else 0) ≤ (if openB x d = true then yp else 0)
    split <;> omega
  have hsl : (l.set i (⟨x.down, yp, yt, x.lo, x.hi, x.every, yg, yr⟩ : Rch)).length ≤ 1000 := by rw [List.length_set]; omega
  clear hy1
  have sX0 : w3.cell? ⟨R, 0, none⟩ = some (.int .i64 (D : Int)) := cell_of_heap HX3.out
  have sX1 : w3.cell? ⟨R, 1, none⟩ = some (.slice (some ⟨b, off, none⟩) l.length c) := cell_of_heap HX3.out
  have slX := (Array.getElem?_eq_some_iff.1 HX3.out).1
  have sY0 : w3.cell? ⟨Yb, 0, none⟩ = some (.int .i64 x.down) := cell_of_heap HY3.out
  have sY1 : w3.cell? ⟨Yb, 1, none⟩ = some (.int .i64 yp) := cell_of_heap HY3.out
  have sY2 : w3.cell? ⟨Yb, 2, none⟩ = some (.int .i64 yt) := cell_of_heap HY3.out
  have sY3 : w3.cell? ⟨Yb, 3, none⟩ = some (.int .i64 x.lo) := cell_of_heap HY3.out
  have sY4 : w3.cell? ⟨Yb, 4, none⟩ = some (.int .i64 x.hi) := cell_of_heap HY3.out
  have sY5 : w3.cell? ⟨Yb, 5, none⟩ = some (.int .i64 x.every) := cell_of_heap HY3.out
  have sY6 : w3.cell? ⟨Yb, 6, none⟩ = some (.int .i64 yg) := cell_of_heap HY3.out
  have sY7 : w3.cell? ⟨Yb, 7, none⟩ = some (.int .i64 yr) := cell_of_heap HY3.out
  have slY := (Array.getElem?_eq_some_iff.1 HY3.out).1
  have hcall := most_any (D : Int) l _ p w3 (by omega) (HS.out.mono HB3.out)
  rw [HA1.out, if_pos rfl] at hcall
  go_wp2_with fail
  refine hcall.mono ?_
  rintro e w4 ⟨rfl, hb4⟩
  clear hcall sX0 sX1 slX sY0 sY1 sY2 sY3 sY4 sY5 sY6 sY7 slY
  have HX4 := hid (heap_mono HX3.out hb4)
  have HM4 := hid (heap_mono HM3.out hb4)
  have HY4 := hid (heap_mono HY3.out hb4)
  have HB4 := hid (bl_trans HB3.out hb4)
  clear HX3 HM3 HY3  hb4
  have sX0 : w4.cell? ⟨R, 0, none⟩ = some (.int .i64 (D : Int)) := cell_of_heap HX4.out
  have sX1 : w4.cell? ⟨R, 1, none⟩ = some (.slice (some ⟨b, off, none⟩) l.length c) := cell_of_heap HX4.out
  have slX := (Array.getElem?_eq_some_iff.1 HX4.out).1
  have sY0 : w4.cell? ⟨Yb, 0, none⟩ = some (.int .i64 x.down) := cell_of_heap HY4.out
  have sY1 : w4.cell? ⟨Yb, 1, none⟩ = some (.int .i64 yp) := cell_of_heap HY4.out
  have sY2 : w4.cell? ⟨Yb, 2, none⟩ = some (.int .i64 yt) := cell_of_heap HY4.out
  have sY3 : w4.cell? ⟨Yb, 3, none⟩ = some (.int .i64 x.lo) := cell_of_heap HY4.out
  have sY4 : w4.cell? ⟨Yb, 4, none⟩ = some (.int .i64 x.hi) := cell_of_heap HY4.out
  have sY5 : w4.cell? ⟨Yb, 5, none⟩ = some (.int .i64 x.every) := cell_of_heap HY4.out
  have sY6 : w4.cell? ⟨Yb, 6, none⟩ = some (.int .i64 yg) := cell_of_heap HY4.out
  have sY7 : w4.cell? ⟨Yb, 7, none⟩ = some (.int .i64 yr) := cell_of_heap HY4.out
  have slY := (Array.getElem?_eq_some_iff.1 HY4.out).1
  have hcall := changed_any (D : Int) l _ i (⟨x.down, yp, yt, x.lo, x.hi, x.every, yg, yr⟩ : Rch) w4 (by omega) (by omega) (HS.out.mono HB4.out) hil
  go_wp2_with fail
  refine hcall.mono ?_
  rintro e w5 ⟨⟨s2, rfl, hch⟩, hb5⟩
  clear hcall sX0 sX1 slX sY0 sY1 sY2 sY3 sY4 sY5 sY6 sY7 slY
  have HX5 := hid (heap_mono HX4.out hb5)
  have HM5 := hid (heap_mono HM4.out hb5)
  have HY5 := hid (heap_mono HY4.out hb5)
  have HB5 := hid (bl_trans HB4.out hb5)
  clear HX4 HM4 HY4  hb5
  have HC5 := hid hch
  clear hch
  have hcall := most_any (D : Int) _ s2 p w5 hsl HC5.out.rchs
  rw [HA2.out, if_pos rfl] at hcall
  go_wp2_with fail
  refine hcall.mono ?_
  rintro e w6 ⟨rfl, hb6⟩
  clear hcall 
  have HX6 := hid (heap_mono HX5.out hb6)
  have HM6 := hid (heap_mono HM5.out hb6)
  have HY6 := hid (heap_mono HY5.out hb6)
  have HB6 := hid (bl_trans HB5.out hb6)
  have HC6 := hid (HC5.out.mono hb6)
  clear HX5 HM5 HY5 HC5 hb6
  have hge := HML.out
  generalize mostE (D : Int) l p = va at *
  generalize mostE (D : Int) (l.set i (⟨x.down, yp, yt, x.lo, x.hi, x.every, yg, yr⟩ : Rch)) p = vb at *
  have hgb : decide (va ≤ vb) = true := decide_eq_true hge
  clear hge
  have hworks := works_any w6
  go_wp2_with fail
  refine hworks.mono ?_
  rintro e w7 ⟨rfl, hb7⟩
  clear hworks
  go_wp2
  go_ret
  exact ⟨rfl, bl_trans HB6.out hb7⟩

end Go.Proofs.Ytbnmjbmlejifcaa
