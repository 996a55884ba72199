/- CheckCut: the walk. -/
import Derived.Test.YtbnmjbmlejifcaaChkb
import Derived.Test.YtbnmjbmlejifcaaCuta
set_option linter.all false
namespace Go.Proofs.Ytbnmjbmlejifcaa
open Go Go.RowKit Go.Proofs
attribute [local go_sem] cell_grow frozen_grow

/-- The first days, by reaches. -/
def cutF (fl : List Int) (i : Nat) : Nat := (fl.getD i 0).toNat
def ccErr (days : Int) (l : List Rch) (day : Int) (fl : List Int) : Int :=
  if askedE days l day ≠ 0 then askedE days l day else if fl.length ≠ l.length then 15 else if withinB 1 (day + 1) fl = false then 3 else 0
def ccVal (days : Int) (l : List Rch) (day : Int) (fl : List Int) : Int := if ccErr days l day fl = 0 then bound (rivP l) l.length (cutF fl) day.toNat else 0
theorem within_all {lo hi : Int} {l : List Int} (h : withinB lo hi l = true) {i : Nat} {x : Int} (hx : l[i]? = some x) : lo ≤ x ∧ x ≤ hi := by
  have h3 : l.any (badB lo hi) = false := by simpa [withinB] using h
  rw [List.any_eq_false] at h3
  have h4 := h3 x (List.mem_of_getElem? hx)
  simp only [badB, Bool.or_eq_true, decide_eq_true_eq] at h4
  omega
theorem cutAt_is {l : List Rch} {fl : List Int} {day k : Nat} {x : Rch} {y : Int} (hx : l[k]? = some x) (hy : fl[k]? = some y) (h1 : 1 ≤ y) {bv : Int} (hb : before (rivP l) (cutF fl) day k = bv) :
    cutAt (rivP l) (cutF fl) day k = (if x.ready < y then x.logs else 0) + thr x y.toNat bv := by
  unfold cutAt
  rw [hb, riv_at hx]
  have e : cutF fl k = y.toNat := by simp [cutF, List.getD, hy]
  rw [e, show ((y.toNat : Nat) : Int) = y by omega]

set_option maxRecDepth 100000 in
set_option maxHeartbeats 8000000 in
theorem checkCut_any (days : Int) (l : List Rch) (sr : Value) (day : Int) (fl : List Int) (sf : Value) (w : World) (hl : l.length ≤ 1000) (hs : Rchs w sr l) (hfl : fl.length ≤ 1000) (hf : Ints w sf fl) :
    Calls Try.prog 35 #[.agg #[.int .i64 days, sr], .int .i64 day, sf] w fun e w' => e = .returned (.tuple #[.int .i64 (ccVal days l day fl), .int .i64 (ccErr days l day fl)]) ∧ Below w.heap.size w w' := by
  obtain ⟨A, c, rfl⟩ := hs.slice
  obtain ⟨A2, c2, rfl⟩ := hf.slice
  have HX := hid (World.alloc_heap_new w (.cells #[.int .i64 days, .slice A l.length c] 24))
  have HB := hid (bl_alloc (bl_refl w) (.cells #[.int .i64 days, .slice A l.length c] 24))
  have HS := hid hs
  have HF := hid hf
  clear hs hf
  go_enter Try.func35, Try.ntmps35
  go_upto_region 1 with (fail)
  obtain ⟨R, hR⟩ : ∃ R, w.heap.size = R := ⟨_, rfl⟩
  obtain ⟨w0, hw0⟩ : ∃ w0, w.alloc (.cells #[.int .i64 days, .slice A l.length c] 24) = w0 := ⟨_, rfl⟩
  rw [hR] at HX ⊢
  rw [hw0] at HX HB ⊢
  clear hw0 hR
  have r0 : w0.cell? ⟨R, 0, none⟩ = some (.int .i64 days) := cell_of_heap HX.out
  have r1 : w0.cell? ⟨R, 1, none⟩ = some (.slice A l.length c) := cell_of_heap HX.out
  have l0 := (Array.getElem?_eq_some_iff.1 HX.out).1
  have ba := bl_alloc (bl_refl w0) (.cells #[.int .i64 day] 2)
  have hcall := check_any days l _ [day] _ _ hl (HS.out.mono (bl_trans HB.out ba)) (by simp) (Ints.one (W := w0) day 2 rfl)
  rw [check_one] at hcall
  have BA := hid ba
  clear ba
  go_wp2_with fail
  refine hcall.mono ?_
  rintro e w1 ⟨rfl, hb1⟩
  have hb01 := bl_trans BA.out hb1
  have HX1 := hid (heap_mono HX.out hb01)
  have HB1 := hid (bl_trans HB.out hb01)
  clear HX HB hb1 hb01 r0 r1 l0 hcall BA
  by_cases h0 : askedE days l day = 0
  case neg =>
    have he : (askedE days l day != 0) = true := by simp [h0]
    have e1 := hid (show ccErr days l day fl = askedE days l day by rw [ccErr, if_pos h0])
    have e2 := hid (show ccVal days l day fl = 0 by rw [ccVal, e1.out, if_neg h0])
    clear h0
    go_wp2
    go_ret2
    exact ⟨by rw [e1.out, e2.out]; rfl, HB1.out⟩
  have he : (askedE days l day != 0) = false := by simp [h0]
  have hn0 : ¬ (askedE days l day ≠ 0) := by simpa using h0
  have E1 := hid (show ccErr days l day fl = if fl.length ≠ l.length then 15 else if withinB 1 (day + 1) fl = false then 3 else 0 by rw [ccErr, if_neg hn0])
  obtain ⟨g0, g1, g2⟩ := asked_zero h0
  have F := fit_of g0
  have f1 := F.d1
  have f2 := F.d2
  have f3 := F.n1
  have f4 := F.n2
  obtain ⟨D, rfl⟩ : ∃ D : Nat, days = D := ⟨days.toNat, by omega⟩
  obtain ⟨day, rfl⟩ : ∃ t : Nat, day = t := ⟨day.toNat, by omega⟩
  have htD : day ≤ D := by omega
  have hdI : 1 ≤ (day : Int) := by omega
  have HFT := hid F
  clear h0 hn0 g0 g1 g2 F
  have r1 : w1.cell? ⟨R, 1, none⟩ = some (.slice A l.length c) := cell_of_heap HX1.out
  have l0 := (Array.getElem?_eq_some_iff.1 HX1.out).1
  by_cases hlen : fl.length = l.length
  case neg =>
    have d1 : ((fl.length : Int) != (l.length : Int)) = true := by simp; omega
    have e1 := hid (show ccErr D l day fl = 15 by rw [E1.out, if_pos hlen])
    have e2 := hid (show ccVal D l day fl = 0 by rw [ccVal, e1.out]; rfl)
    clear hlen
    go_wp2
    go_ret2
    exact ⟨by rw [e1.out, e2.out]; rfl, HB1.out⟩
  have d1 : ((fl.length : Int) != (l.length : Int)) = false := by simp [hlen]
  have E2 := hid (show ccErr D l day fl = if withinB 1 ((day : Int) + 1) fl = false then 3 else 0 by rw [E1.out, if_neg (by simpa using hlen)])
  have HLEN := hid hlen
  clear hlen E1
  have hwd : IntKind.i64.wrap ((day : Int) + 1) = (day : Int) + 1 := IntWalk.i64_in _ (by omega)
  go_wp2_with fail
  refine (within_any 1 ((day : Int) + 1) fl _ _ (by omega) (HF.out.mono HB1.out)).mono ?_
  rintro e w2 ⟨rfl, hb2⟩
  have HX2 := hid (heap_mono HX1.out hb2)
  have HB2 := hid (bl_trans HB1.out hb2)
  clear HX1 HB1 r1 l0 hb2 d1
  cases hwi : withinB 1 ((day : Int) + 1) fl
  case false =>
    have e1 := hid (show ccErr D l day fl = 3 by rw [E2.out, if_pos hwi])
    have e2 := hid (show ccVal D l day fl = 0 by rw [ccVal, e1.out]; rfl)
    clear hwi
    go_wp2
    go_ret2
    exact ⟨by rw [e1.out, e2.out]; rfl, HB2.out⟩
  have E3 := hid (show ccErr D l day fl = 0 by rw [E2.out, if_neg (by simp [hwi])])
  have HWI := hid hwi
  clear hwi E2
  obtain ⟨b, off, c', e5, hlc, hb, hcell⟩ := HS.out.some f3
  simp only [Value.slice.injEq, true_and] at e5
  obtain ⟨rfl, rfl⟩ := e5
  obtain ⟨bf, offf, cf', e5, hlcf, hbf, hcellf⟩ := HF.out.some (by rw [HLEN.out]; omega)
  simp only [Value.slice.injEq, true_and] at e5
  obtain ⟨rfl, rfl⟩ := e5
  have HC := Lib.hid hcell
  have HFC := Lib.hid hcellf
  clear hcell hcellf
  have r1 : w2.cell? ⟨R, 1, none⟩ = some (.slice (some ⟨b, off, none⟩) l.length c) := cell_of_heap HX2.out
  have l0 := (Array.getElem?_eq_some_iff.1 HX2.out).1
  have hbd : Hid (∀ k, k ≤ l.length → 0 ≤ sumN (cutAt (rivP l) (cutF fl) day) k ∧ sumN (cutAt (rivP l) (cutF fl) day) k ≤ k * 300000) := by
    intro k hk
    have hc : ∀ i, i < l.length → 0 ≤ cutAt (rivP l) (cutF fl) day i ∧ cutAt (rivP l) (cutF fl) day i ≤ 300000 := fun i hi => by
      obtain ⟨x, hx⟩ := get_at hi
      obtain ⟨y, hy⟩ := get_at (l := fl) (k := i) (by rw [HLEN.out]; exact hi)
      have hyb := within_all HWI.out hy
      have g3 := HFT.out.pass i x hx
      have g4 := HFT.out.takes i x hx
      have g6 := HFT.out.logs i x hx
      have hbe : before (rivP l) (cutF fl) day i ≤ 41 := by
        unfold before
        split
        · have : cutF fl (rivP l i).down.toNat ≤ 41 := by
            unfold cutF List.getD
            cases h : fl[(rivP l i).down.toNat]? with
            | none => simp
            | some z => have := within_all HWI.out h; simp; omega
          omega
        · omega
      rw [cutAt_is hx hy hyb.1 rfl]
      have ht := thr_bd g3 y.toNat (before (rivP l) (cutF fl) day i) (by omega) (by omega)
      split <;> omega
    exact ⟨sumN_nonneg fun i hi => (hc i (by omega)).1, sumN_bd fun i hi => (hc i (by omega)).2⟩
  go_wp2
  go_loopw [9, 37] (fun v p wr => ∃ k : Nat, k ≤ l.length ∧ p = .int .i64 k ∧ v = .int .i64 (sumN (cutAt (rivP l) (cutF fl) day) k) ∧ Below w.heap.size w wr) (fun _ p _ => l.length - (intOf p).toNat)
  case atStart => exact ⟨0, Nat.zero_le _, rfl, rfl, HB2.out⟩
  case round =>
    obtain ⟨k, hk, rfl, rfl, hB⟩ := hrel
    clear HX2 HB2 r1 l0
    by_cases hlt : k < l.length
    · obtain ⟨x, hx⟩ := get_at hlt
      obtain ⟨y, hy⟩ := get_at (l := fl) (k := k) (by rw [HLEN.out]; exact hlt)
      have hyb := within_all HWI.out hy
      obtain ⟨q0, q1, q2, q3, q4, q5, q6, q7⟩ := (HC.out k x hx).mono hB
      have hkI : (k : Int) < (l.length : Int) := by omega
      have hkI2 : (k : Int) < (fl.length : Int) := by rw [HLEN.out]; omega
      have ba := bl_alloc (bl_refl wr) (.cells #[.int .i64 x.down, .int .i64 x.pass, .int .i64 x.takes, .int .i64 x.lo, .int .i64 x.hi, .int .i64 x.every, .int .i64 x.logs, .int .i64 x.ready] 59)
      have HB3 := hid (bl_trans hB ba)
      have HX3 := hid (World.alloc_heap_new wr (.cells #[.int .i64 x.down, .int .i64 x.pass, .int .i64 x.takes, .int .i64 x.lo, .int .i64 x.hi, .int .i64 x.every, .int .i64 x.logs, .int .i64 x.ready] 59))
      have g1 := HFT.out.every k x hx
      have g2 := HFT.out.water k x hx
      have g3 := HFT.out.pass k x hx
      have g4 := HFT.out.takes k x hx
      have g6 := HFT.out.logs k x hx
      have g7 := HFT.out.down k x hx
      have hsb := hbd.out k hk
      have Hx := hid hx
      have Hy := hid hy
      clear hx hy hB ba
      go_upto_region 12 with (fail)
      obtain ⟨X, hX⟩ : ∃ X, wr.heap.size = X := ⟨_, rfl⟩
      obtain ⟨w3, hw3⟩ : ∃ w3, wr.alloc (.cells #[.int .i64 x.down, .int .i64 x.pass, .int .i64 x.takes, .int .i64 x.lo, .int .i64 x.hi, .int .i64 x.every, .int .i64 x.logs, .int .i64 x.ready] 59) = w3 := ⟨_, rfl⟩
      rw [hX] at HX3 ⊢
      rw [hw3] at HB3 HX3 ⊢
      clear hw3 hX q0 q1 q2 q3 q4 q5 q6 q7
      have c0 : w3.cell? ⟨X, 0, none⟩ = some (.int .i64 x.down) := cell_of_heap HX3.out
      have yl := (Array.getElem?_eq_some_iff.1 HX3.out).1
      by_cases hdn : 0 ≤ x.down
      · have dd : decide (0 ≤ x.down) = true := by simpa using hdn
        obtain ⟨u, hu⟩ : ∃ u : Nat, x.down = u := ⟨x.down.toNat, by omega⟩
        obtain ⟨bv, hbv⟩ := get_at (l := fl) (k := u) (by rw [HLEN.out]; omega)
        have hbb := within_all HWI.out hbv
        have huc := cell_mono (HFC.out u bv hbv) HB3.out
        have huI : (u : Int) < (fl.length : Int) := by rw [HLEN.out]; omega
        have HBV : Hid (before (rivP l) (cutF fl) day k = bv) := by
          show before (rivP l) (cutF fl) day k = bv
          unfold before
          rw [riv_at Hx.out, if_pos hdn, hu]
          have e : cutF fl ((u : Int)).toNat = bv.toNat := by simp [cutF, List.getD, hbv]
          rw [e]; omega
        have hbfl : bf < w3.heap.size := by have := HB3.out.size; omega
        have HTB := thr_bd g3 y.toNat bv (by omega) (by omega)
        have HSTEP := hid (cutAt_is Hx.out Hy.out hyb.1 HBV.out)
        clear hdn hbv
        rw [hu] at c0 dd
        clear hu
        go_upto_region 15 with (fail)
        clear c0 yl dd huc huI hbfl
        by_cases hrd : x.ready < y
        · have d3 : decide (x.ready < y) = true := by simpa using hrd
          have hcy := cell_mono (HFC.out k y Hy.out) HB3.out
          have hbf3 : bf < w3.heap.size := by have := HB3.out.size; omega
          have c7 : w3.cell? ⟨X, 7, none⟩ = some (.int .i64 x.ready) := cell_of_heap HX3.out
          have yl3 := (Array.getElem?_eq_some_iff.1 HX3.out).1
          refine wp_region_below (by kernel_rfl) (by kernel_rfl) ?_
          repeat (first | go_big_quiet_step (fail) | quiet_step (fail))
          refine wpQuiet_nil ?_
          intro w4 hb4
          have HB4 := hid (bl_trans HB3.out hb4)
          have HX4 := hid (heap_mono HX3.out hb4)
          clear hcy hbf3 c7 yl3 HB3 HX3 hb4
          have HSUM : Hid (sumN (cutAt (rivP l) (cutF fl) day) (k + 1) = sumN (cutAt (rivP l) (cutF fl) day) k + x.logs + thr x y.toNat bv) := by
            show sumN _ (k + 1) = _
            rw [sumN_succ, HSTEP.out, if_pos hrd]; omega
          have c6 : w4.cell? ⟨X, 6, none⟩ = some (.int .i64 x.logs) := cell_of_heap HX4.out
          have yl4 := (Array.getElem?_eq_some_iff.1 HX4.out).1
          clear hrd
          generalize sumN (cutAt (rivP l) (cutF fl) day) k = sm at *
          have hw1 : IntKind.i64.wrap (sm + x.logs) = sm + x.logs := IntWalk.i64_in _ (by omega)
          have hw2 : IntKind.i64.wrap (sm + x.logs + thr x y.toNat bv) = sm + x.logs + thr x y.toNat bv := IntWalk.i64_in _ (by omega)
          go_upto_region 17 with (fail)
          clear c6 yl4
          have hcy := cell_mono (HFC.out k y Hy.out) HB4.out
          have hbf4 : bf < w4.heap.size := by have := HB4.out.size; omega
          obtain ⟨y0, y1, y2, y3, y4, y5, y6, y7⟩ : RchAt w4 X 0 x := ⟨cell_of_heap HX4.out, cell_of_heap HX4.out, cell_of_heap HX4.out, cell_of_heap HX4.out, cell_of_heap HX4.out, cell_of_heap HX4.out, cell_of_heap HX4.out, cell_of_heap HX4.out⟩
          have yl := (Array.getElem?_eq_some_iff.1 HX4.out).1
          simp only [Nat.zero_add] at y1 y2 y3 y4 y5 y6 y7
          have Gen : Hid (∀ W, Below w4.heap.size w4 W → Calls Try.prog 73 #[.agg #[.int .i64 x.down, .int .i64 x.pass, .int .i64 x.takes, .int .i64 x.lo, .int .i64 x.hi, .int .i64 x.every, .int .i64 x.logs, .int .i64 x.ready], .int .i64 y, .int .i64 bv] W fun e w' => e = .returned (.int .i64 (thr x y.toNat bv)) ∧ Below W.heap.size W w') := fun W hW => by
            have h := through_any x y bv W ⟨g1.1, by omega⟩ (by omega) (by omega) ⟨g3.1, by omega⟩ ⟨g4.1, by omega⟩
            have h2 := thrL_eq g1.1 g2.1 bv y.toNat (by omega)
            rw [show ((y.toNat : Nat) : Int) = y by omega] at h2
            rw [h2] at h
            exact h
          refine wp_region_below (by kernel_rfl) (by kernel_rfl) ?_
          repeat (first | go_big_quiet_step (first | (go_at_call 73; exact Calls.regrown_of (Gen.out _ (below_regrown _ _ _)))) | quiet_step (first | (go_at_call 73; exact Calls.regrown_of (Gen.out _ (below_regrown _ _ _)))))
          refine wpQuiet_nil ?_
          intro w5 hb5
          have HB5 := hid (bl_trans HB4.out hb5)
          clear hcy hbf4 y0 y1 y2 y3 y4 y5 y6 y7 yl Gen HX4 HB4 hb5
          go_wp2
          go_roundw
          case rel => exact ⟨k + 1, by omega, by go_num, by rw [HSUM.out], HB5.out⟩
          case measure => simp [intOf]; omega
        · have d3 : decide (x.ready < y) = false := by simpa using hrd
          have hcy := cell_mono (HFC.out k y Hy.out) HB3.out
          have hbf3 : bf < w3.heap.size := by have := HB3.out.size; omega
          have c7 : w3.cell? ⟨X, 7, none⟩ = some (.int .i64 x.ready) := cell_of_heap HX3.out
          have yl3 := (Array.getElem?_eq_some_iff.1 HX3.out).1
          refine wp_region_below (by kernel_rfl) (by kernel_rfl) ?_
          repeat (first | go_big_quiet_step (fail) | quiet_step (fail))
          refine wpQuiet_nil ?_
          intro w4 hb4
          have HB4 := hid (bl_trans HB3.out hb4)
          have HX4 := hid (heap_mono HX3.out hb4)
          clear hcy hbf3 c7 yl3 HB3 HX3 hb4
          have HSUM : Hid (sumN (cutAt (rivP l) (cutF fl) day) (k + 1) = sumN (cutAt (rivP l) (cutF fl) day) k + thr x y.toNat bv) := by
            show sumN _ (k + 1) = _
            rw [sumN_succ, HSTEP.out, if_neg hrd]; omega
          clear hrd
          generalize sumN (cutAt (rivP l) (cutF fl) day) k = sm at *
          have hw2 : IntKind.i64.wrap (sm + thr x y.toNat bv) = sm + thr x y.toNat bv := IntWalk.i64_in _ (by omega)
          go_upto_region 17 with (fail)
          have hcy := cell_mono (HFC.out k y Hy.out) HB4.out
          have hbf4 : bf < w4.heap.size := by have := HB4.out.size; omega
          obtain ⟨y0, y1, y2, y3, y4, y5, y6, y7⟩ : RchAt w4 X 0 x := ⟨cell_of_heap HX4.out, cell_of_heap HX4.out, cell_of_heap HX4.out, cell_of_heap HX4.out, cell_of_heap HX4.out, cell_of_heap HX4.out, cell_of_heap HX4.out, cell_of_heap HX4.out⟩
          have yl := (Array.getElem?_eq_some_iff.1 HX4.out).1
          simp only [Nat.zero_add] at y1 y2 y3 y4 y5 y6 y7
          have Gen : Hid (∀ W, Below w4.heap.size w4 W → Calls Try.prog 73 #[.agg #[.int .i64 x.down, .int .i64 x.pass, .int .i64 x.takes, .int .i64 x.lo, .int .i64 x.hi, .int .i64 x.every, .int .i64 x.logs, .int .i64 x.ready], .int .i64 y, .int .i64 bv] W fun e w' => e = .returned (.int .i64 (thr x y.toNat bv)) ∧ Below W.heap.size W w') := fun W hW => by
            have h := through_any x y bv W ⟨g1.1, by omega⟩ (by omega) (by omega) ⟨g3.1, by omega⟩ ⟨g4.1, by omega⟩
            have h2 := thrL_eq g1.1 g2.1 bv y.toNat (by omega)
            rw [show ((y.toNat : Nat) : Int) = y by omega] at h2
            rw [h2] at h
            exact h
          refine wp_region_below (by kernel_rfl) (by kernel_rfl) ?_
          repeat (first | go_big_quiet_step (first | (go_at_call 73; exact Calls.regrown_of (Gen.out _ (below_regrown _ _ _)))) | quiet_step (first | (go_at_call 73; exact Calls.regrown_of (Gen.out _ (below_regrown _ _ _)))))
          refine wpQuiet_nil ?_
          intro w5 hb5
          have HB5 := hid (bl_trans HB4.out hb5)
          clear hcy hbf4 y0 y1 y2 y3 y4 y5 y6 y7 yl Gen HX4 HB4 hb5
          go_wp2
          go_roundw
          case rel => exact ⟨k + 1, by omega, by go_num, by rw [HSUM.out], HB5.out⟩
          case measure => simp [intOf]; omega
      · have dd : decide (0 ≤ x.down) = false := by simpa using hdn
        clear hyb hkI2
        go_upto_region 15 with (fail)
        have hyb := within_all HWI.out Hy.out
        have HBV : Hid (before (rivP l) (cutF fl) day k = (day : Int) + 1) := by
          show before (rivP l) (cutF fl) day k = (day : Int) + 1
          unfold before
          rw [riv_at Hx.out, if_neg hdn]
        have HTB := thr_bd g3 y.toNat ((day : Int) + 1) (by omega) (by omega)
        have HSTEP := hid (cutAt_is Hx.out Hy.out hyb.1 HBV.out)
        clear hdn c0 yl dd
        have hkI2 : (k : Int) < (fl.length : Int) := by rw [HLEN.out]; omega
        by_cases hrd : x.ready < y
        · have d3 : decide (x.ready < y) = true := by simpa using hrd
          have hcy := cell_mono (HFC.out k y Hy.out) HB3.out
          have hbf3 : bf < w3.heap.size := by have := HB3.out.size; omega
          have c7 : w3.cell? ⟨X, 7, none⟩ = some (.int .i64 x.ready) := cell_of_heap HX3.out
          have yl3 := (Array.getElem?_eq_some_iff.1 HX3.out).1
          refine wp_region_below (by kernel_rfl) (by kernel_rfl) ?_
          repeat (first | go_big_quiet_step (fail) | quiet_step (fail))
          refine wpQuiet_nil ?_
          intro w4 hb4
          have HB4 := hid (bl_trans HB3.out hb4)
          have HX4 := hid (heap_mono HX3.out hb4)
          clear hcy hbf3 c7 yl3 HB3 HX3 hb4
          have HSUM : Hid (sumN (cutAt (rivP l) (cutF fl) day) (k + 1) = sumN (cutAt (rivP l) (cutF fl) day) k + x.logs + thr x y.toNat ((day : Int) + 1)) := by
            show sumN _ (k + 1) = _
            rw [sumN_succ, HSTEP.out, if_pos hrd]; omega
          have c6 : w4.cell? ⟨X, 6, none⟩ = some (.int .i64 x.logs) := cell_of_heap HX4.out
          have yl4 := (Array.getElem?_eq_some_iff.1 HX4.out).1
          clear hrd
          generalize sumN (cutAt (rivP l) (cutF fl) day) k = sm at *
          have hw1 : IntKind.i64.wrap (sm + x.logs) = sm + x.logs := IntWalk.i64_in _ (by omega)
          have hw2 : IntKind.i64.wrap (sm + x.logs + thr x y.toNat ((day : Int) + 1)) = sm + x.logs + thr x y.toNat ((day : Int) + 1) := IntWalk.i64_in _ (by omega)
          go_upto_region 17 with (fail)
          clear c6 yl4
          have hcy := cell_mono (HFC.out k y Hy.out) HB4.out
          have hbf4 : bf < w4.heap.size := by have := HB4.out.size; omega
          obtain ⟨y0, y1, y2, y3, y4, y5, y6, y7⟩ : RchAt w4 X 0 x := ⟨cell_of_heap HX4.out, cell_of_heap HX4.out, cell_of_heap HX4.out, cell_of_heap HX4.out, cell_of_heap HX4.out, cell_of_heap HX4.out, cell_of_heap HX4.out, cell_of_heap HX4.out⟩
          have yl := (Array.getElem?_eq_some_iff.1 HX4.out).1
          simp only [Nat.zero_add] at y1 y2 y3 y4 y5 y6 y7
          have Gen : Hid (∀ W, Below w4.heap.size w4 W → Calls Try.prog 73 #[.agg #[.int .i64 x.down, .int .i64 x.pass, .int .i64 x.takes, .int .i64 x.lo, .int .i64 x.hi, .int .i64 x.every, .int .i64 x.logs, .int .i64 x.ready], .int .i64 y, .int .i64 ((day : Int) + 1)] W fun e w' => e = .returned (.int .i64 (thr x y.toNat ((day : Int) + 1))) ∧ Below W.heap.size W w') := fun W hW => by
            have h := through_any x y ((day : Int) + 1) W ⟨g1.1, by omega⟩ (by omega) (by omega) ⟨g3.1, by omega⟩ ⟨g4.1, by omega⟩
            have h2 := thrL_eq g1.1 g2.1 ((day : Int) + 1) y.toNat (by omega)
            rw [show ((y.toNat : Nat) : Int) = y by omega] at h2
            rw [h2] at h
            exact h
          refine wp_region_below (by kernel_rfl) (by kernel_rfl) ?_
          repeat (first | go_big_quiet_step (first | (go_at_call 73; exact Calls.regrown_of (Gen.out _ (below_regrown _ _ _)))) | quiet_step (first | (go_at_call 73; exact Calls.regrown_of (Gen.out _ (below_regrown _ _ _)))))
          refine wpQuiet_nil ?_
          intro w5 hb5
          have HB5 := hid (bl_trans HB4.out hb5)
          clear hcy hbf4 y0 y1 y2 y3 y4 y5 y6 y7 yl Gen HX4 HB4 hb5
          go_wp2
          go_roundw
          case rel => exact ⟨k + 1, by omega, by go_num, by rw [HSUM.out], HB5.out⟩
          case measure => simp [intOf]; omega
        · have d3 : decide (x.ready < y) = false := by simpa using hrd
          have hcy := cell_mono (HFC.out k y Hy.out) HB3.out
          have hbf3 : bf < w3.heap.size := by have := HB3.out.size; omega
          have c7 : w3.cell? ⟨X, 7, none⟩ = some (.int .i64 x.ready) := cell_of_heap HX3.out
          have yl3 := (Array.getElem?_eq_some_iff.1 HX3.out).1
          refine wp_region_below (by kernel_rfl) (by kernel_rfl) ?_
          repeat (first | go_big_quiet_step (fail) | quiet_step (fail))
          refine wpQuiet_nil ?_
          intro w4 hb4
          have HB4 := hid (bl_trans HB3.out hb4)
          have HX4 := hid (heap_mono HX3.out hb4)
          clear hcy hbf3 c7 yl3 HB3 HX3 hb4
          have HSUM : Hid (sumN (cutAt (rivP l) (cutF fl) day) (k + 1) = sumN (cutAt (rivP l) (cutF fl) day) k + thr x y.toNat ((day : Int) + 1)) := by
            show sumN _ (k + 1) = _
            rw [sumN_succ, HSTEP.out, if_neg hrd]; omega
          clear hrd
          generalize sumN (cutAt (rivP l) (cutF fl) day) k = sm at *
          have hw2 : IntKind.i64.wrap (sm + thr x y.toNat ((day : Int) + 1)) = sm + thr x y.toNat ((day : Int) + 1) := IntWalk.i64_in _ (by omega)
          go_upto_region 17 with (fail)
          have hcy := cell_mono (HFC.out k y Hy.out) HB4.out
          have hbf4 : bf < w4.heap.size := by have := HB4.out.size; omega
          obtain ⟨y0, y1, y2, y3, y4, y5, y6, y7⟩ : RchAt w4 X 0 x := ⟨cell_of_heap HX4.out, cell_of_heap HX4.out, cell_of_heap HX4.out, cell_of_heap HX4.out, cell_of_heap HX4.out, cell_of_heap HX4.out, cell_of_heap HX4.out, cell_of_heap HX4.out⟩
          have yl := (Array.getElem?_eq_some_iff.1 HX4.out).1
          simp only [Nat.zero_add] at y1 y2 y3 y4 y5 y6 y7
          have Gen : Hid (∀ W, Below w4.heap.size w4 W → Calls Try.prog 73 #[.agg #[.int .i64 x.down, .int .i64 x.pass, .int .i64 x.takes, .int .i64 x.lo, .int .i64 x.hi, .int .i64 x.every, .int .i64 x.logs, .int .i64 x.ready], .int .i64 y, .int .i64 ((day : Int) + 1)] W fun e w' => e = .returned (.int .i64 (thr x y.toNat ((day : Int) + 1))) ∧ Below W.heap.size W w') := fun W hW => by
            have h := through_any x y ((day : Int) + 1) W ⟨g1.1, by omega⟩ (by omega) (by omega) ⟨g3.1, by omega⟩ ⟨g4.1, by omega⟩
            have h2 := thrL_eq g1.1 g2.1 ((day : Int) + 1) y.toNat (by omega)
            rw [show ((y.toNat : Nat) : Int) = y by omega] at h2
            rw [h2] at h
            exact h
          refine wp_region_below (by kernel_rfl) (by kernel_rfl) ?_
          repeat (first | go_big_quiet_step (first | (go_at_call 73; exact Calls.regrown_of (Gen.out _ (below_regrown _ _ _)))) | quiet_step (first | (go_at_call 73; exact Calls.regrown_of (Gen.out _ (below_regrown _ _ _)))))
          refine wpQuiet_nil ?_
          intro w5 hb5
          have HB5 := hid (bl_trans HB4.out hb5)
          clear hcy hbf4 y0 y1 y2 y3 y4 y5 y6 y7 yl Gen HX4 HB4 hb5
          go_wp2
          go_roundw
          case rel => exact ⟨k + 1, by omega, by go_num, by rw [HSUM.out], HB5.out⟩
          case measure => simp [intOf]; omega
    · obtain rfl : k = l.length := by omega
      have e2 := hid (show ccVal D l day fl = sumN (cutAt (rivP l) (cutF fl) day) l.length by rw [ccVal, E3.out, if_pos rfl, Int.toNat_natCast]; rfl)
      go_wp2
      go_ret2
      exact ⟨by rw [E3.out, e2.out]; rfl, hB⟩

end Go.Proofs.Ytbnmjbmlejifcaa
