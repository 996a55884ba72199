/- The references' Most and By: the walks. -/
import Derived.Test.YtbnmjbmlejifcaaMostof
import Derived.Test.YtbnmjbmlejifcaaBy
set_option linter.all false
namespace Go.Proofs.Ytbnmjbmlejifcaa
open Go Go.RowKit Go.Proofs
attribute [local go_sem] cell_grow frozen_grow

set_option maxHeartbeats 4000000 in
theorem refMost_any (days : Int) (l : List Rch) (sr : Value) (day : Int) (w : World) (hs : Rchs w sr l) :
    Calls Try.prog 32 #[.agg #[.int .i64 days, sr], .int .i64 day] w fun e w' => e = .returned (.tuple #[.int .i64 (if askedE days l day = 0 then mostE days l day else 0), .int .i64 (askedE days l day)]) ∧ Below w.heap.size w w' := by
  obtain ⟨A, c, rfl⟩ := hs.slice
  have HX := hid (World.alloc_heap_new w (.cells #[.int .i64 days, .slice A l.length c] 24))
  have HB := hid (bl_alloc (bl_refl w) (.cells #[.int .i64 days, .slice A l.length c] 24))
  have HS := hid hs
  clear hs
  go_enter Try.func32, Try.ntmps32
  go_upto_region 1 with (fail)
  obtain ⟨R, hR⟩ : ∃ R, w.heap.size = R := ⟨_, rfl⟩
  obtain ⟨w0, hw0⟩ : ∃ w0, w.alloc (.cells #[.int .i64 days, .slice A l.length c] 24) = w0 := ⟨_, rfl⟩
  rw [hR] at HX ⊢
  rw [hw0] at HX HB ⊢
  clear hw0 hR
  have r0 : w0.cell? ⟨R, 0, none⟩ = some (.int .i64 days) := cell_of_heap HX.out
  have r1 : w0.cell? ⟨R, 1, none⟩ = some (.slice A l.length c) := cell_of_heap HX.out
  have l0 := (Array.getElem?_eq_some_iff.1 HX.out).1
  go_wp2_with fail
  refine (refAsked_any days l _ day _ (HS.out.mono HB.out)).mono ?_
  rintro e w1 ⟨rfl, hb1⟩
  have HX1 := hid (heap_mono HX.out hb1)
  have HB1 := hid (bl_trans HB.out hb1)
  clear HX HB hb1 r0 r1 l0
  have r0 : w1.cell? ⟨R, 0, none⟩ = some (.int .i64 days) := cell_of_heap HX1.out
  have r1 : w1.cell? ⟨R, 1, none⟩ = some (.slice A l.length c) := cell_of_heap HX1.out
  have l0 := (Array.getElem?_eq_some_iff.1 HX1.out).1
  by_cases h0 : askedE days l day = 0
  · have he : (askedE days l day != 0) = false := by simp [h0]
    obtain ⟨g0, g1, g2⟩ := asked_zero h0
    obtain ⟨D, rfl⟩ : ∃ D : Nat, days = D := ⟨days.toNat, by omega⟩
    obtain ⟨t, rfl⟩ : ∃ t : Nat, day = t := ⟨day.toNat, by omega⟩
    have hcall := mostOf_any D l _ t w1 (HS.out.mono HB1.out) (fit_of g0) (by omega)
    have H0 := hid h0
    clear h0 g0 g1 g2
    go_wp2_with fail
    refine hcall.mono ?_
    rintro e w2 ⟨rfl, hb2⟩
    have HB2 := hid (bl_trans HB1.out hb2)
    clear r0 r1 l0 hcall hb2
    go_wp2
    go_ret2
    exact ⟨rfl, HB2.out⟩
  · have he : (askedE days l day != 0) = true := by simp [h0]
    have H0 := hid h0
    clear h0
    go_wp2_with fail
    refine (refAsked_any days l _ day w1 (HS.out.mono HB1.out)).mono ?_
    rintro e w2 ⟨rfl, hb2⟩
    clear r0 r1 l0
    go_wp2
    go_ret2
    exact ⟨rfl, bl_trans HB1.out hb2⟩

theorem byD_step {f : Nat → Int} {logs : Int} {n d : Nat} (h : ¬ logs ≤ f d) : byD f logs (n + 1) d = byD f logs n (d + 1) := by
  rw [byD, if_neg h]
theorem byD_here {f : Nat → Int} {logs : Int} {n d : Nat} (h : logs ≤ f d) : byD f logs (n + 1) d = d := by
  rw [byD, if_pos h]

set_option maxHeartbeats 8000000 in
theorem refBy_any (days : Int) (l : List Rch) (sr : Value) (logs : Int) (w : World) (hs : Rchs w sr l) :
    Calls Try.prog 34 #[.agg #[.int .i64 days, sr], .int .i64 logs] w fun e w' => e = .returned (.tuple #[.int .i64 (byE days l logs), .int .i64 (byErr days l logs)]) ∧ Below w.heap.size w w' := by
  obtain ⟨A, c, rfl⟩ := hs.slice
  have HX := hid (World.alloc_heap_new w (.cells #[.int .i64 days, .slice A l.length c] 24))
  have HB := hid (bl_alloc (bl_refl w) (.cells #[.int .i64 days, .slice A l.length c] 24))
  have HS := hid hs
  clear hs
  go_enter Try.func34, Try.ntmps34
  go_upto_region 1 with (fail)
  obtain ⟨R, hR⟩ : ∃ R, w.heap.size = R := ⟨_, rfl⟩
  obtain ⟨w0, hw0⟩ : ∃ w0, w.alloc (.cells #[.int .i64 days, .slice A l.length c] 24) = w0 := ⟨_, rfl⟩
  rw [hR] at HX ⊢
  rw [hw0] at HX HB ⊢
  clear hw0 hR
  have r0 : w0.cell? ⟨R, 0, none⟩ = some (.int .i64 days) := cell_of_heap HX.out
  have r1 : w0.cell? ⟨R, 1, none⟩ = some (.slice A l.length c) := cell_of_heap HX.out
  have l0 := (Array.getElem?_eq_some_iff.1 HX.out).1
  go_wp2_with fail
  refine (refRiver_any days l _ _ (HS.out.mono HB.out)).mono ?_
  rintro e w1 ⟨rfl, hb1⟩
  have HX1 := hid (heap_mono HX.out hb1)
  have HB1 := hid (bl_trans HB.out hb1)
  clear HX HB hb1 r0 r1 l0
  have r0 : w1.cell? ⟨R, 0, none⟩ = some (.int .i64 days) := cell_of_heap HX1.out
  have r1 : w1.cell? ⟨R, 1, none⟩ = some (.slice A l.length c) := cell_of_heap HX1.out
  have l0 := (Array.getElem?_eq_some_iff.1 HX1.out).1
  by_cases h0 : riverE days l = 0
  case neg =>
    have he : (riverE days l != 0) = true := by simp [h0]
    have e1 := hid (show byErr days l logs = riverE days l by rw [byErr, if_pos h0])
    have e2 := hid (show byE days l logs = 0 by rw [byE, e1.out, if_neg h0])
    clear h0
    go_wp2_with fail
    refine (refRiver_any days l _ w1 (HS.out.mono HB1.out)).mono ?_
    rintro e w2 ⟨rfl, hb2⟩
    clear r0 r1 l0
    go_wp2
    go_ret2
    exact ⟨by rw [e1.out, e2.out]; rfl, bl_trans HB1.out hb2⟩
  have he : (riverE days l != 0) = false := by simp [h0]
  have hn0 : ¬ (riverE days l ≠ 0) := by simpa using h0
  by_cases hlg : logs < 0
  · have d1 : decide (logs < 0) = true := by simpa using hlg
    have e1 := hid (show byErr days l logs = 3 by rw [byErr, if_neg hn0, if_pos hlg])
    have e2 := hid (show byE days l logs = 0 by rw [byE, e1.out]; rfl)
    clear h0 hn0 hlg
    go_wp2
    go_ret2
    exact ⟨by rw [e1.out, e2.out]; rfl, HB1.out⟩
  have d1 : decide (logs < 0) = false := by simpa using hlg
  have e1 := hid (show byErr days l logs = if byN days l logs = 0 then 20 else 0 by rw [byErr, if_neg hn0, if_neg hlg])
  have HF := hid (fit_of h0)
  have f1 := HF.out.d1
  have f2 := HF.out.d2
  have f3 := HF.out.n1
  obtain ⟨D, rfl⟩ : ∃ D : Nat, days = D := ⟨days.toNat, by omega⟩
  obtain ⟨b, off, c', e5, hlc, hb, hcell⟩ := HS.out.some f3
  simp only [Value.slice.injEq, true_and] at e5
  obtain ⟨rfl, rfl⟩ := e5
  have hcall := refEarly_any D l _ w1 (HS.out.mono HB1.out) HF.out
  have HPL : Hid ((planE D l).length = l.length) := (planE_full (D : Int) l).1
  have HBN : Hid (byN D l logs = byD (fun d => mostE D l (d : Int)) logs D 1) := by show byN D l logs = _; unfold byN; rw [Int.toNat_natCast]
  clear h0 hn0 hlg hcell
  go_wp2_with fail
  refine hcall.mono ?_
  rintro e w2 ⟨⟨v, rfl, hv⟩, hb2⟩
  obtain ⟨A2, c2, rfl⟩ := hv.slice
  have HX2 := hid (heap_mono HX1.out hb2)
  have HB2 := hid (bl_trans HB1.out hb2)
  have HV := hid hv
  clear r0 r1 l0 hcall hv hb2 HX1 HB1
  go_wp2
  go_loopw [7] (fun p wr => ∃ k : Nat, k ≤ D ∧ p = .int .i64 ((k : Int) + 1) ∧ byN D l logs = byD (fun d => mostE D l (d : Int)) logs (D - k) (k + 1) ∧ wr.heap[R]? = some (.cells #[.int .i64 (D : Int), .slice (some ⟨b, off, none⟩) l.length c] 24 (0, 0)) ∧ Below w2.heap.size w2 wr) (fun p _ => D + 1 - (intOf p).toNat)
  case atStart => exact ⟨0, Nat.zero_le _, rfl, HBN.out, HX2.out, bl_refl _⟩
  case round =>
    obtain ⟨k, hk, rfl, hby, hR, hB⟩ := hrel
    clear HX2
    have HBY := hid hby
    have HX3 := hid hR
    have HB3 := hid hB
    have s0 : wr.cell? ⟨R, 0, none⟩ = some (.int .i64 (D : Int)) := cell_of_heap HX3.out
    have s1 : wr.cell? ⟨R, 1, none⟩ = some (.slice (some ⟨b, off, none⟩) l.length c) := cell_of_heap HX3.out
    have sl := (Array.getElem?_eq_some_iff.1 HX3.out).1
    clear hby hR hB
    by_cases hkd : k < D
    · have dI : decide ((k : Int) + 1 ≤ (D : Int)) = true := by simp; omega
      have hcall := brought_any D l _ (planE D l) _ ((k : Int) + 1) wr ((HS.out.mono HB2.out).mono HB3.out) (HV.out.mono HB3.out) HF.out HPL.out (planE_small HF.out) (by omega)
      have HM : Hid (mostE D l ((k + 1 : Nat) : Int) = brought (rivP l) l.length (planP (planE D l)) ((k : Int) + 1)) := rfl
      have hwk : IntKind.i64.wrap ((k : Int) + 1 + 1) = ((k + 1 : Nat) : Int) + 1 := by rw [IntWalk.i64_in _ (by omega)]; omega
      generalize brought (rivP l) l.length (planP (planE D l)) ((k : Int) + 1) = bv at *
      go_wp2_with fail
      refine hcall.mono ?_
      rintro e w4 ⟨rfl, hb4⟩
      clear s0 s1 sl hcall
      by_cases hge : logs ≤ bv
      · have d2 : decide (logs ≤ bv) = true := by simpa using hge
        have hres := hid (show byN D l logs = k + 1 by
          rw [HBY.out, show D - k = (D - k - 1) + 1 by omega]
          exact byD_here (by show logs ≤ mostE D l ((k + 1 : Nat) : Int); rw [HM.out]; exact hge))
        have e3 := hid (show byErr D l logs = 0 by rw [e1.out, hres.out, if_neg (by omega)])
        have e4 := hid (show byE D l logs = (k : Int) + 1 by rw [byE, e3.out, if_pos rfl, hres.out]; omega)
        clear hge
        go_wp2
        go_ret2
        exact ⟨by rw [e3.out, e4.out]; rfl, bl_trans (bl_trans HB2.out HB3.out) hb4⟩
      · have d2 : decide (logs ≤ bv) = false := by simpa using hge
        have hn2 := hid (show byN D l logs = byD (fun d => mostE D l (d : Int)) logs (D - (k + 1)) (k + 1 + 1) by
          rw [HBY.out, show D - k = (D - (k + 1)) + 1 by omega]
          exact byD_step (by show ¬ logs ≤ mostE D l ((k + 1 : Nat) : Int); rw [HM.out]; exact hge))
        clear hge
        go_wp2
        go_roundw
        case rel => exact ⟨k + 1, by omega, rfl, hn2.out, heap_mono HX3.out hb4, bl_trans HB3.out hb4⟩
        case measure => simp [intOf]; omega
    · obtain rfl : k = D := by omega
      have dI : decide ((k : Int) + 1 ≤ (k : Int)) = false := by rw [decide_eq_false_iff_not]; omega
      have hres := hid (show byN k l logs = 0 by rw [HBY.out, Nat.sub_self]; rfl)
      have e3 := hid (show byErr k l logs = 20 by rw [e1.out, hres.out, if_pos rfl])
      have e4 := hid (show byE k l logs = 0 by rw [byE, e3.out]; rfl)
      go_wp2
      go_ret2
      exact ⟨by rw [e3.out, e4.out]; rfl, bl_trans HB2.out HB3.out⟩

end Go.Proofs.Ytbnmjbmlejifcaa
