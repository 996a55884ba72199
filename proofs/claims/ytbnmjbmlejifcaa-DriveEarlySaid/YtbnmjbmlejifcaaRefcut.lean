/- The reference's CheckCut: the walk. -/
import Derived.Test.YtbnmjbmlejifcaaRefl
import Derived.Test.YtbnmjbmlejifcaaCutb
set_option linter.all false
namespace Go.Proofs.Ytbnmjbmlejifcaa
open Go Go.RowKit Go.Proofs
attribute [local go_sem] cell_grow frozen_grow

theorem capN_bd {x : Rch} (hp : 0 ≤ x.pass ∧ x.pass ≤ 1001) (t : Nat) : 0 ≤ capN x t ∧ capN x t ≤ t * 1001 := by
  unfold capN
  refine ⟨sumN_nonneg fun d _ => ?_, sumN_bd fun d _ => ?_⟩
  · unfold capD; split <;> omega
  · unfold capD; split <;> omega
theorem within_bad {lo hi : Int} {l : List Int} {i : Nat} {x : Int} (hx : l[i]? = some x) (h : x < lo ∨ hi < x) : withinB lo hi l = false := by
  have h1 : l.any (badB lo hi) = true := List.any_eq_true.2 ⟨x, List.mem_of_getElem? hx, by simp [badB]; omega⟩
  unfold withinB
  rw [h1]; rfl
theorem within_of {lo hi : Int} {l : List Int} (h : ∀ (i : Nat) (x : Int), i < l.length → l[i]? = some x → lo ≤ x ∧ x ≤ hi) : withinB lo hi l = true := by
  have h1 : l.any (badB lo hi) = false := by
    rw [List.any_eq_false]
    intro x hx
    obtain ⟨i, hi⟩ := List.getElem?_of_mem hx
    have := h i x (List.getElem?_eq_some_iff.1 hi).1 hi
    simp only [badB, Bool.or_eq_true, decide_eq_true_eq]
    omega
  unfold withinB
  rw [h1]; rfl

set_option maxRecDepth 100000 in
set_option maxHeartbeats 16000000 in
theorem refCheckCut_any (days : Int) (l : List Rch) (sr : Value) (day : Int) (fl : List Int) (sf : Value) (w : World) (hs : Rchs w sr l) (hfl : fl.length ≤ 1000) (hf : Ints w sf fl) :
    Calls Try.prog 36 #[.agg #[.int .i64 days, sr], .int .i64 day, sf] w fun e w' => e = .returned (.tuple #[.int .i64 (ccVal days l day fl), .int .i64 (ccErr days l day fl)]) ∧ Below w.heap.size w w' := by
  obtain ⟨A, c, rfl⟩ := hs.slice
  obtain ⟨A2, c2, rfl⟩ := hf.slice
  have HX := hid (World.alloc_heap_new w (.cells #[.int .i64 days, .slice A l.length c] 24))
  have HB := hid (bl_alloc (bl_refl w) (.cells #[.int .i64 days, .slice A l.length c] 24))
  have HS := hid hs
  have HF := hid hf
  clear hs hf
  go_enter Try.func36, Try.ntmps36
  go_upto_region 1 with (fail)
  obtain ⟨R, hR⟩ : ∃ R, w.heap.size = R := ⟨_, rfl⟩
  obtain ⟨w0, hw0⟩ : ∃ w0, w.alloc (.cells #[.int .i64 days, .slice A l.length c] 24) = w0 := ⟨_, rfl⟩
  rw [hR] at HX ⊢
  rw [hw0] at HX HB ⊢
  clear hw0 hR
  have r0 : w0.cell? ⟨R, 0, none⟩ = some (.int .i64 days) := cell_of_heap HX.out
  have r1 : w0.cell? ⟨R, 1, none⟩ = some (.slice A l.length c) := cell_of_heap HX.out
  have l0 := (Array.getElem?_eq_some_iff.1 HX.out).1
  go_wp2_with fail
  refine (refAsked_any days l _ day _ (HS.out.mono HB.out)).mono ?_
  rintro e w1 ⟨rfl, hb1⟩
  have HX1 := hid (heap_mono HX.out hb1)
  have HB1 := hid (bl_trans HB.out hb1)
  clear HX HB hb1 r0 r1 l0
  have r0 : w1.cell? ⟨R, 0, none⟩ = some (.int .i64 days) := cell_of_heap HX1.out
  have r1 : w1.cell? ⟨R, 1, none⟩ = some (.slice A l.length c) := cell_of_heap HX1.out
  have l0 := (Array.getElem?_eq_some_iff.1 HX1.out).1
  by_cases h0 : askedE days l day = 0
  case neg =>
    have he : (askedE days l day != 0) = true := by simp [h0]
    have e1 := hid (show ccErr days l day fl = askedE days l day by rw [ccErr, if_pos h0])
    have e2 := hid (show ccVal days l day fl = 0 by rw [ccVal, e1.out, if_neg h0])
    clear h0
    go_wp2_with fail
    refine (refAsked_any days l _ day w1 (HS.out.mono HB1.out)).mono ?_
    rintro e w2 ⟨rfl, hb2⟩
    clear r0 r1 l0
    go_wp2
    go_ret2
    exact ⟨by rw [e1.out, e2.out]; rfl, bl_trans HB1.out hb2⟩
  have he : (askedE days l day != 0) = false := by simp [h0]
  have hn0 : ¬ (askedE days l day ≠ 0) := by simpa using h0
  have E1 := hid (show ccErr days l day fl = if fl.length ≠ l.length then 15 else if withinB 1 (day + 1) fl = false then 3 else 0 by rw [ccErr, if_neg hn0])
  obtain ⟨g0, g1, g2⟩ := asked_zero h0
  have F := fit_of g0
  have f1 := F.d1
  have f2 := F.d2
  have f3 := F.n1
  have f4 := F.n2
  obtain ⟨D, rfl⟩ : ∃ D : Nat, days = D := ⟨days.toNat, by omega⟩
  obtain ⟨day, rfl⟩ : ∃ t : Nat, day = t := ⟨day.toNat, by omega⟩
  have htD : day ≤ D := by omega
  have hdI : 1 ≤ (day : Int) := by omega
  have HFT := hid F
  clear h0 hn0 g0 g1 g2 F
  by_cases hlen : fl.length = l.length
  case neg =>
    have d1 : ((fl.length : Int) != (l.length : Int)) = true := by simp; omega
    have e1 := hid (show ccErr D l day fl = 15 by rw [E1.out, if_pos hlen])
    have e2 := hid (show ccVal D l day fl = 0 by rw [ccVal, e1.out]; rfl)
    clear hlen
    go_wp2
    go_ret2
    exact ⟨by rw [e1.out, e2.out]; rfl, HB1.out⟩
  have d1 : ((fl.length : Int) != (l.length : Int)) = false := by simp [hlen]
  have E2 := hid (show ccErr D l day fl = if withinB 1 ((day : Int) + 1) fl = false then 3 else 0 by rw [E1.out, if_neg (by simpa using hlen)])
  have HLEN := hid hlen
  clear hlen E1
  obtain ⟨b, off, c', e5, hlc, hb, hcell⟩ := HS.out.some f3
  simp only [Value.slice.injEq, true_and] at e5
  obtain ⟨rfl, rfl⟩ := e5
  obtain ⟨bf, offf, cf', e5, hlcf, hbf, hcellf⟩ := HF.out.some (by rw [HLEN.out]; omega)
  simp only [Value.slice.injEq, true_and] at e5
  obtain ⟨rfl, rfl⟩ := e5
  have HC := Lib.hid hcell
  have HFC := Lib.hid hcellf
  have hwd : IntKind.i64.wrap ((day : Int) + 1) = (day : Int) + 1 := IntWalk.i64_in _ (by omega)
  clear hcell hcellf
  go_wp2
  clear r0 r1 l0 d1
  go_loopw [8] (fun p wr => ∃ k : Nat, k ≤ fl.length ∧ p = .int .i64 k ∧ (∀ (i : Nat) (x : Int), i < k → fl[i]? = some x → 1 ≤ x ∧ x ≤ (day : Int) + 1) ∧ wr.heap[R]? = some (.cells #[.int .i64 (D : Int), .slice (some ⟨b, off, none⟩) l.length c] 24 (0, 0)) ∧ Below w.heap.size w wr) (fun p _ => fl.length - (intOf p).toNat)
  case atStart => exact ⟨0, Nat.zero_le _, rfl, fun i x h => by omega, HX1.out, HB1.out⟩
  case round =>
    obtain ⟨k, hk, rfl, hall, hR, hB⟩ := hrel
    clear HX1 HB1
    have HALL := Lib.hid hall
    have HX2 := hid hR
    have HB2 := hid hB
    clear hall hR hB
    by_cases hlt : k < fl.length
    · obtain ⟨y, hy⟩ := get_at hlt
      have hcy := cell_mono (HFC.out k y hy) HB2.out
      have hkI : (k : Int) < (fl.length : Int) := by omega
      have Hy := hid hy
      clear hy
      by_cases h1 : y < 1
      · have d1 : decide (y < 1) = true := by simpa using h1
        have e1 := hid (show ccErr D l day fl = 3 by rw [E2.out, if_pos (within_bad Hy.out (.inl h1))])
        have e2 := hid (show ccVal D l day fl = 0 by rw [ccVal, e1.out]; rfl)
        clear h1
        go_wp2
        go_ret2
        exact ⟨by rw [e1.out, e2.out]; rfl, HB2.out⟩
      · have d1 : decide (y < 1) = false := by simpa using h1
        by_cases h2 : (day : Int) + 1 < y
        · have d2 : decide ((day : Int) + 1 < y) = true := by simpa using h2
          have e1 := hid (show ccErr D l day fl = 3 by rw [E2.out, if_pos (within_bad Hy.out (.inr h2))])
          have e2 := hid (show ccVal D l day fl = 0 by rw [ccVal, e1.out]; rfl)
          clear h1 h2
          go_wp2
          go_ret2
          exact ⟨by rw [e1.out, e2.out]; rfl, HB2.out⟩
        · have d2 : decide ((day : Int) + 1 < y) = false := by simpa using h2
          have hn2 : Hid (∀ (i : Nat) (x : Int), i < k + 1 → fl[i]? = some x → 1 ≤ x ∧ x ≤ (day : Int) + 1) := by
            intro i x hi hx
            by_cases e : i = k
            · subst e; have h := Hy.out; rw [hx] at h; injection h with h; subst h; omega
            · exact HALL.out i x (by omega) hx
          clear h1 h2
          go_wp2
          go_roundw
          case rel => exact ⟨k + 1, by omega, by go_num, hn2.out, HX2.out, HB2.out⟩
          case measure => simp [intOf]; omega
    · obtain rfl : k = fl.length := by omega
      have HWI : Hid (withinB 1 ((day : Int) + 1) fl = true) := within_of HALL.out
      have E3 := hid (show ccErr D l day fl = 0 by rw [E2.out, if_neg (by simp [HWI.out])])
      clear E2 HALL
      have hbd : Hid (∀ k, k ≤ l.length → 0 ≤ sumN (cutAt (rivP l) (cutF fl) day) k ∧ sumN (cutAt (rivP l) (cutF fl) day) k ≤ k * 300000) := by
        intro k hk
        have hc : ∀ i, i < l.length → 0 ≤ cutAt (rivP l) (cutF fl) day i ∧ cutAt (rivP l) (cutF fl) day i ≤ 300000 := fun i hi => by
          obtain ⟨x, hx⟩ := get_at hi
          obtain ⟨y, hy⟩ := get_at (l := fl) (k := i) (by rw [HLEN.out]; exact hi)
          have hyb := within_all HWI.out hy
          have g3 := HFT.out.pass i x hx
          have g4 := HFT.out.takes i x hx
          have g6 := HFT.out.logs i x hx
          have hbe : before (rivP l) (cutF fl) day i ≤ 41 := by
            unfold before
            split
            · have : cutF fl (rivP l i).down.toNat ≤ 41 := by
                unfold cutF List.getD
                cases h : fl[(rivP l i).down.toNat]? with
                | none => simp
                | some z => have := within_all HWI.out h; simp; omega
              omega
            · omega
          rw [cutAt_is hx hy hyb.1 rfl]
          have ht := thr_bd g3 y.toNat (before (rivP l) (cutF fl) day i) (by omega) (by omega)
          split <;> omega
        exact ⟨sumN_nonneg fun i hi => (hc i (by omega)).1, sumN_bd fun i hi => (hc i (by omega)).2⟩
      go_wp2
      go_loopw [9, 10] (fun v p wr => ∃ k : Nat, k ≤ l.length ∧ p = .int .i64 k ∧ v = .int .i64 (sumN (cutAt (rivP l) (cutF fl) day) k) ∧ wr.heap[R]? = some (.cells #[.int .i64 (D : Int), .slice (some ⟨b, off, none⟩) l.length c] 24 (0, 0)) ∧ Below w.heap.size w wr) (fun _ p _ => l.length - (intOf p).toNat)
      case atStart => exact ⟨0, Nat.zero_le _, rfl, rfl, HX2.out, HB2.out⟩
      case round =>
        obtain ⟨k, hk, rfl, rfl, hR, hB⟩ := hrel
        clear HX2 HB2
        by_cases hlt : k < l.length
        · obtain ⟨x, hx⟩ := get_at hlt
          obtain ⟨y, hy⟩ := get_at (l := fl) (k := k) (by rw [HLEN.out]; exact hlt)
          have hyb := within_all HWI.out hy
          obtain ⟨q0, q1, q2, q3, q4, q5, q6, q7⟩ := (HC.out k x hx).mono hB
          have r1 : wr.cell? ⟨R, 1, none⟩ = some (.slice (some ⟨b, off, none⟩) l.length c) := cell_of_heap hR
          have rl := (Array.getElem?_eq_some_iff.1 hR).1
          have hkI : (k : Int) < (l.length : Int) := by omega
          have hkI2 : (k : Int) < (fl.length : Int) := by rw [HLEN.out]; omega
          have ba := bl_alloc (bl_refl wr) (.cells #[.int .i64 x.down, .int .i64 x.pass, .int .i64 x.takes, .int .i64 x.lo, .int .i64 x.hi, .int .i64 x.every, .int .i64 x.logs, .int .i64 x.ready] 59)
          have HB3 := hid (bl_trans hB ba)
          have HR3 := hid (heap_mono hR ba)
          have HX3 := hid (World.alloc_heap_new wr (.cells #[.int .i64 x.down, .int .i64 x.pass, .int .i64 x.takes, .int .i64 x.lo, .int .i64 x.hi, .int .i64 x.every, .int .i64 x.logs, .int .i64 x.ready] 59))
          have g1 := HFT.out.every k x hx
          have g2 := HFT.out.water k x hx
          have g3 := HFT.out.pass k x hx
          have g4 := HFT.out.takes k x hx
          have g6 := HFT.out.logs k x hx
          have g7 := HFT.out.down k x hx
          have hsb := hbd.out k hk
          have Hx := hid hx
          have Hy := hid hy
          clear hx hy hB ba hR
          go_upto_region 15 with (fail)
          obtain ⟨X, hX⟩ : ∃ X, wr.heap.size = X := ⟨_, rfl⟩
          obtain ⟨w3, hw3⟩ : ∃ w3, wr.alloc (.cells #[.int .i64 x.down, .int .i64 x.pass, .int .i64 x.takes, .int .i64 x.lo, .int .i64 x.hi, .int .i64 x.every, .int .i64 x.logs, .int .i64 x.ready] 59) = w3 := ⟨_, rfl⟩
          rw [hX] at HX3 ⊢
          rw [hw3] at HB3 HX3 HR3 ⊢
          clear hw3 hX q0 q1 q2 q3 q4 q5 q6 q7 r1 rl
          by_cases hrd : x.ready < y
          · have d3 : decide (x.ready < y) = true := by simpa using hrd
            have hif : Hid ((if x.ready < y then x.logs else 0) = x.logs) := by show (if x.ready < y then x.logs else 0) = x.logs; rw [if_pos hrd]
            have hcy := cell_mono (HFC.out k y Hy.out) HB3.out
            have hbf3 : bf < w3.heap.size := by have := HB3.out.size; omega
            have c7 : w3.cell? ⟨X, 7, none⟩ = some (.int .i64 x.ready) := cell_of_heap HX3.out
            have yl3 := (Array.getElem?_eq_some_iff.1 HX3.out).1
            refine wp_region_below (by kernel_rfl) (by kernel_rfl) ?_
            repeat (first | go_big_quiet_step (fail) | quiet_step (fail))
            refine wpQuiet_nil ?_
            intro w4 hb4
            have HB4 := hid (bl_trans HB3.out hb4)
            have HX4 := hid (heap_mono HX3.out hb4)
            have HR4 := hid (heap_mono HR3.out hb4)
            clear hcy hbf3 c7 yl3 HB3 HX3 HR3 hb4 hrd
            have c6 : w4.cell? ⟨X, 6, none⟩ = some (.int .i64 x.logs) := cell_of_heap HX4.out
            have yl4 := (Array.getElem?_eq_some_iff.1 HX4.out).1
            obtain ⟨sm, hsm⟩ : ∃ sm, sumN (cutAt (rivP l) (cutF fl) day) k = sm := ⟨_, rfl⟩
            have HSM := hid hsm
            rw [hsm] at hsb ⊢
            have hw1 : IntKind.i64.wrap (sm + x.logs) = sm + x.logs := IntWalk.i64_in _ (by omega)
            clear hsm
            go_upto_region 17 with (fail)
            clear c6 yl4
            have c0 : w4.cell? ⟨X, 0, none⟩ = some (.int .i64 x.down) := cell_of_heap HX4.out
            have yl := (Array.getElem?_eq_some_iff.1 HX4.out).1
            by_cases hdn : 0 ≤ x.down
            · have dd : decide (0 ≤ x.down) = true := by simpa using hdn
              obtain ⟨u, hu⟩ : ∃ u : Nat, x.down = u := ⟨x.down.toNat, by omega⟩
              obtain ⟨bv, hbv⟩ := get_at (l := fl) (k := u) (by rw [HLEN.out]; omega)
              have hbb := within_all HWI.out hbv
              have huc := cell_mono (HFC.out u bv hbv) HB4.out
              have huI : (u : Int) < (fl.length : Int) := by rw [HLEN.out]; omega
              have HBV : Hid (before (rivP l) (cutF fl) day k = bv) := by
                show before (rivP l) (cutF fl) day k = bv
                unfold before
                rw [riv_at Hx.out, if_pos hdn, hu]
                have e : cutF fl ((u : Int)).toNat = bv.toNat := by simp [cutF, List.getD, hbv]
                rw [e]; omega
              have hbfl : bf < w4.heap.size := by have := HB4.out.size; omega
              have HSUM : Hid (sumN (cutAt (rivP l) (cutF fl) day) (k + 1) = (sm + x.logs) + thr x y.toNat bv) := by
                show sumN _ (k + 1) = _
                rw [sumN_succ, cutAt_is Hx.out Hy.out hyb.1 HBV.out, HSM.out, hif.out]; omega
              clear hdn hbv
              rw [hu] at c0 dd
              clear hu
              go_upto_region 20 with (fail)
              clear c0 yl dd huc huI hbfl
              have HS0 : Hid ((sm + x.logs) = (sm + x.logs) + (capN x (y.toNat - 1) - capN x (y.toNat - 1))) := by show (_ : Int) = _; omega
              have HBD : Hid (0 ≤ (sm + x.logs) ∧ (sm + x.logs) ≤ 100000000) := by show (_ : Int) ≤ _ ∧ _; omega
              have hyN : ((y.toNat : Nat) : Int) = y := by omega
              have hcy := cell_mono (HFC.out k y Hy.out) HB4.out
              have hbf4 : bf < w4.heap.size := by have := HB4.out.size; omega
              go_wp2
              clear hcy hbf4
              go_loopw [9, 13] (fun v p wr => ∃ d : Nat, y.toNat ≤ d ∧ d ≤ 60 ∧ (d = y.toNat ∨ (d : Int) - 1 + x.takes < bv) ∧ p = .int .i64 (d : Int) ∧ v = .int .i64 ((sm + x.logs) + (capN x (d - 1) - capN x (y.toNat - 1))) ∧ wr.heap[R]? = some (.cells #[.int .i64 (D : Int), .slice (some ⟨b, off, none⟩) l.length c] 24 (0, 0)) ∧ wr.heap[X]? = some (.cells #[.int .i64 x.down, .int .i64 x.pass, .int .i64 x.takes, .int .i64 x.lo, .int .i64 x.hi, .int .i64 x.every, .int .i64 x.logs, .int .i64 x.ready] 59 (0, 0)) ∧ Below w.heap.size w wr) (fun _ p _ => 61 - (intOf p).toNat)
              case atStart => exact ⟨y.toNat, Nat.le_refl _, by omega, .inl rfl, by rw [hyN], by rw [← HS0.out], HR4.out, HX4.out, HB4.out⟩
              case round =>
                obtain ⟨d, hd1, hd2, hd3, rfl, rfl, hR, hX, hB⟩ := hrel
                clear HR4 HX4 HB4 HS0
                have HR5 := hid hR
                have HX5 := hid hX
                have HB5 := hid hB
                have c2 : wr.cell? ⟨X, 2, none⟩ = some (.int .i64 x.takes) := cell_of_heap HX5.out
                have yl5 := (Array.getElem?_eq_some_iff.1 HX5.out).1
                have hwt : IntKind.i64.wrap ((d : Int) + x.takes) = (d : Int) + x.takes := IntWalk.i64_in _ (by omega)
                clear hR hX hB
                by_cases hlt2 : (d : Int) + x.takes < bv
                · have dI : decide ((d : Int) + x.takes < bv) = true := by simpa using hlt2
                  have hop := isOpen_any x (d : Int) wr ⟨g2.1, by omega⟩ ⟨g1.1, by omega⟩ ⟨by omega, by omega⟩
                  unfold encR at hop
                  have hcap : Hid (capN x (d + 1 - 1) = capN x (d - 1) + if openB x (d : Int) = true then x.pass else 0) := by
                    show capN x (d + 1 - 1) = _
                    rw [show d + 1 - 1 = (d - 1) + 1 by omega]
                    unfold capN
                    rw [sumN_succ, show ((d - 1 : Nat) : Int) + 1 = (d : Int) by omega]
                    rfl
                  obtain ⟨y0, y1, y2, y3, y4, y5, y6, y7⟩ : RchAt wr X 0 x := ⟨cell_of_heap HX5.out, cell_of_heap HX5.out, cell_of_heap HX5.out, cell_of_heap HX5.out, cell_of_heap HX5.out, cell_of_heap HX5.out, cell_of_heap HX5.out, cell_of_heap HX5.out⟩
                  simp only [Nat.zero_add] at y1 y2 y3 y4 y5 y6 y7
                  have hcb1 := capN_bd g3 (d - 1)
                  have hcb2 := capN_bd g3 (y.toNat - 1)
                  have hsbd := HBD.out
                  have hwd : IntKind.i64.wrap ((d : Int) + 1) = ((d + 1 : Nat) : Int) := by rw [IntWalk.i64_in _ (by omega)]; omega
                  cases ho : openB x (d : Int)
                  · rw [ho] at hop
                    have hv2 := hid (show (sm + x.logs) + (capN x (d - 1) - capN x (y.toNat - 1)) = (sm + x.logs) + (capN x (d + 1 - 1) - capN x (y.toNat - 1)) by rw [hcap.out, ho]; simp)
                    clear ho
                    go_wp2_with fail
                    refine hop.mono ?_
                    rintro e w6 ⟨rfl, hb6⟩
                    clear hop y0 y1 y2 y3 y4 y5 y6 y7 c2 yl5
                    go_wp2
                    go_roundw
                    case rel => exact ⟨d + 1, by omega, by omega, .inr (by omega), rfl, by rw [hv2.out], heap_mono HR5.out hb6, heap_mono HX5.out hb6, bl_trans HB5.out hb6⟩
                    case measure => simp [intOf]; omega
                  · rw [ho] at hop
                    have hv2 := hid (show (sm + x.logs) + (capN x (d - 1) - capN x (y.toNat - 1)) + x.pass = (sm + x.logs) + (capN x (d + 1 - 1) - capN x (y.toNat - 1)) by rw [hcap.out, ho]; simp; omega)
                    have hwp : IntKind.i64.wrap ((sm + x.logs) + (capN x (d - 1) - capN x (y.toNat - 1)) + x.pass) = (sm + x.logs) + (capN x (d - 1) - capN x (y.toNat - 1)) + x.pass := IntWalk.i64_in _ (by omega)
                    clear ho
                    go_wp2_with fail
                    refine hop.mono ?_
                    rintro e w6 ⟨rfl, hb6⟩
                    have HX6 := hid (heap_mono HX5.out hb6)
                    clear hop y0 y1 y2 y3 y4 y5 y6 y7 c2 yl5
                    have c1 : w6.cell? ⟨X, 1, none⟩ = some (.int .i64 x.pass) := cell_of_heap HX6.out
                    have yl6 := (Array.getElem?_eq_some_iff.1 HX6.out).1
                    go_wp2
                    go_roundw
                    case rel => exact ⟨d + 1, by omega, by omega, .inr (by omega), rfl, by rw [hv2.out], heap_mono HR5.out hb6, HX6.out, bl_trans HB5.out hb6⟩
                    case measure => simp [intOf]; omega
                · have dI : decide ((d : Int) + x.takes < bv) = false := by simpa using hlt2
                  have hfin := hid (show (sm + x.logs) + (capN x (d - 1) - capN x (y.toNat - 1)) = sumN (cutAt (rivP l) (cutF fl) day) (k + 1) by
                    rw [HSUM.out]
                    unfold thr
                    rw [show max (y.toNat - 1) (bv - x.takes - 1).toNat = d - 1 by omega])
                  go_wp2
                  go_roundw
                  case rel => exact ⟨k + 1, by omega, by go_num, by rw [hfin.out], HR5.out, HB5.out⟩
                  case measure => simp [intOf]; omega
            · have dd : decide (0 ≤ x.down) = false := by simpa using hdn
              have HBV : Hid (before (rivP l) (cutF fl) day k = (day : Int) + 1) := by
                show before (rivP l) (cutF fl) day k = (day : Int) + 1
                unfold before
                rw [riv_at Hx.out, if_neg hdn]
              have HSUM : Hid (sumN (cutAt (rivP l) (cutF fl) day) (k + 1) = (sm + x.logs) + thr x y.toNat ((day : Int) + 1)) := by
                show sumN _ (k + 1) = _
                rw [sumN_succ, cutAt_is Hx.out Hy.out hyb.1 HBV.out, HSM.out, hif.out]; omega
              clear hdn
              go_upto_region 20 with (fail)
              clear c0 yl dd
              have HS0 : Hid ((sm + x.logs) = (sm + x.logs) + (capN x (y.toNat - 1) - capN x (y.toNat - 1))) := by show (_ : Int) = _; omega
              have HBD : Hid (0 ≤ (sm + x.logs) ∧ (sm + x.logs) ≤ 100000000) := by show (_ : Int) ≤ _ ∧ _; omega
              have hyN : ((y.toNat : Nat) : Int) = y := by omega
              have hcy := cell_mono (HFC.out k y Hy.out) HB4.out
              have hbf4 : bf < w4.heap.size := by have := HB4.out.size; omega
              go_wp2
              clear hcy hbf4
              go_loopw [9, 13] (fun v p wr => ∃ d : Nat, y.toNat ≤ d ∧ d ≤ 60 ∧ (d = y.toNat ∨ (d : Int) - 1 + x.takes < ((day : Int) + 1)) ∧ p = .int .i64 (d : Int) ∧ v = .int .i64 ((sm + x.logs) + (capN x (d - 1) - capN x (y.toNat - 1))) ∧ wr.heap[R]? = some (.cells #[.int .i64 (D : Int), .slice (some ⟨b, off, none⟩) l.length c] 24 (0, 0)) ∧ wr.heap[X]? = some (.cells #[.int .i64 x.down, .int .i64 x.pass, .int .i64 x.takes, .int .i64 x.lo, .int .i64 x.hi, .int .i64 x.every, .int .i64 x.logs, .int .i64 x.ready] 59 (0, 0)) ∧ Below w.heap.size w wr) (fun _ p _ => 61 - (intOf p).toNat)
              case atStart => exact ⟨y.toNat, Nat.le_refl _, by omega, .inl rfl, by rw [hyN], by rw [← HS0.out], HR4.out, HX4.out, HB4.out⟩
              case round =>
                obtain ⟨d, hd1, hd2, hd3, rfl, rfl, hR, hX, hB⟩ := hrel
                clear HR4 HX4 HB4 HS0
                have HR5 := hid hR
                have HX5 := hid hX
                have HB5 := hid hB
                have c2 : wr.cell? ⟨X, 2, none⟩ = some (.int .i64 x.takes) := cell_of_heap HX5.out
                have yl5 := (Array.getElem?_eq_some_iff.1 HX5.out).1
                have hwt : IntKind.i64.wrap ((d : Int) + x.takes) = (d : Int) + x.takes := IntWalk.i64_in _ (by omega)
                clear hR hX hB
                by_cases hlt2 : (d : Int) + x.takes < ((day : Int) + 1)
                · have dI : decide ((d : Int) + x.takes < ((day : Int) + 1)) = true := by simpa using hlt2
                  have hop := isOpen_any x (d : Int) wr ⟨g2.1, by omega⟩ ⟨g1.1, by omega⟩ ⟨by omega, by omega⟩
                  unfold encR at hop
                  have hcap : Hid (capN x (d + 1 - 1) = capN x (d - 1) + if openB x (d : Int) = true then x.pass else 0) := by
                    show capN x (d + 1 - 1) = _
                    rw [show d + 1 - 1 = (d - 1) + 1 by omega]
                    unfold capN
                    rw [sumN_succ, show ((d - 1 : Nat) : Int) + 1 = (d : Int) by omega]
                    rfl
                  obtain ⟨y0, y1, y2, y3, y4, y5, y6, y7⟩ : RchAt wr X 0 x := ⟨cell_of_heap HX5.out, cell_of_heap HX5.out, cell_of_heap HX5.out, cell_of_heap HX5.out, cell_of_heap HX5.out, cell_of_heap HX5.out, cell_of_heap HX5.out, cell_of_heap HX5.out⟩
                  simp only [Nat.zero_add] at y1 y2 y3 y4 y5 y6 y7
                  have hcb1 := capN_bd g3 (d - 1)
                  have hcb2 := capN_bd g3 (y.toNat - 1)
                  have hsbd := HBD.out
                  have hwd : IntKind.i64.wrap ((d : Int) + 1) = ((d + 1 : Nat) : Int) := by rw [IntWalk.i64_in _ (by omega)]; omega
                  cases ho : openB x (d : Int)
                  · rw [ho] at hop
                    have hv2 := hid (show (sm + x.logs) + (capN x (d - 1) - capN x (y.toNat - 1)) = (sm + x.logs) + (capN x (d + 1 - 1) - capN x (y.toNat - 1)) by rw [hcap.out, ho]; simp)
                    clear ho
                    go_wp2_with fail
                    refine hop.mono ?_
                    rintro e w6 ⟨rfl, hb6⟩
                    clear hop y0 y1 y2 y3 y4 y5 y6 y7 c2 yl5
                    go_wp2
                    go_roundw
                    case rel => exact ⟨d + 1, by omega, by omega, .inr (by omega), rfl, by rw [hv2.out], heap_mono HR5.out hb6, heap_mono HX5.out hb6, bl_trans HB5.out hb6⟩
                    case measure => simp [intOf]; omega
                  · rw [ho] at hop
                    have hv2 := hid (show (sm + x.logs) + (capN x (d - 1) - capN x (y.toNat - 1)) + x.pass = (sm + x.logs) + (capN x (d + 1 - 1) - capN x (y.toNat - 1)) by rw [hcap.out, ho]; simp; omega)
                    have hwp : IntKind.i64.wrap ((sm + x.logs) + (capN x (d - 1) - capN x (y.toNat - 1)) + x.pass) = (sm + x.logs) + (capN x (d - 1) - capN x (y.toNat - 1)) + x.pass := IntWalk.i64_in _ (by omega)
                    clear ho
                    go_wp2_with fail
                    refine hop.mono ?_
                    rintro e w6 ⟨rfl, hb6⟩
                    have HX6 := hid (heap_mono HX5.out hb6)
                    clear hop y0 y1 y2 y3 y4 y5 y6 y7 c2 yl5
                    have c1 : w6.cell? ⟨X, 1, none⟩ = some (.int .i64 x.pass) := cell_of_heap HX6.out
                    have yl6 := (Array.getElem?_eq_some_iff.1 HX6.out).1
                    go_wp2
                    go_roundw
                    case rel => exact ⟨d + 1, by omega, by omega, .inr (by omega), rfl, by rw [hv2.out], heap_mono HR5.out hb6, HX6.out, bl_trans HB5.out hb6⟩
                    case measure => simp [intOf]; omega
                · have dI : decide ((d : Int) + x.takes < ((day : Int) + 1)) = false := by simpa using hlt2
                  have hfin := hid (show (sm + x.logs) + (capN x (d - 1) - capN x (y.toNat - 1)) = sumN (cutAt (rivP l) (cutF fl) day) (k + 1) by
                    rw [HSUM.out]
                    unfold thr
                    rw [show max (y.toNat - 1) (((day : Int) + 1) - x.takes - 1).toNat = d - 1 by omega])
                  go_wp2
                  go_roundw
                  case rel => exact ⟨k + 1, by omega, by go_num, by rw [hfin.out], HR5.out, HB5.out⟩
                  case measure => simp [intOf]; omega
          · have d3 : decide (x.ready < y) = false := by simpa using hrd
            have hif : Hid ((if x.ready < y then x.logs else 0) = 0) := by show (if x.ready < y then x.logs else 0) = 0; rw [if_neg hrd]
            have hcy := cell_mono (HFC.out k y Hy.out) HB3.out
            have hbf3 : bf < w3.heap.size := by have := HB3.out.size; omega
            have c7 : w3.cell? ⟨X, 7, none⟩ = some (.int .i64 x.ready) := cell_of_heap HX3.out
            have yl3 := (Array.getElem?_eq_some_iff.1 HX3.out).1
            refine wp_region_below (by kernel_rfl) (by kernel_rfl) ?_
            repeat (first | go_big_quiet_step (fail) | quiet_step (fail))
            refine wpQuiet_nil ?_
            intro w4 hb4
            have HB4 := hid (bl_trans HB3.out hb4)
            have HX4 := hid (heap_mono HX3.out hb4)
            have HR4 := hid (heap_mono HR3.out hb4)
            clear hcy hbf3 c7 yl3 HB3 HX3 HR3 hb4 hrd
            obtain ⟨sm, hsm⟩ : ∃ sm, sumN (cutAt (rivP l) (cutF fl) day) k = sm := ⟨_, rfl⟩
            have HSM := hid hsm
            rw [hsm] at hsb ⊢
            clear hsm
            go_upto_region 17 with (fail)
            have c0 : w4.cell? ⟨X, 0, none⟩ = some (.int .i64 x.down) := cell_of_heap HX4.out
            have yl := (Array.getElem?_eq_some_iff.1 HX4.out).1
            by_cases hdn : 0 ≤ x.down
            · have dd : decide (0 ≤ x.down) = true := by simpa using hdn
              obtain ⟨u, hu⟩ : ∃ u : Nat, x.down = u := ⟨x.down.toNat, by omega⟩
              obtain ⟨bv, hbv⟩ := get_at (l := fl) (k := u) (by rw [HLEN.out]; omega)
              have hbb := within_all HWI.out hbv
              have huc := cell_mono (HFC.out u bv hbv) HB4.out
              have huI : (u : Int) < (fl.length : Int) := by rw [HLEN.out]; omega
              have HBV : Hid (before (rivP l) (cutF fl) day k = bv) := by
                show before (rivP l) (cutF fl) day k = bv
                unfold before
                rw [riv_at Hx.out, if_pos hdn, hu]
                have e : cutF fl ((u : Int)).toNat = bv.toNat := by simp [cutF, List.getD, hbv]
                rw [e]; omega
              have hbfl : bf < w4.heap.size := by have := HB4.out.size; omega
              have HSUM : Hid (sumN (cutAt (rivP l) (cutF fl) day) (k + 1) = sm + thr x y.toNat bv) := by
                show sumN _ (k + 1) = _
                rw [sumN_succ, cutAt_is Hx.out Hy.out hyb.1 HBV.out, HSM.out, hif.out]; omega
              clear hdn hbv
              rw [hu] at c0 dd
              clear hu
              go_upto_region 20 with (fail)
              clear c0 yl dd huc huI hbfl
              have HS0 : Hid (sm = sm + (capN x (y.toNat - 1) - capN x (y.toNat - 1))) := by show (_ : Int) = _; omega
              have HBD : Hid (0 ≤ sm ∧ sm ≤ 100000000) := by show (_ : Int) ≤ _ ∧ _; omega
              have hyN : ((y.toNat : Nat) : Int) = y := by omega
              have hcy := cell_mono (HFC.out k y Hy.out) HB4.out
              have hbf4 : bf < w4.heap.size := by have := HB4.out.size; omega
              go_wp2
              clear hcy hbf4
              go_loopw [9, 13] (fun v p wr => ∃ d : Nat, y.toNat ≤ d ∧ d ≤ 60 ∧ (d = y.toNat ∨ (d : Int) - 1 + x.takes < bv) ∧ p = .int .i64 (d : Int) ∧ v = .int .i64 (sm + (capN x (d - 1) - capN x (y.toNat - 1))) ∧ wr.heap[R]? = some (.cells #[.int .i64 (D : Int), .slice (some ⟨b, off, none⟩) l.length c] 24 (0, 0)) ∧ wr.heap[X]? = some (.cells #[.int .i64 x.down, .int .i64 x.pass, .int .i64 x.takes, .int .i64 x.lo, .int .i64 x.hi, .int .i64 x.every, .int .i64 x.logs, .int .i64 x.ready] 59 (0, 0)) ∧ Below w.heap.size w wr) (fun _ p _ => 61 - (intOf p).toNat)
              case atStart => exact ⟨y.toNat, Nat.le_refl _, by omega, .inl rfl, by rw [hyN], by rw [← HS0.out], HR4.out, HX4.out, HB4.out⟩
              case round =>
                obtain ⟨d, hd1, hd2, hd3, rfl, rfl, hR, hX, hB⟩ := hrel
                clear HR4 HX4 HB4 HS0
                have HR5 := hid hR
                have HX5 := hid hX
                have HB5 := hid hB
                have c2 : wr.cell? ⟨X, 2, none⟩ = some (.int .i64 x.takes) := cell_of_heap HX5.out
                have yl5 := (Array.getElem?_eq_some_iff.1 HX5.out).1
                have hwt : IntKind.i64.wrap ((d : Int) + x.takes) = (d : Int) + x.takes := IntWalk.i64_in _ (by omega)
                clear hR hX hB
                by_cases hlt2 : (d : Int) + x.takes < bv
                · have dI : decide ((d : Int) + x.takes < bv) = true := by simpa using hlt2
                  have hop := isOpen_any x (d : Int) wr ⟨g2.1, by omega⟩ ⟨g1.1, by omega⟩ ⟨by omega, by omega⟩
                  unfold encR at hop
                  have hcap : Hid (capN x (d + 1 - 1) = capN x (d - 1) + if openB x (d : Int) = true then x.pass else 0) := by
                    show capN x (d + 1 - 1) = _
                    rw [show d + 1 - 1 = (d - 1) + 1 by omega]
                    unfold capN
                    rw [sumN_succ, show ((d - 1 : Nat) : Int) + 1 = (d : Int) by omega]
                    rfl
                  obtain ⟨y0, y1, y2, y3, y4, y5, y6, y7⟩ : RchAt wr X 0 x := ⟨cell_of_heap HX5.out, cell_of_heap HX5.out, cell_of_heap HX5.out, cell_of_heap HX5.out, cell_of_heap HX5.out, cell_of_heap HX5.out, cell_of_heap HX5.out, cell_of_heap HX5.out⟩
                  simp only [Nat.zero_add] at y1 y2 y3 y4 y5 y6 y7
                  have hcb1 := capN_bd g3 (d - 1)
                  have hcb2 := capN_bd g3 (y.toNat - 1)
                  have hsbd := HBD.out
                  have hwd : IntKind.i64.wrap ((d : Int) + 1) = ((d + 1 : Nat) : Int) := by rw [IntWalk.i64_in _ (by omega)]; omega
                  cases ho : openB x (d : Int)
                  · rw [ho] at hop
                    have hv2 := hid (show sm + (capN x (d - 1) - capN x (y.toNat - 1)) = sm + (capN x (d + 1 - 1) - capN x (y.toNat - 1)) by rw [hcap.out, ho]; simp)
                    clear ho
                    go_wp2_with fail
                    refine hop.mono ?_
                    rintro e w6 ⟨rfl, hb6⟩
                    clear hop y0 y1 y2 y3 y4 y5 y6 y7 c2 yl5
                    go_wp2
                    go_roundw
                    case rel => exact ⟨d + 1, by omega, by omega, .inr (by omega), rfl, by rw [hv2.out], heap_mono HR5.out hb6, heap_mono HX5.out hb6, bl_trans HB5.out hb6⟩
                    case measure => simp [intOf]; omega
                  · rw [ho] at hop
                    have hv2 := hid (show sm + (capN x (d - 1) - capN x (y.toNat - 1)) + x.pass = sm + (capN x (d + 1 - 1) - capN x (y.toNat - 1)) by rw [hcap.out, ho]; simp; omega)
                    have hwp : IntKind.i64.wrap (sm + (capN x (d - 1) - capN x (y.toNat - 1)) + x.pass) = sm + (capN x (d - 1) - capN x (y.toNat - 1)) + x.pass := IntWalk.i64_in _ (by omega)
                    clear ho
                    go_wp2_with fail
                    refine hop.mono ?_
                    rintro e w6 ⟨rfl, hb6⟩
                    have HX6 := hid (heap_mono HX5.out hb6)
                    clear hop y0 y1 y2 y3 y4 y5 y6 y7 c2 yl5
                    have c1 : w6.cell? ⟨X, 1, none⟩ = some (.int .i64 x.pass) := cell_of_heap HX6.out
                    have yl6 := (Array.getElem?_eq_some_iff.1 HX6.out).1
                    go_wp2
                    go_roundw
                    case rel => exact ⟨d + 1, by omega, by omega, .inr (by omega), rfl, by rw [hv2.out], heap_mono HR5.out hb6, HX6.out, bl_trans HB5.out hb6⟩
                    case measure => simp [intOf]; omega
                · have dI : decide ((d : Int) + x.takes < bv) = false := by simpa using hlt2
                  have hfin := hid (show sm + (capN x (d - 1) - capN x (y.toNat - 1)) = sumN (cutAt (rivP l) (cutF fl) day) (k + 1) by
                    rw [HSUM.out]
                    unfold thr
                    rw [show max (y.toNat - 1) (bv - x.takes - 1).toNat = d - 1 by omega])
                  go_wp2
                  go_roundw
                  case rel => exact ⟨k + 1, by omega, by go_num, by rw [hfin.out], HR5.out, HB5.out⟩
                  case measure => simp [intOf]; omega
            · have dd : decide (0 ≤ x.down) = false := by simpa using hdn
              have HBV : Hid (before (rivP l) (cutF fl) day k = (day : Int) + 1) := by
                show before (rivP l) (cutF fl) day k = (day : Int) + 1
                unfold before
                rw [riv_at Hx.out, if_neg hdn]
              have HSUM : Hid (sumN (cutAt (rivP l) (cutF fl) day) (k + 1) = sm + thr x y.toNat ((day : Int) + 1)) := by
                show sumN _ (k + 1) = _
                rw [sumN_succ, cutAt_is Hx.out Hy.out hyb.1 HBV.out, HSM.out, hif.out]; omega
              clear hdn
              go_upto_region 20 with (fail)
              clear c0 yl dd
              have HS0 : Hid (sm = sm + (capN x (y.toNat - 1) - capN x (y.toNat - 1))) := by show (_ : Int) = _; omega
              have HBD : Hid (0 ≤ sm ∧ sm ≤ 100000000) := by show (_ : Int) ≤ _ ∧ _; omega
              have hyN : ((y.toNat : Nat) : Int) = y := by omega
              have hcy := cell_mono (HFC.out k y Hy.out) HB4.out
              have hbf4 : bf < w4.heap.size := by have := HB4.out.size; omega
              go_wp2
              clear hcy hbf4
              go_loopw [9, 13] (fun v p wr => ∃ d : Nat, y.toNat ≤ d ∧ d ≤ 60 ∧ (d = y.toNat ∨ (d : Int) - 1 + x.takes < ((day : Int) + 1)) ∧ p = .int .i64 (d : Int) ∧ v = .int .i64 (sm + (capN x (d - 1) - capN x (y.toNat - 1))) ∧ wr.heap[R]? = some (.cells #[.int .i64 (D : Int), .slice (some ⟨b, off, none⟩) l.length c] 24 (0, 0)) ∧ wr.heap[X]? = some (.cells #[.int .i64 x.down, .int .i64 x.pass, .int .i64 x.takes, .int .i64 x.lo, .int .i64 x.hi, .int .i64 x.every, .int .i64 x.logs, .int .i64 x.ready] 59 (0, 0)) ∧ Below w.heap.size w wr) (fun _ p _ => 61 - (intOf p).toNat)
              case atStart => exact ⟨y.toNat, Nat.le_refl _, by omega, .inl rfl, by rw [hyN], by rw [← HS0.out], HR4.out, HX4.out, HB4.out⟩
              case round =>
                obtain ⟨d, hd1, hd2, hd3, rfl, rfl, hR, hX, hB⟩ := hrel
                clear HR4 HX4 HB4 HS0
                have HR5 := hid hR
                have HX5 := hid hX
                have HB5 := hid hB
                have c2 : wr.cell? ⟨X, 2, none⟩ = some (.int .i64 x.takes) := cell_of_heap HX5.out
                have yl5 := (Array.getElem?_eq_some_iff.1 HX5.out).1
                have hwt : IntKind.i64.wrap ((d : Int) + x.takes) = (d : Int) + x.takes := IntWalk.i64_in _ (by omega)
                clear hR hX hB
                by_cases hlt2 : (d : Int) + x.takes < ((day : Int) + 1)
                · have dI : decide ((d : Int) + x.takes < ((day : Int) + 1)) = true := by simpa using hlt2
                  have hop := isOpen_any x (d : Int) wr ⟨g2.1, by omega⟩ ⟨g1.1, by omega⟩ ⟨by omega, by omega⟩
                  unfold encR at hop
                  have hcap : Hid (capN x (d + 1 - 1) = capN x (d - 1) + if openB x (d : Int) = true then x.pass else 0) := by
                    show capN x (d + 1 - 1) = _
                    rw [show d + 1 - 1 = (d - 1) + 1 by omega]
                    unfold capN
                    rw [sumN_succ, show ((d - 1 : Nat) : Int) + 1 = (d : Int) by omega]
                    rfl
                  obtain ⟨y0, y1, y2, y3, y4, y5, y6, y7⟩ : RchAt wr X 0 x := ⟨cell_of_heap HX5.out, cell_of_heap HX5.out, cell_of_heap HX5.out, cell_of_heap HX5.out, cell_of_heap HX5.out, cell_of_heap HX5.out, cell_of_heap HX5.out, cell_of_heap HX5.out⟩
                  simp only [Nat.zero_add] at y1 y2 y3 y4 y5 y6 y7
                  have hcb1 := capN_bd g3 (d - 1)
                  have hcb2 := capN_bd g3 (y.toNat - 1)
                  have hsbd := HBD.out
                  have hwd : IntKind.i64.wrap ((d : Int) + 1) = ((d + 1 : Nat) : Int) := by rw [IntWalk.i64_in _ (by omega)]; omega
                  cases ho : openB x (d : Int)
                  · rw [ho] at hop
                    have hv2 := hid (show sm + (capN x (d - 1) - capN x (y.toNat - 1)) = sm + (capN x (d + 1 - 1) - capN x (y.toNat - 1)) by rw [hcap.out, ho]; simp)
                    clear ho
                    go_wp2_with fail
                    refine hop.mono ?_
                    rintro e w6 ⟨rfl, hb6⟩
                    clear hop y0 y1 y2 y3 y4 y5 y6 y7 c2 yl5
                    go_wp2
                    go_roundw
                    case rel => exact ⟨d + 1, by omega, by omega, .inr (by omega), rfl, by rw [hv2.out], heap_mono HR5.out hb6, heap_mono HX5.out hb6, bl_trans HB5.out hb6⟩
                    case measure => simp [intOf]; omega
                  · rw [ho] at hop
                    have hv2 := hid (show sm + (capN x (d - 1) - capN x (y.toNat - 1)) + x.pass = sm + (capN x (d + 1 - 1) - capN x (y.toNat - 1)) by rw [hcap.out, ho]; simp; omega)
                    have hwp : IntKind.i64.wrap (sm + (capN x (d - 1) - capN x (y.toNat - 1)) + x.pass) = sm + (capN x (d - 1) - capN x (y.toNat - 1)) + x.pass := IntWalk.i64_in _ (by omega)
                    clear ho
                    go_wp2_with fail
                    refine hop.mono ?_
                    rintro e w6 ⟨rfl, hb6⟩
                    have HX6 := hid (heap_mono HX5.out hb6)
                    clear hop y0 y1 y2 y3 y4 y5 y6 y7 c2 yl5
                    have c1 : w6.cell? ⟨X, 1, none⟩ = some (.int .i64 x.pass) := cell_of_heap HX6.out
                    have yl6 := (Array.getElem?_eq_some_iff.1 HX6.out).1
                    go_wp2
                    go_roundw
                    case rel => exact ⟨d + 1, by omega, by omega, .inr (by omega), rfl, by rw [hv2.out], heap_mono HR5.out hb6, HX6.out, bl_trans HB5.out hb6⟩
                    case measure => simp [intOf]; omega
                · have dI : decide ((d : Int) + x.takes < ((day : Int) + 1)) = false := by simpa using hlt2
                  have hfin := hid (show sm + (capN x (d - 1) - capN x (y.toNat - 1)) = sumN (cutAt (rivP l) (cutF fl) day) (k + 1) by
                    rw [HSUM.out]
                    unfold thr
                    rw [show max (y.toNat - 1) (((day : Int) + 1) - x.takes - 1).toNat = d - 1 by omega])
                  go_wp2
                  go_roundw
                  case rel => exact ⟨k + 1, by omega, by go_num, by rw [hfin.out], HR5.out, HB5.out⟩
                  case measure => simp [intOf]; omega
        · obtain rfl : k = fl.length := by rw [HLEN.out]; omega
          have e2 := hid (show ccVal D l day fl = sumN (cutAt (rivP l) (cutF fl) day) fl.length by rw [ccVal, E3.out, if_pos rfl, Int.toNat_natCast, HLEN.out]; rfl)
          clear hlt
          go_wp2
          go_ret2
          exact ⟨by rw [E3.out, e2.out]; rfl, hB⟩

end Go.Proofs.Ytbnmjbmlejifcaa
