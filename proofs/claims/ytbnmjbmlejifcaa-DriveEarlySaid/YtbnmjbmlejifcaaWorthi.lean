/- Worth and Latest: the walks. -/
import Derived.Test.YtbnmjbmlejifcaaWorth
set_option linter.all false
namespace Go.Proofs.Ytbnmjbmlejifcaa
open Go Go.RowKit Go.Proofs
attribute [local go_sem] cell_grow frozen_grow

set_option maxRecDepth 100000 in
set_option maxHeartbeats 8000000 in
theorem worth_any (days : Int) (l : List Rch) (sr : Value) (day reach : Int) (w : World) (hl : l.length ≤ 1000) (hs : Rchs w sr l) :
    Calls Try.prog 40 #[.agg #[.int .i64 days, sr], .int .i64 day, .int .i64 reach] w fun e w' => e = .returned (.tuple #[.int .i64 (worthE days l day reach), .int .i64 (reachedE days l day reach)]) ∧ Below w.heap.size w w' := by
  obtain ⟨A, c, rfl⟩ := hs.slice
  have HX0 := hid (World.alloc_heap_new w (.cells #[.int .i64 days, .slice A l.length c] 24))
  have HB := hid (bl_alloc (bl_refl w) (.cells #[.int .i64 days, .slice A l.length c] 24))
  have HS := hid hs
  clear hs
  go_enter Try.func40, Try.ntmps40
  go_upto_region 1 with (fail)
  obtain ⟨R, hR⟩ : ∃ R, w.heap.size = R := ⟨_, rfl⟩
  obtain ⟨w0, hw0⟩ : ∃ w0, w.alloc (.cells #[.int .i64 days, .slice A l.length c] 24) = w0 := ⟨_, rfl⟩
  rw [hR] at HX0 ⊢
  rw [hw0] at HX0 HB ⊢
  clear hw0 hR
  have r0 : w0.cell? ⟨R, 0, none⟩ = some (.int .i64 days) := cell_of_heap HX0.out
  have r1 : w0.cell? ⟨R, 1, none⟩ = some (.slice A l.length c) := cell_of_heap HX0.out
  have l0 := (Array.getElem?_eq_some_iff.1 HX0.out).1
  go_wp2_with fail
  refine (reached_any days l _ day reach _ hl (HS.out.mono HB.out)).mono ?_
  rintro e w1 ⟨rfl, hb1⟩
  have HX := hid (heap_mono HX0.out hb1)
  have HB1 := hid (bl_trans HB.out hb1)
  clear HX0 HB hb1 r0 r1 l0
  by_cases h0 : reachedE days l day reach = 0
  case neg =>
    have he : (reachedE days l day reach != 0) = true := by simp [h0]
    have e2 := hid (show worthE days l day reach = 0 by rw [worthE, if_neg h0])
    clear h0
    go_wp2
    go_ret2
    exact ⟨by rw [e2.out]; rfl, HB1.out⟩
  have he : (reachedE days l day reach != 0) = false := by simp [h0]
  obtain ⟨ha, hr1, hr2⟩ := reached_zero h0
  obtain ⟨g0, g1, g2⟩ := asked_zero ha
  obtain ⟨D, rfl⟩ : ∃ D : Nat, days = D := ⟨days.toNat, by omega⟩
  obtain ⟨t, rfl⟩ : ∃ t : Nat, day = t := ⟨day.toNat, by omega⟩
  obtain ⟨i, rfl⟩ : ∃ i : Nat, reach = i := ⟨reach.toNat, by omega⟩
  have htD : t ≤ D := by omega
  have ht1 : 1 ≤ t := by omega
  have hil : i < l.length := by omega
  have HF := hid (fit_of g0)
  have HFW := hid (fit_wider g0 hil)
  have f2 := HF.out.d2
  have f3 := HF.out.n1
  have f4 := HF.out.n2
  obtain ⟨b, off, c', e5, hlc, hb, hcell⟩ := HS.out.some f3
  simp only [Value.slice.injEq, true_and] at e5
  obtain ⟨rfl, rfl⟩ := e5
  have HR1 := hid (HS.out.mono HB1.out)
  have HPX : Hid (∀ x, l[i]? = some x → 0 ≤ x.pass ∧ x.pass ≤ 100000) := fun x hx => by have := HF.out.pass i x hx; omega
  have hm1 := most_nonneg HF.out htD
  have hm2 := most_nonneg HFW.out htD
  have E2 : Hid (worthE (D : Int) l (t : Int) (i : Int) = mostE D (widerL l i) (t : Int) - mostE D l (t : Int)) := by
    show worthE (D : Int) l (t : Int) (i : Int) = _
    rw [worthE, if_pos h0]
    simp only [Int.toNat_natCast]
  have H0 := hid h0
  clear h0 ha g0 g1 g2 hr1 hr2 hcell
  obtain ⟨x, hx⟩ := get_at hil
  have hpx := HPX.out x hx
  have HWL : Hid (l.set i { x with pass := x.pass + 1 } = widerL l i) := by show l.set i _ = widerL l i; unfold widerL; rw [riv_at hx]
  have hcall := with_wide (D : Int) l _ i x hpx w1 f3 (by omega) HR1.out hx
  have s0 : w1.cell? ⟨R, 0, none⟩ = some (.int .i64 (D : Int)) := cell_of_heap HX.out
  have s1 : w1.cell? ⟨R, 1, none⟩ = some (.slice (some ⟨b, off, none⟩) l.length c) := cell_of_heap HX.out
  have sl := (Array.getElem?_eq_some_iff.1 HX.out).1
  clear hx hpx
  go_wp2_with fail
  refine hcall.mono ?_
  rintro e w2 ⟨⟨s, rfl, hs⟩, hb2⟩
  have hs' : Rchs w2 s (widerL l i) := by rw [← HWL.out]; exact hs
  obtain ⟨A2, c2, rfl⟩ := hs'.slice
  have ba := bl_alloc (bl_refl w2) (.cells #[.int .i64 (D : Int), .slice A2 (widerL l i).length c2] 24)
  have HX3 := hid (heap_mono (heap_mono HX.out hb2) ba)
  have HB3 := hid (bl_trans (bl_trans HB1.out hb2) ba)
  have HQ3 := hid (World.alloc_heap_new w2 (.cells #[.int .i64 (D : Int), .slice A2 (widerL l i).length c2] 24))
  have HRW := hid (hs'.mono ba)
  have HR3 := hid (HS.out.mono HB3.out)
  clear hcall s0 s1 sl hs hs' hb2 ba HX HB1 HR1
  go_upto_region 5 with (fail)
  obtain ⟨Q, hQ⟩ : ∃ Q, w2.heap.size = Q := ⟨_, rfl⟩
  obtain ⟨w3, hw3⟩ : ∃ w3, w2.alloc (.cells #[.int .i64 (D : Int), .slice A2 (widerL l i).length c2] 24) = w3 := ⟨_, rfl⟩
  rw [hQ] at HQ3 ⊢
  rw [hw3] at HX3 HB3 HQ3 HRW HR3 ⊢
  clear hQ hw3
  have hwr : IntKind.i64.wrap (mostE D (widerL l i) (t : Int) - mostE D l (t : Int)) = mostE D (widerL l i) (t : Int) - mostE D l (t : Int) := IntWalk.i64_in _ (by omega)
  have htI : (t : Int) < (D : Int) + 1 := by omega
  refine wp_region_vals [20, 21, 22, 23, 24, 25, 26, 27, 28, 29, 30, 31, 32, 33, 34, 35, 36, 6, 7] (fun seen u W => (seen 0 = true → u 20 = .agg #[.int .i64 (D : Int), .slice A2 (widerL l i).length c2]) ∧
    (seen 1 = true → YearV D (widerL l i) W (u 21)) ∧
    (seen 2 = true → YearV D (widerL l i) W (u 22)) ∧
    (seen 3 = true → BoomP D (widerL l i) W (u 23)) ∧
    (seen 4 = true → BoomS D (widerL l i) W (u 24)) ∧
    (seen 5 = true → u 25 = .int .i64 (t : Int)) ∧
    (seen 6 = true → BoomC D (widerL l i) t W (u 26)) ∧
    (seen 7 = true → u 27 = .int .i64 (mostE D (widerL l i) (t : Int))) ∧
    (seen 8 = true → u 28 = .agg #[.int .i64 (D : Int), .slice (some ⟨b, off, none⟩) l.length c]) ∧
    (seen 9 = true → YearV D l W (u 29)) ∧
    (seen 10 = true → YearV D l W (u 30)) ∧
    (seen 11 = true → BoomP D l W (u 31)) ∧
    (seen 12 = true → BoomS D l W (u 32)) ∧
    (seen 13 = true → u 33 = .int .i64 (t : Int)) ∧
    (seen 14 = true → BoomC D l t W (u 34)) ∧
    (seen 15 = true → u 35 = .int .i64 (mostE D l (t : Int))) ∧
    (seen 16 = true → u 36 = .int .i64 (mostE D (widerL l i) (t : Int) - mostE D l (t : Int))) ∧
    (seen 17 = true → u 6 = .int .i64 (mostE D (widerL l i) (t : Int) - mostE D l (t : Int))) ∧
    (seen 18 = true → u 7 = .int .i64 0))
    (by kernel_rfl) (by kernel_rfl) (by kernel_rfl) (by simp) (by simp) ?_ ?_
  · intro i o ho seen a' w9 hb9 ⟨F0, F1, F2, F3, F4, F5, F6, F7, F8, F9, F10, F11, F12, F13, F14, F15, F16, F17, F18⟩ hv hsi hdep
    have hbx := heap_mono HX3.out hb9
    have c0 : w9.cell? ⟨R, 0, none⟩ = some (.int .i64 (D : Int)) := cell_of_heap hbx
    have c1 : w9.cell? ⟨R, 1, none⟩ = some (.slice (some ⟨b, off, none⟩) l.length c) := cell_of_heap hbx
    have hXl := (Array.getElem?_eq_some_iff.1 hbx).1
    have hby := heap_mono HQ3.out hb9
    have k0 : w9.cell? ⟨Q, 0, none⟩ = some (.int .i64 (D : Int)) := cell_of_heap hby
    have k1 := (cell_of_heap (i := 1) hby).trans (show _ = some _ from rfl)
    have hQl := (Array.getElem?_eq_some_iff.1 hby).1
    rcases i with _ | _ | _ | _ | _ | _ | _ | _ | _ | _ | _ | _ | _ | _ | _ | _ | _ | _ | _ | i <;> simp only [List.getElem?_cons_zero, List.getElem?_cons_succ, List.getElem?_nil, Option.some.injEq, reduceCtorEq] at ho <;> subst ho
    · have x9 := val_at (hv 9 (by simp))
      simp [valsOf] at x9
      refine wp_value (.agg #[.int .i64 (D : Int), .slice A2 (widerL l i).length c2]) (w' := w9) (by simp [execOp, x9, go_sem, c0, c1, hXl, k0, k1, hQl, hwr]) ⟨_, rfl, hb9, ?_⟩
      exact ⟨by simp, by simpa using F1, by simpa using F2, by simpa using F3, by simpa using F4, by simpa using F5, by simpa using F6, by simpa using F7, by simpa using F8, by simpa using F9, by simpa using F10, by simpa using F11, by simpa using F12, by simpa using F13, by simpa using F14, by simpa using F15, by simpa using F16, by simpa using F17, by simpa using F18⟩
    · have d0 := hdep ⟨0, .data⟩ (by simp) rfl
      have e0 := val_at (F0 d0)
      refine wp_calls (f := 69) (args := #[.agg #[.int .i64 (D : Int), .slice A2 (widerL l i).length c2]]) (w' := w9) (by simp [execOp, e0, go_sem, valsOf]) (early_any D (widerL l i) _ w9 (HRW.out.mono hb9) HFW.out) ?_
      rintro e w10 ⟨Y, rfl, hy, hg⟩
      refine ⟨_, rfl, _, rfl, bl_trans hb9 hg, ?_⟩
      exact ⟨by simpa using F0, by simpa using ⟨Y, _, rfl, hy⟩, by simpa using fun h => (F2 h).mono hg, by simpa using fun h => (F3 h).mono hg, by simpa using fun h => (F4 h).mono hg, by simpa using F5, by simpa using fun h => (F6 h).mono hg, by simpa using F7, by simpa using F8, by simpa using fun h => (F9 h).mono hg, by simpa using fun h => (F10 h).mono hg, by simpa using fun h => (F11 h).mono hg, by simpa using fun h => (F12 h).mono hg, by simpa using F13, by simpa using fun h => (F14 h).mono hg, by simpa using F15, by simpa using F16, by simpa using F17, by simpa using F18⟩
    · have d1 := hdep ⟨1, .data⟩ (by simp) rfl
      obtain ⟨Y, sr', h1, hy⟩ := F1 d1
      have ey := val_at h1
      refine wp_value (.pointer (some ⟨Y, 0, none⟩)) (w' := w9) (by simp [execOp, ey, go_sem]) ⟨_, rfl, hb9, ?_⟩
      exact ⟨by simpa using F0, by simpa using F1, by simpa using ⟨Y, sr', rfl, hy⟩, by simpa using F3, by simpa using F4, by simpa using F5, by simpa using F6, by simpa using F7, by simpa using F8, by simpa using F9, by simpa using F10, by simpa using F11, by simpa using F12, by simpa using F13, by simpa using F14, by simpa using F15, by simpa using F16, by simpa using F17, by simpa using F18⟩
    · have d2 := hdep ⟨2, .data⟩ (by simp) rfl
      obtain ⟨Y, sr', h1, hy⟩ := F2 d2
      have ey := val_at h1
      refine wp_value (.pointer (some ⟨Y, 4, none⟩)) (w' := w9) (by simp [execOp, ey, go_sem]) ⟨_, rfl, hb9, ?_⟩
      exact ⟨by simpa using F0, by simpa using F1, by simpa using F2, by simpa using ⟨Y, sr', rfl, hy⟩, by simpa using F4, by simpa using F5, by simpa using F6, by simpa using F7, by simpa using F8, by simpa using F9, by simpa using F10, by simpa using F11, by simpa using F12, by simpa using F13, by simpa using F14, by simpa using F15, by simpa using F16, by simpa using F17, by simpa using F18⟩
    · have d3 := hdep ⟨3, .data⟩ (by simp) rfl
      obtain ⟨Y, sr', h1, hy⟩ := F3 d3
      have ey := val_at h1
      obtain ⟨gB, cap, y4, hcap, gl, yl, hbc⟩ := hy.boom
      refine wp_value (.slice (some ⟨gB, 0, none⟩) (D + 1) cap) (w' := w9) (by simp [execOp, ey, go_sem, y4, yl]) ⟨_, rfl, hb9, ?_⟩
      exact ⟨by simpa using F0, by simpa using F1, by simpa using F2, by simpa using F3, by simpa using ⟨gB, cap, rfl, gl, hbc⟩, by simpa using F5, by simpa using F6, by simpa using F7, by simpa using F8, by simpa using F9, by simpa using F10, by simpa using F11, by simpa using F12, by simpa using F13, by simpa using F14, by simpa using F15, by simpa using F16, by simpa using F17, by simpa using F18⟩
    · have x1 := val_at (hv 1 (by simp))
      simp [valsOf] at x1
      refine wp_value (.int .i64 (t : Int)) (w' := w9) (by simp [execOp, x1, go_sem, c0, c1, hXl, k0, k1, hQl, hwr]) ⟨_, rfl, hb9, ?_⟩
      exact ⟨by simpa using F0, by simpa using F1, by simpa using F2, by simpa using F3, by simpa using F4, by simp, by simpa using F6, by simpa using F7, by simpa using F8, by simpa using F9, by simpa using F10, by simpa using F11, by simpa using F12, by simpa using F13, by simpa using F14, by simpa using F15, by simpa using F16, by simpa using F17, by simpa using F18⟩
    · have d4 := hdep ⟨4, .data⟩ (by simp) rfl
      have d5 := hdep ⟨5, .data⟩ (by simp) rfl
      have e5 := val_at (F5 d5)
      obtain ⟨gB, cap, h1, gl, hbc⟩ := F4 d4
      have ey := val_at h1
      refine wp_value (.pointer (some ⟨gB, t, none⟩)) (w' := w9) (by simp [execOp, ey, e5, go_sem, htI]) ⟨_, rfl, hb9, ?_⟩
      exact ⟨by simpa using F0, by simpa using F1, by simpa using F2, by simpa using F3, by simpa using F4, by simpa using F5, by simpa using ⟨gB, rfl, gl, hbc t htD⟩, by simpa using F7, by simpa using F8, by simpa using F9, by simpa using F10, by simpa using F11, by simpa using F12, by simpa using F13, by simpa using F14, by simpa using F15, by simpa using F16, by simpa using F17, by simpa using F18⟩
    · have d6 := hdep ⟨6, .data⟩ (by simp) rfl
      obtain ⟨gB, h1, gl, hct⟩ := F6 d6
      have ey := val_at h1
      refine wp_value (.int .i64 (mostE D (widerL l i) (t : Int))) (w' := w9) (by simp [execOp, ey, go_sem, hct, gl]) ⟨_, rfl, hb9, ?_⟩
      exact ⟨by simpa using F0, by simpa using F1, by simpa using F2, by simpa using F3, by simpa using F4, by simpa using F5, by simpa using F6, by simp, by simpa using F8, by simpa using F9, by simpa using F10, by simpa using F11, by simpa using F12, by simpa using F13, by simpa using F14, by simpa using F15, by simpa using F16, by simpa using F17, by simpa using F18⟩
    · have x3 := val_at (hv 3 (by simp))
      simp [valsOf] at x3
      refine wp_value (.agg #[.int .i64 (D : Int), .slice (some ⟨b, off, none⟩) l.length c]) (w' := w9) (by simp [execOp, x3, go_sem, c0, c1, hXl, k0, k1, hQl, hwr]) ⟨_, rfl, hb9, ?_⟩
      exact ⟨by simpa using F0, by simpa using F1, by simpa using F2, by simpa using F3, by simpa using F4, by simpa using F5, by simpa using F6, by simpa using F7, by simp, by simpa using F9, by simpa using F10, by simpa using F11, by simpa using F12, by simpa using F13, by simpa using F14, by simpa using F15, by simpa using F16, by simpa using F17, by simpa using F18⟩
    · have d8 := hdep ⟨8, .data⟩ (by simp) rfl
      have e8 := val_at (F8 d8)
      refine wp_calls (f := 69) (args := #[.agg #[.int .i64 (D : Int), .slice (some ⟨b, off, none⟩) l.length c]]) (w' := w9) (by simp [execOp, e8, go_sem, valsOf]) (early_any D l _ w9 (HR3.out.mono hb9) HF.out) ?_
      rintro e w10 ⟨Y, rfl, hy, hg⟩
      refine ⟨_, rfl, _, rfl, bl_trans hb9 hg, ?_⟩
      exact ⟨by simpa using F0, by simpa using fun h => (F1 h).mono hg, by simpa using fun h => (F2 h).mono hg, by simpa using fun h => (F3 h).mono hg, by simpa using fun h => (F4 h).mono hg, by simpa using F5, by simpa using fun h => (F6 h).mono hg, by simpa using F7, by simpa using F8, by simpa using ⟨Y, _, rfl, hy⟩, by simpa using fun h => (F10 h).mono hg, by simpa using fun h => (F11 h).mono hg, by simpa using fun h => (F12 h).mono hg, by simpa using F13, by simpa using fun h => (F14 h).mono hg, by simpa using F15, by simpa using F16, by simpa using F17, by simpa using F18⟩
    · have d9 := hdep ⟨9, .data⟩ (by simp) rfl
      obtain ⟨Y, sr', h1, hy⟩ := F9 d9
      have ey := val_at h1
      refine wp_value (.pointer (some ⟨Y, 0, none⟩)) (w' := w9) (by simp [execOp, ey, go_sem]) ⟨_, rfl, hb9, ?_⟩
      exact ⟨by simpa using F0, by simpa using F1, by simpa using F2, by simpa using F3, by simpa using F4, by simpa using F5, by simpa using F6, by simpa using F7, by simpa using F8, by simpa using F9, by simpa using ⟨Y, sr', rfl, hy⟩, by simpa using F11, by simpa using F12, by simpa using F13, by simpa using F14, by simpa using F15, by simpa using F16, by simpa using F17, by simpa using F18⟩
    · have d10 := hdep ⟨10, .data⟩ (by simp) rfl
      obtain ⟨Y, sr', h1, hy⟩ := F10 d10
      have ey := val_at h1
      refine wp_value (.pointer (some ⟨Y, 4, none⟩)) (w' := w9) (by simp [execOp, ey, go_sem]) ⟨_, rfl, hb9, ?_⟩
      exact ⟨by simpa using F0, by simpa using F1, by simpa using F2, by simpa using F3, by simpa using F4, by simpa using F5, by simpa using F6, by simpa using F7, by simpa using F8, by simpa using F9, by simpa using F10, by simpa using ⟨Y, sr', rfl, hy⟩, by simpa using F12, by simpa using F13, by simpa using F14, by simpa using F15, by simpa using F16, by simpa using F17, by simpa using F18⟩
    · have d11 := hdep ⟨11, .data⟩ (by simp) rfl
      obtain ⟨Y, sr', h1, hy⟩ := F11 d11
      have ey := val_at h1
      obtain ⟨gB, cap, y4, hcap, gl, yl, hbc⟩ := hy.boom
      refine wp_value (.slice (some ⟨gB, 0, none⟩) (D + 1) cap) (w' := w9) (by simp [execOp, ey, go_sem, y4, yl]) ⟨_, rfl, hb9, ?_⟩
      exact ⟨by simpa using F0, by simpa using F1, by simpa using F2, by simpa using F3, by simpa using F4, by simpa using F5, by simpa using F6, by simpa using F7, by simpa using F8, by simpa using F9, by simpa using F10, by simpa using F11, by simpa using ⟨gB, cap, rfl, gl, hbc⟩, by simpa using F13, by simpa using F14, by simpa using F15, by simpa using F16, by simpa using F17, by simpa using F18⟩
    · have x1 := val_at (hv 1 (by simp))
      simp [valsOf] at x1
      refine wp_value (.int .i64 (t : Int)) (w' := w9) (by simp [execOp, x1, go_sem, c0, c1, hXl, k0, k1, hQl, hwr]) ⟨_, rfl, hb9, ?_⟩
      exact ⟨by simpa using F0, by simpa using F1, by simpa using F2, by simpa using F3, by simpa using F4, by simpa using F5, by simpa using F6, by simpa using F7, by simpa using F8, by simpa using F9, by simpa using F10, by simpa using F11, by simpa using F12, by simp, by simpa using F14, by simpa using F15, by simpa using F16, by simpa using F17, by simpa using F18⟩
    · have d12 := hdep ⟨12, .data⟩ (by simp) rfl
      have d13 := hdep ⟨13, .data⟩ (by simp) rfl
      have e13 := val_at (F13 d13)
      obtain ⟨gB, cap, h1, gl, hbc⟩ := F12 d12
      have ey := val_at h1
      refine wp_value (.pointer (some ⟨gB, t, none⟩)) (w' := w9) (by simp [execOp, ey, e13, go_sem, htI]) ⟨_, rfl, hb9, ?_⟩
      exact ⟨by simpa using F0, by simpa using F1, by simpa using F2, by simpa using F3, by simpa using F4, by simpa using F5, by simpa using F6, by simpa using F7, by simpa using F8, by simpa using F9, by simpa using F10, by simpa using F11, by simpa using F12, by simpa using F13, by simpa using ⟨gB, rfl, gl, hbc t htD⟩, by simpa using F15, by simpa using F16, by simpa using F17, by simpa using F18⟩
    · have d14 := hdep ⟨14, .data⟩ (by simp) rfl
      obtain ⟨gB, h1, gl, hct⟩ := F14 d14
      have ey := val_at h1
      refine wp_value (.int .i64 (mostE D l (t : Int))) (w' := w9) (by simp [execOp, ey, go_sem, hct, gl]) ⟨_, rfl, hb9, ?_⟩
      exact ⟨by simpa using F0, by simpa using F1, by simpa using F2, by simpa using F3, by simpa using F4, by simpa using F5, by simpa using F6, by simpa using F7, by simpa using F8, by simpa using F9, by simpa using F10, by simpa using F11, by simpa using F12, by simpa using F13, by simpa using F14, by simp, by simpa using F16, by simpa using F17, by simpa using F18⟩
    · have d7 := hdep ⟨7, .data⟩ (by simp) rfl
      have e7 := val_at (F7 d7)
      have d15 := hdep ⟨15, .data⟩ (by simp) rfl
      have e15 := val_at (F15 d15)
      refine wp_value (.int .i64 (mostE D (widerL l i) (t : Int) - mostE D l (t : Int))) (w' := w9) (by simp [execOp, e7, e15, go_sem, c0, c1, hXl, k0, k1, hQl, hwr]) ⟨_, rfl, hb9, ?_⟩
      exact ⟨by simpa using F0, by simpa using F1, by simpa using F2, by simpa using F3, by simpa using F4, by simpa using F5, by simpa using F6, by simpa using F7, by simpa using F8, by simpa using F9, by simpa using F10, by simpa using F11, by simpa using F12, by simpa using F13, by simpa using F14, by simpa using F15, by simp, by simpa using F17, by simpa using F18⟩
    · have d16 := hdep ⟨16, .data⟩ (by simp) rfl
      have e16 := val_at (F16 d16)
      refine wp_value (.int .i64 (mostE D (widerL l i) (t : Int) - mostE D l (t : Int))) (w' := w9) (by simp [execOp, e16, go_sem, c0, c1, hXl, k0, k1, hQl, hwr]) ⟨_, rfl, hb9, ?_⟩
      exact ⟨by simpa using F0, by simpa using F1, by simpa using F2, by simpa using F3, by simpa using F4, by simpa using F5, by simpa using F6, by simpa using F7, by simpa using F8, by simpa using F9, by simpa using F10, by simpa using F11, by simpa using F12, by simpa using F13, by simpa using F14, by simpa using F15, by simpa using F16, by simp, by simpa using F18⟩
    · refine wp_value (.int .i64 0) (w' := w9) (by simp [execOp, go_sem, c0, c1, hXl, k0, k1, hQl, hwr]) ⟨_, rfl, hb9, ?_⟩
      exact ⟨by simpa using F0, by simpa using F1, by simpa using F2, by simpa using F3, by simpa using F4, by simpa using F5, by simpa using F6, by simpa using F7, by simpa using F8, by simpa using F9, by simpa using F10, by simpa using F11, by simpa using F12, by simpa using F13, by simpa using F14, by simpa using F15, by simpa using F16, by simpa using F17, by simp⟩
  intro u w5 hb5 seen hall ⟨F0, F1, F2, F3, F4, F5, F6, F7, F8, F9, F10, F11, F12, F13, F14, F15, F16, F17, F18⟩
  replace F0 := F0 (hall 0 (by decide))
  replace F1 := F1 (hall 1 (by decide))
  replace F2 := F2 (hall 2 (by decide))
  replace F3 := F3 (hall 3 (by decide))
  replace F4 := F4 (hall 4 (by decide))
  replace F5 := F5 (hall 5 (by decide))
  replace F6 := F6 (hall 6 (by decide))
  replace F7 := F7 (hall 7 (by decide))
  replace F8 := F8 (hall 8 (by decide))
  replace F9 := F9 (hall 9 (by decide))
  replace F10 := F10 (hall 10 (by decide))
  replace F11 := F11 (hall 11 (by decide))
  replace F12 := F12 (hall 12 (by decide))
  replace F13 := F13 (hall 13 (by decide))
  replace F14 := F14 (hall 14 (by decide))
  replace F15 := F15 (hall 15 (by decide))
  replace F16 := F16 (hall 16 (by decide))
  replace F17 := F17 (hall 17 (by decide))
  replace F18 := F18 (hall 18 (by decide))
  simp only [setAll, F17, F18]
  clear hwr hm1 hm2
  have HB5 := hid (bl_trans HB3.out hb5)
  clear F0 F1 F2 F3 F4 F5 F6 F7 F8 F9 F10 F11 F12 F13 F14 F15 F16 F17 F18 hall seen hb5
  generalize mostE D (widerL l i) (t : Int) - mostE D l (t : Int) = dv at *
  go_wp2
  go_ret2
  exact ⟨by rw [E2.out, H0.out]; simp, HB5.out⟩

set_option maxRecDepth 100000 in
set_option maxHeartbeats 8000000 in
theorem latest_any (days : Int) (l : List Rch) (sr : Value) (day reach : Int) (w : World) (hl : l.length ≤ 1000) (hs : Rchs w sr l) :
    Calls Try.prog 42 #[.agg #[.int .i64 days, sr], .int .i64 day, .int .i64 reach] w fun e w' => e = .returned (.tuple #[.int .i64 (latestE days l day reach), .int .i64 (reachedE days l day reach)]) ∧ Below w.heap.size w w' := by
  obtain ⟨A, c, rfl⟩ := hs.slice
  have HX0 := hid (World.alloc_heap_new w (.cells #[.int .i64 days, .slice A l.length c] 24))
  have HB := hid (bl_alloc (bl_refl w) (.cells #[.int .i64 days, .slice A l.length c] 24))
  have HS := hid hs
  clear hs
  go_enter Try.func42, Try.ntmps42
  go_upto_region 1 with (fail)
  go_step3
  obtain ⟨R, hR⟩ : ∃ R, w.heap.size = R := ⟨_, rfl⟩
  obtain ⟨w0, hw0⟩ : ∃ w0, w.alloc (.cells #[.int .i64 days, .slice A l.length c] 24) = w0 := ⟨_, rfl⟩
  rw [hR] at HX0 ⊢
  rw [hw0] at HX0 HB ⊢
  clear hw0 hR
  have r0 : w0.cell? ⟨R, 0, none⟩ = some (.int .i64 days) := cell_of_heap HX0.out
  have r1 : w0.cell? ⟨R, 1, none⟩ = some (.slice A l.length c) := cell_of_heap HX0.out
  have l0 := (Array.getElem?_eq_some_iff.1 HX0.out).1
  go_wp2_with fail
  refine (reached_any days l _ day reach _ hl (HS.out.mono HB.out)).mono ?_
  rintro e w1 ⟨rfl, hb1⟩
  have HX := hid (heap_mono HX0.out hb1)
  have HB1 := hid (bl_trans HB.out hb1)
  clear HX0 HB hb1 r0 r1 l0
  by_cases h0 : reachedE days l day reach = 0
  case neg =>
    have he : (reachedE days l day reach != 0) = true := by simp [h0]
    have e2 := hid (show latestE days l day reach = 0 by rw [latestE, if_neg h0])
    clear h0
    go_wp2
    try rw [Exit.noGoto_ret]
    go_ret2
    exact ⟨by rw [e2.out]; rfl, HB1.out⟩
  have he : (reachedE days l day reach != 0) = false := by simp [h0]
  obtain ⟨ha, hr1, hr2⟩ := reached_zero h0
  obtain ⟨g0, g1, g2⟩ := asked_zero ha
  obtain ⟨D, rfl⟩ : ∃ D : Nat, days = D := ⟨days.toNat, by omega⟩
  obtain ⟨t, rfl⟩ : ∃ t : Nat, day = t := ⟨day.toNat, by omega⟩
  obtain ⟨i, rfl⟩ : ∃ i : Nat, reach = i := ⟨reach.toNat, by omega⟩
  have htD : t ≤ D := by omega
  have ht1 : 1 ≤ t := by omega
  have hil : i < l.length := by omega
  have HF := hid (fit_of g0)
  have HFW := hid (fit_wider g0 hil)
  have f2 := HF.out.d2
  have f3 := HF.out.n1
  have f4 := HF.out.n2
  obtain ⟨b, off, c', e5, hlc, hb, hcell⟩ := HS.out.some f3
  simp only [Value.slice.injEq, true_and] at e5
  obtain ⟨rfl, rfl⟩ := e5
  have HR1 := hid (HS.out.mono HB1.out)
  have HPX : Hid (∀ x, l[i]? = some x → 0 ≤ x.pass ∧ x.pass ≤ 100000) := fun x hx => by have := HF.out.pass i x hx; omega
  have hm1 := most_nonneg HF.out htD
  have hm2 := most_nonneg HFW.out htD
  have E2 : Hid (latestE (D : Int) l (t : Int) (i : Int) = (latN D l (t : Int) i : Int)) := by
    show latestE (D : Int) l (t : Int) (i : Int) = _
    rw [latestE, if_pos h0]
    simp only [Int.toNat_natCast]
  have H0 := hid h0
  clear h0 ha g0 g1 g2 hr1 hr2 hcell
  obtain ⟨x, hx⟩ := get_at hil
  have hrd := HF.out.ready i x hx
  have Hx := hid hx
  have XC : Hid (w1.cell? ⟨b, off + i * 8 + 7, none⟩ = some (.int .i64 x.ready)) := by
    rcases HR1.out with ⟨h, _⟩ | ⟨b', off', c'', e, _, _, hc⟩
    · cases h
    · simp only [Value.slice.injEq, Option.some.injEq, Addr.mk.injEq, and_true, true_and] at e
      obtain ⟨⟨rfl, rfl⟩, rfl⟩ := e
      exact (hc i x hx).c7
  have hiI : (i : Int) < (l.length : Int) := by omega
  have htI : (t : Int) < (D : Int) + 1 := by omega
  clear hx hm2
  go_upto_region 4 with (fail)
  refine wp_region_vals [20, 21, 22, 23, 24, 25, 26, 27, 28, 29, 30, 31, 32, 33, 9, 10] (fun seen u W => (seen 0 = true → u 20 = .agg #[.int .i64 (D : Int), .slice (some ⟨b, off, none⟩) l.length c]) ∧
    (seen 1 = true → YearV D l W (u 21)) ∧
    (seen 2 = true → YearV D l W (u 22)) ∧
    (seen 3 = true → BoomP D l W (u 23)) ∧
    (seen 4 = true → BoomS D l W (u 24)) ∧
    (seen 5 = true → u 25 = .int .i64 (t : Int)) ∧
    (seen 6 = true → BoomC D l t W (u 26)) ∧
    (seen 7 = true → u 27 = .int .i64 (mostE D l (t : Int))) ∧
    (seen 8 = true → u 28 = .pointer (some ⟨R, 1, none⟩)) ∧
    (seen 9 = true → u 29 = .slice (some ⟨b, off, none⟩) l.length c) ∧
    (seen 10 = true → u 30 = .int .i64 (i : Int)) ∧
    (seen 11 = true → u 31 = .pointer (some ⟨b, off + i * 8, none⟩)) ∧
    (seen 12 = true → u 32 = .pointer (some ⟨b, off + i * 8 + 7, none⟩)) ∧
    (seen 13 = true → u 33 = .int .i64 x.ready) ∧
    (seen 14 = true → u 9 = .int .i64 (mostE D l (t : Int))) ∧
    (seen 15 = true → u 10 = .int .i64 x.ready))
    (by kernel_rfl) (by kernel_rfl) (by kernel_rfl) (by simp) (by simp) ?_ ?_
  · intro i o ho seen a' w9 hb9 ⟨F0, F1, F2, F3, F4, F5, F6, F7, F8, F9, F10, F11, F12, F13, F14, F15⟩ hv hsi hdep
    have hbx := heap_mono HX.out hb9
    have c0 : w9.cell? ⟨R, 0, none⟩ = some (.int .i64 (D : Int)) := cell_of_heap hbx
    have c1 : w9.cell? ⟨R, 1, none⟩ = some (.slice (some ⟨b, off, none⟩) l.length c) := cell_of_heap hbx
    have hXl := (Array.getElem?_eq_some_iff.1 hbx).1
    have hblt : b < w9.heap.size := by have h1 := HB1.out.size; have h2 := hb9.size; omega
    have xc := cell_mono XC.out hb9
    rcases i with _ | _ | _ | _ | _ | _ | _ | _ | _ | _ | _ | _ | _ | _ | _ | _ | i <;> simp only [List.getElem?_cons_zero, List.getElem?_cons_succ, List.getElem?_nil, Option.some.injEq, reduceCtorEq] at ho <;> subst ho
    · have x3 := val_at (hv 3 (by simp))
      simp [valsOf] at x3
      refine wp_value (.agg #[.int .i64 (D : Int), .slice (some ⟨b, off, none⟩) l.length c]) (w' := w9) (by simp [execOp, x3, go_sem, c0, c1, hXl, hblt, xc, hiI]) ⟨_, rfl, hb9, ?_⟩
      exact ⟨by simp, by simpa using F1, by simpa using F2, by simpa using F3, by simpa using F4, by simpa using F5, by simpa using F6, by simpa using F7, by simpa using F8, by simpa using F9, by simpa using F10, by simpa using F11, by simpa using F12, by simpa using F13, by simpa using F14, by simpa using F15⟩
    · have d0 := hdep ⟨0, .data⟩ (by simp) rfl
      have e0 := val_at (F0 d0)
      refine wp_calls (f := 69) (args := #[.agg #[.int .i64 (D : Int), .slice (some ⟨b, off, none⟩) l.length c]]) (w' := w9) (by simp [execOp, e0, go_sem, valsOf]) (early_any D l _ w9 (HR1.out.mono hb9) HF.out) ?_
      rintro e w10 ⟨Y, rfl, hy, hg⟩
      refine ⟨_, rfl, _, rfl, bl_trans hb9 hg, ?_⟩
      exact ⟨by simpa using F0, by simpa using ⟨Y, _, rfl, hy⟩, by simpa using fun h => (F2 h).mono hg, by simpa using fun h => (F3 h).mono hg, by simpa using fun h => (F4 h).mono hg, by simpa using F5, by simpa using fun h => (F6 h).mono hg, by simpa using F7, by simpa using F8, by simpa using F9, by simpa using F10, by simpa using F11, by simpa using F12, by simpa using F13, by simpa using F14, by simpa using F15⟩
    · have d1 := hdep ⟨1, .data⟩ (by simp) rfl
      obtain ⟨Y, sr', h1, hy⟩ := F1 d1
      have ey := val_at h1
      refine wp_value (.pointer (some ⟨Y, 0, none⟩)) (w' := w9) (by simp [execOp, ey, go_sem]) ⟨_, rfl, hb9, ?_⟩
      exact ⟨by simpa using F0, by simpa using F1, by simpa using ⟨Y, sr', rfl, hy⟩, by simpa using F3, by simpa using F4, by simpa using F5, by simpa using F6, by simpa using F7, by simpa using F8, by simpa using F9, by simpa using F10, by simpa using F11, by simpa using F12, by simpa using F13, by simpa using F14, by simpa using F15⟩
    · have d2 := hdep ⟨2, .data⟩ (by simp) rfl
      obtain ⟨Y, sr', h1, hy⟩ := F2 d2
      have ey := val_at h1
      refine wp_value (.pointer (some ⟨Y, 4, none⟩)) (w' := w9) (by simp [execOp, ey, go_sem]) ⟨_, rfl, hb9, ?_⟩
      exact ⟨by simpa using F0, by simpa using F1, by simpa using F2, by simpa using ⟨Y, sr', rfl, hy⟩, by simpa using F4, by simpa using F5, by simpa using F6, by simpa using F7, by simpa using F8, by simpa using F9, by simpa using F10, by simpa using F11, by simpa using F12, by simpa using F13, by simpa using F14, by simpa using F15⟩
    · have d3 := hdep ⟨3, .data⟩ (by simp) rfl
      obtain ⟨Y, sr', h1, hy⟩ := F3 d3
      have ey := val_at h1
      obtain ⟨gB, cap, y4, hcap, gl, yl, hbc⟩ := hy.boom
      refine wp_value (.slice (some ⟨gB, 0, none⟩) (D + 1) cap) (w' := w9) (by simp [execOp, ey, go_sem, y4, yl]) ⟨_, rfl, hb9, ?_⟩
      exact ⟨by simpa using F0, by simpa using F1, by simpa using F2, by simpa using F3, by simpa using ⟨gB, cap, rfl, gl, hbc⟩, by simpa using F5, by simpa using F6, by simpa using F7, by simpa using F8, by simpa using F9, by simpa using F10, by simpa using F11, by simpa using F12, by simpa using F13, by simpa using F14, by simpa using F15⟩
    · have x1 := val_at (hv 1 (by simp))
      simp [valsOf] at x1
      refine wp_value (.int .i64 (t : Int)) (w' := w9) (by simp [execOp, x1, go_sem, c0, c1, hXl, hblt, xc, hiI]) ⟨_, rfl, hb9, ?_⟩
      exact ⟨by simpa using F0, by simpa using F1, by simpa using F2, by simpa using F3, by simpa using F4, by simp, by simpa using F6, by simpa using F7, by simpa using F8, by simpa using F9, by simpa using F10, by simpa using F11, by simpa using F12, by simpa using F13, by simpa using F14, by simpa using F15⟩
    · have d4 := hdep ⟨4, .data⟩ (by simp) rfl
      have d5 := hdep ⟨5, .data⟩ (by simp) rfl
      have e5 := val_at (F5 d5)
      obtain ⟨gB, cap, h1, gl, hbc⟩ := F4 d4
      have ey := val_at h1
      refine wp_value (.pointer (some ⟨gB, t, none⟩)) (w' := w9) (by simp [execOp, ey, e5, go_sem, htI]) ⟨_, rfl, hb9, ?_⟩
      exact ⟨by simpa using F0, by simpa using F1, by simpa using F2, by simpa using F3, by simpa using F4, by simpa using F5, by simpa using ⟨gB, rfl, gl, hbc t htD⟩, by simpa using F7, by simpa using F8, by simpa using F9, by simpa using F10, by simpa using F11, by simpa using F12, by simpa using F13, by simpa using F14, by simpa using F15⟩
    · have d6 := hdep ⟨6, .data⟩ (by simp) rfl
      obtain ⟨gB, h1, gl, hct⟩ := F6 d6
      have ey := val_at h1
      refine wp_value (.int .i64 (mostE D l (t : Int))) (w' := w9) (by simp [execOp, ey, go_sem, hct, gl]) ⟨_, rfl, hb9, ?_⟩
      exact ⟨by simpa using F0, by simpa using F1, by simpa using F2, by simpa using F3, by simpa using F4, by simpa using F5, by simpa using F6, by simp, by simpa using F8, by simpa using F9, by simpa using F10, by simpa using F11, by simpa using F12, by simpa using F13, by simpa using F14, by simpa using F15⟩
    · have x3 := val_at (hv 3 (by simp))
      simp [valsOf] at x3
      refine wp_value (.pointer (some ⟨R, 1, none⟩)) (w' := w9) (by simp [execOp, x3, go_sem, c0, c1, hXl, hblt, xc, hiI]) ⟨_, rfl, hb9, ?_⟩
      exact ⟨by simpa using F0, by simpa using F1, by simpa using F2, by simpa using F3, by simpa using F4, by simpa using F5, by simpa using F6, by simpa using F7, by simp, by simpa using F9, by simpa using F10, by simpa using F11, by simpa using F12, by simpa using F13, by simpa using F14, by simpa using F15⟩
    · have d8 := hdep ⟨8, .data⟩ (by simp) rfl
      have e8 := val_at (F8 d8)
      refine wp_value (.slice (some ⟨b, off, none⟩) l.length c) (w' := w9) (by simp [execOp, e8, go_sem, c0, c1, hXl, hblt, xc, hiI]) ⟨_, rfl, hb9, ?_⟩
      exact ⟨by simpa using F0, by simpa using F1, by simpa using F2, by simpa using F3, by simpa using F4, by simpa using F5, by simpa using F6, by simpa using F7, by simpa using F8, by simp, by simpa using F10, by simpa using F11, by simpa using F12, by simpa using F13, by simpa using F14, by simpa using F15⟩
    · have x2 := val_at (hv 2 (by simp))
      simp [valsOf] at x2
      refine wp_value (.int .i64 (i : Int)) (w' := w9) (by simp [execOp, x2, go_sem, c0, c1, hXl, hblt, xc, hiI]) ⟨_, rfl, hb9, ?_⟩
      exact ⟨by simpa using F0, by simpa using F1, by simpa using F2, by simpa using F3, by simpa using F4, by simpa using F5, by simpa using F6, by simpa using F7, by simpa using F8, by simpa using F9, by simp, by simpa using F11, by simpa using F12, by simpa using F13, by simpa using F14, by simpa using F15⟩
    · have d9 := hdep ⟨9, .data⟩ (by simp) rfl
      have e9 := val_at (F9 d9)
      have d10 := hdep ⟨10, .data⟩ (by simp) rfl
      have e10 := val_at (F10 d10)
      refine wp_value (.pointer (some ⟨b, off + i * 8, none⟩)) (w' := w9) (by simp [execOp, e9, e10, go_sem, c0, c1, hXl, hblt, xc, hiI]) ⟨_, rfl, hb9, ?_⟩
      exact ⟨by simpa using F0, by simpa using F1, by simpa using F2, by simpa using F3, by simpa using F4, by simpa using F5, by simpa using F6, by simpa using F7, by simpa using F8, by simpa using F9, by simpa using F10, by simp, by simpa using F12, by simpa using F13, by simpa using F14, by simpa using F15⟩
    · have d11 := hdep ⟨11, .data⟩ (by simp) rfl
      have e11 := val_at (F11 d11)
      refine wp_value (.pointer (some ⟨b, off + i * 8 + 7, none⟩)) (w' := w9) (by simp [execOp, e11, go_sem, c0, c1, hXl, hblt, xc, hiI]) ⟨_, rfl, hb9, ?_⟩
      exact ⟨by simpa using F0, by simpa using F1, by simpa using F2, by simpa using F3, by simpa using F4, by simpa using F5, by simpa using F6, by simpa using F7, by simpa using F8, by simpa using F9, by simpa using F10, by simpa using F11, by simp, by simpa using F13, by simpa using F14, by simpa using F15⟩
    · have d12 := hdep ⟨12, .data⟩ (by simp) rfl
      have e12 := val_at (F12 d12)
      refine wp_value (.int .i64 x.ready) (w' := w9) (by simp [execOp, e12, go_sem, c0, c1, hXl, hblt, xc, hiI]) ⟨_, rfl, hb9, ?_⟩
      exact ⟨by simpa using F0, by simpa using F1, by simpa using F2, by simpa using F3, by simpa using F4, by simpa using F5, by simpa using F6, by simpa using F7, by simpa using F8, by simpa using F9, by simpa using F10, by simpa using F11, by simpa using F12, by simp, by simpa using F14, by simpa using F15⟩
    · have d7 := hdep ⟨7, .data⟩ (by simp) rfl
      have e7 := val_at (F7 d7)
      refine wp_value (.int .i64 (mostE D l (t : Int))) (w' := w9) (by simp [execOp, e7, go_sem, c0, c1, hXl, hblt, xc, hiI]) ⟨_, rfl, hb9, ?_⟩
      exact ⟨by simpa using F0, by simpa using F1, by simpa using F2, by simpa using F3, by simpa using F4, by simpa using F5, by simpa using F6, by simpa using F7, by simpa using F8, by simpa using F9, by simpa using F10, by simpa using F11, by simpa using F12, by simpa using F13, by simp, by simpa using F15⟩
    · have d13 := hdep ⟨13, .data⟩ (by simp) rfl
      have e13 := val_at (F13 d13)
      refine wp_value (.int .i64 x.ready) (w' := w9) (by simp [execOp, e13, go_sem, c0, c1, hXl, hblt, xc, hiI]) ⟨_, rfl, hb9, ?_⟩
      exact ⟨by simpa using F0, by simpa using F1, by simpa using F2, by simpa using F3, by simpa using F4, by simpa using F5, by simpa using F6, by simpa using F7, by simpa using F8, by simpa using F9, by simpa using F10, by simpa using F11, by simpa using F12, by simpa using F13, by simpa using F14, by simp⟩
  intro u w5 hb5 seen hall ⟨F0, F1, F2, F3, F4, F5, F6, F7, F8, F9, F10, F11, F12, F13, F14, F15⟩
  replace F0 := F0 (hall 0 (by decide))
  replace F1 := F1 (hall 1 (by decide))
  replace F2 := F2 (hall 2 (by decide))
  replace F3 := F3 (hall 3 (by decide))
  replace F4 := F4 (hall 4 (by decide))
  replace F5 := F5 (hall 5 (by decide))
  replace F6 := F6 (hall 6 (by decide))
  replace F7 := F7 (hall 7 (by decide))
  replace F8 := F8 (hall 8 (by decide))
  replace F9 := F9 (hall 9 (by decide))
  replace F10 := F10 (hall 10 (by decide))
  replace F11 := F11 (hall 11 (by decide))
  replace F12 := F12 (hall 12 (by decide))
  replace F13 := F13 (hall 13 (by decide))
  replace F14 := F14 (hall 14 (by decide))
  replace F15 := F15 (hall 15 (by decide))
  simp only [setAll, F14, F15]
  have HB5 := hid (bl_trans HB1.out hb5)
  have HX5 := hid (heap_mono HX.out hb5)
  clear F0 F1 F2 F3 F4 F5 F6 F7 F8 F9 F10 F11 F12 F13 F14 F15 hall seen hb5 HX HB1 XC HR1
  have HO : Hid (∀ s : Int, s = x.ready → mostE D (laterL l i s) (t : Int) = mostE D l (t : Int)) := fun s e => by rw [e, later_same Hx.out]
  have HLN : Hid (∀ r : Nat, x.ready ≤ (r : Int) → r ≤ D → ¬ mostE D (laterL l i (r : Int)) (t : Int) < mostE D l (t : Int) → (r < D → mostE D (laterL l i ((r : Int) + 1)) (t : Int) < mostE D l (t : Int)) → latestE (D : Int) l (t : Int) (i : Int) = (r : Int)) := fun r h1 h2 h3 h4 => by
    rw [E2.out, latN_is HF.out Hx.out ⟨ht1, htD⟩ h1 h2 h3 h4]
  generalize mostE D l (t : Int) = mo at *
  have hw1 : IntKind.i64.wrap (x.ready + 1) = x.ready + 1 := IntWalk.i64_in _ (by omega)
  have ba := bl_alloc (bl_refl w5) (.cells #[.int .i64 (x.ready + 1)] 2)
  have HX6 := hid (heap_mono HX5.out ba)
  have HB6 := hid (bl_trans HB5.out ba)
  have HN6 := hid (World.alloc_heap_new w5 (.cells #[.int .i64 (x.ready + 1)] 2))
  have HS6 : Hid (w.heap.size ≤ w5.heap.size) := HB5.out.size
  clear ba HX5 HB5 hm1
  go_wp2
  go_step3
  go_wp2
  obtain ⟨B0, hB0⟩ : ∃ B0, w5.heap.size = B0 := ⟨_, rfl⟩
  obtain ⟨w6, hw6⟩ : ∃ w6, w5.alloc (.cells #[.int .i64 (x.ready + 1)] 2) = w6 := ⟨_, rfl⟩
  rw [hB0] at HN6 HS6 ⊢
  rw [hw6] at HX6 HB6 HN6 ⊢
  clear hB0 hw6 hw1
  go_loopw [10, 11] (fun rv pv wr => ∃ (late B : Nat), x.ready < (late : Int) ∧ late ≤ D + 1 ∧ rv = .int .i64 ((late : Int) - 1) ∧ pv = .pointer (some ⟨B, 0, none⟩) ∧ w.heap.size ≤ B ∧ wr.heap[B]? = some (.cells #[.int .i64 (late : Int)] 2 (0, 0)) ∧ wr.heap[R]? = some (.cells #[.int .i64 (D : Int), .slice (some ⟨b, off, none⟩) l.length c] 24 (0, 0)) ∧ Below w.heap.size w wr ∧ ∀ s : Int, x.ready < s → s < (late : Int) → mo ≤ mostE D (laterL l i s) (t : Int)) (fun rv _ _ => D + 1 - (intOf rv).toNat)
  case atStart => exact ⟨(x.ready + 1).toNat, B0, by omega, by omega, by rw [show (((x.ready + 1).toNat : Nat) : Int) - 1 = x.ready by omega], rfl, HS6.out, by rw [show (((x.ready + 1).toNat : Nat) : Int) = x.ready + 1 by omega]; exact HN6.out, HX6.out, HB6.out, fun s h1 h2 => by omega⟩
  case round =>
    obtain ⟨late, B, hl1, hl2, rfl, rfl, hBb, hBx, hR, hB, hinv⟩ := hrel
    clear HX6 HB6 HN6 HS6
    have HINV := Lib.hid hinv
    have HX7 := hid hR
    have HB7 := hid hB
    have HN7 := hid hBx
    have s0 : wr.cell? ⟨R, 0, none⟩ = some (.int .i64 (D : Int)) := cell_of_heap HX7.out
    have s1 : wr.cell? ⟨R, 1, none⟩ = some (.slice (some ⟨b, off, none⟩) l.length c) := cell_of_heap HX7.out
    have sl := (Array.getElem?_eq_some_iff.1 HX7.out).1
    have k0 : wr.cell? ⟨B, 0, none⟩ = some (.int .i64 (late : Int)) := cell_of_heap HN7.out
    have kl := (Array.getElem?_eq_some_iff.1 HN7.out).1
    clear hinv hR hB hBx
    by_cases hld : late ≤ D
    · have dI : decide ((late : Int) ≤ (D : Int)) = true := by simp; omega
      have hcall := with_late (D : Int) l _ i x B (late : Int) wr f3 (by omega) (HS.out.mono HB7.out) Hx.out k0
      have HWL : Hid (l.set i { x with ready := (late : Int) } = laterL l i (late : Int)) := by show l.set i _ = laterL l i (late : Int); unfold laterL; rw [riv_at Hx.out]
      go_wp2_with fail
      refine hcall.mono ?_
      rintro e w8 ⟨⟨s, rfl, hs⟩, hb8⟩
      have hs' : Rchs w8 s (laterL l i (late : Int)) := by rw [← HWL.out]; exact hs
      obtain ⟨A2, c2, rfl⟩ := hs'.slice
      have ba := bl_alloc (bl_refl w8) (.cells #[.int .i64 (D : Int), .slice A2 (laterL l i (late : Int)).length c2] 24)
      have HX9 := hid (heap_mono (heap_mono HX7.out hb8) ba)
      have HB9 := hid (bl_trans (bl_trans HB7.out hb8) ba)
      have HN9 := hid (heap_mono (heap_mono HN7.out hb8) ba)
      have HQ9 := hid (World.alloc_heap_new w8 (.cells #[.int .i64 (D : Int), .slice A2 (laterL l i (late : Int)).length c2] 24))
      have HRW := hid (hs'.mono ba)
      clear hcall s0 s1 sl k0 kl hs hs' hb8 ba HX7 HB7 HN7
      go_upto_region 9 with (fail)
      obtain ⟨Q, hQ⟩ : ∃ Q, w8.heap.size = Q := ⟨_, rfl⟩
      obtain ⟨w9, hw9⟩ : ∃ w9, w8.alloc (.cells #[.int .i64 (D : Int), .slice A2 (laterL l i (late : Int)).length c2] 24) = w9 := ⟨_, rfl⟩
      rw [hQ] at HQ9 ⊢
      rw [hw9] at HX9 HB9 HN9 HQ9 HRW ⊢
      clear hQ hw9
      have s0 : w9.cell? ⟨Q, 0, none⟩ = some (.int .i64 (D : Int)) := cell_of_heap HQ9.out
      have s1 : w9.cell? ⟨Q, 1, none⟩ = some (.slice A2 (laterL l i (late : Int)).length c2) := cell_of_heap HQ9.out
      have sl := (Array.getElem?_eq_some_iff.1 HQ9.out).1
      have hcall := early_any D (laterL l i (late : Int)) _ w9 HRW.out (fit_later HF.out hil ⟨by omega, by omega⟩)
      go_wp2_with fail
      refine hcall.mono ?_
      rintro e w10 ⟨Y, rfl, hy, hb10⟩
      obtain ⟨gB, cap, y4, hcap, gl, yl, hbc⟩ := hy.boom
      have hct := hbc t htD
      have HX10 := hid (heap_mono HX9.out hb10)
      have HB10 := hid (bl_trans HB9.out hb10)
      have HN10 := hid (heap_mono HN9.out hb10)
      have HML : Hid (∀ s : Int, s = (late : Int) → mostE D (laterL l i s) (t : Int) = mostE D (laterL l i (late : Int)) (t : Int)) := fun s e => by rw [e]
      clear hcall s0 s1 sl hy hbc hb10 HX9 HB9 HN9 HQ9 HRW
      generalize mostE D (laterL l i (late : Int)) (t : Int) = ml at *
      by_cases hlt : ml < mo
      · have d1 : decide (ml < mo) = true := by simpa using hlt
        have hres := hid (show latestE (D : Int) l (t : Int) (i : Int) = (late : Int) - 1 by
          have h := HLN.out (late - 1) (by omega) (by omega) (by
            by_cases e : ((late - 1 : Nat) : Int) = x.ready
            · rw [HO.out _ e]; exact Int.le_refl _
            · exact HINV.out _ (by omega) (by omega)) (fun _ => by rw [HML.out _ (by omega)]; exact hlt)
          rw [h]; omega)
        clear hlt
        go_wp2
        try rw [Exit.noGoto_ret]
        go_ret2
        exact ⟨by rw [hres.out, H0.out]; first | rfl | simp, HB10.out⟩
      · have d1 : decide (ml < mo) = false := by simpa using hlt
        have k0 : w10.cell? ⟨B, 0, none⟩ = some (.int .i64 (late : Int)) := cell_of_heap HN10.out
        have kl := (Array.getElem?_eq_some_iff.1 HN10.out).1
        have hwl : IntKind.i64.wrap ((late : Int) + 1) = (late : Int) + 1 := IntWalk.i64_in _ (by omega)
        have hbl := HB10.out.size
        have ba := bl_alloc (bl_refl w10) (.cells #[.int .i64 ((late : Int) + 1)] 2)
        have HX11 := hid (heap_mono HX10.out ba)
        have HB11 := hid (bl_trans HB10.out ba)
        have HN11 := hid (World.alloc_heap_new w10 (.cells #[.int .i64 ((late : Int) + 1)] 2))
        have HI2 : Hid (∀ s : Int, x.ready < s → s < ((late + 1 : Nat) : Int) → mo ≤ mostE D (laterL l i s) (t : Int)) := fun s h1 h2 => by
          by_cases e : s = (late : Int)
          · rw [HML.out s e]; exact Int.not_lt.1 hlt
          · exact HINV.out s h1 (by omega)
        clear hlt ba
        go_wp2
        go_roundw
        case rel => exact ⟨late + 1, w10.heap.size, by omega, by omega, by rw [show ((late + 1 : Nat) : Int) - 1 = (late : Int) by omega], rfl, hbl, HN11.out, HX11.out, HB11.out, HI2.out⟩
        case measure => simp [intOf]; omega
    · obtain rfl : late = D + 1 := by omega
      have dI : decide (((D + 1 : Nat) : Int) ≤ (D : Int)) = false := by rw [decide_eq_false_iff_not]; omega
      have hres := hid (show latestE (D : Int) l (t : Int) (i : Int) = ((D + 1 : Nat) : Int) - 1 by
        have h := HLN.out D (by omega) (Nat.le_refl _) (by
          by_cases e : (D : Int) = x.ready
          · rw [HO.out _ e]; exact Int.le_refl _
          · exact HINV.out _ (by omega) (by omega)) (fun h => by omega)
        rw [h]; omega)
      go_wp2
      try rw [Exit.noGoto_ret]
      go_ret2
      exact ⟨by rw [hres.out, H0.out]; first | rfl | simp, HB7.out⟩

end Go.Proofs.Ytbnmjbmlejifcaa
