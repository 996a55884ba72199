/- The year's run: the walk (run_plan). -/
import Derived.Test.YtbnmjbmlejifcaaRunb
import Derived.Outline
set_option linter.all false
namespace Go.Proofs.Ytbnmjbmlejifcaa
open Go Go.RowKit Go.Proofs
attribute [local go_sem] cell_grow frozen_grow

set_option maxRecDepth 100000 in
set_option maxHeartbeats 16000000 in
theorem run_plan (D : Nat) (l : List Rch) (sr : Value) (F : Fit (D : Int) l) (Pt : List (List Int)) (hPt : Full l.length D Pt) (hsm : Small Pt) (wb w : World) (Y : Nat) (vp vc vb : Value) (Bs : List Nat) (hr : Rchs wb sr l)
    (Y0 : Year wb w Y (D : Int) sr D vp vc vb Bs (List.replicate l.length (List.replicate D 0)) [List.replicate 8 0] [0] (List.replicate 8 0)) (Q : Nat) (hcl0 : ∀ (i d : Nat), i < l.length → d < D → openB (rivP l i) ((d : Int) + 1) = false → planP Pt i (d + 1) = 0)
    (hen : ∀ (i d : Nat) (W : World), i < l.length → d < D → openB (rivP l i) ((d : Int) + 1) = true → Below wb.heap.size wb W → W.cell? ⟨Y, 1, none⟩ = some sr → Calls Try.prog 63 #[.int .i64 (i : Int), .int .i64 ((d : Int) + 1), .int .i64 (come (rivP l) (planP Pt) i ((d : Int) + 1) - gone (planP Pt) i d), .pointer (some ⟨Q, 0, none⟩)] W fun e w' => e = .returned (.int .i64 (planP Pt i (d + 1))) ∧ Below W.heap.size W w') :
    Calls Try.prog 62 #[.pointer (some ⟨Y, 0, none⟩), .func (.func 63) #[] #[.pointer (some ⟨Q, 0, none⟩)]] w (RunPost l Pt D wb Y (D : Int) sr vp Bs) := by
  have hn1 := F.n1
  have hn2 := F.n2
  have hd1 := F.d1
  have hd2 := F.d2
  obtain ⟨b, off, c, rfl, hlc, hb, hcell⟩ := hr.some hn1
  have HC := Lib.hid hcell
  have hclr := run_clear8 Y0.box (fun i hi => by
    match i, hi with
    | 0, _ | 1, _ | 2, _ | 3, _ | 4, _ | 5, _ | 6, _ | 7, _ => rfl) 36 0 Try.underlying36
  have hmm := @run_makeMap Try.prog
  have hy1 := Y0.c1
  have hyl := Y0.lt
  clear hcell
  go_enter Try.func62, Try.ntmps62
  go_wp2
  have D0 := hid (Y0.mono (bl_alloc (bl_refl w) (.map #[] 0)))
  have S0 := hid (SpotMap.made w)
  have hrb : wb.heap.size ≤ w.heap.size := Y0.old.size
  have HF := hid F
  have HR := hid hr
  have HEN := Lib.hid hen
  have HCL := Lib.hid hcl0
  clear hen hcl0
  clear hclr hmm hy1 hyl Y0
  obtain ⟨r, hr0⟩ : ∃ r, w.heap.size = r := ⟨_, rfl⟩
  obtain ⟨w1, hw1⟩ : ∃ w1, w.alloc (.map #[] 0) = w1 := ⟨_, rfl⟩
  rw [hr0] at hrb S0 ⊢
  rw [hw1] at D0 S0 ⊢
  clear hr0 hw1
  obtain ⟨L0, hL0⟩ : ∃ L0, List.replicate l.length (List.replicate D (0 : Int)) = L0 := ⟨_, rfl⟩
  obtain ⟨C0, hC0⟩ : ∃ C0, [List.replicate 8 (0 : Int)] = C0 := ⟨_, rfl⟩
  obtain ⟨Bm0, hBm0⟩ : ∃ Bm0, [(0 : Int)] = Bm0 := ⟨_, rfl⟩
  obtain ⟨g0, hg0⟩ : ∃ g0, List.replicate 8 (0 : Int) = g0 := ⟨_, rfl⟩
  rw [hL0, hC0, hBm0, hg0] at D0
  have HL0 := hid hL0
  have HC0 := hid hC0
  have HBm0 := hid hBm0
  have HG0 := hid hg0
  clear hL0 hC0 hBm0 hg0
  go_loopw [26] (fun p wr => ∃ (k : Nat) (f : Int × Int → Int), k ≤ l.length ∧ p = .int .i64 k ∧ Year wb wr Y (D : Int) (.slice (some ⟨b, off, none⟩) l.length c) D vp vc vb Bs L0 C0 Bm0 g0 ∧ SpotMap wr r f ∧ ∀ q, f q = readyN l k q) (fun p _ => l.length - (intOf p).toNat)
  case atStart => exact ⟨0, _, Nat.zero_le _, rfl, D0.out, S0.out, fun q => by simp [readyN, sumN]⟩
  case round =>
    obtain ⟨k, f, hk, rfl, HYr, HSr, hfr⟩ := hrel
    clear D0 S0
    by_cases hlt : k < l.length
    · obtain ⟨x, hx⟩ := get_at hlt
      obtain ⟨q0, q1, q2, q3, q4, q5, q6, q7⟩ := (HC.out k x hx).mono HYr.old
      have hkI : (k : Int) < (l.length : Int) := by omega
      have hbd := readyN_bd HF.out ((k : Int), x.ready) k (by omega)
      rw [← hfr] at hbd
      have hxl := HF.out.logs k x hx
      have HST := Lib.hid (readyN_step (riv_at hx) hfr)
      have HYR := hid (HYr.mono (bl_alloc (bl_refl wr) (.cells #[.int .i64 x.down, .int .i64 x.pass, .int .i64 x.takes, .int .i64 x.lo, .int .i64 x.hi, .int .i64 x.every, .int .i64 x.logs, .int .i64 x.ready] 59)))
      have HSM := hid (HSr.mono (bl_alloc (bl_refl wr) (.cells #[.int .i64 x.down, .int .i64 x.pass, .int .i64 x.takes, .int .i64 x.lo, .int .i64 x.hi, .int .i64 x.every, .int .i64 x.logs, .int .i64 x.ready] 59)))
      have hbx := World.alloc_heap_new wr (.cells #[.int .i64 x.down, .int .i64 x.pass, .int .i64 x.takes, .int .i64 x.lo, .int .i64 x.hi, .int .i64 x.every, .int .i64 x.logs, .int .i64 x.ready] 59)
      have HBX := hid hbx
      have hwf : IntKind.i64.wrap (f ((k : Int), x.ready) + x.logs) = f ((k : Int), x.ready) + x.logs := IntWalk.i64_in _ (by omega)
      clear hx hfr HYr HSr hbx
      go_upto_region 6 with (fail)
      clear q0 q1 q2 q3 q4 q5 q6 q7
      obtain ⟨X, hX⟩ : ∃ X, wr.heap.size = X := ⟨_, rfl⟩
      obtain ⟨w3, hw3⟩ : ∃ w3, wr.alloc (.cells #[.int .i64 x.down, .int .i64 x.pass, .int .i64 x.takes, .int .i64 x.lo, .int .i64 x.hi, .int .i64 x.every, .int .i64 x.logs, .int .i64 x.ready] 59) = w3 := ⟨_, rfl⟩
      rw [hX] at HBX ⊢
      rw [hw3] at HYR HSM HBX ⊢
      have hbx := HBX.out
      have HKP : Hid (MapKept (fun W => Year wb W Y (D : Int) (.slice (some ⟨b, off, none⟩) l.length c) D vp vc vb Bs L0 C0 Bm0 g0 ∧ W.heap[X]? = some (.cells #[.int .i64 x.down, .int .i64 x.pass, .int .i64 x.takes, .int .i64 x.lo, .int .i64 x.hi, .int .i64 x.every, .int .i64 x.logs, .int .i64 x.ready] 59 (0, 0))) r) := fun W f o h hm => ⟨h.1.putMap hm hrb o, heap_putMap h.2 hm o⟩
      clear hX hw3
      refine wp_region_vals0 wb HYR.out.old [31, 32, 33, 34, 35, 36, 37, 38, 39, 40, 41] (fun seen u W => (seen 0 = true → u 31 = .map (some r)) ∧
        (seen 1 = true → u 32 = .int .i64 (k : Int)) ∧
        (seen 2 = true → u 33 = .pointer (some ⟨X, 7, none⟩)) ∧
        (seen 3 = true → u 34 = .int .i64 x.ready) ∧
        (seen 4 = true → u 35 = .agg #[.int .i64 (k : Int), .int .i64 x.ready]) ∧
        (seen 5 = true → u 36 = .int .i64 (f ((k : Int), x.ready))) ∧
        (seen 6 = true → u 37 = .pointer (some ⟨X, 6, none⟩)) ∧
        (seen 7 = true → u 38 = .int .i64 x.logs) ∧
        (seen 8 = true → u 39 = .int .i64 (f ((k : Int), x.ready) + x.logs)) ∧
        (seen 9 = true → True) ∧
        (seen 10 = true → True) ∧
        (seen 11 = true → True) ∧
        (seen 11 = true → seen 5 = true) ∧
        (seen 11 = true → seen 9 = true) ∧
        (seen 10 = true → seen 9 = true) ∧
        (seen 11 = true → seen 10 = true) ∧
        (seen 8 = true → seen 5 = true) ∧
        MapF (fun W => Year wb W Y (D : Int) (.slice (some ⟨b, off, none⟩) l.length c) D vp vc vb Bs L0 C0 Bm0 g0 ∧ W.heap[X]? = some (.cells #[.int .i64 x.down, .int .i64 x.pass, .int .i64 x.takes, .int .i64 x.lo, .int .i64 x.hi, .int .i64 x.every, .int .i64 x.logs, .int .i64 x.ready] 59 (0, 0))) r f ((k : Int), x.ready) (f ((k : Int), x.ready) + x.logs) (seen 9) (seen 10) (seen 11) (u 40) (u 41) W)
        (by kernel_rfl) (by kernel_rfl) (by kernel_rfl) (by simp) ⟨by simp [valsOf], by simp [valsOf], by simp [valsOf], by simp [valsOf], by simp [valsOf], by simp [valsOf], by simp [valsOf], by simp [valsOf], by simp [valsOf], by simp [valsOf], by simp [valsOf], by simp [valsOf], by simp [valsOf], by simp [valsOf], by simp [valsOf], by simp [valsOf], by simp [valsOf], (MapF.start ⟨HYR.out.mono (bl_drew (bl_refl _)), HBX.out⟩ (HSM.out.mono (bl_drew (bl_refl _))))⟩ ?_ ?_
      · intro i o ho seen a' w9 hb9 ⟨F0, F1, F2, F3, F4, F5, F6, F7, F8, F9, F10, F11, F12, F13, F14, F15, F16, FM⟩ hv hsi hdep
        have hbx9 := FM.1.2
        have cx6 : w9.cell? ⟨X, 6, none⟩ = some (.int .i64 x.logs) := cell_of_heap hbx9
        have cx7 : w9.cell? ⟨X, 7, none⟩ = some (.int .i64 x.ready) := cell_of_heap hbx9
        have hXl := (Array.getElem?_eq_some_iff.1 hbx9).1
        rcases i with _ | _ | _ | _ | _ | _ | _ | _ | _ | _ | _ | _ | i <;> simp only [List.getElem?_cons_zero, List.getElem?_cons_succ, List.getElem?_nil, Option.some.injEq, reduceCtorEq] at ho <;> subst ho
        · have x5 := val_at (hv 5 (by simp))
          simp [valsOf] at x5
          refine wp_value (.map (some r)) (w' := w9) (by simp [execOp, x5, go_sem, cx6, cx7, hXl, hwf]) ⟨_, rfl, hb9, ?_⟩
          exact ⟨by simp, by simpa using F1, by simpa using F2, by simpa using F3, by simpa using F4, by simpa using F5, by simpa using F6, by simpa using F7, by simpa using F8, by simpa using F9, by simpa using F10, by simpa using F11, by simpa using F12, by simpa using F13, by simpa using F14, by simpa using F15, by simpa using F16, by simpa using FM⟩
        · have x6 := val_at (hv 6 (by simp))
          simp [valsOf] at x6
          refine wp_value (.int .i64 (k : Int)) (w' := w9) (by simp [execOp, x6, go_sem, cx6, cx7, hXl, hwf]) ⟨_, rfl, hb9, ?_⟩
          exact ⟨by simpa using F0, by simp, by simpa using F2, by simpa using F3, by simpa using F4, by simpa using F5, by simpa using F6, by simpa using F7, by simpa using F8, by simpa using F9, by simpa using F10, by simpa using F11, by simpa using F12, by simpa using F13, by simpa using F14, by simpa using F15, by simpa using F16, by simpa using FM⟩
        · have x7 := val_at (hv 7 (by simp))
          simp [valsOf] at x7
          refine wp_value (.pointer (some ⟨X, 7, none⟩)) (w' := w9) (by simp [execOp, x7, go_sem, cx6, cx7, hXl, hwf]) ⟨_, rfl, hb9, ?_⟩
          exact ⟨by simpa using F0, by simpa using F1, by simp, by simpa using F3, by simpa using F4, by simpa using F5, by simpa using F6, by simpa using F7, by simpa using F8, by simpa using F9, by simpa using F10, by simpa using F11, by simpa using F12, by simpa using F13, by simpa using F14, by simpa using F15, by simpa using F16, by simpa using FM⟩
        · have d2 := hdep ⟨2, .data⟩ (by simp) rfl
          have e2 := val_at (F2 d2)
          refine wp_value (.int .i64 x.ready) (w' := w9) (by simp [execOp, e2, go_sem, cx6, cx7, hXl, hwf]) ⟨_, rfl, hb9, ?_⟩
          exact ⟨by simpa using F0, by simpa using F1, by simpa using F2, by simp, by simpa using F4, by simpa using F5, by simpa using F6, by simpa using F7, by simpa using F8, by simpa using F9, by simpa using F10, by simpa using F11, by simpa using F12, by simpa using F13, by simpa using F14, by simpa using F15, by simpa using F16, by simpa using FM⟩
        · have d1 := hdep ⟨1, .data⟩ (by simp) rfl
          have e1 := val_at (F1 d1)
          have d3 := hdep ⟨3, .data⟩ (by simp) rfl
          have e3 := val_at (F3 d3)
          refine wp_value (.agg #[.int .i64 (k : Int), .int .i64 x.ready]) (w' := w9) (by simp [execOp, e1, e3, go_sem, cx6, cx7, hXl, hwf]) ⟨_, rfl, hb9, ?_⟩
          exact ⟨by simpa using F0, by simpa using F1, by simpa using F2, by simpa using F3, by simp, by simpa using F5, by simpa using F6, by simpa using F7, by simpa using F8, by simpa using F9, by simpa using F10, by simpa using F11, by simpa using F12, by simpa using F13, by simpa using F14, by simpa using F15, by simpa using F16, by simpa using FM⟩
        · have d0 := hdep ⟨0, .data⟩ (by simp) rfl
          have e0 := val_at (F0 d0)
          have d4 := hdep ⟨4, .data⟩ (by simp) rfl
          have e4 := val_at (F4 d4)
          have hs11 : seen 11 = false := by { cases hq : seen 11 with | false => rfl | true => exact absurd (F12 hq) (by rw [hsi]; decide) }
          have FM2 := FM
          rw [hs11] at FM2
          have hlk := FM2.look ((k : Int), x.ready)
          simp only [encS] at hlk
          refine wp_value (.int .i64 (f ((k : Int), x.ready))) (w' := w9) (by simp [execOp, e0, e4, go_sem, hlk]) ⟨_, rfl, hb9, ?_⟩
          exact ⟨by simpa using F0, by simpa using F1, by simpa using F2, by simpa using F3, by simpa using F4, by simp, by simpa using F6, by simpa using F7, by simpa using F8, by simpa using F9, by simpa using F10, by simpa using F11, by simp, by simpa using F13, by simpa using F14, by simpa using F15, by simp, by simpa using FM⟩
        · have x7 := val_at (hv 7 (by simp))
          simp [valsOf] at x7
          refine wp_value (.pointer (some ⟨X, 6, none⟩)) (w' := w9) (by simp [execOp, x7, go_sem, cx6, cx7, hXl, hwf]) ⟨_, rfl, hb9, ?_⟩
          exact ⟨by simpa using F0, by simpa using F1, by simpa using F2, by simpa using F3, by simpa using F4, by simpa using F5, by simp, by simpa using F7, by simpa using F8, by simpa using F9, by simpa using F10, by simpa using F11, by simpa using F12, by simpa using F13, by simpa using F14, by simpa using F15, by simpa using F16, by simpa using FM⟩
        · have d6 := hdep ⟨6, .data⟩ (by simp) rfl
          have e6 := val_at (F6 d6)
          refine wp_value (.int .i64 x.logs) (w' := w9) (by simp [execOp, e6, go_sem, cx6, cx7, hXl, hwf]) ⟨_, rfl, hb9, ?_⟩
          exact ⟨by simpa using F0, by simpa using F1, by simpa using F2, by simpa using F3, by simpa using F4, by simpa using F5, by simpa using F6, by simp, by simpa using F8, by simpa using F9, by simpa using F10, by simpa using F11, by simpa using F12, by simpa using F13, by simpa using F14, by simpa using F15, by simpa using F16, by simpa using FM⟩
        · have d5 := hdep ⟨5, .data⟩ (by simp) rfl
          have e5 := val_at (F5 d5)
          have d7 := hdep ⟨7, .data⟩ (by simp) rfl
          have e7 := val_at (F7 d7)
          refine wp_value (.int .i64 (f ((k : Int), x.ready) + x.logs)) (w' := w9) (by simp [execOp, e5, e7, go_sem, cx6, cx7, hXl, hwf]) ⟨_, rfl, hb9, ?_⟩
          exact ⟨by simpa using F0, by simpa using F1, by simpa using F2, by simpa using F3, by simpa using F4, by simpa using F5, by simpa using F6, by simpa using F7, by simp, by simpa using F9, by simpa using F10, by simpa using F11, by simpa using F12, by simpa using F13, by simpa using F14, by simpa using F15, by simpa using d5, by simpa using FM⟩
        · have d0 := hdep ⟨0, .data⟩ (by simp) rfl
          have e0 := val_at (F0 d0)
          have d4 := hdep ⟨4, .data⟩ (by simp) rfl
          have e4 := val_at (F4 d4)
          have hs11 : seen 11 = false := by { cases hq : seen 11 with | false => rfl | true => exact absurd (F13 hq) (by rw [hsi]; decide) }
          have hs10 : seen 10 = false := by { cases hq : seen 10 with | false => rfl | true => exact absurd (F14 hq) (by rw [hsi]; decide) }
          have hs9 : seen 9 = false := hsi
          rw [hs9, hs10, hs11] at FM
          obtain ⟨ue, w10, hrun, hM, hbn⟩ := FM.entry HKP.out hb9 hrb
          simp only [encS] at hrun
          refine wp_value ue (w' := w10) (by simp [execOp, e0, e4, go_sem, hrun]) ⟨_, rfl, hbn, ?_⟩
          exact ⟨by simpa using F0, by simpa using F1, by simpa using F2, by simpa using F3, by simpa using F4, by simpa using F5, by simpa using F6, by simpa using F7, by simpa using F8, by simp, by simpa using F10, by simpa using F11, by simpa using F12, by simp, by simp, by simpa using F15, by simpa using F16, by simpa [hs10, hs11] using hM⟩
        · have d9 := hdep ⟨9, .data⟩ (by simp) rfl
          have hs11 : seen 11 = false := by { cases hq : seen 11 with | false => rfl | true => exact absurd (F15 hq) (by rw [hsi]; decide) }
          have hs10 : seen 10 = false := hsi
          have q9 : seen 9 = true := d9
          rw [q9, hs10, hs11] at FM
          obtain ⟨bn, e40, hM⟩ := FM.stamp
          have e9 := val_at e40
          refine wp_value (goInt bn) (w' := w9) (by simp [execOp, e9, go_sem]) ⟨_, rfl, hb9, ?_⟩
          exact ⟨by simpa using F0, by simpa using F1, by simpa using F2, by simpa using F3, by simpa using F4, by simpa using F5, by simpa using F6, by simpa using F7, by simpa using F8, by simpa using F9, by simp, by simpa using F11, by simpa using F12, by simpa using F13, by simpa using q9, by simp, by simpa using F16, by simpa [q9, hs11] using hM⟩
        · have d0 := hdep ⟨0, .data⟩ (by simp) rfl
          have e0 := val_at (F0 d0)
          have d10 := hdep ⟨10, .data⟩ (by simp) rfl
          have d8 := hdep ⟨8, .data⟩ (by simp) rfl
          have e8 := val_at (F8 d8)
          have hs11 : seen 11 = false := hsi
          have q10 : seen 10 = true := d10
          have q9 : seen 9 = true := F14 d10
          rw [q9, q10, hs11] at FM
          obtain ⟨bn, w10, e41, hrun, hM, hbn⟩ := FM.store HKP.out hb9 hrb
          simp only [goInt] at hrun
          have e10 := val_at e41
          simp only [goInt] at e10
          refine wp_effect (w' := w10) (by simp [execOp, e0, e8, e10, go_sem, hrun]) ⟨_, rfl, hbn, ?_⟩
          exact ⟨by simpa using F0, by simpa using F1, by simpa using F2, by simpa using F3, by simpa using F4, by simpa using F5, by simpa using F6, by simpa using F7, by simpa using F8, by simpa using F9, by simpa using F10, by simp, by simpa using F16 d8, by simpa using q9, by simpa using F14, by simpa using q10, by simpa using F16, by simpa [q9, q10] using hM⟩
      intro u w5 hb5 seen hall ⟨F0, F1, F2, F3, F4, F5, F6, F7, F8, F9, F10, F11, F12, F13, F14, F15, F16, FM⟩
      replace F0 := F0 (hall 0 (by decide))
      replace F1 := F1 (hall 1 (by decide))
      replace F2 := F2 (hall 2 (by decide))
      replace F3 := F3 (hall 3 (by decide))
      replace F4 := F4 (hall 4 (by decide))
      replace F5 := F5 (hall 5 (by decide))
      replace F6 := F6 (hall 6 (by decide))
      replace F7 := F7 (hall 7 (by decide))
      replace F8 := F8 (hall 8 (by decide))
      replace F9 := F9 (hall 9 (by decide))
      replace F10 := F10 (hall 10 (by decide))
      replace F11 := F11 (hall 11 (by decide))
      simp only [hall 9 (by decide), hall 10 (by decide), hall 11 (by decide)] at FM
      obtain ⟨⟨hY5, _⟩, hS5⟩ := FM.done
      simp only [setAll, F0, F1, F2, F3, F4, F5, F6, F7, F8]
      clear F0 F1 F2 F3 F4 F5 F6 F7 F8 F9 F10 F11 F12 F13 F14 F15 F16 FM hall seen
      generalize u 40 = u40 at *
      generalize u 41 = u41 at *
      go_wp2
      go_roundw
      case rel => exact ⟨k + 1, _, by omega, by go_num, hY5, hS5, HST.out⟩
      case measure => simp [intOf]; omega
    · obtain rfl : k = l.length := by omega
      go_wp2
      have hYs : Year wb wr Y (D : Int) (.slice (some ⟨b, off, none⟩) l.length c) D vp vc vb Bs (maskL (planP Pt) l.length D 0 0) (comeRows l (planP Pt) 1) (boomRow l (planP Pt) 1) (row8 (goneF l (planP Pt) 0 0)) := by
        rw [mask_start, HL0.out, show comeRows l (planP Pt) 1 = C0 by rw [← HC0.out]; exact congrArg (fun q => [q]) (row8_zero fun j _ => start_now HF.out (planP Pt) j), show boomRow l (planP Pt) 1 = Bm0 by rw [← HBm0.out]; exact congrArg (fun q => [q]) (start_boom HF.out (planP Pt)), show row8 (goneF l (planP Pt) 0 0) = g0 by rw [← HG0.out]; exact row8_zero fun j _ => start_gone l (planP Pt) j]
        exact HYr
      have hfs : ∀ q : Int × Int, (((0 : Nat) : Int) < q.2) → f q = arr l (planP Pt) 0 0 q := fun q _ => by rw [hfr, arr_zero]; rfl
      have HYS := hid hYs
      have HSS := hid HSr
      have HFS := Lib.hid hfs
      clear hYs hfs hfr HYr HSr HL0 HC0 HBm0 HG0
      obtain ⟨w2, rfl⟩ : ∃ w2, w2 = wr := ⟨_, rfl⟩
      go_loopw [8] (fun p wr => ∃ (d : Nat) (vc vb : Value) (f : Int × Int → Int), d ≤ D ∧ p = .int .i64 ((d : Int) + 1) ∧ Year wb wr Y (D : Int) (.slice (some ⟨b, off, none⟩) l.length c) D vp vc vb Bs (maskL (planP Pt) l.length D d 0) (comeRows l (planP Pt) (d + 1)) (boomRow l (planP Pt) (d + 1)) (row8 (goneF l (planP Pt) d 0)) ∧ SpotMap wr r f ∧ (∀ q : Int × Int, (d : Int) < q.2 → f q = arr l (planP Pt) d 0 q) ∧ okTo l (planP Pt) d 0) (fun p _ => D + 1 - (intOf p).toNat)
      case atStart => exact ⟨0, vc, vb, f, Nat.zero_le _, rfl, HYS.out, HSS.out, HFS.out, fun i e hi he => by unfold Done at he; omega⟩
      case round =>
        obtain ⟨d, vc, vb, f, hd, rfl, HYr, HSr, hfr, hok⟩ := hrel
        clear HYS HSS HFS
        have hy0 := HYr.c0
        have hy3 := HYr.c3
        have hyl := HYr.lt
        have HOK := Lib.hid hok
        clear hok
        by_cases hdl : d < D
        · have hdI : decide ((d : Int) + 1 ≤ (D : Int)) = true := by simp; omega
          have hws : IntKind.i64.wrap ((d : Int) + 1 - 1) = d := by rw [IntWalk.i64_in _ (by omega)]; omega
          obtain ⟨gC, capC, hvC, hgCl, hcC⟩ := come_at HYr
          have cc0 := hcC 0 (by omega)
          have cc1 := hcC 1 (by omega)
          have cc2 := hcC 2 (by omega)
          have cc3 := hcC 3 (by omega)
          have cc4 := hcC 4 (by omega)
          have cc5 := hcC 5 (by omega)
          have cc6 := hcC 6 (by omega)
          have cc7 := hcC 7 (by omega)
          simp only [Nat.add_zero] at cc0
          have hvC2 := hvC
          subst hvC
          have hdc : (d : Int) < ((d + 1 : Nat) : Int) := by omega
          go_upto_region 12 with (fail)
          have bN := bl_alloc (bl_refl wr) (.cells #[.int .i64 (nowF l (planP Pt) d 0 0), .int .i64 (nowF l (planP Pt) d 0 1), .int .i64 (nowF l (planP Pt) d 0 2), .int .i64 (nowF l (planP Pt) d 0 3), .int .i64 (nowF l (planP Pt) d 0 4), .int .i64 (nowF l (planP Pt) d 0 5), .int .i64 (nowF l (planP Pt) d 0 6), .int .i64 (nowF l (planP Pt) d 0 7)] 86)
          have hNv : (Value.slice (some ⟨gC, 0, none⟩) (d + 1) capC).ownBlock ≠ some wr.heap.size := by
            simp only [Value.ownBlock, ne_eq, Option.some.injEq]; omega
          have HY3 := hid (HYr.mono bN)
          have HS3 := hid (HSr.mono bN)
          have kN : (wr.alloc (.cells #[.int .i64 (nowF l (planP Pt) d 0 0), .int .i64 (nowF l (planP Pt) d 0 1), .int .i64 (nowF l (planP Pt) d 0 2), .int .i64 (nowF l (planP Pt) d 0 3), .int .i64 (nowF l (planP Pt) d 0 4), .int .i64 (nowF l (planP Pt) d 0 5), .int .i64 (nowF l (planP Pt) d 0 6), .int .i64 (nowF l (planP Pt) d 0 7)] 86)).heap[wr.heap.size]? = some (.cells (ints (row8 (nowF l (planP Pt) d 0))).toArray 86 (0, 0)) := World.alloc_heap_new wr _
          have KN := hid kN
          have hNb : wb.heap.size ≤ wr.heap.size := HYr.old.size
          clear cc0 cc1 cc2 cc3 cc4 cc5 cc6 cc7 hcC HYr HSr hy0 hy3 hyl kN bN
          have HFR := Lib.hid hfr
          clear hfr
          obtain ⟨N, hN⟩ : ∃ N, wr.heap.size = N := ⟨_, rfl⟩
          obtain ⟨w3, hw3⟩ : ∃ w3, wr.alloc (.cells #[.int .i64 (nowF l (planP Pt) d 0 0), .int .i64 (nowF l (planP Pt) d 0 1), .int .i64 (nowF l (planP Pt) d 0 2), .int .i64 (nowF l (planP Pt) d 0 3), .int .i64 (nowF l (planP Pt) d 0 4), .int .i64 (nowF l (planP Pt) d 0 5), .int .i64 (nowF l (planP Pt) d 0 6), .int .i64 (nowF l (planP Pt) d 0 7)] 86) = w3 := ⟨_, rfl⟩
          rw [hN] at KN hNb hNv ⊢
          rw [hw3] at HY3 HS3 KN ⊢
          clear hw3 hN hgCl
          have hy1 := HY3.out.c1
          have hyl := HY3.out.lt
          go_wp2
          clear hy1 hyl
          go_loopw [66] (fun p wr => ∃ (i : Nat) (f : Int × Int → Int), i ≤ l.length ∧ p = .int .i64 i ∧ Year wb wr Y (D : Int) (.slice (some ⟨b, off, none⟩) l.length c) D vp (.slice (some ⟨gC, 0, none⟩) (d + 1) capC) vb Bs (maskL (planP Pt) l.length D d i) (comeRows l (planP Pt) (d + 1)) (boomRow l (planP Pt) (d + 1)) (row8 (goneF l (planP Pt) d i)) ∧ wr.heap[N]? = some (.cells (ints (row8 (nowF l (planP Pt) d i))).toArray 86 (0, 0)) ∧ SpotMap wr r f ∧ (∀ q : Int × Int, Ahead d i q → f q = arr l (planP Pt) d i q) ∧ okTo l (planP Pt) d i) (fun p _ => l.length - (intOf p).toNat)
          case atStart => exact ⟨0, f, Nat.zero_le _, rfl, HY3.out, KN.out, HS3.out, fun q hq => HFR.out q (by unfold Ahead at hq; omega), HOK.out⟩
          case round =>
            obtain ⟨i, f, hi, rfl, HYr, hNr, HSr, hfr, hok⟩ := hrel
            clear HY3 HS3 KN HFR HOK
            have HFR := Lib.hid hfr
            have HOK := Lib.hid hok
            clear hfr hok
            by_cases hil : i < l.length
            · obtain ⟨x, hx⟩ := get_at hil
              obtain ⟨q0, q1, q2, q3, q4, q5, q6, q7⟩ := (HC.out i x hx).mono HYr.old
              have hrx := riv_at hx
              have hiI : (i : Int) < (l.length : Int) := by omega
              have hi8 : (i : Int) < 8 := by omega
              go_upto_region 16 with (fail)
              have b4 := bl_alloc (bl_alloc (bl_refl wr) (.cells #[.int .i64 x.down, .int .i64 x.pass, .int .i64 x.takes, .int .i64 x.lo, .int .i64 x.hi, .int .i64 x.every, .int .i64 x.logs, .int .i64 x.ready] 59)) (.cells #[.int .i64 (i : Int), .int .i64 ((d : Int) + 1)] 110)
              have HY4 := hid (HYr.mono b4)
              have HS4 := hid (HSr.mono b4)
              have hN4 := heap_mono hNr b4
              have hX1 := heap_mono (World.alloc_heap_new wr (.cells #[.int .i64 x.down, .int .i64 x.pass, .int .i64 x.takes, .int .i64 x.lo, .int .i64 x.hi, .int .i64 x.every, .int .i64 x.logs, .int .i64 x.ready] 59)) (bl_alloc (bl_refl _) (.cells #[.int .i64 (i : Int), .int .i64 ((d : Int) + 1)] 110))
              have hX2 := World.alloc_heap_new (wr.alloc (.cells #[.int .i64 x.down, .int .i64 x.pass, .int .i64 x.takes, .int .i64 x.lo, .int .i64 x.hi, .int .i64 x.every, .int .i64 x.logs, .int .i64 x.ready] 59)) (.cells #[.int .i64 (i : Int), .int .i64 ((d : Int) + 1)] 110)
              rw [World.size_alloc] at hX2
              have hNX := (Array.getElem?_eq_some_iff.1 hNr).1
              clear q0 q1 q2 q3 q4 q5 q6 q7 HYr HSr hNr b4
              obtain ⟨X1, hX1e⟩ : ∃ X1, wr.heap.size = X1 := ⟨_, rfl⟩
              obtain ⟨w4, hw4⟩ : ∃ w4, (wr.alloc (.cells #[.int .i64 x.down, .int .i64 x.pass, .int .i64 x.takes, .int .i64 x.lo, .int .i64 x.hi, .int .i64 x.every, .int .i64 x.logs, .int .i64 x.ready] 59)).alloc (.cells #[.int .i64 (i : Int), .int .i64 ((d : Int) + 1)] 110) = w4 := ⟨_, rfl⟩
              rw [hX1e] at hX1 hX2 hNX ⊢
              rw [hw4] at HY4 HS4 hN4 hX1 hX2 ⊢
              clear hX1e hw4
              have hnow : nowF l (planP Pt) d i i = come (rivP l) (planP Pt) i d := by unfold nowF; rw [if_pos hil, if_neg (by omega)]
              have hnow2 : nowF l (planP Pt) d (i + 1) i = come (rivP l) (planP Pt) i ((d : Int) + 1) := by unfold nowF; rw [if_pos hil, if_pos (by omega)]
              have hv : nowF l (planP Pt) d i i + f ((i : Int), (d : Int) + 1) = nowF l (planP Pt) d (i + 1) i := by
                rw [hnow, hnow2, HFR.out _ (.inr ⟨rfl, .inr (by omega)⟩), arr_now HF.out hil d]
              have hcb2 : 0 ≤ nowF l (planP Pt) d (i + 1) i ∧ nowF l (planP Pt) d (i + 1) i ≤ 900000000 := by
                rw [hnow2]; exact come_bd HF.out hsm hil _ (by omega)
              have hwv : IntKind.i64.wrap (nowF l (planP Pt) d i i + f ((i : Int), (d : Int) + 1)) = nowF l (planP Pt) d i i + f ((i : Int), (d : Int) + 1) := by rw [hv]; exact IntWalk.i64_in _ (by omega)
              have hcN : w4.cell? ⟨N, i, none⟩ = some (.int .i64 (nowF l (planP Pt) d i i)) := by rw [cell_of_heap hN4]; simp [ints, row8_at (show i < 8 by omega)]
              have hcX0 : w4.cell? ⟨X1 + 1, 0, none⟩ = some (.int .i64 (i : Int)) := cell_of_heap hX2
              have hcX1 : w4.cell? ⟨X1 + 1, 1, none⟩ = some (.int .i64 ((d : Int) + 1)) := cell_of_heap hX2
              have lX2 := (Array.getElem?_eq_some_iff.1 hX2).1
              have lN4 := (Array.getElem?_eq_some_iff.1 hN4).1
              have hlk : ∀ (dd : Nat) (os : Array Obj), (Instr.lookup 108 (.map (some r)) (.agg #[.int .i64 (i : Int), .int .i64 ((d : Int) + 1)]) false).run Try.prog (Sort.grow (redrawn w4 dd) os) = .ok (.int .i64 (f ((i : Int), (d : Int) + 1))) (Sort.grow (redrawn w4 dd) os) := fun dd os =>
                (HS4.out.mono (below_regrown w4 dd os)).lookup ((i : Int), (d : Int) + 1)
              have HN4 := hid hN4
              have HX1 := hid hX1
              have HX2 := hid hX2
              have HV := hid hv
              have HNW := hid hnow
              have HNW2 := hid hnow2
              clear hN4 hX1 hX2 hv hnow hnow2
              refine wp_region_below_tail 8 (by kernel_rfl) (by kernel_rfl) ?_
              simp only [List.take_succ_cons, List.take_zero, List.drop_succ_cons, List.drop_zero]
              repeat (first | go_big_quiet_step (fail) | quiet_step (fail))
              refine wpQuiet_nil ?_
              intro w5 hb5
              clear hlk hcN hcX0 hcX1
              have Y5 := HY4.out.mono hb5
              have S5 := HS4.out.mono hb5
              have N5 := heap_mono HN4.out hb5
              have X15 := heap_mono HX1.out hb5
              have X25 := heap_mono HX2.out hb5
              have lN5 := (Array.getElem?_eq_some_iff.1 N5).1
              have fN5 : w5.frozen? ⟨N, i, none⟩ = false := frozen_of_heap N5
              have cN5 : w5.cell? ⟨N, i, none⟩ = some (.int .i64 (nowF l (planP Pt) d i i)) := by rw [cell_of_heap N5]; simp [ints, row8_at (show i < 8 by omega)]
              have Y6 := hid (Y5.setOther (o := i) (u := .int .i64 (nowF l (planP Pt) d i i + f ((i : Int), (d : Int) + 1))) N5 hNb (by decide) hNv)
              have S6 := hid (S5.setCell (o := i) (u := .int .i64 (nowF l (planP Pt) d i i + f ((i : Int), (d : Int) + 1))) N5)
              have N6 : Hid ((w5.setCell ⟨N, i, none⟩ (.int .i64 (nowF l (planP Pt) d i i + f ((i : Int), (d : Int) + 1)))).heap[N]? = some (.cells (ints (row8 (nowF l (planP Pt) d (i + 1)))).toArray 86 (0, 0))) := by
                show (w5.setCell ⟨N, i, none⟩ (.int .i64 (nowF l (planP Pt) d i i + f ((i : Int), (d : Int) + 1)))).heap[N]? = _
                rw [heap_setCell_same _ _ _ _ _ _ N5, HV.out, ← row8_set (f := nowF l (planP Pt) d i) (g := nowF l (planP Pt) d (i + 1)) (i := i) (by omega) (fun j _ hj => nowF_step hj)]
                simp [ints, List.map_set]
              have X16 := hid (past_set (o := i) (u := .int .i64 (nowF l (planP Pt) d i i + f ((i : Int), (d : Int) + 1))) (show X1 ≠ N by omega) X15)
              have X26 := hid (past_set (o := i) (u := .int .i64 (nowF l (planP Pt) d i i + f ((i : Int), (d : Int) + 1))) (show X1 + 1 ≠ N by omega) X25)
              clear Y5 S5 N5 X15 X25 HY4 HS4 HN4 HX1 HX2
              go_upto_region 17 with (fail)
              obtain ⟨w6, hw6⟩ : ∃ w6, w5.setCell ⟨N, i, none⟩ (.int .i64 (nowF l (planP Pt) d i i + f ((i : Int), (d : Int) + 1))) = w6 := ⟨_, rfl⟩
              rw [hw6] at Y6 S6 N6 X16 X26 ⊢
              clear hw6 lN5 fN5 cN5 hb5 lX2 lN4 hwv
              obtain ⟨w7, o7, hdel, hw7, hS7⟩ := S6.out.delete ((i : Int), (d : Int) + 1) 0
              simp only [encS] at hdel
              have Y7 := Y6.out.putMap S6.out hrb o7
              have N7 := heap_putMap N6.out S6.out o7
              have X17 := heap_putMap X16.out S6.out o7
              have X27 := heap_putMap X26.out S6.out o7
              rw [← hw7] at Y7 N7 X17 X27
              have hcX0 : w6.cell? ⟨X1 + 1, 0, none⟩ = some (.int .i64 (i : Int)) := cell_of_heap X26.out
              have hcX1 : w6.cell? ⟨X1 + 1, 1, none⟩ = some (.int .i64 ((d : Int) + 1)) := cell_of_heap X26.out
              have z0 : w7.cell? ⟨X1, 0, none⟩ = some (.int .i64 x.down) := cell_of_heap X17
              have z1 : w7.cell? ⟨X1, 1, none⟩ = some (.int .i64 x.pass) := cell_of_heap X17
              have z2 : w7.cell? ⟨X1, 2, none⟩ = some (.int .i64 x.takes) := cell_of_heap X17
              have z3 : w7.cell? ⟨X1, 3, none⟩ = some (.int .i64 x.lo) := cell_of_heap X17
              have z4 : w7.cell? ⟨X1, 4, none⟩ = some (.int .i64 x.hi) := cell_of_heap X17
              have z5 : w7.cell? ⟨X1, 5, none⟩ = some (.int .i64 x.every) := cell_of_heap X17
              have z6 : w7.cell? ⟨X1, 6, none⟩ = some (.int .i64 x.logs) := cell_of_heap X17
              have z7 : w7.cell? ⟨X1, 7, none⟩ = some (.int .i64 x.ready) := cell_of_heap X17
              have xw := HF.out.water i x hx
              have xe := HF.out.every i x hx
              have xp := HF.out.pass i x hx
              have xt := HF.out.takes i x hx
              have xd := HF.out.down i x hx
              have hF7 : ∀ q : Int × Int, Ahead d (i + 1) q → updS f ((i : Int), (d : Int) + 1) 0 q = arr l (planP Pt) d i q := fun q hq => by
                have hne : ¬ q = ((i : Int), (d : Int) + 1) := by
                  rintro rfl
                  unfold Ahead at hq
                  simp only at hq
                  omega
                unfold updS
                rw [if_neg hne]
                exact HFR.out q (by unfold Ahead at hq ⊢; omega)
              have HF7 := Lib.hid hF7
              have HY7 := hid Y7
              have HS7 := hid hS7
              have HN7 := hid N7
              have HX17 := hid X17
              have HX27 := hid X27
              have HRX := hid hrx
              clear Y6 S6 N6 X16 X26 Y7 hS7 N7 X17 X27 hF7 hw7 HFR hx hrx
              generalize updS f ((i : Int), (d : Int) + 1) 0 = f7 at *
              have hop := open_any x ((d : Int) + 1) w7 (by omega) (by omega) (by omega)
              by_cases ho : openB x ((d : Int) + 1) = true
              case neg =>
                have hop' : Hid (Calls Try.prog 60 #[encR x, .int .i64 ((d : Int) + 1)] w7 fun e w' => e = .returned (.bool false) ∧ Below w7.heap.size w7 w') := by
                  rw [show openB x ((d : Int) + 1) = false by simpa using ho] at hop; exact hop
                have hp0 := HCL.out i d hil hdl (by rw [HRX.out]; simpa using ho)
                have hstep := step_closed HF.out hPt hsm hil hdl hp0
                have HE1 := hid hstep.1
                have HE2 := hid hstep.2.1
                have HE3 := Lib.hid hstep.2.2.1
                have HE4 := hid (hstep.2.2.2 HOK.out)
                clear hop ho hp0 hstep
                go_wp2_with fail
                refine hop'.out.mono ?_
                rintro e w8 ⟨rfl, hb8⟩
                have Y8 := hid (HY7.out.mono hb8)
                have S8 := hid (HS7.out.mono hb8)
                have N8 := hid (heap_mono HN7.out hb8)
                clear hdel hcX0 hcX1 z0 z1 z2 z3 z4 z5 z6 z7 hop'
                go_wp2
                go_roundw
                case rel => exact ⟨i + 1, f7, by omega, by go_num, by rw [HE1.out, HE2.out]; exact Y8.out, N8.out, S8.out, fun q hq => by rw [HE3.out]; exact HF7.out q hq, HE4.out⟩
                case measure => simp [intOf]; omega
              have hop' : Hid (Calls Try.prog 60 #[encR x, .int .i64 ((d : Int) + 1)] w7 fun e w' => e = .returned (.bool true) ∧ Below w7.heap.size w7 w') := by
                rw [ho] at hop; exact hop
              have HO := hid ho
              clear hop ho
              go_wp2_with fail
              refine hop'.out.mono ?_
              rintro e w8 ⟨rfl, hb8⟩
              go_upto_region 19 with (fail)
              have hgo : goneF l (planP Pt) d i i = gone (planP Pt) i d := by unfold goneF; rw [if_pos hil, if_neg (by omega)]
              have hgb := gone_range hsm i (d : Int) (by omega)
              rw [← hgo] at hgb
              have HY8 := hid (HY7.out.mono hb8)
              have HS8 := hid (HS7.out.mono hb8)
              have HN8 := hid (heap_mono HN7.out hb8)
              have HX18 := hid (heap_mono HX17.out hb8)
              have HX28 := hid (heap_mono HX27.out hb8)
              have hcN8 : w8.cell? ⟨N, i, none⟩ = some (.int .i64 (nowF l (planP Pt) d (i + 1) i)) := by rw [cell_of_heap HN8.out]; simp [ints, row8_at (show i < 8 by omega)]
              have hcG8 : w8.cell? ⟨Y, 5 + i, none⟩ = some (.int .i64 (goneF l (planP Pt) d i i)) := HY8.out.cg (row8_at (by omega))
              have hYl8 := HY8.out.lt
              have hNl8 := (Array.getElem?_eq_some_iff.1 HN8.out).1
              have Gen : Hid (∀ W, Below w8.heap.size w8 W → Calls Try.prog 63 #[.int .i64 (i : Int), .int .i64 ((d : Int) + 1), .int .i64 (nowF l (planP Pt) d (i + 1) i - goneF l (planP Pt) d i i), .pointer (some ⟨Q, 0, none⟩)] W fun e w' => e = .returned (.int .i64 (planP Pt i (d + 1))) ∧ Below W.heap.size W w') := fun W hW => by
                have h := HEN.out i d W hil hdl (by rw [HRX.out]; exact HO.out) (bl_trans HY8.out.old hW) (HY8.out.mono hW).c1
                rwa [hgo, HNW2.out]
              have hwa : IntKind.i64.wrap (nowF l (planP Pt) d (i + 1) i - goneF l (planP Pt) d i i) = nowF l (planP Pt) d (i + 1) i - goneF l (planP Pt) d i i := IntWalk.i64_in _ (by omega)
              have HGO := hid hgo
              clear hdel hcX0 hcX1 z0 z1 z2 z3 z4 z5 z6 z7 hop' HY7 HS7 HN7 HX17 HX27 hb8 hgo
              refine wp_region_below (by kernel_rfl) (by kernel_rfl) ?_
              repeat (first | go_big_quiet_step (first | (go_at_call 63; exact Calls.regrown_of (Gen.out _ (below_regrown _ _ _)))) | quiet_step (first | (go_at_call 63; exact Calls.regrown_of (Gen.out _ (below_regrown _ _ _)))))
              refine wpQuiet_nil ?_
              intro w9 hb9
              go_upto_region 20 with (fail)
              clear hcN8 hcG8 hYl8 hNl8 Gen
              have HY9 := hid (HY8.out.mono hb9)
              have HS9 := hid (HS8.out.mono hb9)
              have HN9 := hid (heap_mono HN8.out hb9)
              have HX19 := hid (heap_mono HX18.out hb9)
              have HX29 := hid (heap_mono HX28.out hb9)
              clear HY8 HS8 HN8 HX18 HX28 hb9
              have hcN9 : w9.cell? ⟨N, i, none⟩ = some (.int .i64 (nowF l (planP Pt) d (i + 1) i)) := by rw [cell_of_heap HN9.out]; simp [ints, row8_at (show i < 8 by omega)]
              have hcG9 : w9.cell? ⟨Y, 5 + i, none⟩ = some (.int .i64 (goneF l (planP Pt) d i i)) := HY9.out.cg (row8_at (by omega))
              have hYl9 := HY9.out.lt
              have hNl9 := (Array.getElem?_eq_some_iff.1 HN9.out).1
              have hpb := plan_bd hsm i (d + 1)
              have hgs : Hid (gone (planP Pt) i ((d : Int) + 1) = goneF l (planP Pt) d i i + planP Pt i (d + 1)) := by
                show gone (planP Pt) i ((d : Int) + 1) = _
                rw [gone_succ, HGO.out]
              by_cases hle : planP Pt i (d + 1) ≤ nowF l (planP Pt) d (i + 1) i - goneF l (planP Pt) d i i
              case neg =>
                have hno : Hid (¬ okTo l (planP Pt) D 0) := fun hok => by
                  have h1 := hok i d hil (.inl hdl)
                  rw [hgs.out, ← HNW2.out] at h1
                  omega
                have hgt : decide (nowF l (planP Pt) d (i + 1) i - goneF l (planP Pt) d i i < planP Pt i (d + 1)) = true := by simp; omega
                clear hle
                refine wp_region_below (by kernel_rfl) (by kernel_rfl) ?_
                repeat (first | go_big_quiet_step (fail) | quiet_step (fail))
                refine wpQuiet_nil ?_
                intro w10 hb10
                go_wp2
                go_ret
                exact ⟨bl_trans HY9.out.old hb10, .inr ⟨hno.out, rfl⟩⟩
              have hgt : decide (nowF l (planP Pt) d (i + 1) i - goneF l (planP Pt) d i i < planP Pt i (d + 1)) = false := by simp; omega
              have HOK2 : Hid (okTo l (planP Pt) d (i + 1)) := by
                intro j e hj hdn
                by_cases e1 : j = i ∧ e = d
                · obtain ⟨rfl, rfl⟩ := e1
                  rw [hgs.out, ← HNW2.out]; omega
                · exact HOK.out j e hj (by unfold Done at hdn ⊢; omega)
              clear hle HOK
              refine wp_region_below (by kernel_rfl) (by kernel_rfl) ?_
              repeat (first | go_big_quiet_step (fail) | quiet_step (fail))
              refine wpQuiet_nil ?_
              intro w10 hb10
              clear hcN9 hcG9 hYl9 hNl9 hgt
              have HY10 := hid (HY9.out.mono hb10)
              have HS10 := hid (HS9.out.mono hb10)
              have HN10 := hid (heap_mono HN9.out hb10)
              have HX110 := hid (heap_mono HX19.out hb10)
              have HX210 := hid (heap_mono HX29.out hb10)
              clear HY9 HS9 HN9 HX19 HX29 hb10
              go_upto_region 22 with (fail)
              have hq := mask_row (P := planP Pt) (D := D) (d := d) (i := i) hil
              obtain ⟨q, hqe⟩ : ∃ q, ((List.range D).map fun e => if e < d ∨ e = d ∧ i < i then planP Pt i (e + 1) else 0) = q := ⟨_, rfl⟩
              rw [hqe] at hq
              obtain ⟨gP, capP, B, hvp, hBi, hcP, hkB, hql, hBb, hgPl⟩ := plan_at HY10.out (mask_full (planP Pt) l.length D d i).1 hq
              have hcY2 : w10.cell? ⟨Y, 2, none⟩ = some (.slice (some ⟨gP, 0, none⟩) l.length capP) := by rw [← hvp]; exact HY10.out.c2
              have hms : Hid ((maskL (planP Pt) l.length D d i).set i (q.set d (planP Pt i (d + 1))) = maskL (planP Pt) l.length D d (i + 1)) := by
                have h := mask_set (P := planP Pt) (D := D) (d := d) hil hdl
                rwa [show (maskL (planP Pt) l.length D d i).getD i [] = q by rw [List.getD, hq]; rfl] at h
              have Y11 := HY10.out.setRow hBi hq (d := d) (by rw [hql]; exact hdl) (planP Pt i (d + 1))
              rw [hms.out] at Y11
              have HY11 := hid Y11
              have S11 := hid (HS10.out.setCell (o := d) (u := .int .i64 (planP Pt i (d + 1))) hkB)
              have N11 := hid (past_set (o := d) (u := .int .i64 (planP Pt i (d + 1))) (ne_type HN10.out hkB (by decide)) HN10.out)
              have X111 := hid (past_set (o := d) (u := .int .i64 (planP Pt i (d + 1))) (ne_type HX110.out hkB (by decide)) HX110.out)
              have X211 := hid (past_set (o := d) (u := .int .i64 (planP Pt i (d + 1))) (ne_type HX210.out hkB (by decide)) HX210.out)
              obtain ⟨yq, hyq⟩ := get_at (l := q) (k := d) (by rw [hql]; exact hdl)
              have cB10 : w10.cell? ⟨B, d, none⟩ = some (.int .i64 yq) := by rw [cell_of_heap hkB]; simp [ints, hyq]
              have fB10 : w10.frozen? ⟨B, d, none⟩ = false := frozen_of_heap hkB
              have hdr : (d : Int) < (D : Int) := by omega
              have hYl10 := HY10.out.lt
              clear HY10 HS10 HN10 HX110 HX210 Y11 hq hqe hBi hkB hms hvp hyq
              go_upto_region 23 with (fail)
              obtain ⟨w11, hw11⟩ : ∃ w11, w10.setCell ⟨B, d, none⟩ (.int .i64 (planP Pt i (d + 1))) = w11 := ⟨_, rfl⟩
              rw [hw11] at HY11 S11 N11 X111 X211 ⊢
              clear hw11 cB10 fB10 hcY2 hcP hYl10 hgPl
              have hcG : w11.cell? ⟨Y, 5 + i, none⟩ = some (.int .i64 (goneF l (planP Pt) d i i)) := HY11.out.cg (row8_at (by omega))
              have hYl11 := HY11.out.lt
              have hwg : IntKind.i64.wrap (goneF l (planP Pt) d i i + planP Pt i (d + 1)) = goneF l (planP Pt) d i i + planP Pt i (d + 1) := IntWalk.i64_in _ (by omega)
              refine wp_region_below_tail 11 (by kernel_rfl) (by kernel_rfl) ?_
              simp only [List.take_succ_cons, List.take_zero, List.drop_succ_cons, List.drop_zero]
              repeat (first | go_big_quiet_step (fail) | quiet_step (fail))
              refine wpQuiet_nil ?_
              intro w12 hb12
              have Y12 := HY11.out.mono hb12
              have S12 := S11.out.mono hb12
              have N12 := heap_mono N11.out hb12
              have X112 := heap_mono X111.out hb12
              have X212 := heap_mono X211.out hb12
              have cG12 : w12.cell? ⟨Y, 5 + i, none⟩ = some (.int .i64 (goneF l (planP Pt) d i i)) := Y12.cg (row8_at (by omega))
              have fG12 := Y12.fr (5 + i)
              have lG12 := Y12.lt
              have Y13 := Y12.setGone i (goneF l (planP Pt) d i i + planP Pt i (d + 1))
              have hgF : goneF l (planP Pt) d i i + planP Pt i (d + 1) = goneF l (planP Pt) d (i + 1) i := by
                rw [← hgs.out]; unfold goneF; rw [if_pos hil, if_pos (by omega)]
              have e13 : (row8 (goneF l (planP Pt) d i)).set i (goneF l (planP Pt) d i i + planP Pt i (d + 1)) = row8 (goneF l (planP Pt) d (i + 1)) := by
                rw [hgF]; exact row8_set (by omega) fun j _ hj => goneF_step hj
              rw [e13] at Y13
              have HY13 := hid Y13
              have S13 := hid (S12.setCell (o := 5 + i) (u := .int .i64 (goneF l (planP Pt) d i i + planP Pt i (d + 1))) Y12.box)
              have N13 := hid (past_set (o := 5 + i) (u := .int .i64 (goneF l (planP Pt) d i i + planP Pt i (d + 1))) (ne_type N12 Y12.box (by decide)) N12)
              have X113 := hid (past_set (o := 5 + i) (u := .int .i64 (goneF l (planP Pt) d i i + planP Pt i (d + 1))) (ne_type X112 Y12.box (by decide)) X112)
              have X213 := hid (past_set (o := 5 + i) (u := .int .i64 (goneF l (planP Pt) d i i + planP Pt i (d + 1))) (ne_type X212 Y12.box (by decide)) X212)
              clear Y12 S12 N12 X112 X212 Y13 hgF e13 HY11 S11 N11 X111 X211 hcG hYl11 hb12
              go_upto_region 24 with (fail)
              obtain ⟨w13, hw13⟩ : ∃ w13, w12.setCell ⟨Y, 5 + i, none⟩ (.int .i64 (goneF l (planP Pt) d i i + planP Pt i (d + 1))) = w13 := ⟨_, rfl⟩
              rw [hw13] at HY13 S13 N13 X113 X213 ⊢
              clear hw13 cG12 fG12 lG12 hwg
              have y0 : w13.cell? ⟨X1, 0, none⟩ = some (.int .i64 x.down) := cell_of_heap X113.out
              have y2 : w13.cell? ⟨X1, 2, none⟩ = some (.int .i64 x.takes) := cell_of_heap X113.out
              have hwt : IntKind.i64.wrap ((d : Int) + 1 + x.takes) = (d : Int) + 1 + x.takes := IntWalk.i64_in _ (by omega)
              have hneq : ∀ W : World, (binOp .neq 110 (.agg #[.int .i64 x.down, .int .i64 ((d : Int) + 1 + x.takes)]) (.agg #[.int .i64 (i : Int), .int .i64 ((d : Int) + 1)])).run Try.prog W = .ok (.bool true) W := fun W => neq110_run (x.down, (d : Int) + 1 + x.takes) ((i : Int), (d : Int) + 1) (by simp only [ne_eq, Prod.mk.injEq]; omega) W
              have hAK : Ahead d (i + 1) (x.down, (d : Int) + 1 + x.takes) := by unfold Ahead; simp only; omega
              have hfK := HF7.out _ hAK
              have hbK := arr_bd HF.out hsm d i (x.down, (d : Int) + 1 + x.takes)
              rw [← hfK] at hbK
              have HMS := Lib.hid (map_step hil HRX.out hAK HF7.out)
              have b14 := bl_alloc (bl_refl w13) (.cells #[.int .i64 x.down, .int .i64 ((d : Int) + 1 + x.takes)] 110)
              have HY14 := hid (HY13.out.mono b14)
              have HS14 := hid (S13.out.mono b14)
              have HN14 := hid (heap_mono N13.out b14)
              have HX214 := hid (heap_mono X213.out b14)
              have HX3 := hid (World.alloc_heap_new w13 (.cells #[.int .i64 x.down, .int .i64 ((d : Int) + 1 + x.takes)] 110))
              clear HY13 S13 N13 X213 b14 hfK hAK xw xe xp xd
              go_upto_region 25 with (fail)
              obtain ⟨X3, hX3⟩ : ∃ X3, w13.heap.size = X3 := ⟨_, rfl⟩
              obtain ⟨w14, hw14⟩ : ∃ w14, w13.alloc (.cells #[.int .i64 x.down, .int .i64 ((d : Int) + 1 + x.takes)] 110) = w14 := ⟨_, rfl⟩
              rw [hX3] at HX3 ⊢
              rw [hw14] at HY14 HS14 HN14 HX214 HX3 ⊢
              clear hX3 hw14 y0 y2 X113
              have a0 : w14.cell? ⟨X3, 0, none⟩ = some (.int .i64 x.down) := cell_of_heap HX3.out
              have a1 : w14.cell? ⟨X3, 1, none⟩ = some (.int .i64 ((d : Int) + 1 + x.takes)) := cell_of_heap HX3.out
              have a2 : w14.cell? ⟨X1 + 1, 0, none⟩ = some (.int .i64 (i : Int)) := cell_of_heap HX214.out
              have a3 : w14.cell? ⟨X1 + 1, 1, none⟩ = some (.int .i64 ((d : Int) + 1)) := cell_of_heap HX214.out
              go_upto_region 26 with (fail)
              clear a0 a1 a2 a3 hneq
              have hbx := HX3.out
              have hwf : IntKind.i64.wrap (f7 (x.down, (d : Int) + 1 + x.takes) + planP Pt i (d + 1)) = f7 (x.down, (d : Int) + 1 + x.takes) + planP Pt i (d + 1) := IntWalk.i64_in _ (by omega)
              have HKP : Hid (MapKept (fun W => (Year wb W Y (D : Int) (.slice (some ⟨b, off, none⟩) l.length c) D vp (.slice (some ⟨gC, 0, none⟩) (d + 1) capC) vb Bs (maskL (planP Pt) l.length D d (i + 1)) (comeRows l (planP Pt) (d + 1)) (boomRow l (planP Pt) (d + 1)) (row8 (goneF l (planP Pt) d (i + 1))) ∧ W.heap[N]? = some (.cells (ints (row8 (nowF l (planP Pt) d (i + 1)))).toArray 86 (0, 0))) ∧ W.heap[X3]? = some (.cells #[.int .i64 x.down, .int .i64 ((d : Int) + 1 + x.takes)] 110 (0, 0))) r) := fun W f o h hm => ⟨⟨h.1.1.putMap hm hrb o, heap_putMap h.1.2 hm o⟩, heap_putMap h.2 hm o⟩
              refine wp_region_vals0 wb HY14.out.old [146, 147, 148, 149, 150, 151, 152] (fun seen u W => (seen 0 = true → u 146 = .map (some r)) ∧
                (seen 1 = true → u 147 = .agg #[.int .i64 x.down, .int .i64 ((d : Int) + 1 + x.takes)]) ∧
                (seen 2 = true → u 148 = .int .i64 (f7 (x.down, (d : Int) + 1 + x.takes))) ∧
                (seen 3 = true → u 149 = .int .i64 (planP Pt i (d + 1))) ∧
                (seen 4 = true → u 150 = .int .i64 (f7 (x.down, (d : Int) + 1 + x.takes) + planP Pt i (d + 1))) ∧
                (seen 5 = true → True) ∧
                (seen 6 = true → True) ∧
                (seen 7 = true → True) ∧
                (seen 7 = true → seen 2 = true) ∧
                (seen 7 = true → seen 5 = true) ∧
                (seen 6 = true → seen 5 = true) ∧
                (seen 7 = true → seen 6 = true) ∧
                (seen 4 = true → seen 2 = true) ∧
                MapF (fun W => (Year wb W Y (D : Int) (.slice (some ⟨b, off, none⟩) l.length c) D vp (.slice (some ⟨gC, 0, none⟩) (d + 1) capC) vb Bs (maskL (planP Pt) l.length D d (i + 1)) (comeRows l (planP Pt) (d + 1)) (boomRow l (planP Pt) (d + 1)) (row8 (goneF l (planP Pt) d (i + 1))) ∧ W.heap[N]? = some (.cells (ints (row8 (nowF l (planP Pt) d (i + 1)))).toArray 86 (0, 0))) ∧ W.heap[X3]? = some (.cells #[.int .i64 x.down, .int .i64 ((d : Int) + 1 + x.takes)] 110 (0, 0))) r f7 (x.down, (d : Int) + 1 + x.takes) (f7 (x.down, (d : Int) + 1 + x.takes) + planP Pt i (d + 1)) (seen 5) (seen 6) (seen 7) (u 151) (u 152) W)
                (by kernel_rfl) (by kernel_rfl) (by kernel_rfl) (by simp) ⟨by simp [valsOf], by simp [valsOf], by simp [valsOf], by simp [valsOf], by simp [valsOf], by simp [valsOf], by simp [valsOf], by simp [valsOf], by simp [valsOf], by simp [valsOf], by simp [valsOf], by simp [valsOf], by simp [valsOf], (MapF.start ⟨⟨HY14.out.mono (bl_drew (bl_refl _)), HN14.out⟩, HX3.out⟩ (HS14.out.mono (bl_drew (bl_refl _))))⟩ ?_ ?_
              · intro i o ho seen a' w9 hb9 ⟨F0, F1, F2, F3, F4, F5, F6, F7, F8, F9, F10, F11, F12, FM⟩ hv hsi hdep
                have hbx9 := FM.1.2
                have cx0 : w9.cell? ⟨X3, 0, none⟩ = some (.int .i64 x.down) := cell_of_heap hbx9
                have cx1 : w9.cell? ⟨X3, 1, none⟩ = some (.int .i64 ((d : Int) + 1 + x.takes)) := cell_of_heap hbx9
                have hXl := (Array.getElem?_eq_some_iff.1 hbx9).1
                rcases i with _ | _ | _ | _ | _ | _ | _ | _ | i <;> simp only [List.getElem?_cons_zero, List.getElem?_cons_succ, List.getElem?_nil, Option.some.injEq, reduceCtorEq] at ho <;> subst ho
                · have x5 := val_at (hv 5 (by simp))
                  simp [valsOf] at x5
                  refine wp_value (.map (some r)) (w' := w9) (by simp [execOp, x5, go_sem, cx0, cx1, hXl, hwf]) ⟨_, rfl, hb9, ?_⟩
                  exact ⟨by simp, by simpa using F1, by simpa using F2, by simpa using F3, by simpa using F4, by simpa using F5, by simpa using F6, by simpa using F7, by simpa using F8, by simpa using F9, by simpa using F10, by simpa using F11, by simpa using F12, by simpa using FM⟩
                · have x14 := val_at (hv 14 (by simp))
                  simp [valsOf] at x14
                  refine wp_value (.agg #[.int .i64 x.down, .int .i64 ((d : Int) + 1 + x.takes)]) (w' := w9) (by simp [execOp, x14, go_sem, cx0, cx1, hXl, hwf]) ⟨_, rfl, hb9, ?_⟩
                  exact ⟨by simpa using F0, by simp, by simpa using F2, by simpa using F3, by simpa using F4, by simpa using F5, by simpa using F6, by simpa using F7, by simpa using F8, by simpa using F9, by simpa using F10, by simpa using F11, by simpa using F12, by simpa using FM⟩
                · have d0 := hdep ⟨0, .data⟩ (by simp) rfl
                  have e0 := val_at (F0 d0)
                  have d1 := hdep ⟨1, .data⟩ (by simp) rfl
                  have e1 := val_at (F1 d1)
                  have hs7 : seen 7 = false := by { cases hq : seen 7 with | false => rfl | true => exact absurd (F8 hq) (by rw [hsi]; decide) }
                  have FM2 := FM
                  rw [hs7] at FM2
                  have hlk := FM2.look (x.down, (d : Int) + 1 + x.takes)
                  simp only [encS] at hlk
                  refine wp_value (.int .i64 (f7 (x.down, (d : Int) + 1 + x.takes))) (w' := w9) (by simp [execOp, e0, e1, go_sem, hlk]) ⟨_, rfl, hb9, ?_⟩
                  exact ⟨by simpa using F0, by simpa using F1, by simp, by simpa using F3, by simpa using F4, by simpa using F5, by simpa using F6, by simpa using F7, by simp, by simpa using F9, by simpa using F10, by simpa using F11, by simp, by simpa using FM⟩
                · have x13 := val_at (hv 13 (by simp))
                  simp [valsOf] at x13
                  refine wp_value (.int .i64 (planP Pt i (d + 1))) (w' := w9) (by simp [execOp, x13, go_sem, cx0, cx1, hXl, hwf]) ⟨_, rfl, hb9, ?_⟩
                  exact ⟨by simpa using F0, by simpa using F1, by simpa using F2, by simp, by simpa using F4, by simpa using F5, by simpa using F6, by simpa using F7, by simpa using F8, by simpa using F9, by simpa using F10, by simpa using F11, by simpa using F12, by simpa using FM⟩
                · have d2 := hdep ⟨2, .data⟩ (by simp) rfl
                  have e2 := val_at (F2 d2)
                  have d3 := hdep ⟨3, .data⟩ (by simp) rfl
                  have e3 := val_at (F3 d3)
                  refine wp_value (.int .i64 (f7 (x.down, (d : Int) + 1 + x.takes) + planP Pt i (d + 1))) (w' := w9) (by simp [execOp, e2, e3, go_sem, cx0, cx1, hXl, hwf]) ⟨_, rfl, hb9, ?_⟩
                  exact ⟨by simpa using F0, by simpa using F1, by simpa using F2, by simpa using F3, by simp, by simpa using F5, by simpa using F6, by simpa using F7, by simpa using F8, by simpa using F9, by simpa using F10, by simpa using F11, by simpa using d2, by simpa using FM⟩
                · have d0 := hdep ⟨0, .data⟩ (by simp) rfl
                  have e0 := val_at (F0 d0)
                  have d1 := hdep ⟨1, .data⟩ (by simp) rfl
                  have e1 := val_at (F1 d1)
                  have hs7 : seen 7 = false := by { cases hq : seen 7 with | false => rfl | true => exact absurd (F9 hq) (by rw [hsi]; decide) }
                  have hs6 : seen 6 = false := by { cases hq : seen 6 with | false => rfl | true => exact absurd (F10 hq) (by rw [hsi]; decide) }
                  have hs5 : seen 5 = false := hsi
                  rw [hs5, hs6, hs7] at FM
                  obtain ⟨ue, w10, hrun, hM, hbn⟩ := FM.entry HKP.out hb9 hrb
                  simp only [encS] at hrun
                  refine wp_value ue (w' := w10) (by simp [execOp, e0, e1, go_sem, hrun]) ⟨_, rfl, hbn, ?_⟩
                  exact ⟨by simpa using F0, by simpa using F1, by simpa using F2, by simpa using F3, by simpa using F4, by simp, by simpa using F6, by simpa using F7, by simpa using F8, by simp, by simp, by simpa using F11, by simpa using F12, by simpa [hs6, hs7] using hM⟩
                · have d5 := hdep ⟨5, .data⟩ (by simp) rfl
                  have hs7 : seen 7 = false := by { cases hq : seen 7 with | false => rfl | true => exact absurd (F11 hq) (by rw [hsi]; decide) }
                  have hs6 : seen 6 = false := hsi
                  have q5 : seen 5 = true := d5
                  rw [q5, hs6, hs7] at FM
                  obtain ⟨bn, e40, hM⟩ := FM.stamp
                  have e5 := val_at e40
                  refine wp_value (goInt bn) (w' := w9) (by simp [execOp, e5, go_sem]) ⟨_, rfl, hb9, ?_⟩
                  exact ⟨by simpa using F0, by simpa using F1, by simpa using F2, by simpa using F3, by simpa using F4, by simpa using F5, by simp, by simpa using F7, by simpa using F8, by simpa using F9, by simpa using q5, by simp, by simpa using F12, by simpa [q5, hs7] using hM⟩
                · have d0 := hdep ⟨0, .data⟩ (by simp) rfl
                  have e0 := val_at (F0 d0)
                  have d6 := hdep ⟨6, .data⟩ (by simp) rfl
                  have d4 := hdep ⟨4, .data⟩ (by simp) rfl
                  have e4 := val_at (F4 d4)
                  have hs7 : seen 7 = false := hsi
                  have q6 : seen 6 = true := d6
                  have q5 : seen 5 = true := F10 d6
                  rw [q5, q6, hs7] at FM
                  obtain ⟨bn, w10, e41, hrun, hM, hbn⟩ := FM.store HKP.out hb9 hrb
                  simp only [goInt] at hrun
                  have e6 := val_at e41
                  simp only [goInt] at e6
                  refine wp_effect (w' := w10) (by simp [execOp, e0, e4, e6, go_sem, hrun]) ⟨_, rfl, hbn, ?_⟩
                  exact ⟨by simpa using F0, by simpa using F1, by simpa using F2, by simpa using F3, by simpa using F4, by simpa using F5, by simpa using F6, by simp, by simpa using F12 d4, by simpa using q5, by simpa using F10, by simpa using q6, by simpa using F12, by simpa [q5, q6] using hM⟩
              intro u w5 hb5 seen hall ⟨F0, F1, F2, F3, F4, F5, F6, F7, F8, F9, F10, F11, F12, FM⟩
              replace F0 := F0 (hall 0 (by decide))
              replace F1 := F1 (hall 1 (by decide))
              replace F2 := F2 (hall 2 (by decide))
              replace F3 := F3 (hall 3 (by decide))
              replace F4 := F4 (hall 4 (by decide))
              replace F5 := F5 (hall 5 (by decide))
              replace F6 := F6 (hall 6 (by decide))
              replace F7 := F7 (hall 7 (by decide))
              simp only [hall 5 (by decide), hall 6 (by decide), hall 7 (by decide)] at FM
              obtain ⟨⟨⟨hY15, hN15⟩, _⟩, hS15⟩ := FM.done
              simp only [setAll, F0, F1, F2, F3, F4]
              clear F0 F1 F2 F3 F4 F5 F6 F7 F8 F9 F10 F11 F12 FM hall seen
              generalize u 151 = u151 at *
              generalize u 152 = u152 at *
              go_wp2
              go_roundw
              case rel => exact ⟨i + 1, _, by omega, by go_num, hY15, hN15, hS15, HMS.out, HOK2.out⟩
              case measure => simp [intOf]; omega
            · obtain rfl : i = l.length := by omega
              have hy1 := HYr.c1
              have hy3 := HYr.c3
              have hyl := HYr.lt
              have m0 : wr.cell? ⟨N, 0, none⟩ = some (.int .i64 (nowF l (planP Pt) d l.length 0)) := cell_of_heap hNr
              have m1 : wr.cell? ⟨N, 1, none⟩ = some (.int .i64 (nowF l (planP Pt) d l.length 1)) := cell_of_heap hNr
              have m2 : wr.cell? ⟨N, 2, none⟩ = some (.int .i64 (nowF l (planP Pt) d l.length 2)) := cell_of_heap hNr
              have m3 : wr.cell? ⟨N, 3, none⟩ = some (.int .i64 (nowF l (planP Pt) d l.length 3)) := cell_of_heap hNr
              have m4 : wr.cell? ⟨N, 4, none⟩ = some (.int .i64 (nowF l (planP Pt) d l.length 4)) := cell_of_heap hNr
              have m5 : wr.cell? ⟨N, 5, none⟩ = some (.int .i64 (nowF l (planP Pt) d l.length 5)) := cell_of_heap hNr
              have m6 : wr.cell? ⟨N, 6, none⟩ = some (.int .i64 (nowF l (planP Pt) d l.length 6)) := cell_of_heap hNr
              have m7 : wr.cell? ⟨N, 7, none⟩ = some (.int .i64 (nowF l (planP Pt) d l.length 7)) := cell_of_heap hNr
              have lN := (Array.getElem?_eq_some_iff.1 hNr).1
              obtain ⟨i86, hi86, hz86, hs86, hb86⟩ := info_parts info86
              have b5 : Below wr.heap.size wr (wr.drew.alloc (.cells #[.int .i64 (nowF l (planP Pt) d l.length 0), .int .i64 (nowF l (planP Pt) d l.length 1), .int .i64 (nowF l (planP Pt) d l.length 2), .int .i64 (nowF l (planP Pt) d l.length 3), .int .i64 (nowF l (planP Pt) d l.length 4), .int .i64 (nowF l (planP Pt) d l.length 5), .int .i64 (nowF l (planP Pt) d l.length 6), .int .i64 (nowF l (planP Pt) d l.length 7)] 86)) := bl_alloc (bl_drew (bl_refl _)) _
              have hyA : (wr.alloc (.cells #[.int .i64 (nowF l (planP Pt) d l.length 0), .int .i64 (nowF l (planP Pt) d l.length 1), .int .i64 (nowF l (planP Pt) d l.length 2), .int .i64 (nowF l (planP Pt) d l.length 3), .int .i64 (nowF l (planP Pt) d l.length 4), .int .i64 (nowF l (planP Pt) d l.length 5), .int .i64 (nowF l (planP Pt) d l.length 6), .int .i64 (nowF l (planP Pt) d l.length 7)] 86)).cell? ⟨Y, 3, none⟩ = some (.slice (some ⟨gC, 0, none⟩) (d + 1) capC) := (HYr.mono (bl_alloc (bl_refl _) _)).c3
              have hlC : (comeRows l (planP Pt) (d + 1)).length = d + 1 := by simp [comeRows]
              have HY5 := hid (HYr.mono b5)
              have HS5 := hid (HSr.mono b5)
              have hown5 := HY5.out.come
              rw [hlC] at hown5
              have hnew8 := World.alloc_heap_new wr.drew (.cells #[.int .i64 (nowF l (planP Pt) d l.length 0), .int .i64 (nowF l (planP Pt) d l.length 1), .int .i64 (nowF l (planP Pt) d l.length 2), .int .i64 (nowF l (planP Pt) d l.length 3), .int .i64 (nowF l (planP Pt) d l.length 4), .int .i64 (nowF l (planP Pt) d l.length 5), .int .i64 (nowF l (planP Pt) d l.length 6), .int .i64 (nowF l (planP Pt) d l.length 7)] 86)
              have HNEW := hid hnew8
              clear hnew8 HYr HSr hNr
              go_wp2
              go_region_law (refine step_append_own rfl _ _ 84 rfl wb.heap.size 86 i86 (.agg #[.int .i64 0, .int .i64 0, .int .i64 0, .int .i64 0, .int .i64 0, .int .i64 0, .int .i64 0, .int .i64 0]) 8 64 Try.underlying84 hi86 hz86 hs86 hb86 rfl (by decide) (.slice (some ⟨gC, 0, none⟩) (d + 1) capC) (d + 1) _ rfl hown5 ⟨wr.heap.size, 0, none⟩ 1 1 (ints (row8 (nowF l (planP Pt) d l.length))) rfl rfl (new8_at HNEW.out) (ints_one _) (by unfold maxLen; omega) (by omega) (by simp; omega) ?_; intro v' w5 hown' hgrow5 hnil5; obtain ⟨A9, c9, rfl⟩ := own_slice8 hown'; have hk9 := keep_other HY5.out.box hown5 (by decide) hgrow5; have hx9 := (Array.getElem?_eq_some_iff.1 hk9).1; have hc9 : w5.cell? ⟨Y, 3, none⟩ = some (.slice (some ⟨gC, 0, none⟩) (d + 1) capC) := cell_of_heap hk9; have hz9 : ∀ i, w5.frozen? ⟨Y, i, none⟩ = false := fun i => frozen_of_heap hk9)
              all_goals
                have hr8 : row8 (nowF l (planP Pt) d l.length) = row8 (nowF l (planP Pt) (d + 1) 0) := row8_congr fun j _ => nowF_day l (planP Pt) d j
                have M5 : w5.ownsRow wb.heap.size 86 8 (.slice A9 (d + 1 + 1) c9) (comeRows l (planP Pt) (d + 1 + 1)).length ((comeRows l (planP Pt) (d + 1 + 1)).flatMap ints) := by
                  rw [comeRows_snoc, List.flatMap_append, List.length_append, hlC, ← hr8]
                  simpa using hown'
                have HY6 := hid (HY5.out.setCome hgrow5 M5 (fun c hc => by
                  rw [comeRows_snoc, List.mem_append] at hc
                  rcases hc with hc | hc
                  · exact HY5.out.clen c hc
                  · obtain rfl := List.mem_singleton.1 hc; exact row8_len _))
                have HS6 := hid ((HS5.out.grown hown5 hgrow5).setCell (o := 3) (u := .slice A9 (d + 1 + 1) c9) hk9)
                clear M5 hr8 hk9 hx9 hc9 hz9 hown' hgrow5 hnil5 hown5 HY5 HS5 hyA HNEW hy1 hy3 m0 m1 m2 m3 m4 m5 m6 m7 lN hlC b5
                obtain ⟨w6, hw6⟩ : ∃ w6, w5.setCell ⟨Y, 3, none⟩ (.slice A9 (d + 1 + 1) c9) = w6 := ⟨_, rfl⟩
                rw [hw6] at HY6 HS6 ⊢
                clear hw6
                obtain ⟨gB, capB, hvB, hgBl, hcB⟩ := boom_at HY6.out
                subst hvB
                have hy4 := HY6.out.c4
                have hyl6 := HY6.out.lt
                have hlB : (boomRow l (planP Pt) (d + 1)).length = d + 1 := by simp [boomRow]
                have hownB := HY6.out.boom
                rw [hlB] at hownB
                have hsum : brought (rivP l) l.length (planP Pt) (d : Int) + f (-1, (d : Int) + 1) = brought (rivP l) l.length (planP Pt) ((d : Int) + 1) := by
                  rw [HFR.out _ (.inr ⟨rfl, .inl rfl⟩), arr_boom HF.out d]
                have hsb : 0 ≤ brought (rivP l) l.length (planP Pt) ((d : Int) + 1) ∧ brought (rivP l) l.length (planP Pt) ((d : Int) + 1) ≤ 800000000 := brought_bd HF.out hsm _ (by omega)
                have hwB : IntKind.i64.wrap (brought (rivP l) l.length (planP Pt) (d : Int) + f (-1, (d : Int) + 1)) = brought (rivP l) l.length (planP Pt) (d : Int) + f (-1, (d : Int) + 1) := by rw [hsum]; exact IntWalk.i64_in _ (by omega)
                have hdc2 : (d : Int) < ((d + 1 : Nat) : Int) := by omega
                have hws2 : IntKind.i64.wrap ((d : Int) + 1 - 1) = d := by rw [IntWalk.i64_in _ (by omega)]; omega
                have hws3 : IntKind.i64.wrap (d : Int) = d := IntWalk.i64_in _ (by omega)
                have hdc3 : (d : Int) < (d : Int) + 1 := by omega
                have HSUM := hid hsum
                clear hsum hownB hsb hy4 hyl6 hgBl hcB
                go_upto_region 29 with (fail)
                refine wp_region_vals0 wb HY6.out.old [164, 165, 166, 167, 168, 169, 170, 171, 172, 173, 174, 175, 176, 177, 178, 179, 180, 181, 182, 183, 184, 185] (fun seen u W => (seen 0 = true → u 164 = .pointer (some ⟨Y, 0, none⟩)) ∧
                  (seen 1 = true → u 165 = .pointer (some ⟨Y, 0, none⟩)) ∧
                  (seen 2 = true → u 166 = .pointer (some ⟨Y, 0, none⟩)) ∧
                  (seen 3 = true → u 167 = .pointer (some ⟨Y, 4, none⟩)) ∧
                  (seen 4 = true → u 168 = .slice (some ⟨gB, 0, none⟩) (d + 1) capB) ∧
                  (seen 5 = true → u 169 = .pointer (some ⟨Y, 0, none⟩)) ∧
                  (seen 6 = true → u 170 = .pointer (some ⟨Y, 0, none⟩)) ∧
                  (seen 7 = true → u 171 = .pointer (some ⟨Y, 4, none⟩)) ∧
                  (seen 8 = true → u 172 = .slice (some ⟨gB, 0, none⟩) (d + 1) capB) ∧
                  (seen 9 = true → u 173 = .int .i64 ((d : Int) + 1)) ∧
                  (seen 10 = true → u 174 = .int .i64 (d : Int)) ∧
                  (seen 11 = true → u 175 = .pointer (some ⟨gB, d, none⟩)) ∧
                  (seen 12 = true → u 176 = .int .i64 (brought (rivP l) l.length (planP Pt) (d : Int))) ∧
                  (seen 13 = true → u 177 = .map (some r)) ∧
                  (seen 14 = true → u 178 = .int .i64 ((d : Int) + 1)) ∧
                  (seen 15 = true → u 179 = .agg #[.int .i64 (-1), .int .i64 ((d : Int) + 1)]) ∧
                  (seen 16 = true → u 180 = .int .i64 (f (-1, (d : Int) + 1))) ∧
                  (seen 17 = true → u 181 = .int .i64 (brought (rivP l) l.length (planP Pt) (d : Int) + f (-1, (d : Int) + 1))) ∧
                  (seen 18 = true → True) ∧
                  (seen 19 = true → True) ∧
                  (seen 20 = true → u 184 = .pointer (some ⟨Y, 0, none⟩)) ∧
                  (seen 21 = true → u 185 = .pointer (some ⟨Y, 4, none⟩)) ∧
                  (seen 22 = true → True) ∧
                  (seen 19 = true → seen 4 = true) ∧
                  (seen 19 = true → seen 18 = true) ∧
                  (seen 18 = true → seen 17 = true) ∧
                  (seen 17 = true → seen 12 = true) ∧
                  (seen 11 = true → seen 8 = true) ∧
                  (seen 12 = true → seen 11 = true) ∧
                  (seen 22 = true → seen 19 = true) ∧
                  BoomF wb Y (D : Int) (.slice (some ⟨b, off, none⟩) l.length c) D vp (.slice A9 (d + 1 + 1) c9) (.slice (some ⟨gB, 0, none⟩) (d + 1) capB) Bs (maskL (planP Pt) l.length D d l.length) (comeRows l (planP Pt) (d + 1 + 1)) (boomRow l (planP Pt) (d + 1)) (row8 (goneF l (planP Pt) d l.length)) r f (brought (rivP l) l.length (planP Pt) (d : Int) + f (-1, (d : Int) + 1)) (seen 18) (seen 19) (seen 22) (u 182) (u 183) W)
                  (by kernel_rfl) (by kernel_rfl) (by kernel_rfl) (by simp) ⟨by simp [valsOf], by simp [valsOf], by simp [valsOf], by simp [valsOf], by simp [valsOf], by simp [valsOf], by simp [valsOf], by simp [valsOf], by simp [valsOf], by simp [valsOf], by simp [valsOf], by simp [valsOf], by simp [valsOf], by simp [valsOf], by simp [valsOf], by simp [valsOf], by simp [valsOf], by simp [valsOf], by simp [valsOf], by simp [valsOf], by simp [valsOf], by simp [valsOf], by simp [valsOf], by simp [valsOf], by simp [valsOf], by simp [valsOf], by simp [valsOf], by simp [valsOf], by simp [valsOf], by simp [valsOf], (BoomF.start (HY6.out.mono (bl_drew (bl_refl _))) (HS6.out.mono (bl_drew (bl_refl _))))⟩ ?_ ?_
                · intro i o ho seen a' w9 hb9 ⟨F0, F1, F2, F3, F4, F5, F6, F7, F8, F9, F10, F11, F12, F13, F14, F15, F16, F17, F18, F19, F20, F21, F22, F23, F24, F25, F26, F27, F28, F29, FM⟩ hv hsi hdep
                  rcases i with _ | _ | _ | _ | _ | _ | _ | _ | _ | _ | _ | _ | _ | _ | _ | _ | _ | _ | _ | _ | _ | _ | _ | i <;> simp only [List.getElem?_cons_zero, List.getElem?_cons_succ, List.getElem?_nil, Option.some.injEq, reduceCtorEq] at ho <;> subst ho
                  · have x0 := val_at (hv 0 (by simp))
                    simp [valsOf] at x0
                    refine wp_value (.pointer (some ⟨Y, 0, none⟩)) (w' := w9) (by simp [execOp, x0, go_sem, hws2, hws3, hdc3, hdc2, hwB]) ⟨_, rfl, hb9, ?_⟩
                    exact ⟨by simp, by simpa using F1, by simpa using F2, by simpa using F3, by simpa using F4, by simpa using F5, by simpa using F6, by simpa using F7, by simpa using F8, by simpa using F9, by simpa using F10, by simpa using F11, by simpa using F12, by simpa using F13, by simpa using F14, by simpa using F15, by simpa using F16, by simpa using F17, by simpa using F18, by simpa using F19, by simpa using F20, by simpa using F21, by simpa using F22, by simpa using F23, by simpa using F24, by simpa using F25, by simpa using F26, by simpa using F27, by simpa using F28, by simpa using F29, by simpa using FM⟩
                  · have x0 := val_at (hv 0 (by simp))
                    simp [valsOf] at x0
                    refine wp_value (.pointer (some ⟨Y, 0, none⟩)) (w' := w9) (by simp [execOp, x0, go_sem, hws2, hws3, hdc3, hdc2, hwB]) ⟨_, rfl, hb9, ?_⟩
                    exact ⟨by simpa using F0, by simp, by simpa using F2, by simpa using F3, by simpa using F4, by simpa using F5, by simpa using F6, by simpa using F7, by simpa using F8, by simpa using F9, by simpa using F10, by simpa using F11, by simpa using F12, by simpa using F13, by simpa using F14, by simpa using F15, by simpa using F16, by simpa using F17, by simpa using F18, by simpa using F19, by simpa using F20, by simpa using F21, by simpa using F22, by simpa using F23, by simpa using F24, by simpa using F25, by simpa using F26, by simpa using F27, by simpa using F28, by simpa using F29, by simpa using FM⟩
                  · have d1 := hdep ⟨1, .data⟩ (by simp) rfl
                    have e1 := val_at (F1 d1)
                    refine wp_value (.pointer (some ⟨Y, 0, none⟩)) (w' := w9) (by simp [execOp, e1, go_sem, hws2, hws3, hdc3, hdc2, hwB]) ⟨_, rfl, hb9, ?_⟩
                    exact ⟨by simpa using F0, by simpa using F1, by simp, by simpa using F3, by simpa using F4, by simpa using F5, by simpa using F6, by simpa using F7, by simpa using F8, by simpa using F9, by simpa using F10, by simpa using F11, by simpa using F12, by simpa using F13, by simpa using F14, by simpa using F15, by simpa using F16, by simpa using F17, by simpa using F18, by simpa using F19, by simpa using F20, by simpa using F21, by simpa using F22, by simpa using F23, by simpa using F24, by simpa using F25, by simpa using F26, by simpa using F27, by simpa using F28, by simpa using F29, by simpa using FM⟩
                  · have d2 := hdep ⟨2, .data⟩ (by simp) rfl
                    have e2 := val_at (F2 d2)
                    refine wp_value (.pointer (some ⟨Y, 4, none⟩)) (w' := w9) (by simp [execOp, e2, go_sem, hws2, hws3, hdc3, hdc2, hwB]) ⟨_, rfl, hb9, ?_⟩
                    exact ⟨by simpa using F0, by simpa using F1, by simpa using F2, by simp, by simpa using F4, by simpa using F5, by simpa using F6, by simpa using F7, by simpa using F8, by simpa using F9, by simpa using F10, by simpa using F11, by simpa using F12, by simpa using F13, by simpa using F14, by simpa using F15, by simpa using F16, by simpa using F17, by simpa using F18, by simpa using F19, by simpa using F20, by simpa using F21, by simpa using F22, by simpa using F23, by simpa using F24, by simpa using F25, by simpa using F26, by simpa using F27, by simpa using F28, by simpa using F29, by simpa using FM⟩
                  · have d3 := hdep ⟨3, .data⟩ (by simp) rfl
                    have e3 := val_at (F3 d3)
                    have hs19 : seen 19 = false := by { cases hq : seen 19 with | false => rfl | true => exact absurd (F23 hq) (by rw [hsi]; decide) }
                    have hs22 : seen 22 = false := by { cases hq : seen 22 with | false => rfl | true => exact absurd (F29 hq) (by rw [hs19]; decide) }
                    have FM2 := FM
                    rw [hs22] at FM2
                    have hbx := FM2.box
                    have cx4 : w9.cell? ⟨Y, 4, none⟩ = some (.slice (some ⟨gB, 0, none⟩) (d + 1) capB) := cell_of_heap hbx
                    have hXl := (Array.getElem?_eq_some_iff.1 hbx).1
                    refine wp_value (.slice (some ⟨gB, 0, none⟩) (d + 1) capB) (w' := w9) (by simp [execOp, e3, go_sem, cx4, hXl]) ⟨_, rfl, hb9, ?_⟩
                    exact ⟨by simpa using F0, by simpa using F1, by simpa using F2, by simpa using F3, by simp, by simpa using F5, by simpa using F6, by simpa using F7, by simpa using F8, by simpa using F9, by simpa using F10, by simpa using F11, by simpa using F12, by simpa using F13, by simpa using F14, by simpa using F15, by simpa using F16, by simpa using F17, by simpa using F18, by simpa using F19, by simpa using F20, by simpa using F21, by simpa using F22, by simp, by simpa using F24, by simpa using F25, by simpa using F26, by simpa using F27, by simpa using F28, by simpa using F29, by simpa using FM⟩
                  · have x0 := val_at (hv 0 (by simp))
                    simp [valsOf] at x0
                    refine wp_value (.pointer (some ⟨Y, 0, none⟩)) (w' := w9) (by simp [execOp, x0, go_sem, hws2, hws3, hdc3, hdc2, hwB]) ⟨_, rfl, hb9, ?_⟩
                    exact ⟨by simpa using F0, by simpa using F1, by simpa using F2, by simpa using F3, by simpa using F4, by simp, by simpa using F6, by simpa using F7, by simpa using F8, by simpa using F9, by simpa using F10, by simpa using F11, by simpa using F12, by simpa using F13, by simpa using F14, by simpa using F15, by simpa using F16, by simpa using F17, by simpa using F18, by simpa using F19, by simpa using F20, by simpa using F21, by simpa using F22, by simpa using F23, by simpa using F24, by simpa using F25, by simpa using F26, by simpa using F27, by simpa using F28, by simpa using F29, by simpa using FM⟩
                  · have d5 := hdep ⟨5, .data⟩ (by simp) rfl
                    have e5 := val_at (F5 d5)
                    refine wp_value (.pointer (some ⟨Y, 0, none⟩)) (w' := w9) (by simp [execOp, e5, go_sem, hws2, hws3, hdc3, hdc2, hwB]) ⟨_, rfl, hb9, ?_⟩
                    exact ⟨by simpa using F0, by simpa using F1, by simpa using F2, by simpa using F3, by simpa using F4, by simpa using F5, by simp, by simpa using F7, by simpa using F8, by simpa using F9, by simpa using F10, by simpa using F11, by simpa using F12, by simpa using F13, by simpa using F14, by simpa using F15, by simpa using F16, by simpa using F17, by simpa using F18, by simpa using F19, by simpa using F20, by simpa using F21, by simpa using F22, by simpa using F23, by simpa using F24, by simpa using F25, by simpa using F26, by simpa using F27, by simpa using F28, by simpa using F29, by simpa using FM⟩
                  · have d6 := hdep ⟨6, .data⟩ (by simp) rfl
                    have e6 := val_at (F6 d6)
                    refine wp_value (.pointer (some ⟨Y, 4, none⟩)) (w' := w9) (by simp [execOp, e6, go_sem, hws2, hws3, hdc3, hdc2, hwB]) ⟨_, rfl, hb9, ?_⟩
                    exact ⟨by simpa using F0, by simpa using F1, by simpa using F2, by simpa using F3, by simpa using F4, by simpa using F5, by simpa using F6, by simp, by simpa using F8, by simpa using F9, by simpa using F10, by simpa using F11, by simpa using F12, by simpa using F13, by simpa using F14, by simpa using F15, by simpa using F16, by simpa using F17, by simpa using F18, by simpa using F19, by simpa using F20, by simpa using F21, by simpa using F22, by simpa using F23, by simpa using F24, by simpa using F25, by simpa using F26, by simpa using F27, by simpa using F28, by simpa using F29, by simpa using FM⟩
                  · have d7 := hdep ⟨7, .data⟩ (by simp) rfl
                    have e7 := val_at (F7 d7)
                    have hs11 : seen 11 = false := by { cases hq : seen 11 with | false => rfl | true => exact absurd (F27 hq) (by rw [hsi]; decide) }
                    have hs12 : seen 12 = false := by { cases hq : seen 12 with | false => rfl | true => exact absurd (F28 hq) (by rw [hs11]; decide) }
                    have hs17 : seen 17 = false := by { cases hq : seen 17 with | false => rfl | true => exact absurd (F26 hq) (by rw [hs12]; decide) }
                    have hs18 : seen 18 = false := by { cases hq : seen 18 with | false => rfl | true => exact absurd (F25 hq) (by rw [hs17]; decide) }
                    have hs19 : seen 19 = false := by { cases hq : seen 19 with | false => rfl | true => exact absurd (F24 hq) (by rw [hs18]; decide) }
                    have hs22 : seen 22 = false := by { cases hq : seen 22 with | false => rfl | true => exact absurd (F29 hq) (by rw [hs19]; decide) }
                    have FM2 := FM
                    rw [hs22] at FM2
                    have hbx := FM2.box
                    have cx4 : w9.cell? ⟨Y, 4, none⟩ = some (.slice (some ⟨gB, 0, none⟩) (d + 1) capB) := cell_of_heap hbx
                    have hXl := (Array.getElem?_eq_some_iff.1 hbx).1
                    refine wp_value (.slice (some ⟨gB, 0, none⟩) (d + 1) capB) (w' := w9) (by simp [execOp, e7, go_sem, cx4, hXl]) ⟨_, rfl, hb9, ?_⟩
                    exact ⟨by simpa using F0, by simpa using F1, by simpa using F2, by simpa using F3, by simpa using F4, by simpa using F5, by simpa using F6, by simpa using F7, by simp, by simpa using F9, by simpa using F10, by simpa using F11, by simpa using F12, by simpa using F13, by simpa using F14, by simpa using F15, by simpa using F16, by simpa using F17, by simpa using F18, by simpa using F19, by simpa using F20, by simpa using F21, by simpa using F22, by simpa using F23, by simpa using F24, by simpa using F25, by simpa using F26, by simp, by simpa using F28, by simpa using F29, by simpa using FM⟩
                  · have x8 := val_at (hv 8 (by simp))
                    simp [valsOf] at x8
                    refine wp_value (.int .i64 ((d : Int) + 1)) (w' := w9) (by simp [execOp, x8, go_sem, hws2, hws3, hdc3, hdc2, hwB]) ⟨_, rfl, hb9, ?_⟩
                    exact ⟨by simpa using F0, by simpa using F1, by simpa using F2, by simpa using F3, by simpa using F4, by simpa using F5, by simpa using F6, by simpa using F7, by simpa using F8, by simp, by simpa using F10, by simpa using F11, by simpa using F12, by simpa using F13, by simpa using F14, by simpa using F15, by simpa using F16, by simpa using F17, by simpa using F18, by simpa using F19, by simpa using F20, by simpa using F21, by simpa using F22, by simpa using F23, by simpa using F24, by simpa using F25, by simpa using F26, by simpa using F27, by simpa using F28, by simpa using F29, by simpa using FM⟩
                  · have d9 := hdep ⟨9, .data⟩ (by simp) rfl
                    have e9 := val_at (F9 d9)
                    refine wp_value (.int .i64 (d : Int)) (w' := w9) (by simp [execOp, e9, go_sem, hws2, hws3, hdc3, hdc2, hwB]) ⟨_, rfl, hb9, ?_⟩
                    exact ⟨by simpa using F0, by simpa using F1, by simpa using F2, by simpa using F3, by simpa using F4, by simpa using F5, by simpa using F6, by simpa using F7, by simpa using F8, by simpa using F9, by simp, by simpa using F11, by simpa using F12, by simpa using F13, by simpa using F14, by simpa using F15, by simpa using F16, by simpa using F17, by simpa using F18, by simpa using F19, by simpa using F20, by simpa using F21, by simpa using F22, by simpa using F23, by simpa using F24, by simpa using F25, by simpa using F26, by simpa using F27, by simpa using F28, by simpa using F29, by simpa using FM⟩
                  · have d8 := hdep ⟨8, .data⟩ (by simp) rfl
                    have e8 := val_at (F8 d8)
                    have d10 := hdep ⟨10, .data⟩ (by simp) rfl
                    have e10 := val_at (F10 d10)
                    refine wp_value (.pointer (some ⟨gB, d, none⟩)) (w' := w9) (by simp [execOp, e8, e10, go_sem, hws2, hws3, hdc3, hdc2, hwB]) ⟨_, rfl, hb9, ?_⟩
                    exact ⟨by simpa using F0, by simpa using F1, by simpa using F2, by simpa using F3, by simpa using F4, by simpa using F5, by simpa using F6, by simpa using F7, by simpa using F8, by simpa using F9, by simpa using F10, by simp, by simpa using F12, by simpa using F13, by simpa using F14, by simpa using F15, by simpa using F16, by simpa using F17, by simpa using F18, by simpa using F19, by simpa using F20, by simpa using F21, by simpa using F22, by simpa using F23, by simpa using F24, by simpa using F25, by simpa using F26, by simpa using d8, by simp, by simpa using F29, by simpa using FM⟩
                  · have d11 := hdep ⟨11, .data⟩ (by simp) rfl
                    have e11 := val_at (F11 d11)
                    have hs17 : seen 17 = false := by { cases hq : seen 17 with | false => rfl | true => exact absurd (F26 hq) (by rw [hsi]; decide) }
                    have hs18 : seen 18 = false := by { cases hq : seen 18 with | false => rfl | true => exact absurd (F25 hq) (by rw [hs17]; decide) }
                    have hs19 : seen 19 = false := by { cases hq : seen 19 with | false => rfl | true => exact absurd (F24 hq) (by rw [hs18]; decide) }
                    have hs22 : seen 22 = false := by { cases hq : seen 22 with | false => rfl | true => exact absurd (F29 hq) (by rw [hs19]; decide) }
                    have FM2 := FM
                    rw [hs19, hs22] at FM2
                    have cxB := boom_cell FM2.year
                    refine wp_value (.int .i64 (brought (rivP l) l.length (planP Pt) (d : Int))) (w' := w9) (by simp [execOp, e11, go_sem, cxB]) ⟨_, rfl, hb9, ?_⟩
                    exact ⟨by simpa using F0, by simpa using F1, by simpa using F2, by simpa using F3, by simpa using F4, by simpa using F5, by simpa using F6, by simpa using F7, by simpa using F8, by simpa using F9, by simpa using F10, by simpa using F11, by simp, by simpa using F13, by simpa using F14, by simpa using F15, by simpa using F16, by simpa using F17, by simpa using F18, by simpa using F19, by simpa using F20, by simpa using F21, by simpa using F22, by simpa using F23, by simpa using F24, by simpa using F25, by simp, by simpa using F27, by simpa using d11, by simpa using F29, by simpa using FM⟩
                  · have x5 := val_at (hv 5 (by simp))
                    simp [valsOf] at x5
                    refine wp_value (.map (some r)) (w' := w9) (by simp [execOp, x5, go_sem, hws2, hws3, hdc3, hdc2, hwB]) ⟨_, rfl, hb9, ?_⟩
                    exact ⟨by simpa using F0, by simpa using F1, by simpa using F2, by simpa using F3, by simpa using F4, by simpa using F5, by simpa using F6, by simpa using F7, by simpa using F8, by simpa using F9, by simpa using F10, by simpa using F11, by simpa using F12, by simp, by simpa using F14, by simpa using F15, by simpa using F16, by simpa using F17, by simpa using F18, by simpa using F19, by simpa using F20, by simpa using F21, by simpa using F22, by simpa using F23, by simpa using F24, by simpa using F25, by simpa using F26, by simpa using F27, by simpa using F28, by simpa using F29, by simpa using FM⟩
                  · have x8 := val_at (hv 8 (by simp))
                    simp [valsOf] at x8
                    refine wp_value (.int .i64 ((d : Int) + 1)) (w' := w9) (by simp [execOp, x8, go_sem, hws2, hws3, hdc3, hdc2, hwB]) ⟨_, rfl, hb9, ?_⟩
                    exact ⟨by simpa using F0, by simpa using F1, by simpa using F2, by simpa using F3, by simpa using F4, by simpa using F5, by simpa using F6, by simpa using F7, by simpa using F8, by simpa using F9, by simpa using F10, by simpa using F11, by simpa using F12, by simpa using F13, by simp, by simpa using F15, by simpa using F16, by simpa using F17, by simpa using F18, by simpa using F19, by simpa using F20, by simpa using F21, by simpa using F22, by simpa using F23, by simpa using F24, by simpa using F25, by simpa using F26, by simpa using F27, by simpa using F28, by simpa using F29, by simpa using FM⟩
                  · have d14 := hdep ⟨14, .data⟩ (by simp) rfl
                    have e14 := val_at (F14 d14)
                    refine wp_value (.agg #[.int .i64 (-1), .int .i64 ((d : Int) + 1)]) (w' := w9) (by simp [execOp, e14, go_sem, hws2, hws3, hdc3, hdc2, hwB]) ⟨_, rfl, hb9, ?_⟩
                    exact ⟨by simpa using F0, by simpa using F1, by simpa using F2, by simpa using F3, by simpa using F4, by simpa using F5, by simpa using F6, by simpa using F7, by simpa using F8, by simpa using F9, by simpa using F10, by simpa using F11, by simpa using F12, by simpa using F13, by simpa using F14, by simp, by simpa using F16, by simpa using F17, by simpa using F18, by simpa using F19, by simpa using F20, by simpa using F21, by simpa using F22, by simpa using F23, by simpa using F24, by simpa using F25, by simpa using F26, by simpa using F27, by simpa using F28, by simpa using F29, by simpa using FM⟩
                  · have d13 := hdep ⟨13, .data⟩ (by simp) rfl
                    have e13 := val_at (F13 d13)
                    have d15 := hdep ⟨15, .data⟩ (by simp) rfl
                    have e15 := val_at (F15 d15)
                    have hlk := FM.map.lookup (-1, (d : Int) + 1)
                    simp only [encS] at hlk
                    refine wp_value (.int .i64 (f (-1, (d : Int) + 1))) (w' := w9) (by simp [execOp, e13, e15, go_sem, hlk]) ⟨_, rfl, hb9, ?_⟩
                    exact ⟨by simpa using F0, by simpa using F1, by simpa using F2, by simpa using F3, by simpa using F4, by simpa using F5, by simpa using F6, by simpa using F7, by simpa using F8, by simpa using F9, by simpa using F10, by simpa using F11, by simpa using F12, by simpa using F13, by simpa using F14, by simpa using F15, by simp, by simpa using F17, by simpa using F18, by simpa using F19, by simpa using F20, by simpa using F21, by simpa using F22, by simpa using F23, by simpa using F24, by simpa using F25, by simpa using F26, by simpa using F27, by simpa using F28, by simpa using F29, by simpa using FM⟩
                  · have d12 := hdep ⟨12, .data⟩ (by simp) rfl
                    have e12 := val_at (F12 d12)
                    have d16 := hdep ⟨16, .data⟩ (by simp) rfl
                    have e16 := val_at (F16 d16)
                    refine wp_value (.int .i64 (brought (rivP l) l.length (planP Pt) (d : Int) + f (-1, (d : Int) + 1))) (w' := w9) (by simp [execOp, e12, e16, go_sem, hws2, hws3, hdc3, hdc2, hwB]) ⟨_, rfl, hb9, ?_⟩
                    exact ⟨by simpa using F0, by simpa using F1, by simpa using F2, by simpa using F3, by simpa using F4, by simpa using F5, by simpa using F6, by simpa using F7, by simpa using F8, by simpa using F9, by simpa using F10, by simpa using F11, by simpa using F12, by simpa using F13, by simpa using F14, by simpa using F15, by simpa using F16, by simp, by simpa using F18, by simpa using F19, by simpa using F20, by simpa using F21, by simpa using F22, by simpa using F23, by simpa using F24, by simp, by simpa using d12, by simpa using F27, by simpa using F28, by simpa using F29, by simpa using FM⟩
                  · have d17 := hdep ⟨17, .data⟩ (by simp) rfl
                    have e17 := val_at (F17 d17)
                    have hs19 : seen 19 = false := by { cases hq : seen 19 with | false => rfl | true => exact absurd (F24 hq) (by rw [hsi]; decide) }
                    have hs22 : seen 22 = false := by { cases hq : seen 22 with | false => rfl | true => exact absurd (F29 hq) (by rw [hs19]; decide) }
                    have FM2 := FM
                    rw [hsi, hs19, hs22] at FM2
                    have hR := FM2.row
                    have hg : Below w9.heap.size w9 (w9.alloc (.cells #[.int .i64 (brought (rivP l) l.length (planP Pt) (d : Int) + f (-1, (d : Int) + 1))] 2)) := bl_alloc (bl_refl _) _
                    refine wp_value (.slice (some ⟨w9.heap.size, 0, none⟩) 1 1) (w' := w9.alloc (.cells #[.int .i64 (brought (rivP l) l.length (planP Pt) (d : Int) + f (-1, (d : Int) + 1))] 2)) (by simp [execOp, e17, go_sem]) ⟨_, rfl, bl_trans hb9 hg, ?_⟩
                    exact ⟨by simpa using F0, by simpa using F1, by simpa using F2, by simpa using F3, by simpa using F4, by simpa using F5, by simpa using F6, by simpa using F7, by simpa using F8, by simpa using F9, by simpa using F10, by simpa using F11, by simpa using F12, by simpa using F13, by simpa using F14, by simpa using F15, by simpa using F16, by simpa using F17, by simp, by simpa using F19, by simpa using F20, by simpa using F21, by simpa using F22, by simpa using F23, by simp, by simpa using d17, by simpa using F26, by simpa using F27, by simpa using F28, by simpa using F29, by simpa [hs19, hs22] using hR⟩
                  · have d4 := hdep ⟨4, .data⟩ (by simp) rfl
                    have e4 := val_at (F4 d4)
                    have d18 := hdep ⟨18, .data⟩ (by simp) rfl
                    have hs22 : seen 22 = false := by { cases hq : seen 22 with | false => rfl | true => exact absurd (F29 hq) (by rw [hsi]; decide) }
                    have FM2 := FM
                    rw [d18, hsi, hs22] at FM2
                    obtain ⟨b2, harg⟩ := FM2.arg
                    have e18 := val_at harg
                    obtain ⟨v2, w10, hrun, hB, hbn⟩ := FM2.app (by rw [hlB]; omega) 36
                    rw [harg] at hrun
                    refine wp_append_run _ _ 36 rfl _ _ v2 w10 (by simp [go_sem, e4]) (by simp [go_sem, e18]) hrun ⟨_, rfl, hbn, ?_⟩
                    exact ⟨by simpa using F0, by simpa using F1, by simpa using F2, by simpa using F3, by simpa using F4, by simpa using F5, by simpa using F6, by simpa using F7, by simpa using F8, by simpa using F9, by simpa using F10, by simpa using F11, by simpa using F12, by simpa using F13, by simpa using F14, by simpa using F15, by simpa using F16, by simpa using F17, by simpa using F18, by simp, by simpa using F20, by simpa using F21, by simpa using F22, by simpa using d4, by simpa using d18, by simpa using F25, by simpa using F26, by simpa using F27, by simpa using F28, by simp, by simpa [d18, hs22] using hB⟩
                  · have d0 := hdep ⟨0, .data⟩ (by simp) rfl
                    have e0 := val_at (F0 d0)
                    refine wp_value (.pointer (some ⟨Y, 0, none⟩)) (w' := w9) (by simp [execOp, e0, go_sem, hws2, hws3, hdc3, hdc2, hwB]) ⟨_, rfl, hb9, ?_⟩
                    exact ⟨by simpa using F0, by simpa using F1, by simpa using F2, by simpa using F3, by simpa using F4, by simpa using F5, by simpa using F6, by simpa using F7, by simpa using F8, by simpa using F9, by simpa using F10, by simpa using F11, by simpa using F12, by simpa using F13, by simpa using F14, by simpa using F15, by simpa using F16, by simpa using F17, by simpa using F18, by simpa using F19, by simp, by simpa using F21, by simpa using F22, by simpa using F23, by simpa using F24, by simpa using F25, by simpa using F26, by simpa using F27, by simpa using F28, by simpa using F29, by simpa using FM⟩
                  · have d20 := hdep ⟨20, .data⟩ (by simp) rfl
                    have e20 := val_at (F20 d20)
                    refine wp_value (.pointer (some ⟨Y, 4, none⟩)) (w' := w9) (by simp [execOp, e20, go_sem, hws2, hws3, hdc3, hdc2, hwB]) ⟨_, rfl, hb9, ?_⟩
                    exact ⟨by simpa using F0, by simpa using F1, by simpa using F2, by simpa using F3, by simpa using F4, by simpa using F5, by simpa using F6, by simpa using F7, by simpa using F8, by simpa using F9, by simpa using F10, by simpa using F11, by simpa using F12, by simpa using F13, by simpa using F14, by simpa using F15, by simpa using F16, by simpa using F17, by simpa using F18, by simpa using F19, by simpa using F20, by simp, by simpa using F22, by simpa using F23, by simpa using F24, by simpa using F25, by simpa using F26, by simpa using F27, by simpa using F28, by simpa using F29, by simpa using FM⟩
                  · have d21 := hdep ⟨21, .data⟩ (by simp) rfl
                    have e21 := val_at (F21 d21)
                    have d19 := hdep ⟨19, .data⟩ (by simp) rfl
                    have FM2 := FM
                    rw [d19, hsi] at FM2
                    obtain ⟨A2, c2, hsl⟩ := FM2.slice
                    have e19 := val_at hsl
                    have hst := FM2.stored
                    have fz : ∀ i, w9.frozen? ⟨Y, i, none⟩ = false := fun i => frozen_of_heap FM2.box
                    have hbx := FM2.box
                    have cx4 : w9.cell? ⟨Y, 4, none⟩ = some (.slice (some ⟨gB, 0, none⟩) (d + 1) capB) := cell_of_heap hbx
                    have hXl := (Array.getElem?_eq_some_iff.1 hbx).1
                    refine wp_effect (w' := w9.setCell ⟨Y, 4, none⟩ (valsOf a' 183)) (by simp [execOp, e21, e19, go_sem, cx4, hXl, fz, hsl]) ⟨_, rfl, hst.2, ?_⟩
                    exact ⟨by simpa using F0, by simpa using F1, by simpa using F2, by simpa using F3, by simpa using F4, by simpa using F5, by simpa using F6, by simpa using F7, by simpa using F8, by simpa using F9, by simpa using F10, by simpa using F11, by simpa using F12, by simpa using F13, by simpa using F14, by simpa using F15, by simpa using F16, by simpa using F17, by simpa using F18, by simpa using F19, by simpa using F20, by simpa using F21, by simp, by simpa using F23, by simpa using F24, by simpa using F25, by simpa using F26, by simpa using F27, by simpa using F28, by simpa using d19, by simpa [d19] using hst.1⟩
                intro u w5 hb5 seen hall ⟨F0, F1, F2, F3, F4, F5, F6, F7, F8, F9, F10, F11, F12, F13, F14, F15, F16, F17, F18, F19, F20, F21, F22, F23, F24, F25, F26, F27, F28, F29, FM⟩
                replace F0 := F0 (hall 0 (by decide))
                replace F1 := F1 (hall 1 (by decide))
                replace F2 := F2 (hall 2 (by decide))
                replace F3 := F3 (hall 3 (by decide))
                replace F4 := F4 (hall 4 (by decide))
                replace F5 := F5 (hall 5 (by decide))
                replace F6 := F6 (hall 6 (by decide))
                replace F7 := F7 (hall 7 (by decide))
                replace F8 := F8 (hall 8 (by decide))
                replace F9 := F9 (hall 9 (by decide))
                replace F10 := F10 (hall 10 (by decide))
                replace F11 := F11 (hall 11 (by decide))
                replace F12 := F12 (hall 12 (by decide))
                replace F13 := F13 (hall 13 (by decide))
                replace F14 := F14 (hall 14 (by decide))
                replace F15 := F15 (hall 15 (by decide))
                replace F16 := F16 (hall 16 (by decide))
                replace F17 := F17 (hall 17 (by decide))
                replace F18 := F18 (hall 18 (by decide))
                replace F19 := F19 (hall 19 (by decide))
                replace F20 := F20 (hall 20 (by decide))
                replace F21 := F21 (hall 21 (by decide))
                replace F22 := F22 (hall 22 (by decide))
                simp only [hall 18 (by decide), hall 19 (by decide), hall 22 (by decide)] at FM
                obtain ⟨hS8, hY8⟩ := FM.done
                simp only [setAll, F0, F1, F2, F3, F4, F5, F6, F7, F8, F9, F10, F11, F12, F13, F14, F15, F16, F17, F20, F21]
                clear F0 F1 F2 F3 F4 F5 F6 F7 F8 F9 F10 F11 F12 F13 F14 F15 F16 F17 F18 F19 F20 F21 F22 F23 F24 F25 F26 F27 F28 F29 FM hall seen
                generalize u 182 = u182 at *
                generalize u 183 = u183 at *
                have hY9 : Year wb w5 Y (D : Int) (.slice (some ⟨b, off, none⟩) l.length c) D vp (.slice A9 (d + 1 + 1) c9) u183 Bs (maskL (planP Pt) l.length D (d + 1) 0) (comeRows l (planP Pt) (d + 1 + 1)) (boomRow l (planP Pt) (d + 1 + 1)) (row8 (goneF l (planP Pt) (d + 1) 0)) := by
                  rw [← mask_day, boomRow_snoc l (planP Pt) (d + 1), show ((d + 1 : Nat) : Int) = (d : Int) + 1 by omega, ← HSUM.out, ← row8_congr fun j _ => goneF_day l (planP Pt) d j]
                  exact hY8
                have hfr9 : ∀ q : Int × Int, ((d + 1 : Nat) : Int) < q.2 → f q = arr l (planP Pt) (d + 1) 0 q := fun q hq => by
                  rw [← arr_day]; exact HFR.out q (by unfold Ahead; omega)
                have hok9 : okTo l (planP Pt) (d + 1) 0 := fun j e hj he => HOK.out j e hj (by unfold Done at he ⊢; omega)
                clear hY8 HSUM
                go_wp2
                go_roundw
                case rel => exact ⟨d + 1, _, u183, f, by omega, by go_num, hY9, hS8, hfr9, hok9⟩
                case measure => simp [intOf]; omega
        · obtain rfl : D = d := by omega
          have hdI : decide ((D : Int) + 1 ≤ (D : Int)) = false := by rw [decide_eq_false_iff_not]; omega
          go_wp2
          go_ret
          refine ⟨HYr.old, .inl ⟨HOK.out, rfl, vc, vb, ?_⟩⟩
          rw [mask_end hPt] at HYr
          exact HYr

end Go.Proofs.Ytbnmjbmlejifcaa
