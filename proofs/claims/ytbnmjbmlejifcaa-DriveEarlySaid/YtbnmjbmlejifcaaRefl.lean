/- The reference's Left: the walk. -/
import Derived.Test.YtbnmjbmlejifcaaRefb
import Derived.Test.YtbnmjbmlejifcaaLeft
set_option linter.all false
namespace Go.Proofs.Ytbnmjbmlejifcaa
open Go Go.RowKit Go.Proofs
attribute [local go_sem] cell_grow frozen_grow

/-- A row that one is appended to. -/
def OwnF (base : Nat) (v : Value) (k : Nat) (xs : List Value) (x : Value) (s1 s2 : Bool) (u1 u2 : Value) (W : World) : Prop :=
  if s2 = true then W.ownsRow base 2 1 u2 (k + 1) (xs ++ [x]) else W.ownsRow base 2 1 v k xs ∧ (s1 = true → ∃ b, u1 = .slice (some ⟨b, 0, none⟩) 1 1 ∧ W.cell? ⟨b, 0, none⟩ = some x)
section
variable {base k : Nat} {v x u1 u2 : Value} {xs : List Value} {s1 s2 : Bool} {W W' : World}
theorem OwnF.start (h : W.ownsRow base 2 1 v k xs) : OwnF base v k xs x false false u1 u2 W := by
  unfold OwnF
  exact ⟨h, fun q => by cases q⟩
theorem OwnF.mono (h : OwnF base v k xs x s1 s2 u1 u2 W) (hb : Below W.heap.size W W') : OwnF base v k xs x s1 s2 u1 u2 W' := by
  unfold OwnF at h ⊢
  split
  · rename_i q; rw [if_pos q] at h; exact own_mono h hb
  · rename_i q; rw [if_neg q] at h
    exact ⟨own_mono h.1 hb, fun p => by obtain ⟨b, h1, h2⟩ := h.2 p; exact ⟨b, h1, cell_mono h2 hb⟩⟩
theorem OwnF.row (h : OwnF base v k xs x false false u1 u2 W) : OwnF base v k xs x true false (.slice (some ⟨W.heap.size, 0, none⟩) 1 1) u2 (W.alloc (.cells #[x] 2)) := by
  unfold OwnF at h ⊢
  rw [if_neg (by decide)] at h ⊢
  exact ⟨own_mono h.1 (bl_alloc (bl_refl _) _), fun _ => ⟨_, rfl, cell_of_heap (World.alloc_heap_new W _)⟩⟩
theorem OwnF.arg (h : OwnF base v k xs x true false u1 u2 W) : ∃ b, u1 = .slice (some ⟨b, 0, none⟩) 1 1 := by
  unfold OwnF at h
  rw [if_neg (by decide)] at h
  obtain ⟨b, h1, _⟩ := h.2 rfl
  exact ⟨b, h1⟩
theorem OwnF.app {W0 : World} {y : Int} (h : OwnF base v k xs (.int .i64 y) true false u1 u2 W) (hb : Below W0.heap.size W0 W) (h0 : W0.heap.size ≤ base) (hk : k ≤ 1000) (hbs : base ≤ W.heap.size := by first | exact hb9.size | omega) : ∃ v' W', (Builtin.append_ #[36, 36] 36 #[v, u1]).run Try.prog W = .ok v' W' ∧ OwnF base v k xs (.int .i64 y) true true u1 v' W' ∧ Below W0.heap.size W0 W' := by
  unfold OwnF at h
  rw [if_neg (by decide)] at h
  obtain ⟨ho, h2⟩ := h
  obtain ⟨b, rfl, hc⟩ := h2 rfl
  obtain ⟨i2, hi2, hz2, hs2, hb2⟩ := info_parts info2'
  obtain ⟨v', W', h3, h4, h5, _, h6⟩ := run_append_own_at (P := Try.prog) W base 36 36 2 i2 (.int .i64 0) 1 8 Try.underlying36 hi2 hz2 hs2 hb2 rfl (by decide) v k _ ho ⟨b, 0, none⟩ 1 1 [.int .i64 y] rfl (fun j u hj => by
    cases j with
    | zero => simp only [List.getElem?_cons_zero, Option.some.injEq] at hj; subst hj; exact hc
    | succ j => simp at hj) (fun u hu => by simp at hu; subst hu; rfl) (by unfold maxLen; omega) (by omega) hbs
  refine ⟨v', W', h3, ?_, bl_grown hb ho h0 h5⟩
  unfold OwnF
  rw [if_pos rfl]
  exact h4
theorem OwnF.done (h : OwnF base v k xs x s1 true u1 u2 W) : W.ownsRow base 2 1 u2 (k + 1) (xs ++ [x]) := by
  unfold OwnF at h
  rwa [if_pos rfl] at h
end

set_option maxRecDepth 100000 in
set_option maxHeartbeats 8000000 in
theorem refLeft_any (days : Int) (l : List Rch) (sr : Value) (w : World) (hs : Rchs w sr l) :
    Calls Try.prog 28 #[.agg #[.int .i64 days, sr]] w fun e w' => (∃ v, e = .returned (.tuple #[v, .int .i64 (riverE days l)]) ∧ Ints w' v (leftL days l)) ∧ Below w.heap.size w w' := by
  obtain ⟨A, c, rfl⟩ := hs.slice
  have HX := hid (World.alloc_heap_new w (.cells #[.int .i64 days, .slice A l.length c] 24))
  have HB := hid (bl_alloc (bl_refl w) (.cells #[.int .i64 days, .slice A l.length c] 24))
  have HS := hid hs
  clear hs
  go_enter Try.func28, Try.ntmps28
  go_upto_region 1 with (fail)
  obtain ⟨R, hR⟩ : ∃ R, w.heap.size = R := ⟨_, rfl⟩
  obtain ⟨w0, hw0⟩ : ∃ w0, w.alloc (.cells #[.int .i64 days, .slice A l.length c] 24) = w0 := ⟨_, rfl⟩
  rw [hR] at HX ⊢
  rw [hw0] at HX HB ⊢
  clear hw0 hR
  have r0 : w0.cell? ⟨R, 0, none⟩ = some (.int .i64 days) := cell_of_heap HX.out
  have r1 : w0.cell? ⟨R, 1, none⟩ = some (.slice A l.length c) := cell_of_heap HX.out
  have l0 := (Array.getElem?_eq_some_iff.1 HX.out).1
  go_wp2_with fail
  refine (refRiver_any days l _ _ (HS.out.mono HB.out)).mono ?_
  rintro e w1 ⟨rfl, hb1⟩
  have HX1 := hid (heap_mono HX.out hb1)
  have HB1 := hid (bl_trans HB.out hb1)
  clear HX HB hb1 r0 r1 l0
  have r0 : w1.cell? ⟨R, 0, none⟩ = some (.int .i64 days) := cell_of_heap HX1.out
  have r1 : w1.cell? ⟨R, 1, none⟩ = some (.slice A l.length c) := cell_of_heap HX1.out
  have l0 := (Array.getElem?_eq_some_iff.1 HX1.out).1
  by_cases h0 : riverE days l = 0
  case neg =>
    have he : (riverE days l != 0) = true := by simp [h0]
    have e1 := hid (show leftL days l = [] by rw [leftL, if_neg h0])
    clear h0
    go_wp2_with fail
    refine (refRiver_any days l _ w1 (HS.out.mono HB1.out)).mono ?_
    rintro e w2 ⟨rfl, hb2⟩
    clear r0 r1 l0
    go_wp2
    go_ret2
    exact ⟨⟨_, rfl, .inl ⟨rfl, e1.out⟩⟩, bl_trans HB1.out hb2⟩
  have he : (riverE days l != 0) = false := by simp [h0]
  have HF := hid (fit_of h0)
  have f1 := HF.out.d1
  have f2 := HF.out.d2
  have f3 := HF.out.n1
  have f4 := HF.out.n2
  obtain ⟨D, rfl⟩ : ∃ D : Nat, days = D := ⟨days.toNat, by omega⟩
  obtain ⟨b, off, c', e5, hlc, hb, hcell⟩ := HS.out.some f3
  simp only [Value.slice.injEq, true_and] at e5
  obtain ⟨rfl, rfl⟩ := e5
  have e1 := hid (show leftL D l = (List.range l.length).map (leftN D l) by rw [leftL, if_pos h0, Int.toNat_natCast])
  have hcall := refEarly_any D l _ w1 (HS.out.mono HB1.out) HF.out
  have HPL : Hid ((planE D l).length = l.length) := (planE_full (D : Int) l).1
  have H0 := hid h0
  clear h0 hcell
  go_wp2_with fail
  refine hcall.mono ?_
  rintro e w2 ⟨⟨v, rfl, hv⟩, hb2⟩
  obtain ⟨A2, c2, rfl⟩ := hv.slice
  have HX2 := hid (heap_mono HX1.out hb2)
  have HB2 := hid (bl_trans HB1.out hb2)
  have HR2 := hid (HS.out.mono HB2.out)
  have HV := hid hv
  clear r0 r1 l0 hcall hv hb2 HX1 HB1
  go_wp2
  go_loopw [5, 6] (fun v p wr => ∃ k : Nat, k ≤ l.length ∧ p = .int .i64 k ∧ wr.ownsRow w2.heap.size 2 1 v k (ints ((List.range k).map (leftN D l))) ∧ Below w2.heap.size w2 wr) (fun _ p _ => l.length - (intOf p).toNat)
  case atStart => exact ⟨0, Nat.zero_le _, rfl, World.ownsRow_nil _ _ _ _, bl_refl _⟩
  case round =>
    obtain ⟨k, hk, rfl, hown, hB⟩ := hrel
    have s1 : wr.cell? ⟨R, 1, none⟩ = some (.slice (some ⟨b, off, none⟩) l.length c) := cell_of_heap (heap_mono HX2.out hB)
    have sl := (Array.getElem?_eq_some_iff.1 (heap_mono HX2.out hB)).1
    by_cases hlt : k < l.length
    · have hkI : decide ((k : Int) < (l.length : Int)) = true := by simp; omega
      have hcb := come_bd HF.out (planE_small HF.out) hlt (D : Int) (by omega)
      have hgb := gone_range (planE_small HF.out) k (D : Int) (by omega)
      obtain ⟨cm, hcm⟩ : ∃ cm, come (rivP l) (planP (planE D l)) k (D : Int) = cm := ⟨_, rfl⟩
      obtain ⟨gn, hgn⟩ : ∃ gn, gone (planP (planE D l)) k (D : Int) = gn := ⟨_, rfl⟩
      have HLN : Hid (leftN D l k = cm - gn) := by show leftN D l k = cm - gn; unfold leftN; rw [hcm, hgn]
      have HCM := hid hcm
      have HGN := hid hgn
      rw [hcm] at hcb
      rw [hgn] at hgb
      have hw1 : IntKind.i64.wrap (cm - gn) = cm - gn := IntWalk.i64_in _ (by omega)
      obtain ⟨xs, hxs⟩ : ∃ xs, ints ((List.range k).map (leftN D l)) = xs := ⟨_, rfl⟩
      have HXS := hid hxs
      rw [hxs] at hown
      clear hcm hgn hcb hgb hxs
      go_upto_region 8 with (fail)
      clear s1 sl hkI
      refine wp_region_vals0 w2 hB [21, 22, 23, 24, 25, 26, 27, 28, 29, 30, 31, 32, 33, 34, 35, 5] (fun seen u W => (seen 0 = true → u 21 = u5) ∧
        (seen 1 = true → u 22 = .agg #[.int .i64 (D : Int), .slice (some ⟨b, off, none⟩) l.length c]) ∧
        (seen 2 = true → u 23 = .slice A2 (planE D l).length c2) ∧
        (seen 3 = true → u 24 = .int .i64 (k : Int)) ∧
        (seen 4 = true → u 25 = .pointer (some ⟨R, 0, none⟩)) ∧
        (seen 5 = true → u 26 = .int .i64 (D : Int)) ∧
        (seen 6 = true → u 27 = .int .i64 cm) ∧
        (seen 7 = true → u 28 = .slice A2 (planE D l).length c2) ∧
        (seen 8 = true → u 29 = .int .i64 (k : Int)) ∧
        (seen 9 = true → u 30 = .pointer (some ⟨R, 0, none⟩)) ∧
        (seen 10 = true → u 31 = .int .i64 (D : Int)) ∧
        (seen 11 = true → u 32 = .int .i64 gn) ∧
        (seen 12 = true → u 33 = .int .i64 (cm - gn)) ∧
        (seen 13 = true → True) ∧
        (seen 14 = true → True) ∧
        (seen 15 = true → u 5 = u 35) ∧
        (seen 15 = true → seen 14 = true) ∧
        (seen 15 = false → u 5 = u5) ∧
        (seen 15 = true → seen 0 = true) ∧
        (seen 14 = true → seen 13 = true) ∧
        OwnF w2.heap.size u5 k xs (.int .i64 (cm - gn)) (seen 13) (seen 14) (u 34) (u 35) W)
        (by kernel_rfl) (by kernel_rfl) (by kernel_rfl) (by simp) ⟨by simp [valsOf], by simp [valsOf], by simp [valsOf], by simp [valsOf], by simp [valsOf], by simp [valsOf], by simp [valsOf], by simp [valsOf], by simp [valsOf], by simp [valsOf], by simp [valsOf], by simp [valsOf], by simp [valsOf], by simp [valsOf], by simp [valsOf], by simp [valsOf], by simp [valsOf], by simp [valsOf], by simp [valsOf], by simp [valsOf], OwnF.start (own_mono hown (bl_drew (bl_refl _)))⟩ ?_ ?_
      · intro i o ho seen a' w9 hb9 ⟨F0, F1, F2, F3, F4, F5, F6, F7, F8, F9, F10, F11, F12, F13, F14, F15, F16, F17, F18, F19, FM⟩ hv hsi hdep
        have hbx := heap_mono HX2.out hb9
        have c0 : w9.cell? ⟨R, 0, none⟩ = some (.int .i64 (D : Int)) := cell_of_heap hbx
        have c1 : w9.cell? ⟨R, 1, none⟩ = some (.slice (some ⟨b, off, none⟩) l.length c) := cell_of_heap hbx
        have hXl := (Array.getElem?_eq_some_iff.1 hbx).1
        rcases i with _ | _ | _ | _ | _ | _ | _ | _ | _ | _ | _ | _ | _ | _ | _ | _ | i <;> simp only [List.getElem?_cons_zero, List.getElem?_cons_succ, List.getElem?_nil, Option.some.injEq, reduceCtorEq] at ho <;> subst ho
        · have hs15 : seen 15 = false := by { cases hq : seen 15 with | false => rfl | true => exact absurd (F18 hq) (by rw [hsi]; decide) }
          have x5 := val_at (F17 hs15)
          refine wp_value (u5) (w' := w9) (by simp [execOp, x5, go_sem, c0, c1, hXl, hw1]) ⟨_, rfl, hb9, ?_⟩
          exact ⟨by simp, by simpa using F1, by simpa using F2, by simpa using F3, by simpa using F4, by simpa using F5, by simpa using F6, by simpa using F7, by simpa using F8, by simpa using F9, by simpa using F10, by simpa using F11, by simpa using F12, by simpa using F13, by simpa using F14, by simpa using F15, by simpa using F16, by simpa using F17, by simp, by simpa using F19, by simpa using FM⟩
        · have x1 := val_at (hv 1 (by simp))
          simp [valsOf] at x1
          refine wp_value (.agg #[.int .i64 (D : Int), .slice (some ⟨b, off, none⟩) l.length c]) (w' := w9) (by simp [execOp, x1, go_sem, c0, c1, hXl, hw1]) ⟨_, rfl, hb9, ?_⟩
          exact ⟨by simpa using F0, by simp, by simpa using F2, by simpa using F3, by simpa using F4, by simpa using F5, by simpa using F6, by simpa using F7, by simpa using F8, by simpa using F9, by simpa using F10, by simpa using F11, by simpa using F12, by simpa using F13, by simpa using F14, by simpa using F15, by simpa using F16, by simpa using F17, by simpa using F18, by simpa using F19, by simpa using FM⟩
        · have x4 := val_at (hv 4 (by simp))
          simp [valsOf] at x4
          refine wp_value (.slice A2 (planE D l).length c2) (w' := w9) (by simp [execOp, x4, go_sem, c0, c1, hXl, hw1]) ⟨_, rfl, hb9, ?_⟩
          exact ⟨by simpa using F0, by simpa using F1, by simp, by simpa using F3, by simpa using F4, by simpa using F5, by simpa using F6, by simpa using F7, by simpa using F8, by simpa using F9, by simpa using F10, by simpa using F11, by simpa using F12, by simpa using F13, by simpa using F14, by simpa using F15, by simpa using F16, by simpa using F17, by simpa using F18, by simpa using F19, by simpa using FM⟩
        · have x6 := val_at (hv 6 (by simp))
          simp [valsOf] at x6
          refine wp_value (.int .i64 (k : Int)) (w' := w9) (by simp [execOp, x6, go_sem, c0, c1, hXl, hw1]) ⟨_, rfl, hb9, ?_⟩
          exact ⟨by simpa using F0, by simpa using F1, by simpa using F2, by simp, by simpa using F4, by simpa using F5, by simpa using F6, by simpa using F7, by simpa using F8, by simpa using F9, by simpa using F10, by simpa using F11, by simpa using F12, by simpa using F13, by simpa using F14, by simpa using F15, by simpa using F16, by simpa using F17, by simpa using F18, by simpa using F19, by simpa using FM⟩
        · have x1 := val_at (hv 1 (by simp))
          simp [valsOf] at x1
          refine wp_value (.pointer (some ⟨R, 0, none⟩)) (w' := w9) (by simp [execOp, x1, go_sem, c0, c1, hXl, hw1]) ⟨_, rfl, hb9, ?_⟩
          exact ⟨by simpa using F0, by simpa using F1, by simpa using F2, by simpa using F3, by simp, by simpa using F5, by simpa using F6, by simpa using F7, by simpa using F8, by simpa using F9, by simpa using F10, by simpa using F11, by simpa using F12, by simpa using F13, by simpa using F14, by simpa using F15, by simpa using F16, by simpa using F17, by simpa using F18, by simpa using F19, by simpa using FM⟩
        · have d4 := hdep ⟨4, .data⟩ (by simp) rfl
          have e4 := val_at (F4 d4)
          refine wp_value (.int .i64 (D : Int)) (w' := w9) (by simp [execOp, e4, go_sem, c0, c1, hXl, hw1]) ⟨_, rfl, hb9, ?_⟩
          exact ⟨by simpa using F0, by simpa using F1, by simpa using F2, by simpa using F3, by simpa using F4, by simp, by simpa using F6, by simpa using F7, by simpa using F8, by simpa using F9, by simpa using F10, by simpa using F11, by simpa using F12, by simpa using F13, by simpa using F14, by simpa using F15, by simpa using F16, by simpa using F17, by simpa using F18, by simpa using F19, by simpa using FM⟩
        · have d1 := hdep ⟨1, .data⟩ (by simp) rfl
          have e1 := val_at (F1 d1)
          have d2 := hdep ⟨2, .data⟩ (by simp) rfl
          have e2 := val_at (F2 d2)
          have d3 := hdep ⟨3, .data⟩ (by simp) rfl
          have e3 := val_at (F3 d3)
          have d5 := hdep ⟨5, .data⟩ (by simp) rfl
          have e5 := val_at (F5 d5)
          have hcl := come_any D l _ (planE D l) _ k (D : Int) w9 (HR2.out.mono hb9) (HV.out.mono hb9) HF.out HPL.out hlt (planE_small HF.out) (by omega)
          rw [HCM.out] at hcl
          refine wp_calls (f := 64) (args := #[.agg #[.int .i64 (D : Int), .slice (some ⟨b, off, none⟩) l.length c], .slice A2 (planE D l).length c2, .int .i64 (k : Int), .int .i64 (D : Int)]) (w' := w9) (by simp [execOp, e1, e2, e3, e5, go_sem, valsOf]) hcl ?_
          rintro e w10 ⟨rfl, hg⟩
          refine ⟨_, rfl, _, rfl, bl_trans hb9 hg, ?_⟩
          exact ⟨by simpa using F0, by simpa using F1, by simpa using F2, by simpa using F3, by simpa using F4, by simpa using F5, by simp, by simpa using F7, by simpa using F8, by simpa using F9, by simpa using F10, by simpa using F11, by simpa using F12, by simpa using F13, by simpa using F14, by simpa using F15, by simpa using F16, by simpa using F17, by simpa using F18, by simpa using F19, by simpa using FM.mono hg⟩
        · have x4 := val_at (hv 4 (by simp))
          simp [valsOf] at x4
          refine wp_value (.slice A2 (planE D l).length c2) (w' := w9) (by simp [execOp, x4, go_sem, c0, c1, hXl, hw1]) ⟨_, rfl, hb9, ?_⟩
          exact ⟨by simpa using F0, by simpa using F1, by simpa using F2, by simpa using F3, by simpa using F4, by simpa using F5, by simpa using F6, by simp, by simpa using F8, by simpa using F9, by simpa using F10, by simpa using F11, by simpa using F12, by simpa using F13, by simpa using F14, by simpa using F15, by simpa using F16, by simpa using F17, by simpa using F18, by simpa using F19, by simpa using FM⟩
        · have x6 := val_at (hv 6 (by simp))
          simp [valsOf] at x6
          refine wp_value (.int .i64 (k : Int)) (w' := w9) (by simp [execOp, x6, go_sem, c0, c1, hXl, hw1]) ⟨_, rfl, hb9, ?_⟩
          exact ⟨by simpa using F0, by simpa using F1, by simpa using F2, by simpa using F3, by simpa using F4, by simpa using F5, by simpa using F6, by simpa using F7, by simp, by simpa using F9, by simpa using F10, by simpa using F11, by simpa using F12, by simpa using F13, by simpa using F14, by simpa using F15, by simpa using F16, by simpa using F17, by simpa using F18, by simpa using F19, by simpa using FM⟩
        · have x1 := val_at (hv 1 (by simp))
          simp [valsOf] at x1
          refine wp_value (.pointer (some ⟨R, 0, none⟩)) (w' := w9) (by simp [execOp, x1, go_sem, c0, c1, hXl, hw1]) ⟨_, rfl, hb9, ?_⟩
          exact ⟨by simpa using F0, by simpa using F1, by simpa using F2, by simpa using F3, by simpa using F4, by simpa using F5, by simpa using F6, by simpa using F7, by simpa using F8, by simp, by simpa using F10, by simpa using F11, by simpa using F12, by simpa using F13, by simpa using F14, by simpa using F15, by simpa using F16, by simpa using F17, by simpa using F18, by simpa using F19, by simpa using FM⟩
        · have d9 := hdep ⟨9, .data⟩ (by simp) rfl
          have e9 := val_at (F9 d9)
          refine wp_value (.int .i64 (D : Int)) (w' := w9) (by simp [execOp, e9, go_sem, c0, c1, hXl, hw1]) ⟨_, rfl, hb9, ?_⟩
          exact ⟨by simpa using F0, by simpa using F1, by simpa using F2, by simpa using F3, by simpa using F4, by simpa using F5, by simpa using F6, by simpa using F7, by simpa using F8, by simpa using F9, by simp, by simpa using F11, by simpa using F12, by simpa using F13, by simpa using F14, by simpa using F15, by simpa using F16, by simpa using F17, by simpa using F18, by simpa using F19, by simpa using FM⟩
        · have d7 := hdep ⟨7, .data⟩ (by simp) rfl
          have e7 := val_at (F7 d7)
          have d8 := hdep ⟨8, .data⟩ (by simp) rfl
          have e8 := val_at (F8 d8)
          have d10 := hdep ⟨10, .data⟩ (by simp) rfl
          have e10 := val_at (F10 d10)
          have hcl := gone_any (planE D l) _ k (D : Int) w9 (HV.out.mono hb9) (by rw [HPL.out]; exact hlt) (planE_small HF.out) (by omega)
          rw [HGN.out] at hcl
          refine wp_calls (f := 48) (args := #[.slice A2 (planE D l).length c2, .int .i64 (k : Int), .int .i64 (D : Int)]) (w' := w9) (by simp [execOp, e7, e8, e10, go_sem, valsOf]) hcl ?_
          rintro e w10 ⟨rfl, rfl⟩
          refine ⟨_, rfl, _, rfl, hb9, ?_⟩
          exact ⟨by simpa using F0, by simpa using F1, by simpa using F2, by simpa using F3, by simpa using F4, by simpa using F5, by simpa using F6, by simpa using F7, by simpa using F8, by simpa using F9, by simpa using F10, by simp, by simpa using F12, by simpa using F13, by simpa using F14, by simpa using F15, by simpa using F16, by simpa using F17, by simpa using F18, by simpa using F19, by simpa using FM⟩
        · have d6 := hdep ⟨6, .data⟩ (by simp) rfl
          have e6 := val_at (F6 d6)
          have d11 := hdep ⟨11, .data⟩ (by simp) rfl
          have e11 := val_at (F11 d11)
          refine wp_value (.int .i64 (cm - gn)) (w' := w9) (by simp [execOp, e6, e11, go_sem, c0, c1, hXl, hw1]) ⟨_, rfl, hb9, ?_⟩
          exact ⟨by simpa using F0, by simpa using F1, by simpa using F2, by simpa using F3, by simpa using F4, by simpa using F5, by simpa using F6, by simpa using F7, by simpa using F8, by simpa using F9, by simpa using F10, by simpa using F11, by simp, by simpa using F13, by simpa using F14, by simpa using F15, by simpa using F16, by simpa using F17, by simpa using F18, by simpa using F19, by simpa using FM⟩
        · have d12 := hdep ⟨12, .data⟩ (by simp) rfl
          have e12 := val_at (F12 d12)
          have hs14 : seen 14 = false := by { cases hq : seen 14 with | false => rfl | true => exact absurd (F19 hq) (by rw [hsi]; decide) }
          rw [hsi, hs14] at FM
          have hm := FM.row
          have hg : Below w9.heap.size w9 (w9.alloc (.cells #[.int .i64 (cm - gn)] 2)) := bl_alloc (bl_refl _) _
          refine wp_value (.slice (some ⟨w9.heap.size, 0, none⟩) 1 1) (w' := w9.alloc (.cells #[.int .i64 (cm - gn)] 2)) (by simp [execOp, e12, go_sem]) ⟨_, rfl, bl_trans hb9 hg, ?_⟩
          exact ⟨by simpa using F0, by simpa using F1, by simpa using F2, by simpa using F3, by simpa using F4, by simpa using F5, by simpa using F6, by simpa using F7, by simpa using F8, by simpa using F9, by simpa using F10, by simpa using F11, by simpa using F12, by simp, by simpa using F14, by simpa using F15, by simpa using F16, by simpa using F17, by simpa using F18, by simp, by simpa [hs14] using hm⟩
        · have d0 := hdep ⟨0, .data⟩ (by simp) rfl
          have e0 := val_at (F0 d0)
          have d13 := hdep ⟨13, .data⟩ (by simp) rfl
          rw [d13, hsi] at FM
          obtain ⟨b2, harg⟩ := FM.arg
          have e13 := val_at harg
          obtain ⟨v2, w10, hrun, hM, hbn⟩ := FM.app (W0 := w2) hb9 (Nat.le_refl _) (by omega)
          rw [harg] at hrun
          refine wp_append_run _ _ 36 rfl _ _ v2 w10 (by simp [go_sem, e0]) (by simp [go_sem, e13]) hrun ⟨_, rfl, hbn, ?_⟩
          exact ⟨by simpa using F0, by simpa using F1, by simpa using F2, by simpa using F3, by simpa using F4, by simpa using F5, by simpa using F6, by simpa using F7, by simpa using F8, by simpa using F9, by simpa using F10, by simpa using F11, by simpa using F12, by simpa using F13, by simp, by simpa using fun h => absurd (F16 h) (by rw [hsi]; decide), by simpa using F16, by simpa using F17, by simpa using F18, by simpa using d13, by simpa [d13] using hM⟩
        · have d14 := hdep ⟨14, .data⟩ (by simp) rfl
          refine wp_value (valsOf a' 35) (w' := w9) (by simp [execOp, go_sem, valsOf]) ⟨_, rfl, hb9, ?_⟩
          exact ⟨by simpa using F0, by simpa using F1, by simpa using F2, by simpa using F3, by simpa using F4, by simpa using F5, by simpa using F6, by simpa using F7, by simpa using F8, by simpa using F9, by simpa using F10, by simpa using F11, by simpa using F12, by simpa using F13, by simpa using F14, by simp, by simpa using d14, by simp, by simpa using hdep ⟨0, .phase⟩ (by simp) rfl, by simpa using F19, by simpa using FM⟩
      intro u w5 hb5 seen hall ⟨F0, F1, F2, F3, F4, F5, F6, F7, F8, F9, F10, F11, F12, F13, F14, F15, F16, F17, F18, F19, FM⟩
      replace F0 := F0 (hall 0 (by decide))
      replace F1 := F1 (hall 1 (by decide))
      replace F2 := F2 (hall 2 (by decide))
      replace F3 := F3 (hall 3 (by decide))
      replace F4 := F4 (hall 4 (by decide))
      replace F5 := F5 (hall 5 (by decide))
      replace F6 := F6 (hall 6 (by decide))
      replace F7 := F7 (hall 7 (by decide))
      replace F8 := F8 (hall 8 (by decide))
      replace F9 := F9 (hall 9 (by decide))
      replace F10 := F10 (hall 10 (by decide))
      replace F11 := F11 (hall 11 (by decide))
      replace F12 := F12 (hall 12 (by decide))
      replace F13 := F13 (hall 13 (by decide))
      replace F14 := F14 (hall 14 (by decide))
      replace F15 := F15 (hall 15 (by decide))
      simp only [hall 13 (by decide), hall 14 (by decide)] at FM
      have hst := FM.done
      have hst2 : Hid (w5.ownsRow w2.heap.size 2 1 (u 35) (k + 1) (ints ((List.range (k + 1)).map (leftN D l)))) := by
        show w5.ownsRow _ _ _ _ _ _
        rw [List.range_succ, List.map_append]
        simp only [List.map_cons, List.map_nil, HLN.out, ints, List.map_append]
        simp only [← HXS.out, ints] at hst
        exact hst
      simp only [setAll, F15]
      have HB5 := hid hb5
      clear FM hst F0 F1 F2 F3 F4 F5 F6 F7 F8 F9 F10 F11 F12 F13 F14 F15 F16 F17 F18 F19 hall seen hw1 hb5 hown hB
      generalize u 21 = u21 at *
      generalize u 22 = u22 at *
      generalize u 23 = u23 at *
      generalize u 24 = u24 at *
      generalize u 25 = u25 at *
      generalize u 26 = u26 at *
      generalize u 27 = u27 at *
      generalize u 28 = u28 at *
      generalize u 29 = u29 at *
      generalize u 30 = u30 at *
      generalize u 31 = u31 at *
      generalize u 32 = u32 at *
      generalize u 33 = u33 at *
      generalize u 34 = u34 at *
      generalize u 35 = u35 at *
      go_wp2
      go_roundw
      case rel => exact ⟨k + 1, by omega, by go_num, hst2.out, HB5.out⟩
      case measure => simp [intOf]; omega
    · obtain rfl : k = l.length := by omega
      have hz := ints_own (by simp) hown
      have HZ := hid hz
      clear hz hown
      go_wp2
      go_ret2
      exact ⟨⟨_, by rw [H0.out]; rfl, by rw [e1.out]; exact HZ.out⟩, bl_trans HB2.out hB⟩

end Go.Proofs.Ytbnmjbmlejifcaa
