/- BoomTurned: the law's walk. -/
import Derived.Test.YtlkoadcbolkhoaaTurnw
import Derived.Test.YtlkoadcbolkhoaaLawe
set_option linter.all false
namespace Go.Proofs.Ytlkoadcbolkhoaa
open Go Go.RowKit Go.Proofs
attribute [local go_sem] cell_grow frozen_grow

/-- A row of the call's own; a pond of such rows; a box for it. -/
def TurnV (W : World) (v : Value) (l : List Int) : Prop := ∃ base, W.ownsRow base 3 1 v l.length (l.map (Value.int .i64))
theorem TurnV.mono {W W' : World} {v : Value} {l : List Int} (h : TurnV W v l) (hb : Below W.heap.size W W') : TurnV W' v l := ⟨h.choose, own_mono h.choose_spec hb⟩
theorem TurnV.ints {W : World} {v : Value} {l : List Int} (h : TurnV W v l) : Ints W v l := ints_own rfl h.choose_spec
theorem TurnV.kept {W W' : World} {v : Value} {l : List Int} (h : TurnV W v l) (q : ∀ (base n : Nat) (v : Value) (xs : List Value), W.ownsRow base 3 1 v n xs → W'.ownsRow base 3 1 v n xs) : TurnV W' v l := ⟨h.choose, q _ _ _ _ h.choose_spec⟩
def PondT (W : World) (v : Value) (wd ht : Int) (A B : List Int) : Prop := ∃ A7 c7 A8 c8, v = .agg #[.int .i64 wd, .int .i64 ht, .slice A7 A.length c7, .slice A8 B.length c8] ∧ TurnV W (.slice A7 A.length c7) A ∧ TurnV W (.slice A8 B.length c8) B
theorem PondT.mono {W W' : World} {v : Value} {wd ht : Int} {A B : List Int} (h : PondT W v wd ht A B) (hb : Below W.heap.size W W') : PondT W' v wd ht A B := by
  obtain ⟨a, b, c, d, h1, h2, h3⟩ := h
  exact ⟨a, b, c, d, h1, h2.mono hb, h3.mono hb⟩
theorem PondT.kept {W W' : World} {v : Value} {wd ht : Int} {A B : List Int} (h : PondT W v wd ht A B) (q : ∀ (base n : Nat) (v : Value) (xs : List Value), W.ownsRow base 3 1 v n xs → W'.ownsRow base 3 1 v n xs) : PondT W' v wd ht A B := by
  obtain ⟨a, b, c, d, h1, h2, h3⟩ := h
  exact ⟨a, b, c, d, h1, h2.kept q, h3.kept q⟩
def PondB (base : Nat) (W : World) (v : Value) (wd ht : Int) (A B : List Int) (st : Bool) : Prop := ∃ k, v = .pointer (some ⟨k, 0, none⟩) ∧ base ≤ k ∧ (st = false → W.heap[k]? = some (.cells #[.int .i64 0, .int .i64 0, .slice none 0 0, .slice none 0 0] 24 (0, 0))) ∧
  (st = true → ∃ A7 c7 A8 c8, W.heap[k]? = some (.cells #[.int .i64 wd, .int .i64 ht, .slice A7 A.length c7, .slice A8 B.length c8] 24 (0, 0)) ∧ TurnV W (.slice A7 A.length c7) A ∧ TurnV W (.slice A8 B.length c8) B)
theorem PondB.mono {base : Nat} {W W' : World} {v : Value} {wd ht : Int} {A B : List Int} {st : Bool} (h : PondB base W v wd ht A B st) (hb : Below W.heap.size W W') : PondB base W' v wd ht A B st := by
  obtain ⟨k, h1, h2, h3, h4⟩ := h
  refine ⟨k, h1, h2, fun e => heap_mono (h3 e) hb, fun e => ?_⟩
  obtain ⟨a, b, c, d, g1, g2, g3⟩ := h4 e
  exact ⟨a, b, c, d, heap_mono g1 hb, g2.mono hb, g3.mono hb⟩
theorem put_pond {W : World} {k : Nat} {z0 z1 z2 z3 : Value} (hz : W.heap[k]? = some (.cells #[z0, z1, z2, z3] 24 (0, 0))) (a b c d : Value) :
    ((((W.setCell ⟨k, 0, none⟩ a).setCell ⟨k, 1, none⟩ b).setCell ⟨k, 2, none⟩ c).setCell ⟨k, 3, none⟩ d).heap[k]? = some (.cells #[a, b, c, d] 24 (0, 0)) ∧
    ∀ (base n : Nat) (v : Value) (xs : List Value), W.ownsRow base 3 1 v n xs → ((((W.setCell ⟨k, 0, none⟩ a).setCell ⟨k, 1, none⟩ b).setCell ⟨k, 2, none⟩ c).setCell ⟨k, 3, none⟩ d).ownsRow base 3 1 v n xs := by
  have h1 : (W.setCell ⟨k, 0, none⟩ a).heap[k]? = some (.cells #[a, z1, z2, z3] 24 (0, 0)) := by rw [heap_setCell_same _ _ _ _ _ _ hz]; rfl
  have h2 : ((W.setCell ⟨k, 0, none⟩ a).setCell ⟨k, 1, none⟩ b).heap[k]? = some (.cells #[a, b, z2, z3] 24 (0, 0)) := by rw [heap_setCell_same _ _ _ _ _ _ h1]; rfl
  have h3 : (((W.setCell ⟨k, 0, none⟩ a).setCell ⟨k, 1, none⟩ b).setCell ⟨k, 2, none⟩ c).heap[k]? = some (.cells #[a, b, c, z3] 24 (0, 0)) := by rw [heap_setCell_same _ _ _ _ _ _ h2]; rfl
  have h4 : ((((W.setCell ⟨k, 0, none⟩ a).setCell ⟨k, 1, none⟩ b).setCell ⟨k, 2, none⟩ c).setCell ⟨k, 3, none⟩ d).heap[k]? = some (.cells #[a, b, c, d] 24 (0, 0)) := by rw [heap_setCell_same _ _ _ _ _ _ h3]; rfl
  exact ⟨h4, fun base n v xs ho => own_set_other h3 (own_set_other h2 (own_set_other h1 (own_set_other hz ho (by decide) _ _) (by decide) _ _) (by decide) _ _) (by decide) _ _⟩
structure SwapM (X Y : Nat) (cx : Array Value) (s1 s2 : Value) (wd ht : Int) (A B : List Int) (a b : Bool) (W : World) : Prop where
  x : W.heap[X]? = some (.cells cx 24 (0, 0))
  y : W.heap[Y]? = some (.cells #[.int .i64 (if a = true then ht else wd), .int .i64 (if b = true then wd else ht), s1, s2] 24 (0, 0))
  t1 : TurnV W s1 A
  t2 : TurnV W s2 B
section
variable {X Y : Nat} {cx : Array Value} {s1 s2 : Value} {wd ht : Int} {A B : List Int} {a b : Bool} {W W' : World}
theorem SwapM.mono (h : SwapM X Y cx s1 s2 wd ht A B a b W) (hb : Below W.heap.size W W') : SwapM X Y cx s1 s2 wd ht A B a b W' := ⟨heap_mono h.x hb, heap_mono h.y hb, h.t1.mono hb, h.t2.mono hb⟩
theorem SwapM.start (hx : W.heap[X]? = some (.cells cx 24 (0, 0))) (hy : W.heap[Y]? = some (.cells #[.int .i64 wd, .int .i64 ht, s1, s2] 24 (0, 0))) (t1 : TurnV W s1 A) (t2 : TurnV W s2 B) : SwapM X Y cx s1 s2 wd ht A B false false W := ⟨hx, hy, t1, t2⟩
theorem SwapM.put0 (hXY : X ≠ Y) (h : SwapM X Y cx s1 s2 wd ht A B false b W) : SwapM X Y cx s1 s2 wd ht A B true b (W.setCell ⟨Y, 0, none⟩ (.int .i64 ht)) :=
  ⟨past_set hXY h.x, by rw [heap_setCell_same _ _ _ _ _ _ h.y]; rfl, h.t1.kept fun _ _ _ _ ho => own_set_other h.y ho (by decide) _ _, h.t2.kept fun _ _ _ _ ho => own_set_other h.y ho (by decide) _ _⟩
theorem SwapM.put1 (hXY : X ≠ Y) (h : SwapM X Y cx s1 s2 wd ht A B a false W) : SwapM X Y cx s1 s2 wd ht A B a true (W.setCell ⟨Y, 1, none⟩ (.int .i64 wd)) :=
  ⟨past_set hXY h.x, by rw [heap_setCell_same _ _ _ _ _ _ h.y]; rfl, h.t1.kept fun _ _ _ _ ho => own_set_other h.y ho (by decide) _ _, h.t2.kept fun _ _ _ _ ho => own_set_other h.y ho (by decide) _ _⟩
end
set_option maxRecDepth 100000 in
set_option maxHeartbeats 16000000 in
theorem boomTurned_any (wd ht : Int) (sw sk : Value) (want keep : List Int) (a : Bool) (w : World) (hw : Ints w sw want) (hk : Ints w sk keep) :
    Calls Try.prog 12 #[.agg #[.int .i64 wd, .int .i64 ht, sw, sk], .bool a] w fun e w' => e = .returned (.bool true) ∧ Below w.heap.size w w' := by
  obtain ⟨A, ca, rfl⟩ := hw.slice
  obtain ⟨Bk, ck, rfl⟩ := hk.slice
  obtain ⟨fb, hfb⟩ : ∃ b, fineB wd ht want keep = b := ⟨_, rfl⟩
  have HFB := hid hfb
  clear hfb
  have HX_0 := hid (World.alloc_heap_new w (.cells #[.int .i64 wd, .int .i64 ht, .slice A want.length ca, .slice Bk keep.length ck] 24))
  have hb0 := bl_alloc (bl_refl w) (.cells #[.int .i64 wd, .int .i64 ht, .slice A want.length ca, .slice Bk keep.length ck] 24)
  have HB0 := hid hb0
  have HW_0 := hid (hw.mono hb0)
  have HK_0 := hid (hk.mono hb0)
  clear hb0 hw hk
  go_enter Try.func12, Try.ntmps12
  go_upto_region 1 with (fail)
  obtain ⟨w0, hw0⟩ : ∃ w0, w.alloc (.cells #[.int .i64 wd, .int .i64 ht, .slice A want.length ca, .slice Bk keep.length ck] 24) = w0 := ⟨_, rfl⟩
  obtain ⟨X, hX⟩ : ∃ X, w.heap.size = X := ⟨_, rfl⟩
  rw [hX] at HX_0 ⊢
  rw [hw0] at HB0 HX_0 HW_0 HK_0 ⊢
  clear hw0 hX
  have sX0 : w0.cell? ⟨X, 0, none⟩ = some (.int .i64 wd) := cell_of_heap HX_0.out
  have sX1 : w0.cell? ⟨X, 1, none⟩ = some (.int .i64 ht) := cell_of_heap HX_0.out
  have sX2 : w0.cell? ⟨X, 2, none⟩ = some (.slice A want.length ca) := cell_of_heap HX_0.out
  have sX3 : w0.cell? ⟨X, 3, none⟩ = some (.slice Bk keep.length ck) := cell_of_heap HX_0.out
  have slX := (Array.getElem?_eq_some_iff.1 HX_0.out).1
  have hcall := fine_any (wd := wd) (hg := ht) w0 HW_0.out HK_0.out
  rw [HFB.out] at hcall
  go_wp2_with fail
  refine hcall.mono ?_
  rintro e w1 ⟨rfl, hb1⟩
  clear hcall sX0 sX1 sX2 sX3 slX
  have HX_1 := hid (heap_mono HX_0.out hb1)
  have HW_1 := hid (HW_0.out.mono hb1)
  have HK_1 := hid (HK_0.out.mono hb1)
  have HB1 := hid (bl_trans HB0.out hb1)
  clear HX_0 HW_0 HK_0
  clear hb1
  cases fb with
  | false =>
    have hworks := works_any w1
    go_wp2_with fail
    refine hworks.mono ?_
    rintro e wz ⟨rfl, hbz⟩
    clear hworks
    go_wp2
    go_ret
    exact ⟨rfl, bl_trans HB1.out hbz⟩
  | true =>
    obtain ⟨hp, hl1, hl2⟩ := fine_yes HFB.out
    have hV := pond_valid hp
    obtain ⟨k1, k2, k3, k4⟩ := rho_known a hp
    have hsn := small_len hV
    have hln := large_len hV
    have isn : ∀ c ∈ smallL wd ht want keep, inP wd ht c := fun c hc => listB_in (small_list hV) c hc
    have iln : ∀ c ∈ largeL wd ht want keep, inP wd ht c := fun c hc => listB_in (large_list hV) c hc
    have iwn : ∀ c ∈ want, inP wd ht c := fun c hc => hV.win hc
    have ikn : ∀ c ∈ keep, inP wd ht c := fun c hc => hV.kin hc
    have lw := turnF_len (f := rhoC a wd ht) want []
    have lk := turnF_len (f := rhoC a wd ht) keep []
    have ls := turnF_len (f := rhoC a wd ht) (smallL wd ht want keep) []
    have ll := turnF_len (f := rhoC a wd ht) (largeL wd ht want keep) []
    obtain ⟨M, hM⟩ : ∃ m : Int, ((raft wd ht want keep).2 : Int) = m := ⟨_, rfl⟩
    obtain ⟨SL, hSL⟩ : ∃ l, smallL wd ht want keep = l := ⟨_, rfl⟩
    obtain ⟨LL, hLL⟩ : ∃ l, largeL wd ht want keep = l := ⟨_, rfl⟩
    rw [hSL] at hsn isn ls k3
    rw [hLL] at hln iln ll k4
    obtain ⟨TW, hTW⟩ : ∃ l, turnF (rhoC a wd ht) [] want = l := ⟨_, rfl⟩
    obtain ⟨TK, hTK⟩ : ∃ l, turnF (rhoC a wd ht) [] keep = l := ⟨_, rfl⟩
    obtain ⟨TS, hTS⟩ : ∃ l, turnF (rhoC a wd ht) [] SL = l := ⟨_, rfl⟩
    obtain ⟨TL, hTL⟩ : ∃ l, turnF (rhoC a wd ht) [] LL = l := ⟨_, rfl⟩
    rw [hTW, hTK] at k1 k2 k3 k4
    rw [hTS] at k3 ls
    rw [hTL] at k4 ll
    rw [hTW] at lw
    rw [hTK] at lk
    rw [List.length_nil] at lw lk ls ll
    have HP := hid hp
    have HM := hid hM
    have HSL := hid hSL
    have HLL := hid hLL
    have HTW := hid hTW
    have HTK := hid hTK
    have HTS := hid hTS
    have HTL := hid hTL
    have HK1 := hid k1
    have HK2 := hid k2
    have HK3 := hid k3
    have HK4 := hid k4
    have HBo := hid hV.B
    have HIS := hid isn
    have HIL := hid iln
    have HIW := hid iwn
    have HIK := hid ikn
    clear hp hV k1 k2 k3 k4 hM hSL hLL hTW hTK hTS hTL isn iln iwn ikn
    go_upto_region 3 with (fail)
    refine wp_region_valsG w1 (bl_refl _) [18, 19, 20, 21, 22, 23, 24, 25, 26, 27, 28, 29, 30, 31, 32, 5] (fun seen u W => (seen 0 = true → u 18 = .pointer (some ⟨X, 0, none⟩)) ∧
      (seen 1 = true → u 19 = .int .i64 wd) ∧
      (seen 2 = true → u 20 = .pointer (some ⟨X, 1, none⟩)) ∧
      (seen 3 = true → u 21 = .int .i64 ht) ∧
      (seen 4 = true → u 22 = .agg #[.int .i64 wd, .int .i64 ht, .slice A want.length ca, .slice Bk keep.length ck]) ∧
      (seen 5 = true → u 23 = .pointer (some ⟨X, 2, none⟩)) ∧
      (seen 6 = true → u 24 = .slice A want.length ca) ∧
      (seen 7 = true → u 25 = .bool a) ∧
      (seen 8 = true → TurnV W (u 26) TW) ∧
      (seen 9 = true → u 27 = .agg #[.int .i64 wd, .int .i64 ht, .slice A want.length ca, .slice Bk keep.length ck]) ∧
      (seen 10 = true → u 28 = .pointer (some ⟨X, 3, none⟩)) ∧
      (seen 11 = true → u 29 = .slice Bk keep.length ck) ∧
      (seen 12 = true → u 30 = .bool a) ∧
      (seen 13 = true → TurnV W (u 31) TK) ∧
      (seen 14 = true → PondT W (u 32) wd ht TW TK) ∧
      (seen 15 = true → PondB w1.heap.size W (u 5) wd ht TW TK (seen 16)) ∧
      (seen 16 = true → True) ∧
      (seen 16 = true → seen 15 = true) ∧
      (seen 16 = true → seen 16 = true))
      (by kernel_rfl) (by kernel_rfl) (by kernel_rfl) (by simp) (by simp [valsOf]) ?_ ?_
    · intro i o ho seen a' w9 hb9 ⟨F0, F1, F2, F3, F4, F5, F6, F7, F8, F9, F10, F11, F12, F13, F14, F15, F16, F17, F18⟩ hv hsi hdep
      have hbx := heap_mono HX_1.out hb9
      have x0_ : w9.cell? ⟨X, 0, none⟩ = some (.int .i64 wd) := cell_of_heap hbx
      have x1_ : w9.cell? ⟨X, 1, none⟩ = some (.int .i64 ht) := cell_of_heap hbx
      have x2_ : w9.cell? ⟨X, 2, none⟩ = some (.slice A want.length ca) := cell_of_heap hbx
      have x3_ : w9.cell? ⟨X, 3, none⟩ = some (.slice Bk keep.length ck) := cell_of_heap hbx
      have hXl := (Array.getElem?_eq_some_iff.1 hbx).1
      rcases i with _ | _ | _ | _ | _ | _ | _ | _ | _ | _ | _ | _ | _ | _ | _ | _ | _ | i <;> simp only [List.getElem?_cons_zero, List.getElem?_cons_succ, List.getElem?_nil, Option.some.injEq, reduceCtorEq] at ho <;> subst ho
      · refine if_free rfl ?_
        have x2 := val_at (hv 2 (by simp))
        simp [valsOf] at x2
        refine wp_value (.pointer (some ⟨X, 0, none⟩)) (w' := w9) (by simp [execOp, x2, go_sem, x0_, x1_, x2_, x3_, hXl]) ⟨_, rfl, hb9, ?_⟩
        exact ⟨by simp, by simpa using F1, by simpa using F2, by simpa using F3, by simpa using F4, by simpa using F5, by simpa using F6, by simpa using F7, by simpa using F8, by simpa using F9, by simpa using F10, by simpa using F11, by simpa using F12, by simpa using F13, by simpa using F14, by simpa using F15, by simpa using F16, by simpa using F17, by simp⟩
      · refine if_free rfl ?_
        have d0 := hdep ⟨0, .data⟩ (by simp) rfl
        have e0 := val_at (F0 d0)
        refine wp_value (.int .i64 wd) (w' := w9) (by simp [execOp, e0, go_sem, x0_, x1_, x2_, x3_, hXl]) ⟨_, rfl, hb9, ?_⟩
        exact ⟨by simpa using F0, by simp, by simpa using F2, by simpa using F3, by simpa using F4, by simpa using F5, by simpa using F6, by simpa using F7, by simpa using F8, by simpa using F9, by simpa using F10, by simpa using F11, by simpa using F12, by simpa using F13, by simpa using F14, by simpa using F15, by simpa using F16, by simpa using F17, by simp⟩
      · refine if_free rfl ?_
        have x2 := val_at (hv 2 (by simp))
        simp [valsOf] at x2
        refine wp_value (.pointer (some ⟨X, 1, none⟩)) (w' := w9) (by simp [execOp, x2, go_sem, x0_, x1_, x2_, x3_, hXl]) ⟨_, rfl, hb9, ?_⟩
        exact ⟨by simpa using F0, by simpa using F1, by simp, by simpa using F3, by simpa using F4, by simpa using F5, by simpa using F6, by simpa using F7, by simpa using F8, by simpa using F9, by simpa using F10, by simpa using F11, by simpa using F12, by simpa using F13, by simpa using F14, by simpa using F15, by simpa using F16, by simpa using F17, by simp⟩
      · refine if_free rfl ?_
        have d2 := hdep ⟨2, .data⟩ (by simp) rfl
        have e2 := val_at (F2 d2)
        refine wp_value (.int .i64 ht) (w' := w9) (by simp [execOp, e2, go_sem, x0_, x1_, x2_, x3_, hXl]) ⟨_, rfl, hb9, ?_⟩
        exact ⟨by simpa using F0, by simpa using F1, by simpa using F2, by simp, by simpa using F4, by simpa using F5, by simpa using F6, by simpa using F7, by simpa using F8, by simpa using F9, by simpa using F10, by simpa using F11, by simpa using F12, by simpa using F13, by simpa using F14, by simpa using F15, by simpa using F16, by simpa using F17, by simp⟩
      · refine if_free rfl ?_
        have x2 := val_at (hv 2 (by simp))
        simp [valsOf] at x2
        refine wp_value (.agg #[.int .i64 wd, .int .i64 ht, .slice A want.length ca, .slice Bk keep.length ck]) (w' := w9) (by simp [execOp, x2, go_sem, x0_, x1_, x2_, x3_, hXl]) ⟨_, rfl, hb9, ?_⟩
        exact ⟨by simpa using F0, by simpa using F1, by simpa using F2, by simpa using F3, by simp, by simpa using F5, by simpa using F6, by simpa using F7, by simpa using F8, by simpa using F9, by simpa using F10, by simpa using F11, by simpa using F12, by simpa using F13, by simpa using F14, by simpa using F15, by simpa using F16, by simpa using F17, by simp⟩
      · refine if_free rfl ?_
        have x2 := val_at (hv 2 (by simp))
        simp [valsOf] at x2
        refine wp_value (.pointer (some ⟨X, 2, none⟩)) (w' := w9) (by simp [execOp, x2, go_sem, x0_, x1_, x2_, x3_, hXl]) ⟨_, rfl, hb9, ?_⟩
        exact ⟨by simpa using F0, by simpa using F1, by simpa using F2, by simpa using F3, by simpa using F4, by simp, by simpa using F6, by simpa using F7, by simpa using F8, by simpa using F9, by simpa using F10, by simpa using F11, by simpa using F12, by simpa using F13, by simpa using F14, by simpa using F15, by simpa using F16, by simpa using F17, by simp⟩
      · refine if_free rfl ?_
        have d5 := hdep ⟨5, .data⟩ (by simp) rfl
        have e5 := val_at (F5 d5)
        refine wp_value (.slice A want.length ca) (w' := w9) (by simp [execOp, e5, go_sem, x0_, x1_, x2_, x3_, hXl]) ⟨_, rfl, hb9, ?_⟩
        exact ⟨by simpa using F0, by simpa using F1, by simpa using F2, by simpa using F3, by simpa using F4, by simpa using F5, by simp, by simpa using F7, by simpa using F8, by simpa using F9, by simpa using F10, by simpa using F11, by simpa using F12, by simpa using F13, by simpa using F14, by simpa using F15, by simpa using F16, by simpa using F17, by simp⟩
      · refine if_free rfl ?_
        have x1 := val_at (hv 1 (by simp))
        simp [valsOf] at x1
        refine wp_value (.bool a) (w' := w9) (by simp [execOp, x1, go_sem, x0_, x1_, x2_, x3_, hXl]) ⟨_, rfl, hb9, ?_⟩
        exact ⟨by simpa using F0, by simpa using F1, by simpa using F2, by simpa using F3, by simpa using F4, by simpa using F5, by simpa using F6, by simp, by simpa using F8, by simpa using F9, by simpa using F10, by simpa using F11, by simpa using F12, by simpa using F13, by simpa using F14, by simpa using F15, by simpa using F16, by simpa using F17, by simp⟩
      · refine if_free rfl ?_
        have d4 := hdep ⟨4, .data⟩ (by simp) rfl
        have e4 := val_at (F4 d4)
        have d6 := hdep ⟨6, .data⟩ (by simp) rfl
        have e6 := val_at (F6 d6)
        have d7 := hdep ⟨7, .data⟩ (by simp) rfl
        have e7 := val_at (F7 d7)
        have hcl := turned_own (wd := wd) (hg := ht) (sw := .slice A want.length ca) (sk := .slice Bk keep.length ck) (l := want) a (.slice A want.length ca) w9 HBo.out HIW.out (by omega) (HW_1.out.mono hb9)
        rw [HTW.out] at hcl
        refine wp_calls (f := 55) (args := #[.agg #[.int .i64 wd, .int .i64 ht, .slice A want.length ca, .slice Bk keep.length ck], .slice A want.length ca, .bool a]) (w' := w9) (by simp [execOp, e4, e6, e7, go_sem]) hcl ?_
        rintro e w10 ⟨⟨v, bs, rfl, hv⟩, hg⟩
        have hn : TurnV w10 v TW := ⟨_, hv⟩
        refine ⟨_, rfl, _, rfl, bl_trans hb9 hg, ?_⟩
        exact ⟨by simpa using F0, by simpa using F1, by simpa using F2, by simpa using F3, by simpa using F4, by simpa using F5, by simpa using F6, by simpa using F7, by simpa using hn, by simpa using F9, by simpa using F10, by simpa using F11, by simpa using F12, by simpa using fun h => (F13 h).mono hg, by simpa using fun h => (F14 h).mono hg, by simpa using fun h => (F15 h).mono hg, by simpa using F16, by simpa using F17, by simp⟩
      · refine if_free rfl ?_
        have x2 := val_at (hv 2 (by simp))
        simp [valsOf] at x2
        refine wp_value (.agg #[.int .i64 wd, .int .i64 ht, .slice A want.length ca, .slice Bk keep.length ck]) (w' := w9) (by simp [execOp, x2, go_sem, x0_, x1_, x2_, x3_, hXl]) ⟨_, rfl, hb9, ?_⟩
        exact ⟨by simpa using F0, by simpa using F1, by simpa using F2, by simpa using F3, by simpa using F4, by simpa using F5, by simpa using F6, by simpa using F7, by simpa using F8, by simp, by simpa using F10, by simpa using F11, by simpa using F12, by simpa using F13, by simpa using F14, by simpa using F15, by simpa using F16, by simpa using F17, by simp⟩
      · refine if_free rfl ?_
        have x2 := val_at (hv 2 (by simp))
        simp [valsOf] at x2
        refine wp_value (.pointer (some ⟨X, 3, none⟩)) (w' := w9) (by simp [execOp, x2, go_sem, x0_, x1_, x2_, x3_, hXl]) ⟨_, rfl, hb9, ?_⟩
        exact ⟨by simpa using F0, by simpa using F1, by simpa using F2, by simpa using F3, by simpa using F4, by simpa using F5, by simpa using F6, by simpa using F7, by simpa using F8, by simpa using F9, by simp, by simpa using F11, by simpa using F12, by simpa using F13, by simpa using F14, by simpa using F15, by simpa using F16, by simpa using F17, by simp⟩
      · refine if_free rfl ?_
        have d10 := hdep ⟨10, .data⟩ (by simp) rfl
        have e10 := val_at (F10 d10)
        refine wp_value (.slice Bk keep.length ck) (w' := w9) (by simp [execOp, e10, go_sem, x0_, x1_, x2_, x3_, hXl]) ⟨_, rfl, hb9, ?_⟩
        exact ⟨by simpa using F0, by simpa using F1, by simpa using F2, by simpa using F3, by simpa using F4, by simpa using F5, by simpa using F6, by simpa using F7, by simpa using F8, by simpa using F9, by simpa using F10, by simp, by simpa using F12, by simpa using F13, by simpa using F14, by simpa using F15, by simpa using F16, by simpa using F17, by simp⟩
      · refine if_free rfl ?_
        have x1 := val_at (hv 1 (by simp))
        simp [valsOf] at x1
        refine wp_value (.bool a) (w' := w9) (by simp [execOp, x1, go_sem, x0_, x1_, x2_, x3_, hXl]) ⟨_, rfl, hb9, ?_⟩
        exact ⟨by simpa using F0, by simpa using F1, by simpa using F2, by simpa using F3, by simpa using F4, by simpa using F5, by simpa using F6, by simpa using F7, by simpa using F8, by simpa using F9, by simpa using F10, by simpa using F11, by simp, by simpa using F13, by simpa using F14, by simpa using F15, by simpa using F16, by simpa using F17, by simp⟩
      · refine if_free rfl ?_
        have d9 := hdep ⟨9, .data⟩ (by simp) rfl
        have e9 := val_at (F9 d9)
        have d11 := hdep ⟨11, .data⟩ (by simp) rfl
        have e11 := val_at (F11 d11)
        have d12 := hdep ⟨12, .data⟩ (by simp) rfl
        have e12 := val_at (F12 d12)
        have hcl := turned_own (wd := wd) (hg := ht) (sw := .slice A want.length ca) (sk := .slice Bk keep.length ck) (l := keep) a (.slice Bk keep.length ck) w9 HBo.out HIK.out (by omega) (HK_1.out.mono hb9)
        rw [HTK.out] at hcl
        refine wp_calls (f := 55) (args := #[.agg #[.int .i64 wd, .int .i64 ht, .slice A want.length ca, .slice Bk keep.length ck], .slice Bk keep.length ck, .bool a]) (w' := w9) (by simp [execOp, e9, e11, e12, go_sem]) hcl ?_
        rintro e w10 ⟨⟨v, bs, rfl, hv⟩, hg⟩
        have hn : TurnV w10 v TK := ⟨_, hv⟩
        refine ⟨_, rfl, _, rfl, bl_trans hb9 hg, ?_⟩
        exact ⟨by simpa using F0, by simpa using F1, by simpa using F2, by simpa using F3, by simpa using F4, by simpa using F5, by simpa using F6, by simpa using F7, by simpa using fun h => (F8 h).mono hg, by simpa using F9, by simpa using F10, by simpa using F11, by simpa using F12, by simpa using hn, by simpa using fun h => (F14 h).mono hg, by simpa using fun h => (F15 h).mono hg, by simpa using F16, by simpa using F17, by simp⟩
      · refine if_free rfl ?_
        have d1 := hdep ⟨1, .data⟩ (by simp) rfl
        have e1 := val_at (F1 d1)
        have d3 := hdep ⟨3, .data⟩ (by simp) rfl
        have e3 := val_at (F3 d3)
        have d8 := hdep ⟨8, .data⟩ (by simp) rfl
        have d13 := hdep ⟨13, .data⟩ (by simp) rfl
        obtain ⟨b1, o1⟩ := F8 d8
        obtain ⟨A7, c7, e8⟩ := own_slice o1
        have e8' := val_at e8
        rw [e8] at o1
        obtain ⟨b2, o2⟩ := F13 d13
        obtain ⟨A8, c8, e13⟩ := own_slice o2
        have e13' := val_at e13
        rw [e13] at o2
        have hn : ∀ w10, Below w9.heap.size w9 w10 → PondT w10 (.agg #[.int .i64 wd, .int .i64 ht, .slice A7 TW.length c7, .slice A8 TK.length c8]) wd ht TW TK := fun w10 hb => ⟨_, _, _, _, rfl, ⟨_, own_mono o1 hb⟩, ⟨_, own_mono o2 hb⟩⟩
        refine wp_calls (f := 53) (args := #[.int .i64 wd, .int .i64 ht, .slice A7 TW.length c7, .slice A8 TK.length c8]) (w' := w9) (by simp [execOp, e1, e3, e8', e13', go_sem]) (mkpond_any _ _ _ _ _ _ _ _ w9) ?_
        rintro e w10 ⟨rfl, hg⟩
        refine ⟨_, rfl, _, rfl, bl_trans hb9 hg, ?_⟩
        exact ⟨by simpa using F0, by simpa using F1, by simpa using F2, by simpa using F3, by simpa using F4, by simpa using F5, by simpa using F6, by simpa using F7, by simpa using fun h => (F8 h).mono hg, by simpa using F9, by simpa using F10, by simpa using F11, by simpa using F12, by simpa using fun h => (F13 h).mono hg, by simpa using hn _ hg, by simpa using fun h => (F15 h).mono hg, by simpa using F16, by simpa using F17, by simp⟩
      · refine if_free rfl ?_
        have hs16 : seen 16 = false := by { cases hq : seen 16 with | false => rfl | true => exact absurd (F17 hq) (by rw [hsi]; decide) }
        have hg : Below w9.heap.size w9 (w9.alloc (.cells #[.int .i64 0, .int .i64 0, .slice none 0 0, .slice none 0 0] 24)) := bl_alloc (bl_refl _) _
        have hn : PondB w1.heap.size (w9.alloc (.cells #[.int .i64 0, .int .i64 0, .slice none 0 0, .slice none 0 0] 24)) (.pointer (some ⟨w9.heap.size, 0, none⟩)) wd ht TW TK false := ⟨_, rfl, by have := hb9.size; omega, fun _ => World.alloc_heap_new _ _, fun e => by cases e⟩
        refine wp_value (.pointer (some ⟨w9.heap.size, 0, none⟩)) (w' := w9.alloc (.cells #[.int .i64 0, .int .i64 0, .slice none 0 0, .slice none 0 0] 24)) (by simp [execOp, go_sem]) ⟨_, rfl, bl_trans hb9 hg, ?_⟩
        exact ⟨by simpa using F0, by simpa using F1, by simpa using F2, by simpa using F3, by simpa using F4, by simpa using F5, by simpa using F6, by simpa using F7, by simpa using fun h => (F8 h).mono hg, by simpa using F9, by simpa using F10, by simpa using F11, by simpa using F12, by simpa using fun h => (F13 h).mono hg, by simpa using fun h => (F14 h).mono hg, by simpa [hs16] using hn, by simpa using F16, by simp, by simp⟩
      · refine if_free rfl ?_
        have d15 := hdep ⟨15, .data⟩ (by simp) rfl
        have d14 := hdep ⟨14, .data⟩ (by simp) rfl
        obtain ⟨k0, hk, hkb, hz, _⟩ := F15 d15
        have hz' := hz hsi
        have ek := val_at hk
        obtain ⟨A7, c7, A8, c8, e14, t1, t2⟩ := F14 d14
        have e14' := val_at e14
        have c0 := cell_of_heap (i := 0) hz'
        have c1 := cell_of_heap (i := 1) hz'
        have c2 := cell_of_heap (i := 2) hz'
        have c3 := cell_of_heap (i := 3) hz'
        have f0 := fun i => frozen_of_heap (i := i) hz'
        have hBl := (Array.getElem?_eq_some_iff.1 hz').1
        obtain ⟨q1, q2⟩ := put_pond hz' (.int .i64 wd) (.int .i64 ht) (.slice A7 TW.length c7) (.slice A8 TK.length c8)
        have hst : PondB w1.heap.size ((((w9.setCell ⟨k0, 0, none⟩ (.int .i64 wd)).setCell ⟨k0, 1, none⟩ (.int .i64 ht)).setCell ⟨k0, 2, none⟩ (.slice A7 TW.length c7)).setCell ⟨k0, 3, none⟩ (.slice A8 TK.length c8)) (valsOf a' 5) wd ht TW TK true := ⟨_, hk, hkb, (fun e => by cases e), fun _ => ⟨_, _, _, _, q1, t1.kept q2, t2.kept q2⟩⟩
        refine wp_effect (w' := ((((w9.setCell ⟨k0, 0, none⟩ (.int .i64 wd)).setCell ⟨k0, 1, none⟩ (.int .i64 ht)).setCell ⟨k0, 2, none⟩ (.slice A7 TW.length c7)).setCell ⟨k0, 3, none⟩ (.slice A8 TK.length c8))) (by simp [execOp, ek, e14', go_sem, c0, c1, c2, c3, f0, hBl]) ⟨_, rfl, bl_set (bl_set (bl_set (bl_set hb9 _ hkb) _ hkb) _ hkb) _ hkb, ?_⟩
        exact ⟨by simpa using F0, by simpa using F1, by simpa using F2, by simpa using F3, by simpa using F4, by simpa using F5, by simpa using F6, by simpa using F7, by simpa using fun h => (F8 h).kept q2, by simpa using F9, by simpa using F10, by simpa using F11, by simpa using F12, by simpa using fun h => (F13 h).kept q2, by simpa using fun h => (F14 h).kept q2, by simpa using fun _ => hst, by simp, by simpa using d15, by simp⟩
    intro u w2 hb2 seen hall ⟨F0, F1, F2, F3, F4, F5, F6, F7, F8, F9, F10, F11, F12, F13, F14, F15, F16, F17, F18⟩
    replace F0 := F0 (hall 0 (by decide))
    replace F1 := F1 (hall 1 (by decide))
    replace F2 := F2 (hall 2 (by decide))
    replace F3 := F3 (hall 3 (by decide))
    replace F4 := F4 (hall 4 (by decide))
    replace F5 := F5 (hall 5 (by decide))
    replace F6 := F6 (hall 6 (by decide))
    replace F7 := F7 (hall 7 (by decide))
    replace F8 := F8 (hall 8 (by decide))
    replace F9 := F9 (hall 9 (by decide))
    replace F10 := F10 (hall 10 (by decide))
    replace F11 := F11 (hall 11 (by decide))
    replace F12 := F12 (hall 12 (by decide))
    replace F13 := F13 (hall 13 (by decide))
    replace F14 := F14 (hall 14 (by decide))
    replace F15 := F15 (hall 15 (by decide))
    replace F16 := F16 (hall 16 (by decide))
    rw [hall 16 (by decide)] at F15
    obtain ⟨Y, hY, hYb, _, hY2⟩ := F15
    obtain ⟨A7, c7, A8, c8, hYh, t1, t2⟩ := hY2 rfl
    simp only [setAll, hY]
    have hlXY : X < Y := Nat.lt_of_lt_of_le (Array.getElem?_eq_some_iff.1 HX_1.out).1 hYb
    have hXY : X ≠ Y := by omega
    have HBq := hid hb2
    have HT1 := hid t1
    have HT2 := hid t2
    have HY_2 := hid hYh
    clear hall seen hY hY2 t1 t2 hYh F0 F1 F2 F3 F4 F5 F6 F7 F8 F9 F10 F11 F12 F13 F14 F16 F17 F18
    generalize u 18 = u18
    generalize u 19 = u19
    generalize u 20 = u20
    generalize u 21 = u21
    generalize u 22 = u22
    generalize u 23 = u23
    generalize u 24 = u24
    generalize u 25 = u25
    generalize u 26 = u26
    generalize u 27 = u27
    generalize u 28 = u28
    generalize u 29 = u29
    generalize u 30 = u30
    generalize u 31 = u31
    generalize u 32 = u32
    try generalize u 5 = u5
    have HXa := HX_1
    have HWa := HW_1
    have HKa := HK_1
    have HBa := HB1
    have HX_2 := hid (heap_mono HX_1.out hb2)
    have HW_2 := hid (HW_1.out.mono hb2)
    have HK_2 := hid (HK_1.out.mono hb2)
    have HB2 := hid (bl_trans HB1.out hb2)
    clear HX_1 HW_1 HK_1
    clear hb2
    cases a with
    | false =>
      have HI1_2 := hid HT1.out.ints
      have HI2_2 := hid HT2.out.ints
      rw [if_neg (by decide), if_neg (by decide)] at HK1 HK2 HK3 HK4
      clear HXa HWa HKa HBa HBq HT1 HT2
      have sX0 : w2.cell? ⟨X, 0, none⟩ = some (.int .i64 wd) := cell_of_heap HX_2.out
      have sX1 : w2.cell? ⟨X, 1, none⟩ = some (.int .i64 ht) := cell_of_heap HX_2.out
      have sX2 : w2.cell? ⟨X, 2, none⟩ = some (.slice A want.length ca) := cell_of_heap HX_2.out
      have sX3 : w2.cell? ⟨X, 3, none⟩ = some (.slice Bk keep.length ck) := cell_of_heap HX_2.out
      have slX := (Array.getElem?_eq_some_iff.1 HX_2.out).1
      have hcall := best_any' (wd := wd) (hg := ht) w2 HP.out HW_2.out HK_2.out
      rw [HM.out, HSL.out, HLL.out] at hcall
      go_wp2_with fail
      refine hcall.mono ?_
      rintro e w3 ⟨⟨sv, lv, rfl, hsv, hlv⟩, hb3⟩
      clear hcall sX0 sX1 sX2 sX3 slX
      have HX_3 := hid (heap_mono HX_2.out hb3)
      have HY_3 := hid (heap_mono HY_2.out hb3)
      have HW_3 := hid (HW_2.out.mono hb3)
      have HK_3 := hid (HK_2.out.mono hb3)
      have HI1_3 := hid (HI1_2.out.mono hb3)
      have HI2_3 := hid (HI2_2.out.mono hb3)
      have HB3 := hid (bl_trans HB2.out hb3)
      clear HX_2 HY_2 HW_2 HK_2 HI1_2 HI2_2
      have HS0_3 := hid hsv
      clear hsv
      have HL0_3 := hid hlv
      clear hlv
      clear hb3
      obtain ⟨Am, cm, rfl⟩ := HS0_3.out.slice
      obtain ⟨Al, cl, rfl⟩ := HL0_3.out.slice
      have sY0 : w3.cell? ⟨Y, 0, none⟩ = some (.int .i64 wd) := cell_of_heap HY_3.out
      have sY1 : w3.cell? ⟨Y, 1, none⟩ = some (.int .i64 ht) := cell_of_heap HY_3.out
      have sY2 : w3.cell? ⟨Y, 2, none⟩ = some (.slice A7 TW.length c7) := cell_of_heap HY_3.out
      have sY3 : w3.cell? ⟨Y, 3, none⟩ = some (.slice A8 TK.length c8) := cell_of_heap HY_3.out
      have slY := (Array.getElem?_eq_some_iff.1 HY_3.out).1
      have hcall := best_any' (wd := wd) (hg := ht) w3 HK1.out HI1_3.out HI2_3.out
      rw [HK2.out, HM.out, ← HK3.out, ← HK4.out] at hcall
      go_wp2_with fail
      refine hcall.mono ?_
      rintro e w4 ⟨⟨s2v, l2v, rfl, hsv, hlv⟩, hb4⟩
      clear hcall sY0 sY1 sY2 sY3 slY
      have HX_4 := hid (heap_mono HX_3.out hb4)
      have HY_4 := hid (heap_mono HY_3.out hb4)
      have HW_4 := hid (HW_3.out.mono hb4)
      have HK_4 := hid (HK_3.out.mono hb4)
      have HI1_4 := hid (HI1_3.out.mono hb4)
      have HI2_4 := hid (HI2_3.out.mono hb4)
      have HS0_4 := hid (HS0_3.out.mono hb4)
      have HL0_4 := hid (HL0_3.out.mono hb4)
      have HB4 := hid (bl_trans HB3.out hb4)
      clear HX_3 HY_3 HW_3 HK_3 HI1_3 HI2_3 HS0_3 HL0_3
      have HS2_4 := hid hsv
      clear hsv
      have HL2_4 := hid hlv
      clear hlv
      clear hb4
      obtain ⟨Am2, cm2, rfl⟩ := HS2_4.out.slice
      obtain ⟨Al2, cl2, rfl⟩ := HL2_4.out.slice
      have tM : (M == M) = true := by simp
      have sX0 : w4.cell? ⟨X, 0, none⟩ = some (.int .i64 wd) := cell_of_heap HX_4.out
      have sX1 : w4.cell? ⟨X, 1, none⟩ = some (.int .i64 ht) := cell_of_heap HX_4.out
      have sX2 : w4.cell? ⟨X, 2, none⟩ = some (.slice A want.length ca) := cell_of_heap HX_4.out
      have sX3 : w4.cell? ⟨X, 3, none⟩ = some (.slice Bk keep.length ck) := cell_of_heap HX_4.out
      have slX := (Array.getElem?_eq_some_iff.1 HX_4.out).1
      have hcall := turned_own (wd := wd) (hg := ht) (sw := .slice A want.length ca) (sk := .slice Bk keep.length ck) (l := SL) false (.slice Am SL.length cm) w4 HBo.out HIS.out (by omega) HS0_4.out
      rw [HTS.out] at hcall
      go_wp2_with fail
      refine hcall.mono ?_
      rintro e w5 ⟨⟨tv1, bs1, rfl, hv1⟩, hb5⟩
      clear hcall sX0 sX1 sX2 sX3 slX
      have HX_5 := hid (heap_mono HX_4.out hb5)
      have HY_5 := hid (heap_mono HY_4.out hb5)
      have HW_5 := hid (HW_4.out.mono hb5)
      have HK_5 := hid (HK_4.out.mono hb5)
      have HI1_5 := hid (HI1_4.out.mono hb5)
      have HI2_5 := hid (HI2_4.out.mono hb5)
      have HS0_5 := hid (HS0_4.out.mono hb5)
      have HL0_5 := hid (HL0_4.out.mono hb5)
      have HS2_5 := hid (HS2_4.out.mono hb5)
      have HL2_5 := hid (HL2_4.out.mono hb5)
      have HB5 := hid (bl_trans HB4.out hb5)
      clear HX_4 HY_4 HW_4 HK_4 HI1_4 HI2_4 HS0_4 HL0_4 HS2_4 HL2_4
      clear hb5
      have HV1_5 := hid (ints_own rfl hv1)
      clear hv1
      have hcall := ints_any TS TS _ _ w5 (by omega) HV1_5.out HS2_5.out
      rw [decide_eq_true (rfl : TS = TS)] at hcall
      go_wp2_with fail
      refine hcall.mono ?_
      rintro e w6 ⟨rfl, hb6⟩
      clear hcall 
      have HX_6 := hid (heap_mono HX_5.out hb6)
      have HY_6 := hid (heap_mono HY_5.out hb6)
      have HW_6 := hid (HW_5.out.mono hb6)
      have HK_6 := hid (HK_5.out.mono hb6)
      have HI1_6 := hid (HI1_5.out.mono hb6)
      have HI2_6 := hid (HI2_5.out.mono hb6)
      have HS0_6 := hid (HS0_5.out.mono hb6)
      have HL0_6 := hid (HL0_5.out.mono hb6)
      have HS2_6 := hid (HS2_5.out.mono hb6)
      have HL2_6 := hid (HL2_5.out.mono hb6)
      have HV1_6 := hid (HV1_5.out.mono hb6)
      have HB6 := hid (bl_trans HB5.out hb6)
      clear HX_5 HY_5 HW_5 HK_5 HI1_5 HI2_5 HS0_5 HL0_5 HS2_5 HL2_5 HV1_5
      clear hb6
      have sX0 : w6.cell? ⟨X, 0, none⟩ = some (.int .i64 wd) := cell_of_heap HX_6.out
      have sX1 : w6.cell? ⟨X, 1, none⟩ = some (.int .i64 ht) := cell_of_heap HX_6.out
      have sX2 : w6.cell? ⟨X, 2, none⟩ = some (.slice A want.length ca) := cell_of_heap HX_6.out
      have sX3 : w6.cell? ⟨X, 3, none⟩ = some (.slice Bk keep.length ck) := cell_of_heap HX_6.out
      have slX := (Array.getElem?_eq_some_iff.1 HX_6.out).1
      have hcall := turned_own (wd := wd) (hg := ht) (sw := .slice A want.length ca) (sk := .slice Bk keep.length ck) (l := LL) false (.slice Al LL.length cl) w6 HBo.out HIL.out (by omega) HL0_6.out
      rw [HTL.out] at hcall
      go_wp2_with fail
      refine hcall.mono ?_
      rintro e w7 ⟨⟨tv2, bs2, rfl, hv2⟩, hb7⟩
      clear hcall sX0 sX1 sX2 sX3 slX
      have HX_7 := hid (heap_mono HX_6.out hb7)
      have HY_7 := hid (heap_mono HY_6.out hb7)
      have HW_7 := hid (HW_6.out.mono hb7)
      have HK_7 := hid (HK_6.out.mono hb7)
      have HI1_7 := hid (HI1_6.out.mono hb7)
      have HI2_7 := hid (HI2_6.out.mono hb7)
      have HS0_7 := hid (HS0_6.out.mono hb7)
      have HL0_7 := hid (HL0_6.out.mono hb7)
      have HS2_7 := hid (HS2_6.out.mono hb7)
      have HL2_7 := hid (HL2_6.out.mono hb7)
      have HV1_7 := hid (HV1_6.out.mono hb7)
      have HB7 := hid (bl_trans HB6.out hb7)
      clear HX_6 HY_6 HW_6 HK_6 HI1_6 HI2_6 HS0_6 HL0_6 HS2_6 HL2_6 HV1_6
      clear hb7
      have HV2_7 := hid (ints_own rfl hv2)
      clear hv2
      have hcall := ints_any TL TL _ _ w7 (by omega) HV2_7.out HL2_7.out
      rw [decide_eq_true (rfl : TL = TL)] at hcall
      go_wp2_with fail
      refine hcall.mono ?_
      rintro e w8 ⟨rfl, hb8⟩
      clear hcall 
      have HX_8 := hid (heap_mono HX_7.out hb8)
      have HY_8 := hid (heap_mono HY_7.out hb8)
      have HW_8 := hid (HW_7.out.mono hb8)
      have HK_8 := hid (HK_7.out.mono hb8)
      have HI1_8 := hid (HI1_7.out.mono hb8)
      have HI2_8 := hid (HI2_7.out.mono hb8)
      have HS0_8 := hid (HS0_7.out.mono hb8)
      have HL0_8 := hid (HL0_7.out.mono hb8)
      have HS2_8 := hid (HS2_7.out.mono hb8)
      have HL2_8 := hid (HL2_7.out.mono hb8)
      have HV1_8 := hid (HV1_7.out.mono hb8)
      have HV2_8 := hid (HV2_7.out.mono hb8)
      have HB8 := hid (bl_trans HB7.out hb8)
      clear HX_7 HY_7 HW_7 HK_7 HI1_7 HI2_7 HS0_7 HL0_7 HS2_7 HL2_7 HV1_7 HV2_7
      clear hb8
      have hworks := works_any w8
      go_wp2_with fail
      refine hworks.mono ?_
      rintro e wz ⟨rfl, hbz⟩
      clear hworks
      go_wp2
      go_ret
      exact ⟨rfl, bl_trans HB8.out hbz⟩
    | true =>
      rw [if_pos rfl, if_pos rfl] at HK1 HK2 HK3 HK4
      have HSW := hid ((SwapM.start HX_2.out HY_2.out HT1.out HT2.out).mono (bl_drew (bl_refl w2)))
      go_upto_region 5 with (fail)
      refine wp_region_valsG w1 HBq.out [34, 35, 36, 37, 38, 39] (fun seen u W => (seen 0 = true → u 34 = .pointer (some ⟨X, 1, none⟩)) ∧
        (seen 1 = true → u 35 = .int .i64 ht) ∧
        (seen 2 = true → u 36 = .pointer (some ⟨X, 0, none⟩)) ∧
        (seen 3 = true → u 37 = .int .i64 wd) ∧
        (seen 4 = true → u 38 = .pointer (some ⟨Y, 0, none⟩)) ∧
        (seen 5 = true → True) ∧
        (seen 6 = true → u 39 = .pointer (some ⟨Y, 1, none⟩)) ∧
        (seen 7 = true → True) ∧
        (seen 5 = true → True) ∧
        (seen 7 = true → True) ∧
        SwapM X Y #[.int .i64 wd, .int .i64 ht, .slice A want.length ca, .slice Bk keep.length ck] (.slice A7 TW.length c7) (.slice A8 TK.length c8) wd ht TW TK (seen 5) (seen 7) W)
        (by kernel_rfl) (by kernel_rfl) (by kernel_rfl) (by simp) ⟨by simp [valsOf], by simp [valsOf], by simp [valsOf], by simp [valsOf], by simp [valsOf], by simp [valsOf], by simp [valsOf], by simp [valsOf], by simp [valsOf], by simp [valsOf], HSW.out⟩ ?_ ?_
      · intro i o ho seen a' w9 hb9 ⟨F0, F1, F2, F3, F4, F5, F6, F7, F8, F9, F10⟩ hv hsi hdep
        have hxx := F10.x
        have c0_ : w9.cell? ⟨X, 0, none⟩ = some (.int .i64 wd) := cell_of_heap hxx
        have c1_ : w9.cell? ⟨X, 1, none⟩ = some (.int .i64 ht) := cell_of_heap hxx
        have hXl := (Array.getElem?_eq_some_iff.1 hxx).1
        have ql := (Array.getElem?_eq_some_iff.1 F10.y).1
        rcases i with _ | _ | _ | _ | _ | _ | _ | _ | i <;> simp only [List.getElem?_cons_zero, List.getElem?_cons_succ, List.getElem?_nil, Option.some.injEq, reduceCtorEq] at ho <;> subst ho
        · refine if_free rfl ?_
          have x2 := val_at (hv 2 (by simp))
          simp [valsOf] at x2
          refine wp_value (.pointer (some ⟨X, 1, none⟩)) (w' := w9) (by simp [execOp, x2, go_sem, c0_, c1_, hXl, ql]) ⟨_, rfl, hb9, ?_⟩
          exact ⟨by simp, by simpa using F1, by simpa using F2, by simpa using F3, by simpa using F4, by simpa using F5, by simpa using F6, by simpa using F7, by simp, by simp, by simpa using F10⟩
        · refine if_free rfl ?_
          have d0 := hdep ⟨0, .data⟩ (by simp) rfl
          have e0 := val_at (F0 d0)
          refine wp_value (.int .i64 ht) (w' := w9) (by simp [execOp, e0, go_sem, c0_, c1_, hXl, ql]) ⟨_, rfl, hb9, ?_⟩
          exact ⟨by simpa using F0, by simp, by simpa using F2, by simpa using F3, by simpa using F4, by simpa using F5, by simpa using F6, by simpa using F7, by simp, by simp, by simpa using F10⟩
        · refine if_free rfl ?_
          have x2 := val_at (hv 2 (by simp))
          simp [valsOf] at x2
          refine wp_value (.pointer (some ⟨X, 0, none⟩)) (w' := w9) (by simp [execOp, x2, go_sem, c0_, c1_, hXl, ql]) ⟨_, rfl, hb9, ?_⟩
          exact ⟨by simpa using F0, by simpa using F1, by simp, by simpa using F3, by simpa using F4, by simpa using F5, by simpa using F6, by simpa using F7, by simp, by simp, by simpa using F10⟩
        · refine if_free rfl ?_
          have d2 := hdep ⟨2, .data⟩ (by simp) rfl
          have e2 := val_at (F2 d2)
          refine wp_value (.int .i64 wd) (w' := w9) (by simp [execOp, e2, go_sem, c0_, c1_, hXl, ql]) ⟨_, rfl, hb9, ?_⟩
          exact ⟨by simpa using F0, by simpa using F1, by simpa using F2, by simp, by simpa using F4, by simpa using F5, by simpa using F6, by simpa using F7, by simp, by simp, by simpa using F10⟩
        · refine if_free rfl ?_
          have x5 := val_at (hv 5 (by simp))
          simp [valsOf] at x5
          refine wp_value (.pointer (some ⟨Y, 0, none⟩)) (w' := w9) (by simp [execOp, x5, go_sem, c0_, c1_, hXl, ql]) ⟨_, rfl, hb9, ?_⟩
          exact ⟨by simpa using F0, by simpa using F1, by simpa using F2, by simpa using F3, by simp, by simpa using F5, by simpa using F6, by simpa using F7, by simp, by simp, by simpa using F10⟩
        · refine if_free rfl ?_
          have d4 := hdep ⟨4, .data⟩ (by simp) rfl
          have e4 := val_at (F4 d4)
          have d1 := hdep ⟨1, .data⟩ (by simp) rfl
          have e1 := val_at (F1 d1)
          have FM' := F10
          rw [hsi] at FM'
          have hq := FM'.y
          have cz : w9.cell? ⟨Y, 0, none⟩ = some (.int .i64 wd) := cell_of_heap hq
          have fz : w9.frozen? ⟨Y, 0, none⟩ = false := frozen_of_heap hq
          have hm := FM'.put0 hXY
          have hb10 := bl_set hb9 (.int .i64 ht) (b := Y) (o := 0) hYb
          refine wp_effect (w' := w9.setCell ⟨Y, 0, none⟩ (.int .i64 ht)) (by simp [execOp, e4, e1, go_sem, cz, fz, ql]) ⟨_, rfl, hb10, ?_⟩
          exact ⟨by simpa using F0, by simpa using F1, by simpa using F2, by simpa using F3, by simpa using F4, by simp, by simpa using F6, by simpa using F7, by simp, by simp, by simpa using hm⟩
        · refine if_free rfl ?_
          have x5 := val_at (hv 5 (by simp))
          simp [valsOf] at x5
          refine wp_value (.pointer (some ⟨Y, 1, none⟩)) (w' := w9) (by simp [execOp, x5, go_sem, c0_, c1_, hXl, ql]) ⟨_, rfl, hb9, ?_⟩
          exact ⟨by simpa using F0, by simpa using F1, by simpa using F2, by simpa using F3, by simpa using F4, by simpa using F5, by simp, by simpa using F7, by simp, by simp, by simpa using F10⟩
        · refine if_free rfl ?_
          have d6 := hdep ⟨6, .data⟩ (by simp) rfl
          have e6 := val_at (F6 d6)
          have d3 := hdep ⟨3, .data⟩ (by simp) rfl
          have e3 := val_at (F3 d3)
          have FM' := F10
          rw [hsi] at FM'
          have hq := FM'.y
          have cz : w9.cell? ⟨Y, 1, none⟩ = some (.int .i64 ht) := cell_of_heap hq
          have fz : w9.frozen? ⟨Y, 1, none⟩ = false := frozen_of_heap hq
          have hm := FM'.put1 hXY
          have hb10 := bl_set hb9 (.int .i64 wd) (b := Y) (o := 1) hYb
          refine wp_effect (w' := w9.setCell ⟨Y, 1, none⟩ (.int .i64 wd)) (by simp [execOp, e6, e3, go_sem, cz, fz, ql]) ⟨_, rfl, hb10, ?_⟩
          exact ⟨by simpa using F0, by simpa using F1, by simpa using F2, by simpa using F3, by simpa using F4, by simpa using F5, by simpa using F6, by simp, by simp, by simp, by simpa using hm⟩
      intro u w3 hb3 seen hall ⟨F0, F1, F2, F3, F4, F5, F6, F7, F8, F9, F10⟩
      replace F0 := F0 (hall 0 (by decide))
      replace F1 := F1 (hall 1 (by decide))
      replace F2 := F2 (hall 2 (by decide))
      replace F3 := F3 (hall 3 (by decide))
      replace F4 := F4 (hall 4 (by decide))
      replace F5 := F5 (hall 5 (by decide))
      replace F6 := F6 (hall 6 (by decide))
      replace F7 := F7 (hall 7 (by decide))
      rw [hall 5 (by decide), hall 7 (by decide)] at F10
      have HY_3 := hid F10.y
      have HX_3 := hid F10.x
      have HI1_3 := hid F10.t1.ints
      have HI2_3 := hid F10.t2.ints
      have HW_3 := hid (HWa.out.mono hb3)
      have HK_3 := hid (HKa.out.mono hb3)
      have HB3 := hid (bl_trans HBa.out hb3)
      simp only [setAll]
      clear hall seen hb3 HSW HT1 HT2 HXa HWa HKa HBa HBq HX_2 HW_2 HK_2 HY_2 F0 F1 F2 F3 F4 F5 F6 F7 F8 F9 F10
      generalize u 34 = u34
      generalize u 35 = u35
      generalize u 36 = u36
      generalize u 37 = u37
      generalize u 38 = u38
      generalize u 39 = u39
      have sX0 : w3.cell? ⟨X, 0, none⟩ = some (.int .i64 wd) := cell_of_heap HX_3.out
      have sX1 : w3.cell? ⟨X, 1, none⟩ = some (.int .i64 ht) := cell_of_heap HX_3.out
      have sX2 : w3.cell? ⟨X, 2, none⟩ = some (.slice A want.length ca) := cell_of_heap HX_3.out
      have sX3 : w3.cell? ⟨X, 3, none⟩ = some (.slice Bk keep.length ck) := cell_of_heap HX_3.out
      have slX := (Array.getElem?_eq_some_iff.1 HX_3.out).1
      have hcall := best_any' (wd := wd) (hg := ht) w3 HP.out HW_3.out HK_3.out
      rw [HM.out, HSL.out, HLL.out] at hcall
      go_wp2_with fail
      refine hcall.mono ?_
      rintro e w4 ⟨⟨sv, lv, rfl, hsv, hlv⟩, hb4⟩
      clear hcall sX0 sX1 sX2 sX3 slX
      have HX_4 := hid (heap_mono HX_3.out hb4)
      have HY_4 := hid (heap_mono HY_3.out hb4)
      have HW_4 := hid (HW_3.out.mono hb4)
      have HK_4 := hid (HK_3.out.mono hb4)
      have HI1_4 := hid (HI1_3.out.mono hb4)
      have HI2_4 := hid (HI2_3.out.mono hb4)
      have HB4 := hid (bl_trans HB3.out hb4)
      clear HX_3 HY_3 HW_3 HK_3 HI1_3 HI2_3
      have HS0_4 := hid hsv
      clear hsv
      have HL0_4 := hid hlv
      clear hlv
      clear hb4
      obtain ⟨Am, cm, rfl⟩ := HS0_4.out.slice
      obtain ⟨Al, cl, rfl⟩ := HL0_4.out.slice
      have sY0 : w4.cell? ⟨Y, 0, none⟩ = some (.int .i64 ht) := cell_of_heap HY_4.out
      have sY1 : w4.cell? ⟨Y, 1, none⟩ = some (.int .i64 wd) := cell_of_heap HY_4.out
      have sY2 : w4.cell? ⟨Y, 2, none⟩ = some (.slice A7 TW.length c7) := cell_of_heap HY_4.out
      have sY3 : w4.cell? ⟨Y, 3, none⟩ = some (.slice A8 TK.length c8) := cell_of_heap HY_4.out
      have slY := (Array.getElem?_eq_some_iff.1 HY_4.out).1
      have hcall := best_any' (wd := ht) (hg := wd) w4 HK1.out HI1_4.out HI2_4.out
      rw [HK2.out, HM.out, ← HK3.out, ← HK4.out] at hcall
      go_wp2_with fail
      refine hcall.mono ?_
      rintro e w5 ⟨⟨s2v, l2v, rfl, hsv, hlv⟩, hb5⟩
      clear hcall sY0 sY1 sY2 sY3 slY
      have HX_5 := hid (heap_mono HX_4.out hb5)
      have HY_5 := hid (heap_mono HY_4.out hb5)
      have HW_5 := hid (HW_4.out.mono hb5)
      have HK_5 := hid (HK_4.out.mono hb5)
      have HI1_5 := hid (HI1_4.out.mono hb5)
      have HI2_5 := hid (HI2_4.out.mono hb5)
      have HS0_5 := hid (HS0_4.out.mono hb5)
      have HL0_5 := hid (HL0_4.out.mono hb5)
      have HB5 := hid (bl_trans HB4.out hb5)
      clear HX_4 HY_4 HW_4 HK_4 HI1_4 HI2_4 HS0_4 HL0_4
      have HS2_5 := hid hsv
      clear hsv
      have HL2_5 := hid hlv
      clear hlv
      clear hb5
      obtain ⟨Am2, cm2, rfl⟩ := HS2_5.out.slice
      obtain ⟨Al2, cl2, rfl⟩ := HL2_5.out.slice
      have tM : (M == M) = true := by simp
      have sX0 : w5.cell? ⟨X, 0, none⟩ = some (.int .i64 wd) := cell_of_heap HX_5.out
      have sX1 : w5.cell? ⟨X, 1, none⟩ = some (.int .i64 ht) := cell_of_heap HX_5.out
      have sX2 : w5.cell? ⟨X, 2, none⟩ = some (.slice A want.length ca) := cell_of_heap HX_5.out
      have sX3 : w5.cell? ⟨X, 3, none⟩ = some (.slice Bk keep.length ck) := cell_of_heap HX_5.out
      have slX := (Array.getElem?_eq_some_iff.1 HX_5.out).1
      have hcall := turned_own (wd := wd) (hg := ht) (sw := .slice A want.length ca) (sk := .slice Bk keep.length ck) (l := SL) true (.slice Am SL.length cm) w5 HBo.out HIS.out (by omega) HS0_5.out
      rw [HTS.out] at hcall
      go_wp2_with fail
      refine hcall.mono ?_
      rintro e w6 ⟨⟨tv1, bs1, rfl, hv1⟩, hb6⟩
      clear hcall sX0 sX1 sX2 sX3 slX
      have HX_6 := hid (heap_mono HX_5.out hb6)
      have HY_6 := hid (heap_mono HY_5.out hb6)
      have HW_6 := hid (HW_5.out.mono hb6)
      have HK_6 := hid (HK_5.out.mono hb6)
      have HI1_6 := hid (HI1_5.out.mono hb6)
      have HI2_6 := hid (HI2_5.out.mono hb6)
      have HS0_6 := hid (HS0_5.out.mono hb6)
      have HL0_6 := hid (HL0_5.out.mono hb6)
      have HS2_6 := hid (HS2_5.out.mono hb6)
      have HL2_6 := hid (HL2_5.out.mono hb6)
      have HB6 := hid (bl_trans HB5.out hb6)
      clear HX_5 HY_5 HW_5 HK_5 HI1_5 HI2_5 HS0_5 HL0_5 HS2_5 HL2_5
      clear hb6
      have HV1_6 := hid (ints_own rfl hv1)
      clear hv1
      have hcall := ints_any TS TS _ _ w6 (by omega) HV1_6.out HS2_6.out
      rw [decide_eq_true (rfl : TS = TS)] at hcall
      go_wp2_with fail
      refine hcall.mono ?_
      rintro e w7 ⟨rfl, hb7⟩
      clear hcall 
      have HX_7 := hid (heap_mono HX_6.out hb7)
      have HY_7 := hid (heap_mono HY_6.out hb7)
      have HW_7 := hid (HW_6.out.mono hb7)
      have HK_7 := hid (HK_6.out.mono hb7)
      have HI1_7 := hid (HI1_6.out.mono hb7)
      have HI2_7 := hid (HI2_6.out.mono hb7)
      have HS0_7 := hid (HS0_6.out.mono hb7)
      have HL0_7 := hid (HL0_6.out.mono hb7)
      have HS2_7 := hid (HS2_6.out.mono hb7)
      have HL2_7 := hid (HL2_6.out.mono hb7)
      have HV1_7 := hid (HV1_6.out.mono hb7)
      have HB7 := hid (bl_trans HB6.out hb7)
      clear HX_6 HY_6 HW_6 HK_6 HI1_6 HI2_6 HS0_6 HL0_6 HS2_6 HL2_6 HV1_6
      clear hb7
      have sX0 : w7.cell? ⟨X, 0, none⟩ = some (.int .i64 wd) := cell_of_heap HX_7.out
      have sX1 : w7.cell? ⟨X, 1, none⟩ = some (.int .i64 ht) := cell_of_heap HX_7.out
      have sX2 : w7.cell? ⟨X, 2, none⟩ = some (.slice A want.length ca) := cell_of_heap HX_7.out
      have sX3 : w7.cell? ⟨X, 3, none⟩ = some (.slice Bk keep.length ck) := cell_of_heap HX_7.out
      have slX := (Array.getElem?_eq_some_iff.1 HX_7.out).1
      have hcall := turned_own (wd := wd) (hg := ht) (sw := .slice A want.length ca) (sk := .slice Bk keep.length ck) (l := LL) true (.slice Al LL.length cl) w7 HBo.out HIL.out (by omega) HL0_7.out
      rw [HTL.out] at hcall
      go_wp2_with fail
      refine hcall.mono ?_
      rintro e w8 ⟨⟨tv2, bs2, rfl, hv2⟩, hb8⟩
      clear hcall sX0 sX1 sX2 sX3 slX
      have HX_8 := hid (heap_mono HX_7.out hb8)
      have HY_8 := hid (heap_mono HY_7.out hb8)
      have HW_8 := hid (HW_7.out.mono hb8)
      have HK_8 := hid (HK_7.out.mono hb8)
      have HI1_8 := hid (HI1_7.out.mono hb8)
      have HI2_8 := hid (HI2_7.out.mono hb8)
      have HS0_8 := hid (HS0_7.out.mono hb8)
      have HL0_8 := hid (HL0_7.out.mono hb8)
      have HS2_8 := hid (HS2_7.out.mono hb8)
      have HL2_8 := hid (HL2_7.out.mono hb8)
      have HV1_8 := hid (HV1_7.out.mono hb8)
      have HB8 := hid (bl_trans HB7.out hb8)
      clear HX_7 HY_7 HW_7 HK_7 HI1_7 HI2_7 HS0_7 HL0_7 HS2_7 HL2_7 HV1_7
      clear hb8
      have HV2_8 := hid (ints_own rfl hv2)
      clear hv2
      have hcall := ints_any TL TL _ _ w8 (by omega) HV2_8.out HL2_8.out
      rw [decide_eq_true (rfl : TL = TL)] at hcall
      go_wp2_with fail
      refine hcall.mono ?_
      rintro e w9 ⟨rfl, hb9⟩
      clear hcall 
      have HX_9 := hid (heap_mono HX_8.out hb9)
      have HY_9 := hid (heap_mono HY_8.out hb9)
      have HW_9 := hid (HW_8.out.mono hb9)
      have HK_9 := hid (HK_8.out.mono hb9)
      have HI1_9 := hid (HI1_8.out.mono hb9)
      have HI2_9 := hid (HI2_8.out.mono hb9)
      have HS0_9 := hid (HS0_8.out.mono hb9)
      have HL0_9 := hid (HL0_8.out.mono hb9)
      have HS2_9 := hid (HS2_8.out.mono hb9)
      have HL2_9 := hid (HL2_8.out.mono hb9)
      have HV1_9 := hid (HV1_8.out.mono hb9)
      have HV2_9 := hid (HV2_8.out.mono hb9)
      have HB9 := hid (bl_trans HB8.out hb9)
      clear HX_8 HY_8 HW_8 HK_8 HI1_8 HI2_8 HS0_8 HL0_8 HS2_8 HL2_8 HV1_8 HV2_8
      clear hb9
      have hworks := works_any w9
      go_wp2_with fail
      refine hworks.mono ?_
      rintro e wz ⟨rfl, hbz⟩
      clear hworks
      go_wp2
      go_ret
      exact ⟨rfl, bl_trans HB9.out hbz⟩

end Go.Proofs.Ytlkoadcbolkhoaa
