/- BoomWider: the law's walk. -/
import Derived.Test.YtlkoadcbolkhoaaPuti
import Derived.Test.YtlkoadcbolkhoaaWidp
set_option linter.all false
namespace Go.Proofs.Ytlkoadcbolkhoaa
open Go Go.RowKit Go.Proofs
attribute [local go_sem] cell_grow frozen_grow

set_option maxRecDepth 100000 in
set_option maxHeartbeats 16000000 in
theorem boomWider_any (wd hg : Int) (sw sk : Value) (want keep : List Int) (wide high : Int) (w : World) (hw : Ints w sw want) (hk : Ints w sk keep) (h1b : 0 ≤ wide ∧ wide < 256) (h2b : 0 ≤ high ∧ high < 256) :
    Calls Try.prog 15 #[.agg #[.int .i64 wd, .int .i64 hg, sw, sk], .int .u8 wide, .int .u8 high] w fun e w' => e = .returned (.bool true) ∧ Below w.heap.size w w' := by
  obtain ⟨A, ca, rfl⟩ := hw.slice
  obtain ⟨Bk, ck, rfl⟩ := hk.slice
  obtain ⟨fb, hfb⟩ : ∃ b, fineB wd hg want keep = b := ⟨_, rfl⟩
  have HFB := hid hfb
  have HW0 := hid hw
  have HK0 := hid hk
  clear hfb
  have HX_0 := hid (World.alloc_heap_new w (.cells #[.int .i64 wd, .int .i64 hg, .slice A want.length ca, .slice Bk keep.length ck] 24))
  have hb0 := bl_alloc (bl_refl w) (.cells #[.int .i64 wd, .int .i64 hg, .slice A want.length ca, .slice Bk keep.length ck] 24)
  have HB0 := hid hb0
  have HW_0 := hid (hw.mono hb0)
  have HK_0 := hid (hk.mono hb0)
  clear hb0 hw hk
  go_enter Try.func15, Try.ntmps15
  go_upto_region 1 with (fail)
  obtain ⟨w0, hw0⟩ : ∃ w0, w.alloc (.cells #[.int .i64 wd, .int .i64 hg, .slice A want.length ca, .slice Bk keep.length ck] 24) = w0 := ⟨_, rfl⟩
  obtain ⟨X, hX⟩ : ∃ X, w.heap.size = X := ⟨_, rfl⟩
  rw [hX] at HX_0 ⊢
  rw [hw0] at HB0 HX_0 HW_0 HK_0 ⊢
  have wX : Hid (w.heap.size ≤ X) := by show w.heap.size ≤ X; omega
  clear hw0 hX
  have sX0 : w0.cell? ⟨X, 0, none⟩ = some (.int .i64 wd) := cell_of_heap HX_0.out
  have sX1 : w0.cell? ⟨X, 1, none⟩ = some (.int .i64 hg) := cell_of_heap HX_0.out
  have sX2 : w0.cell? ⟨X, 2, none⟩ = some (.slice A want.length ca) := cell_of_heap HX_0.out
  have sX3 : w0.cell? ⟨X, 3, none⟩ = some (.slice Bk keep.length ck) := cell_of_heap HX_0.out
  have slX := (Array.getElem?_eq_some_iff.1 HX_0.out).1
  have hcall := fine_any (wd := wd) (hg := hg) w0 HW_0.out HK_0.out
  rw [HFB.out] at hcall
  go_wp2_with fail
  refine hcall.mono ?_
  rintro e w1 ⟨rfl, hb1⟩
  clear hcall sX0 sX1 sX2 sX3 slX
  have HX_1 := hid (heap_mono HX_0.out hb1)
  have HW_1 := hid (HW_0.out.mono hb1)
  have HK_1 := hid (HK_0.out.mono hb1)
  have HB1 := hid (bl_trans HB0.out hb1)
  clear HX_0 HW_0 HK_0
  clear hb1
  cases fb with
  | false =>
    have hworks := works_any w1
    go_wp2_with fail
    refine hworks.mono ?_
    rintro e wz ⟨rfl, hbz⟩
    clear hworks
    go_wp2
    go_ret
    exact ⟨rfl, bl_trans HB1.out hbz⟩
  | true =>
    obtain ⟨hp, hl1, hl2⟩ := fine_yes HFB.out
    have hV := pond_valid hp
    have HP := hid hp
    have HBo := hid hV.B
    have HV := hid hV
    have hbw := hV.B.w
    have hbh := hV.B.h
    clear hp hV
    have wa : IntKind.i64.wrap wide = wide := IntWalk.i64_in _ (by omega)
    have wb : IntKind.i64.wrap high = high := IntWalk.i64_in _ (by omega)
    have ta : Int.tmod wide 4 = wide % 4 := Int.tmod_eq_emod_of_nonneg (by omega)
    have tb : Int.tmod high 4 = high % 4 := Int.tmod_eq_emod_of_nonneg (by omega)
    have wc : IntKind.i64.wrap (wd + wide % 4) = wd + wide % 4 := IntWalk.i64_in _ (by omega)
    have we : IntKind.i64.wrap (hg + high % 4) = hg + high % 4 := IntWalk.i64_in _ (by omega)
    have mn1 := min_run 8 (wd + wide % 4) 3
    have mn2 := min_run 8 (hg + high % 4) 3
    obtain ⟨wd2, hwd2⟩ : ∃ a, min 8 (wd + wide % 4) = a := ⟨_, rfl⟩
    obtain ⟨hg2, hhg2⟩ : ∃ a, min 8 (hg + high % 4) = a := ⟨_, rfl⟩
    have HWI : Hid (Wide wd hg wd2 hg2) := ⟨HBo.out, ⟨by omega, by omega⟩, by omega, by omega⟩
    have hw8 : 1 ≤ wd2 ∧ wd2 ≤ 8 := by omega
    rw [hwd2] at mn1
    rw [hhg2] at mn2
    clear hwd2 hhg2
    have sX0 : w1.cell? ⟨X, 0, none⟩ = some (.int .i64 wd) := cell_of_heap HX_1.out
    have sX1 : w1.cell? ⟨X, 1, none⟩ = some (.int .i64 hg) := cell_of_heap HX_1.out
    have sX2 : w1.cell? ⟨X, 2, none⟩ = some (.slice A want.length ca) := cell_of_heap HX_1.out
    have sX3 : w1.cell? ⟨X, 3, none⟩ = some (.slice Bk keep.length ck) := cell_of_heap HX_1.out
    have slX := (Array.getElem?_eq_some_iff.1 HX_1.out).1
    have hcall := mkpond_any wd2 hg2 none none 0 0 0 0 w1
    go_wp2_with fail
    refine hcall.mono ?_
    rintro e wq ⟨rfl, hbq⟩
    clear hcall wa wb ta tb wc we mn1 mn2 sX0 sX1 sX2 sX3 slX
    have hbz := bl_trans hbq (bl_alloc (bl_refl wq) (.cells #[.int .i64 wd2, .int .i64 hg2, .slice none 0 0, .slice none 0 0] 24))
    have HYn := hid (World.alloc_heap_new wq (.cells #[.int .i64 wd2, .int .i64 hg2, .slice none 0 0, .slice none 0 0] 24))
    have hltY : w1.heap.size ≤ wq.heap.size := hbq.size
    go_upto_region 4 with (fail)
    obtain ⟨w2, hwr⟩ : ∃ W, wq.alloc (.cells #[.int .i64 wd2, .int .i64 hg2, .slice none 0 0, .slice none 0 0] 24) = W := ⟨_, rfl⟩
    obtain ⟨Y, hY⟩ : ∃ Y, wq.heap.size = Y := ⟨_, rfl⟩
    rw [hY] at HYn hltY ⊢
    rw [hwr] at hbz HYn ⊢
    have hlXY : X < Y := Nat.lt_of_lt_of_le (Array.getElem?_eq_some_iff.1 HX_1.out).1 hltY
    have HX_2 := hid (heap_mono HX_1.out hbz)
    have HW_2 := hid (HW_1.out.mono hbz)
    have HK_2 := hid (HK_1.out.mono hbz)
    have HB2 := hid (bl_trans HB1.out hbz)
    clear HX_1 HW_1 HK_1
    have HY_2 := HYn
    clear hwr hY hbq hbz HYn hltY
    have hXY : X ≠ Y := by omega
    have hwY : w.heap.size ≤ Y := by have := wX.out; omega
    have hwb := HB2.out.size
    go_wp2
    go_loopw [8] (fun p wr => ∃ (i : Nat) (v : Value), i ≤ want.length ∧ p = .int .i64 (i : Int) ∧ wr.heap[X]? = some (.cells #[.int .i64 wd, .int .i64 hg, .slice A want.length ca, .slice Bk keep.length ck] 24 (0, 0)) ∧ wr.heap[Y]? = some (.cells ((fun z => #[.int .i64 wd2, .int .i64 hg2, z, .slice none 0 0]) v) 24 (0, 0)) ∧ wr.ownsRow w2.heap.size 3 1 v i (((want.take i).map (tau wd wd2)).map (Value.int .i64)) ∧ wr.ownsRow w2.heap.size 3 1 (.slice none 0 0) (0) ([]) ∧ (∀ g, v.ownBlock = some g → (.slice none 0 0 : Value).ownBlock ≠ some g) ∧ Below w.heap.size w wr ∧ w2.heap.size ≤ wr.heap.size) (fun p _ => want.length - (intOf p).toNat)
    case atStart => exact ⟨0, .slice none 0 0, Nat.zero_le _, rfl, HX_2.out, HY_2.out, World.ownsRow_nil _ _ _ _, World.ownsRow_nil _ _ _ _, (fun g h => by cases h), HB2.out, Nat.le_refl _⟩
    case round =>
    obtain ⟨i, v, hi, rfl, hx, hq, hown, ho, hne, hB, hbs⟩ := hrel
    have q0 : wr.cell? ⟨X, 0, none⟩ = some (.int .i64 wd) := cell_of_heap hx
    have q1 : wr.cell? ⟨X, 1, none⟩ = some (.int .i64 hg) := cell_of_heap hx
    have q2 : wr.cell? ⟨X, 2, none⟩ = some (.slice A want.length ca) := cell_of_heap hx
    have q3 : wr.cell? ⟨X, 3, none⟩ = some (.slice Bk keep.length ck) := cell_of_heap hx
    have qql := (Array.getElem?_eq_some_iff.1 hx).1
    by_cases hlt : i < want.length
    · obtain ⟨c, hc⟩ := get_at hlt
      have hcin : inP wd hg c := HV.out.win (List.mem_of_getElem? hc)
      have hti := HWI.out.tau_in hcin
      have hw64 := HWI.out.b2.nat
      obtain ⟨bb, oo, hA, hbb, hcy⟩ : ∃ bb oo, A = some ⟨bb, oo, none⟩ ∧ bb < wr.heap.size ∧ wr.cell? ⟨bb, oo + i, none⟩ = some (.int .i64 c) := by
        rcases HW0.out.mono hB with ⟨hv, h0⟩ | ⟨bb, oo, c3, hv, h4, h5, h6⟩
        · rw [h0] at hlt; simp at hlt
        · injection hv with hv1 hv2 hv3
          exact ⟨bb, oo, hv1, h5, h6 i c hc⟩
      subst hA
      have hiI : (i : Int) < (want.length : Int) := by omega
      have htd : Int.tdiv c wd = c / wd := Int.tdiv_eq_ediv_of_nonneg hcin.1
      have htm : Int.tmod c wd = c % wd := Int.tmod_eq_emod_of_nonneg hcin.1
      have hwd0 : (wd == 0) = false := beq_eq_false_iff_ne.2 (by have := HBo.out.w; omega)
      have hwd1 : ¬ wd = 0 := by have := HBo.out.w; omega
      have hwdm : ¬ wd = -1 := by have := HBo.out.w; omega
      obtain ⟨qv, hqv⟩ : ∃ a, c / wd = a := ⟨_, rfl⟩
      obtain ⟨rv, hrv⟩ : ∃ a, c % wd = a := ⟨_, rfl⟩
      have htau : tau wd wd2 c = qv * wd2 + rv := by unfold tau; rw [hqv, hrv]
      have hrv0 : 0 ≤ rv ∧ rv < wd := by rw [← hrv]; exact ⟨Int.emod_nonneg _ hwd1, Int.emod_lt_of_pos _ (by have := HBo.out.w; omega)⟩
      have hqv0 : 0 ≤ qv := by rw [← hqv]; exact Int.ediv_nonneg hcin.1 (by have := HBo.out.w; omega)
      have hqc : qv ≤ c := by rw [← hqv]; exact Int.ediv_le_self _ hcin.1
      have hc64 := HV.out.cells
      rw [hqv] at htd
      rw [hrv] at htm
      have hmul0 : 0 ≤ qv * wd2 := Int.mul_nonneg hqv0 (by omega)
      have hmulm : qv * wd2 ≤ 64 * 8 := Int.mul_le_mul (by have := hcin.2; omega) (by omega) (by omega) (by omega)
      have w1' : IntKind.i64.wrap qv = qv := IntWalk.i64_in _ (by have := hcin.2; omega)
      have w2' : IntKind.i64.wrap (qv * wd2) = qv * wd2 := IntWalk.i64_in _ (by omega)
      have w3' : IntKind.i64.wrap (qv * wd2 + rv) = qv * wd2 + rv := IntWalk.i64_in _ (by have := HBo.out.w; omega)
      obtain ⟨EV, hEV⟩ : ∃ e, qv * wd2 + rv = e := ⟨_, rfl⟩
      have w4' : IntKind.i64.wrap EV = EV := by rw [← hEV]; exact w3'
      have HTK := hid (show ((want.take (i + 1)).map (tau wd wd2)).map (Value.int .i64) = ((want.take i).map (tau wd wd2)).map (Value.int .i64) ++ [.int .i64 EV] by
        rw [List.take_succ_eq_append_getElem hlt, List.map_append, List.map_append, (List.getElem?_eq_some_iff.1 hc).2]
        show _ ++ [Value.int .i64 (tau wd wd2 c)] = _
        rw [htau, hEV])
      obtain ⟨xs, hxs⟩ : ∃ l, ((want.take i).map (tau wd wd2)).map (Value.int .i64) = l := ⟨_, rfl⟩
      rw [hxs] at hown HTK
      have hi70 : i ≤ 1000 := by omega
      have HPF : Hid (∀ u, PutI X Y #[.int .i64 wd, .int .i64 hg, .slice (some ⟨bb, oo, none⟩) want.length ca, .slice Bk keep.length ck] 24 (fun z => #[.int .i64 wd2, .int .i64 hg2, z, .slice none 0 0]) w2.heap.size v (.slice none 0 0) i (0) xs ([]) (.int .i64 EV) false false u wr.drew) := fun u => (PutI.start hx hq hown ho hne hbs u).mono (bl_drew (bl_refl wr))
      have HBr := hid hB
      have HCY := hid hcy
      have HBB := hid hbb
      have HSX : Hid (∀ W, Below w.heap.size w W → W.cell? ⟨bb, oo + i, none⟩ = some (.int .i64 c) ∧ bb < W.heap.size) := fun W hW => by
        rcases HW0.out.mono hW with ⟨hv, _⟩ | ⟨b3, o3, c3, hv, h4, h5, h6⟩
        · cases hv
        · injection hv with hv1 hv2 hv3
          injection hv1 with hv1
          injection hv1 with e1 e2
          subst e1 e2
          exact ⟨h6 i c hc, h5⟩
      have HMU := hid (show ∀ W, Below wr.heap.size wr W → True from fun _ _ => trivial)
      go_upto_region 7 with (fail)
      clear q0 q1 q2 q3 qql hcin hti hw64 hc hx hq hown ho hne hbs hqv hrv htau hrv0 hqv0 hqc hc64 hmul0 hmulm hxs hcy hB hbb
      refine wp_region_valsG w HBr.out [40, 41, 42, 43, 44, 45, 46, 47, 48, 49, 50, 51, 52, 53, 54, 55, 56, 57, 58, 59, 60, 61, 62, 63, 64] (fun seen u W => (seen 0 = true → u 40 = .pointer (some ⟨Y, 2, none⟩)) ∧
        (seen 1 = true → u 41 = v) ∧
        (seen 2 = true → u 42 = .pointer (some ⟨X, 2, none⟩)) ∧
        (seen 3 = true → u 43 = .slice (some ⟨bb, oo, none⟩) want.length ca) ∧
        (seen 4 = true → u 44 = .int .i64 (i : Int)) ∧
        (seen 5 = true → u 45 = .pointer (some ⟨bb, oo + i, none⟩)) ∧
        (seen 6 = true → u 46 = .int .i64 c) ∧
        (seen 7 = true → u 47 = .pointer (some ⟨X, 0, none⟩)) ∧
        (seen 8 = true → u 48 = .int .i64 wd) ∧
        (seen 9 = true → u 49 = .int .i64 qv) ∧
        (seen 10 = true → u 50 = .pointer (some ⟨Y, 0, none⟩)) ∧
        (seen 11 = true → u 51 = .int .i64 wd2) ∧
        (seen 12 = true → u 52 = .int .i64 (qv * wd2)) ∧
        (seen 13 = true → u 53 = .pointer (some ⟨X, 2, none⟩)) ∧
        (seen 14 = true → u 54 = .slice (some ⟨bb, oo, none⟩) want.length ca) ∧
        (seen 15 = true → u 55 = .int .i64 (i : Int)) ∧
        (seen 16 = true → u 56 = .pointer (some ⟨bb, oo + i, none⟩)) ∧
        (seen 17 = true → u 57 = .int .i64 c) ∧
        (seen 18 = true → u 58 = .pointer (some ⟨X, 0, none⟩)) ∧
        (seen 19 = true → u 59 = .int .i64 wd) ∧
        (seen 20 = true → u 60 = .int .i64 rv) ∧
        (seen 21 = true → u 61 = .int .i64 EV) ∧
        (seen 22 = true → (seen 23 = false → Row1 W (u 62) (.int .i64 EV))) ∧
        (seen 23 = true → True) ∧
        (seen 24 = true → u 64 = .pointer (some ⟨Y, 2, none⟩)) ∧
        (seen 25 = true → True) ∧
        (seen 25 = true → seen 23 = true) ∧
        (seen 23 = true → seen 1 = true) ∧
        (seen 23 = true → seen 23 = true) ∧
        PutI X Y #[.int .i64 wd, .int .i64 hg, .slice (some ⟨bb, oo, none⟩) want.length ca, .slice Bk keep.length ck] 24 (fun z => #[.int .i64 wd2, .int .i64 hg2, z, .slice none 0 0]) w2.heap.size v (.slice none 0 0) i (0) xs ([]) (.int .i64 EV) (seen 23) (seen 25) (u 63) W)
        (by kernel_rfl) (by kernel_rfl) (by kernel_rfl) (by simp) ⟨by simp [valsOf], by simp [valsOf], by simp [valsOf], by simp [valsOf], by simp [valsOf], by simp [valsOf], by simp [valsOf], by simp [valsOf], by simp [valsOf], by simp [valsOf], by simp [valsOf], by simp [valsOf], by simp [valsOf], by simp [valsOf], by simp [valsOf], by simp [valsOf], by simp [valsOf], by simp [valsOf], by simp [valsOf], by simp [valsOf], by simp [valsOf], by simp [valsOf], by simp [valsOf], by simp [valsOf], by simp [valsOf], by simp [valsOf], by simp [valsOf], by simp [valsOf], by simp [valsOf], HPF.out _⟩ ?_ ?_
      · intro iq o ho seen a' w9 hb9 ⟨F0, F1, F2, F3, F4, F5, F6, F7, F8, F9, F10, F11, F12, F13, F14, F15, F16, F17, F18, F19, F20, F21, F22, F23, F24, F25, F26, F27, F28, F29⟩ hv hsi hdep
        have ql := (Array.getElem?_eq_some_iff.1 F29.q).1
        have hxx := F29.x
        have c0 : w9.cell? ⟨X, 0, none⟩ = some (.int .i64 wd) := cell_of_heap hxx
        have c2 : w9.cell? ⟨X, 2, none⟩ = some (.slice (some ⟨bb, oo, none⟩) want.length ca) := cell_of_heap hxx
        have hXl := (Array.getElem?_eq_some_iff.1 hxx).1
        have hqq := F29.q
        have y0 : w9.cell? ⟨Y, 0, none⟩ = some (.int .i64 wd2) := cell_of_heap hqq
        have sx : w9.cell? ⟨bb, oo + i, none⟩ = some (.int .i64 c) ∧ bb < w9.heap.size := HSX.out w9 hb9
        obtain ⟨sx1, sx2⟩ := sx
        rcases iq with _ | _ | _ | _ | _ | _ | _ | _ | _ | _ | _ | _ | _ | _ | _ | _ | _ | _ | _ | _ | _ | _ | _ | _ | _ | _ | iq <;> simp only [List.getElem?_cons_zero, List.getElem?_cons_succ, List.getElem?_nil, Option.some.injEq, reduceCtorEq] at ho <;> subst ho
        · refine if_free rfl ?_
          have x7 := val_at (hv 7 (by simp))
          simp [valsOf] at x7
          refine wp_value (.pointer (some ⟨Y, 2, none⟩)) (w' := w9) (by simp [execOp, x7, go_sem, c0, c2, hXl, y0, ql, sx1, sx2, hiI, htd, htm, hwd0, hwd1, hwdm, w1', w2', w3', w4', hEV]) ⟨_, rfl, hb9, ?_⟩
          exact ⟨by simp, by simpa using F1, by simpa using F2, by simpa using F3, by simpa using F4, by simpa using F5, by simpa using F6, by simpa using F7, by simpa using F8, by simpa using F9, by simpa using F10, by simpa using F11, by simpa using F12, by simpa using F13, by simpa using F14, by simpa using F15, by simpa using F16, by simpa using F17, by simpa using F18, by simpa using F19, by simpa using F20, by simpa using F21, by simpa using F22, by simpa using F23, by simpa using F24, by simpa using F25, by simpa using F26, by simpa using F27, by simpa using F28, by simpa using F29⟩
        · refine if_free rfl ?_
          have d0 := hdep ⟨0, .data⟩ (by simp) rfl
          have e0 := val_at (F0 d0)
          have hs23 : seen 23 = false := by { cases hq : seen 23 with | false => rfl | true => exact absurd (F27 hq) (by rw [hsi]; decide) }
          have hs25 : seen 25 = false := by { cases hq : seen 25 with | false => rfl | true => exact absurd ((fun h => F27 (F26 h)) hq) (by rw [hsi]; decide) }
          have hq := F29.q
          rw [hs25] at hq
          have cz : w9.cell? ⟨Y, 2, none⟩ = some v := cell_of_heap hq
          refine wp_value v (w' := w9) (by simp [execOp, e0, go_sem, cz, ql]) ⟨_, rfl, hb9, ?_⟩
          exact ⟨by simpa using F0, by simp, by simpa using F2, by simpa using F3, by simpa using F4, by simpa using F5, by simpa using F6, by simpa using F7, by simpa using F8, by simpa using F9, by simpa using F10, by simpa using F11, by simpa using F12, by simpa using F13, by simpa using F14, by simpa using F15, by simpa using F16, by simpa using F17, by simpa using F18, by simpa using F19, by simpa using F20, by simpa using F21, by simpa using F22, by simpa using F23, by simpa using F24, by simpa using F25, by simpa using F26, by simp, by simpa using F28, by simpa using F29⟩
        · refine if_free rfl ?_
          have x3 := val_at (hv 3 (by simp))
          simp [valsOf] at x3
          refine wp_value (.pointer (some ⟨X, 2, none⟩)) (w' := w9) (by simp [execOp, x3, go_sem, c0, c2, hXl, y0, ql, sx1, sx2, hiI, htd, htm, hwd0, hwd1, hwdm, w1', w2', w3', w4', hEV]) ⟨_, rfl, hb9, ?_⟩
          exact ⟨by simpa using F0, by simpa using F1, by simp, by simpa using F3, by simpa using F4, by simpa using F5, by simpa using F6, by simpa using F7, by simpa using F8, by simpa using F9, by simpa using F10, by simpa using F11, by simpa using F12, by simpa using F13, by simpa using F14, by simpa using F15, by simpa using F16, by simpa using F17, by simpa using F18, by simpa using F19, by simpa using F20, by simpa using F21, by simpa using F22, by simpa using F23, by simpa using F24, by simpa using F25, by simpa using F26, by simpa using F27, by simpa using F28, by simpa using F29⟩
        · refine if_free rfl ?_
          have d2 := hdep ⟨2, .data⟩ (by simp) rfl
          have e2 := val_at (F2 d2)
          refine wp_value (.slice (some ⟨bb, oo, none⟩) want.length ca) (w' := w9) (by simp [execOp, e2, go_sem, c0, c2, hXl, y0, ql, sx1, sx2, hiI, htd, htm, hwd0, hwd1, hwdm, w1', w2', w3', w4', hEV]) ⟨_, rfl, hb9, ?_⟩
          exact ⟨by simpa using F0, by simpa using F1, by simpa using F2, by simp, by simpa using F4, by simpa using F5, by simpa using F6, by simpa using F7, by simpa using F8, by simpa using F9, by simpa using F10, by simpa using F11, by simpa using F12, by simpa using F13, by simpa using F14, by simpa using F15, by simpa using F16, by simpa using F17, by simpa using F18, by simpa using F19, by simpa using F20, by simpa using F21, by simpa using F22, by simpa using F23, by simpa using F24, by simpa using F25, by simpa using F26, by simpa using F27, by simpa using F28, by simpa using F29⟩
        · refine if_free rfl ?_
          have x8 := val_at (hv 8 (by simp))
          simp [valsOf] at x8
          refine wp_value (.int .i64 (i : Int)) (w' := w9) (by simp [execOp, x8, go_sem, c0, c2, hXl, y0, ql, sx1, sx2, hiI, htd, htm, hwd0, hwd1, hwdm, w1', w2', w3', w4', hEV]) ⟨_, rfl, hb9, ?_⟩
          exact ⟨by simpa using F0, by simpa using F1, by simpa using F2, by simpa using F3, by simp, by simpa using F5, by simpa using F6, by simpa using F7, by simpa using F8, by simpa using F9, by simpa using F10, by simpa using F11, by simpa using F12, by simpa using F13, by simpa using F14, by simpa using F15, by simpa using F16, by simpa using F17, by simpa using F18, by simpa using F19, by simpa using F20, by simpa using F21, by simpa using F22, by simpa using F23, by simpa using F24, by simpa using F25, by simpa using F26, by simpa using F27, by simpa using F28, by simpa using F29⟩
        · refine if_free rfl ?_
          have d3 := hdep ⟨3, .data⟩ (by simp) rfl
          have e3 := val_at (F3 d3)
          have d4 := hdep ⟨4, .data⟩ (by simp) rfl
          have e4 := val_at (F4 d4)
          refine wp_value (.pointer (some ⟨bb, oo + i, none⟩)) (w' := w9) (by simp [execOp, e3, e4, go_sem, c0, c2, hXl, y0, ql, sx1, sx2, hiI, htd, htm, hwd0, hwd1, hwdm, w1', w2', w3', w4', hEV]) ⟨_, rfl, hb9, ?_⟩
          exact ⟨by simpa using F0, by simpa using F1, by simpa using F2, by simpa using F3, by simpa using F4, by simp, by simpa using F6, by simpa using F7, by simpa using F8, by simpa using F9, by simpa using F10, by simpa using F11, by simpa using F12, by simpa using F13, by simpa using F14, by simpa using F15, by simpa using F16, by simpa using F17, by simpa using F18, by simpa using F19, by simpa using F20, by simpa using F21, by simpa using F22, by simpa using F23, by simpa using F24, by simpa using F25, by simpa using F26, by simpa using F27, by simpa using F28, by simpa using F29⟩
        · refine if_free rfl ?_
          have d5 := hdep ⟨5, .data⟩ (by simp) rfl
          have e5 := val_at (F5 d5)
          refine wp_value (.int .i64 c) (w' := w9) (by simp [execOp, e5, go_sem, c0, c2, hXl, y0, ql, sx1, sx2, hiI, htd, htm, hwd0, hwd1, hwdm, w1', w2', w3', w4', hEV]) ⟨_, rfl, hb9, ?_⟩
          exact ⟨by simpa using F0, by simpa using F1, by simpa using F2, by simpa using F3, by simpa using F4, by simpa using F5, by simp, by simpa using F7, by simpa using F8, by simpa using F9, by simpa using F10, by simpa using F11, by simpa using F12, by simpa using F13, by simpa using F14, by simpa using F15, by simpa using F16, by simpa using F17, by simpa using F18, by simpa using F19, by simpa using F20, by simpa using F21, by simpa using F22, by simpa using F23, by simpa using F24, by simpa using F25, by simpa using F26, by simpa using F27, by simpa using F28, by simpa using F29⟩
        · refine if_free rfl ?_
          have x3 := val_at (hv 3 (by simp))
          simp [valsOf] at x3
          refine wp_value (.pointer (some ⟨X, 0, none⟩)) (w' := w9) (by simp [execOp, x3, go_sem, c0, c2, hXl, y0, ql, sx1, sx2, hiI, htd, htm, hwd0, hwd1, hwdm, w1', w2', w3', w4', hEV]) ⟨_, rfl, hb9, ?_⟩
          exact ⟨by simpa using F0, by simpa using F1, by simpa using F2, by simpa using F3, by simpa using F4, by simpa using F5, by simpa using F6, by simp, by simpa using F8, by simpa using F9, by simpa using F10, by simpa using F11, by simpa using F12, by simpa using F13, by simpa using F14, by simpa using F15, by simpa using F16, by simpa using F17, by simpa using F18, by simpa using F19, by simpa using F20, by simpa using F21, by simpa using F22, by simpa using F23, by simpa using F24, by simpa using F25, by simpa using F26, by simpa using F27, by simpa using F28, by simpa using F29⟩
        · refine if_free rfl ?_
          have d7 := hdep ⟨7, .data⟩ (by simp) rfl
          have e7 := val_at (F7 d7)
          refine wp_value (.int .i64 wd) (w' := w9) (by simp [execOp, e7, go_sem, c0, c2, hXl, y0, ql, sx1, sx2, hiI, htd, htm, hwd0, hwd1, hwdm, w1', w2', w3', w4', hEV]) ⟨_, rfl, hb9, ?_⟩
          exact ⟨by simpa using F0, by simpa using F1, by simpa using F2, by simpa using F3, by simpa using F4, by simpa using F5, by simpa using F6, by simpa using F7, by simp, by simpa using F9, by simpa using F10, by simpa using F11, by simpa using F12, by simpa using F13, by simpa using F14, by simpa using F15, by simpa using F16, by simpa using F17, by simpa using F18, by simpa using F19, by simpa using F20, by simpa using F21, by simpa using F22, by simpa using F23, by simpa using F24, by simpa using F25, by simpa using F26, by simpa using F27, by simpa using F28, by simpa using F29⟩
        · refine if_free rfl ?_
          have d6 := hdep ⟨6, .data⟩ (by simp) rfl
          have e6 := val_at (F6 d6)
          have d8 := hdep ⟨8, .data⟩ (by simp) rfl
          have e8 := val_at (F8 d8)
          refine wp_value (.int .i64 qv) (w' := w9) (by simp [execOp, e6, e8, go_sem, c0, c2, hXl, y0, ql, sx1, sx2, hiI, htd, htm, hwd0, hwd1, hwdm, w1', w2', w3', w4', hEV]) ⟨_, rfl, hb9, ?_⟩
          exact ⟨by simpa using F0, by simpa using F1, by simpa using F2, by simpa using F3, by simpa using F4, by simpa using F5, by simpa using F6, by simpa using F7, by simpa using F8, by simp, by simpa using F10, by simpa using F11, by simpa using F12, by simpa using F13, by simpa using F14, by simpa using F15, by simpa using F16, by simpa using F17, by simpa using F18, by simpa using F19, by simpa using F20, by simpa using F21, by simpa using F22, by simpa using F23, by simpa using F24, by simpa using F25, by simpa using F26, by simpa using F27, by simpa using F28, by simpa using F29⟩
        · refine if_free rfl ?_
          have x7 := val_at (hv 7 (by simp))
          simp [valsOf] at x7
          refine wp_value (.pointer (some ⟨Y, 0, none⟩)) (w' := w9) (by simp [execOp, x7, go_sem, c0, c2, hXl, y0, ql, sx1, sx2, hiI, htd, htm, hwd0, hwd1, hwdm, w1', w2', w3', w4', hEV]) ⟨_, rfl, hb9, ?_⟩
          exact ⟨by simpa using F0, by simpa using F1, by simpa using F2, by simpa using F3, by simpa using F4, by simpa using F5, by simpa using F6, by simpa using F7, by simpa using F8, by simpa using F9, by simp, by simpa using F11, by simpa using F12, by simpa using F13, by simpa using F14, by simpa using F15, by simpa using F16, by simpa using F17, by simpa using F18, by simpa using F19, by simpa using F20, by simpa using F21, by simpa using F22, by simpa using F23, by simpa using F24, by simpa using F25, by simpa using F26, by simpa using F27, by simpa using F28, by simpa using F29⟩
        · refine if_free rfl ?_
          have d10 := hdep ⟨10, .data⟩ (by simp) rfl
          have e10 := val_at (F10 d10)
          refine wp_value (.int .i64 wd2) (w' := w9) (by simp [execOp, e10, go_sem, c0, c2, hXl, y0, ql, sx1, sx2, hiI, htd, htm, hwd0, hwd1, hwdm, w1', w2', w3', w4', hEV]) ⟨_, rfl, hb9, ?_⟩
          exact ⟨by simpa using F0, by simpa using F1, by simpa using F2, by simpa using F3, by simpa using F4, by simpa using F5, by simpa using F6, by simpa using F7, by simpa using F8, by simpa using F9, by simpa using F10, by simp, by simpa using F12, by simpa using F13, by simpa using F14, by simpa using F15, by simpa using F16, by simpa using F17, by simpa using F18, by simpa using F19, by simpa using F20, by simpa using F21, by simpa using F22, by simpa using F23, by simpa using F24, by simpa using F25, by simpa using F26, by simpa using F27, by simpa using F28, by simpa using F29⟩
        · refine if_free rfl ?_
          have d9 := hdep ⟨9, .data⟩ (by simp) rfl
          have e9 := val_at (F9 d9)
          have d11 := hdep ⟨11, .data⟩ (by simp) rfl
          have e11 := val_at (F11 d11)
          refine wp_value (.int .i64 (qv * wd2)) (w' := w9) (by simp [execOp, e9, e11, go_sem, c0, c2, hXl, y0, ql, sx1, sx2, hiI, htd, htm, hwd0, hwd1, hwdm, w1', w2', w3', w4', hEV]) ⟨_, rfl, hb9, ?_⟩
          exact ⟨by simpa using F0, by simpa using F1, by simpa using F2, by simpa using F3, by simpa using F4, by simpa using F5, by simpa using F6, by simpa using F7, by simpa using F8, by simpa using F9, by simpa using F10, by simpa using F11, by simp, by simpa using F13, by simpa using F14, by simpa using F15, by simpa using F16, by simpa using F17, by simpa using F18, by simpa using F19, by simpa using F20, by simpa using F21, by simpa using F22, by simpa using F23, by simpa using F24, by simpa using F25, by simpa using F26, by simpa using F27, by simpa using F28, by simpa using F29⟩
        · refine if_free rfl ?_
          have x3 := val_at (hv 3 (by simp))
          simp [valsOf] at x3
          refine wp_value (.pointer (some ⟨X, 2, none⟩)) (w' := w9) (by simp [execOp, x3, go_sem, c0, c2, hXl, y0, ql, sx1, sx2, hiI, htd, htm, hwd0, hwd1, hwdm, w1', w2', w3', w4', hEV]) ⟨_, rfl, hb9, ?_⟩
          exact ⟨by simpa using F0, by simpa using F1, by simpa using F2, by simpa using F3, by simpa using F4, by simpa using F5, by simpa using F6, by simpa using F7, by simpa using F8, by simpa using F9, by simpa using F10, by simpa using F11, by simpa using F12, by simp, by simpa using F14, by simpa using F15, by simpa using F16, by simpa using F17, by simpa using F18, by simpa using F19, by simpa using F20, by simpa using F21, by simpa using F22, by simpa using F23, by simpa using F24, by simpa using F25, by simpa using F26, by simpa using F27, by simpa using F28, by simpa using F29⟩
        · refine if_free rfl ?_
          have d13 := hdep ⟨13, .data⟩ (by simp) rfl
          have e13 := val_at (F13 d13)
          refine wp_value (.slice (some ⟨bb, oo, none⟩) want.length ca) (w' := w9) (by simp [execOp, e13, go_sem, c0, c2, hXl, y0, ql, sx1, sx2, hiI, htd, htm, hwd0, hwd1, hwdm, w1', w2', w3', w4', hEV]) ⟨_, rfl, hb9, ?_⟩
          exact ⟨by simpa using F0, by simpa using F1, by simpa using F2, by simpa using F3, by simpa using F4, by simpa using F5, by simpa using F6, by simpa using F7, by simpa using F8, by simpa using F9, by simpa using F10, by simpa using F11, by simpa using F12, by simpa using F13, by simp, by simpa using F15, by simpa using F16, by simpa using F17, by simpa using F18, by simpa using F19, by simpa using F20, by simpa using F21, by simpa using F22, by simpa using F23, by simpa using F24, by simpa using F25, by simpa using F26, by simpa using F27, by simpa using F28, by simpa using F29⟩
        · refine if_free rfl ?_
          have x8 := val_at (hv 8 (by simp))
          simp [valsOf] at x8
          refine wp_value (.int .i64 (i : Int)) (w' := w9) (by simp [execOp, x8, go_sem, c0, c2, hXl, y0, ql, sx1, sx2, hiI, htd, htm, hwd0, hwd1, hwdm, w1', w2', w3', w4', hEV]) ⟨_, rfl, hb9, ?_⟩
          exact ⟨by simpa using F0, by simpa using F1, by simpa using F2, by simpa using F3, by simpa using F4, by simpa using F5, by simpa using F6, by simpa using F7, by simpa using F8, by simpa using F9, by simpa using F10, by simpa using F11, by simpa using F12, by simpa using F13, by simpa using F14, by simp, by simpa using F16, by simpa using F17, by simpa using F18, by simpa using F19, by simpa using F20, by simpa using F21, by simpa using F22, by simpa using F23, by simpa using F24, by simpa using F25, by simpa using F26, by simpa using F27, by simpa using F28, by simpa using F29⟩
        · refine if_free rfl ?_
          have d14 := hdep ⟨14, .data⟩ (by simp) rfl
          have e14 := val_at (F14 d14)
          have d15 := hdep ⟨15, .data⟩ (by simp) rfl
          have e15 := val_at (F15 d15)
          refine wp_value (.pointer (some ⟨bb, oo + i, none⟩)) (w' := w9) (by simp [execOp, e14, e15, go_sem, c0, c2, hXl, y0, ql, sx1, sx2, hiI, htd, htm, hwd0, hwd1, hwdm, w1', w2', w3', w4', hEV]) ⟨_, rfl, hb9, ?_⟩
          exact ⟨by simpa using F0, by simpa using F1, by simpa using F2, by simpa using F3, by simpa using F4, by simpa using F5, by simpa using F6, by simpa using F7, by simpa using F8, by simpa using F9, by simpa using F10, by simpa using F11, by simpa using F12, by simpa using F13, by simpa using F14, by simpa using F15, by simp, by simpa using F17, by simpa using F18, by simpa using F19, by simpa using F20, by simpa using F21, by simpa using F22, by simpa using F23, by simpa using F24, by simpa using F25, by simpa using F26, by simpa using F27, by simpa using F28, by simpa using F29⟩
        · refine if_free rfl ?_
          have d16 := hdep ⟨16, .data⟩ (by simp) rfl
          have e16 := val_at (F16 d16)
          refine wp_value (.int .i64 c) (w' := w9) (by simp [execOp, e16, go_sem, c0, c2, hXl, y0, ql, sx1, sx2, hiI, htd, htm, hwd0, hwd1, hwdm, w1', w2', w3', w4', hEV]) ⟨_, rfl, hb9, ?_⟩
          exact ⟨by simpa using F0, by simpa using F1, by simpa using F2, by simpa using F3, by simpa using F4, by simpa using F5, by simpa using F6, by simpa using F7, by simpa using F8, by simpa using F9, by simpa using F10, by simpa using F11, by simpa using F12, by simpa using F13, by simpa using F14, by simpa using F15, by simpa using F16, by simp, by simpa using F18, by simpa using F19, by simpa using F20, by simpa using F21, by simpa using F22, by simpa using F23, by simpa using F24, by simpa using F25, by simpa using F26, by simpa using F27, by simpa using F28, by simpa using F29⟩
        · refine if_free rfl ?_
          have x3 := val_at (hv 3 (by simp))
          simp [valsOf] at x3
          refine wp_value (.pointer (some ⟨X, 0, none⟩)) (w' := w9) (by simp [execOp, x3, go_sem, c0, c2, hXl, y0, ql, sx1, sx2, hiI, htd, htm, hwd0, hwd1, hwdm, w1', w2', w3', w4', hEV]) ⟨_, rfl, hb9, ?_⟩
          exact ⟨by simpa using F0, by simpa using F1, by simpa using F2, by simpa using F3, by simpa using F4, by simpa using F5, by simpa using F6, by simpa using F7, by simpa using F8, by simpa using F9, by simpa using F10, by simpa using F11, by simpa using F12, by simpa using F13, by simpa using F14, by simpa using F15, by simpa using F16, by simpa using F17, by simp, by simpa using F19, by simpa using F20, by simpa using F21, by simpa using F22, by simpa using F23, by simpa using F24, by simpa using F25, by simpa using F26, by simpa using F27, by simpa using F28, by simpa using F29⟩
        · refine if_free rfl ?_
          have d18 := hdep ⟨18, .data⟩ (by simp) rfl
          have e18 := val_at (F18 d18)
          refine wp_value (.int .i64 wd) (w' := w9) (by simp [execOp, e18, go_sem, c0, c2, hXl, y0, ql, sx1, sx2, hiI, htd, htm, hwd0, hwd1, hwdm, w1', w2', w3', w4', hEV]) ⟨_, rfl, hb9, ?_⟩
          exact ⟨by simpa using F0, by simpa using F1, by simpa using F2, by simpa using F3, by simpa using F4, by simpa using F5, by simpa using F6, by simpa using F7, by simpa using F8, by simpa using F9, by simpa using F10, by simpa using F11, by simpa using F12, by simpa using F13, by simpa using F14, by simpa using F15, by simpa using F16, by simpa using F17, by simpa using F18, by simp, by simpa using F20, by simpa using F21, by simpa using F22, by simpa using F23, by simpa using F24, by simpa using F25, by simpa using F26, by simpa using F27, by simpa using F28, by simpa using F29⟩
        · refine if_free rfl ?_
          have d17 := hdep ⟨17, .data⟩ (by simp) rfl
          have e17 := val_at (F17 d17)
          have d19 := hdep ⟨19, .data⟩ (by simp) rfl
          have e19 := val_at (F19 d19)
          refine wp_value (.int .i64 rv) (w' := w9) (by simp [execOp, e17, e19, go_sem, c0, c2, hXl, y0, ql, sx1, sx2, hiI, htd, htm, hwd0, hwd1, hwdm, w1', w2', w3', w4', hEV]) ⟨_, rfl, hb9, ?_⟩
          exact ⟨by simpa using F0, by simpa using F1, by simpa using F2, by simpa using F3, by simpa using F4, by simpa using F5, by simpa using F6, by simpa using F7, by simpa using F8, by simpa using F9, by simpa using F10, by simpa using F11, by simpa using F12, by simpa using F13, by simpa using F14, by simpa using F15, by simpa using F16, by simpa using F17, by simpa using F18, by simpa using F19, by simp, by simpa using F21, by simpa using F22, by simpa using F23, by simpa using F24, by simpa using F25, by simpa using F26, by simpa using F27, by simpa using F28, by simpa using F29⟩
        · refine if_free rfl ?_
          have d12 := hdep ⟨12, .data⟩ (by simp) rfl
          have e12 := val_at (F12 d12)
          have d20 := hdep ⟨20, .data⟩ (by simp) rfl
          have e20 := val_at (F20 d20)
          refine wp_value (.int .i64 EV) (w' := w9) (by simp [execOp, e12, e20, go_sem, c0, c2, hXl, y0, ql, sx1, sx2, hiI, htd, htm, hwd0, hwd1, hwdm, w1', w2', w3', w4', hEV]) ⟨_, rfl, hb9, ?_⟩
          exact ⟨by simpa using F0, by simpa using F1, by simpa using F2, by simpa using F3, by simpa using F4, by simpa using F5, by simpa using F6, by simpa using F7, by simpa using F8, by simpa using F9, by simpa using F10, by simpa using F11, by simpa using F12, by simpa using F13, by simpa using F14, by simpa using F15, by simpa using F16, by simpa using F17, by simpa using F18, by simpa using F19, by simpa using F20, by simp, by simpa using F22, by simpa using F23, by simpa using F24, by simpa using F25, by simpa using F26, by simpa using F27, by simpa using F28, by simpa using F29⟩
        · refine if_free rfl ?_
          have d21 := hdep ⟨21, .data⟩ (by simp) rfl
          have e21 := val_at (F21 d21)
          have hg : Below w9.heap.size w9 (w9.alloc (.cells #[.int .i64 EV] 3)) := bl_alloc (bl_refl _) _
          refine wp_value (.slice (some ⟨w9.heap.size, 0, none⟩) 1 1) (w' := w9.alloc (.cells #[.int .i64 EV] 3)) (by simp [execOp, e21, go_sem]) ⟨_, rfl, bl_trans hb9 hg, ?_⟩
          have hn : Row1 (w9.alloc (.cells #[.int .i64 EV] 3)) (.slice (some ⟨w9.heap.size, 0, none⟩) 1 1) (.int .i64 EV) := ⟨_, rfl, World.alloc_heap_new _ _⟩
          exact ⟨by simpa using F0, by simpa using F1, by simpa using F2, by simpa using F3, by simpa using F4, by simpa using F5, by simpa using F6, by simpa using F7, by simpa using F8, by simpa using F9, by simpa using F10, by simpa using F11, by simpa using F12, by simpa using F13, by simpa using F14, by simpa using F15, by simpa using F16, by simpa using F17, by simpa using F18, by simpa using F19, by simpa using F20, by simpa using F21, by simpa using fun _ => hn, by simpa using F23, by simpa using F24, by simpa using F25, by simpa using F26, by simpa using F27, by simpa using F28, by simpa using F29.mono hg⟩
        · refine if_free rfl ?_
          have d1 := hdep ⟨1, .data⟩ (by simp) rfl
          have e1 := val_at (F1 d1)
          have d22 := hdep ⟨22, .data⟩ (by simp) rfl
          have hs25 : seen 25 = false := by { cases hq : seen 25 with | false => rfl | true => exact absurd (F26 hq) (by rw [hsi]; decide) }
          obtain ⟨g7, r7, hh7⟩ := F22 d22 hsi
          have e7 := val_at r7
          have FM' := F29
          rw [hsi, hs25] at FM'
          obtain ⟨A9, c9, w10, hrun, hm, hgrow⟩ := FM'.app (by decide) rfl hi70 (cell_of_heap hh7)
          have own9 := FM'.a rfl
          have hb10 := bl_grown hb9 own9 hwb hgrow
          refine wp_append_run _ _ 22 rfl _ _ (.slice A9 (i + 1) c9) w10 (by simp [go_sem, e1]) (by simp [go_sem, e7]) hrun ⟨_, rfl, hb10, ?_⟩
          exact ⟨by simpa using F0, by simpa using F1, by simpa using F2, by simpa using F3, by simpa using F4, by simpa using F5, by simpa using F6, by simpa using F7, by simpa using F8, by simpa using F9, by simpa using F10, by simpa using F11, by simpa using F12, by simpa using F13, by simpa using F14, by simpa using F15, by simpa using F16, by simpa using F17, by simpa using F18, by simpa using F19, by simpa using F20, by simpa using F21, by simp, by simp, by simpa using F24, by simpa using F25, by simp, by simpa using d1, by simp, by simpa [hs25] using hm⟩
        · refine if_free rfl ?_
          have x7 := val_at (hv 7 (by simp))
          simp [valsOf] at x7
          refine wp_value (.pointer (some ⟨Y, 2, none⟩)) (w' := w9) (by simp [execOp, x7, go_sem, c0, c2, hXl, y0, ql, sx1, sx2, hiI, htd, htm, hwd0, hwd1, hwdm, w1', w2', w3', w4', hEV]) ⟨_, rfl, hb9, ?_⟩
          exact ⟨by simpa using F0, by simpa using F1, by simpa using F2, by simpa using F3, by simpa using F4, by simpa using F5, by simpa using F6, by simpa using F7, by simpa using F8, by simpa using F9, by simpa using F10, by simpa using F11, by simpa using F12, by simpa using F13, by simpa using F14, by simpa using F15, by simpa using F16, by simpa using F17, by simpa using F18, by simpa using F19, by simpa using F20, by simpa using F21, by simpa using F22, by simpa using F23, by simp, by simpa using F25, by simpa using F26, by simpa using F27, by simpa using F28, by simpa using F29⟩
        · refine if_free rfl ?_
          have d24 := hdep ⟨24, .data⟩ (by simp) rfl
          have e24 := val_at (F24 d24)
          have d23 := hdep ⟨23, .data⟩ (by simp) rfl
          obtain ⟨⟨A8, c8, hu⟩, ho8⟩ := F29.b d23
          have e8 := val_at hu
          have FM' := F29
          rw [hsi, d23] at FM'
          have hq9 := FM'.q
          have cz : w9.cell? ⟨Y, 2, none⟩ = some v := cell_of_heap hq9
          have fz : w9.frozen? ⟨Y, 2, none⟩ = false := frozen_of_heap hq9
          have hm := FM'.put (by decide) hXY 2 (by rw [heap_setCell_same _ _ _ _ _ _ hq9]; rfl)
          have hb10 := bl_set hb9 (valsOf a' 63) (b := Y) (o := 2) hwY
          rw [hu] at hm hb10
          refine wp_effect (w' := w9.setCell ⟨Y, 2, none⟩ (.slice A8 (i + 1) c8)) (by simp [execOp, e24, e8, go_sem, cz, fz, ql]) ⟨_, rfl, hb10, ?_⟩
          exact ⟨by simpa using F0, by simpa using F1, by simpa using F2, by simpa using F3, by simpa using F4, by simpa using F5, by simpa using F6, by simpa using F7, by simpa using F8, by simpa using F9, by simpa using F10, by simpa using F11, by simpa using F12, by simpa using F13, by simpa using F14, by simpa using F15, by simpa using F16, by simpa using F17, by simpa using F18, by simpa using F19, by simpa using F20, by simpa using F21, by simp [d23], by simpa using F23, by simpa using F24, by simp, by simpa using d23, by simpa using F27, by simpa using F28, by simpa [d23, hu] using hm⟩
      intro u w5 hb5 seen hall ⟨F0, F1, F2, F3, F4, F5, F6, F7, F8, F9, F10, F11, F12, F13, F14, F15, F16, F17, F18, F19, F20, F21, F22, F23, F24, F25, F26, F27, F28, F29⟩
      replace F0 := F0 (hall 0 (by decide))
      replace F1 := F1 (hall 1 (by decide))
      replace F2 := F2 (hall 2 (by decide))
      replace F3 := F3 (hall 3 (by decide))
      replace F4 := F4 (hall 4 (by decide))
      replace F5 := F5 (hall 5 (by decide))
      replace F6 := F6 (hall 6 (by decide))
      replace F7 := F7 (hall 7 (by decide))
      replace F8 := F8 (hall 8 (by decide))
      replace F9 := F9 (hall 9 (by decide))
      replace F10 := F10 (hall 10 (by decide))
      replace F11 := F11 (hall 11 (by decide))
      replace F12 := F12 (hall 12 (by decide))
      replace F13 := F13 (hall 13 (by decide))
      replace F14 := F14 (hall 14 (by decide))
      replace F15 := F15 (hall 15 (by decide))
      replace F16 := F16 (hall 16 (by decide))
      replace F17 := F17 (hall 17 (by decide))
      replace F18 := F18 (hall 18 (by decide))
      replace F19 := F19 (hall 19 (by decide))
      replace F20 := F20 (hall 20 (by decide))
      replace F21 := F21 (hall 21 (by decide))
      replace F22 := F22 (hall 22 (by decide))
      replace F23 := F23 (hall 23 (by decide))
      replace F24 := F24 (hall 24 (by decide))
      replace F25 := F25 (hall 25 (by decide))
      rw [hall 23 (by decide), hall 25 (by decide)] at F29
      have FZ := F29
      obtain ⟨⟨A5, c5, hu⟩, ho5⟩ := FZ.b rfl
      have hq5 := FZ.q
      have hnb5 := FZ.nb rfl
      rw [if_pos rfl, hu] at hq5
      rw [hu] at ho5 hnb5
      have hx5 := FZ.x
      have hoo5 := FZ.o
      have hbs5 := FZ.bs
      rw [← HTK.out] at ho5
      have HQ5 := hid hq5
      have HO5 := hid ho5
      have HN5 := hid hnb5
      have HX5 := hid hx5
      have HOO5 := hid hoo5
      have HBS5 := hid hbs5
      have HB5 := hid hb5
      simp only [setAll]
      clear FZ hall hu ho5 hnb5 hq5 hx5 hoo5 hbs5 hb5 F0 F1 F2 F3 F4 F5 F6 F7 F8 F9 F10 F11 F12 F13 F14 F15 F16 F17 F18 F19 F20 F21 F22 F23 F24 F25 F26 F27 F28 F29 seen HPF HTK HBr HCY HBB HMU HSX htd htm hwd0 hwd1 hwdm w1' w2' w3' w4' hEV
      generalize u 40 = u40
      generalize u 41 = u41
      generalize u 42 = u42
      generalize u 43 = u43
      generalize u 44 = u44
      generalize u 45 = u45
      generalize u 46 = u46
      generalize u 47 = u47
      generalize u 48 = u48
      generalize u 49 = u49
      generalize u 50 = u50
      generalize u 51 = u51
      generalize u 52 = u52
      generalize u 53 = u53
      generalize u 54 = u54
      generalize u 55 = u55
      generalize u 56 = u56
      generalize u 57 = u57
      generalize u 58 = u58
      generalize u 59 = u59
      generalize u 60 = u60
      generalize u 61 = u61
      generalize u 62 = u62
      generalize u 63 = u63
      generalize u 64 = u64
      go_wp2
      go_roundw
      case rel => exact ⟨i + 1, _, by omega, by go_num, HX5.out, HQ5.out, HO5.out, HOO5.out, HN5.out, HB5.out, HBS5.out⟩
      case measure => simp [intOf]; omega
    obtain rfl : i = want.length := by omega
    go_wp2
    clear q0 q1 q2 q3 qql
    have HX2 := hid hx
    have HQ2 := hid hq
    have HO2 := hid hown
    have HB2 := hid hB
    have HBS2 := hid hbs
    obtain ⟨A1, n1, hv1⟩ := own_slice hown
    subst hv1
    clear hx hq hown ho hne hB hbs hlt
    go_loopw [9] (fun p wr => ∃ (i : Nat) (v : Value), i ≤ keep.length ∧ p = .int .i64 (i : Int) ∧ wr.heap[X]? = some (.cells #[.int .i64 wd, .int .i64 hg, .slice A want.length ca, .slice Bk keep.length ck] 24 (0, 0)) ∧ wr.heap[Y]? = some (.cells ((fun z => #[.int .i64 wd2, .int .i64 hg2, .slice A1 want.length n1, z]) v) 24 (0, 0)) ∧ wr.ownsRow w2.heap.size 3 1 v i (((keep.take i).map (tau wd wd2)).map (Value.int .i64)) ∧ wr.ownsRow w2.heap.size 3 1 (.slice A1 want.length n1) (want.length) (((want.take want.length).map (tau wd wd2)).map (Value.int .i64)) ∧ (∀ g, v.ownBlock = some g → (.slice A1 want.length n1 : Value).ownBlock ≠ some g) ∧ Below w.heap.size w wr ∧ w2.heap.size ≤ wr.heap.size) (fun p _ => keep.length - (intOf p).toNat)
    case atStart => exact ⟨0, .slice none 0 0, Nat.zero_le _, rfl, HX2.out, HQ2.out, World.ownsRow_nil _ _ _ _, HO2.out, (fun g h => by cases h), HB2.out, HBS2.out⟩
    case round =>
    obtain ⟨i, v, hi, rfl, hx, hq, hown, ho, hne, hB, hbs⟩ := hrel
    have q0 : wr.cell? ⟨X, 0, none⟩ = some (.int .i64 wd) := cell_of_heap hx
    have q1 : wr.cell? ⟨X, 1, none⟩ = some (.int .i64 hg) := cell_of_heap hx
    have q2 : wr.cell? ⟨X, 2, none⟩ = some (.slice A want.length ca) := cell_of_heap hx
    have q3 : wr.cell? ⟨X, 3, none⟩ = some (.slice Bk keep.length ck) := cell_of_heap hx
    have qql := (Array.getElem?_eq_some_iff.1 hx).1
    by_cases hlt : i < keep.length
    · obtain ⟨c, hc⟩ := get_at hlt
      have hcin : inP wd hg c := HV.out.kin (List.mem_of_getElem? hc)
      have hti := HWI.out.tau_in hcin
      have hw64 := HWI.out.b2.nat
      obtain ⟨bb, oo, hA, hbb, hcy⟩ : ∃ bb oo, Bk = some ⟨bb, oo, none⟩ ∧ bb < wr.heap.size ∧ wr.cell? ⟨bb, oo + i, none⟩ = some (.int .i64 c) := by
        rcases HK0.out.mono hB with ⟨hv, h0⟩ | ⟨bb, oo, c3, hv, h4, h5, h6⟩
        · rw [h0] at hlt; simp at hlt
        · injection hv with hv1 hv2 hv3
          exact ⟨bb, oo, hv1, h5, h6 i c hc⟩
      subst hA
      have hiI : (i : Int) < (keep.length : Int) := by omega
      have htd : Int.tdiv c wd = c / wd := Int.tdiv_eq_ediv_of_nonneg hcin.1
      have htm : Int.tmod c wd = c % wd := Int.tmod_eq_emod_of_nonneg hcin.1
      have hwd0 : (wd == 0) = false := beq_eq_false_iff_ne.2 (by have := HBo.out.w; omega)
      have hwd1 : ¬ wd = 0 := by have := HBo.out.w; omega
      have hwdm : ¬ wd = -1 := by have := HBo.out.w; omega
      obtain ⟨qv, hqv⟩ : ∃ a, c / wd = a := ⟨_, rfl⟩
      obtain ⟨rv, hrv⟩ : ∃ a, c % wd = a := ⟨_, rfl⟩
      have htau : tau wd wd2 c = qv * wd2 + rv := by unfold tau; rw [hqv, hrv]
      have hrv0 : 0 ≤ rv ∧ rv < wd := by rw [← hrv]; exact ⟨Int.emod_nonneg _ hwd1, Int.emod_lt_of_pos _ (by have := HBo.out.w; omega)⟩
      have hqv0 : 0 ≤ qv := by rw [← hqv]; exact Int.ediv_nonneg hcin.1 (by have := HBo.out.w; omega)
      have hqc : qv ≤ c := by rw [← hqv]; exact Int.ediv_le_self _ hcin.1
      have hc64 := HV.out.cells
      rw [hqv] at htd
      rw [hrv] at htm
      have hmul0 : 0 ≤ qv * wd2 := Int.mul_nonneg hqv0 (by omega)
      have hmulm : qv * wd2 ≤ 64 * 8 := Int.mul_le_mul (by have := hcin.2; omega) (by omega) (by omega) (by omega)
      have w1' : IntKind.i64.wrap qv = qv := IntWalk.i64_in _ (by have := hcin.2; omega)
      have w2' : IntKind.i64.wrap (qv * wd2) = qv * wd2 := IntWalk.i64_in _ (by omega)
      have w3' : IntKind.i64.wrap (qv * wd2 + rv) = qv * wd2 + rv := IntWalk.i64_in _ (by have := HBo.out.w; omega)
      obtain ⟨EV, hEV⟩ : ∃ e, qv * wd2 + rv = e := ⟨_, rfl⟩
      have w4' : IntKind.i64.wrap EV = EV := by rw [← hEV]; exact w3'
      have HTK := hid (show ((keep.take (i + 1)).map (tau wd wd2)).map (Value.int .i64) = ((keep.take i).map (tau wd wd2)).map (Value.int .i64) ++ [.int .i64 EV] by
        rw [List.take_succ_eq_append_getElem hlt, List.map_append, List.map_append, (List.getElem?_eq_some_iff.1 hc).2]
        show _ ++ [Value.int .i64 (tau wd wd2 c)] = _
        rw [htau, hEV])
      obtain ⟨xs, hxs⟩ : ∃ l, ((keep.take i).map (tau wd wd2)).map (Value.int .i64) = l := ⟨_, rfl⟩
      rw [hxs] at hown HTK
      have hi70 : i ≤ 1000 := by omega
      have HPF : Hid (∀ u, PutI X Y #[.int .i64 wd, .int .i64 hg, .slice A want.length ca, .slice (some ⟨bb, oo, none⟩) keep.length ck] 24 (fun z => #[.int .i64 wd2, .int .i64 hg2, .slice A1 want.length n1, z]) w2.heap.size v (.slice A1 want.length n1) i (want.length) xs (((want.take want.length).map (tau wd wd2)).map (Value.int .i64)) (.int .i64 EV) false false u wr.drew) := fun u => (PutI.start hx hq hown ho hne hbs u).mono (bl_drew (bl_refl wr))
      have HBr := hid hB
      have HCY := hid hcy
      have HBB := hid hbb
      have HSX : Hid (∀ W, Below w.heap.size w W → W.cell? ⟨bb, oo + i, none⟩ = some (.int .i64 c) ∧ bb < W.heap.size) := fun W hW => by
        rcases HK0.out.mono hW with ⟨hv, _⟩ | ⟨b3, o3, c3, hv, h4, h5, h6⟩
        · cases hv
        · injection hv with hv1 hv2 hv3
          injection hv1 with hv1
          injection hv1 with e1 e2
          subst e1 e2
          exact ⟨h6 i c hc, h5⟩
      have HMU := hid (show ∀ W, Below wr.heap.size wr W → True from fun _ _ => trivial)
      go_upto_region 11 with (fail)
      clear q0 q1 q2 q3 qql hcin hti hw64 hc hx hq hown ho hne hbs hqv hrv htau hrv0 hqv0 hqc hc64 hmul0 hmulm hxs hcy hB hbb
      refine wp_region_valsG w HBr.out [72, 73, 74, 75, 76, 77, 78, 79, 80, 81, 82, 83, 84, 85, 86, 87, 88, 89, 90, 91, 92, 93, 94, 95, 96] (fun seen u W => (seen 0 = true → u 72 = .pointer (some ⟨Y, 3, none⟩)) ∧
        (seen 1 = true → u 73 = v) ∧
        (seen 2 = true → u 74 = .pointer (some ⟨X, 3, none⟩)) ∧
        (seen 3 = true → u 75 = .slice (some ⟨bb, oo, none⟩) keep.length ck) ∧
        (seen 4 = true → u 76 = .int .i64 (i : Int)) ∧
        (seen 5 = true → u 77 = .pointer (some ⟨bb, oo + i, none⟩)) ∧
        (seen 6 = true → u 78 = .int .i64 c) ∧
        (seen 7 = true → u 79 = .pointer (some ⟨X, 0, none⟩)) ∧
        (seen 8 = true → u 80 = .int .i64 wd) ∧
        (seen 9 = true → u 81 = .int .i64 qv) ∧
        (seen 10 = true → u 82 = .pointer (some ⟨Y, 0, none⟩)) ∧
        (seen 11 = true → u 83 = .int .i64 wd2) ∧
        (seen 12 = true → u 84 = .int .i64 (qv * wd2)) ∧
        (seen 13 = true → u 85 = .pointer (some ⟨X, 3, none⟩)) ∧
        (seen 14 = true → u 86 = .slice (some ⟨bb, oo, none⟩) keep.length ck) ∧
        (seen 15 = true → u 87 = .int .i64 (i : Int)) ∧
        (seen 16 = true → u 88 = .pointer (some ⟨bb, oo + i, none⟩)) ∧
        (seen 17 = true → u 89 = .int .i64 c) ∧
        (seen 18 = true → u 90 = .pointer (some ⟨X, 0, none⟩)) ∧
        (seen 19 = true → u 91 = .int .i64 wd) ∧
        (seen 20 = true → u 92 = .int .i64 rv) ∧
        (seen 21 = true → u 93 = .int .i64 EV) ∧
        (seen 22 = true → (seen 23 = false → Row1 W (u 94) (.int .i64 EV))) ∧
        (seen 23 = true → True) ∧
        (seen 24 = true → u 96 = .pointer (some ⟨Y, 3, none⟩)) ∧
        (seen 25 = true → True) ∧
        (seen 25 = true → seen 23 = true) ∧
        (seen 23 = true → seen 1 = true) ∧
        (seen 23 = true → seen 23 = true) ∧
        PutI X Y #[.int .i64 wd, .int .i64 hg, .slice A want.length ca, .slice (some ⟨bb, oo, none⟩) keep.length ck] 24 (fun z => #[.int .i64 wd2, .int .i64 hg2, .slice A1 want.length n1, z]) w2.heap.size v (.slice A1 want.length n1) i (want.length) xs (((want.take want.length).map (tau wd wd2)).map (Value.int .i64)) (.int .i64 EV) (seen 23) (seen 25) (u 95) W)
        (by kernel_rfl) (by kernel_rfl) (by kernel_rfl) (by simp) ⟨by simp [valsOf], by simp [valsOf], by simp [valsOf], by simp [valsOf], by simp [valsOf], by simp [valsOf], by simp [valsOf], by simp [valsOf], by simp [valsOf], by simp [valsOf], by simp [valsOf], by simp [valsOf], by simp [valsOf], by simp [valsOf], by simp [valsOf], by simp [valsOf], by simp [valsOf], by simp [valsOf], by simp [valsOf], by simp [valsOf], by simp [valsOf], by simp [valsOf], by simp [valsOf], by simp [valsOf], by simp [valsOf], by simp [valsOf], by simp [valsOf], by simp [valsOf], by simp [valsOf], HPF.out _⟩ ?_ ?_
      · intro iq o ho seen a' w9 hb9 ⟨F0, F1, F2, F3, F4, F5, F6, F7, F8, F9, F10, F11, F12, F13, F14, F15, F16, F17, F18, F19, F20, F21, F22, F23, F24, F25, F26, F27, F28, F29⟩ hv hsi hdep
        have ql := (Array.getElem?_eq_some_iff.1 F29.q).1
        have hxx := F29.x
        have c0 : w9.cell? ⟨X, 0, none⟩ = some (.int .i64 wd) := cell_of_heap hxx
        have c2 : w9.cell? ⟨X, 3, none⟩ = some (.slice (some ⟨bb, oo, none⟩) keep.length ck) := cell_of_heap hxx
        have hXl := (Array.getElem?_eq_some_iff.1 hxx).1
        have hqq := F29.q
        have y0 : w9.cell? ⟨Y, 0, none⟩ = some (.int .i64 wd2) := cell_of_heap hqq
        have sx : w9.cell? ⟨bb, oo + i, none⟩ = some (.int .i64 c) ∧ bb < w9.heap.size := HSX.out w9 hb9
        obtain ⟨sx1, sx2⟩ := sx
        rcases iq with _ | _ | _ | _ | _ | _ | _ | _ | _ | _ | _ | _ | _ | _ | _ | _ | _ | _ | _ | _ | _ | _ | _ | _ | _ | _ | iq <;> simp only [List.getElem?_cons_zero, List.getElem?_cons_succ, List.getElem?_nil, Option.some.injEq, reduceCtorEq] at ho <;> subst ho
        · refine if_free rfl ?_
          have x7 := val_at (hv 7 (by simp))
          simp [valsOf] at x7
          refine wp_value (.pointer (some ⟨Y, 3, none⟩)) (w' := w9) (by simp [execOp, x7, go_sem, c0, c2, hXl, y0, ql, sx1, sx2, hiI, htd, htm, hwd0, hwd1, hwdm, w1', w2', w3', w4', hEV]) ⟨_, rfl, hb9, ?_⟩
          exact ⟨by simp, by simpa using F1, by simpa using F2, by simpa using F3, by simpa using F4, by simpa using F5, by simpa using F6, by simpa using F7, by simpa using F8, by simpa using F9, by simpa using F10, by simpa using F11, by simpa using F12, by simpa using F13, by simpa using F14, by simpa using F15, by simpa using F16, by simpa using F17, by simpa using F18, by simpa using F19, by simpa using F20, by simpa using F21, by simpa using F22, by simpa using F23, by simpa using F24, by simpa using F25, by simpa using F26, by simpa using F27, by simpa using F28, by simpa using F29⟩
        · refine if_free rfl ?_
          have d0 := hdep ⟨0, .data⟩ (by simp) rfl
          have e0 := val_at (F0 d0)
          have hs23 : seen 23 = false := by { cases hq : seen 23 with | false => rfl | true => exact absurd (F27 hq) (by rw [hsi]; decide) }
          have hs25 : seen 25 = false := by { cases hq : seen 25 with | false => rfl | true => exact absurd ((fun h => F27 (F26 h)) hq) (by rw [hsi]; decide) }
          have hq := F29.q
          rw [hs25] at hq
          have cz : w9.cell? ⟨Y, 3, none⟩ = some v := cell_of_heap hq
          refine wp_value v (w' := w9) (by simp [execOp, e0, go_sem, cz, ql]) ⟨_, rfl, hb9, ?_⟩
          exact ⟨by simpa using F0, by simp, by simpa using F2, by simpa using F3, by simpa using F4, by simpa using F5, by simpa using F6, by simpa using F7, by simpa using F8, by simpa using F9, by simpa using F10, by simpa using F11, by simpa using F12, by simpa using F13, by simpa using F14, by simpa using F15, by simpa using F16, by simpa using F17, by simpa using F18, by simpa using F19, by simpa using F20, by simpa using F21, by simpa using F22, by simpa using F23, by simpa using F24, by simpa using F25, by simpa using F26, by simp, by simpa using F28, by simpa using F29⟩
        · refine if_free rfl ?_
          have x3 := val_at (hv 3 (by simp))
          simp [valsOf] at x3
          refine wp_value (.pointer (some ⟨X, 3, none⟩)) (w' := w9) (by simp [execOp, x3, go_sem, c0, c2, hXl, y0, ql, sx1, sx2, hiI, htd, htm, hwd0, hwd1, hwdm, w1', w2', w3', w4', hEV]) ⟨_, rfl, hb9, ?_⟩
          exact ⟨by simpa using F0, by simpa using F1, by simp, by simpa using F3, by simpa using F4, by simpa using F5, by simpa using F6, by simpa using F7, by simpa using F8, by simpa using F9, by simpa using F10, by simpa using F11, by simpa using F12, by simpa using F13, by simpa using F14, by simpa using F15, by simpa using F16, by simpa using F17, by simpa using F18, by simpa using F19, by simpa using F20, by simpa using F21, by simpa using F22, by simpa using F23, by simpa using F24, by simpa using F25, by simpa using F26, by simpa using F27, by simpa using F28, by simpa using F29⟩
        · refine if_free rfl ?_
          have d2 := hdep ⟨2, .data⟩ (by simp) rfl
          have e2 := val_at (F2 d2)
          refine wp_value (.slice (some ⟨bb, oo, none⟩) keep.length ck) (w' := w9) (by simp [execOp, e2, go_sem, c0, c2, hXl, y0, ql, sx1, sx2, hiI, htd, htm, hwd0, hwd1, hwdm, w1', w2', w3', w4', hEV]) ⟨_, rfl, hb9, ?_⟩
          exact ⟨by simpa using F0, by simpa using F1, by simpa using F2, by simp, by simpa using F4, by simpa using F5, by simpa using F6, by simpa using F7, by simpa using F8, by simpa using F9, by simpa using F10, by simpa using F11, by simpa using F12, by simpa using F13, by simpa using F14, by simpa using F15, by simpa using F16, by simpa using F17, by simpa using F18, by simpa using F19, by simpa using F20, by simpa using F21, by simpa using F22, by simpa using F23, by simpa using F24, by simpa using F25, by simpa using F26, by simpa using F27, by simpa using F28, by simpa using F29⟩
        · refine if_free rfl ?_
          have x9 := val_at (hv 9 (by simp))
          simp [valsOf] at x9
          refine wp_value (.int .i64 (i : Int)) (w' := w9) (by simp [execOp, x9, go_sem, c0, c2, hXl, y0, ql, sx1, sx2, hiI, htd, htm, hwd0, hwd1, hwdm, w1', w2', w3', w4', hEV]) ⟨_, rfl, hb9, ?_⟩
          exact ⟨by simpa using F0, by simpa using F1, by simpa using F2, by simpa using F3, by simp, by simpa using F5, by simpa using F6, by simpa using F7, by simpa using F8, by simpa using F9, by simpa using F10, by simpa using F11, by simpa using F12, by simpa using F13, by simpa using F14, by simpa using F15, by simpa using F16, by simpa using F17, by simpa using F18, by simpa using F19, by simpa using F20, by simpa using F21, by simpa using F22, by simpa using F23, by simpa using F24, by simpa using F25, by simpa using F26, by simpa using F27, by simpa using F28, by simpa using F29⟩
        · refine if_free rfl ?_
          have d3 := hdep ⟨3, .data⟩ (by simp) rfl
          have e3 := val_at (F3 d3)
          have d4 := hdep ⟨4, .data⟩ (by simp) rfl
          have e4 := val_at (F4 d4)
          refine wp_value (.pointer (some ⟨bb, oo + i, none⟩)) (w' := w9) (by simp [execOp, e3, e4, go_sem, c0, c2, hXl, y0, ql, sx1, sx2, hiI, htd, htm, hwd0, hwd1, hwdm, w1', w2', w3', w4', hEV]) ⟨_, rfl, hb9, ?_⟩
          exact ⟨by simpa using F0, by simpa using F1, by simpa using F2, by simpa using F3, by simpa using F4, by simp, by simpa using F6, by simpa using F7, by simpa using F8, by simpa using F9, by simpa using F10, by simpa using F11, by simpa using F12, by simpa using F13, by simpa using F14, by simpa using F15, by simpa using F16, by simpa using F17, by simpa using F18, by simpa using F19, by simpa using F20, by simpa using F21, by simpa using F22, by simpa using F23, by simpa using F24, by simpa using F25, by simpa using F26, by simpa using F27, by simpa using F28, by simpa using F29⟩
        · refine if_free rfl ?_
          have d5 := hdep ⟨5, .data⟩ (by simp) rfl
          have e5 := val_at (F5 d5)
          refine wp_value (.int .i64 c) (w' := w9) (by simp [execOp, e5, go_sem, c0, c2, hXl, y0, ql, sx1, sx2, hiI, htd, htm, hwd0, hwd1, hwdm, w1', w2', w3', w4', hEV]) ⟨_, rfl, hb9, ?_⟩
          exact ⟨by simpa using F0, by simpa using F1, by simpa using F2, by simpa using F3, by simpa using F4, by simpa using F5, by simp, by simpa using F7, by simpa using F8, by simpa using F9, by simpa using F10, by simpa using F11, by simpa using F12, by simpa using F13, by simpa using F14, by simpa using F15, by simpa using F16, by simpa using F17, by simpa using F18, by simpa using F19, by simpa using F20, by simpa using F21, by simpa using F22, by simpa using F23, by simpa using F24, by simpa using F25, by simpa using F26, by simpa using F27, by simpa using F28, by simpa using F29⟩
        · refine if_free rfl ?_
          have x3 := val_at (hv 3 (by simp))
          simp [valsOf] at x3
          refine wp_value (.pointer (some ⟨X, 0, none⟩)) (w' := w9) (by simp [execOp, x3, go_sem, c0, c2, hXl, y0, ql, sx1, sx2, hiI, htd, htm, hwd0, hwd1, hwdm, w1', w2', w3', w4', hEV]) ⟨_, rfl, hb9, ?_⟩
          exact ⟨by simpa using F0, by simpa using F1, by simpa using F2, by simpa using F3, by simpa using F4, by simpa using F5, by simpa using F6, by simp, by simpa using F8, by simpa using F9, by simpa using F10, by simpa using F11, by simpa using F12, by simpa using F13, by simpa using F14, by simpa using F15, by simpa using F16, by simpa using F17, by simpa using F18, by simpa using F19, by simpa using F20, by simpa using F21, by simpa using F22, by simpa using F23, by simpa using F24, by simpa using F25, by simpa using F26, by simpa using F27, by simpa using F28, by simpa using F29⟩
        · refine if_free rfl ?_
          have d7 := hdep ⟨7, .data⟩ (by simp) rfl
          have e7 := val_at (F7 d7)
          refine wp_value (.int .i64 wd) (w' := w9) (by simp [execOp, e7, go_sem, c0, c2, hXl, y0, ql, sx1, sx2, hiI, htd, htm, hwd0, hwd1, hwdm, w1', w2', w3', w4', hEV]) ⟨_, rfl, hb9, ?_⟩
          exact ⟨by simpa using F0, by simpa using F1, by simpa using F2, by simpa using F3, by simpa using F4, by simpa using F5, by simpa using F6, by simpa using F7, by simp, by simpa using F9, by simpa using F10, by simpa using F11, by simpa using F12, by simpa using F13, by simpa using F14, by simpa using F15, by simpa using F16, by simpa using F17, by simpa using F18, by simpa using F19, by simpa using F20, by simpa using F21, by simpa using F22, by simpa using F23, by simpa using F24, by simpa using F25, by simpa using F26, by simpa using F27, by simpa using F28, by simpa using F29⟩
        · refine if_free rfl ?_
          have d6 := hdep ⟨6, .data⟩ (by simp) rfl
          have e6 := val_at (F6 d6)
          have d8 := hdep ⟨8, .data⟩ (by simp) rfl
          have e8 := val_at (F8 d8)
          refine wp_value (.int .i64 qv) (w' := w9) (by simp [execOp, e6, e8, go_sem, c0, c2, hXl, y0, ql, sx1, sx2, hiI, htd, htm, hwd0, hwd1, hwdm, w1', w2', w3', w4', hEV]) ⟨_, rfl, hb9, ?_⟩
          exact ⟨by simpa using F0, by simpa using F1, by simpa using F2, by simpa using F3, by simpa using F4, by simpa using F5, by simpa using F6, by simpa using F7, by simpa using F8, by simp, by simpa using F10, by simpa using F11, by simpa using F12, by simpa using F13, by simpa using F14, by simpa using F15, by simpa using F16, by simpa using F17, by simpa using F18, by simpa using F19, by simpa using F20, by simpa using F21, by simpa using F22, by simpa using F23, by simpa using F24, by simpa using F25, by simpa using F26, by simpa using F27, by simpa using F28, by simpa using F29⟩
        · refine if_free rfl ?_
          have x7 := val_at (hv 7 (by simp))
          simp [valsOf] at x7
          refine wp_value (.pointer (some ⟨Y, 0, none⟩)) (w' := w9) (by simp [execOp, x7, go_sem, c0, c2, hXl, y0, ql, sx1, sx2, hiI, htd, htm, hwd0, hwd1, hwdm, w1', w2', w3', w4', hEV]) ⟨_, rfl, hb9, ?_⟩
          exact ⟨by simpa using F0, by simpa using F1, by simpa using F2, by simpa using F3, by simpa using F4, by simpa using F5, by simpa using F6, by simpa using F7, by simpa using F8, by simpa using F9, by simp, by simpa using F11, by simpa using F12, by simpa using F13, by simpa using F14, by simpa using F15, by simpa using F16, by simpa using F17, by simpa using F18, by simpa using F19, by simpa using F20, by simpa using F21, by simpa using F22, by simpa using F23, by simpa using F24, by simpa using F25, by simpa using F26, by simpa using F27, by simpa using F28, by simpa using F29⟩
        · refine if_free rfl ?_
          have d10 := hdep ⟨10, .data⟩ (by simp) rfl
          have e10 := val_at (F10 d10)
          refine wp_value (.int .i64 wd2) (w' := w9) (by simp [execOp, e10, go_sem, c0, c2, hXl, y0, ql, sx1, sx2, hiI, htd, htm, hwd0, hwd1, hwdm, w1', w2', w3', w4', hEV]) ⟨_, rfl, hb9, ?_⟩
          exact ⟨by simpa using F0, by simpa using F1, by simpa using F2, by simpa using F3, by simpa using F4, by simpa using F5, by simpa using F6, by simpa using F7, by simpa using F8, by simpa using F9, by simpa using F10, by simp, by simpa using F12, by simpa using F13, by simpa using F14, by simpa using F15, by simpa using F16, by simpa using F17, by simpa using F18, by simpa using F19, by simpa using F20, by simpa using F21, by simpa using F22, by simpa using F23, by simpa using F24, by simpa using F25, by simpa using F26, by simpa using F27, by simpa using F28, by simpa using F29⟩
        · refine if_free rfl ?_
          have d9 := hdep ⟨9, .data⟩ (by simp) rfl
          have e9 := val_at (F9 d9)
          have d11 := hdep ⟨11, .data⟩ (by simp) rfl
          have e11 := val_at (F11 d11)
          refine wp_value (.int .i64 (qv * wd2)) (w' := w9) (by simp [execOp, e9, e11, go_sem, c0, c2, hXl, y0, ql, sx1, sx2, hiI, htd, htm, hwd0, hwd1, hwdm, w1', w2', w3', w4', hEV]) ⟨_, rfl, hb9, ?_⟩
          exact ⟨by simpa using F0, by simpa using F1, by simpa using F2, by simpa using F3, by simpa using F4, by simpa using F5, by simpa using F6, by simpa using F7, by simpa using F8, by simpa using F9, by simpa using F10, by simpa using F11, by simp, by simpa using F13, by simpa using F14, by simpa using F15, by simpa using F16, by simpa using F17, by simpa using F18, by simpa using F19, by simpa using F20, by simpa using F21, by simpa using F22, by simpa using F23, by simpa using F24, by simpa using F25, by simpa using F26, by simpa using F27, by simpa using F28, by simpa using F29⟩
        · refine if_free rfl ?_
          have x3 := val_at (hv 3 (by simp))
          simp [valsOf] at x3
          refine wp_value (.pointer (some ⟨X, 3, none⟩)) (w' := w9) (by simp [execOp, x3, go_sem, c0, c2, hXl, y0, ql, sx1, sx2, hiI, htd, htm, hwd0, hwd1, hwdm, w1', w2', w3', w4', hEV]) ⟨_, rfl, hb9, ?_⟩
          exact ⟨by simpa using F0, by simpa using F1, by simpa using F2, by simpa using F3, by simpa using F4, by simpa using F5, by simpa using F6, by simpa using F7, by simpa using F8, by simpa using F9, by simpa using F10, by simpa using F11, by simpa using F12, by simp, by simpa using F14, by simpa using F15, by simpa using F16, by simpa using F17, by simpa using F18, by simpa using F19, by simpa using F20, by simpa using F21, by simpa using F22, by simpa using F23, by simpa using F24, by simpa using F25, by simpa using F26, by simpa using F27, by simpa using F28, by simpa using F29⟩
        · refine if_free rfl ?_
          have d13 := hdep ⟨13, .data⟩ (by simp) rfl
          have e13 := val_at (F13 d13)
          refine wp_value (.slice (some ⟨bb, oo, none⟩) keep.length ck) (w' := w9) (by simp [execOp, e13, go_sem, c0, c2, hXl, y0, ql, sx1, sx2, hiI, htd, htm, hwd0, hwd1, hwdm, w1', w2', w3', w4', hEV]) ⟨_, rfl, hb9, ?_⟩
          exact ⟨by simpa using F0, by simpa using F1, by simpa using F2, by simpa using F3, by simpa using F4, by simpa using F5, by simpa using F6, by simpa using F7, by simpa using F8, by simpa using F9, by simpa using F10, by simpa using F11, by simpa using F12, by simpa using F13, by simp, by simpa using F15, by simpa using F16, by simpa using F17, by simpa using F18, by simpa using F19, by simpa using F20, by simpa using F21, by simpa using F22, by simpa using F23, by simpa using F24, by simpa using F25, by simpa using F26, by simpa using F27, by simpa using F28, by simpa using F29⟩
        · refine if_free rfl ?_
          have x9 := val_at (hv 9 (by simp))
          simp [valsOf] at x9
          refine wp_value (.int .i64 (i : Int)) (w' := w9) (by simp [execOp, x9, go_sem, c0, c2, hXl, y0, ql, sx1, sx2, hiI, htd, htm, hwd0, hwd1, hwdm, w1', w2', w3', w4', hEV]) ⟨_, rfl, hb9, ?_⟩
          exact ⟨by simpa using F0, by simpa using F1, by simpa using F2, by simpa using F3, by simpa using F4, by simpa using F5, by simpa using F6, by simpa using F7, by simpa using F8, by simpa using F9, by simpa using F10, by simpa using F11, by simpa using F12, by simpa using F13, by simpa using F14, by simp, by simpa using F16, by simpa using F17, by simpa using F18, by simpa using F19, by simpa using F20, by simpa using F21, by simpa using F22, by simpa using F23, by simpa using F24, by simpa using F25, by simpa using F26, by simpa using F27, by simpa using F28, by simpa using F29⟩
        · refine if_free rfl ?_
          have d14 := hdep ⟨14, .data⟩ (by simp) rfl
          have e14 := val_at (F14 d14)
          have d15 := hdep ⟨15, .data⟩ (by simp) rfl
          have e15 := val_at (F15 d15)
          refine wp_value (.pointer (some ⟨bb, oo + i, none⟩)) (w' := w9) (by simp [execOp, e14, e15, go_sem, c0, c2, hXl, y0, ql, sx1, sx2, hiI, htd, htm, hwd0, hwd1, hwdm, w1', w2', w3', w4', hEV]) ⟨_, rfl, hb9, ?_⟩
          exact ⟨by simpa using F0, by simpa using F1, by simpa using F2, by simpa using F3, by simpa using F4, by simpa using F5, by simpa using F6, by simpa using F7, by simpa using F8, by simpa using F9, by simpa using F10, by simpa using F11, by simpa using F12, by simpa using F13, by simpa using F14, by simpa using F15, by simp, by simpa using F17, by simpa using F18, by simpa using F19, by simpa using F20, by simpa using F21, by simpa using F22, by simpa using F23, by simpa using F24, by simpa using F25, by simpa using F26, by simpa using F27, by simpa using F28, by simpa using F29⟩
        · refine if_free rfl ?_
          have d16 := hdep ⟨16, .data⟩ (by simp) rfl
          have e16 := val_at (F16 d16)
          refine wp_value (.int .i64 c) (w' := w9) (by simp [execOp, e16, go_sem, c0, c2, hXl, y0, ql, sx1, sx2, hiI, htd, htm, hwd0, hwd1, hwdm, w1', w2', w3', w4', hEV]) ⟨_, rfl, hb9, ?_⟩
          exact ⟨by simpa using F0, by simpa using F1, by simpa using F2, by simpa using F3, by simpa using F4, by simpa using F5, by simpa using F6, by simpa using F7, by simpa using F8, by simpa using F9, by simpa using F10, by simpa using F11, by simpa using F12, by simpa using F13, by simpa using F14, by simpa using F15, by simpa using F16, by simp, by simpa using F18, by simpa using F19, by simpa using F20, by simpa using F21, by simpa using F22, by simpa using F23, by simpa using F24, by simpa using F25, by simpa using F26, by simpa using F27, by simpa using F28, by simpa using F29⟩
        · refine if_free rfl ?_
          have x3 := val_at (hv 3 (by simp))
          simp [valsOf] at x3
          refine wp_value (.pointer (some ⟨X, 0, none⟩)) (w' := w9) (by simp [execOp, x3, go_sem, c0, c2, hXl, y0, ql, sx1, sx2, hiI, htd, htm, hwd0, hwd1, hwdm, w1', w2', w3', w4', hEV]) ⟨_, rfl, hb9, ?_⟩
          exact ⟨by simpa using F0, by simpa using F1, by simpa using F2, by simpa using F3, by simpa using F4, by simpa using F5, by simpa using F6, by simpa using F7, by simpa using F8, by simpa using F9, by simpa using F10, by simpa using F11, by simpa using F12, by simpa using F13, by simpa using F14, by simpa using F15, by simpa using F16, by simpa using F17, by simp, by simpa using F19, by simpa using F20, by simpa using F21, by simpa using F22, by simpa using F23, by simpa using F24, by simpa using F25, by simpa using F26, by simpa using F27, by simpa using F28, by simpa using F29⟩
        · refine if_free rfl ?_
          have d18 := hdep ⟨18, .data⟩ (by simp) rfl
          have e18 := val_at (F18 d18)
          refine wp_value (.int .i64 wd) (w' := w9) (by simp [execOp, e18, go_sem, c0, c2, hXl, y0, ql, sx1, sx2, hiI, htd, htm, hwd0, hwd1, hwdm, w1', w2', w3', w4', hEV]) ⟨_, rfl, hb9, ?_⟩
          exact ⟨by simpa using F0, by simpa using F1, by simpa using F2, by simpa using F3, by simpa using F4, by simpa using F5, by simpa using F6, by simpa using F7, by simpa using F8, by simpa using F9, by simpa using F10, by simpa using F11, by simpa using F12, by simpa using F13, by simpa using F14, by simpa using F15, by simpa using F16, by simpa using F17, by simpa using F18, by simp, by simpa using F20, by simpa using F21, by simpa using F22, by simpa using F23, by simpa using F24, by simpa using F25, by simpa using F26, by simpa using F27, by simpa using F28, by simpa using F29⟩
        · refine if_free rfl ?_
          have d17 := hdep ⟨17, .data⟩ (by simp) rfl
          have e17 := val_at (F17 d17)
          have d19 := hdep ⟨19, .data⟩ (by simp) rfl
          have e19 := val_at (F19 d19)
          refine wp_value (.int .i64 rv) (w' := w9) (by simp [execOp, e17, e19, go_sem, c0, c2, hXl, y0, ql, sx1, sx2, hiI, htd, htm, hwd0, hwd1, hwdm, w1', w2', w3', w4', hEV]) ⟨_, rfl, hb9, ?_⟩
          exact ⟨by simpa using F0, by simpa using F1, by simpa using F2, by simpa using F3, by simpa using F4, by simpa using F5, by simpa using F6, by simpa using F7, by simpa using F8, by simpa using F9, by simpa using F10, by simpa using F11, by simpa using F12, by simpa using F13, by simpa using F14, by simpa using F15, by simpa using F16, by simpa using F17, by simpa using F18, by simpa using F19, by simp, by simpa using F21, by simpa using F22, by simpa using F23, by simpa using F24, by simpa using F25, by simpa using F26, by simpa using F27, by simpa using F28, by simpa using F29⟩
        · refine if_free rfl ?_
          have d12 := hdep ⟨12, .data⟩ (by simp) rfl
          have e12 := val_at (F12 d12)
          have d20 := hdep ⟨20, .data⟩ (by simp) rfl
          have e20 := val_at (F20 d20)
          refine wp_value (.int .i64 EV) (w' := w9) (by simp [execOp, e12, e20, go_sem, c0, c2, hXl, y0, ql, sx1, sx2, hiI, htd, htm, hwd0, hwd1, hwdm, w1', w2', w3', w4', hEV]) ⟨_, rfl, hb9, ?_⟩
          exact ⟨by simpa using F0, by simpa using F1, by simpa using F2, by simpa using F3, by simpa using F4, by simpa using F5, by simpa using F6, by simpa using F7, by simpa using F8, by simpa using F9, by simpa using F10, by simpa using F11, by simpa using F12, by simpa using F13, by simpa using F14, by simpa using F15, by simpa using F16, by simpa using F17, by simpa using F18, by simpa using F19, by simpa using F20, by simp, by simpa using F22, by simpa using F23, by simpa using F24, by simpa using F25, by simpa using F26, by simpa using F27, by simpa using F28, by simpa using F29⟩
        · refine if_free rfl ?_
          have d21 := hdep ⟨21, .data⟩ (by simp) rfl
          have e21 := val_at (F21 d21)
          have hg : Below w9.heap.size w9 (w9.alloc (.cells #[.int .i64 EV] 3)) := bl_alloc (bl_refl _) _
          refine wp_value (.slice (some ⟨w9.heap.size, 0, none⟩) 1 1) (w' := w9.alloc (.cells #[.int .i64 EV] 3)) (by simp [execOp, e21, go_sem]) ⟨_, rfl, bl_trans hb9 hg, ?_⟩
          have hn : Row1 (w9.alloc (.cells #[.int .i64 EV] 3)) (.slice (some ⟨w9.heap.size, 0, none⟩) 1 1) (.int .i64 EV) := ⟨_, rfl, World.alloc_heap_new _ _⟩
          exact ⟨by simpa using F0, by simpa using F1, by simpa using F2, by simpa using F3, by simpa using F4, by simpa using F5, by simpa using F6, by simpa using F7, by simpa using F8, by simpa using F9, by simpa using F10, by simpa using F11, by simpa using F12, by simpa using F13, by simpa using F14, by simpa using F15, by simpa using F16, by simpa using F17, by simpa using F18, by simpa using F19, by simpa using F20, by simpa using F21, by simpa using fun _ => hn, by simpa using F23, by simpa using F24, by simpa using F25, by simpa using F26, by simpa using F27, by simpa using F28, by simpa using F29.mono hg⟩
        · refine if_free rfl ?_
          have d1 := hdep ⟨1, .data⟩ (by simp) rfl
          have e1 := val_at (F1 d1)
          have d22 := hdep ⟨22, .data⟩ (by simp) rfl
          have hs25 : seen 25 = false := by { cases hq : seen 25 with | false => rfl | true => exact absurd (F26 hq) (by rw [hsi]; decide) }
          obtain ⟨g7, r7, hh7⟩ := F22 d22 hsi
          have e7 := val_at r7
          have FM' := F29
          rw [hsi, hs25] at FM'
          obtain ⟨A9, c9, w10, hrun, hm, hgrow⟩ := FM'.app (by decide) rfl hi70 (cell_of_heap hh7)
          have own9 := FM'.a rfl
          have hb10 := bl_grown hb9 own9 hwb hgrow
          refine wp_append_run _ _ 22 rfl _ _ (.slice A9 (i + 1) c9) w10 (by simp [go_sem, e1]) (by simp [go_sem, e7]) hrun ⟨_, rfl, hb10, ?_⟩
          exact ⟨by simpa using F0, by simpa using F1, by simpa using F2, by simpa using F3, by simpa using F4, by simpa using F5, by simpa using F6, by simpa using F7, by simpa using F8, by simpa using F9, by simpa using F10, by simpa using F11, by simpa using F12, by simpa using F13, by simpa using F14, by simpa using F15, by simpa using F16, by simpa using F17, by simpa using F18, by simpa using F19, by simpa using F20, by simpa using F21, by simp, by simp, by simpa using F24, by simpa using F25, by simp, by simpa using d1, by simp, by simpa [hs25] using hm⟩
        · refine if_free rfl ?_
          have x7 := val_at (hv 7 (by simp))
          simp [valsOf] at x7
          refine wp_value (.pointer (some ⟨Y, 3, none⟩)) (w' := w9) (by simp [execOp, x7, go_sem, c0, c2, hXl, y0, ql, sx1, sx2, hiI, htd, htm, hwd0, hwd1, hwdm, w1', w2', w3', w4', hEV]) ⟨_, rfl, hb9, ?_⟩
          exact ⟨by simpa using F0, by simpa using F1, by simpa using F2, by simpa using F3, by simpa using F4, by simpa using F5, by simpa using F6, by simpa using F7, by simpa using F8, by simpa using F9, by simpa using F10, by simpa using F11, by simpa using F12, by simpa using F13, by simpa using F14, by simpa using F15, by simpa using F16, by simpa using F17, by simpa using F18, by simpa using F19, by simpa using F20, by simpa using F21, by simpa using F22, by simpa using F23, by simp, by simpa using F25, by simpa using F26, by simpa using F27, by simpa using F28, by simpa using F29⟩
        · refine if_free rfl ?_
          have d24 := hdep ⟨24, .data⟩ (by simp) rfl
          have e24 := val_at (F24 d24)
          have d23 := hdep ⟨23, .data⟩ (by simp) rfl
          obtain ⟨⟨A8, c8, hu⟩, ho8⟩ := F29.b d23
          have e8 := val_at hu
          have FM' := F29
          rw [hsi, d23] at FM'
          have hq9 := FM'.q
          have cz : w9.cell? ⟨Y, 3, none⟩ = some v := cell_of_heap hq9
          have fz : w9.frozen? ⟨Y, 3, none⟩ = false := frozen_of_heap hq9
          have hm := FM'.put (by decide) hXY 3 (by rw [heap_setCell_same _ _ _ _ _ _ hq9]; rfl)
          have hb10 := bl_set hb9 (valsOf a' 95) (b := Y) (o := 3) hwY
          rw [hu] at hm hb10
          refine wp_effect (w' := w9.setCell ⟨Y, 3, none⟩ (.slice A8 (i + 1) c8)) (by simp [execOp, e24, e8, go_sem, cz, fz, ql]) ⟨_, rfl, hb10, ?_⟩
          exact ⟨by simpa using F0, by simpa using F1, by simpa using F2, by simpa using F3, by simpa using F4, by simpa using F5, by simpa using F6, by simpa using F7, by simpa using F8, by simpa using F9, by simpa using F10, by simpa using F11, by simpa using F12, by simpa using F13, by simpa using F14, by simpa using F15, by simpa using F16, by simpa using F17, by simpa using F18, by simpa using F19, by simpa using F20, by simpa using F21, by simp [d23], by simpa using F23, by simpa using F24, by simp, by simpa using d23, by simpa using F27, by simpa using F28, by simpa [d23, hu] using hm⟩
      intro u w5 hb5 seen hall ⟨F0, F1, F2, F3, F4, F5, F6, F7, F8, F9, F10, F11, F12, F13, F14, F15, F16, F17, F18, F19, F20, F21, F22, F23, F24, F25, F26, F27, F28, F29⟩
      replace F0 := F0 (hall 0 (by decide))
      replace F1 := F1 (hall 1 (by decide))
      replace F2 := F2 (hall 2 (by decide))
      replace F3 := F3 (hall 3 (by decide))
      replace F4 := F4 (hall 4 (by decide))
      replace F5 := F5 (hall 5 (by decide))
      replace F6 := F6 (hall 6 (by decide))
      replace F7 := F7 (hall 7 (by decide))
      replace F8 := F8 (hall 8 (by decide))
      replace F9 := F9 (hall 9 (by decide))
      replace F10 := F10 (hall 10 (by decide))
      replace F11 := F11 (hall 11 (by decide))
      replace F12 := F12 (hall 12 (by decide))
      replace F13 := F13 (hall 13 (by decide))
      replace F14 := F14 (hall 14 (by decide))
      replace F15 := F15 (hall 15 (by decide))
      replace F16 := F16 (hall 16 (by decide))
      replace F17 := F17 (hall 17 (by decide))
      replace F18 := F18 (hall 18 (by decide))
      replace F19 := F19 (hall 19 (by decide))
      replace F20 := F20 (hall 20 (by decide))
      replace F21 := F21 (hall 21 (by decide))
      replace F22 := F22 (hall 22 (by decide))
      replace F23 := F23 (hall 23 (by decide))
      replace F24 := F24 (hall 24 (by decide))
      replace F25 := F25 (hall 25 (by decide))
      rw [hall 23 (by decide), hall 25 (by decide)] at F29
      have FZ := F29
      obtain ⟨⟨A5, c5, hu⟩, ho5⟩ := FZ.b rfl
      have hq5 := FZ.q
      have hnb5 := FZ.nb rfl
      rw [if_pos rfl, hu] at hq5
      rw [hu] at ho5 hnb5
      have hx5 := FZ.x
      have hoo5 := FZ.o
      have hbs5 := FZ.bs
      rw [← HTK.out] at ho5
      have HQ5 := hid hq5
      have HO5 := hid ho5
      have HN5 := hid hnb5
      have HX5 := hid hx5
      have HOO5 := hid hoo5
      have HBS5 := hid hbs5
      have HB5 := hid hb5
      simp only [setAll]
      clear FZ hall hu ho5 hnb5 hq5 hx5 hoo5 hbs5 hb5 F0 F1 F2 F3 F4 F5 F6 F7 F8 F9 F10 F11 F12 F13 F14 F15 F16 F17 F18 F19 F20 F21 F22 F23 F24 F25 F26 F27 F28 F29 seen HPF HTK HBr HCY HBB HMU HSX htd htm hwd0 hwd1 hwdm w1' w2' w3' w4' hEV
      generalize u 72 = u72
      generalize u 73 = u73
      generalize u 74 = u74
      generalize u 75 = u75
      generalize u 76 = u76
      generalize u 77 = u77
      generalize u 78 = u78
      generalize u 79 = u79
      generalize u 80 = u80
      generalize u 81 = u81
      generalize u 82 = u82
      generalize u 83 = u83
      generalize u 84 = u84
      generalize u 85 = u85
      generalize u 86 = u86
      generalize u 87 = u87
      generalize u 88 = u88
      generalize u 89 = u89
      generalize u 90 = u90
      generalize u 91 = u91
      generalize u 92 = u92
      generalize u 93 = u93
      generalize u 94 = u94
      generalize u 95 = u95
      generalize u 96 = u96
      go_wp2
      go_roundw
      case rel => exact ⟨i + 1, _, by omega, by go_num, HX5.out, HQ5.out, HO5.out, HOO5.out, HN5.out, HB5.out, HBS5.out⟩
      case measure => simp [intOf]; omega
    obtain rfl : i = keep.length := by omega
    clear HX2 HQ2 HO2 HB2 HBS2
    obtain ⟨w10, rfl⟩ : ∃ W, W = wr := ⟨_, rfl⟩
    obtain ⟨A2, n2, hv2⟩ := own_slice hown
    subst hv2
    obtain ⟨hpq, hle, hpos⟩ := wide_known HWI.out HV.out
    obtain ⟨QW, hQW⟩ : ∃ l, want.map (tau wd wd2) = l := ⟨_, rfl⟩
    obtain ⟨QK, hQK⟩ : ∃ l, keep.map (tau wd wd2) = l := ⟨_, rfl⟩
    have hqwl : QW.length = want.length := by rw [← hQW]; simp
    have hqkl : QK.length = keep.length := by rw [← hQK]; simp
    rw [List.take_length, hQW] at ho
    rw [List.take_length, hQK] at hown
    rw [hQW, hQK] at hpq hle hpos
    obtain ⟨MP, hMP⟩ : ∃ m : Int, ((raft wd hg want keep).2 : Int) = m := ⟨_, rfl⟩
    obtain ⟨MQ, hMQ⟩ : ∃ m : Int, ((raft wd2 hg2 QW QK).2 : Int) = m := ⟨_, rfl⟩
    rw [hMP, hMQ] at hle
    rw [hMQ] at hpos
    have HF1 := hid (show fewestV wd hg want keep = MP by unfold fewestV; rw [if_pos HP.out, hMP])
    have HF2 := hid (show fewestV wd2 hg2 QW QK = MQ by unfold fewestV; rw [if_pos hpq, hMQ])
    have HPQ := hid hpq
    have HX_10 := hid hx
    have HY_10 := hid hq
    have HW_10 := hid (HW0.out.mono hB)
    have HK_10 := hid (HK0.out.mono hB)
    have HQ_10 := hid (ints_own (l := QW) hqwl ho)
    have HR_10 := hid (ints_own (l := QK) hqkl hown)
    have HB10 := hid hB
    have t1 : decide (MQ ≤ MP) = true := decide_eq_true hle
    have t2 : (decide (0 < MQ) == decide ((0 : Int) < (want.length : Int))) = true := by
      by_cases h0 : 0 < want.length
      · rw [decide_eq_true (hpos.2 h0), decide_eq_true (by omega)]; rfl
      · rw [decide_eq_false (fun h => h0 (hpos.1 h)), decide_eq_false (by omega)]; rfl
    clear q0 q1 q2 q3 qql hx hq hown ho hne hB hbs hlt hle hMP hMQ hpq hQW hQK
    have sX0 : w10.cell? ⟨X, 0, none⟩ = some (.int .i64 wd) := cell_of_heap HX_10.out
    have sX1 : w10.cell? ⟨X, 1, none⟩ = some (.int .i64 hg) := cell_of_heap HX_10.out
    have sX2 : w10.cell? ⟨X, 2, none⟩ = some (.slice A want.length ca) := cell_of_heap HX_10.out
    have sX3 : w10.cell? ⟨X, 3, none⟩ = some (.slice Bk keep.length ck) := cell_of_heap HX_10.out
    have slX := (Array.getElem?_eq_some_iff.1 HX_10.out).1
    have hcall := fewest_any (wd := wd) (hg := hg) (want := want) (keep := keep) w10 (by omega) (by omega) HW_10.out HK_10.out
    rw [HF1.out, HP.out] at hcall
    go_wp2_with fail
    refine hcall.mono ?_
    rintro e w11 ⟨rfl, hb11⟩
    clear hcall sX0 sX1 sX2 sX3 slX
    have HX_11 := hid (heap_mono HX_10.out hb11)
    have HY_11 := hid (heap_mono HY_10.out hb11)
    have HW_11 := hid (HW_10.out.mono hb11)
    have HK_11 := hid (HK_10.out.mono hb11)
    have HQ_11 := hid (HQ_10.out.mono hb11)
    have HR_11 := hid (HR_10.out.mono hb11)
    have HB11 := hid (bl_trans HB10.out hb11)
    clear HX_10 HY_10 HW_10 HK_10 HQ_10 HR_10
    clear hb11
    have sY0 : w11.cell? ⟨Y, 0, none⟩ = some (.int .i64 wd2) := cell_of_heap HY_11.out
    have sY1 : w11.cell? ⟨Y, 1, none⟩ = some (.int .i64 hg2) := cell_of_heap HY_11.out
    have sY2 : w11.cell? ⟨Y, 2, none⟩ = some (.slice A1 want.length n1) := cell_of_heap HY_11.out
    have sY3 : w11.cell? ⟨Y, 3, none⟩ = some (.slice A2 keep.length n2) := cell_of_heap HY_11.out
    have slY := (Array.getElem?_eq_some_iff.1 HY_11.out).1
    have hcall := fewest_any (wd := wd2) (hg := hg2) (want := QW) (keep := QK) w11 (by omega) (by omega) HQ_11.out HR_11.out
    rw [HF2.out, HPQ.out] at hcall
    go_wp2_with fail
    refine hcall.mono ?_
    rintro e w12 ⟨rfl, hb12⟩
    clear hcall sY0 sY1 sY2 sY3 slY
    have HX_12 := hid (heap_mono HX_11.out hb12)
    have HY_12 := hid (heap_mono HY_11.out hb12)
    have HW_12 := hid (HW_11.out.mono hb12)
    have HK_12 := hid (HK_11.out.mono hb12)
    have HQ_12 := hid (HQ_11.out.mono hb12)
    have HR_12 := hid (HR_11.out.mono hb12)
    have HB12 := hid (bl_trans HB11.out hb12)
    clear HX_11 HY_11 HW_11 HK_11 HQ_11 HR_11
    clear hb12
    have sX0 : w12.cell? ⟨X, 0, none⟩ = some (.int .i64 wd) := cell_of_heap HX_12.out
    have sX1 : w12.cell? ⟨X, 1, none⟩ = some (.int .i64 hg) := cell_of_heap HX_12.out
    have sX2 : w12.cell? ⟨X, 2, none⟩ = some (.slice A want.length ca) := cell_of_heap HX_12.out
    have sX3 : w12.cell? ⟨X, 3, none⟩ = some (.slice Bk keep.length ck) := cell_of_heap HX_12.out
    have slX := (Array.getElem?_eq_some_iff.1 HX_12.out).1
    have hworks := works_any w12
    go_wp2_with fail
    refine hworks.mono ?_
    rintro e wz ⟨rfl, hbz⟩
    clear hworks
    go_wp2
    go_ret
    exact ⟨rfl, bl_trans HB12.out hbz⟩

end Go.Proofs.Ytlkoadcbolkhoaa
