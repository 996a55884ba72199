/- BoomBetween: what is known, and the law's walk. -/
import Derived.Test.YtlkoadcbolkhoaaPuti
import Derived.Test.YtlkoadcbolkhoaaLawt
set_option linter.all false
namespace Go.Proofs.Ytlkoadcbolkhoaa
open Go Go.RowKit Go.Proofs
attribute [local go_sem] cell_grow frozen_grow

/-- The cells of a list that lie in another, or whose bit is set. -/
def betF (bt : Int) (S L : List Int) : Nat → List Int
  | 0 => []
  | i + 1 => match L[i]? with
    | some c => if (bitB bt (i : Int) || S.contains c) = true then betF bt S L i ++ [c] else betF bt S L i
    | none => betF bt S L i
section
variable {bt : Int} {S L : List Int}
theorem betF_yes {i : Nat} {c : Int} (h : L[i]? = some c) (hb : (bitB bt (i : Int) || S.contains c) = true) : betF bt S L (i + 1) = betF bt S L i ++ [c] := by
  rw [betF, h]
  simp only
  rw [if_pos hb]
theorem betF_no {i : Nat} {c : Int} (h : L[i]? = some c) (hb : (bitB bt (i : Int) || S.contains c) = false) : betF bt S L (i + 1) = betF bt S L i := by
  rw [betF, h]
  simp only
  rw [if_neg (by rw [hb]; decide)]
theorem betF_len (bt : Int) (S L : List Int) : ∀ i, (betF bt S L i).length ≤ i
  | 0 => Nat.le_refl _
  | i + 1 => by
    have ih := betF_len bt S L i
    rw [betF]
    split
    · split
      · rw [List.length_append]; simp; omega
      · omega
    · omega
theorem betF_sub : ∀ i, (betF bt S L i).Sublist (L.take i)
  | 0 => by simp [betF]
  | i + 1 => by
    have ih := betF_sub i
    have hx : (L.take i).Sublist (L.take (i + 1)) := by
      have h := List.take_sublist i (L.take (i + 1))
      rwa [List.take_take, Nat.min_eq_left (by omega)] at h
    cases hc : L[i]? with
    | none => rw [betF, hc]; exact ih.trans hx
    | some c =>
      cases hb : (bitB bt (i : Int) || S.contains c) with
      | true =>
        obtain ⟨hlt, he⟩ := List.getElem?_eq_some_iff.1 hc
        rw [betF_yes hc hb, List.take_succ_eq_append_getElem hlt, he]
        exact ih.append_right _
      | false => rw [betF_no hc hb]; exact ih.trans hx
theorem betF_low {x : Int} (hS : S.contains x = true) : ∀ i j, j < i → L[j]? = some x → x ∈ betF bt S L i
  | 0, _, h, _ => by omega
  | i + 1, j, h, hj => by
    by_cases e : j = i
    · subst e
      rw [betF_yes hj (by rw [hS, Bool.or_true])]
      simp
    · have ih := betF_low hS i j (by omega) hj
      rw [betF]
      split
      · split
        · exact List.mem_append_left _ ih
        · exact ih
      · exact ih
end
theorem listB_low {N : Int} : ∀ {l : List Int} {k k' : Int}, k' ≤ k → listB N k l = true → listB N k' l = true
  | [], _, _, _, _ => rfl
  | x :: l, k, k', hk, h => by
    simp only [listB, Bool.and_eq_true, decide_eq_true_eq] at h ⊢
    exact ⟨⟨by omega, h.1.2⟩, h.2⟩
theorem listB_sub {N : Int} {l' l : List Int} (hs : l'.Sublist l) : ∀ {k : Int}, listB N k l = true → listB N k l' = true := by
  induction hs with
  | slnil => intro k h; exact h
  | cons x hs ih =>
    intro k h
    simp only [listB, Bool.and_eq_true, decide_eq_true_eq] at h
    exact listB_low (by omega) (ih h.2)
  | cons_cons x hs ih =>
    intro k h
    simp only [listB, Bool.and_eq_true, decide_eq_true_eq] at h ⊢
    exact ⟨h.1, ih h.2⟩
theorem between_tight {wd hg : Int} {want keep X : List Int} (hp : pondE wd hg want keep = 0) (hX : listB (wd * hg) 0 X = true) (he : enclX want keep fun c => X.contains c) :
    sticksE wd hg want keep X = 0 ∧ ((raft wd hg want keep).2 : Int) ≤ sticksV wd hg want keep X ∧ (sticksV wd hg want keep X = ((raft wd hg want keep).2 : Int) → ((smallL wd hg want keep).all fun c => X.contains c) = true ∧ (X.all fun c => (largeL wd hg want keep).contains c) = true) := by
  have hV := pond_valid hp
  have hb := best_known hV
  obtain ⟨e1, e2⟩ := sticks_of hp hX he
  rw [e2]
  exact ⟨e1, hb.least _ he, fun ht => ⟨all_in (small_list hV) (hb.lo _ he ht), all_in hX (hb.hi _ he ht)⟩⟩
theorem between_known {wd hg : Int} {want keep : List Int} (hp : pondE wd hg want keep = 0) (bt : Int) :
    ((smallL wd hg want keep).all fun c => (largeL wd hg want keep).contains c) = true ∧ True ∧
    (sticksE wd hg want keep (waterL wd hg want keep bt) = 0 ∧ ((raft wd hg want keep).2 : Int) ≤ sticksV wd hg want keep (waterL wd hg want keep bt) ∧ (sticksV wd hg want keep (waterL wd hg want keep bt) = ((raft wd hg want keep).2 : Int) → ((smallL wd hg want keep).all fun c => (waterL wd hg want keep bt).contains c) = true ∧ ((waterL wd hg want keep bt).all fun c => (largeL wd hg want keep).contains c) = true)) ∧
    (sticksE wd hg want keep (betF bt (smallL wd hg want keep) (largeL wd hg want keep) (largeL wd hg want keep).length) = 0 ∧ ((raft wd hg want keep).2 : Int) ≤ sticksV wd hg want keep (betF bt (smallL wd hg want keep) (largeL wd hg want keep) (largeL wd hg want keep).length) ∧ (sticksV wd hg want keep (betF bt (smallL wd hg want keep) (largeL wd hg want keep) (largeL wd hg want keep).length) = ((raft wd hg want keep).2 : Int) → ((smallL wd hg want keep).all fun c => (betF bt (smallL wd hg want keep) (largeL wd hg want keep) (largeL wd hg want keep).length).contains c) = true ∧ ((betF bt (smallL wd hg want keep) (largeL wd hg want keep) (largeL wd hg want keep).length).all fun c => (largeL wd hg want keep).contains c) = true)) ∧
    (∀ c, 0 ≤ c ∧ c < wd * hg → kindErr wd hg want keep c = 0 ∧ ((smallL wd hg want keep).contains c = true → kindV wd hg want keep c = 2 ∧ (largeL wd hg want keep).contains c = true) ∧ (((smallL wd hg want keep).contains c = false → (largeL wd hg want keep).contains c = true → kindV wd hg want keep c = 1) ∧ ((smallL wd hg want keep).contains c = false → (largeL wd hg want keep).contains c = false → kindV wd hg want keep c = 0))) := by
  have hV := pond_valid hp
  have hb := best_known hV
  have hSL : ∀ c, inP wd hg c → (smallL wd hg want keep).contains c = true → (largeL wd hg want keep).contains c = true := fun c hc h => hb.lo _ hb.l hb.ml c hc h
  have hwk := water_known (want := want) (keep := keep) hV bt
  refine ⟨all_in (small_list hV) hSL, trivial, between_tight hp hwk.1 hwk.2.1, ?_, fun c hc => ?_⟩
  · have hsub := betF_sub (bt := bt) (S := smallL wd hg want keep) (L := largeL wd hg want keep) (largeL wd hg want keep).length
    rw [List.take_length] at hsub
    refine between_tight hp (listB_sub hsub (large_list hV)) ⟨fun c hc => ?_, fun c hc => ?_⟩
    · have hs := hb.s.1 c hc
      have hl := hb.l.1 c hc
      dsimp only at hs hl ⊢
      rw [List.contains_iff_mem] at hl ⊢
      obtain ⟨j, hj⟩ := List.mem_iff_getElem?.1 hl
      exact betF_low hs _ j (List.getElem?_eq_some_iff.1 hj).1 hj
    · have hl := hb.l.2 c hc
      dsimp only at hl ⊢
      cases hq : (betF bt (smallL wd hg want keep) (largeL wd hg want keep) (largeL wd hg want keep).length).contains c with
      | false => rfl
      | true =>
        rw [List.contains_iff_mem] at hq
        rw [List.contains_iff_mem.2 (hsub.subset hq)] at hl
        exact hl
  · have he : kindErr wd hg want keep c = 0 := by unfold kindErr; rw [if_neg (by simp [hp]), if_pos ⟨hc.1, by omega⟩]
    refine ⟨he, fun h => ⟨?_, hSL c hc h⟩, fun h1 h2 => ?_, fun h1 h2 => ?_⟩ <;> unfold kindV kindE <;> rw [if_pos he]
    · rw [if_pos h]
    · rw [if_neg (by rw [h1]; decide), if_pos h2]
    · rw [if_neg (by rw [h1]; decide), if_neg (by rw [h2]; decide)]
set_option maxRecDepth 100000 in
set_option maxHeartbeats 16000000 in
theorem boomBetween_any (wd hg : Int) (sw sk : Value) (want keep : List Int) (btw cellw : Int) (w : World) (hw : Ints w sw want) (hk : Ints w sk keep) (hbt : 0 ≤ btw ∧ btw < 18446744073709551616) (hcw : 0 ≤ cellw ∧ cellw < 256) :
    Calls Try.prog 9 #[.agg #[.int .i64 wd, .int .i64 hg, sw, sk], .int .u64 btw, .int .u8 cellw] w fun e w' => e = .returned (.bool true) ∧ Below w.heap.size w w' := by
  obtain ⟨A, ca, rfl⟩ := hw.slice
  obtain ⟨Bk, ck, rfl⟩ := hk.slice
  obtain ⟨fb, hfb⟩ : ∃ b, fineB wd hg want keep = b := ⟨_, rfl⟩
  have HFB := hid hfb
  clear hfb
  have HX_0 := hid (World.alloc_heap_new w (.cells #[.int .i64 wd, .int .i64 hg, .slice A want.length ca, .slice Bk keep.length ck] 24))
  have hb0 := bl_alloc (bl_refl w) (.cells #[.int .i64 wd, .int .i64 hg, .slice A want.length ca, .slice Bk keep.length ck] 24)
  have HB0 := hid hb0
  have HW_0 := hid (hw.mono hb0)
  have HK_0 := hid (hk.mono hb0)
  clear hb0 hw hk
  go_enter Try.func9, Try.ntmps9
  go_upto_region 1 with (fail)
  obtain ⟨w0, hw0⟩ : ∃ w0, w.alloc (.cells #[.int .i64 wd, .int .i64 hg, .slice A want.length ca, .slice Bk keep.length ck] 24) = w0 := ⟨_, rfl⟩
  obtain ⟨X, hX⟩ : ∃ X, w.heap.size = X := ⟨_, rfl⟩
  rw [hX] at HX_0 ⊢
  rw [hw0] at HB0 HX_0 HW_0 HK_0 ⊢
  clear hw0 hX
  have sX0 : w0.cell? ⟨X, 0, none⟩ = some (.int .i64 wd) := cell_of_heap HX_0.out
  have sX1 : w0.cell? ⟨X, 1, none⟩ = some (.int .i64 hg) := cell_of_heap HX_0.out
  have sX2 : w0.cell? ⟨X, 2, none⟩ = some (.slice A want.length ca) := cell_of_heap HX_0.out
  have sX3 : w0.cell? ⟨X, 3, none⟩ = some (.slice Bk keep.length ck) := cell_of_heap HX_0.out
  have slX := (Array.getElem?_eq_some_iff.1 HX_0.out).1
  have hcall := fine_any (wd := wd) (hg := hg) w0 HW_0.out HK_0.out
  rw [HFB.out] at hcall
  go_wp2_with fail
  refine hcall.mono ?_
  rintro e w1 ⟨rfl, hb1⟩
  clear hcall sX0 sX1 sX2 sX3 slX
  have HX_1 := hid (heap_mono HX_0.out hb1)
  have HW_1 := hid (HW_0.out.mono hb1)
  have HK_1 := hid (HK_0.out.mono hb1)
  have HB1 := hid (bl_trans HB0.out hb1)
  clear HX_0 HW_0 HK_0
  clear hb1
  cases fb with
  | false =>
    have hworks := works_any w1
    go_wp2_with fail
    refine hworks.mono ?_
    rintro e wz ⟨rfl, hbz⟩
    clear hworks
    go_wp2
    go_ret
    exact ⟨rfl, bl_trans HB1.out hbz⟩
  | true =>
    obtain ⟨hp, hl1, hl2⟩ := fine_yes HFB.out
    have hV := pond_valid hp
    have hbm := best_known hV
    obtain ⟨b1, b2, b3, b4, b5⟩ := between_known hp btw
    obtain ⟨M, hM⟩ : ∃ m : Int, ((raft wd hg want keep).2 : Int) = m := ⟨_, rfl⟩
    obtain ⟨SL, hSL⟩ : ∃ l, smallL wd hg want keep = l := ⟨_, rfl⟩
    obtain ⟨LL, hLL⟩ : ∃ l, largeL wd hg want keep = l := ⟨_, rfl⟩
    obtain ⟨WA, hWA⟩ : ∃ l, waterL wd hg want keep btw = l := ⟨_, rfl⟩
    rw [hM, hSL, hLL, hWA] at b3
    rw [hM, hSL, hLL] at b4
    rw [hSL, hLL] at b1 b5
    have hsn := small_len hV
    have hln := large_len hV
    have han := (water_known (want := want) (keep := keep) hV btw).2.2.1
    rw [hSL] at hsn
    rw [hLL] at hln
    rw [hWA] at han
    have HP := hid hp
    have HM := hid hM
    have HSL := hid hSL
    have HLL := hid hLL
    have HWA := hid hWA
    have HG1 := hid b1
    have HG3 := hid b3
    have HG4 := hid b4
    have HG5 := hid b5
    have HBo := hid hV.B
    have hnn := hV.cells
    have hnp : 1 ≤ wd * hg := by
      have := Int.mul_le_mul hV.B.w.1 hV.B.h.1 (by omega) (by have := hV.B.w.1; omega)
      omega
    obtain ⟨NN, hNN⟩ : ∃ n, wd * hg = n := ⟨_, rfl⟩
    have HNN := hid hNN
    rw [hNN] at hnn hnp
    clear hp hV hbm b1 b2 b3 b4 b5 hM hSL hLL hWA hNN
    have sX0 : w1.cell? ⟨X, 0, none⟩ = some (.int .i64 wd) := cell_of_heap HX_1.out
    have sX1 : w1.cell? ⟨X, 1, none⟩ = some (.int .i64 hg) := cell_of_heap HX_1.out
    have sX2 : w1.cell? ⟨X, 2, none⟩ = some (.slice A want.length ca) := cell_of_heap HX_1.out
    have sX3 : w1.cell? ⟨X, 3, none⟩ = some (.slice Bk keep.length ck) := cell_of_heap HX_1.out
    have slX := (Array.getElem?_eq_some_iff.1 HX_1.out).1
    have hcall := best_any' (wd := wd) (hg := hg) w1 HP.out HW_1.out HK_1.out
    rw [HM.out, HSL.out, HLL.out] at hcall
    go_wp2_with fail
    refine hcall.mono ?_
    rintro e w2 ⟨⟨sv, lv, rfl, hsv, hlv⟩, hb2⟩
    clear hcall sX0 sX1 sX2 sX3 slX
    have HX_2 := hid (heap_mono HX_1.out hb2)
    have HW_2 := hid (HW_1.out.mono hb2)
    have HK_2 := hid (HK_1.out.mono hb2)
    have HB2 := hid (bl_trans HB1.out hb2)
    clear HX_1 HW_1 HK_1
    have HS0_2 := hid hsv
    clear hsv
    have HL0_2 := hid hlv
    clear hlv
    clear hb2
    obtain ⟨Am, cm, rfl⟩ := HS0_2.out.slice
    obtain ⟨Al, cl, rfl⟩ := HL0_2.out.slice
    have hcall := allin_any SL LL _ _ w2 (by omega) (by omega) HS0_2.out HL0_2.out
    rw [HG1.out] at hcall
    go_wp2_with fail
    refine hcall.mono ?_
    rintro e w3 ⟨rfl, hb3⟩
    clear hcall 
    have HX_3 := hid (heap_mono HX_2.out hb3)
    have HW_3 := hid (HW_2.out.mono hb3)
    have HK_3 := hid (HK_2.out.mono hb3)
    have HS0_3 := hid (HS0_2.out.mono hb3)
    have HL0_3 := hid (HL0_2.out.mono hb3)
    have HB3 := hid (bl_trans HB2.out hb3)
    clear HX_2 HW_2 HK_2 HS0_2 HL0_2
    clear hb3
    have sX0 : w3.cell? ⟨X, 0, none⟩ = some (.int .i64 wd) := cell_of_heap HX_3.out
    have sX1 : w3.cell? ⟨X, 1, none⟩ = some (.int .i64 hg) := cell_of_heap HX_3.out
    have sX2 : w3.cell? ⟨X, 2, none⟩ = some (.slice A want.length ca) := cell_of_heap HX_3.out
    have sX3 : w3.cell? ⟨X, 3, none⟩ = some (.slice Bk keep.length ck) := cell_of_heap HX_3.out
    have slX := (Array.getElem?_eq_some_iff.1 HX_3.out).1
    have hcall := water_any (wd := wd) (hg := hg) btw w3 hbt HBo.out (by omega) (by omega) HW_3.out HK_3.out
    rw [HWA.out] at hcall
    go_wp2_with fail
    refine hcall.mono ?_
    rintro e w4 ⟨⟨v0, rfl, hv0⟩, hb4⟩
    clear hcall sX0 sX1 sX2 sX3 slX
    have HX_4 := hid (heap_mono HX_3.out hb4)
    have HW_4 := hid (HW_3.out.mono hb4)
    have HK_4 := hid (HK_3.out.mono hb4)
    have HS0_4 := hid (HS0_3.out.mono hb4)
    have HL0_4 := hid (HL0_3.out.mono hb4)
    have HB4 := hid (bl_trans HB3.out hb4)
    clear HX_3 HW_3 HK_3 HS0_3 HL0_3
    have HA_4 := hid hv0
    clear hv0
    clear hb4
    obtain ⟨A0, c0w, rfl⟩ := HA_4.out.slice
    have hbz := bl_alloc (bl_refl w4) (.cells #[.slice A0 WA.length c0w, .slice none 0 0] 22)
    have HYn := hid (World.alloc_heap_new w4 (.cells #[.slice A0 WA.length c0w, .slice none 0 0] 22))
    have HBZ := hid hbz
    go_upto_region 7 with (fail)
    obtain ⟨wz, hwz⟩ : ∃ W, w4.alloc (.cells #[.slice A0 WA.length c0w, .slice none 0 0] 22) = W := ⟨_, rfl⟩
    obtain ⟨Y, hY⟩ : ∃ Y, w4.heap.size = Y := ⟨_, rfl⟩
    have hYz : Y < wz.heap.size := by rw [← hwz, World.size_alloc, hY]; omega
    rw [hwz] at HYn HBZ ⊢
    rw [hY] at HYn ⊢
    have hlXY : X < Y := by rw [← hY]; exact (Array.getElem?_eq_some_iff.1 HX_4.out).1
    have hXY : X ≠ Y := by omega
    have hwY : w4.heap.size ≤ Y := by omega
    have hwb : w4.heap.size ≤ wz.heap.size := by omega
    clear hbz hwz
    go_wp2
    go_loopw [12] (fun p wr => ∃ (i : Nat) (v : Value), i ≤ LL.length ∧ p = .int .i64 (i : Int) ∧ wr.heap[Y]? = some (.cells ((fun z => #[.slice A0 WA.length c0w, z]) v) 22 (0, 0)) ∧ wr.ownsRow wz.heap.size 3 1 v (betF btw SL LL i).length ((betF btw SL LL i).map (Value.int .i64)) ∧ Below w4.heap.size w4 wr ∧ wz.heap.size ≤ wr.heap.size) (fun p _ => LL.length - (intOf p).toNat)
    case atStart => exact ⟨0, .slice none 0 0, Nat.zero_le _, rfl, HYn.out, World.ownsRow_nil _ _ _ _, HBZ.out, Nat.le_refl _⟩
    case round =>
    obtain ⟨i, v, hi, rfl, hq, hown, hB, hbs⟩ := hrel
    have hx := heap_mono HX_4.out hB
    by_cases hlt : i < LL.length
    · obtain ⟨c, hc⟩ := get_at hlt
      obtain ⟨bb, oo, hA, hbb, hcy⟩ : ∃ bb oo, Al = some ⟨bb, oo, none⟩ ∧ bb < wr.heap.size ∧ wr.cell? ⟨bb, oo + i, none⟩ = some (.int .i64 c) := by
        rcases HL0_4.out.mono hB with ⟨hv, h0⟩ | ⟨bb, oo, c3, hv, h4, h5, h6⟩
        · rw [h0] at hlt; simp at hlt
        · injection hv with hv1 hv2 hv3
          exact ⟨bb, oo, hv1, h5, h6 i c hc⟩
      subst hA
      have hiI : (i : Int) < (LL.length : Int) := by omega
      have htm : Int.tmod (i : Int) 64 = i := Int.tmod_eq_of_lt (by omega) (by omega)
      have hi64 : (i : Int) ≤ 64 := by omega
      have hsl := shr_lt hbt.1 hbt.2 i
      have hand := and_one hsl.1 hsl.2
      have HIN := hid (HS0_4.out.mono hB)
      have c2 := rhas_any SL (.slice Am SL.length cm) c wr (by omega) HIN.out
      clear hsl
      have hbB : bitB btw (i : Int) = decide (btw / 2 ^ i % 2 = 1) := rfl
      by_cases hbit : btw / 2 ^ i % 2 = 1
      · rw [decide_eq_true hbit] at hbB
        have tb : (btw / 2 ^ i % 2 == 1) = true := by simp [hbit]
        clear c2 hbit
        have HLN := hid (betF_yes (bt := btw) (S := SL) hc (by rw [hbB]; rfl))
        have HTK := hid (show (betF btw SL LL (i + 1)).map (Value.int .i64) = (betF btw SL LL i).map (Value.int .i64) ++ [.int .i64 c] by rw [HLN.out, List.map_append]; rfl)
        have hnl := betF_len btw SL LL i
        obtain ⟨xs, hxs⟩ : ∃ l, (betF btw SL LL i).map (Value.int .i64) = l := ⟨_, rfl⟩
        obtain ⟨nn, hnn⟩ : ∃ l, (betF btw SL LL i).length = l := ⟨_, rfl⟩
        have HLL2 := hid (show (betF btw SL LL (i + 1)).length = nn + 1 by rw [HLN.out, List.length_append, hnn]; rfl)
        rw [hxs] at hown HTK
        rw [hnn] at hown hnl
        have hi70 : nn ≤ 1000 := by omega
        have HPF : Hid (∀ u, PutI X Y #[.int .i64 wd, .int .i64 hg, .slice A want.length ca, .slice Bk keep.length ck] 22 (fun z => #[.slice A0 WA.length c0w, z]) wz.heap.size v (.slice none 0 0) nn 0 xs [] (.int .i64 c) false false u wr.drew) := fun u => (PutI.start hx hq hown (World.ownsRow_nil _ _ _ _) (fun g h h2 => by cases h2) hbs u).mono (bl_drew (bl_refl wr))
        have HBr := hid hB
        have HCY := hid hcy
        have HBB := hid hbb
        have HSX : Hid (∀ W, Below w4.heap.size w4 W → W.cell? ⟨bb, oo + i, none⟩ = some (.int .i64 c) ∧ bb < W.heap.size) := fun W hW => by
          rcases HL0_4.out.mono hW with ⟨hv, _⟩ | ⟨b3, o3, c3, hv, h4, h5, h6⟩
          · cases hv
          · injection hv with hv1 hv2 hv3
            injection hv1 with hv1
            injection hv1 with e1 e2
            subst e1 e2
            exact ⟨h6 i c hc, h5⟩
        clear hx hq hown hxs hnn hnl hcy hB hbb hbs
        clear hbB
        go_upto_region 11 with (fail)
        clear hc htm hi64
        refine wp_region_valsG w4 HBr.out [62, 63, 64, 65, 66, 67, 68, 69, 70, 71, 72] (fun seen u W => (seen 0 = true → u 62 = .slice (some ⟨Y, 0, none⟩) 2 2) ∧
          (seen 1 = true → u 63 = .slice (some ⟨Y, 0, none⟩) 2 2) ∧
          (seen 2 = true → u 64 = .pointer (some ⟨Y, 1, none⟩)) ∧
          (seen 3 = true → u 65 = v) ∧
          (seen 4 = true → u 66 = .slice (some ⟨bb, oo, none⟩) LL.length cl) ∧
          (seen 5 = true → u 67 = .int .i64 (i : Int)) ∧
          (seen 6 = true → u 68 = .pointer (some ⟨bb, oo + i, none⟩)) ∧
          (seen 7 = true → u 69 = .int .i64 c) ∧
          (seen 8 = true → (seen 9 = false → Row1 W (u 70) (.int .i64 c))) ∧
          (seen 9 = true → True) ∧
          (seen 10 = true → u 72 = .pointer (some ⟨Y, 1, none⟩)) ∧
          (seen 11 = true → True) ∧
          (seen 11 = true → seen 9 = true) ∧
          (seen 9 = true → seen 3 = true) ∧
          (seen 9 = true → seen 9 = true) ∧
          PutI X Y #[.int .i64 wd, .int .i64 hg, .slice A want.length ca, .slice Bk keep.length ck] 22 (fun z => #[.slice A0 WA.length c0w, z]) wz.heap.size v (.slice none 0 0) nn 0 xs [] (.int .i64 c) (seen 9) (seen 11) (u 71) W)
          (by kernel_rfl) (by kernel_rfl) (by kernel_rfl) (by simp) ⟨by simp [valsOf], by simp [valsOf], by simp [valsOf], by simp [valsOf], by simp [valsOf], by simp [valsOf], by simp [valsOf], by simp [valsOf], by simp [valsOf], by simp [valsOf], by simp [valsOf], by simp [valsOf], by simp [valsOf], by simp [valsOf], by simp [valsOf], HPF.out _⟩ ?_ ?_
        · intro iq o ho seen a' w9 hb9 ⟨F0, F1, F2, F3, F4, F5, F6, F7, F8, F9, F10, F11, F12, F13, F14, F15⟩ hv hsi hdep
          have ql := (Array.getElem?_eq_some_iff.1 F15.q).1
          have sx : w9.cell? ⟨bb, oo + i, none⟩ = some (.int .i64 c) ∧ bb < w9.heap.size := HSX.out w9 hb9
          obtain ⟨sx1, sx2⟩ := sx
          rcases iq with _ | _ | _ | _ | _ | _ | _ | _ | _ | _ | _ | _ | iq <;> simp only [List.getElem?_cons_zero, List.getElem?_cons_succ, List.getElem?_nil, Option.some.injEq, reduceCtorEq] at ho <;> subst ho
          · refine if_free rfl ?_
            have x11 := val_at (hv 11 (by simp))
            simp [valsOf] at x11
            refine wp_value (.slice (some ⟨Y, 0, none⟩) 2 2) (w' := w9) (by simp [execOp, x11, go_sem, ql, sx1, sx2, hiI]) ⟨_, rfl, hb9, ?_⟩
            exact ⟨by simp, by simpa using F1, by simpa using F2, by simpa using F3, by simpa using F4, by simpa using F5, by simpa using F6, by simpa using F7, by simpa using F8, by simpa using F9, by simpa using F10, by simpa using F11, by simpa using F12, by simpa using F13, by simpa using F14, by simpa using F15⟩
          · refine if_free rfl ?_
            have x11 := val_at (hv 11 (by simp))
            simp [valsOf] at x11
            refine wp_value (.slice (some ⟨Y, 0, none⟩) 2 2) (w' := w9) (by simp [execOp, x11, go_sem, ql, sx1, sx2, hiI]) ⟨_, rfl, hb9, ?_⟩
            exact ⟨by simpa using F0, by simp, by simpa using F2, by simpa using F3, by simpa using F4, by simpa using F5, by simpa using F6, by simpa using F7, by simpa using F8, by simpa using F9, by simpa using F10, by simpa using F11, by simpa using F12, by simpa using F13, by simpa using F14, by simpa using F15⟩
          · refine if_free rfl ?_
            have d1 := hdep ⟨1, .data⟩ (by simp) rfl
            have e1 := val_at (F1 d1)
            refine wp_value (.pointer (some ⟨Y, 1, none⟩)) (w' := w9) (by simp [execOp, e1, go_sem, ql, sx1, sx2, hiI]) ⟨_, rfl, hb9, ?_⟩
            exact ⟨by simpa using F0, by simpa using F1, by simp, by simpa using F3, by simpa using F4, by simpa using F5, by simpa using F6, by simpa using F7, by simpa using F8, by simpa using F9, by simpa using F10, by simpa using F11, by simpa using F12, by simpa using F13, by simpa using F14, by simpa using F15⟩
          · refine if_free rfl ?_
            have d2 := hdep ⟨2, .data⟩ (by simp) rfl
            have e2 := val_at (F2 d2)
            have hs9 : seen 9 = false := by { cases hq : seen 9 with | false => rfl | true => exact absurd (F13 hq) (by rw [hsi]; decide) }
            have hs11 : seen 11 = false := by { cases hq : seen 11 with | false => rfl | true => exact absurd ((fun h => F13 (F12 h)) hq) (by rw [hsi]; decide) }
            have hq := F15.q
            rw [hs11] at hq
            have cz : w9.cell? ⟨Y, 1, none⟩ = some v := cell_of_heap hq
            refine wp_value v (w' := w9) (by simp [execOp, e2, go_sem, cz, ql]) ⟨_, rfl, hb9, ?_⟩
            exact ⟨by simpa using F0, by simpa using F1, by simpa using F2, by simp, by simpa using F4, by simpa using F5, by simpa using F6, by simpa using F7, by simpa using F8, by simpa using F9, by simpa using F10, by simpa using F11, by simpa using F12, by simp, by simpa using F14, by simpa using F15⟩
          · refine if_free rfl ?_
            have x9 := val_at (hv 9 (by simp))
            simp [valsOf] at x9
            refine wp_value (.slice (some ⟨bb, oo, none⟩) LL.length cl) (w' := w9) (by simp [execOp, x9, go_sem, ql, sx1, sx2, hiI]) ⟨_, rfl, hb9, ?_⟩
            exact ⟨by simpa using F0, by simpa using F1, by simpa using F2, by simpa using F3, by simp, by simpa using F5, by simpa using F6, by simpa using F7, by simpa using F8, by simpa using F9, by simpa using F10, by simpa using F11, by simpa using F12, by simpa using F13, by simpa using F14, by simpa using F15⟩
          · refine if_free rfl ?_
            have x12 := val_at (hv 12 (by simp))
            simp [valsOf] at x12
            refine wp_value (.int .i64 (i : Int)) (w' := w9) (by simp [execOp, x12, go_sem, ql, sx1, sx2, hiI]) ⟨_, rfl, hb9, ?_⟩
            exact ⟨by simpa using F0, by simpa using F1, by simpa using F2, by simpa using F3, by simpa using F4, by simp, by simpa using F6, by simpa using F7, by simpa using F8, by simpa using F9, by simpa using F10, by simpa using F11, by simpa using F12, by simpa using F13, by simpa using F14, by simpa using F15⟩
          · refine if_free rfl ?_
            have d4 := hdep ⟨4, .data⟩ (by simp) rfl
            have e4 := val_at (F4 d4)
            have d5 := hdep ⟨5, .data⟩ (by simp) rfl
            have e5 := val_at (F5 d5)
            refine wp_value (.pointer (some ⟨bb, oo + i, none⟩)) (w' := w9) (by simp [execOp, e4, e5, go_sem, ql, sx1, sx2, hiI]) ⟨_, rfl, hb9, ?_⟩
            exact ⟨by simpa using F0, by simpa using F1, by simpa using F2, by simpa using F3, by simpa using F4, by simpa using F5, by simp, by simpa using F7, by simpa using F8, by simpa using F9, by simpa using F10, by simpa using F11, by simpa using F12, by simpa using F13, by simpa using F14, by simpa using F15⟩
          · refine if_free rfl ?_
            have d6 := hdep ⟨6, .data⟩ (by simp) rfl
            have e6 := val_at (F6 d6)
            refine wp_value (.int .i64 c) (w' := w9) (by simp [execOp, e6, go_sem, ql, sx1, sx2, hiI]) ⟨_, rfl, hb9, ?_⟩
            exact ⟨by simpa using F0, by simpa using F1, by simpa using F2, by simpa using F3, by simpa using F4, by simpa using F5, by simpa using F6, by simp, by simpa using F8, by simpa using F9, by simpa using F10, by simpa using F11, by simpa using F12, by simpa using F13, by simpa using F14, by simpa using F15⟩
          · refine if_free rfl ?_
            have d7 := hdep ⟨7, .data⟩ (by simp) rfl
            have e7 := val_at (F7 d7)
            have hg : Below w9.heap.size w9 (w9.alloc (.cells #[.int .i64 c] 3)) := bl_alloc (bl_refl _) _
            refine wp_value (.slice (some ⟨w9.heap.size, 0, none⟩) 1 1) (w' := w9.alloc (.cells #[.int .i64 c] 3)) (by simp [execOp, e7, go_sem]) ⟨_, rfl, bl_trans hb9 hg, ?_⟩
            have hn : Row1 (w9.alloc (.cells #[.int .i64 c] 3)) (.slice (some ⟨w9.heap.size, 0, none⟩) 1 1) (.int .i64 c) := ⟨_, rfl, World.alloc_heap_new _ _⟩
            exact ⟨by simpa using F0, by simpa using F1, by simpa using F2, by simpa using F3, by simpa using F4, by simpa using F5, by simpa using F6, by simpa using F7, by simpa using fun _ => hn, by simpa using F9, by simpa using F10, by simpa using F11, by simpa using F12, by simpa using F13, by simpa using F14, by simpa using F15.mono hg⟩
          · refine if_free rfl ?_
            have d3 := hdep ⟨3, .data⟩ (by simp) rfl
            have e3 := val_at (F3 d3)
            have d8 := hdep ⟨8, .data⟩ (by simp) rfl
            have hs11 : seen 11 = false := by { cases hq : seen 11 with | false => rfl | true => exact absurd (F12 hq) (by rw [hsi]; decide) }
            obtain ⟨g7, r7, hh7⟩ := F8 d8 hsi
            have e7 := val_at r7
            have FM' := F15
            rw [hsi, hs11] at FM'
            obtain ⟨A9, c9, w10, hrun, hm, hgrow⟩ := FM'.app (by decide) rfl hi70 (cell_of_heap hh7)
            have own9 := FM'.a rfl
            have hb10 := bl_grown hb9 own9 hwb hgrow
            refine wp_append_run _ _ 22 rfl _ _ (.slice A9 (nn + 1) c9) w10 (by simp [go_sem, e3]) (by simp [go_sem, e7]) hrun ⟨_, rfl, hb10, ?_⟩
            exact ⟨by simpa using F0, by simpa using F1, by simpa using F2, by simpa using F3, by simpa using F4, by simpa using F5, by simpa using F6, by simpa using F7, by simp, by simp, by simpa using F10, by simpa using F11, by simp, by simpa using d3, by simp, by simpa [hs11] using hm⟩
          · refine if_free rfl ?_
            have d0 := hdep ⟨0, .data⟩ (by simp) rfl
            have e0 := val_at (F0 d0)
            refine wp_value (.pointer (some ⟨Y, 1, none⟩)) (w' := w9) (by simp [execOp, e0, go_sem, ql, sx1, sx2, hiI]) ⟨_, rfl, hb9, ?_⟩
            exact ⟨by simpa using F0, by simpa using F1, by simpa using F2, by simpa using F3, by simpa using F4, by simpa using F5, by simpa using F6, by simpa using F7, by simpa using F8, by simpa using F9, by simp, by simpa using F11, by simpa using F12, by simpa using F13, by simpa using F14, by simpa using F15⟩
          · refine if_free rfl ?_
            have d10 := hdep ⟨10, .data⟩ (by simp) rfl
            have e10 := val_at (F10 d10)
            have d9 := hdep ⟨9, .data⟩ (by simp) rfl
            obtain ⟨⟨A8, c8, hu⟩, ho8⟩ := F15.b d9
            have e8 := val_at hu
            have FM' := F15
            rw [hsi, d9] at FM'
            have hq9 := FM'.q
            have cz : w9.cell? ⟨Y, 1, none⟩ = some v := cell_of_heap hq9
            have fz : w9.frozen? ⟨Y, 1, none⟩ = false := frozen_of_heap hq9
            have hm := FM'.put (by decide) hXY 1 (by rw [heap_setCell_same _ _ _ _ _ _ hq9]; rfl)
            have hb10 := bl_set hb9 (valsOf a' 71) (b := Y) (o := 1) hwY
            rw [hu] at hm hb10
            refine wp_effect (w' := w9.setCell ⟨Y, 1, none⟩ (.slice A8 (nn + 1) c8)) (by simp [execOp, e10, e8, go_sem, cz, fz, ql]) ⟨_, rfl, hb10, ?_⟩
            exact ⟨by simpa using F0, by simpa using F1, by simpa using F2, by simpa using F3, by simpa using F4, by simpa using F5, by simpa using F6, by simpa using F7, by simp [d9], by simpa using F9, by simpa using F10, by simp, by simpa using d9, by simpa using F13, by simpa using F14, by simpa [d9, hu] using hm⟩
        intro u w5 hb5 seen hall ⟨F0, F1, F2, F3, F4, F5, F6, F7, F8, F9, F10, F11, F12, F13, F14, F15⟩
        replace F0 := F0 (hall 0 (by decide))
        replace F1 := F1 (hall 1 (by decide))
        replace F2 := F2 (hall 2 (by decide))
        replace F3 := F3 (hall 3 (by decide))
        replace F4 := F4 (hall 4 (by decide))
        replace F5 := F5 (hall 5 (by decide))
        replace F6 := F6 (hall 6 (by decide))
        replace F7 := F7 (hall 7 (by decide))
        replace F8 := F8 (hall 8 (by decide))
        replace F9 := F9 (hall 9 (by decide))
        replace F10 := F10 (hall 10 (by decide))
        replace F11 := F11 (hall 11 (by decide))
        rw [hall 9 (by decide), hall 11 (by decide)] at F15
        have FZ := F15
        obtain ⟨⟨A5, c5, hu⟩, ho5⟩ := FZ.b rfl
        have hq5 := FZ.q
        rw [if_pos rfl, hu] at hq5
        rw [hu] at ho5
        have hbs5 := FZ.bs
        have HQ5 := hid hq5
        have HO5 := hid ho5
        have HBS5 := hid hbs5
        have HB5 := hid hb5
        simp only [setAll]
        clear FZ hall hu ho5 hq5 hbs5 hb5 F0 F1 F2 F3 F4 F5 F6 F7 F8 F9 F10 F11 F12 F13 F14 F15 seen HPF HLN HBr HCY HBB HSX hi70
        generalize u 62 = u62
        generalize u 63 = u63
        generalize u 64 = u64
        generalize u 65 = u65
        generalize u 66 = u66
        generalize u 67 = u67
        generalize u 68 = u68
        generalize u 69 = u69
        generalize u 70 = u70
        generalize u 71 = u71
        generalize u 72 = u72
        go_wp2
        go_roundw
        case rel => exact ⟨i + 1, _, by omega, by go_num, HQ5.out, by rw [HLL2.out, HTK.out]; exact HO5.out, HB5.out, HBS5.out⟩
        case measure => simp [intOf]; omega
      · rw [decide_eq_false hbit] at hbB
        have tb : (btw / 2 ^ i % 2 == 1) = false := beq_eq_false_iff_ne.2 hbit
        clear hbit
        have qcl := hbb
        cases hin : SL.contains c with
        | true =>
          rw [hin] at c2
          have qsv := hcy
          have HC2 := hid c2
          have HQ0 := hid hq
          have HOW0 := hid hown
          have HBw := hid hB
          have HX0 := hid hx
          clear hq hown hB hx c2
          have c2 := HC2.out
          clear HC2
          go_wp2_with fail
          refine c2.mono ?_
          rintro e w8 ⟨rfl, hw8⟩
          obtain rfl := hw8.symm
          clear c2
          have hq := HQ0.out
          have hown := HOW0.out
          have hB := HBw.out
          have hx := HX0.out
          clear HQ0 HOW0 HBw HX0
          have HLN := hid (betF_yes (bt := btw) (S := SL) hc (by rw [hin, Bool.or_true]))
          have HTK := hid (show (betF btw SL LL (i + 1)).map (Value.int .i64) = (betF btw SL LL i).map (Value.int .i64) ++ [.int .i64 c] by rw [HLN.out, List.map_append]; rfl)
          have hnl := betF_len btw SL LL i
          obtain ⟨xs, hxs⟩ : ∃ l, (betF btw SL LL i).map (Value.int .i64) = l := ⟨_, rfl⟩
          obtain ⟨nn, hnn⟩ : ∃ l, (betF btw SL LL i).length = l := ⟨_, rfl⟩
          have HLL2 := hid (show (betF btw SL LL (i + 1)).length = nn + 1 by rw [HLN.out, List.length_append, hnn]; rfl)
          rw [hxs] at hown HTK
          rw [hnn] at hown hnl
          have hi70 : nn ≤ 1000 := by omega
          have HPF : Hid (∀ u, PutI X Y #[.int .i64 wd, .int .i64 hg, .slice A want.length ca, .slice Bk keep.length ck] 22 (fun z => #[.slice A0 WA.length c0w, z]) wz.heap.size v (.slice none 0 0) nn 0 xs [] (.int .i64 c) false false u wr.drew) := fun u => (PutI.start hx hq hown (World.ownsRow_nil _ _ _ _) (fun g h h2 => by cases h2) hbs u).mono (bl_drew (bl_refl wr))
          have HBr := hid hB
          have HCY := hid hcy
          have HBB := hid hbb
          have HSX : Hid (∀ W, Below w4.heap.size w4 W → W.cell? ⟨bb, oo + i, none⟩ = some (.int .i64 c) ∧ bb < W.heap.size) := fun W hW => by
            rcases HL0_4.out.mono hW with ⟨hv, _⟩ | ⟨b3, o3, c3, hv, h4, h5, h6⟩
            · cases hv
            · injection hv with hv1 hv2 hv3
              injection hv1 with hv1
              injection hv1 with e1 e2
              subst e1 e2
              exact ⟨h6 i c hc, h5⟩
          clear hx hq hown hxs hnn hnl hcy hB hbb hbs
          clear hbB hin qcl qsv
          go_upto_region 11 with (fail)
          clear hc htm hi64
          refine wp_region_valsG w4 HBr.out [62, 63, 64, 65, 66, 67, 68, 69, 70, 71, 72] (fun seen u W => (seen 0 = true → u 62 = .slice (some ⟨Y, 0, none⟩) 2 2) ∧
            (seen 1 = true → u 63 = .slice (some ⟨Y, 0, none⟩) 2 2) ∧
            (seen 2 = true → u 64 = .pointer (some ⟨Y, 1, none⟩)) ∧
            (seen 3 = true → u 65 = v) ∧
            (seen 4 = true → u 66 = .slice (some ⟨bb, oo, none⟩) LL.length cl) ∧
            (seen 5 = true → u 67 = .int .i64 (i : Int)) ∧
            (seen 6 = true → u 68 = .pointer (some ⟨bb, oo + i, none⟩)) ∧
            (seen 7 = true → u 69 = .int .i64 c) ∧
            (seen 8 = true → (seen 9 = false → Row1 W (u 70) (.int .i64 c))) ∧
            (seen 9 = true → True) ∧
            (seen 10 = true → u 72 = .pointer (some ⟨Y, 1, none⟩)) ∧
            (seen 11 = true → True) ∧
            (seen 11 = true → seen 9 = true) ∧
            (seen 9 = true → seen 3 = true) ∧
            (seen 9 = true → seen 9 = true) ∧
            PutI X Y #[.int .i64 wd, .int .i64 hg, .slice A want.length ca, .slice Bk keep.length ck] 22 (fun z => #[.slice A0 WA.length c0w, z]) wz.heap.size v (.slice none 0 0) nn 0 xs [] (.int .i64 c) (seen 9) (seen 11) (u 71) W)
            (by kernel_rfl) (by kernel_rfl) (by kernel_rfl) (by simp) ⟨by simp [valsOf], by simp [valsOf], by simp [valsOf], by simp [valsOf], by simp [valsOf], by simp [valsOf], by simp [valsOf], by simp [valsOf], by simp [valsOf], by simp [valsOf], by simp [valsOf], by simp [valsOf], by simp [valsOf], by simp [valsOf], by simp [valsOf], HPF.out _⟩ ?_ ?_
          · intro iq o ho seen a' w9 hb9 ⟨F0, F1, F2, F3, F4, F5, F6, F7, F8, F9, F10, F11, F12, F13, F14, F15⟩ hv hsi hdep
            have ql := (Array.getElem?_eq_some_iff.1 F15.q).1
            have sx : w9.cell? ⟨bb, oo + i, none⟩ = some (.int .i64 c) ∧ bb < w9.heap.size := HSX.out w9 hb9
            obtain ⟨sx1, sx2⟩ := sx
            rcases iq with _ | _ | _ | _ | _ | _ | _ | _ | _ | _ | _ | _ | iq <;> simp only [List.getElem?_cons_zero, List.getElem?_cons_succ, List.getElem?_nil, Option.some.injEq, reduceCtorEq] at ho <;> subst ho
            · refine if_free rfl ?_
              have x11 := val_at (hv 11 (by simp))
              simp [valsOf] at x11
              refine wp_value (.slice (some ⟨Y, 0, none⟩) 2 2) (w' := w9) (by simp [execOp, x11, go_sem, ql, sx1, sx2, hiI]) ⟨_, rfl, hb9, ?_⟩
              exact ⟨by simp, by simpa using F1, by simpa using F2, by simpa using F3, by simpa using F4, by simpa using F5, by simpa using F6, by simpa using F7, by simpa using F8, by simpa using F9, by simpa using F10, by simpa using F11, by simpa using F12, by simpa using F13, by simpa using F14, by simpa using F15⟩
            · refine if_free rfl ?_
              have x11 := val_at (hv 11 (by simp))
              simp [valsOf] at x11
              refine wp_value (.slice (some ⟨Y, 0, none⟩) 2 2) (w' := w9) (by simp [execOp, x11, go_sem, ql, sx1, sx2, hiI]) ⟨_, rfl, hb9, ?_⟩
              exact ⟨by simpa using F0, by simp, by simpa using F2, by simpa using F3, by simpa using F4, by simpa using F5, by simpa using F6, by simpa using F7, by simpa using F8, by simpa using F9, by simpa using F10, by simpa using F11, by simpa using F12, by simpa using F13, by simpa using F14, by simpa using F15⟩
            · refine if_free rfl ?_
              have d1 := hdep ⟨1, .data⟩ (by simp) rfl
              have e1 := val_at (F1 d1)
              refine wp_value (.pointer (some ⟨Y, 1, none⟩)) (w' := w9) (by simp [execOp, e1, go_sem, ql, sx1, sx2, hiI]) ⟨_, rfl, hb9, ?_⟩
              exact ⟨by simpa using F0, by simpa using F1, by simp, by simpa using F3, by simpa using F4, by simpa using F5, by simpa using F6, by simpa using F7, by simpa using F8, by simpa using F9, by simpa using F10, by simpa using F11, by simpa using F12, by simpa using F13, by simpa using F14, by simpa using F15⟩
            · refine if_free rfl ?_
              have d2 := hdep ⟨2, .data⟩ (by simp) rfl
              have e2 := val_at (F2 d2)
              have hs9 : seen 9 = false := by { cases hq : seen 9 with | false => rfl | true => exact absurd (F13 hq) (by rw [hsi]; decide) }
              have hs11 : seen 11 = false := by { cases hq : seen 11 with | false => rfl | true => exact absurd ((fun h => F13 (F12 h)) hq) (by rw [hsi]; decide) }
              have hq := F15.q
              rw [hs11] at hq
              have cz : w9.cell? ⟨Y, 1, none⟩ = some v := cell_of_heap hq
              refine wp_value v (w' := w9) (by simp [execOp, e2, go_sem, cz, ql]) ⟨_, rfl, hb9, ?_⟩
              exact ⟨by simpa using F0, by simpa using F1, by simpa using F2, by simp, by simpa using F4, by simpa using F5, by simpa using F6, by simpa using F7, by simpa using F8, by simpa using F9, by simpa using F10, by simpa using F11, by simpa using F12, by simp, by simpa using F14, by simpa using F15⟩
            · refine if_free rfl ?_
              have x9 := val_at (hv 9 (by simp))
              simp [valsOf] at x9
              refine wp_value (.slice (some ⟨bb, oo, none⟩) LL.length cl) (w' := w9) (by simp [execOp, x9, go_sem, ql, sx1, sx2, hiI]) ⟨_, rfl, hb9, ?_⟩
              exact ⟨by simpa using F0, by simpa using F1, by simpa using F2, by simpa using F3, by simp, by simpa using F5, by simpa using F6, by simpa using F7, by simpa using F8, by simpa using F9, by simpa using F10, by simpa using F11, by simpa using F12, by simpa using F13, by simpa using F14, by simpa using F15⟩
            · refine if_free rfl ?_
              have x12 := val_at (hv 12 (by simp))
              simp [valsOf] at x12
              refine wp_value (.int .i64 (i : Int)) (w' := w9) (by simp [execOp, x12, go_sem, ql, sx1, sx2, hiI]) ⟨_, rfl, hb9, ?_⟩
              exact ⟨by simpa using F0, by simpa using F1, by simpa using F2, by simpa using F3, by simpa using F4, by simp, by simpa using F6, by simpa using F7, by simpa using F8, by simpa using F9, by simpa using F10, by simpa using F11, by simpa using F12, by simpa using F13, by simpa using F14, by simpa using F15⟩
            · refine if_free rfl ?_
              have d4 := hdep ⟨4, .data⟩ (by simp) rfl
              have e4 := val_at (F4 d4)
              have d5 := hdep ⟨5, .data⟩ (by simp) rfl
              have e5 := val_at (F5 d5)
              refine wp_value (.pointer (some ⟨bb, oo + i, none⟩)) (w' := w9) (by simp [execOp, e4, e5, go_sem, ql, sx1, sx2, hiI]) ⟨_, rfl, hb9, ?_⟩
              exact ⟨by simpa using F0, by simpa using F1, by simpa using F2, by simpa using F3, by simpa using F4, by simpa using F5, by simp, by simpa using F7, by simpa using F8, by simpa using F9, by simpa using F10, by simpa using F11, by simpa using F12, by simpa using F13, by simpa using F14, by simpa using F15⟩
            · refine if_free rfl ?_
              have d6 := hdep ⟨6, .data⟩ (by simp) rfl
              have e6 := val_at (F6 d6)
              refine wp_value (.int .i64 c) (w' := w9) (by simp [execOp, e6, go_sem, ql, sx1, sx2, hiI]) ⟨_, rfl, hb9, ?_⟩
              exact ⟨by simpa using F0, by simpa using F1, by simpa using F2, by simpa using F3, by simpa using F4, by simpa using F5, by simpa using F6, by simp, by simpa using F8, by simpa using F9, by simpa using F10, by simpa using F11, by simpa using F12, by simpa using F13, by simpa using F14, by simpa using F15⟩
            · refine if_free rfl ?_
              have d7 := hdep ⟨7, .data⟩ (by simp) rfl
              have e7 := val_at (F7 d7)
              have hg : Below w9.heap.size w9 (w9.alloc (.cells #[.int .i64 c] 3)) := bl_alloc (bl_refl _) _
              refine wp_value (.slice (some ⟨w9.heap.size, 0, none⟩) 1 1) (w' := w9.alloc (.cells #[.int .i64 c] 3)) (by simp [execOp, e7, go_sem]) ⟨_, rfl, bl_trans hb9 hg, ?_⟩
              have hn : Row1 (w9.alloc (.cells #[.int .i64 c] 3)) (.slice (some ⟨w9.heap.size, 0, none⟩) 1 1) (.int .i64 c) := ⟨_, rfl, World.alloc_heap_new _ _⟩
              exact ⟨by simpa using F0, by simpa using F1, by simpa using F2, by simpa using F3, by simpa using F4, by simpa using F5, by simpa using F6, by simpa using F7, by simpa using fun _ => hn, by simpa using F9, by simpa using F10, by simpa using F11, by simpa using F12, by simpa using F13, by simpa using F14, by simpa using F15.mono hg⟩
            · refine if_free rfl ?_
              have d3 := hdep ⟨3, .data⟩ (by simp) rfl
              have e3 := val_at (F3 d3)
              have d8 := hdep ⟨8, .data⟩ (by simp) rfl
              have hs11 : seen 11 = false := by { cases hq : seen 11 with | false => rfl | true => exact absurd (F12 hq) (by rw [hsi]; decide) }
              obtain ⟨g7, r7, hh7⟩ := F8 d8 hsi
              have e7 := val_at r7
              have FM' := F15
              rw [hsi, hs11] at FM'
              obtain ⟨A9, c9, w10, hrun, hm, hgrow⟩ := FM'.app (by decide) rfl hi70 (cell_of_heap hh7)
              have own9 := FM'.a rfl
              have hb10 := bl_grown hb9 own9 hwb hgrow
              refine wp_append_run _ _ 22 rfl _ _ (.slice A9 (nn + 1) c9) w10 (by simp [go_sem, e3]) (by simp [go_sem, e7]) hrun ⟨_, rfl, hb10, ?_⟩
              exact ⟨by simpa using F0, by simpa using F1, by simpa using F2, by simpa using F3, by simpa using F4, by simpa using F5, by simpa using F6, by simpa using F7, by simp, by simp, by simpa using F10, by simpa using F11, by simp, by simpa using d3, by simp, by simpa [hs11] using hm⟩
            · refine if_free rfl ?_
              have d0 := hdep ⟨0, .data⟩ (by simp) rfl
              have e0 := val_at (F0 d0)
              refine wp_value (.pointer (some ⟨Y, 1, none⟩)) (w' := w9) (by simp [execOp, e0, go_sem, ql, sx1, sx2, hiI]) ⟨_, rfl, hb9, ?_⟩
              exact ⟨by simpa using F0, by simpa using F1, by simpa using F2, by simpa using F3, by simpa using F4, by simpa using F5, by simpa using F6, by simpa using F7, by simpa using F8, by simpa using F9, by simp, by simpa using F11, by simpa using F12, by simpa using F13, by simpa using F14, by simpa using F15⟩
            · refine if_free rfl ?_
              have d10 := hdep ⟨10, .data⟩ (by simp) rfl
              have e10 := val_at (F10 d10)
              have d9 := hdep ⟨9, .data⟩ (by simp) rfl
              obtain ⟨⟨A8, c8, hu⟩, ho8⟩ := F15.b d9
              have e8 := val_at hu
              have FM' := F15
              rw [hsi, d9] at FM'
              have hq9 := FM'.q
              have cz : w9.cell? ⟨Y, 1, none⟩ = some v := cell_of_heap hq9
              have fz : w9.frozen? ⟨Y, 1, none⟩ = false := frozen_of_heap hq9
              have hm := FM'.put (by decide) hXY 1 (by rw [heap_setCell_same _ _ _ _ _ _ hq9]; rfl)
              have hb10 := bl_set hb9 (valsOf a' 71) (b := Y) (o := 1) hwY
              rw [hu] at hm hb10
              refine wp_effect (w' := w9.setCell ⟨Y, 1, none⟩ (.slice A8 (nn + 1) c8)) (by simp [execOp, e10, e8, go_sem, cz, fz, ql]) ⟨_, rfl, hb10, ?_⟩
              exact ⟨by simpa using F0, by simpa using F1, by simpa using F2, by simpa using F3, by simpa using F4, by simpa using F5, by simpa using F6, by simpa using F7, by simp [d9], by simpa using F9, by simpa using F10, by simp, by simpa using d9, by simpa using F13, by simpa using F14, by simpa [d9, hu] using hm⟩
          intro u w5 hb5 seen hall ⟨F0, F1, F2, F3, F4, F5, F6, F7, F8, F9, F10, F11, F12, F13, F14, F15⟩
          replace F0 := F0 (hall 0 (by decide))
          replace F1 := F1 (hall 1 (by decide))
          replace F2 := F2 (hall 2 (by decide))
          replace F3 := F3 (hall 3 (by decide))
          replace F4 := F4 (hall 4 (by decide))
          replace F5 := F5 (hall 5 (by decide))
          replace F6 := F6 (hall 6 (by decide))
          replace F7 := F7 (hall 7 (by decide))
          replace F8 := F8 (hall 8 (by decide))
          replace F9 := F9 (hall 9 (by decide))
          replace F10 := F10 (hall 10 (by decide))
          replace F11 := F11 (hall 11 (by decide))
          rw [hall 9 (by decide), hall 11 (by decide)] at F15
          have FZ := F15
          obtain ⟨⟨A5, c5, hu⟩, ho5⟩ := FZ.b rfl
          have hq5 := FZ.q
          rw [if_pos rfl, hu] at hq5
          rw [hu] at ho5
          have hbs5 := FZ.bs
          have HQ5 := hid hq5
          have HO5 := hid ho5
          have HBS5 := hid hbs5
          have HB5 := hid hb5
          simp only [setAll]
          clear FZ hall hu ho5 hq5 hbs5 hb5 F0 F1 F2 F3 F4 F5 F6 F7 F8 F9 F10 F11 F12 F13 F14 F15 seen HPF HLN HBr HCY HBB HSX hi70
          generalize u 62 = u62
          generalize u 63 = u63
          generalize u 64 = u64
          generalize u 65 = u65
          generalize u 66 = u66
          generalize u 67 = u67
          generalize u 68 = u68
          generalize u 69 = u69
          generalize u 70 = u70
          generalize u 71 = u71
          generalize u 72 = u72
          go_wp2
          go_roundw
          case rel => exact ⟨i + 1, _, by omega, by go_num, HQ5.out, by rw [HLL2.out, HTK.out]; exact HO5.out, HB5.out, HBS5.out⟩
          case measure => simp [intOf]; omega
        | false =>
          rw [hin] at c2
          have HLN := hid (betF_no (bt := btw) (S := SL) hc (show (bitB btw (i : Int) || SL.contains c) = false by rw [hbB, hin]; rfl))
          have HREL := hid (And.intro hq (And.intro hown (And.intro hB hbs)))
          clear hq hown hB hx hbB hin hc
          go_wp2_with fail
          refine c2.mono ?_
          rintro e w8 ⟨rfl, hw8⟩
          obtain rfl := hw8.symm
          clear c2
          go_wp2
          go_roundw
          case rel => exact ⟨i + 1, v, by omega, by go_num, HREL.out.1, by rw [HLN.out]; exact HREL.out.2.1, HREL.out.2.2.1, HREL.out.2.2.2⟩
          case measure => simp [intOf]; omega
    obtain rfl : i = LL.length := by omega
    obtain ⟨A1, n1, hv1⟩ := own_slice hown
    subst hv1
    obtain ⟨WB, hWB⟩ : ∃ l, betF btw SL LL LL.length = l := ⟨_, rfl⟩
    have hBn := betF_len btw SL LL LL.length
    rw [hWB] at hq hown hBn
    have HG4' := hid HG4.out
    rw [hWB] at HG4'
    have hI := ints_own rfl hown
    obtain ⟨w5, hwr⟩ : ∃ W, W = wr := ⟨_, rfl⟩
    have HY_5 := hid hq
    have HX_5 := hid hx
    have HI_5 := hid hI
    have HW_5 := hid (HW_4.out.mono hB)
    have HK_5 := hid (HK_4.out.mono hB)
    have HS0_5 := hid (HS0_4.out.mono hB)
    have HL0_5 := hid (HL0_4.out.mono hB)
    have HA_5 := hid (HA_4.out.mono hB)
    have HB5 := hid (bl_trans HB4.out hB)
    rw [← hwr] at HY_5 HX_5 HI_5 HB5 HW_5 HK_5 HS0_5 HL0_5 HA_5 ⊢
    clear hwr hx hq hown hB hbs hlt hWB hI HG4 HYn HBZ HW_4 HK_4 HS0_4 HL0_4 HA_4 HX_4
    obtain ⟨V0, hV0⟩ : ∃ z, sticksV wd hg want keep WA = z := ⟨_, rfl⟩
    obtain ⟨V1, hV1⟩ : ∃ z, sticksV wd hg want keep WB = z := ⟨_, rfl⟩
    obtain ⟨g30, g31, g32⟩ := HG3.out
    obtain ⟨g40, g41, g42⟩ := HG4'.out
    have K30 := hid g30
    have K40 := hid g40
    rw [hV0] at g31 g32
    rw [hV1] at g41 g42
    have K32 := hid g32
    have K42 := hid g42
    have HV0 := hid hV0
    have HV1 := hid hV1
    have l0 : decide (V0 < M) = false := decide_eq_false (by omega)
    have l1 : decide (V1 < M) = false := decide_eq_false (by omega)
    clear g30 g31 g32 g40 g41 g42 HG3 HG4' hV0 hV1
    have sX0 : w5.cell? ⟨X, 0, none⟩ = some (.int .i64 wd) := cell_of_heap HX_5.out
    have sX1 : w5.cell? ⟨X, 1, none⟩ = some (.int .i64 hg) := cell_of_heap HX_5.out
    have sX2 : w5.cell? ⟨X, 2, none⟩ = some (.slice A want.length ca) := cell_of_heap HX_5.out
    have sX3 : w5.cell? ⟨X, 3, none⟩ = some (.slice Bk keep.length ck) := cell_of_heap HX_5.out
    have slX := (Array.getElem?_eq_some_iff.1 HX_5.out).1
    have sY0 : w5.cell? ⟨Y, 0, none⟩ = some (.slice A0 WA.length c0w) := cell_of_heap HY_5.out
    have sY1 : w5.cell? ⟨Y, 1, none⟩ = some (.slice A1 WB.length n1) := cell_of_heap HY_5.out
    have slY := (Array.getElem?_eq_some_iff.1 HY_5.out).1
    clear sX0 sX1 sX2 sX3 slX sY0 sY1 slY
    go_wp2
    go_loopw [13] (fun p wr => ∃ i : Int, (i = 0 ∨ i = 1 ∨ i = 2) ∧ p = .int .i64 i ∧ Below w5.heap.size w5 wr) (fun p _ => 2 - (intOf p).toNat)
    case atStart => exact ⟨0, .inl rfl, rfl, bl_refl _⟩
    case round =>
    obtain ⟨i, hi, rfl, hB⟩ := hrel
    have HBr := hid hB
    have HW_6 := hid (HW_5.out.mono hB)
    have HK_6 := hid (HK_5.out.mono hB)
    have HS0_6 := hid (HS0_5.out.mono hB)
    have HL0_6 := hid (HL0_5.out.mono hB)
    have HA_6 := hid (HA_5.out.mono hB)
    have HI_6 := hid (HI_5.out.mono hB)
    have HX_6 := hid (heap_mono HX_5.out hB)
    have HY_6 := hid (heap_mono HY_5.out hB)
    have HB6 := hid hB
    obtain ⟨w6, hwr⟩ : ∃ W, W = wr := ⟨_, rfl⟩
    rw [← hwr] at HB6 HW_6 HK_6 HS0_6 HL0_6 HA_6 HI_6 HX_6 HY_6 ⊢
    clear hwr hB HBr
    rcases hi with rfl | rfl | rfl
    · skip
      have sX0 : w6.cell? ⟨X, 0, none⟩ = some (.int .i64 wd) := cell_of_heap HX_6.out
      have sX1 : w6.cell? ⟨X, 1, none⟩ = some (.int .i64 hg) := cell_of_heap HX_6.out
      have sX2 : w6.cell? ⟨X, 2, none⟩ = some (.slice A want.length ca) := cell_of_heap HX_6.out
      have sX3 : w6.cell? ⟨X, 3, none⟩ = some (.slice Bk keep.length ck) := cell_of_heap HX_6.out
      have slX := (Array.getElem?_eq_some_iff.1 HX_6.out).1
      have sY0 : w6.cell? ⟨Y, 0, none⟩ = some (.slice A0 WA.length c0w) := cell_of_heap HY_6.out
      have sY1 : w6.cell? ⟨Y, 1, none⟩ = some (.slice A1 WB.length n1) := cell_of_heap HY_6.out
      have slY := (Array.getElem?_eq_some_iff.1 HY_6.out).1
      have A19 : Hid (∀ W, Below w6.heap.size w6 W → Calls Try.prog 19 #[.agg #[.int .i64 wd, .int .i64 hg, .slice A want.length ca, .slice Bk keep.length ck], .slice A0 WA.length c0w] W fun e w' => e = .returned (.tuple #[.int .i64 V0, .int .i64 0]) ∧ Below W.heap.size W w') := fun W hW => by have h := sticks_any (wd := wd) (hg := hg) (want := want) (keep := keep) (water := WA) W (by omega) (by omega) (by omega) (HW_6.out.mono hW) (HK_6.out.mono hW) (HA_6.out.mono hW); rw [HV0.out, K30.out] at h; exact h
      go_upto_region 15 with (fail)
      refine wp_region_below (by kernel_rfl) (by kernel_rfl) ?_
      repeat (first | go_big_quiet_step (first | (go_at_call 19; exact Calls.regrown_of (A19.out _ (below_regrown _ _ _)))) | quiet_step (first | (go_at_call 19; exact Calls.regrown_of (A19.out _ (below_regrown _ _ _)))))
      refine wpQuiet_nil ?_
      intro w7 hb7
      clear sX0 sX1 sX2 sX3 slX sY0 sY1 slY A19
      have HX_7 := hid (heap_mono HX_6.out hb7)
      have HY_7 := hid (heap_mono HY_6.out hb7)
      have HW_7 := hid (HW_6.out.mono hb7)
      have HK_7 := hid (HK_6.out.mono hb7)
      have HS0_7 := hid (HS0_6.out.mono hb7)
      have HL0_7 := hid (HL0_6.out.mono hb7)
      have HA_7 := hid (HA_6.out.mono hb7)
      have HI_7 := hid (HI_6.out.mono hb7)
      have HB7 := hid (bl_trans HB6.out hb7)
      clear HX_6 HY_6 HW_6 HK_6 HS0_6 HL0_6 HA_6 HI_6
      clear hb7
      by_cases htight : V0 = M
      · have tt : (V0 == M) = true := by simp [htight]
        obtain ⟨k1, k2⟩ := K32.out htight
        have KA := hid k1
        have KB := hid k2
        clear k1 k2
        have sY0 : w7.cell? ⟨Y, 0, none⟩ = some (.slice A0 WA.length c0w) := cell_of_heap HY_7.out
        have sY1 : w7.cell? ⟨Y, 1, none⟩ = some (.slice A1 WB.length n1) := cell_of_heap HY_7.out
        have slY := (Array.getElem?_eq_some_iff.1 HY_7.out).1
        have hcall := allin_any SL WA _ _ w7 (by omega) (by omega) HS0_7.out HA_7.out
        rw [KA.out] at hcall
        go_wp2_with fail
        refine hcall.mono ?_
        rintro e w8 ⟨rfl, hb8⟩
        clear hcall sY0 sY1 slY
        have HX_8 := hid (heap_mono HX_7.out hb8)
        have HY_8 := hid (heap_mono HY_7.out hb8)
        have HW_8 := hid (HW_7.out.mono hb8)
        have HK_8 := hid (HK_7.out.mono hb8)
        have HS0_8 := hid (HS0_7.out.mono hb8)
        have HL0_8 := hid (HL0_7.out.mono hb8)
        have HA_8 := hid (HA_7.out.mono hb8)
        have HI_8 := hid (HI_7.out.mono hb8)
        have HB8 := hid (bl_trans HB7.out hb8)
        clear HX_7 HY_7 HW_7 HK_7 HS0_7 HL0_7 HA_7 HI_7
        clear hb8
        have sY0 : w8.cell? ⟨Y, 0, none⟩ = some (.slice A0 WA.length c0w) := cell_of_heap HY_8.out
        have sY1 : w8.cell? ⟨Y, 1, none⟩ = some (.slice A1 WB.length n1) := cell_of_heap HY_8.out
        have slY := (Array.getElem?_eq_some_iff.1 HY_8.out).1
        have hcall := allin_any WA LL _ _ w8 (by omega) (by omega) HA_8.out HL0_8.out
        rw [KB.out] at hcall
        go_wp2_with fail
        refine hcall.mono ?_
        rintro e w9 ⟨rfl, hb9⟩
        clear hcall sY0 sY1 slY
        have HX_9 := hid (heap_mono HX_8.out hb9)
        have HY_9 := hid (heap_mono HY_8.out hb9)
        have HW_9 := hid (HW_8.out.mono hb9)
        have HK_9 := hid (HK_8.out.mono hb9)
        have HS0_9 := hid (HS0_8.out.mono hb9)
        have HL0_9 := hid (HL0_8.out.mono hb9)
        have HA_9 := hid (HA_8.out.mono hb9)
        have HI_9 := hid (HI_8.out.mono hb9)
        have HB9 := hid (bl_trans HB8.out hb9)
        clear HX_8 HY_8 HW_8 HK_8 HS0_8 HL0_8 HA_8 HI_8
        clear hb9
        go_wp2
        go_roundw
        case rel => exact ⟨1, .inr (.inl rfl), by go_num, HB9.out⟩
        case measure => simp [intOf]
      · have tt : (V0 == M) = false := beq_eq_false_iff_ne.2 htight
        go_wp2
        go_roundw
        case rel => exact ⟨1, .inr (.inl rfl), by go_num, HB7.out⟩
        case measure => simp [intOf]
    · skip
      have sX0 : w6.cell? ⟨X, 0, none⟩ = some (.int .i64 wd) := cell_of_heap HX_6.out
      have sX1 : w6.cell? ⟨X, 1, none⟩ = some (.int .i64 hg) := cell_of_heap HX_6.out
      have sX2 : w6.cell? ⟨X, 2, none⟩ = some (.slice A want.length ca) := cell_of_heap HX_6.out
      have sX3 : w6.cell? ⟨X, 3, none⟩ = some (.slice Bk keep.length ck) := cell_of_heap HX_6.out
      have slX := (Array.getElem?_eq_some_iff.1 HX_6.out).1
      have sY0 : w6.cell? ⟨Y, 0, none⟩ = some (.slice A0 WA.length c0w) := cell_of_heap HY_6.out
      have sY1 : w6.cell? ⟨Y, 1, none⟩ = some (.slice A1 WB.length n1) := cell_of_heap HY_6.out
      have slY := (Array.getElem?_eq_some_iff.1 HY_6.out).1
      have A19 : Hid (∀ W, Below w6.heap.size w6 W → Calls Try.prog 19 #[.agg #[.int .i64 wd, .int .i64 hg, .slice A want.length ca, .slice Bk keep.length ck], .slice A1 WB.length n1] W fun e w' => e = .returned (.tuple #[.int .i64 V1, .int .i64 0]) ∧ Below W.heap.size W w') := fun W hW => by have h := sticks_any (wd := wd) (hg := hg) (want := want) (keep := keep) (water := WB) W (by omega) (by omega) (by omega) (HW_6.out.mono hW) (HK_6.out.mono hW) (HI_6.out.mono hW); rw [HV1.out, K40.out] at h; exact h
      go_upto_region 15 with (fail)
      refine wp_region_below (by kernel_rfl) (by kernel_rfl) ?_
      repeat (first | go_big_quiet_step (first | (go_at_call 19; exact Calls.regrown_of (A19.out _ (below_regrown _ _ _)))) | quiet_step (first | (go_at_call 19; exact Calls.regrown_of (A19.out _ (below_regrown _ _ _)))))
      refine wpQuiet_nil ?_
      intro w7 hb7
      clear sX0 sX1 sX2 sX3 slX sY0 sY1 slY A19
      have HX_7 := hid (heap_mono HX_6.out hb7)
      have HY_7 := hid (heap_mono HY_6.out hb7)
      have HW_7 := hid (HW_6.out.mono hb7)
      have HK_7 := hid (HK_6.out.mono hb7)
      have HS0_7 := hid (HS0_6.out.mono hb7)
      have HL0_7 := hid (HL0_6.out.mono hb7)
      have HA_7 := hid (HA_6.out.mono hb7)
      have HI_7 := hid (HI_6.out.mono hb7)
      have HB7 := hid (bl_trans HB6.out hb7)
      clear HX_6 HY_6 HW_6 HK_6 HS0_6 HL0_6 HA_6 HI_6
      clear hb7
      by_cases htight : V1 = M
      · have tt : (V1 == M) = true := by simp [htight]
        obtain ⟨k1, k2⟩ := K42.out htight
        have KA := hid k1
        have KB := hid k2
        clear k1 k2
        have sY0 : w7.cell? ⟨Y, 0, none⟩ = some (.slice A0 WA.length c0w) := cell_of_heap HY_7.out
        have sY1 : w7.cell? ⟨Y, 1, none⟩ = some (.slice A1 WB.length n1) := cell_of_heap HY_7.out
        have slY := (Array.getElem?_eq_some_iff.1 HY_7.out).1
        have hcall := allin_any SL WB _ _ w7 (by omega) (by omega) HS0_7.out HI_7.out
        rw [KA.out] at hcall
        go_wp2_with fail
        refine hcall.mono ?_
        rintro e w8 ⟨rfl, hb8⟩
        clear hcall sY0 sY1 slY
        have HX_8 := hid (heap_mono HX_7.out hb8)
        have HY_8 := hid (heap_mono HY_7.out hb8)
        have HW_8 := hid (HW_7.out.mono hb8)
        have HK_8 := hid (HK_7.out.mono hb8)
        have HS0_8 := hid (HS0_7.out.mono hb8)
        have HL0_8 := hid (HL0_7.out.mono hb8)
        have HA_8 := hid (HA_7.out.mono hb8)
        have HI_8 := hid (HI_7.out.mono hb8)
        have HB8 := hid (bl_trans HB7.out hb8)
        clear HX_7 HY_7 HW_7 HK_7 HS0_7 HL0_7 HA_7 HI_7
        clear hb8
        have sY0 : w8.cell? ⟨Y, 0, none⟩ = some (.slice A0 WA.length c0w) := cell_of_heap HY_8.out
        have sY1 : w8.cell? ⟨Y, 1, none⟩ = some (.slice A1 WB.length n1) := cell_of_heap HY_8.out
        have slY := (Array.getElem?_eq_some_iff.1 HY_8.out).1
        have hcall := allin_any WB LL _ _ w8 (by omega) (by omega) HI_8.out HL0_8.out
        rw [KB.out] at hcall
        go_wp2_with fail
        refine hcall.mono ?_
        rintro e w9 ⟨rfl, hb9⟩
        clear hcall sY0 sY1 slY
        have HX_9 := hid (heap_mono HX_8.out hb9)
        have HY_9 := hid (heap_mono HY_8.out hb9)
        have HW_9 := hid (HW_8.out.mono hb9)
        have HK_9 := hid (HK_8.out.mono hb9)
        have HS0_9 := hid (HS0_8.out.mono hb9)
        have HL0_9 := hid (HL0_8.out.mono hb9)
        have HA_9 := hid (HA_8.out.mono hb9)
        have HI_9 := hid (HI_8.out.mono hb9)
        have HB9 := hid (bl_trans HB8.out hb9)
        clear HX_8 HY_8 HW_8 HK_8 HS0_8 HL0_8 HA_8 HI_8
        clear hb9
        go_wp2
        go_roundw
        case rel => exact ⟨2, .inr (.inr rfl), by go_num, HB9.out⟩
        case measure => simp [intOf]
      · have tt : (V1 == M) = false := beq_eq_false_iff_ne.2 htight
        go_wp2
        go_roundw
        case rel => exact ⟨2, .inr (.inr rfl), by go_num, HB7.out⟩
        case measure => simp [intOf]
    · skip
      have HBq := hid (bl_trans HB5.out HB6.out)
      clear HB6
      have HB6 := HBq
      clear HBq
      obtain ⟨c, hc⟩ : ∃ c, cellw % NN = c := ⟨_, rfl⟩
      have hc0 : 0 ≤ c ∧ c < NN := by rw [← hc]; exact ⟨Int.emod_nonneg _ (by omega), Int.emod_lt_of_pos _ (by omega)⟩
      have htm : Int.tmod cellw NN = c := by rw [Int.tmod_eq_emod_of_nonneg hcw.1, hc]
      have wcw : IntKind.i64.wrap cellw = cellw := IntWalk.i64_in _ (by omega)
      have wcc : IntKind.i64.wrap c = c := IntWalk.i64_in _ (by omega)
      have hn0 : (NN == 0) = false := beq_eq_false_iff_ne.2 (by omega)
      have hn1 : ¬ NN = 0 := by omega
      have hn2 : ¬ NN = -1 := by omega
      have HC := hid hc0
      have HKE := hid (HG5.out c (by rw [HNN.out]; exact hc0))
      clear hc
      have sX0 : w6.cell? ⟨X, 0, none⟩ = some (.int .i64 wd) := cell_of_heap HX_6.out
      have sX1 : w6.cell? ⟨X, 1, none⟩ = some (.int .i64 hg) := cell_of_heap HX_6.out
      have sX2 : w6.cell? ⟨X, 2, none⟩ = some (.slice A want.length ca) := cell_of_heap HX_6.out
      have sX3 : w6.cell? ⟨X, 3, none⟩ = some (.slice Bk keep.length ck) := cell_of_heap HX_6.out
      have slX := (Array.getElem?_eq_some_iff.1 HX_6.out).1
      have hcall := cells_any wd hg (.slice A want.length ca) (.slice Bk keep.length ck) w6 HBo.out.w HBo.out.h
      rw [HNN.out] at hcall
      go_wp2_with fail
      refine hcall.mono ?_
      rintro e w7 ⟨rfl, hb7⟩
      clear hcall sX0 sX1 sX2 sX3 slX
      have HX_7 := hid (heap_mono HX_6.out hb7)
      have HY_7 := hid (heap_mono HY_6.out hb7)
      have HW_7 := hid (HW_6.out.mono hb7)
      have HK_7 := hid (HK_6.out.mono hb7)
      have HS0_7 := hid (HS0_6.out.mono hb7)
      have HL0_7 := hid (HL0_6.out.mono hb7)
      have HA_7 := hid (HA_6.out.mono hb7)
      have HI_7 := hid (HI_6.out.mono hb7)
      have HB7 := hid (bl_trans HB6.out hb7)
      clear HX_6 HY_6 HW_6 HK_6 HS0_6 HL0_6 HA_6 HI_6
      clear hb7
      obtain ⟨ke, kS, kL⟩ := HKE.out
      obtain ⟨KV, hKV⟩ : ∃ z, kindV wd hg want keep c = z := ⟨_, rfl⟩
      rw [hKV] at kS kL
      have HK1 := hid hKV
      have HK2 := hid ke
      have KS := hid kS
      have KL := hid kL
      clear ke kS kL hKV HKE
      have sX0 : w7.cell? ⟨X, 0, none⟩ = some (.int .i64 wd) := cell_of_heap HX_7.out
      have sX1 : w7.cell? ⟨X, 1, none⟩ = some (.int .i64 hg) := cell_of_heap HX_7.out
      have sX2 : w7.cell? ⟨X, 2, none⟩ = some (.slice A want.length ca) := cell_of_heap HX_7.out
      have sX3 : w7.cell? ⟨X, 3, none⟩ = some (.slice Bk keep.length ck) := cell_of_heap HX_7.out
      have slX := (Array.getElem?_eq_some_iff.1 HX_7.out).1
      have hcall := kind_any (wd := wd) (hg := hg) (want := want) (keep := keep) c w7 (by omega) (by omega) HW_7.out HK_7.out
      rw [HK1.out, HK2.out] at hcall
      go_wp2_with fail
      refine hcall.mono ?_
      rintro e w8 ⟨rfl, hb8⟩
      clear hcall sX0 sX1 sX2 sX3 slX
      have HX_8 := hid (heap_mono HX_7.out hb8)
      have HY_8 := hid (heap_mono HY_7.out hb8)
      have HW_8 := hid (HW_7.out.mono hb8)
      have HK_8 := hid (HK_7.out.mono hb8)
      have HS0_8 := hid (HS0_7.out.mono hb8)
      have HL0_8 := hid (HL0_7.out.mono hb8)
      have HA_8 := hid (HA_7.out.mono hb8)
      have HI_8 := hid (HI_7.out.mono hb8)
      have HB8 := hid (bl_trans HB7.out hb8)
      clear HX_7 HY_7 HW_7 HK_7 HS0_7 HL0_7 HA_7 HI_7
      clear hb8
      clear htm wcw wcc hn0 hn1 hn2
      cases hS : SL.contains c with
      | true =>
        obtain ⟨hkv, hL⟩ := KS.out hS
        have HhS := hid hS
        have HhL := hid hL
        clear hS hL KS KL HK1
        subst hkv
        have hcall := rhas_any SL (.slice Am SL.length cm) c w8 (by omega) HS0_8.out
        rw [HhS.out] at hcall
        go_wp2_with fail
        refine hcall.mono ?_
        rintro e w8 ⟨rfl, hw8⟩
        obtain rfl := hw8.symm
        clear hcall
        have hcall := rhas_any LL (.slice Al LL.length cl) c w8 (by omega) HL0_8.out
        rw [HhL.out] at hcall
        go_wp2_with fail
        refine hcall.mono ?_
        rintro e w8 ⟨rfl, hw8⟩
        obtain rfl := hw8.symm
        clear hcall
        have hworks := works_any w8
        go_wp2_with fail
        refine hworks.mono ?_
        rintro e wz ⟨rfl, hbz⟩
        clear hworks
        go_wp2
        go_ret
        exact ⟨rfl, bl_trans HB8.out hbz⟩
      | false =>
        cases hL : LL.contains c with
        | true =>
          have hkv := KL.out.1 hS hL
          have HhS := hid hS
          have HhL := hid hL
          clear hS hL KS KL HK1
          subst hkv
          have hcall := rhas_any SL (.slice Am SL.length cm) c w8 (by omega) HS0_8.out
          rw [HhS.out] at hcall
          go_wp2_with fail
          refine hcall.mono ?_
          rintro e w8 ⟨rfl, hw8⟩
          obtain rfl := hw8.symm
          clear hcall
          have hcall := rhas_any LL (.slice Al LL.length cl) c w8 (by omega) HL0_8.out
          rw [HhL.out] at hcall
          go_wp2_with fail
          refine hcall.mono ?_
          rintro e w8 ⟨rfl, hw8⟩
          obtain rfl := hw8.symm
          clear hcall
          have hworks := works_any w8
          go_wp2_with fail
          refine hworks.mono ?_
          rintro e wz ⟨rfl, hbz⟩
          clear hworks
          go_wp2
          go_ret
          exact ⟨rfl, bl_trans HB8.out hbz⟩
        | false =>
          have hkv := KL.out.2 hS hL
          have HhS := hid hS
          have HhL := hid hL
          clear hS hL KS KL HK1
          subst hkv
          have hcall := rhas_any SL (.slice Am SL.length cm) c w8 (by omega) HS0_8.out
          rw [HhS.out] at hcall
          go_wp2_with fail
          refine hcall.mono ?_
          rintro e w8 ⟨rfl, hw8⟩
          obtain rfl := hw8.symm
          clear hcall
          have hcall := rhas_any LL (.slice Al LL.length cl) c w8 (by omega) HL0_8.out
          rw [HhL.out] at hcall
          go_wp2_with fail
          refine hcall.mono ?_
          rintro e w8 ⟨rfl, hw8⟩
          obtain rfl := hw8.symm
          clear hcall
          have hworks := works_any w8
          go_wp2_with fail
          refine hworks.mono ?_
          rintro e wz ⟨rfl, hbz⟩
          clear hworks
          go_wp2
          go_ret
          exact ⟨rfl, bl_trans HB8.out hbz⟩

end Go.Proofs.Ytlkoadcbolkhoaa
