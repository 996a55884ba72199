/- A list of cells turned: the walk. -/
import Derived.Test.YtlkoadcbolkhoaaTurnr
set_option linter.all false
namespace Go.Proofs.Ytlkoadcbolkhoaa
open Go Go.RowKit Go.Proofs
attribute [local go_sem] cell_grow frozen_grow

theorem turnF_snoc {f : Int → Int} {c : Int} : ∀ (l o : List Int), turnF f o (l ++ [c]) = withL (turnF f o l) (f c)
  | [], o => rfl
  | x :: l, o => by rw [List.cons_append, turnF, turnF, turnF_snoc l]
set_option maxRecDepth 100000 in
set_option maxHeartbeats 8000000 in
theorem with_own (l : List Int) (n : Int) (s : Value) (w : World) (hl : l.length ≤ 1000) (hs : Ints w s l) :
    Calls Try.prog 54 #[s, .int .i64 n] w fun e w' => (∃ v, e = .returned v ∧ w'.ownsRow w.heap.size 3 1 v (withL l n).length ((withL l n).map (Value.int .i64))) ∧ Below w.heap.size w w' := by
  obtain ⟨i3, hi3, hi30, hi31, hi32⟩ := info_parts info3
  obtain ⟨A, ca, rfl⟩ := hs.slice
  have HA := hid hs
  obtain ⟨T, hT⟩ : ∃ r, withL l n = r := ⟨_, rfl⟩
  have HT := hid hT
  have hTl : T.length ≤ 1001 := by rw [← hT]; have := withF_len n false l; unfold withL; omega
  rw [hT]
  clear hs hT
  go_enter Try.func54, Try.ntmps54
  go_wp2
  go_loopw [5, 6, 7] (fun o q p wr => ∃ (k : Nat) (O : List Int) (b : Bool) (v : Value), k ≤ l.length ∧ p = .int .i64 (k : Int) ∧ q = .bool b ∧ o = v ∧ O ++ withF n b (l.drop k) = T ∧ wr.ownsRow w.heap.size 3 1 v O.length (O.map (Value.int .i64)) ∧ Below w.heap.size w wr) (fun _ _ p _ => l.length - (intOf p).toNat)
  case atStart => exact ⟨0, [], false, _, Nat.zero_le _, rfl, rfl, rfl, HT.out, World.ownsRow_nil _ _ _ _, bl_refl _⟩
  case round =>
  clear HT
  obtain ⟨k, O, b, v, hk, rfl, rfl, hov, hO, hown, hB⟩ := hrel
  obtain rfl := hov.symm
  have HOW := hid hown
  have HBr := hid hB
  have hbs := hB.size
  clear hown hB
  by_cases hlt : k < l.length
  · obtain ⟨x, hx⟩ := get_at hlt
    have hdr : l.drop k = x :: l.drop (k + 1) := List.drop_eq_getElem_cons hlt ▸ by rw [(List.getElem?_eq_some_iff.1 hx).2]
    rw [hdr] at hO
    obtain ⟨bb, oo, hA, hbb, hcy⟩ : ∃ bb oo, A = some ⟨bb, oo, none⟩ ∧ bb < wr.heap.size ∧ wr.cell? ⟨bb, oo + k, none⟩ = some (.int .i64 x) := by
      rcases HA.out.mono HBr.out with ⟨hv, h0⟩ | ⟨bb, oo, c3, hv, h4, h5, h6⟩
      · rw [h0] at hlt; simp at hlt
      · injection hv with hv1 hv2 hv3
        exact ⟨bb, oo, hv1, h5, h6 k x hx⟩
    subst hA
    have hkI : (k : Int) < (l.length : Int) := by omega
    have hOl : O.length ≤ 1001 := by have := congrArg List.length hO; rw [List.length_append] at this; omega
    have Hx := hid hx
    clear hx hdr
    cases b with
    | true =>
      have hO2 : (O ++ [x]) ++ withF n true (l.drop (k + 1)) = T := by rw [← hO, List.append_assoc]; rfl
      have HO2 := hid hO2
      have oN := HOW.out.alloc (.cells #[.int .i64 x] 3)
      have bN := hid (bl_alloc HBr.out (.cells #[.int .i64 x] 3))
      clear hO hO2
      go_wp2_with (at_builtin; refine wpList_append_own _ rfl _ _ 22 rfl w.heap.size 3 i3 (.int .i64 0) 1 8 Try.underlying22 hi3 hi30 hi31 hi32 rfl (by decide) v _ _ rfl oN ⟨wr.heap.size, 0, none⟩ 1 1 [.int .i64 x] rfl rfl (cell_one_new wr (.int .i64 x) 3) (fun z hz => by simp at hz; subst hz; rfl) (by unfold maxLen; omega) (by omega) (by simp; omega) ?_; intro v' w5 hown' hgrow5 hnil5; have HB5 := hid (bl_grown bN.out oN (by omega) hgrow5); have HOW5 := hid hown'; clear hown' hgrow5 hnil5)
      go_roundw
      case rel => exact ⟨k + 1, O ++ [x], true, _, by omega, by go_num, rfl, rfl, HO2.out, by rw [List.length_append, List.map_append]; exact HOW5.out, HB5.out⟩
      case measure => simp [intOf]; omega
    | false =>
      by_cases hn : n < x
      · have t1 : decide (n < x) = true := decide_eq_true hn
        have hO2 : ((O ++ [n]) ++ [x]) ++ withF n true (l.drop (k + 1)) = T := by rw [← hO]; unfold withF; rw [if_pos hn]; cases l.drop (k + 1) <;> simp [withF]
        have HO2 := hid hO2
        have oN := HOW.out.alloc (.cells #[.int .i64 n] 3)
        have bN := hid (bl_alloc HBr.out (.cells #[.int .i64 n] 3))
        clear hO hO2 hn
        go_upto_region 9 with (at_builtin; refine wpList_append_own _ rfl _ _ 22 rfl w.heap.size 3 i3 (.int .i64 0) 1 8 Try.underlying22 hi3 hi30 hi31 hi32 rfl (by decide) v _ _ rfl oN ⟨wr.heap.size, 0, none⟩ 1 1 [.int .i64 n] rfl rfl (cell_one_new wr (.int .i64 n) 3) (fun z hz => by simp at hz; subst hz; rfl) (by unfold maxLen; omega) (by omega) (by simp; omega) ?_; intro v' w5 hown' hgrow5 hnil5; have HB5 := hid (bl_grown bN.out oN (by omega) hgrow5); have HOW5 := hid hown'; clear hown' hgrow5 hnil5)
        obtain ⟨hbb5, hcy5⟩ : bb < w5.heap.size ∧ w5.cell? ⟨bb, oo + k, none⟩ = some (.int .i64 x) := by
          rcases HA.out.mono HB5.out with ⟨hv, h0⟩ | ⟨b2, o2, c3, hv, h4, h5, h6⟩
          · cases hv
          · injection hv with hv1 hv2 hv3
            injection hv1 with hv1
            injection hv1 with e1 e2
            subst e1 e2
            exact ⟨h5, h6 k x Hx.out⟩
        have hbs5 := HB5.out.size
        have oN5 := HOW5.out.alloc (.cells #[.int .i64 x] 3)
        have bN5 := hid (bl_alloc HB5.out (.cells #[.int .i64 x] 3))
        clear hcy hbb oN bN HBr HOW hbs
        go_wp2_with (at_builtin; refine wpList_append_own _ rfl _ _ 22 rfl w.heap.size 3 i3 (.int .i64 0) 1 8 Try.underlying22 hi3 hi30 hi31 hi32 rfl (by decide) v' _ _ rfl oN5 ⟨w5.heap.size, 0, none⟩ 1 1 [.int .i64 x] rfl rfl (cell_one_new w5 (.int .i64 x) 3) (fun z hz => by simp at hz; subst hz; rfl) (by unfold maxLen; omega) (by omega) (by simp; omega) ?_; intro v2 w6 hown' hgrow5 hnil5; have HB6 := hid (bl_grown bN5.out oN5 (by omega) hgrow5); have HOW6 := hid hown'; clear hown' hgrow5 hnil5)
        go_roundw
        case rel => exact ⟨k + 1, (O ++ [n]) ++ [x], true, _, by omega, by go_num, rfl, rfl, HO2.out, by rw [List.length_append, List.length_append, List.map_append, List.map_append]; exact HOW6.out, HB6.out⟩
        case measure => simp [intOf]; omega
      · have t1 : decide (n < x) = false := decide_eq_false hn
        have hwf : withF n false (x :: l.drop (k + 1)) = x :: withF n false (l.drop (k + 1)) := by conv => lhs; unfold withF; rw [if_neg hn]
        have hO2 : (O ++ [x]) ++ withF n false (l.drop (k + 1)) = T := by rw [← hO, hwf, List.append_assoc]; rfl
        clear hwf
        have HO2 := hid hO2
        have oN := HOW.out.alloc (.cells #[.int .i64 x] 3)
        have bN := hid (bl_alloc HBr.out (.cells #[.int .i64 x] 3))
        clear hO hO2 hn
        go_wp2_with (at_builtin; refine wpList_append_own _ rfl _ _ 22 rfl w.heap.size 3 i3 (.int .i64 0) 1 8 Try.underlying22 hi3 hi30 hi31 hi32 rfl (by decide) v _ _ rfl oN ⟨wr.heap.size, 0, none⟩ 1 1 [.int .i64 x] rfl rfl (cell_one_new wr (.int .i64 x) 3) (fun z hz => by simp at hz; subst hz; rfl) (by unfold maxLen; omega) (by omega) (by simp; omega) ?_; intro v' w5 hown' hgrow5 hnil5; have HB5 := hid (bl_grown bN.out oN (by omega) hgrow5); have HOW5 := hid hown'; clear hown' hgrow5 hnil5)
        go_roundw
        case rel => exact ⟨k + 1, O ++ [x], false, _, by omega, by go_num, rfl, rfl, HO2.out, by rw [List.length_append, List.map_append]; exact HOW5.out, HB5.out⟩
        case measure => simp [intOf]; omega
  · obtain rfl : k = l.length := by omega
    rw [List.drop_length] at hO
    cases b with
    | true =>
      have hT : O = T := by rw [← hO]; simp [withF]
      subst hT
      have HI := hid HOW.out
      clear hO hlt
      go_wp2
      go_ret
      exact ⟨⟨_, rfl, HI.out⟩, HBr.out⟩
    | false =>
      have hT : O ++ [n] = T := hO
      subst hT
      have hOl : O.length ≤ 1001 := by simp at hTl; omega
      have oN := HOW.out.alloc (.cells #[.int .i64 n] 3)
      have bN := hid (bl_alloc HBr.out (.cells #[.int .i64 n] 3))
      clear hO hlt
      go_wp2_with (at_builtin; refine wpList_append_own _ rfl _ _ 22 rfl w.heap.size 3 i3 (.int .i64 0) 1 8 Try.underlying22 hi3 hi30 hi31 hi32 rfl (by decide) v _ _ rfl oN ⟨wr.heap.size, 0, none⟩ 1 1 [.int .i64 n] rfl rfl (cell_one_new wr (.int .i64 n) 3) (fun z hz => by simp at hz; subst hz; rfl) (by unfold maxLen; omega) (by omega) (by simp; omega) ?_; intro v' w5 hown' hgrow5 hnil5; have HB5 := hid (bl_grown bN.out oN (by omega) hgrow5); have HOW5 := hid hown'; clear hown' hgrow5 hnil5)
      go_ret
      exact ⟨⟨v', rfl, HOW5.out⟩, HB5.out⟩

set_option maxRecDepth 100000 in
set_option maxHeartbeats 16000000 in
theorem turned_own {wd hg : Int} {sw sk : Value} {l : List Int} (a : Bool) (s : Value) (w : World) (hB : Board wd hg) (hin : ∀ c ∈ l, inP wd hg c) (hl : l.length ≤ 70) (hs : Ints w s l) :
    Calls Try.prog 55 #[.agg #[.int .i64 wd, .int .i64 hg, sw, sk], s, .bool a] w fun e w' => (∃ v base, e = .returned v ∧ w'.ownsRow base 3 1 v (turnF (rhoC a wd hg) [] l).length ((turnF (rhoC a wd hg) [] l).map (Value.int .i64))) ∧ Below w.heap.size w w' := by
  obtain ⟨A, ca, rfl⟩ := hs.slice
  obtain ⟨R, hR⟩ : ∃ r, rhoC a wd hg = r := ⟨_, rfl⟩
  have HR := hid hR
  rw [hR]
  have HBo := hid hB
  have HIN := hid hin
  clear hR hB hin
  have HX_0 := hid (World.alloc_heap_new w (.cells #[.int .i64 wd, .int .i64 hg, sw, sk] 24))
  have hb0 := bl_alloc (bl_refl w) (.cells #[.int .i64 wd, .int .i64 hg, sw, sk] 24)
  have HB0 := hid hb0
  have HL_0 := hid (hs.mono hb0)
  clear hb0 hs
  go_enter Try.func55, Try.ntmps55
  go_upto_region 1 with (fail)
  obtain ⟨w0, hw0⟩ : ∃ w0, w.alloc (.cells #[.int .i64 wd, .int .i64 hg, sw, sk] 24) = w0 := ⟨_, rfl⟩
  obtain ⟨X, hX⟩ : ∃ X, w.heap.size = X := ⟨_, rfl⟩
  rw [hX] at HX_0 ⊢
  rw [hw0] at HB0 HX_0 HL_0 ⊢
  clear hw0 hX
  have HB1 := HB0
  go_wp2
  go_loopw [7, 8] (fun o p wr => ∃ (k : Nat) (v : Value) (base : Nat), k ≤ l.length ∧ p = .int .i64 (k : Int) ∧ o = v ∧ wr.ownsRow base 3 1 v (turnF R [] (l.take k)).length ((turnF R [] (l.take k)).map (Value.int .i64)) ∧ Below w0.heap.size w0 wr) (fun _ p _ => l.length - (intOf p).toNat)
  case atStart => exact ⟨0, _, w0.heap.size, Nat.zero_le _, rfl, rfl, World.ownsRow_nil _ _ _ _, bl_refl _⟩
  case round =>
  obtain ⟨k, v, base, hk, rfl, hov, hown, hB⟩ := hrel
  obtain rfl := hov.symm
  have HX_1 := hid (heap_mono HX_0.out hB)
  have HOW := hid hown
  have HBr := hid hB
  have HL_1 := hid (HL_0.out.mono hB)
  clear hown hB
  by_cases hlt : k < l.length
  · obtain ⟨c, hc⟩ := get_at hlt
    have hcin : inP wd hg c := HIN.out c (List.mem_of_getElem? hc)
    obtain ⟨bb, oo, hA, hbb, hcy⟩ : ∃ bb oo, A = some ⟨bb, oo, none⟩ ∧ bb < wr.heap.size ∧ wr.cell? ⟨bb, oo + k, none⟩ = some (.int .i64 c) := by
      rcases HL_1.out with ⟨hv, h0⟩ | ⟨bb, oo, c3, hv, h4, h5, h6⟩
      · rw [h0] at hlt; simp at hlt
      · injection hv with hv1 hv2 hv3
        exact ⟨bb, oo, hv1, h5, h6 k c hc⟩
    subst hA
    have hkI : (k : Int) < (l.length : Int) := by omega
    have hw8 := HBo.out.w
    have hh8 := HBo.out.h
    have htd : Int.tdiv c wd = c / wd := Int.tdiv_eq_ediv_of_nonneg hcin.1
    have htm : Int.tmod c wd = c % wd := Int.tmod_eq_emod_of_nonneg hcin.1
    have hwd0 : (wd == 0) = false := beq_eq_false_iff_ne.2 (by omega)
    have hwd1 : ¬ wd = 0 := by omega
    have hwdm : ¬ wd = -1 := by omega
    obtain ⟨qv, hqv⟩ : ∃ a, c / wd = a := ⟨_, rfl⟩
    obtain ⟨rv, hrv⟩ : ∃ a, c % wd = a := ⟨_, rfl⟩
    obtain ⟨x', y', he, hx0, hx1, hy0, hy1, hex, hey⟩ := split_cell hw8.1 hcin
    have hrv0 : 0 ≤ rv ∧ rv < 8 := by omega
    have hqv0 : 0 ≤ qv ∧ qv < 8 := by omega
    rw [hqv] at htd
    rw [hrv] at htm
    have hm1 : 0 ≤ qv * wd := Int.mul_nonneg hqv0.1 (by omega)
    have hm2 : qv * wd ≤ 8 * 8 := Int.mul_le_mul (by omega) (by omega) (by omega) (by omega)
    have hm3 : 0 ≤ rv * hg := Int.mul_nonneg hrv0.1 (by omega)
    have hm4 : rv * hg ≤ 8 * 8 := Int.mul_le_mul (by omega) (by omega) (by omega) (by omega)
    have w1' : IntKind.i64.wrap qv = qv := IntWalk.i64_in _ (by omega)
    have w2' : IntKind.i64.wrap rv = rv := IntWalk.i64_in _ (by omega)
    have w3' : IntKind.i64.wrap (qv * wd) = qv * wd := IntWalk.i64_in _ (by omega)
    have w4' : IntKind.i64.wrap (qv * wd + wd) = qv * wd + wd := IntWalk.i64_in _ (by omega)
    have w5' : IntKind.i64.wrap (qv * wd + wd - 1) = qv * wd + wd - 1 := IntWalk.i64_in _ (by omega)
    have w6' : IntKind.i64.wrap (qv * wd + wd - 1 - rv) = qv * wd + wd - 1 - rv := IntWalk.i64_in _ (by omega)
    have w7' : IntKind.i64.wrap (rv * hg) = rv * hg := IntWalk.i64_in _ (by omega)
    have w8' : IntKind.i64.wrap (rv * hg + qv) = rv * hg + qv := IntWalk.i64_in _ (by omega)
    have HTK := hid (show turnF R [] (l.take (k + 1)) = withL (turnF R [] (l.take k)) (R c) by
      rw [List.take_succ_eq_append_getElem hlt, (List.getElem?_eq_some_iff.1 hc).2, turnF_snoc])
    have hRc : R c = if a = true then rv * hg + qv else qv * wd + wd - 1 - rv := by
      rw [← HR.out]
      unfold rhoC acrC mirC
      rw [hqv, hrv]
      split <;> omega
    have htl := turnF_len (f := R) (l.take k) []
    rw [List.length_take, List.length_nil] at htl
    have hcall := with_own (turnF R [] (l.take k)) (R c) v
    obtain ⟨TL, hTL⟩ : ∃ t, turnF R [] (l.take k) = t := ⟨_, rfl⟩
    rw [hTL] at htl hcall HTK HOW
    have htl2 : TL.length ≤ 1000 := by omega
    clear he hx0 hx1 hy0 hy1 hex hey hc hcin hqv hrv hm1 hm2 hm3 hm4 htl hTL
    obtain ⟨AV, cv, rfl⟩ := own_slice HOW.out
    have HCALL := hid hcall
    clear hcall
    have s0 : wr.cell? ⟨X, 0, none⟩ = some (.int .i64 wd) := cell_of_heap HX_1.out
    have s1 : wr.cell? ⟨X, 1, none⟩ = some (.int .i64 hg) := cell_of_heap HX_1.out
    have s2 : wr.cell? ⟨X, 2, none⟩ = some (sw) := cell_of_heap HX_1.out
    have s3 : wr.cell? ⟨X, 3, none⟩ = some (sk) := cell_of_heap HX_1.out
    have slX := (Array.getElem?_eq_some_iff.1 HX_1.out).1
    go_upto_region 5 with (fail)
    refine wp_region_below (by kernel_rfl) (by kernel_rfl) ?_
    repeat (first | quiet_step (fail))
    refine wpQuiet_nil ?_
    intro w2 hb2
    clear s0 s1 s2 s3 slX hcy hbb
    have HW2 := hid hb2
    have HX_2 := hid (heap_mono HX_1.out hb2)
    have s0 : w2.cell? ⟨X, 0, none⟩ = some (.int .i64 wd) := cell_of_heap HX_2.out
    have s1 : w2.cell? ⟨X, 1, none⟩ = some (.int .i64 hg) := cell_of_heap HX_2.out
    have slX := (Array.getElem?_eq_some_iff.1 HX_2.out).1
    clear hb2
    have hcall := HCALL.out w2 htl2 (ints_own rfl (own_mono HOW.out HW2.out))
    rw [hRc] at hcall
    have HRC := hid hRc
    clear hRc HCALL
    cases a with
    | true =>
      rw [if_pos rfl] at hcall
      rw [if_pos rfl] at HRC
      go_wp2_with fail
      refine hcall.mono ?_
      rintro e w3 ⟨⟨v3, rfl, ho3⟩, hb3⟩
      have HO3 := hid ho3
      have HB3 := hid (bl_trans (bl_trans HBr.out HW2.out) hb3)
      clear hcall ho3 hb3 s0 s1 slX
      go_wp2
      go_roundw
      case rel => exact ⟨k + 1, _, _, by omega, by go_num, rfl, by rw [HTK.out, HRC.out]; exact HO3.out, HB3.out⟩
      case measure => simp [intOf]; omega
    | false =>
      rw [if_neg (by decide)] at hcall
      rw [if_neg (by decide)] at HRC
      go_wp2_with fail
      refine hcall.mono ?_
      rintro e w3 ⟨⟨v3, rfl, ho3⟩, hb3⟩
      have HO3 := hid ho3
      have HB3 := hid (bl_trans (bl_trans HBr.out HW2.out) hb3)
      clear hcall ho3 hb3 s0 s1 slX
      go_wp2
      go_roundw
      case rel => exact ⟨k + 1, _, _, by omega, by go_num, rfl, by rw [HTK.out, HRC.out]; exact HO3.out, HB3.out⟩
      case measure => simp [intOf]; omega
  · obtain rfl : k = l.length := by omega
    rw [List.take_length] at HOW
    have HB5 := hid (bl_trans HB1.out HBr.out)
    clear hlt
    go_wp2
    go_ret
    exact ⟨⟨v, rfl, base, HOW.out⟩, HB5.out⟩
end Go.Proofs.Ytlkoadcbolkhoaa
