/- A list with one more number; the free cells: the walks. -/
import Derived.Test.YtlkoadcbolkhoaaLawb
set_option linter.all false
namespace Go.Proofs.Ytlkoadcbolkhoaa
open Go Go.RowKit Go.Proofs
attribute [local go_sem] cell_grow frozen_grow

def withF (n : Int) : Bool → List Int → List Int
  | true, [] => []
  | false, [] => [n]
  | true, x :: l => x :: withF n true l
  | false, x :: l => if n < x then n :: x :: withF n true l else x :: withF n false l
def withL (l : List Int) (n : Int) : List Int := withF n false l
theorem withF_true (n : Int) : ∀ l : List Int, withF n true l = l
  | [] => rfl
  | x :: l => by unfold withF; rw [withF_true n l]
theorem withF_len (n : Int) : ∀ (b : Bool) (l : List Int), (withF n b l).length ≤ l.length + 1
  | true, l => by rw [withF_true]; omega
  | false, [] => by simp [withF]
  | false, x :: l => by
    unfold withF
    split
    · rw [withF_true]; simp
    · have := withF_len n false l
      simp; omega

set_option maxRecDepth 100000 in
set_option maxHeartbeats 8000000 in
theorem with_any (l : List Int) (n : Int) (s : Value) (w : World) (hl : l.length ≤ 1000) (hs : Ints w s l) :
    Calls Try.prog 54 #[s, .int .i64 n] w fun e w' => (∃ v, e = .returned v ∧ Ints w' v (withL l n)) ∧ Below w.heap.size w w' := by
  obtain ⟨i3, hi3, hi30, hi31, hi32⟩ := info_parts info3
  obtain ⟨A, ca, rfl⟩ := hs.slice
  have HA := hid hs
  obtain ⟨T, hT⟩ : ∃ r, withL l n = r := ⟨_, rfl⟩
  have HT := hid hT
  have hTl : T.length ≤ 1001 := by rw [← hT]; have := withF_len n false l; unfold withL; omega
  rw [hT]
  clear hs hT
  go_enter Try.func54, Try.ntmps54
  go_wp2
  go_loopw [5, 6, 7] (fun o q p wr => ∃ (k : Nat) (O : List Int) (b : Bool) (v : Value), k ≤ l.length ∧ p = .int .i64 (k : Int) ∧ q = .bool b ∧ o = v ∧ O ++ withF n b (l.drop k) = T ∧ wr.ownsRow w.heap.size 3 1 v O.length (O.map (Value.int .i64)) ∧ Below w.heap.size w wr) (fun _ _ p _ => l.length - (intOf p).toNat)
  case atStart => exact ⟨0, [], false, _, Nat.zero_le _, rfl, rfl, rfl, HT.out, World.ownsRow_nil _ _ _ _, bl_refl _⟩
  case round =>
  clear HT
  obtain ⟨k, O, b, v, hk, rfl, rfl, hov, hO, hown, hB⟩ := hrel
  obtain rfl := hov.symm
  have HOW := hid hown
  have HBr := hid hB
  have hbs := hB.size
  clear hown hB
  by_cases hlt : k < l.length
  · obtain ⟨x, hx⟩ := get_at hlt
    have hdr : l.drop k = x :: l.drop (k + 1) := List.drop_eq_getElem_cons hlt ▸ by rw [(List.getElem?_eq_some_iff.1 hx).2]
    rw [hdr] at hO
    obtain ⟨bb, oo, hA, hbb, hcy⟩ : ∃ bb oo, A = some ⟨bb, oo, none⟩ ∧ bb < wr.heap.size ∧ wr.cell? ⟨bb, oo + k, none⟩ = some (.int .i64 x) := by
      rcases HA.out.mono HBr.out with ⟨hv, h0⟩ | ⟨bb, oo, c3, hv, h4, h5, h6⟩
      · rw [h0] at hlt; simp at hlt
      · injection hv with hv1 hv2 hv3
        exact ⟨bb, oo, hv1, h5, h6 k x hx⟩
    subst hA
    have hkI : (k : Int) < (l.length : Int) := by omega
    have hOl : O.length ≤ 1001 := by have := congrArg List.length hO; rw [List.length_append] at this; omega
    have Hx := hid hx
    clear hx hdr
    cases b with
    | true =>
      have hO2 : (O ++ [x]) ++ withF n true (l.drop (k + 1)) = T := by rw [← hO, List.append_assoc]; rfl
      have HO2 := hid hO2
      have oN := HOW.out.alloc (.cells #[.int .i64 x] 3)
      have bN := hid (bl_alloc HBr.out (.cells #[.int .i64 x] 3))
      clear hO hO2
      go_wp2_with (at_builtin; refine wpList_append_own _ rfl _ _ 22 rfl w.heap.size 3 i3 (.int .i64 0) 1 8 Try.underlying22 hi3 hi30 hi31 hi32 rfl (by decide) v _ _ rfl oN ⟨wr.heap.size, 0, none⟩ 1 1 [.int .i64 x] rfl rfl (cell_one_new wr (.int .i64 x) 3) (fun z hz => by simp at hz; subst hz; rfl) (by unfold maxLen; omega) (by omega) (by simp; omega) ?_; intro v' w5 hown' hgrow5 hnil5; have HB5 := hid (bl_grown bN.out oN (by omega) hgrow5); have HOW5 := hid hown'; clear hown' hgrow5 hnil5)
      go_roundw
      case rel => exact ⟨k + 1, O ++ [x], true, _, by omega, by go_num, rfl, rfl, HO2.out, by rw [List.length_append, List.map_append]; exact HOW5.out, HB5.out⟩
      case measure => simp [intOf]; omega
    | false =>
      by_cases hn : n < x
      · have t1 : decide (n < x) = true := decide_eq_true hn
        have hO2 : ((O ++ [n]) ++ [x]) ++ withF n true (l.drop (k + 1)) = T := by rw [← hO]; unfold withF; rw [if_pos hn]; cases l.drop (k + 1) <;> simp [withF]
        have HO2 := hid hO2
        have oN := HOW.out.alloc (.cells #[.int .i64 n] 3)
        have bN := hid (bl_alloc HBr.out (.cells #[.int .i64 n] 3))
        clear hO hO2 hn
        go_upto_region 9 with (at_builtin; refine wpList_append_own _ rfl _ _ 22 rfl w.heap.size 3 i3 (.int .i64 0) 1 8 Try.underlying22 hi3 hi30 hi31 hi32 rfl (by decide) v _ _ rfl oN ⟨wr.heap.size, 0, none⟩ 1 1 [.int .i64 n] rfl rfl (cell_one_new wr (.int .i64 n) 3) (fun z hz => by simp at hz; subst hz; rfl) (by unfold maxLen; omega) (by omega) (by simp; omega) ?_; intro v' w5 hown' hgrow5 hnil5; have HB5 := hid (bl_grown bN.out oN (by omega) hgrow5); have HOW5 := hid hown'; clear hown' hgrow5 hnil5)
        obtain ⟨hbb5, hcy5⟩ : bb < w5.heap.size ∧ w5.cell? ⟨bb, oo + k, none⟩ = some (.int .i64 x) := by
          rcases HA.out.mono HB5.out with ⟨hv, h0⟩ | ⟨b2, o2, c3, hv, h4, h5, h6⟩
          · cases hv
          · injection hv with hv1 hv2 hv3
            injection hv1 with hv1
            injection hv1 with e1 e2
            subst e1 e2
            exact ⟨h5, h6 k x Hx.out⟩
        have hbs5 := HB5.out.size
        have oN5 := HOW5.out.alloc (.cells #[.int .i64 x] 3)
        have bN5 := hid (bl_alloc HB5.out (.cells #[.int .i64 x] 3))
        clear hcy hbb oN bN HBr HOW hbs
        go_wp2_with (at_builtin; refine wpList_append_own _ rfl _ _ 22 rfl w.heap.size 3 i3 (.int .i64 0) 1 8 Try.underlying22 hi3 hi30 hi31 hi32 rfl (by decide) v' _ _ rfl oN5 ⟨w5.heap.size, 0, none⟩ 1 1 [.int .i64 x] rfl rfl (cell_one_new w5 (.int .i64 x) 3) (fun z hz => by simp at hz; subst hz; rfl) (by unfold maxLen; omega) (by omega) (by simp; omega) ?_; intro v2 w6 hown' hgrow5 hnil5; have HB6 := hid (bl_grown bN5.out oN5 (by omega) hgrow5); have HOW6 := hid hown'; clear hown' hgrow5 hnil5)
        go_roundw
        case rel => exact ⟨k + 1, (O ++ [n]) ++ [x], true, _, by omega, by go_num, rfl, rfl, HO2.out, by rw [List.length_append, List.length_append, List.map_append, List.map_append]; exact HOW6.out, HB6.out⟩
        case measure => simp [intOf]; omega
      · have t1 : decide (n < x) = false := decide_eq_false hn
        have hwf : withF n false (x :: l.drop (k + 1)) = x :: withF n false (l.drop (k + 1)) := by conv => lhs; unfold withF; rw [if_neg hn]
        have hO2 : (O ++ [x]) ++ withF n false (l.drop (k + 1)) = T := by rw [← hO, hwf, List.append_assoc]; rfl
        clear hwf
        have HO2 := hid hO2
        have oN := HOW.out.alloc (.cells #[.int .i64 x] 3)
        have bN := hid (bl_alloc HBr.out (.cells #[.int .i64 x] 3))
        clear hO hO2 hn
        go_wp2_with (at_builtin; refine wpList_append_own _ rfl _ _ 22 rfl w.heap.size 3 i3 (.int .i64 0) 1 8 Try.underlying22 hi3 hi30 hi31 hi32 rfl (by decide) v _ _ rfl oN ⟨wr.heap.size, 0, none⟩ 1 1 [.int .i64 x] rfl rfl (cell_one_new wr (.int .i64 x) 3) (fun z hz => by simp at hz; subst hz; rfl) (by unfold maxLen; omega) (by omega) (by simp; omega) ?_; intro v' w5 hown' hgrow5 hnil5; have HB5 := hid (bl_grown bN.out oN (by omega) hgrow5); have HOW5 := hid hown'; clear hown' hgrow5 hnil5)
        go_roundw
        case rel => exact ⟨k + 1, O ++ [x], false, _, by omega, by go_num, rfl, rfl, HO2.out, by rw [List.length_append, List.map_append]; exact HOW5.out, HB5.out⟩
        case measure => simp [intOf]; omega
  · obtain rfl : k = l.length := by omega
    rw [List.drop_length] at hO
    cases b with
    | true =>
      have hT : O = T := by rw [← hO]; simp [withF]
      subst hT
      have HI := hid (ints_own rfl HOW.out)
      clear hO hlt
      go_wp2
      go_ret
      exact ⟨⟨_, rfl, HI.out⟩, HBr.out⟩
    | false =>
      have hT : O ++ [n] = T := hO
      subst hT
      have hOl : O.length ≤ 1001 := by simp at hTl; omega
      have oN := HOW.out.alloc (.cells #[.int .i64 n] 3)
      have bN := hid (bl_alloc HBr.out (.cells #[.int .i64 n] 3))
      clear hO hlt
      go_wp2_with (at_builtin; refine wpList_append_own _ rfl _ _ 22 rfl w.heap.size 3 i3 (.int .i64 0) 1 8 Try.underlying22 hi3 hi30 hi31 hi32 rfl (by decide) v _ _ rfl oN ⟨wr.heap.size, 0, none⟩ 1 1 [.int .i64 n] rfl rfl (cell_one_new wr (.int .i64 n) 3) (fun z hz => by simp at hz; subst hz; rfl) (by unfold maxLen; omega) (by omega) (by simp; omega) ?_; intro v' w5 hown' hgrow5 hnil5; have HB5 := hid (bl_grown bN.out oN (by omega) hgrow5); have HOW5 := hid hown'; clear hown' hgrow5 hnil5)
      go_ret
      exact ⟨⟨_, rfl, ints_own (l := O ++ [n]) rfl (by rw [List.length_append, List.map_append]; exact HOW5.out)⟩, HB5.out⟩

def freeP (want keep : List Int) (c : Int) : Bool := !want.contains c && !keep.contains c
def freeL (wd hg : Int) (want keep : List Int) : List Int := pickC (freeP want keep) (wd * hg).toNat
set_option maxRecDepth 100000 in
set_option maxHeartbeats 8000000 in
theorem rfree_any {wd hg : Int} {sw sk : Value} {want keep : List Int} (w : World) (hB : Board wd hg) (hlw : want.length ≤ 1000000) (hlk : keep.length ≤ 1000000) (hw : Ints w sw want) (hk : Ints w sk keep) :
    Calls Try.prog 52 #[.agg #[.int .i64 wd, .int .i64 hg, sw, sk]] w fun e w' => (∃ v, e = .returned v ∧ Ints w' v (freeL wd hg want keep)) ∧ Below w.heap.size w w' := by
  obtain ⟨i3, hi3, hi30, hi31, hi32⟩ := info_parts info3
  have hn := hB.nat
  have hn64 : (wd * hg).toNat ≤ 64 := by
    have e1 := Int.mul_le_mul hB.w.2 hB.h.2 (by have := hB.h; omega) (by omega)
    omega
  have GC := hid (fun W => cells_any wd hg sw sk W hB.w hB.h)
  unfold freeL
  obtain ⟨N, hN⟩ : ∃ N, (wd * hg).toNat = N := ⟨_, rfl⟩
  rw [hN] at hn hn64 ⊢
  rw [← hn] at GC
  obtain ⟨Q, hQ⟩ : ∃ Q, freeP want keep = Q := ⟨_, rfl⟩
  have HQ := hid hQ
  rw [hQ]
  clear hQ hn hN hB
  have HX_0 := hid (World.alloc_heap_new w (.cells #[.int .i64 wd, .int .i64 hg, sw, sk] 24))
  have hb0 := bl_alloc (bl_refl w) (.cells #[.int .i64 wd, .int .i64 hg, sw, sk] 24)
  have HB0 := hid hb0
  have HW_0 := hid (hw.mono hb0)
  have HK_0 := hid (hk.mono hb0)
  clear hb0 hw hk
  go_enter Try.func52, Try.ntmps52
  go_upto_region 1 with (fail)
  obtain ⟨w0, hw0⟩ : ∃ w0, w.alloc (.cells #[.int .i64 wd, .int .i64 hg, sw, sk] 24) = w0 := ⟨_, rfl⟩
  obtain ⟨X, hX⟩ : ∃ X, w.heap.size = X := ⟨_, rfl⟩
  rw [hX] at HX_0 ⊢
  rw [hw0] at HB0 HX_0 HW_0 HK_0 ⊢
  clear hw0 hX
  have HB1 := HB0
  go_wp2
  go_loopw [3, 4] (fun o p wr => ∃ (k : Nat) (v : Value), k ≤ N ∧ p = .int .i64 (k : Int) ∧ o = v ∧ wr.ownsRow w0.heap.size 3 1 v (pickC Q k).length ((pickC Q k).map (Value.int .i64)) ∧ Below w0.heap.size w0 wr) (fun _ p _ => N - (intOf p).toNat)
  case atStart => exact ⟨0, _, Nat.zero_le _, rfl, rfl, World.ownsRow_nil _ _ _ _, bl_refl _⟩
  case round =>
  obtain ⟨k, v, hk, rfl, hov, hown, hB⟩ := hrel
  obtain rfl := hov.symm
  have HOW := hid hown
  have HBr := hid hB
  have hbs := hB.size
  have hK := heap_mono HX_0.out hB
  have q0 : wr.cell? ⟨X, 0, none⟩ = some (.int .i64 wd) := cell_of_heap hK
  have q1 : wr.cell? ⟨X, 1, none⟩ = some (.int .i64 hg) := cell_of_heap hK
  have q2 : wr.cell? ⟨X, 2, none⟩ = some sw := cell_of_heap hK
  have q3 : wr.cell? ⟨X, 3, none⟩ = some sk := cell_of_heap hK
  have ql := (Array.getElem?_eq_some_iff.1 hK).1
  have hcall := GC.out wr
  clear hown hB hK
  go_wp2_with fail
  refine hcall.mono ?_
  rintro e w2 ⟨rfl, hb2⟩
  have HB2 := hid (bl_trans HBr.out hb2)
  have HOW2 := hid (own_mono HOW.out hb2)
  have hbs2 := hb2.size
  clear hcall hb2 q0 q1 q2 q3 ql HBr HOW
  by_cases hlt : k < N
  · have hkI : decide ((k : Int) < (N : Int)) = true := decide_eq_true (by omega)
    have hK := heap_mono HX_0.out HB2.out
    have q0 : w2.cell? ⟨X, 0, none⟩ = some (.int .i64 wd) := cell_of_heap hK
    have q1 : w2.cell? ⟨X, 1, none⟩ = some (.int .i64 hg) := cell_of_heap hK
    have q2 : w2.cell? ⟨X, 2, none⟩ = some sw := cell_of_heap hK
    have q3 : w2.cell? ⟨X, 3, none⟩ = some sk := cell_of_heap hK
    have ql := (Array.getElem?_eq_some_iff.1 hK).1
    have c1 := rhas_any want sw (k : Int) w2 hlw (HW_0.out.mono HB2.out)
    have c2 := rhas_any keep sk (k : Int) w2 hlk (HK_0.out.mono HB2.out)
    have hQk : Q (k : Int) = (!want.contains (k : Int) && !keep.contains (k : Int)) := by rw [← HQ.out]; rfl
    have hln := pickC_len Q k
    clear hK
    cases h1 : want.contains (k : Int) with
    | true =>
      rw [h1] at c1 hQk
      have hst := hid (pickC_no (show Q (k : Int) = false from hQk))
      clear h1 hQk c2
      go_wp2_with fail
      refine c1.mono ?_
      rintro e w8 ⟨rfl, hw8⟩
      obtain rfl := hw8.symm
      clear c1
      go_wp2
      go_roundw
      case rel => exact ⟨k + 1, _, by omega, by go_num, rfl, by rw [hst.out]; exact HOW2.out, HB2.out⟩
      case measure => simp [intOf]; omega
    | false =>
      rw [h1] at c1 hQk
      cases h2 : keep.contains (k : Int) with
      | true =>
        rw [h2] at c2 hQk
        have hst := hid (pickC_no (show Q (k : Int) = false from hQk))
        clear h1 h2 hQk
        go_wp2_with fail
        refine c1.mono ?_
        rintro e w8 ⟨rfl, hw8⟩
        obtain rfl := hw8.symm
        clear c1
        go_wp2_with fail
        refine c2.mono ?_
        rintro e w8 ⟨rfl, hw8⟩
        obtain rfl := hw8.symm
        clear c2
        go_wp2
        go_roundw
        case rel => exact ⟨k + 1, _, by omega, by go_num, rfl, by rw [hst.out]; exact HOW2.out, HB2.out⟩
        case measure => simp [intOf]; omega
      | false =>
        rw [h2] at c2 hQk
        have hst := hid (pickC_yes (show Q (k : Int) = true from hQk))
        have oN := HOW2.out.alloc (.cells #[.int .i64 (k : Int)] 3)
        have bN := hid (bl_alloc HB2.out (.cells #[.int .i64 (k : Int)] 3))
        clear h1 h2 hQk
        go_wp2_with fail
        refine c1.mono ?_
        rintro e w8 ⟨rfl, hw8⟩
        obtain rfl := hw8.symm
        clear c1
        go_wp2_with fail
        refine c2.mono ?_
        rintro e w8 ⟨rfl, hw8⟩
        obtain rfl := hw8.symm
        clear c2
        go_wp2_with (at_builtin; refine wpList_append_own _ rfl _ _ 22 rfl w0.heap.size 3 i3 (.int .i64 0) 1 8 Try.underlying22 hi3 hi30 hi31 hi32 rfl (by decide) v _ _ rfl oN ⟨w2.heap.size, 0, none⟩ 1 1 [.int .i64 (k : Int)] rfl rfl (cell_one_new w2 (.int .i64 (k : Int)) 3) (fun z hz => by simp at hz; subst hz; rfl) (by unfold maxLen; omega) (by omega) (by simp; omega) ?_; intro v' w5 hown' hgrow5 hnil5; have HB5 := hid (bl_grown bN.out oN (by omega) hgrow5); have HOW5 := hid hown'; clear hown' hgrow5 hnil5)
        go_roundw
        case rel => exact ⟨k + 1, _, by omega, by go_num, rfl, by rw [hst.out, List.length_append, List.map_append]; exact HOW5.out, HB5.out⟩
        case measure => simp [intOf]; omega
  · obtain rfl : k = N := by omega
    have hkI : decide ((k : Int) < (k : Int)) = false := decide_eq_false (by omega)
    have HI := hid (ints_own rfl HOW2.out)
    have HB5 := hid (bl_trans HB1.out HB2.out)
    clear hlt
    go_wp2
    go_ret
    exact ⟨⟨_, rfl, HI.out⟩, HB5.out⟩
end Go.Proofs.Ytlkoadcbolkhoaa
