/- The cells that are reached from those that are wanted: the walk. -/
import Derived.Test.YtlkoadcbolkhoaaNewr
import Derived.Laws.CopyRow
import Derived.Deep.WholeRow
set_option linter.all false
namespace Go.Proofs.Ytlkoadcbolkhoaa
open Go Go.RowKit Go.Proofs
attribute [local go_sem] cell_grow frozen_grow

/-- The cells up to one that have the property. -/
def pickC (p : Int → Bool) (k : Nat) : List Int := ((List.range k).map fun (i : Nat) => (i : Int)).filter p
theorem pickC_yes {p : Int → Bool} {k : Nat} (h : p (k : Int) = true) : pickC p (k + 1) = pickC p k ++ [(k : Int)] := by simp [pickC, List.range_succ, List.filter_append, h]
theorem pickC_no {p : Int → Bool} {k : Nat} (h : p (k : Int) = false) : pickC p (k + 1) = pickC p k := by simp [pickC, List.range_succ, List.filter_append, h]
theorem pickC_len (p : Int → Bool) (k : Nat) : (pickC p k).length ≤ k := by
  unfold pickC
  refine Nat.le_trans (List.length_filter_le _ _) ?_
  simp

set_option maxRecDepth 100000 in
set_option maxHeartbeats 8000000 in
theorem small_any {RP MB : Nat} {wd hg : Int} {sw sk : Value} {want keep : List Int} {m : Int} {u : Used} (n : Nat) (w : World) (hR : RaftAt w RP MB wd hg sw sk want keep m u) (hV : Valid wd hg want keep) (hn : wd * hg = (n : Int)) :
    Calls Try.prog 73 #[.pointer (some ⟨RP, 0, none⟩)] w fun e w' => (∃ s, e = .returned s ∧ Ints w' s (pickC (fun c => decide (0 ≤ (at_ (reachU u wd hg want keep).1 c).1)) n)) ∧ Below w.heap.size w w' := by
  obtain ⟨i3, hi3, hi30, hi31, hi32⟩ := info_parts info3
  obtain ⟨b, ⟨x, y⟩, o, hT⟩ : ∃ b l o, reachU u wd hg want keep = (b, l, o) := ⟨_, _, _, rfl⟩
  have hcall := reach_of n w hR hV hn hT
  have hL : b.length = n := by have := (reached (u := u) (keep := keep) hV.B hV.w).1; rw [hT, hn, Int.toNat_natCast] at this; exact this
  have hc64 := hV.cells
  rw [hn] at hc64
  rw [hT]
  have HL := hid hL
  have HC := hid hc64
  obtain ⟨p, hp⟩ : ∃ p : Int → Bool, (fun c => decide (0 ≤ (at_ b c).1)) = p := ⟨_, rfl⟩
  have HP := hid (show ∀ c, p c = decide (0 ≤ (at_ b c).1) from fun c => by rw [← hp])
  simp only
  rw [hp]
  clear hT hR hc64 hL hV hn hp
  go_enter Try.func73, Try.ntmps73
  go_wp2_with fail
  refine hcall.mono ?_
  rintro e w1 ⟨⟨G, rfl, hs⟩, hb⟩
  have hbb := bl_alloc (bl_refl w1) (.cells #[.int .i64 x, .int .i64 y] 104)
  have HB := hid (bl_trans hb hbb)
  have HS := hid (hs.mono hbb)
  clear hcall hs hbb hb
  go_wp2
  obtain ⟨w2, hw2⟩ : ∃ w2, w1.alloc (.cells #[.int .i64 x, .int .i64 y] 104) = w2 := ⟨_, rfl⟩
  rw [hw2] at HS HB ⊢
  clear hw2
  go_loopw [6, 17] (fun s q wr => ∃ (k : Nat) (v : Value), k ≤ n ∧ q = .int .i64 (k : Int) ∧ s = v ∧ wr.ownsRow w2.heap.size 3 1 v (pickC p k).length ((pickC p k).map (Value.int .i64)) ∧ Below w2.heap.size w2 wr) (fun _ q _ => n - (intOf q).toNat)
  case atStart => exact ⟨0, _, Nat.zero_le _, rfl, rfl, World.ownsRow_nil _ _ _ _, bl_refl _⟩
  case round =>
    obtain ⟨k, v, hk, rfl, hsv, hown, hB⟩ := hrel
    obtain rfl := hsv.symm
    have hs := HS.out.mono hB
    have hc2 := HC.out.2
    have gl := hs.lt
    by_cases hlt : k < n
    · have hkb : k < b.length := by rw [HL.out]; exact hlt
      obtain ⟨⟨c, d⟩, hcd⟩ := get_at hkb
      have hat : at_ b (k : Int) = (c, d) := by unfold at_; rw [Int.toNat_natCast, List.getD_eq_getElem?_getD, hcd]; rfl
      have hp := HP.out (k : Int)
      rw [hat] at hp
      simp only at hp
      have g0 := hs.c0 hcd
      have g1 := hs.c1 hcd
      have hkI : (k : Int) < (n : Int) := by omega
      have hbs := hB.size
      clear hs hcd hat hkb
      cases hpk : p (k : Int) with
      | true =>
        have hst := hid (pickC_yes hpk)
        rw [hpk] at hp
        have t1 := hp.symm
        have hln := pickC_len p k
        have hown2 := (hown.alloc (.cells #[.int .i64 c, .int .i64 d] 104)).alloc (.cells #[.int .i64 (k : Int)] 3)
        have HBB := hid (bl_alloc (bl_alloc hB (.cells #[.int .i64 c, .int .i64 d] 104)) (.cells #[.int .i64 (k : Int)] 3))
        clear hp hpk hown
        go_wp2_with (at_builtin; refine wpList_append_own _ rfl _ _ 22 rfl w2.heap.size 3 i3 (.int .i64 0) 1 8 Try.underlying22 hi3 hi30 hi31 hi32 rfl (by decide) v _ _ rfl hown2 ⟨wr.heap.size + 1, 0, none⟩ 1 1 [.int .i64 (k : Int)] rfl rfl (by have := cell_one_new (wr.alloc (.cells #[.int .i64 c, .int .i64 d] 104)) (.int .i64 (k : Int)) 3; rw [World.size_alloc] at this; exact this) (fun x hx => by simp at hx; subst hx; rfl) (by unfold maxLen; omega) (by omega) (by simp; omega) ?_; intro v' w5 hown' hgrow5 hnil5; have HB5 := hid (bl_grown HBB.out hown2 (by omega) hgrow5); have HOW := hid hown'; clear hown' hgrow5 hnil5)
        go_roundw
        case rel => exact ⟨k + 1, _, by omega, by go_num, rfl, by rw [hst.out, List.length_append, List.map_append]; exact HOW.out, HB5.out⟩
        case measure => simp [intOf]; omega
      | false =>
        have hst := hid (pickC_no hpk)
        rw [hpk] at hp
        have t1 := hp.symm
        have HBB := hid (bl_alloc hB (.cells #[.int .i64 c, .int .i64 d] 104))
        have HOW := hid (hown.alloc (.cells #[.int .i64 c, .int .i64 d] 104))
        clear hp hpk hown
        go_wp2
        go_roundw
        case rel => exact ⟨k + 1, _, by omega, by go_num, rfl, by rw [hst.out]; exact HOW.out, HBB.out⟩
        case measure => simp [intOf]; omega
    · obtain rfl : k = n := by omega
      have HOW := hid hown
      have HB2 := hid (bl_trans HB.out hB)
      clear hs gl hown hB hlt
      go_wp2
      go_ret
      exact ⟨⟨_, rfl, ints_own rfl HOW.out⟩, HB2.out⟩
end Go.Proofs.Ytlkoadcbolkhoaa

/- A list copied into a new row; the smallest best water. -/
namespace Go.Proofs.Ytlkoadcbolkhoaa
open Go Go.RowKit Go.Proofs
attribute [local go_sem] cell_grow frozen_grow

def ints (l : List Int) : List Value := l.map (Value.int .i64)
theorem made_zero (n : Nat) : madeCells (Value.int .i64 0).cells n = (ints (List.replicate n (0 : Int))).toArray := by
  apply Array.ext
  · simp [madeCells, ints]
  · intro i h1 h2
    simp [madeCells, Value.cells, Nat.mod_one, ints]
/-- One row of zeros more: made, laid into a row of one cell, appended. -/
theorem ints_one (l : List Int) : ∀ u ∈ ints l, u.oneCell' = true := fun u hu => by
  obtain ⟨x, _, rfl⟩ := List.mem_map.mp hu
  rfl
/-- A row that has just been made is filled. -/
theorem copy_made {W : World} {b o D c : Nat} {r : List Int} (hr : r.length = D) (hc : ∀ (i : Nat) (x : Int), r[i]? = some x → W.cell? ⟨b, o + i, none⟩ = some (.int .i64 x)) :
    (Builtin.copy_ #[22, 22] 3 #[.slice (some ⟨W.heap.size, 0, none⟩) D D, .slice (some ⟨b, o, none⟩) D c]).run Try.prog (W.alloc (.cells (ints (List.replicate D (0 : Int))).toArray 3)) = .ok (.int .i64 (D : Int)) (W.alloc (.cells (ints r).toArray 3)) := by
  have hl : (ints r).length = D := by simp [ints, hr]
  have hb : ∀ (i : Nat) (x : Int), r[i]? = some x → (W.alloc (.cells (ints (List.replicate D (0 : Int))).toArray 3)).cell? ⟨b, o + i, none⟩ = some (.int .i64 x) := fun i x hx => cell_mono (hc i x hx) (bl_alloc (bl_refl _) _)
  have h := run_copy_row (P := Try.prog) (W.alloc (.cells (ints (List.replicate D (0 : Int))).toArray 3)) 22 22 3 3 W.heap.size 0 D D ⟨b, o, none⟩ D c (ints (List.replicate D (0 : Int))).toArray 3 (ints r) Try.underlying22 (by kernel_rfl) (World.alloc_heap_new W _) (by rw [hl]; simp)
    (fun j v hv => by
      rw [ints, List.getElem?_map] at hv
      obtain ⟨y, hy, rfl⟩ := Option.map_eq_some_iff.mp hv
      rw [Addr.add_lit]
      exact hb j y hy) (by rw [hl]; simp [ints]) (ints_one r)
  rw [h, World.setRow_alloc_new, hl]
  simp [ints, goInt]
theorem copy_none {W : World} : (Builtin.copy_ #[22, 22] 3 #[.slice (some ⟨W.heap.size, 0, none⟩) 0 0, .slice none 0 0]).run Try.prog (W.alloc (.cells (ints []).toArray 3)) = .ok (.int .i64 0) (W.alloc (.cells (ints []).toArray 3)) := by
  simp [Builtin.copy_, go_sem, goInt]

theorem small_pick {wd hg : Int} {want keep : List Int} {n : Nat} (hn : wd * hg = (n : Int)) : pickC (fun c => decide (0 ≤ (at_ (reachU (raft wd hg want keep).1 wd hg want keep).1 c).1)) n = smallL wd hg want keep := by
  unfold smallL pickC
  rw [hn, Int.toNat_natCast]
  rfl
theorem ints_row {W : World} {g : Nat} {l : List Int} (h : W.heap[g]? = some (.cells (ints l).toArray 3 (0, 0))) : Ints W (.slice (some ⟨g, 0, none⟩) l.length l.length) l :=
  .inr ⟨g, 0, l.length, rfl, Nat.le_refl _, (Array.getElem?_eq_some_iff.1 h).1, fun i x hx => (cell_of_heap h).trans (by simp [ints, hx])⟩
def smallV (wd hg : Int) (want keep : List Int) : List Int := if pondE wd hg want keep = 0 then smallL wd hg want keep else []
set_option maxRecDepth 100000 in
set_option maxHeartbeats 8000000 in
theorem smallest_any {wd hg : Int} {sw sk : Value} {want keep : List Int} (w : World) (hlw : want.length ≤ 1000000) (hlk : keep.length ≤ 1000000) (hw : Ints w sw want) (hk : Ints w sk keep) :
    Calls Try.prog 26 #[.agg #[.int .i64 wd, .int .i64 hg, sw, sk]] w fun e w' => (∃ s, e = .returned (.tuple #[s, .int .i64 (pondE wd hg want keep)]) ∧ Ints w' s (smallV wd hg want keep)) ∧ Below w.heap.size w w' := by
  obtain ⟨i3, hi3, hi30, hi31, hi32⟩ := info_parts info3
  have hb0 := bl_alloc (bl_refl w) (.cells #[.int .i64 wd, .int .i64 hg, sw, sk] 24)
  have k0 := World.alloc_heap_new w (.cells #[.int .i64 wd, .int .i64 hg, sw, sk] 24)
  have HB0 := hid hb0
  have HK0 := hid k0
  have hcall := open_any (wd := wd) (hg := hg) (w.alloc (.cells #[.int .i64 wd, .int .i64 hg, sw, sk] 24)) hlw hlk (hw.mono hb0) (hk.mono hb0)
  clear hw hk hb0 k0
  obtain ⟨FV, hFV⟩ : ∃ FV, smallV wd hg want keep = FV := ⟨_, rfl⟩
  have HFV := hid hFV
  rw [hFV]
  clear hFV
  obtain ⟨E, hE⟩ : ∃ E, pondE wd hg want keep = E := ⟨_, rfl⟩
  have HE := hid hE
  rw [hE] at hcall ⊢
  clear hE
  go_enter Try.func26, Try.ntmps26
  go_upto_region 1 with (fail)
  obtain ⟨w1, hw1⟩ : ∃ w1, w.alloc (.cells #[.int .i64 wd, .int .i64 hg, sw, sk] 24) = w1 := ⟨_, rfl⟩
  obtain ⟨X, hX⟩ : ∃ X, w.heap.size = X := ⟨_, rfl⟩
  rw [hX] at HK0 ⊢
  rw [hw1] at HB0 HK0 hcall ⊢
  clear hw1
  have q0 : w1.cell? ⟨X, 0, none⟩ = some (.int .i64 wd) := cell_of_heap HK0.out
  have q1 : w1.cell? ⟨X, 1, none⟩ = some (.int .i64 hg) := cell_of_heap HK0.out
  have q2 : w1.cell? ⟨X, 2, none⟩ = some sw := cell_of_heap HK0.out
  have q3 : w1.cell? ⟨X, 3, none⟩ = some sk := cell_of_heap HK0.out
  have ql := (Array.getElem?_eq_some_iff.1 HK0.out).1
  go_wp2_with fail
  refine hcall.mono ?_
  rintro e w2 ⟨hcase, hb2⟩
  have HB2 := hid (bl_trans HB0.out hb2)
  clear q0 q1 q2 q3 ql hcall HB0 HK0 hb2
  rcases hcase with ⟨rfl, RP, MB, rfl, hr, _⟩ | ⟨h0, rfl⟩
  · have hV := pond_valid HE.out
    have hn0 := hV.cells
    obtain ⟨n, hn⟩ : ∃ n : Nat, wd * hg = (n : Int) := ⟨(wd * hg).toNat, by omega⟩
    have hcall := small_any n w2 hr hV hn
    rw [small_pick hn, show smallL wd hg want keep = FV by rw [← HFV.out]; unfold smallV; rw [if_pos HE.out]] at hcall
    have hlen : FV.length ≤ n := by rw [← HFV.out]; unfold smallV; rw [if_pos HE.out, ← small_pick hn]; exact pickC_len _ _
    have hn64 : n ≤ 64 := by omega
    clear hr hV hn0 hn
    go_wp2_with fail
    refine hcall.mono ?_
    rintro e w3 ⟨⟨s, rfl, hs⟩, hb3⟩
    have HB3 := hid (bl_trans HB2.out hb3)
    have hmk := run_makeSlice w3 22 3 i3 (.int .i64 0) Try.underlying22 hi3 hi30 .i64 .i64 (FV.length : Int) (FV.length : Int) (by omega) (by omega) (by rw [hi31]; omega) (by rw [hi32]; omega) (by omega)
    rw [Int.toNat_natCast, hi31, Nat.mul_one, made_zero] at hmk
    have hbb := bl_alloc HB3.out (.cells (ints FV).toArray 3)
    have hrow := ints_row (World.alloc_heap_new w3 (.cells (ints FV).toArray 3))
    have HBB := hid hbb
    have HROW := hid hrow
    clear hcall hb3 hbb hrow
    rcases hs with ⟨rfl, rfl⟩ | ⟨b, off, c, rfl, hc1, hbl, hc⟩
    · have hcp := @copy_none w3
      have hmk0 : (Instr.makeSlice 22 (.int .i64 0) (.int .i64 0)).run Try.prog w3 = .ok (.slice (some ⟨w3.heap.size, 0, none⟩) 0 0) (w3.alloc (.cells (ints []).toArray 3)) := hmk
      clear hmk
      go_wp2
      go_ret2
      exact ⟨⟨_, rfl, HROW.out⟩, HBB.out⟩
    · have hcp := copy_made (c := c) rfl hc
      clear hc
      go_wp2
      go_ret2
      exact ⟨⟨_, rfl, HROW.out⟩, HBB.out⟩
  · have t0 : (E == 0) = false := beq_eq_false_iff_ne.2 h0
    have hf : FV = [] := by rw [← HFV.out]; unfold smallV; rw [if_neg (by rw [HE.out]; exact h0)]
    subst hf
    clear h0
    go_wp2
    go_ret2
    exact ⟨⟨_, rfl, .inl ⟨rfl, rfl⟩⟩, HB2.out⟩
end Go.Proofs.Ytlkoadcbolkhoaa
