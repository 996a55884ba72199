/- The reference: Span. -/
import Derived.Test.YtfchcikdcnloaaaRefl
namespace Go.Proofs.Ytfchcikdcnloaaa
open Go Go.RowKit Go.Proofs
attribute [local go_sem] cell_grow frozen_grow

set_option maxRecDepth 100000 in
set_option maxHeartbeats 8000000 in
theorem refSpan_ok (had : List Int) (part prize : Int) (j : Nat) (s : Value) (w : World) (V : Val had part prize) (hj : j < had.length) (hs : Ints w s had) :
    Calls Try.prog 36 #[.agg #[s, .int .i64 part, .int .i64 prize], .int .i64 j] w fun e w' => e = .returned (.tuple #[encQ (refSpan had part (sharesE had part prize) j), .int .i64 0]) ∧ Below w.heap.size w w' := by
  obtain ⟨A, c, rfl⟩ := hs.slice
  have hv1 := V.l1
  have hv2 := V.l2
  have h0 := checkPool_ok.2 V
  have hO : ownedE had part prize j = 0 := ownedE_ok.2 ⟨V, by omega, by omega⟩
  obtain ⟨hl, hsh, he⟩ := shares_facts V
  have hbb := bl_alloc (bl_alloc (bl_refl w) (.cells #[.slice A had.length c, .int .i64 part, .int .i64 prize] 24)) (.cells #[.int .i64 0, .int .i64 0] 47)
  have how := refOwned_any had part prize j (.slice A had.length c) ((w.alloc (.cells #[.slice A had.length c, .int .i64 part, .int .i64 prize] 24)).alloc (.cells #[.int .i64 0, .int .i64 0] 47)) (by omega) (hs.mono hbb)
  rw [hO] at how
  have hsc : Hid (∀ W, Below w.heap.size w W → Calls Try.prog 26 #[.agg #[.slice A had.length c, .int .i64 part, .int .i64 prize]] W fun e w' => (∃ v, e = .returned (.tuple #[v, .int .i64 0]) ∧ Ints w' v (sharesE had part prize)) ∧ Below W.heap.size W w') := fun W hW => by
    have := refShares_any had part prize (.slice A had.length c) W (by omega) (hs.mono hW)
    rwa [h0] at this
  have hmk := (lasts_one V (gotEnd_ok V) (end_fair V) he hj).2.2
  obtain ⟨x, hx⟩ := get_at (l := sharesE had part prize) (k := j) (by omega)
  obtain ⟨z, hz⟩ := get_at (l := lastAll had part (sharesE had part prize) had.length had.length) (k := j) (by rw [lastAll_len]; exact hj)
  have hxb := hsh x (List.mem_of_getElem? hx)
  have hsp : refSpan had part (sharesE had part prize) j = if z = 1 then (x - 1, x) else if z = 2 then (x, x + 1) else (x, x) := by
    unfold refSpan
    simp only [List.getD, hx, hz, Option.getD_some]
  have hz3 : z = 0 ∨ z = 1 ∨ z = 2 := by
    simp only [List.getD, hz, Option.getD_some] at hmk
    exact hmk
  have HSP := hid hsp
  clear hmk hsp
  generalize sharesE had part prize = sh at *
  have HL := hid hl
  have HSH := Lib.hid hsh
  have HX := hid hx
  have HZ := hid hz
  clear h0 he hO hx hz hl
  go_enter Try.func36, Try.ntmps36
  go_wp2_with fail
  refine how.mono ?_
  rintro e w1 ⟨rfl, hb1⟩
  have hB1 := bl_trans hbb hb1
  have k1 := heap_new (w := w) (bl_trans (bl_alloc (bl_refl _) _) hb1)
  have k2 := heap_new (w := w.alloc (.cells #[.slice A had.length c, .int .i64 part, .int .i64 prize] 24)) hb1
  simp only [World.size_alloc] at k2
  have hr1 := fun i => cell_of_heap (i := i) k1
  have hl1 : w.heap.size < w1.heap.size := (Array.getElem?_eq_some_iff.1 k1).1
  have K1 := hid k1
  have K2 := hid k2
  clear how k1 k2 hb1
  go_wp2_with fail
  refine (hsc.out _ hB1).mono ?_
  rintro e w2 ⟨⟨v, rfl, hI⟩, hb2⟩
  obtain ⟨b2, off2, c2, rfl, _, hbl2, hcell2⟩ := hI.some (by rw [HL.out]; exact hv1)
  have hB2 := bl_trans hB1 hb2
  have hr2 := fun i => cell_of_heap (i := i) (heap_mono K1.out hb2)
  have hl2 : w.heap.size < w2.heap.size := Nat.lt_of_lt_of_le hl1 hb2.size
  have hcx := hcell2 j x HX.out
  have hjl : (j : Int) < (sh.length : Int) := by rw [HL.out]; omega
  have hjl' : j < sh.length := by rw [HL.out]; omega
  have K22 := hid (heap_mono K2.out hb2)
  clear hcell2 hr1 hsc hb2
  go_wp2_with fail
  refine (refLasts_any had part prize sh _ _ _ V HL.out HSH.out (hs.mono hB2) hI).mono ?_
  rintro e w3 ⟨rfl, hR, hb3⟩
  have hB3 := bl_trans hB2 hb3
  have hRl : w2.heap.size + 1 < w3.heap.size := (Array.getElem?_eq_some_iff.1 hR).1
  have hcz := hR.cell HZ.out
  have k3 := heap_mono K22.out hb3
  have h4 := fun i => cell_of_heap (i := i) k3
  have h4f : ∀ i, w3.frozen? ⟨w.heap.size + 1, i, none⟩ = false := fun i => frozen_of_heap k3
  have h4l : w.heap.size + 1 < w3.heap.size := (Array.getElem?_eq_some_iff.1 k3).1
  clear hR hI hs hr2 k3 hcx hb3
  rcases hz3 with rfl | rfl | rfl
  · have hE := hid (show refSpan had part sh j = (x, x) by rw [HSP.out]; simp)
    go_wp2
    refine bodyPost_ret (v := .tuple #[.agg #[.int .i64 x, .int .i64 x], .int .i64 0]) (by simp [results, Try.results36, go_sem, h4]) rfl ⟨by rw [hE.out]; rfl, ?_⟩
    exact bl_set (bl_set hB3 _ (by omega)) _ (by omega)
  · have hE := hid (show refSpan had part sh j = (x - 1, x) by rw [HSP.out]; simp)
    go_wp2
    refine bodyPost_ret (v := .tuple #[.agg #[.int .i64 (x - 1), .int .i64 x], .int .i64 0]) (by simp [results, Try.results36, go_sem, h4]) rfl ⟨by rw [hE.out]; rfl, ?_⟩
    exact bl_set (bl_set hB3 _ (by omega)) _ (by omega)
  · have hE := hid (show refSpan had part sh j = (x, x + 1) by rw [HSP.out]; simp)
    go_wp2
    refine bodyPost_ret (v := .tuple #[.agg #[.int .i64 x, .int .i64 (x + 1)], .int .i64 0]) (by simp [results, Try.results36, go_sem, h4]) rfl ⟨by rw [hE.out]; rfl, ?_⟩
    exact bl_set (bl_set hB3 _ (by omega)) _ (by omega)

theorem refSpan_any (had : List Int) (part prize owner : Int) (s : Value) (w : World) (hl : had.length ≤ 1000) (hs : Ints w s had) :
    Calls Try.prog 36 #[.agg #[s, .int .i64 part, .int .i64 prize], .int .i64 owner] w fun e w' => e = .returned (.tuple #[encQ (spanR had part prize owner), .int .i64 (ownedE had part prize owner)]) ∧ Below w.heap.size w w' := by
  by_cases h0 : ownedE had part prize owner = 0
  · obtain ⟨V, h1, h2⟩ := ownedE_ok.mp h0
    obtain ⟨j, rfl⟩ : ∃ j : Nat, owner = j := ⟨owner.toNat, by omega⟩
    rw [spanR, if_pos h0, h0, Int.toNat_natCast, span_law V (shares_facts V).2.2 (by omega)]
    exact refSpan_ok had part prize j s w V (by omega) hs
  · rw [spanR, if_neg h0]
    obtain ⟨A, c, rfl⟩ := hs.slice
    have hne : (ownedE had part prize owner != 0) = true := by simpa using h0
    have hbb := bl_alloc (bl_alloc (bl_refl w) (.cells #[.slice A had.length c, .int .i64 part, .int .i64 prize] 24)) (.cells #[.int .i64 0, .int .i64 0] 47)
    have hcall : Hid (∀ W, Below w.heap.size w W → Calls Try.prog 70 #[.agg #[.slice A had.length c, .int .i64 part, .int .i64 prize], .int .i64 owner] W fun e w' => e = .returned (.int .i64 (ownedE had part prize owner)) ∧ Below W.heap.size W w') := fun W hW => refOwned_any had part prize owner _ W hl (hs.mono hW)
    clear h0
    go_enter Try.func36, Try.ntmps36
    go_wp2_with fail
    refine (hcall.out _ hbb).mono ?_
    rintro e w1 ⟨rfl, hb1⟩
    have hB1 := bl_trans hbb hb1
    have k1 := heap_new (w := w) (bl_trans (bl_alloc (bl_refl _) _) hb1)
    have k2 := heap_new (w := w.alloc (.cells #[.slice A had.length c, .int .i64 part, .int .i64 prize] 24)) hb1
    simp only [World.size_alloc] at k2
    have hr1 := fun i => cell_of_heap (i := i) k1
    have hl1 : w.heap.size < w1.heap.size := (Array.getElem?_eq_some_iff.1 k1).1
    have K2 := hid k2
    clear k1 k2
    go_wp2_with fail
    refine (hcall.out _ hB1).mono ?_
    rintro e w2 ⟨rfl, hb2⟩
    have k3 := heap_mono K2.out hb2
    have h4 := fun i => cell_of_heap (i := i) k3
    have h4f : ∀ i, w2.frozen? ⟨w.heap.size + 1, i, none⟩ = false := fun i => frozen_of_heap k3
    have h4l : w.heap.size + 1 < w2.heap.size := (Array.getElem?_eq_some_iff.1 k3).1
    clear hr1 k3 hb1
    go_wp2
    refine bodyPost_ret (v := .tuple #[.agg #[.int .i64 0, .int .i64 0], .int .i64 (ownedE had part prize owner)]) (by simp [results, Try.results36, go_sem, h4]) rfl ⟨rfl, ?_⟩
    exact bl_set (bl_set (bl_trans hB1 hb2) _ (by omega)) _ (by omega)

end Go.Proofs.Ytfchcikdcnloaaa
