/- The chapter's rivers: the walks. -/
import Derived.Test.YtbnmjbmlejifcaaLawa
import Derived.Test.YtbnmjbmlejifcaaKnown
set_option linter.all false
namespace Go.Proofs.Ytbnmjbmlejifcaa
open Go Go.RowKit Go.Proofs
attribute [local go_sem] cell_grow frozen_grow

theorem reach_any (x : Rch) (w : World) : Calls Try.prog 53 #[.int .i64 x.down, .int .i64 x.pass, .int .i64 x.takes, .int .i64 x.lo, .int .i64 x.hi, .int .i64 x.every, .int .i64 x.logs, .int .i64 x.ready] w fun e w' => e = .returned (encR x) ∧ Below w.heap.size w w' := by
  unfold encR
  go_enter Try.func53, Try.ntmps53
  go_wp2
  refine bodyPost_ret (v := encR x) (by simp [results, Try.results53, go_sem, encR]) rfl ⟨rfl, ?_⟩
  exact bl_alloc (bl_refl _) _

theorem river_any (last : Int) (w : World) : Calls Try.prog 54 #[.int .i64 last] w fun e w' => (∃ s, e = .returned (.agg #[.int .i64 10, s]) ∧ Rchs w' s (rvL last)) ∧ Below w.heap.size w w' := by
  have HQ := hid (World.alloc_heap_new w (.cells #[.int .i64 0, .slice none 0 0] 24))
  have HB := hid (bl_alloc (bl_refl w) (.cells #[.int .i64 0, .slice none 0 0] 24))
  go_enter Try.func54, Try.ntmps54
  go_upto_region 1 with (fail)
  obtain ⟨Q, hQ⟩ : ∃ Q, w.heap.size = Q := ⟨_, rfl⟩
  obtain ⟨w0, hw0⟩ : ∃ w0, w.alloc (.cells #[.int .i64 0, .slice none 0 0] 24) = w0 := ⟨_, rfl⟩
  have HQB : Hid (w.heap.size ≤ Q) := by show w.heap.size ≤ Q; omega
  rw [hQ] at HQ ⊢
  rw [hw0] at HQ HB ⊢
  clear hw0 hQ
  have h1 := reach_any ⟨2, 3, 1, 1, 6, 1, 10, 1⟩ w0
  unfold encR at h1
  go_wp2_with fail
  refine h1.mono ?_
  rintro e w1 ⟨rfl, hb1⟩
  clear h1
  have h2 := reach_any ⟨2, 5, 2, 1, 10, 2, 8, 2⟩ w1
  unfold encR at h2
  go_wp2_with fail
  refine h2.mono ?_
  rintro e w2 ⟨rfl, hb2⟩
  clear h2
  have h3 := reach_any ⟨-1, 4, 1, 2, last, 1, 2, 1⟩ w2
  unfold encR at h3
  go_wp2_with fail
  refine h3.mono ?_
  rintro e w3 ⟨rfl, hb3⟩
  have hb03 := bl_trans (bl_trans hb1 hb2) hb3
  have HQ3 := hid (heap_mono HQ.out hb03)
  have HB3 := hid (bl_trans HB.out hb03)
  clear h3 hb1 hb2 hb3 hb03 HQ HB
  have ba := bl_alloc (bl_refl w3) (.cells (rcs (rvL last)).toArray 59)
  have HQ4 := hid (heap_mono HQ3.out ba)
  have HB4 := hid (bl_trans HB3.out ba)
  have HN4 := hid (World.alloc_heap_new w3 (.cells (rcs (rvL last)).toArray 59))
  have s0 : (w3.alloc (.cells (rcs (rvL last)).toArray 59)).cell? ⟨Q, 0, none⟩ = some (.int .i64 0) := cell_of_heap HQ4.out
  have s1 : (w3.alloc (.cells (rcs (rvL last)).toArray 59)).cell? ⟨Q, 1, none⟩ = some (.slice none 0 0) := cell_of_heap HQ4.out
  have z0 : (w3.alloc (.cells (rcs (rvL last)).toArray 59)).frozen? ⟨Q, 0, none⟩ = false := frozen_of_heap HQ4.out
  have z1 : (w3.alloc (.cells (rcs (rvL last)).toArray 59)).frozen? ⟨Q, 1, none⟩ = false := frozen_of_heap HQ4.out
  clear ba HQ3 HB3
  simp only [rcs, rvL, rc, List.flatMap_cons, List.flatMap_nil, List.cons_append, List.nil_append, List.append_nil] at s0 s1 z0 z1
  have i59 := info59
  go_wp2
  obtain ⟨G, hG⟩ : ∃ G, w3.heap.size = G := ⟨_, rfl⟩
  obtain ⟨w4, hw4⟩ : ∃ w4, w3.alloc (.cells #[.int .i64 2, .int .i64 3, .int .i64 1, .int .i64 1, .int .i64 6, .int .i64 1, .int .i64 10, .int .i64 1, .int .i64 2, .int .i64 5, .int .i64 2, .int .i64 1, .int .i64 10, .int .i64 2, .int .i64 8, .int .i64 2, .int .i64 (-1), .int .i64 4, .int .i64 1, .int .i64 2, .int .i64 last, .int .i64 1, .int .i64 2, .int .i64 1] 59) = w4 := ⟨_, rfl⟩
  have hw4' : w3.alloc (.cells (rcs (rvL last)).toArray 59) = w4 := hw4
  rw [hw4'] at HQ4 HB4 HN4
  rw [hG] at HN4 ⊢
  rw [hw4]
  clear s0 s1 z0 z1 hw4 hw4' i59
  have HO4 : Hid (OwnR w4 G (rvL last)) := ⟨⟨_, HN4.out, fun k u hu => by simpa using hu⟩⟩
  have hne : G ≠ Q := ne_type HN4.out HQ4.out (by decide)
  have HB5 := hid (bl_set (bl_set HB4.out (o := 0) (.int .i64 10) HQB.out) (o := 1) (.slice (some ⟨G, 0, none⟩) 3 3) HQB.out)
  have HO5 : Hid (OwnR ((w4.setCell ⟨Q, 0, none⟩ (.int .i64 10)).setCell ⟨Q, 1, none⟩ (.slice (some ⟨G, 0, none⟩) 3 3)) G (rvL last)) := by
    obtain ⟨cs, h1, h2⟩ := HO4.out.box
    exact ⟨⟨cs, past_set hne (past_set hne h1), h2⟩⟩
  have h5 : (w4.setCell ⟨Q, 0, none⟩ (.int .i64 10)).heap[Q]? = some (.cells #[.int .i64 10, .slice none 0 0] 24 (0, 0)) := by rw [heap_setCell_same _ _ _ _ _ _ HQ4.out]; rfl
  have h6 : ((w4.setCell ⟨Q, 0, none⟩ (.int .i64 10)).setCell ⟨Q, 1, none⟩ (.slice (some ⟨G, 0, none⟩) 3 3)).heap[Q]? = some (.cells #[.int .i64 10, .slice (some ⟨G, 0, none⟩) 3 3] 24 (0, 0)) := by rw [heap_setCell_same _ _ _ _ _ _ h5]; rfl
  obtain ⟨w5, hw5⟩ : ∃ w5, (w4.setCell ⟨Q, 0, none⟩ (.int .i64 10)).setCell ⟨Q, 1, none⟩ (.slice (some ⟨G, 0, none⟩) 3 3) = w5 := ⟨_, rfl⟩
  rw [hw5] at HB5 HO5 h6 ⊢
  have v0 : w5.cell? ⟨Q, 0, none⟩ = some (.int .i64 10) := cell_of_heap h6
  have v1 : w5.cell? ⟨Q, 1, none⟩ = some (.slice (some ⟨G, 0, none⟩) 3 3) := cell_of_heap h6
  have vl := (Array.getElem?_eq_some_iff.1 h6).1
  refine bodyPost_ret (v := .agg #[.int .i64 10, .slice (some ⟨G, 0, none⟩) 3 3]) (by simp [results, Try.results54, go_sem, v0, v1, vl]) rfl ⟨⟨_, rfl, ?_⟩, HB5.out⟩
  exact HO5.out.rchs (l := rvL last) (cap := 3) (Nat.le_refl 3)

theorem ints_lit {w : World} {g : Nat} {r : List Int} {cs : Array Value} (h : w.heap[g]? = some (.cells cs 2 (0, 0))) (hc : cs = (ints r).toArray) : Ints w (.slice (some ⟨g, 0, none⟩) r.length r.length) r :=
  .inr ⟨g, 0, r.length, rfl, Nat.le_refl _, (Array.getElem?_eq_some_iff.1 h).1, fun i x hx => by rw [cell_of_heap h, hc, Nat.zero_add]; simp [ints, hx]⟩
set_option maxRecDepth 10000 in
theorem earlyPlan_any (w : World) : Calls Try.prog 55 #[] w fun e w' => (∃ v, e = .returned v ∧ Rows w' v earlyL) ∧ Below w.heap.size w w' := by
  have e0 := World.alloc_heap_new w (.cells #[.int .i64 3, .int .i64 3, .int .i64 3, .int .i64 1, .int .i64 0, .int .i64 0, .int .i64 0, .int .i64 0, .int .i64 0, .int .i64 0] 2)
  have e1 := World.alloc_heap_new (w.alloc (.cells #[.int .i64 3, .int .i64 3, .int .i64 3, .int .i64 1, .int .i64 0, .int .i64 0, .int .i64 0, .int .i64 0, .int .i64 0, .int .i64 0] 2)) (.cells #[.int .i64 0, .int .i64 0, .int .i64 5, .int .i64 0, .int .i64 3, .int .i64 0, .int .i64 0, .int .i64 0, .int .i64 0, .int .i64 0] 2)
  have e2 := World.alloc_heap_new ((w.alloc (.cells #[.int .i64 3, .int .i64 3, .int .i64 3, .int .i64 1, .int .i64 0, .int .i64 0, .int .i64 0, .int .i64 0, .int .i64 0, .int .i64 0] 2)).alloc (.cells #[.int .i64 0, .int .i64 0, .int .i64 5, .int .i64 0, .int .i64 3, .int .i64 0, .int .i64 0, .int .i64 0, .int .i64 0, .int .i64 0] 2)) (.cells #[.int .i64 0, .int .i64 4, .int .i64 4, .int .i64 3, .int .i64 4, .int .i64 2, .int .i64 3, .int .i64 0, .int .i64 0, .int .i64 0] 2)
  have e3 := World.alloc_heap_new (((w.alloc (.cells #[.int .i64 3, .int .i64 3, .int .i64 3, .int .i64 1, .int .i64 0, .int .i64 0, .int .i64 0, .int .i64 0, .int .i64 0, .int .i64 0] 2)).alloc (.cells #[.int .i64 0, .int .i64 0, .int .i64 5, .int .i64 0, .int .i64 3, .int .i64 0, .int .i64 0, .int .i64 0, .int .i64 0, .int .i64 0] 2)).alloc (.cells #[.int .i64 0, .int .i64 4, .int .i64 4, .int .i64 3, .int .i64 4, .int .i64 2, .int .i64 3, .int .i64 0, .int .i64 0, .int .i64 0] 2)) (.cells #[.slice (some ⟨w.heap.size, 0, none⟩) 10 10, .slice (some ⟨w.heap.size + 1, 0, none⟩) 10 10, .slice (some ⟨w.heap.size + 1 + 1, 0, none⟩) 10 10] 36)
  have b1 := bl_alloc (bl_refl (w.alloc (.cells #[.int .i64 3, .int .i64 3, .int .i64 3, .int .i64 1, .int .i64 0, .int .i64 0, .int .i64 0, .int .i64 0, .int .i64 0, .int .i64 0] 2))) (.cells #[.int .i64 0, .int .i64 0, .int .i64 5, .int .i64 0, .int .i64 3, .int .i64 0, .int .i64 0, .int .i64 0, .int .i64 0, .int .i64 0] 2)
  have b2 := bl_alloc (bl_refl ((w.alloc (.cells #[.int .i64 3, .int .i64 3, .int .i64 3, .int .i64 1, .int .i64 0, .int .i64 0, .int .i64 0, .int .i64 0, .int .i64 0, .int .i64 0] 2)).alloc (.cells #[.int .i64 0, .int .i64 0, .int .i64 5, .int .i64 0, .int .i64 3, .int .i64 0, .int .i64 0, .int .i64 0, .int .i64 0, .int .i64 0] 2))) (.cells #[.int .i64 0, .int .i64 4, .int .i64 4, .int .i64 3, .int .i64 4, .int .i64 2, .int .i64 3, .int .i64 0, .int .i64 0, .int .i64 0] 2)
  have b3 := bl_alloc (bl_refl (((w.alloc (.cells #[.int .i64 3, .int .i64 3, .int .i64 3, .int .i64 1, .int .i64 0, .int .i64 0, .int .i64 0, .int .i64 0, .int .i64 0, .int .i64 0] 2)).alloc (.cells #[.int .i64 0, .int .i64 0, .int .i64 5, .int .i64 0, .int .i64 3, .int .i64 0, .int .i64 0, .int .i64 0, .int .i64 0, .int .i64 0] 2)).alloc (.cells #[.int .i64 0, .int .i64 4, .int .i64 4, .int .i64 3, .int .i64 4, .int .i64 2, .int .i64 3, .int .i64 0, .int .i64 0, .int .i64 0] 2))) (.cells #[.slice (some ⟨w.heap.size, 0, none⟩) 10 10, .slice (some ⟨w.heap.size + 1, 0, none⟩) 10 10, .slice (some ⟨w.heap.size + 1 + 1, 0, none⟩) 10 10] 36)
  simp only [World.size_alloc] at e1 e2 e3
  have k0 := heap_mono (heap_mono (heap_mono e0 b1) b2) b3
  have k1 := heap_mono (heap_mono e1 b2) b3
  have k2 := heap_mono e2 b3
  have hB : Below w.heap.size w ((((w.alloc (.cells #[.int .i64 3, .int .i64 3, .int .i64 3, .int .i64 1, .int .i64 0, .int .i64 0, .int .i64 0, .int .i64 0, .int .i64 0, .int .i64 0] 2)).alloc (.cells #[.int .i64 0, .int .i64 0, .int .i64 5, .int .i64 0, .int .i64 3, .int .i64 0, .int .i64 0, .int .i64 0, .int .i64 0, .int .i64 0] 2)).alloc (.cells #[.int .i64 0, .int .i64 4, .int .i64 4, .int .i64 3, .int .i64 4, .int .i64 2, .int .i64 3, .int .i64 0, .int .i64 0, .int .i64 0] 2)).alloc (.cells #[.slice (some ⟨w.heap.size, 0, none⟩) 10 10, .slice (some ⟨w.heap.size + 1, 0, none⟩) 10 10, .slice (some ⟨w.heap.size + 1 + 1, 0, none⟩) 10 10] 36)) := bl_alloc (bl_alloc (bl_alloc (bl_alloc (bl_refl _) _) _) _) _
  have HR : Hid (Rows ((((w.alloc (.cells #[.int .i64 3, .int .i64 3, .int .i64 3, .int .i64 1, .int .i64 0, .int .i64 0, .int .i64 0, .int .i64 0, .int .i64 0, .int .i64 0] 2)).alloc (.cells #[.int .i64 0, .int .i64 0, .int .i64 5, .int .i64 0, .int .i64 3, .int .i64 0, .int .i64 0, .int .i64 0, .int .i64 0, .int .i64 0] 2)).alloc (.cells #[.int .i64 0, .int .i64 4, .int .i64 4, .int .i64 3, .int .i64 4, .int .i64 2, .int .i64 3, .int .i64 0, .int .i64 0, .int .i64 0] 2)).alloc (.cells #[.slice (some ⟨w.heap.size, 0, none⟩) 10 10, .slice (some ⟨w.heap.size + 1, 0, none⟩) 10 10, .slice (some ⟨w.heap.size + 1 + 1, 0, none⟩) 10 10] 36)) (.slice (some ⟨w.heap.size + 1 + 1 + 1, 0, none⟩) 3 3) earlyL) := by
    refine .inr ⟨w.heap.size + 1 + 1 + 1, 0, 3, rfl, Nat.le_refl 3, (Array.getElem?_eq_some_iff.1 e3).1, fun i r hr => ?_⟩
    match i, hr with
    | 0, hr => simp only [earlyL, List.getElem?_cons_zero, Option.some.injEq] at hr; subst hr; exact ⟨_, cell_of_heap (i := 0) e3, ints_lit (r := [3, 3, 3, 1, 0, 0, 0, 0, 0, 0]) k0 rfl⟩
    | 1, hr => simp only [earlyL, List.getElem?_cons_succ, List.getElem?_cons_zero, Option.some.injEq] at hr; subst hr; exact ⟨_, cell_of_heap (i := 1) e3, ints_lit (r := [0, 0, 5, 0, 3, 0, 0, 0, 0, 0]) k1 rfl⟩
    | 2, hr => simp only [earlyL, List.getElem?_cons_succ, List.getElem?_cons_zero, Option.some.injEq] at hr; subst hr; exact ⟨_, cell_of_heap (i := 2) e3, ints_lit (r := [0, 4, 4, 3, 4, 2, 3, 0, 0, 0]) k2 rfl⟩
  have HB := hid hB
  clear e0 e1 e2 e3 b1 b2 b3 k0 k1 k2 hB
  go_enter Try.func55, Try.ntmps55
  go_wp2
  go_ret
  exact ⟨⟨_, rfl, HR.out⟩, HB.out⟩

end Go.Proofs.Ytbnmjbmlejifcaa
