/- ShareSpans: the walk through the law. -/
import Derived.Test.YtfchcikdcnloaaaLawc
namespace Go.Proofs.Ytfchcikdcnloaaa
open Go Go.RowKit Go.Proofs
attribute [local go_sem] cell_grow frozen_grow

theorem one_new (w : World) (x : Array Value) (t : TypeId) : (w.alloc (.cells x t)).heap[w.heap.size]? = some (.cells x t (0, 0)) ∧ Below w.heap.size w (w.alloc (.cells x t)) := ⟨World.alloc_heap_new _ _, bl_alloc (bl_refl _) _⟩

set_option maxRecDepth 100000 in
set_option maxHeartbeats 8000000 in
theorem shareSpans_any (had : List Int) (part prize owner : Int) (s : Value) (w : World) (hs : Ints w s had) :
    Calls Try.prog 6 #[.agg #[s, .int .i64 part, .int .i64 prize], .int .i64 owner] w fun e w' => e = .returned (.bool true) ∧ Below w.heap.size w w' := by
  obtain ⟨A, c, rfl⟩ := hs.slice
  go_enter Try.func6, Try.ntmps6
  go_wp2_with fail
  refine (great_law had part prize _ _ (hs.mono (bl_alloc (bl_refl _) _))).mono ?_
  rintro e w1 ⟨rfl, hb1⟩
  have k1 := heap_new (w := w) hb1
  have hB1 := bl_trans (bl_alloc (bl_refl w) _) hb1
  by_cases hg : 20 < had.length
  · have hd : decide (20 < had.length) = true := by simpa using hg
    rw [hd]
    clear k1
    go_wp2_with fail
    refine (works_any _).mono ?_
    rintro e w2 ⟨rfl, hb2⟩
    go_wp2
    go_ret
    exact ⟨rfl, bl_trans hB1 hb2⟩
  have hd : decide (20 < had.length) = false := by simpa using hg
  rw [hd]
  clear hd
  have HP : Hid (∀ W, Below w1.heap.size w1 W → (∀ i, W.cell? ⟨w.heap.size, i, none⟩ = #[Value.slice A had.length c, .int .i64 part, .int .i64 prize][i]?) ∧ w.heap.size < W.heap.size) := fun W hW =>
    ⟨fun i => cell_of_heap (heap_mono k1 hW), (Array.getElem?_eq_some_iff.1 (heap_mono k1 hW)).1⟩
  have H33 : Hid (∀ W, Below w1.heap.size w1 W → Calls Try.prog 33 #[.agg #[.slice A had.length c, .int .i64 part, .int .i64 prize]] W fun e w' => e = .returned (.tuple #[.int .i64 (countE had part prize), .int .i64 (checkPool had part prize)]) ∧ Below W.heap.size W w') := fun W hW => count_any had part prize _ W (by omega) (hs.mono (bl_trans hB1 hW))
  have H34 : Hid (∀ W, Below w1.heap.size w1 W → Calls Try.prog 34 #[.agg #[.slice A had.length c, .int .i64 part, .int .i64 prize]] W fun e w' => e = .returned (.tuple #[.int .i64 (countE had part prize), .int .i64 (checkPool had part prize)]) ∧ Below W.heap.size W w') := fun W hW => refCount_any had part prize _ W (by omega) (hs.mono (bl_trans hB1 hW))
  have H35 : Hid (∀ W, Below w1.heap.size w1 W → Calls Try.prog 35 #[.agg #[.slice A had.length c, .int .i64 part, .int .i64 prize], .int .i64 owner] W fun e w' => e = .returned (.tuple #[encQ (spanR had part prize owner), .int .i64 (ownedE had part prize owner)]) ∧ Below W.heap.size W w') := fun W hW => span_any had part prize owner _ W (by omega) (hs.mono (bl_trans hB1 hW))
  have H36 : Hid (∀ W, Below w1.heap.size w1 W → Calls Try.prog 36 #[.agg #[.slice A had.length c, .int .i64 part, .int .i64 prize], .int .i64 owner] W fun e w' => e = .returned (.tuple #[encQ (spanR had part prize owner), .int .i64 (ownedE had part prize owner)]) ∧ Below W.heap.size W w') := fun W hW => refSpan_any had part prize owner _ W (by omega) (hs.mono (bl_trans hB1 hW))
  have H37 : Hid (∀ W, Below w1.heap.size w1 W → Calls Try.prog 37 #[.agg #[.slice A had.length c, .int .i64 part, .int .i64 prize], .int .i64 owner] W fun e w' => e = .returned (.tuple #[encQ (quotaR had part prize owner), .int .i64 (ownedE had part prize owner)]) ∧ Below W.heap.size W w') := fun W hW => quota_any had part prize owner _ W (by omega) (hs.mono (bl_trans hB1 hW))
  have H38 : Hid (∀ W, Below w1.heap.size w1 W → Calls Try.prog 38 #[.agg #[.slice A had.length c, .int .i64 part, .int .i64 prize], .int .i64 owner] W fun e w' => e = .returned (.tuple #[encQ (quotaR had part prize owner), .int .i64 (ownedE had part prize owner)]) ∧ Below W.heap.size W w') := fun W hW => refQuota_any had part prize owner _ W (by omega) (hs.mono (bl_trans hB1 hW))
  clear hg k1
  have hc1 : (countE had part prize == countE had part prize) = true := by simp
  have hc2 : (checkPool had part prize == checkPool had part prize) = true := by simp
  have hc3 : (ownedE had part prize owner == ownedE had part prize owner) = true := by simp
  generalize countE had part prize = ct at *
  generalize checkPool had part prize = cp at *
  generalize ownedE had part prize owner = ow at *
  generalize spanR had part prize owner = sp at *
  generalize quotaR had part prize owner = qu at *
  have q1 := eql47_run sp sp true (by simp)
  have q2 := eql47_run qu qu true (by simp)
  obtain ⟨hp1, hz1⟩ := HP.out w1 (bl_refl _)
  go_wp2_with fail
  refine (H33.out w1 (bl_refl _)).mono ?_
  rintro e w2 ⟨rfl, hb2⟩
  obtain ⟨hp2, hz2⟩ := HP.out w2 hb2
  clear hp1 hz1
  go_wp2_with fail
  refine (H34.out w2 hb2).mono ?_
  rintro e w3 ⟨rfl, hb3⟩
  have hb13 := bl_trans hb2 hb3
  obtain ⟨hp3, hz3⟩ := HP.out w3 hb13
  clear hp2 hz2
  go_wp2_with fail
  refine (H35.out w3 hb13).mono ?_
  rintro e w4 ⟨rfl, hb4⟩
  unfold encQ
  have hb14 := bl_trans hb13 hb4
  obtain ⟨hp4, hz4⟩ := HP.out w4 hb14
  obtain ⟨m9, hb5⟩ := one_new w4 #[.int .i64 sp.1, .int .i64 sp.2] 47
  have M9 := hid m9
  clear m9 hp3 hz3
  go_wp2_with fail
  obtain ⟨w5, hw5⟩ : ∃ w5, w4.alloc (.cells #[.int .i64 sp.1, .int .i64 sp.2] 47) = w5 := ⟨_, rfl⟩
  rw [hw5] at M9 hb5 ⊢
  have hb15 := bl_trans hb14 hb5
  clear hw5 hp4 hz4
  refine (H36.out w5 hb15).mono ?_
  rintro e w6 ⟨rfl, hb6⟩
  unfold encQ
  have hb16 := bl_trans hb15 hb6
  obtain ⟨hp6, hz6⟩ := HP.out w6 hb16
  obtain ⟨m11, hb7⟩ := one_new w6 #[.int .i64 sp.1, .int .i64 sp.2] 47
  have M11 := hid m11
  have M96 := hid (heap_mono M9.out hb6)
  clear m11 M9
  go_wp2_with fail
  obtain ⟨w7, hw7⟩ : ∃ w7, w6.alloc (.cells #[.int .i64 sp.1, .int .i64 sp.2] 47) = w7 := ⟨_, rfl⟩
  rw [hw7] at M11 hb7 ⊢
  have hb17 := bl_trans hb16 hb7
  have M97 := hid (heap_mono M96.out hb7)
  clear hw7 hp6 hz6 M96
  refine (H37.out w7 hb17).mono ?_
  rintro e w8 ⟨rfl, hb8⟩
  unfold encQ
  have hb18 := bl_trans hb17 hb8
  obtain ⟨hp8, hz8⟩ := HP.out w8 hb18
  obtain ⟨m13, hb9⟩ := one_new w8 #[.int .i64 qu.1, .int .i64 qu.2] 47
  have M13 := hid m13
  have M98 := hid (heap_mono M97.out hb8)
  have M118 := hid (heap_mono M11.out hb8)
  clear m13 M97 M11
  go_wp2_with fail
  obtain ⟨w9, hw9⟩ : ∃ w9, w8.alloc (.cells #[.int .i64 qu.1, .int .i64 qu.2] 47) = w9 := ⟨_, rfl⟩
  rw [hw9] at M13 hb9 ⊢
  have hb19 := bl_trans hb18 hb9
  have M99 := hid (heap_mono M98.out hb9)
  have M119 := hid (heap_mono M118.out hb9)
  clear hw9 hp8 hz8 M98 M118
  refine (H38.out w9 hb19).mono ?_
  rintro e w10 ⟨rfl, hb10⟩
  unfold encQ
  have hb110 := bl_trans hb19 hb10
  obtain ⟨m15, hb11⟩ := one_new w10 #[.int .i64 qu.1, .int .i64 qu.2] 47
  have hbe := bl_trans hb10 hb11
  have k9 := heap_mono M99.out hbe
  have k11 := heap_mono M119.out hbe
  have k13 := heap_mono M13.out hbe
  have c9 := fun i => cell_of_heap (i := i) k9
  have c11 := fun i => cell_of_heap (i := i) k11
  have c13 := fun i => cell_of_heap (i := i) k13
  have c15 := fun i => cell_of_heap (i := i) m15
  have l9 := (Array.getElem?_eq_some_iff.1 k9).1
  have l11 := (Array.getElem?_eq_some_iff.1 k11).1
  have l13 := (Array.getElem?_eq_some_iff.1 k13).1
  have K9 := heap_mono M99.out hb10
  have K11 := heap_mono M119.out hb10
  have K13 := heap_mono M13.out hb10
  have d9 := fun i => cell_of_heap (i := i) K9
  have d11 := fun i => cell_of_heap (i := i) K11
  have d13 := fun i => cell_of_heap (i := i) K13
  have e9 := (Array.getElem?_eq_some_iff.1 K9).1
  have e11 := (Array.getElem?_eq_some_iff.1 K11).1
  have e13 := (Array.getElem?_eq_some_iff.1 K13).1
  clear M99 M119 M13 k9 k11 k13 m15 K9 K11 K13 HP H33 H34 H35 H36 H37 H38 c9 c11 c13 c15 l9 l11 l13
  have hBe := bl_trans hB1 (bl_trans hb110 hb11)
  go_wp2_with fail
  refine (works_any _).mono ?_
  rintro e w12 ⟨rfl, hb12⟩
  go_wp2
  go_ret
  exact ⟨rfl, bl_trans hBe hb12⟩

end Go.Proofs.Ytfchcikdcnloaaa
