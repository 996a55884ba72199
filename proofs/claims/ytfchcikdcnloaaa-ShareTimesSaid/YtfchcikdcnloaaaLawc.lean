/- ShareDivisors: the walk through the law. -/
import Derived.Test.YtfchcikdcnloaaaLawb
namespace Go.Proofs.Ytfchcikdcnloaaa
open Go Go.RowKit Go.Proofs
attribute [local go_sem] cell_grow frozen_grow

theorem two_new (w : World) (x y : Array Value) (t : TypeId) : ((w.alloc (.cells x t)).alloc (.cells y t)).heap[w.heap.size]? = some (.cells x t (0, 0)) ∧ ((w.alloc (.cells x t)).alloc (.cells y t)).heap[w.heap.size + 1]? = some (.cells y t (0, 0)) ∧ Below w.heap.size w ((w.alloc (.cells x t)).alloc (.cells y t)) := by
  refine ⟨heap_mono (World.alloc_heap_new _ _) (bl_alloc (bl_refl _) _), ?_, bl_alloc (bl_alloc (bl_refl _) _) _⟩
  have := World.alloc_heap_new (w.alloc (.cells x t)) (.cells y t)
  rw [World.size_alloc] at this
  exact this

set_option maxRecDepth 100000 in
set_option maxHeartbeats 4000000 in
theorem shareDivisors_any (had : List Int) (part prize : Int) (shares : List Int) (num den : Int) (s s2 : Value) (w : World) (hs : Ints w s had) (hs2 : Ints w s2 shares) :
    Calls Try.prog 5 #[.agg #[s, .int .i64 part, .int .i64 prize], s2, .agg #[.int .i64 num, .int .i64 den]] w fun e w' => e = .returned (.bool true) ∧ Below w.heap.size w w' := by
  obtain ⟨A, c, rfl⟩ := hs.slice
  obtain ⟨A2, c2, rfl⟩ := hs2.slice
  have hbb := bl_alloc (bl_alloc (bl_refl w) (.cells #[.slice A had.length c, .int .i64 part, .int .i64 prize] 24)) (.cells #[.int .i64 num, .int .i64 den] 39)
  go_enter Try.func5, Try.ntmps5
  go_wp2_with fail
  refine (great_law had part prize _ _ (hs.mono hbb)).mono ?_
  rintro e w1 ⟨rfl, hb1⟩
  have k1 := heap_new (w := w) (bl_trans (bl_alloc (bl_refl _) _) hb1)
  have k2 := heap_new (w := w.alloc (.cells #[.slice A had.length c, .int .i64 part, .int .i64 prize] 24)) hb1
  simp only [World.size_alloc] at k2
  have hB1 := bl_trans hbb hb1
  by_cases hg : 20 < had.length
  · have hd : decide (20 < had.length) = true := by simpa using hg
    rw [hd]
    clear k1 k2
    go_wp2_with fail
    refine (works_any _).mono ?_
    rintro e w2 ⟨rfl, hb2⟩
    go_wp2
    go_ret
    exact ⟨rfl, bl_trans hB1 hb2⟩
  have hd : decide (20 < had.length) = false := by simpa using hg
  rw [hd]
  clear hd
  by_cases hg2 : (20 : Int) < (shares.length : Int)
  · have hd : decide ((20 : Int) < (shares.length : Int)) = true := by simpa using hg2
    clear hg2 k1 k2
    go_wp2_with fail
    refine (works_any _).mono ?_
    rintro e w2 ⟨rfl, hb2⟩
    go_wp2
    go_ret
    exact ⟨rfl, bl_trans hB1 hb2⟩
  have hd : decide ((20 : Int) < (shares.length : Int)) = false := by simpa using hg2
  have HP : Hid (∀ W, Below w1.heap.size w1 W → (∀ i, W.cell? ⟨w.heap.size, i, none⟩ = #[Value.slice A had.length c, .int .i64 part, .int .i64 prize][i]?) ∧ (∀ i, W.cell? ⟨w.heap.size + 1, i, none⟩ = #[Value.int .i64 num, .int .i64 den][i]?) ∧ w.heap.size < W.heap.size ∧ w.heap.size + 1 < W.heap.size) := fun W hW =>
    ⟨fun i => cell_of_heap (heap_mono k1 hW), fun i => cell_of_heap (heap_mono k2 hW), (Array.getElem?_eq_some_iff.1 (heap_mono k1 hW)).1, (Array.getElem?_eq_some_iff.1 (heap_mono k2 hW)).1⟩
  have H29 : Hid (∀ W, Below w1.heap.size w1 W → Calls Try.prog 29 #[.agg #[.slice A had.length c, .int .i64 part, .int .i64 prize], .slice A2 shares.length c2] W fun e w' => e = .returned (.tuple #[encQ (divLo had part prize shares), encQ (divHi had part prize shares), .int .i64 (divisorsE had part prize shares)]) ∧ Below W.heap.size W w') := fun W hW => divisors_any had part prize shares _ _ W (by omega) (by omega) (hs.mono (bl_trans hB1 hW)) (hs2.mono (bl_trans hB1 hW))
  have H30 : Hid (∀ W, Below w1.heap.size w1 W → Calls Try.prog 30 #[.agg #[.slice A had.length c, .int .i64 part, .int .i64 prize], .slice A2 shares.length c2] W fun e w' => e = .returned (.tuple #[encQ (divLo had part prize shares), encQ (divHi had part prize shares), .int .i64 (divisorsE had part prize shares)]) ∧ Below W.heap.size W w') := fun W hW => refDivisors_any had part prize shares _ _ W (by omega) (by omega) (hs.mono (bl_trans hB1 hW)) (hs2.mono (bl_trans hB1 hW))
  have H31 : Hid (∀ W, Below w1.heap.size w1 W → Calls Try.prog 31 #[.agg #[.slice A had.length c, .int .i64 part, .int .i64 prize], .slice A2 shares.length c2, .agg #[.int .i64 num, .int .i64 den]] W fun e w' => e = .returned (.int .i64 (checkDivisorE had part prize shares num den)) ∧ Below W.heap.size W w') := fun W hW => checkDivisor_any had part prize shares num den _ _ W (by omega) (by omega) (hs.mono (bl_trans hB1 hW)) (hs2.mono (bl_trans hB1 hW))
  have H32 : Hid (∀ W, Below w1.heap.size w1 W → Calls Try.prog 32 #[.agg #[.slice A had.length c, .int .i64 part, .int .i64 prize], .slice A2 shares.length c2, .agg #[.int .i64 num, .int .i64 den]] W fun e w' => e = .returned (.int .i64 (checkDivisorE had part prize shares num den)) ∧ Below W.heap.size W w') := fun W hW => refCheckDivisor_any had part prize shares num den _ _ W (by omega) (by omega) (hs.mono (bl_trans hB1 hW)) (hs2.mono (bl_trans hB1 hW))
  clear hg hg2 k1 k2
  have hcc : (checkDivisorE had part prize shares num den == checkDivisorE had part prize shares num den) = true := by simp
  have hcd : (divisorsE had part prize shares == divisorsE had part prize shares) = true := by simp
  generalize checkDivisorE had part prize shares num den = cd at *
  generalize divisorsE had part prize shares = ce at *
  generalize divLo had part prize shares = lo at *
  generalize divHi had part prize shares = hi at *
  obtain ⟨hp1, hx1, hz1, hy1⟩ := HP.out w1 (bl_refl _)
  go_wp2_with fail
  refine (H29.out w1 (bl_refl _)).mono ?_
  rintro e w2 ⟨rfl, hb2⟩
  unfold encQ
  obtain ⟨hp2, hx2, hz2, hy2⟩ := HP.out w2 hb2
  obtain ⟨m7, m8, hb3⟩ := two_new w2 #[.int .i64 lo.1, .int .i64 lo.2] #[.int .i64 hi.1, .int .i64 hi.2] 39
  have M7 := hid m7
  have M8 := hid m8
  clear m7 m8 hp1 hx1 hz1 hy1
  go_wp2_with fail
  obtain ⟨w3, hw3⟩ : ∃ w3, (w2.alloc (.cells #[.int .i64 lo.1, .int .i64 lo.2] 39)).alloc (.cells #[.int .i64 hi.1, .int .i64 hi.2] 39) = w3 := ⟨_, rfl⟩
  rw [hw3] at M7 M8 hb3 ⊢
  have hb13 := bl_trans hb2 hb3
  clear hw3 hp2 hx2 hz2 hy2
  refine (H30.out w3 hb13).mono ?_
  rintro e w4 ⟨rfl, hb4⟩
  unfold encQ
  have hb14 := bl_trans hb13 hb4
  obtain ⟨hp4, hx4, hz4, hy4⟩ := HP.out w4 hb14
  obtain ⟨m10, m11, hb5⟩ := two_new w4 #[.int .i64 lo.1, .int .i64 lo.2] #[.int .i64 hi.1, .int .i64 hi.2] 39
  have M10 := hid m10
  have M11 := hid m11
  have M74 := hid (heap_mono M7.out hb4)
  have M84 := hid (heap_mono M8.out hb4)
  clear m10 m11 M7 M8
  go_wp2_with fail
  obtain ⟨w5, hw5⟩ : ∃ w5, (w4.alloc (.cells #[.int .i64 lo.1, .int .i64 lo.2] 39)).alloc (.cells #[.int .i64 hi.1, .int .i64 hi.2] 39) = w5 := ⟨_, rfl⟩
  rw [hw5] at M10 M11 hb5 ⊢
  have hb15 := bl_trans hb14 hb5
  clear hw5 hp4 hx4 hz4 hy4
  obtain ⟨hp5, hx5, hz5, hy5⟩ := HP.out w5 hb15
  have c7 := fun i => cell_of_heap (i := i) (heap_mono M74.out hb5)
  have c8 := fun i => cell_of_heap (i := i) (heap_mono M84.out hb5)
  have c10 := fun i => cell_of_heap (i := i) M10.out
  have c11 := fun i => cell_of_heap (i := i) M11.out
  have z7 := (Array.getElem?_eq_some_iff.1 (heap_mono M74.out hb5)).1
  have z8 := (Array.getElem?_eq_some_iff.1 (heap_mono M84.out hb5)).1
  have z10 := (Array.getElem?_eq_some_iff.1 M10.out).1
  have z11 := (Array.getElem?_eq_some_iff.1 M11.out).1
  have q1 := eql39_run lo lo true (by simp)
  have q2 := eql39_run hi hi true (by simp)
  have G31 : Hid (∀ W, Below w5.heap.size w5 W → Calls Try.prog 31 #[.agg #[.slice A had.length c, .int .i64 part, .int .i64 prize], .slice A2 shares.length c2, .agg #[.int .i64 num, .int .i64 den]] W fun e w' => e = .returned (.int .i64 cd) ∧ Below W.heap.size W w') := fun W hW => H31.out W (bl_trans hb15 hW)
  have G32 : Hid (∀ W, Below w5.heap.size w5 W → Calls Try.prog 32 #[.agg #[.slice A had.length c, .int .i64 part, .int .i64 prize], .slice A2 shares.length c2, .agg #[.int .i64 num, .int .i64 den]] W fun e w' => e = .returned (.int .i64 cd) ∧ Below W.heap.size W w') := fun W hW => H32.out W (bl_trans hb15 hW)
  clear M74 M84 M10 M11 HP H29 H30 H31 H32
  refine wp_region_below (by kernel_rfl) (by kernel_rfl) ?_
  repeat (first | go_big_quiet_step (first | (go_at_call 31; exact Calls.regrown_of (G31.out _ (below_regrown _ _ _))) | (go_at_call 32; exact Calls.regrown_of (G32.out _ (below_regrown _ _ _))) | (go_at_call 18; exact Calls.regrown_of (works_any _))) | quiet_step (first | (go_at_call 31; exact Calls.regrown_of (G31.out _ (below_regrown _ _ _))) | (go_at_call 32; exact Calls.regrown_of (G32.out _ (below_regrown _ _ _))) | (go_at_call 18; exact Calls.regrown_of (works_any _))))
  refine wpQuiet_nil ?_
  intro w6 hb6
  go_wp2
  go_ret
  exact ⟨rfl, bl_trans hB1 (bl_trans hb15 hb6)⟩

end Go.Proofs.Ytfchcikdcnloaaa
