/- SharePools: the walk through the law. -/
import Derived.Test.YtfchcikdcnloaaaFairlaw
import Derived.Test.YtfchcikdcnloaaaWorks
namespace Go.Proofs.Ytfchcikdcnloaaa
open Go Go.RowKit Go.Proofs
attribute [local go_sem] cell_grow frozen_grow

theorem great_law (had : List Int) (part prize : Int) (s : Value) (w : World) (hs : Ints w s had) :
    Calls Try.prog 17 #[.agg #[s, .int .i64 part, .int .i64 prize]] w fun e w' => e = .returned (.bool (decide (20 < had.length))) ∧ Below w.heap.size w w' := by
  obtain ⟨A, c, rfl⟩ := hs.slice
  go_enter Try.func17, Try.ntmps17
  go_wp2
  go_ret
  refine ⟨?_, bl_alloc (bl_refl _) _⟩
  simp
  omega

set_option maxRecDepth 100000 in
set_option maxHeartbeats 4000000 in
theorem sharePools_any (had : List Int) (part prize : Int) (shares : List Int) (s s2 : Value) (w : World) (hs : Ints w s had) (hs2 : Ints w s2 shares) :
    Calls Try.prog 3 #[.agg #[s, .int .i64 part, .int .i64 prize], s2] w fun e w' => e = .returned (.bool true) ∧ Below w.heap.size w w' := by
  obtain ⟨A, c, rfl⟩ := hs.slice
  obtain ⟨A2, c2, rfl⟩ := hs2.slice
  go_enter Try.func3, Try.ntmps3
  go_wp2_with fail
  refine (great_law had part prize _ _ (hs.mono (bl_alloc (bl_refl _) _))).mono ?_
  rintro e w1 ⟨rfl, hb1⟩
  obtain ⟨hr1, hrf1⟩ := new_cells hb1
  have hB1 := bl_trans (bl_alloc (bl_refl w) _) hb1
  by_cases hg : 20 < had.length
  · have hd : decide (20 < had.length) = true := by simpa using hg
    rw [hd]
    go_wp2_with fail
    refine (works_any _).mono ?_
    rintro e w2 ⟨rfl, hb2⟩
    go_wp2
    go_ret
    exact ⟨rfl, bl_trans hB1 hb2⟩
  have hd : decide (20 < had.length) = false := by simpa using hg
  rw [hd]
  clear hd
  by_cases hg2 : (20 : Int) < (shares.length : Int)
  · have hd : decide ((20 : Int) < (shares.length : Int)) = true := by simpa using hg2
    clear hg2
    go_wp2_with fail
    refine (works_any _).mono ?_
    rintro e w2 ⟨rfl, hb2⟩
    go_wp2
    go_ret
    exact ⟨rfl, bl_trans hB1 hb2⟩
  have hd : decide ((20 : Int) < (shares.length : Int)) = false := by simpa using hg2
  have h19 : Hid (∀ W, Below w1.heap.size w1 W → Calls Try.prog 19 #[.agg #[.slice A had.length c, .int .i64 part, .int .i64 prize]] W fun e w' => e = .returned (.int .i64 (checkPool had part prize)) ∧ Below W.heap.size W w') := fun W hW => checkPool_any had part prize _ W (by omega) (hs.mono (bl_trans hB1 hW))
  have h20 : Hid (∀ W, Below w1.heap.size w1 W → Calls Try.prog 20 #[.agg #[.slice A had.length c, .int .i64 part, .int .i64 prize]] W fun e w' => e = .returned (.int .i64 (checkPool had part prize)) ∧ Below W.heap.size W w') := fun W hW => refCheckPool_any had part prize _ W (by omega) (hs.mono (bl_trans hB1 hW))
  have h21 : Hid (∀ W, Below w1.heap.size w1 W → Calls Try.prog 21 #[.agg #[.slice A had.length c, .int .i64 part, .int .i64 prize], .slice A2 shares.length c2] W fun e w' => e = .returned (.int .i64 (refSharesE had part prize shares)) ∧ Below W.heap.size W w') := fun W hW => by
    have := checkShares_any had part prize shares (.slice A had.length c) (.slice A2 shares.length c2) W (by omega) (by omega) (hs.mono (bl_trans hB1 hW)) (hs2.mono (bl_trans hB1 hW))
    rwa [checkShares_law] at this
  have h22 : Hid (∀ W, Below w1.heap.size w1 W → Calls Try.prog 22 #[.agg #[.slice A had.length c, .int .i64 part, .int .i64 prize], .slice A2 shares.length c2] W fun e w' => e = .returned (.int .i64 (refSharesE had part prize shares)) ∧ Below W.heap.size W w') := fun W hW => refCheckShares_any had part prize shares _ _ W (by omega) (by omega) (hs.mono (bl_trans hB1 hW)) (hs2.mono (bl_trans hB1 hW))
  have hl1 : w.heap.size < w1.heap.size := by have := hb1.size; simp at this; omega
  clear hg hg2
  generalize checkPool had part prize = cp at *
  generalize refSharesE had part prize shares = sp at *
  go_wp2
  refine wp_region_below (by kernel_rfl) (by kernel_rfl) ?_
  repeat (first | go_big_quiet_step (first | (go_at_call 19; exact Calls.regrown_of (h19.out _ (below_regrown _ _ _))) | (go_at_call 20; exact Calls.regrown_of (h20.out _ (below_regrown _ _ _))) | (go_at_call 21; exact Calls.regrown_of (h21.out _ (below_regrown _ _ _))) | (go_at_call 22; exact Calls.regrown_of (h22.out _ (below_regrown _ _ _))) | (go_at_call 18; exact Calls.regrown_of (works_any _))) | quiet_step (first | (go_at_call 19; exact Calls.regrown_of (h19.out _ (below_regrown _ _ _))) | (go_at_call 20; exact Calls.regrown_of (h20.out _ (below_regrown _ _ _))) | (go_at_call 21; exact Calls.regrown_of (h21.out _ (below_regrown _ _ _))) | (go_at_call 22; exact Calls.regrown_of (h22.out _ (below_regrown _ _ _))) | (go_at_call 18; exact Calls.regrown_of (works_any _))))
  refine wpQuiet_nil ?_
  intro w5 hb5
  go_wp2
  go_ret
  exact ⟨rfl, bl_trans hB1 hb5⟩

end Go.Proofs.Ytfchcikdcnloaaa
