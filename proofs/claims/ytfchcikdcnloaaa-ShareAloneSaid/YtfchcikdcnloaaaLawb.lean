/- ShareOrders, ShareDivisors, ShareSpans: the walks through the laws. -/
import Derived.Test.YtfchcikdcnloaaaRefm
import Derived.Test.YtfchcikdcnloaaaLawa
namespace Go.Proofs.Ytfchcikdcnloaaa
open Go Go.RowKit Go.Proofs
attribute [local go_sem] cell_grow frozen_grow

theorem sameInts_any (a : List Int) (s t : Value) (w : World) (ha : a.length ≤ 100000) (hs : Ints w s a) (ht : Ints w t a) :
    Calls Try.prog 27 #[s, t] w fun e w' => e = .returned (.bool true) ∧ Below w.heap.size w w' := by
  have := eqInts_any a a s t w ha ha hs ht
  simpa using this
theorem sameLongs_any (a : List Int) (s t : Value) (w : World) (ha : a.length ≤ 100000) (hs : Ints w s a) (ht : Ints w t a) :
    Calls Try.prog 28 #[s, t] w fun e w' => e = .returned (.bool true) ∧ Below w.heap.size w w' := by
  have := eqLongs_any a a s t w ha ha hs ht
  simpa using this

theorem orderE_len (had : List Int) (part prize : Int) : (orderE had part prize).length ≤ 100000 := by
  unfold orderE
  split
  · rename_i h
    have V := checkPool_ok.1 h
    have := V.z2
    rw [List.length_map, ordN_len]
    omega
  · simp
theorem sharesE_len (had : List Int) (part prize : Int) : (sharesE had part prize).length ≤ 100000 := by
  by_cases h : checkPool had part prize = 0
  · have V := checkPool_ok.1 h
    have := V.l2
    rw [(shares_facts V).1]
    omega
  · unfold sharesE
    rw [if_neg h]
    simp

set_option maxRecDepth 100000 in
set_option maxHeartbeats 4000000 in
theorem shareOrders_any (had : List Int) (part prize : Int) (s : Value) (w : World) (hs : Ints w s had) :
    Calls Try.prog 4 #[.agg #[s, .int .i64 part, .int .i64 prize]] w fun e w' => e = .returned (.bool true) ∧ Below w.heap.size w w' := by
  obtain ⟨A, c, rfl⟩ := hs.slice
  go_enter Try.func4, Try.ntmps4
  go_wp2_with fail
  refine (great_law had part prize _ _ (hs.mono (bl_alloc (bl_refl _) _))).mono ?_
  rintro e w1 ⟨rfl, hb1⟩
  have hr1 := (new_cells hb1).1
  have hB1 := bl_trans (bl_alloc (bl_refl w) _) hb1
  have hl1 : w.heap.size < w1.heap.size := by have := hb1.size; simp at this; omega
  by_cases hg : 20 < had.length
  · have hd : decide (20 < had.length) = true := by simpa using hg
    rw [hd]
    go_wp2_with fail
    refine (works_any _).mono ?_
    rintro e w2 ⟨rfl, hb2⟩
    go_wp2
    go_ret
    exact ⟨rfl, bl_trans hB1 hb2⟩
  have hd : decide (20 < had.length) = false := by simpa using hg
  rw [hd]
  clear hd
  have HR : Hid (∀ W, Below w1.heap.size w1 W → ∀ i, W.cell? ⟨w.heap.size, i, none⟩ = #[Value.slice A had.length c, .int .i64 part, .int .i64 prize][i]?) := fun W hW i => (hW.cell (p := ⟨w.heap.size, i, none⟩) hl1).trans (hr1 i)
  have H23 : Hid (∀ W, Below w1.heap.size w1 W → Calls Try.prog 23 #[.agg #[.slice A had.length c, .int .i64 part, .int .i64 prize]] W fun e w' => (∃ v, e = .returned (.tuple #[v, .int .i64 (checkPool had part prize)]) ∧ Ints w' v (orderE had part prize)) ∧ Below W.heap.size W w') := fun W hW => order_any had part prize _ W (by omega) (hs.mono (bl_trans hB1 hW))
  have H24 : Hid (∀ W, Below w1.heap.size w1 W → Calls Try.prog 24 #[.agg #[.slice A had.length c, .int .i64 part, .int .i64 prize]] W fun e w' => (∃ v, e = .returned (.tuple #[v, .int .i64 (checkPool had part prize)]) ∧ Ints w' v (orderE had part prize)) ∧ Below W.heap.size W w') := fun W hW => refOrder_all had part prize _ W (by omega) (hs.mono (bl_trans hB1 hW))
  have H25 : Hid (∀ W, Below w1.heap.size w1 W → Calls Try.prog 25 #[.agg #[.slice A had.length c, .int .i64 part, .int .i64 prize]] W fun e w' => (∃ v, e = .returned (.tuple #[v, .int .i64 (checkPool had part prize)]) ∧ Ints w' v (sharesE had part prize)) ∧ Below W.heap.size W w') := fun W hW => shares_any had part prize _ W (by omega) (hs.mono (bl_trans hB1 hW))
  have H26 : Hid (∀ W, Below w1.heap.size w1 W → Calls Try.prog 26 #[.agg #[.slice A had.length c, .int .i64 part, .int .i64 prize]] W fun e w' => (∃ v, e = .returned (.tuple #[v, .int .i64 (checkPool had part prize)]) ∧ Ints w' v (sharesE had part prize)) ∧ Below W.heap.size W w') := fun W hW => refShares_any had part prize _ W (by omega) (hs.mono (bl_trans hB1 hW))
  have HOL := Lib.hid (orderE_len had part prize)
  have HSL := Lib.hid (sharesE_len had part prize)
  have hcc : (checkPool had part prize == checkPool had part prize) = true := by simp
  clear hg
  generalize checkPool had part prize = cp at *
  generalize orderE had part prize = oe at *
  generalize sharesE had part prize = se at *
  go_wp2_with fail
  refine (H23.out w1 (bl_refl _)).mono ?_
  rintro e w2 ⟨⟨v2, rfl, hI2⟩, hb2⟩
  have hr2 := HR.out w2 hb2
  have hl2 : w.heap.size < w2.heap.size := Nat.lt_of_lt_of_le hl1 hb2.size
  clear hr1
  go_wp2_with fail
  refine (H24.out w2 hb2).mono ?_
  rintro e w3 ⟨⟨v3, rfl, hI3⟩, hb3⟩
  have hb13 := bl_trans hb2 hb3
  have hr3 := HR.out w3 hb13
  have hl3 : w.heap.size < w3.heap.size := Nat.lt_of_lt_of_le hl2 hb3.size
  have hI2' := hI2.mono hb3
  clear hr2 hI2
  go_wp2_with fail
  refine (H25.out w3 hb13).mono ?_
  rintro e w4 ⟨⟨v4, rfl, hI4⟩, hb4⟩
  have hb14 := bl_trans hb13 hb4
  have hr4 := HR.out w4 hb14
  have hl4 : w.heap.size < w4.heap.size := Nat.lt_of_lt_of_le hl3 hb4.size
  have hI2'' := hI2'.mono hb4
  have hI3' := hI3.mono hb4
  clear hr3 hI2' hI3
  go_wp2_with fail
  refine (H26.out w4 hb14).mono ?_
  rintro e w5 ⟨⟨v5, rfl, hI5⟩, hb5⟩
  have hb15 := bl_trans hb14 hb5
  have hA := hI2''.mono hb5
  have hB := hI3'.mono hb5
  have hC := hI4.mono hb5
  clear hr4 hI2'' hI3' hI4
  go_wp2_with fail
  refine (sameInts_any oe _ _ _ HOL.out hA hB).mono ?_
  rintro e w6 ⟨rfl, hb6⟩
  go_wp2_with fail
  refine (sameLongs_any se _ _ _ HSL.out (hC.mono hb6) (hI5.mono hb6)).mono ?_
  rintro e w7 ⟨rfl, hb7⟩
  go_wp2_with fail
  refine (works_any _).mono ?_
  rintro e w8 ⟨rfl, hb8⟩
  go_wp2
  go_ret
  exact ⟨rfl, bl_trans hB1 (bl_trans hb15 (bl_trans hb6 (bl_trans hb7 hb8)))⟩

theorem eq39 (a b : Int × Int) (w : World) : (Op.equal 39 (encQ a) (encQ b)).run Try.prog w = .ok (decide (a = b)) w := by
  obtain ⟨a1, a2⟩ := a
  obtain ⟨b1, b2⟩ := b
  unfold encQ
  have u2 := Try.underlying2
  have a2' := Try.isAgg2
  have z2 := Try.sizeOf2
  have hS : Try.prog.underlying 39 = some (.struct (Try.prog.fieldsOf 39)) := by kernel_rfl
  have hp : Try.prog.stoodInHeld 39 = false := by kernel_rfl
  unfold Op.equal
  rw [show Op.maxDepth = 9999 + 1 from rfl, run_equalIn_struct w 9999 39 _ _ hS hp]
  simp only [Program.fieldsOf, Try.underlying39]
  go_simp
  by_cases h1 : a1 = b1 <;> by_cases h2 : a2 = b2 <;> simp [h1, h2]
theorem eql39_run (a b : Int × Int) (v : Bool) (h : decide (a = b) = v) (w : World) : (binOp .eql 39 (.agg #[.int .i64 a.1, .int .i64 a.2]) (.agg #[.int .i64 b.1, .int .i64 b.2])).run Try.prog w = .ok (.bool v) w := by
  subst h
  have := eq39 a b w
  unfold encQ at this
  show ((do pure (.bool (← Op.equal 39 _ _))) : Sem Value).run Try.prog w = _
  rw [Sem.run_bind, this]
  rfl

theorem eq47 (a b : Int × Int) (w : World) : (Op.equal 47 (encQ a) (encQ b)).run Try.prog w = .ok (decide (a = b)) w := by
  obtain ⟨a1, a2⟩ := a
  obtain ⟨b1, b2⟩ := b
  unfold encQ
  have u2 := Try.underlying2
  have a2' := Try.isAgg2
  have z2 := Try.sizeOf2
  have hS : Try.prog.underlying 47 = some (.struct (Try.prog.fieldsOf 47)) := by kernel_rfl
  have hp : Try.prog.stoodInHeld 47 = false := by kernel_rfl
  unfold Op.equal
  rw [show Op.maxDepth = 9999 + 1 from rfl, run_equalIn_struct w 9999 47 _ _ hS hp]
  simp only [Program.fieldsOf, Try.underlying47]
  go_simp
  by_cases h1 : a1 = b1 <;> by_cases h2 : a2 = b2 <;> simp [h1, h2]
theorem eql47_run (a b : Int × Int) (v : Bool) (h : decide (a = b) = v) (w : World) : (binOp .eql 47 (.agg #[.int .i64 a.1, .int .i64 a.2]) (.agg #[.int .i64 b.1, .int .i64 b.2])).run Try.prog w = .ok (.bool v) w := by
  subst h
  have := eq47 a b w
  unfold encQ at this
  show ((do pure (.bool (← Op.equal 47 _ _))) : Sem Value).run Try.prog w = _
  rw [Sem.run_bind, this]
  rfl

end Go.Proofs.Ytfchcikdcnloaaa
