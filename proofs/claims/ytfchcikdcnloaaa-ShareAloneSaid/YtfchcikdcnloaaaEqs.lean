/- The law's small helpers: two lists compared, the examples' pools. -/
import Derived.Test.YtfchcikdcnloaaaKnow
import Derived.Test.YtfchcikdcnloaaaAnyInv
namespace Go.Proofs.Ytfchcikdcnloaaa
open Go Go.RowKit Go.Proofs

theorem of_any (v : Value) (w : World) : Calls Try.prog 49 #[v] w fun e w' => e = .returned v ∧ w' = w := by
  go_enter Try.func49, Try.ntmps49
  go_wp2
  go_ret
  exact ⟨rfl, rfl⟩

theorem build3 (w v : World) (x y z : Int) (hb : Below (w.alloc (.cells #[.int .i64 x, .int .i64 y, .int .i64 z] 2)).heap.size (w.alloc (.cells #[.int .i64 x, .int .i64 y, .int .i64 z] 2)) v) :
    Ints v (.slice (some ⟨w.heap.size, 0, none⟩) 3 3) [x, y, z] := by
  have h := new_cells hb
  refine .inr ⟨w.heap.size, 0, 3, rfl, by simp, by have := hb.size; simp at this; omega, fun i u hi => ?_⟩
  rw [Nat.zero_add]
  rw [h.1 i]
  match i, hi with
  | 0, hi => simp at hi; subst hi; rfl
  | 1, hi => simp at hi; subst hi; rfl
  | 2, hi => simp at hi; subst hi; rfl
  | i + 3, hi => simp at hi

theorem build3_first (w v : World) (X : Obj) (x y z : Int) (hb : Below ((w.alloc X).alloc (.cells #[.int .i64 x, .int .i64 y, .int .i64 z] 2)).heap.size ((w.alloc X).alloc (.cells #[.int .i64 x, .int .i64 y, .int .i64 z] 2)) v) :
    Ints v (.slice (some ⟨w.heap.size + 1, 0, none⟩) 3 3) [x, y, z] := by
  have := build3 (w.alloc X) v x y z hb
  rwa [World.size_alloc] at this

theorem pool_any (part : Int) (w : World) : Calls Try.prog 47 #[.int .i64 part] w fun e w' => (∃ v, e = .returned (.agg #[v, .int .i64 part, .int .i64 10]) ∧ Ints w' v [53, 24, 23]) ∧ Below w.heap.size w w' := by
  go_enter Try.func47, Try.ntmps47
  go_wp2
  refine bodyPost_ret (v := .agg #[.slice (some ⟨w.heap.size + 1, 0, none⟩) 3 3, .int .i64 part, .int .i64 10]) (by simp [results, Try.results47, go_sem]) rfl ⟨⟨_, rfl, ?_⟩, ?_⟩
  · exact build3_first w _ _ 53 24 23 (bl_refl _)
  · exact bl_alloc (bl_alloc (bl_refl _) _) _

theorem tied_any (w : World) : Calls Try.prog 48 #[] w fun e w' => (∃ v, e = .returned (.agg #[v, .int .i64 50, .int .i64 4]) ∧ Ints w' v [10, 10, 10]) ∧ Below w.heap.size w w' := by
  go_enter Try.func48, Try.ntmps48
  go_wp2
  refine bodyPost_ret (v := .agg #[.slice (some ⟨w.heap.size + 1, 0, none⟩) 3 3, .int .i64 50, .int .i64 4]) (by simp [results, Try.results48, go_sem]) rfl ⟨⟨_, rfl, ?_⟩, ?_⟩
  · exact build3_first w _ _ 10 10 10 (bl_refl _)
  · exact bl_alloc (bl_alloc (bl_refl _) _) _

set_option maxHeartbeats 1000000 in
theorem eqLongs_any (a b : List Int) (s t : Value) (w : World) (ha : a.length ≤ 100000) (hb : b.length ≤ 100000) (hs : Ints w s a) (ht : Ints w t b) :
    Calls Try.prog 28 #[s, t] w fun e w' => e = .returned (.bool (decide (a = b))) ∧ Below w.heap.size w w' := by
  obtain ⟨A, c, rfl⟩ := hs.slice
  obtain ⟨B, c2, rfl⟩ := ht.slice
  by_cases hl : a.length = b.length
  · have hl' : ((a.length : Int) != (b.length : Int)) = false := by simp [hl]
    have HL := hid hl
    clear hl
    go_enter Try.func28, Try.ntmps28
    go_wp2
    go_loopw [5] (fun i wr => ∃ k n : Nat, k ≤ a.length ∧ i = .int .i64 k ∧ a.take k = b.take k ∧ wr = w.drewN n) (fun i _ => a.length - (intOf i).toNat)
    case atStart => exact ⟨0, 0, Nat.zero_le _, rfl, by simp, rfl⟩
    case round =>
      obtain ⟨k, n, hk, rfl, heq, rfl⟩ := hrel
      by_cases hlt : k < a.length
      · obtain ⟨ba, oa, ca, ea, hca, hba, hxa⟩ := hs.some (by omega)
        obtain ⟨bb, ob, cb, eb, hcb, hbb, hxb⟩ := ht.some (by have := HL.out; omega)
        injection ea with e1 e2 e3
        injection eb with f1 f2 f3
        subst e1 f1 e3 f3
        clear e2 f2
        obtain ⟨x, hx⟩ := get_at hlt
        obtain ⟨y, hy⟩ := get_at (show k < b.length by have := HL.out; omega)
        have hcx := hxa k x hx
        have hcy := hxb k y hy
        have hlt2 : k < b.length := by have := HL.out; omega
        have hst := hid (show a.take (k + 1) = b.take (k + 1) ↔ x = y by
          rw [List.take_add_one, List.take_add_one, hx, hy, heq]
          simp)
        have hne := hid (show x ≠ y → decide (a = b) = false by
          intro h
          simp only [decide_eq_false_iff_not]
          rintro rfl
          rw [hx] at hy
          injection hy with hy
          exact h hy)
        clear hxa hxb heq hx hy
        by_cases hxy : x = y
        · subst hxy
          go_wp2
          go_quiet (fail)
          go_wp2
          go_roundw
          case rel => exact ⟨k + 1, _, by omega, by go_num, hst.out.2 trivial, rfl⟩
          case measure => simp [intOf]; omega
        · have hxy' : (x != y) = true := by simpa using hxy
          go_wp2
          go_quiet (fail)
          go_wp2
          go_ret
          exact ⟨by rw [hne.out hxy]; rfl, bl_drewN (bl_drewN (bl_refl _) _) _⟩
      · obtain rfl : k = a.length := by omega
        have hd := hid (show decide (a = b) = true by
          rw [List.take_length, HL.out, List.take_length] at heq
          simpa using heq)
        clear heq
        go_wp2
        go_ret
        exact ⟨by rw [hd.out]; rfl, bl_drewN (bl_refl _) _⟩
  · have hl' : ((a.length : Int) != (b.length : Int)) = true := by simp; omega
    have hne := hid (show decide (a = b) = false by simp; intro e; exact hl (by rw [e]))
    go_enter Try.func28, Try.ntmps28
    go_wp2
    go_ret
    exact ⟨by rw [hne.out]; rfl, bl_refl _⟩

set_option maxHeartbeats 1000000 in
theorem eqInts_any (a b : List Int) (s t : Value) (w : World) (ha : a.length ≤ 100000) (hb : b.length ≤ 100000) (hs : Ints w s a) (ht : Ints w t b) :
    Calls Try.prog 27 #[s, t] w fun e w' => e = .returned (.bool (decide (a = b))) ∧ Below w.heap.size w w' := by
  obtain ⟨A, c, rfl⟩ := hs.slice
  obtain ⟨B, c2, rfl⟩ := ht.slice
  by_cases hl : a.length = b.length
  · have hl' : ((a.length : Int) != (b.length : Int)) = false := by simp [hl]
    have HL := hid hl
    clear hl
    go_enter Try.func27, Try.ntmps27
    go_wp2
    go_loopw [5] (fun i wr => ∃ k n : Nat, k ≤ a.length ∧ i = .int .i64 k ∧ a.take k = b.take k ∧ wr = w.drewN n) (fun i _ => a.length - (intOf i).toNat)
    case atStart => exact ⟨0, 0, Nat.zero_le _, rfl, by simp, rfl⟩
    case round =>
      obtain ⟨k, n, hk, rfl, heq, rfl⟩ := hrel
      by_cases hlt : k < a.length
      · obtain ⟨ba, oa, ca, ea, hca, hba, hxa⟩ := hs.some (by omega)
        obtain ⟨bb, ob, cb, eb, hcb, hbb, hxb⟩ := ht.some (by have := HL.out; omega)
        injection ea with e1 e2 e3
        injection eb with f1 f2 f3
        subst e1 f1 e3 f3
        clear e2 f2
        obtain ⟨x, hx⟩ := get_at hlt
        obtain ⟨y, hy⟩ := get_at (show k < b.length by have := HL.out; omega)
        have hcx := hxa k x hx
        have hcy := hxb k y hy
        have hlt2 : k < b.length := by have := HL.out; omega
        have hst := hid (show a.take (k + 1) = b.take (k + 1) ↔ x = y by
          rw [List.take_add_one, List.take_add_one, hx, hy, heq]
          simp)
        have hne := hid (show x ≠ y → decide (a = b) = false by
          intro h
          simp only [decide_eq_false_iff_not]
          rintro rfl
          rw [hx] at hy
          injection hy with hy
          exact h hy)
        clear hxa hxb heq hx hy
        by_cases hxy : x = y
        · subst hxy
          go_wp2
          go_quiet (fail)
          go_wp2
          go_roundw
          case rel => exact ⟨k + 1, _, by omega, by go_num, hst.out.2 trivial, rfl⟩
          case measure => simp [intOf]; omega
        · have hxy' : (x != y) = true := by simpa using hxy
          go_wp2
          go_quiet (fail)
          go_wp2
          go_ret
          exact ⟨by rw [hne.out hxy]; rfl, bl_drewN (bl_drewN (bl_refl _) _) _⟩
      · obtain rfl : k = a.length := by omega
        have hd := hid (show decide (a = b) = true by
          rw [List.take_length, HL.out, List.take_length] at heq
          simpa using heq)
        clear heq
        go_wp2
        go_ret
        exact ⟨by rw [hd.out]; rfl, bl_drewN (bl_refl _) _⟩
  · have hl' : ((a.length : Int) != (b.length : Int)) = true := by simp; omega
    have hne := hid (show decide (a = b) = false by simp; intro e; exact hl (by rw [e]))
    go_enter Try.func27, Try.ntmps27
    go_wp2
    go_ret
    exact ⟨by rw [hne.out]; rfl, bl_refl _⟩

end Go.Proofs.Ytfchcikdcnloaaa
