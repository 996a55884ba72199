/- share's open, owned, shared: the table of a pool, or the error. -/
import Derived.Test.YtfchcikdcnloaaaPool
import Derived.Test.YtfchcikdcnloaaaFair
namespace Go.Proofs.Ytfchcikdcnloaaa
open Go.RowKit Go.Proofs

theorem withinB_iff (lo hi : Int) (l : List Int) : withinB lo hi l = true ↔ ∀ x ∈ l, lo ≤ x ∧ x ≤ hi := by
  simp only [withinB, badB, Bool.not_eq_true', List.any_eq_false, Bool.or_eq_true, decide_eq_true_eq, not_or, Int.not_lt]
theorem withinB_false (lo hi : Int) (l : List Int) : withinB lo hi l = false ↔ ∃ x ∈ l, x < lo ∨ hi < x := by
  rw [← Bool.not_eq_true, withinB_iff]
  simp only [Classical.not_forall, not_and]
  constructor
  · rintro ⟨x, hx, h⟩; exact ⟨x, hx, by omega⟩
  · rintro ⟨x, hx, h⟩; exact ⟨x, hx, by omega⟩

theorem checkPool_ok {had : List Int} {part prize : Int} : checkPool had part prize = 0 ↔ Val had part prize := by
  unfold checkPool
  constructor
  · intro h
    split at h
    · omega
    rename_i h1
    split at h
    · omega
    rename_i h2
    simp only [not_or, Bool.not_eq_false, withinB_iff, List.mem_singleton, forall_eq] at h1 h2
    exact ⟨by omega, by omega, fun i x hx => h2.1 x (List.mem_of_getElem? hx), h2.2.1.1, h2.2.1.2, h2.2.2.1, h2.2.2.2⟩
  · intro V
    have h1 : withinB 1 12 [(had.length : Int)] = true := by rw [withinB_iff]; simp only [List.mem_singleton, forall_eq]; have := V.l1; have := V.l2; omega
    have h2 : withinB 1 1000000 had = true := by
      rw [withinB_iff]; intro x hx
      obtain ⟨i, hi, rfl⟩ := List.mem_iff_getElem.mp hx
      exact V.h1 i _ (by simp [hi])
    have h3 : withinB 1 100 [part] = true := by rw [withinB_iff]; simp only [List.mem_singleton, forall_eq]; exact ⟨V.p1, V.p2⟩
    have h4 : withinB 0 1000 [prize] = true := by rw [withinB_iff]; simp only [List.mem_singleton, forall_eq]; exact ⟨V.z1, V.z2⟩
    simp [h1, h2, h3, h4]

def zero12 : List Int := [0, 0, 0, 0, 0, 0, 0, 0, 0, 0, 0, 0]
theorem zero12_ok : GotOk zero12 := by
  refine ⟨rfl, fun i x hx => ?_⟩
  have := List.mem_of_getElem? hx
  simp [zero12] at this; omega

theorem build84 (A : Option Addr) (n c : Nat) (part prize : Int) (w : World) : (Instr.build 84 #[(0, .agg #[.slice A n c, .int .i64 part, .int .i64 prize])]).run Try.prog w = .ok (.agg #[.slice A n c, .int .i64 part, .int .i64 prize, .int .i64 0, .int .i64 0, .int .i64 0, .int .i64 0, .int .i64 0, .int .i64 0, .int .i64 0, .int .i64 0, .int .i64 0, .int .i64 0, .int .i64 0, .int .i64 0]) w := run_build w 84 _ _ (by kernel_rfl)

theorem Ints.some {w : World} {s : Value} {l : List Int} (h : Ints w s l) (hl : 1 ≤ l.length) : ∃ b off c, s = .slice (some ⟨b, off, none⟩) l.length c ∧ l.length ≤ c ∧ b < w.heap.size ∧ ∀ i x, l[i]? = some x → w.cell? ⟨b, off + i, none⟩ = some (.int .i64 x) := by
  rcases h with ⟨_, rfl⟩ | h
  · simp at hl
  · exact h

set_option maxHeartbeats 1000000 in
theorem open_ok (had : List Int) (part prize : Int) (s : Value) (w : World) (V : Val had part prize) (hs : Ints w s had) :
    Calls Try.prog 55 #[.agg #[s, .int .i64 part, .int .i64 prize]] w fun e w' => (∃ g b off c, e = .returned (.tuple #[.pointer (some ⟨g, 0, none⟩), .int .i64 0]) ∧ w.heap.size ≤ g ∧ TabIs w' g b off c had part prize zero12) ∧ Below w.heap.size w w' := by
  have h0 := hid (checkPool_ok.mpr V)
  obtain ⟨b, off, c, rfl, hc, hb, hcell⟩ := hs.some V.l1
  have Hcell := Lib.hid hcell
  clear hcell
  have hbl := build84
  go_enter Try.func55, Try.ntmps55
  go_wp2_with fail
  refine (checkPool_any had part prize _ _ (by have := V.l2; omega) (hs.mono (bl_alloc (bl_refl _) _))).mono ?_
  rintro e w1 ⟨rfl, hb1⟩
  rw [h0.out]
  obtain ⟨hn, hnf⟩ := new_cells hb1
  have hB1 := bl_trans (bl_alloc (bl_refl _) _) hb1
  have hz := hB1.size
  go_wp2
  go_ret2
  refine ⟨⟨w1.heap.size, b, off, c, rfl, hz, ?_⟩, bl_alloc hB1 _⟩
  refine ⟨?_, fun i x hx => cell_mono (Hcell.out i x hx) (bl_alloc hB1 _), by simp; omega, by omega⟩
  show (w1.heap.push _)[w1.heap.size]? = _
  simp [tabObj, zero12]

set_option maxHeartbeats 1000000 in
theorem open_err (had : List Int) (part prize : Int) (s : Value) (w : World) (hl : had.length ≤ 1000) (V : checkPool had part prize ≠ 0) (hs : Ints w s had) :
    Calls Try.prog 55 #[.agg #[s, .int .i64 part, .int .i64 prize]] w fun e w' => e = .returned (.tuple #[.pointer none, .int .i64 (checkPool had part prize)]) ∧ Below w.heap.size w w' := by
  obtain ⟨A, c, rfl⟩ := hs.slice
  go_enter Try.func55, Try.ntmps55
  go_wp2_with fail
  refine (checkPool_any had part prize _ _ hl (hs.mono (bl_alloc (bl_refl _) _))).mono ?_
  rintro e w1 ⟨rfl, hb1⟩
  have hcp : (checkPool had part prize != 0) = true := by simpa using V
  clear V
  obtain ⟨hn, hnf⟩ := new_cells hb1
  have hB1 := bl_trans (bl_alloc (bl_refl _) _) hb1
  go_wp2
  go_ret2
  exact ⟨rfl, hB1⟩

set_option maxHeartbeats 1000000 in
theorem owned_err (had : List Int) (part prize owner : Int) (s : Value) (w : World) (hl : had.length ≤ 1000) (V : checkPool had part prize ≠ 0) (hs : Ints w s had) :
    Calls Try.prog 68 #[.agg #[s, .int .i64 part, .int .i64 prize], .int .i64 owner] w fun e w' => e = .returned (.tuple #[.pointer none, .int .i64 (checkPool had part prize)]) ∧ Below w.heap.size w w' := by
  obtain ⟨A, c, rfl⟩ := hs.slice
  have hcp : (checkPool had part prize != 0) = true := by simpa using V
  go_enter Try.func68, Try.ntmps68
  go_wp2_with fail
  refine (open_err had part prize _ _ hl V (hs.mono (bl_alloc (bl_refl _) _))).mono ?_
  rintro e w1 ⟨rfl, hb1⟩
  clear V
  obtain ⟨hn, hnf⟩ := new_cells hb1
  have hB1 := bl_trans (bl_alloc (bl_refl _) _) hb1
  go_wp2
  go_ret2
  exact ⟨rfl, hB1⟩

set_option maxHeartbeats 1000000 in
theorem owned_arg (had : List Int) (part prize owner : Int) (s : Value) (w : World) (V : Val had part prize) (ho : owner < 0 ∨ (had.length : Int) ≤ owner) (hs : Ints w s had) :
    Calls Try.prog 68 #[.agg #[s, .int .i64 part, .int .i64 prize], .int .i64 owner] w fun e w' => e = .returned (.tuple #[.pointer none, .int .i64 2]) ∧ Below w.heap.size w w' := by
  obtain ⟨A, c, rfl⟩ := hs.slice
  have hl2 := V.l2
  go_enter Try.func68, Try.ntmps68
  go_wp2_with fail
  refine (open_ok had part prize _ _ V (hs.mono (bl_alloc (bl_refl _) _))).mono ?_
  rintro e w1 ⟨⟨g, b, off, c', rfl, hg, T⟩, hb1⟩
  clear V
  obtain ⟨hn, hnf⟩ := new_cells hb1
  have hB1 := bl_trans (bl_alloc (bl_refl _) _) hb1
  have hTl := Lib.hid T
  clear T
  by_cases h0 : owner < 0
  · have h0' : decide (owner < 0) = true := by simpa using h0
    clear ho
    go_wp2
    go_ret2
    exact ⟨rfl, hB1⟩
  · have h0' : decide (owner < 0) = false := by simpa using h0
    have h1 : decide ((had.length : Int) ≤ owner) = true := by simp; omega
    clear ho
    go_wp2
    go_ret2
    exact ⟨rfl, hB1⟩

set_option maxHeartbeats 1000000 in
theorem owned_ok (had : List Int) (part prize : Int) (i : Nat) (s : Value) (w : World) (V : Val had part prize) (ho : i < had.length) (hs : Ints w s had) :
    Calls Try.prog 68 #[.agg #[s, .int .i64 part, .int .i64 prize], .int .i64 i] w fun e w' => (∃ g b off c, e = .returned (.tuple #[.pointer (some ⟨g, 0, none⟩), .int .i64 0]) ∧ w.heap.size ≤ g ∧ TabIs w' g b off c had part prize zero12) ∧ Below w.heap.size w w' := by
  obtain ⟨A, c, rfl⟩ := hs.slice
  have hl2 := V.l2
  go_enter Try.func68, Try.ntmps68
  go_wp2_with fail
  refine (open_ok had part prize _ _ V (hs.mono (bl_alloc (bl_refl _) _))).mono ?_
  rintro e w1 ⟨⟨g, b, off, c', rfl, hg, T⟩, hb1⟩
  clear V
  simp only [World.size_alloc] at hg
  obtain ⟨hn, hnf⟩ := new_cells hb1
  have hB1 := bl_trans (bl_alloc (bl_refl _) _) hb1
  have hTl := Lib.hid T
  clear T
  have h0' : decide ((i : Int) < 0) = false := by simp
  have h1 : decide (had.length ≤ i) = false := by simp; omega
  have h2 : decide ((had.length : Int) ≤ (i : Int)) = false := by simp; omega
  go_wp2
  go_ret2
  exact ⟨⟨g, b, off, c', rfl, by omega, hTl.out⟩, hB1⟩

end Go.Proofs.Ytfchcikdcnloaaa
