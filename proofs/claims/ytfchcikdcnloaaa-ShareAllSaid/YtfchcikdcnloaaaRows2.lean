/- A row that an append to an empty slice has made: it is the call's own, and is written. -/
import Derived.Test.YtfchcikdcnloaaaShares
namespace Go.Proofs.Ytfchcikdcnloaaa
open Go Go.RowKit Go.Proofs

/-- Block g is a row of whole numbers that begins with l. -/
def RowR (W : World) (g : Nat) (l : List Int) : Prop := ∃ rest : Array Value, W.heap[g]? = some (.cells ((l.map (Value.int .i64)).toArray ++ rest) 2 (0, 0))
theorem RowR.mono {W W' : World} {g : Nat} {l : List Int} (h : RowR W g l) (hb : Below W.heap.size W W') : RowR W' g l := by
  obtain ⟨r, h⟩ := h
  exact ⟨r, heap_mono h hb⟩
theorem RowR.lt {W : World} {g : Nat} {l : List Int} (h : RowR W g l) : g < W.heap.size := by
  obtain ⟨r, h⟩ := h
  exact (Array.getElem?_eq_some_iff.1 h).1
theorem RowR.cell {W : World} {g i : Nat} {l : List Int} {x : Int} (h : RowR W g l) (hx : l[i]? = some x) : W.cell? ⟨g, i, none⟩ = some (.int .i64 x) := by
  obtain ⟨r, h⟩ := h
  have hi := (List.getElem?_eq_some_iff.1 hx).1
  rw [cell_of_heap h, Array.getElem?_append_left (by simpa using hi)]
  simp [hx]
theorem RowR.fr {W : World} {g : Nat} {l : List Int} (h : RowR W g l) (i : Nat) : W.frozen? ⟨g, i, none⟩ = false := by
  obtain ⟨r, h⟩ := h
  exact frozen_of_heap h
theorem RowR.set {W : World} {g i : Nat} {l : List Int} (h : RowR W g l) (hi : i < l.length) (x : Int) : RowR (W.setCell ⟨g, i, none⟩ (.int .i64 x)) g (l.set i x) := by
  obtain ⟨r, h⟩ := h
  refine ⟨r, ?_⟩
  simp only [World.setCell, Array.getElem?_modify, if_true, h]
  congr 2
  simp [List.map_set, Array.setIfInBounds_append_left, hi]
theorem RowR.other {W : World} {g k o : Nat} {l : List Int} (h : RowR W g l) (u : Value) (hk : g ≠ k) : RowR (W.setCell ⟨k, o, none⟩ u) g l := by
  obtain ⟨r, h⟩ := h
  exact ⟨r, heap_grown h (grown_set _ _ _ _) hk⟩
theorem RowR.ints {W : World} {g n c : Nat} {l : List Int} (h : RowR W g l) (hn : l.length = n) (hc : n ≤ c) : Ints W (.slice (some ⟨g, 0, none⟩) n c) l :=
  .inr ⟨g, 0, c, by rw [hn], by omega, h.lt, fun i x hx => by rw [Nat.zero_add]; exact h.cell hx⟩

/-- Whole numbers appended to an empty row: a new row that may be written. -/
theorem append_row {W : World} {b0 : Nat} {A : Addr} {n c : Nat} {l : List Int} (hl : l.length = n) (h0 : 0 < n) (hn : n ≤ 100000) (hc : ∀ (i : Nat) (x : Int), l[i]? = some x → W.cell? (A.add i) = some (.int .i64 x)) :
    ∃ cap W', (Builtin.append_ #[22, 22] 22 #[.slice (some ⟨b0, 0, none⟩) 0 0, .slice (some A) n c]).run Try.prog W = .ok (.slice (some ⟨W.heap.size, 0, none⟩) n cap) W' ∧ n ≤ cap ∧ Below W.heap.size W W' ∧ RowR W' W.heap.size l := by
  obtain ⟨i0, hi, hz0, hz1, hz2⟩ := info_parts info2'
  have hrun := run_append_grow W 22 22 2 i0 (.int .i64 0) Try.underlying22 hi hz0 ⟨b0, 0, none⟩ 0 0 [] (by simp) (fun j v h => by simp at h) A n c (l.map (Value.int .i64)) (by rw [hz1]; simp [hl]) (fun j u hu => by
    rw [List.getElem?_map] at hu
    obtain ⟨y, hy, rfl⟩ := Option.map_eq_some_iff.mp hu
    exact hc j y hy) (by omega) (by omega) (by rw [hz2]; have := nextslicecap_le (need := 0 + n) (old := 0) (by omega); omega)
  refine ⟨_, _, by rw [Nat.zero_add] at hrun; exact hrun, ?_, bl_alloc (bl_drew (bl_refl _)) _, ?_⟩
  · have := grownCap_ge W n 0 2; exact this
  · have := World.alloc_heap_new W.drew (.cells (([] : List Value).toArray ++ (l.map (Value.int .i64)).toArray ++ Builtin.zeroCells (Value.int .i64 0).cells (grownCap W n 0 2 - n)) 2)
    exact ⟨Builtin.zeroCells (Value.int .i64 0).cells (grownCap W n 0 2 - n), Eq.trans this (by simp)⟩
end Go.Proofs.Ytfchcikdcnloaaa
