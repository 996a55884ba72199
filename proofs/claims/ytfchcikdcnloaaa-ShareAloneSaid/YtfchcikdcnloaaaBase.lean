/- Words that the walks of this seat share: how a list of whole numbers is read in memory, and what a call leaves as it was. -/
import Derived.WalkKit
import Derived.KernelRfl
import Derived.BigQuiet
import Derived.Deep.QuietTactic
import Derived.Lib.QuietBelow
import Derived.WalkSmall
import Derived.IntWalk
import Derived.Test.YtfchcikdcnloaaaProg
namespace Go.Proofs.Ytfchcikdcnloaaa
open Go.RowKit Go.Proofs

theorem hid {p : Prop} (h : p) : Hid p := h

/-- The slice value v holds the int64 numbers l. -/
def Ints (w : World) (v : Value) (l : List Int) : Prop :=
  (v = .slice none 0 0 ∧ l = []) ∨ ∃ b off c, v = .slice (some ⟨b, off, none⟩) l.length c ∧ l.length ≤ c ∧ b < w.heap.size ∧ ∀ i x, l[i]? = some x → w.cell? ⟨b, off + i, none⟩ = some (.int .i64 x)

theorem get_at {α : Type} {l : List α} {k : Nat} (h : k < l.length) : ∃ x, l[k]? = some x := ⟨l[k], by simp [h]⟩

theorem bl_refl (w : World) : Below w.heap.size w w := Below.refl _ _
theorem bl_alloc {w v : World} (h : Below w.heap.size w v) (o : Obj) : Below w.heap.size w (v.alloc o) := h.alloc h.size o
theorem bl_drew {w v : World} (h : Below w.heap.size w v) : Below w.heap.size w v.drew := h.drew
theorem bl_drewN {w v : World} (h : Below w.heap.size w v) (n : Nat) : Below w.heap.size w (v.drewN n) := below_drewN h n
theorem bl_set {w v : World} (h : Below w.heap.size w v) {b o : Nat} (u : Value) (hb : w.heap.size ≤ b) : Below w.heap.size w (v.setCell ⟨b, o, none⟩ u) := h.setCell (p := ⟨b, o, none⟩) hb u
theorem bl_trans {w v u : World} (h : Below w.heap.size w v) (k : Below v.heap.size v u) : Below w.heap.size w u := h.trans (k.mono h.size)

theorem cell_mono {w v : World} {a : Addr} {x : Value} (h : w.cell? a = some x) (hb : Below w.heap.size w v) : v.cell? a = some x :=
  (hb.cell (World.block_lt_of_cell? _ _ h)).trans h
theorem Ints.mono {w v : World} {s : Value} {l : List Int} (h : Ints w s l) (hb : Below w.heap.size w v) : Ints v s l := by
  rcases h with h | ⟨b, off, c, h1, h2, h3, h4⟩
  · exact .inl h
  · exact .inr ⟨b, off, c, h1, h2, Nat.lt_of_lt_of_le h3 hb.size, fun i x hi => cell_mono (h4 i x hi) hb⟩

/-- The rules by which the walk reads old cells in a later world. -/
theorem bcell {w v : World} (hb : Below w.heap.size w v) : (∀ b o, b < w.heap.size → v.cell? ⟨b, o, none⟩ = w.cell? ⟨b, o, none⟩) ∧ (∀ b o, b < w.heap.size → v.frozen? ⟨b, o, none⟩ = w.frozen? ⟨b, o, none⟩) :=
  ⟨fun b o h => hb.cell (p := ⟨b, o, none⟩) h, fun b o h => hb.frozen (p := ⟨b, o, none⟩) h⟩

/-- A block that was laid, in a later world. -/
theorem new_cells {w v : World} {cs : Array Value} {t : TypeId} (hb : Below (w.alloc (.cells cs t)).heap.size (w.alloc (.cells cs t)) v) :
    (∀ i, v.cell? ⟨w.heap.size, i, none⟩ = cs[i]?) ∧ (∀ i, v.frozen? ⟨w.heap.size, i, none⟩ = false) := by
  have h := hb.block w.heap.size (by simp)
  have e : (w.alloc (.cells cs t)).heap[w.heap.size]? = some (.cells cs t (0, 0)) := by
    show (w.heap.push _)[w.heap.size]? = _
    simp
  rw [e] at h
  exact ⟨fun i => by simp [World.cell?, h], fun i => by simp [World.frozen?, h]⟩

theorem own_mono {w v : World} {base e size n : Nat} {s : Value} {xs : List Value} (h : w.ownsRow base e size s n xs) (hb : Below w.heap.size w v) : v.ownsRow base e size s n xs :=
  h.kept (row := none) ⟨hb.os, hb.tape, hb.output, hb.size, fun k hk _ => hb.block k hk⟩ (by cases hv : s.ownBlock <;> simp)

/-- Behind an append to a row of the call's own. -/
theorem bl_grown {w v u : World} {base e size n : Nat} {s : Value} {xs : List Value} (h : Below w.heap.size w v) (ho : v.ownsRow base e size s n xs) (hB : w.heap.size ≤ base) (hg : v.grownBy u s.ownBlock) : Below w.heap.size w u :=
  h.grown hg h.size (fun k hk => by have := (ho.lt k hk).1; omega)

end Go.Proofs.Ytfchcikdcnloaaa
