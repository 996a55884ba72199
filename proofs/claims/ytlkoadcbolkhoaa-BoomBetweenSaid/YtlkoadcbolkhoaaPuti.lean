/- A number is appended to a slice that lies in a box of the call's own, in a region that draws its order. -/
import Derived.Maps.AppendAt
import Derived.Test.YtlkoadcbolkhoaaLawe
set_option linter.all false
namespace Go.Proofs.Ytlkoadcbolkhoaa
open Go Go.RowKit Go.Proofs
attribute [local go_sem] cell_grow frozen_grow

structure PutI (X Y : Nat) (cx : Array Value) (ty : TypeId) (cy : Value → Array Value) (base : Nat) (v vo : Value) (n no : Nat) (xs xo : List Value) (E : Value) (sa ss : Bool) (u : Value) (W : World) : Prop where
  x : W.heap[X]? = some (.cells cx 24 (0, 0))
  q : W.heap[Y]? = some (.cells (cy (if ss = true then u else v)) ty (0, 0))
  a : sa = false → W.ownsRow base 3 1 v n xs
  b : sa = true → (∃ A c, u = .slice A (n + 1) c) ∧ W.ownsRow base 3 1 u (n + 1) (xs ++ [E])
  o : W.ownsRow base 3 1 vo no xo
  na : sa = false → ∀ g, v.ownBlock = some g → vo.ownBlock ≠ some g
  nb : sa = true → ∀ g, u.ownBlock = some g → vo.ownBlock ≠ some g
  bs : base ≤ W.heap.size
section
variable {X Y : Nat} {cx : Array Value} {ty : TypeId} {cy : Value → Array Value} {base : Nat} {v vo : Value} {n no : Nat} {xs xo : List Value} {E : Value} {sa ss : Bool} {u : Value} {W W' : World}
theorem PutI.mono (h : PutI X Y cx ty cy base v vo n no xs xo E sa ss u W) (hb : Below W.heap.size W W') : PutI X Y cx ty cy base v vo n no xs xo E sa ss u W' :=
  ⟨heap_mono h.x hb, heap_mono h.q hb, fun e => own_mono (h.a e) hb, fun e => ⟨(h.b e).1, own_mono (h.b e).2 hb⟩, own_mono h.o hb, h.na, h.nb, Nat.le_trans h.bs hb.size⟩
theorem PutI.start (hx : W.heap[X]? = some (.cells cx 24 (0, 0))) (hq : W.heap[Y]? = some (.cells (cy v) ty (0, 0))) (ha : W.ownsRow base 3 1 v n xs) (ho : W.ownsRow base 3 1 vo no xo) (hn : ∀ g, v.ownBlock = some g → vo.ownBlock ≠ some g) (hs : base ≤ W.heap.size) (u : Value) :
    PutI X Y cx ty cy base v vo n no xs xo E false false u W := ⟨hx, hq, fun _ => ha, (fun e => by cases e), ho, fun _ => hn, (fun e => by cases e), hs⟩
/-- Behind the append. -/
theorem PutI.app (ht : ty ≠ 3) (h : PutI X Y cx ty cy base v vo n no xs xo E false false u W) (hE : E.oneCell' = true) (hn : n ≤ 1000) {g : Nat} (hg : W.cell? ⟨g, 0, none⟩ = some E) : ∃ A c w', (Builtin.append_ #[22, 22] 22 #[v, .slice (some ⟨g, 0, none⟩) 1 1]).run Try.prog W = .ok (.slice A (n + 1) c) w' ∧ PutI X Y cx ty cy base v vo n no xs xo E true false (.slice A (n + 1) c) w' ∧ W.grownBy w' v.ownBlock := by
  obtain ⟨i3, hi3, hi30, hi31, hi32⟩ := info_parts info3
  obtain ⟨v', w', hrun, hown', hgrow, hnil, hblk⟩ := run_append_own_at (P := Try.prog) W base 22 22 3 i3 (.int .i64 0) 1 8 Try.underlying22 hi3 hi30 hi31 hi32 rfl (by decide) v _ _ (h.a rfl) ⟨g, 0, none⟩ 1 1 [E] rfl (fun j u hu => by
    match j, hu with
    | 0, hu => simp at hu; subst hu; rw [Addr.add_lit]; exact hg
    | j + 1, hu => simp at hu) (fun u hu => by simp at hu; subst hu; exact hE) (by unfold maxLen; omega) (by omega) h.bs
  obtain ⟨A, c, hv⟩ := own_slice hown'
  subst hv
  refine ⟨A, c, w', hrun, ⟨keep_other h.x (h.a rfl) (by decide) hgrow, keep_other h.q (h.a rfl) (fun e => ht e.symm) hgrow, fun e => (by cases e), fun _ => ⟨⟨A, c, rfl⟩, hown'⟩, ?_, fun e => (by cases e), fun _ => ?_, Nat.le_trans h.bs hgrow.size⟩, hgrow⟩
  · refine h.o.kept hgrow ?_
    cases hq : v.ownBlock with
    | none =>
      cases hq2 : vo.ownBlock with
      | none => exact .inl rfl
      | some g => exact .inr (by simp)
    | some g => exact .inr (h.na rfl g hq)
  · intro g h1 h2
    rcases hblk with hk | hk
    · rw [hk] at h1; exact h.na rfl g h1 h2
    · rw [hk] at h1
      injection h1 with h1
      have := (h.o.lt g h2).2
      omega
/-- Behind the store. -/
theorem PutI.put (ht : ty ≠ 3) (hXY : X ≠ Y) (h : PutI X Y cx ty cy base v vo n no xs xo E true false u W) (j : Nat) (hs : (W.setCell ⟨Y, j, none⟩ u).heap[Y]? = some (.cells (cy u) ty (0, 0))) : PutI X Y cx ty cy base v vo n no xs xo E true true u (W.setCell ⟨Y, j, none⟩ u) :=
  ⟨past_set hXY h.x, hs, fun e => (by cases e), fun _ => ⟨(h.b rfl).1, own_set_other h.q (h.b rfl).2 (fun e => ht e.symm) _ _⟩, own_set_other h.q h.o (fun e => ht e.symm) _ _, fun e => (by cases e), h.nb, by have := h.bs; simpa using this⟩
end
/-- A row of one number. -/
def Row1 (W : World) (v : Value) (E : Value) : Prop := ∃ g, v = .slice (some ⟨g, 0, none⟩) 1 1 ∧ W.heap[g]? = some (.cells #[E] 3 (0, 0))
theorem Row1.mono {W W' : World} {v E : Value} (h : Row1 W v E) (hb : Below W.heap.size W W') : Row1 W' v E := by
  obtain ⟨g, h1, h2⟩ := h
  exact ⟨g, h1, heap_mono h2 hb⟩
end Go.Proofs.Ytlkoadcbolkhoaa
