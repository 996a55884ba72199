/- Boxes and rows that a region makes in an order that is drawn. -/
import Derived.Test.YtfchcikdcnloaaaWorks
namespace Go.Proofs.Ytfchcikdcnloaaa
open Go Go.RowKit Go.Proofs

theorem past_set {W : World} {B o : Nat} {u : Value} {k : Nat} {x : Obj} (hk : k ≠ B) (h : W.heap[k]? = some x) : (W.setCell ⟨B, o, none⟩ u).heap[k]? = some x := by
  rw [Below.heap_setCell W _ _ _ hk]; exact h

theorem BoxAt.past {base : Nat} {W W' : World} {v : Value} {t : TypeId} {cs : Array Value} {B : Nat} (h : BoxAt base W v t cs) (hne : v ≠ .pointer (some ⟨B, 0, none⟩)) (hp : ∀ k o, k ≠ B → W.heap[k]? = some o → W'.heap[k]? = some o) : BoxAt base W' v t cs := by
  obtain ⟨C, e1, e2, e3⟩ := h
  have hCB : C ≠ B := by rintro rfl; exact hne e1
  exact ⟨C, e1, e2, hp _ _ hCB e3⟩
theorem BoxAt.put2 {base : Nat} {W : World} {v : Value} {t : TypeId} {x y : Value} {B : Nat} (h1 : v = .pointer (some ⟨B, 0, none⟩)) (h2 : base ≤ B) (h3 : W.heap[B]? = some (.cells #[x, y] t (0, 0))) (x' y' : Value) :
    BoxAt base ((W.setCell ⟨B, 0, none⟩ x').setCell ⟨B, 1, none⟩ y') v t #[x', y'] ∧ (∀ v' t' cs, BoxAt base W v' t' cs → v' ≠ .pointer (some ⟨B, 0, none⟩) → BoxAt base ((W.setCell ⟨B, 0, none⟩ x').setCell ⟨B, 1, none⟩ y') v' t' cs) ∧
    ∀ k o, k ≠ B → W.heap[k]? = some o → ((W.setCell ⟨B, 0, none⟩ x').setCell ⟨B, 1, none⟩ y').heap[k]? = some o := by
  have hp : ∀ k o, k ≠ B → W.heap[k]? = some o → ((W.setCell ⟨B, 0, none⟩ x').setCell ⟨B, 1, none⟩ y').heap[k]? = some o := fun k o hk h => past_set hk (past_set hk h)
  refine ⟨⟨B, h1, h2, ?_⟩, fun v' t' cs h hne => h.past hne hp, hp⟩
  simp only [World.setCell, Array.getElem?_modify, if_true, h3]
  rfl
theorem BoxAt.put3 {base : Nat} {W : World} {v : Value} {t : TypeId} {x y z : Value} {B : Nat} (h1 : v = .pointer (some ⟨B, 0, none⟩)) (h2 : base ≤ B) (h3 : W.heap[B]? = some (.cells #[x, y, z] t (0, 0))) (x' y' z' : Value) :
    BoxAt base (((W.setCell ⟨B, 0, none⟩ x').setCell ⟨B, 1, none⟩ y').setCell ⟨B, 2, none⟩ z') v t #[x', y', z'] ∧ (∀ v' t' cs, BoxAt base W v' t' cs → v' ≠ .pointer (some ⟨B, 0, none⟩) → BoxAt base (((W.setCell ⟨B, 0, none⟩ x').setCell ⟨B, 1, none⟩ y').setCell ⟨B, 2, none⟩ z') v' t' cs) ∧
    ∀ k o, k ≠ B → W.heap[k]? = some o → (((W.setCell ⟨B, 0, none⟩ x').setCell ⟨B, 1, none⟩ y').setCell ⟨B, 2, none⟩ z').heap[k]? = some o := by
  have hp : ∀ k o, k ≠ B → W.heap[k]? = some o → (((W.setCell ⟨B, 0, none⟩ x').setCell ⟨B, 1, none⟩ y').setCell ⟨B, 2, none⟩ z').heap[k]? = some o := fun k o hk h => past_set hk (past_set hk (past_set hk h))
  refine ⟨⟨B, h1, h2, ?_⟩, fun v' t' cs h hne => h.past hne hp, hp⟩
  simp only [World.setCell, Array.getElem?_modify, if_true, h3]
  rfl

/-- The value is a slice of a row of the call's own, which holds these cells. -/
def RowAt (base : Nat) (W : World) (v : Value) (t : TypeId) (cs : Array Value) : Prop := ∃ g, v = .slice (some ⟨g, 0, none⟩) cs.size cs.size ∧ base ≤ g ∧ W.heap[g]? = some (.cells cs t (0, 0))
theorem RowAt.mono {base : Nat} {W W' : World} {v : Value} {t : TypeId} {cs : Array Value} (h : RowAt base W v t cs) (hb : Below W.heap.size W W') : RowAt base W' v t cs := by
  obtain ⟨B, h1, h2, h3⟩ := h
  exact ⟨B, h1, h2, heap_mono h3 hb⟩
theorem RowAt.new {base : Nat} {W : World} {t : TypeId} {cs : Array Value} (h : base ≤ W.heap.size) : RowAt base (W.alloc (.cells cs t)) (.slice (some ⟨W.heap.size, 0, none⟩) cs.size cs.size) t cs := ⟨_, rfl, h, World.alloc_heap_new _ _⟩
theorem RowAt.past {base : Nat} {W W' : World} {v : Value} {t t' : TypeId} {cs cs' : Array Value} {B : Nat} (h : RowAt base W v t cs) (hB : W.heap[B]? = some (.cells cs' t' (0, 0))) (ht : t ≠ t') (hp : ∀ k o, k ≠ B → W.heap[k]? = some o → W'.heap[k]? = some o) : RowAt base W' v t cs := by
  obtain ⟨g, e1, e2, e3⟩ := h
  refine ⟨g, e1, e2, hp _ _ ?_ e3⟩
  rintro rfl
  rw [hB] at e3
  injection e3 with e3
  injection e3 with _ e4
  exact ht e4.symm
/-- A row of numbers reads as the list. -/
theorem RowAt.ints {base : Nat} {W : World} {v : Value} {t : TypeId} {cs : Array Value} {l : List Int} (h : RowAt base W v t cs) (hcs : cs = (l.map (Value.int .i64)).toArray := by rfl) : Ints W v l := by
  subst hcs
  obtain ⟨g, rfl, _, e3⟩ := h
  refine .inr ⟨g, 0, l.length, by simp, Nat.le_refl _, (Array.getElem?_eq_some_iff.1 e3).1, fun i x hi => ?_⟩
  rw [Nat.zero_add, cell_of_heap e3]
  simp [hi]
theorem RowAt.own {base e : Nat} {W : World} {v : Value} {cs : Array Value} (h : RowAt base W v e cs) (hm : cs.size ≤ maxLen) : W.ownsRow base e 1 v cs.size cs.toList := by
  obtain ⟨g, rfl, h2, h3⟩ := h
  exact ⟨by simp, .inr ⟨g, cs.size, cs, rfl, h2, h3, Nat.le_refl _, hm, by simp, by rw [Nat.mul_one, ← Array.length_toList, List.take_length]⟩⟩
/-- A row is no box of another type. -/
theorem own_ne {W : World} {base e size n X : Nat} {v : Value} {xs : List Value} {cs : Array Value} {t : TypeId} (h : W.heap[X]? = some (.cells cs t (0, 0))) (ho : W.ownsRow base e size v n xs) (ht : e ≠ t) : v.ownBlock ≠ some X := by
  rcases ho.2 with ⟨rfl, _⟩ | ⟨g, cap, cur, rfl, _, hg, _⟩
  · simp [Value.ownBlock]
  · intro he
    simp only [Value.ownBlock, Option.some.injEq] at he
    subst he
    rw [h] at hg
    injection hg with hg
    injection hg with _ e4
    exact ht e4.symm

end Go.Proofs.Ytfchcikdcnloaaa
