/- A plan of the call's own: a row of rows. -/
import Derived.Laws.Rows
import Derived.Test.YtbnmjbmlejifcaaCome
set_option linter.all false
namespace Go.Proofs.Ytbnmjbmlejifcaa
open Go Go.RowKit Go.Proofs

def ints (l : List Int) : List Value := l.map (Value.int .i64)
def rowVal (D : Nat) (B : Nat) : Value := .slice (some ⟨B, 0, none⟩) D D

/-- The value v owns the lists L, each of D numbers, in blocks of its own. -/
structure Mat (W : World) (base D : Nat) (v : Value) (Bs : List Nat) (L : List (List Int)) : Prop where
  own : W.ownsRow base 36 1 v L.length (Bs.map (rowVal D))
  len : Bs.length = L.length
  rows : ∀ (i B : Nat) (r : List Int), Bs[i]? = some B → L[i]? = some r → base ≤ B ∧ W.heap[B]? = some (.cells (ints r).toArray 2 (0, 0)) ∧ r.length = D
  nodup : ∀ (i j B : Nat), Bs[i]? = some B → Bs[j]? = some B → i = j

theorem Mat.nil (W : World) (base D : Nat) : Mat W base D (.slice none 0 0) [] [] :=
  ⟨World.ownsRow_nil _ _ _ _, rfl, fun i B r h => by simp at h, fun i j B h => by simp at h⟩
theorem Mat.mono {W W' : World} {base D : Nat} {v : Value} {Bs : List Nat} {L : List (List Int)} (M : Mat W base D v Bs L) (hb : Below W.heap.size W W') : Mat W' base D v Bs L :=
  ⟨own_mono M.own hb, M.len, fun i B r h1 h2 => by
    obtain ⟨a, b, c⟩ := M.rows i B r h1 h2
    exact ⟨a, heap_mono b hb, c⟩, M.nodup⟩
/-- A row that is no part of the outer row's block. -/
theorem Mat.other {W : World} {base D : Nat} {v : Value} {Bs : List Nat} {L : List (List Int)} (M : Mat W base D v Bs L) {B : Nat} {cs : Array Value} (h : W.heap[B]? = some (.cells cs 2 (0, 0))) : v.ownBlock ≠ some B :=
  own_ne h M.own (by decide)

/-- A store into one of the rows. -/
theorem Mat.set {W : World} {base D : Nat} {v : Value} {Bs : List Nat} {L : List (List Int)} (M : Mat W base D v Bs L) {i d B : Nat} {r : List Int} (hB : Bs[i]? = some B) (hr : L[i]? = some r) (hd : d < r.length) (x : Int) :
    Mat (W.setCell ⟨B, d, none⟩ (.int .i64 x)) base D v Bs (L.set i (r.set d x)) := by
  obtain ⟨a1, a2, a3⟩ := M.rows i B r hB hr
  have hi := (List.getElem?_eq_some_iff.1 hr).1
  refine ⟨?_, by simp [M.len], fun j C q h1 h2 => ?_, M.nodup⟩
  · rw [List.length_set]
    exact M.own.kept (grown_set W B d _) (.inr (M.other a2))
  · rw [List.getElem?_set] at h2
    by_cases e : i = j
    · subst e
      rw [if_pos rfl] at h2
      rw [if_pos hi] at h2
      injection h2 with h2
      subst h2
      rw [hB] at h1
      injection h1 with h1
      subst h1
      refine ⟨a1, ?_, by simp [a3]⟩
      rw [heap_setCell_same _ _ _ _ _ _ a2]
      simp [ints, List.map_set]
    · rw [if_neg e] at h2
      obtain ⟨b1, b2, b3⟩ := M.rows j C q h1 h2
      refine ⟨b1, past_set ?_ b2, b3⟩
      rintro rfl
      exact e (M.nodup i j C hB h1)

/-- A store elsewhere. -/
theorem Mat.setOther {W : World} {base D : Nat} {v : Value} {Bs : List Nat} {L : List (List Int)} (M : Mat W base D v Bs L) {X o : Nat} {u : Value} (h : X < base) : Mat (W.setCell ⟨X, o, none⟩ u) base D v Bs L := by
  refine ⟨M.own.kept (grown_set W X o u) (.inr fun e => by have := (M.own.lt _ e).1; omega), M.len, fun i B r h1 h2 => ?_, M.nodup⟩
  obtain ⟨a, b, c⟩ := M.rows i B r h1 h2
  exact ⟨a, past_set (by omega) b, c⟩
/-- One row more. -/
theorem Mat.more {W W' : World} {base D : Nat} {v v' : Value} {Bs : List Nat} {L : List (List Int)} (M : Mat W base D v Bs L) {B : Nat} {r : List Int} (hB : base ≤ B) (hr : W.heap[B]? = some (.cells (ints r).toArray 2 (0, 0))) (hl : r.length = D) (hnew : ∀ (i C : Nat), Bs[i]? = some C → C ≠ B)
    (hown : W'.ownsRow base 36 1 v' (L.length + 1) (Bs.map (rowVal D) ++ [rowVal D B])) (hg : W.grownBy W' v.ownBlock) : Mat W' base D v' (Bs ++ [B]) (L ++ [r]) := by
  have keep : ∀ (C : Nat) (cs : Array Value), W.heap[C]? = some (.cells cs 2 (0, 0)) → W'.heap[C]? = some (.cells cs 2 (0, 0)) := fun C cs h => by
    rw [hg.block C (Array.getElem?_eq_some_iff.1 h).1 (Ne.symm (M.other h))]; exact h
  refine ⟨by simpa using hown, by simp [M.len], fun i C q h1 h2 => ?_, fun i j C h1 h2 => ?_⟩
  · by_cases hi : i < L.length
    · rw [List.getElem?_append_left (by rw [M.len]; exact hi)] at h1
      rw [List.getElem?_append_left hi] at h2
      obtain ⟨a, b, c⟩ := M.rows i C q h1 h2
      exact ⟨a, keep _ _ b, c⟩
    · have hi2 := (List.getElem?_eq_some_iff.1 h2).1
      simp only [List.length_append, List.length_cons, List.length_nil] at hi2
      obtain rfl : i = L.length := by omega
      rw [List.getElem?_append_right (by rw [M.len]; exact Nat.le_refl _), M.len, Nat.sub_self] at h1
      rw [List.getElem?_append_right (Nat.le_refl _), Nat.sub_self] at h2
      simp only [List.getElem?_cons_zero, Option.some.injEq] at h1 h2
      subst h1 h2
      exact ⟨hB, keep _ _ hr, hl⟩
  · have hlen : (Bs ++ [B]).length = Bs.length + 1 := by simp
    have hi := (List.getElem?_eq_some_iff.1 h1).1
    have hj := (List.getElem?_eq_some_iff.1 h2).1
    rw [hlen] at hi hj
    by_cases ei : i < Bs.length
    · rw [List.getElem?_append_left ei] at h1
      by_cases ej : j < Bs.length
      · rw [List.getElem?_append_left ej] at h2
        exact M.nodup i j C h1 h2
      · rw [List.getElem?_append_right (by omega), show j - Bs.length = 0 by omega] at h2
        simp only [List.getElem?_cons_zero, Option.some.injEq] at h2
        exact absurd h2.symm (hnew i C h1)
    · rw [List.getElem?_append_right (by omega), show i - Bs.length = 0 by omega] at h1
      simp only [List.getElem?_cons_zero, Option.some.injEq] at h1
      by_cases ej : j < Bs.length
      · rw [List.getElem?_append_left ej] at h2
        exact absurd h1.symm (hnew j C h2)
      · omega
/-- What is stored is read. -/
theorem Mat.rowsAt {W : World} {base D : Nat} {v : Value} {Bs : List Nat} {L : List (List Int)} (M : Mat W base D v Bs L) : Rows W v L := by
  rcases M.own.2 with ⟨h1, h2⟩ | ⟨g, cap, cur, h1, hb, hg, hc, _, _, ht⟩
  · exact .inl ⟨h1, List.eq_nil_of_length_eq_zero h2⟩
  · refine .inr ⟨g, 0, cap, h1, hc, (Array.getElem?_eq_some_iff.1 hg).1, fun i r hr => ?_⟩
    have hi := (List.getElem?_eq_some_iff.1 hr).1
    obtain ⟨B, hB⟩ := get_at (l := Bs) (k := i) (by rw [M.len]; exact hi)
    obtain ⟨a1, a2, a3⟩ := M.rows i B r hB hr
    refine ⟨rowVal D B, ?_, ?_⟩
    · have := M.own.cells (g := g) (by rw [h1]; rfl) i (rowVal D B) (by rw [List.getElem?_map, hB]; rfl)
      rw [Addr.add_lit] at this
      exact this
    · refine .inr ⟨B, 0, D, by rw [a3]; rfl, by omega, (Array.getElem?_eq_some_iff.1 a2).1, fun k x hk => ?_⟩
      rw [Nat.zero_add, cell_of_heap a2]
      simp [ints, hk]

theorem made_zero (n : Nat) : madeCells (Value.int .i64 0).cells n = (ints (List.replicate n (0 : Int))).toArray := by
  apply Array.ext
  · simp [madeCells, ints]
  · intro i h1 h2
    simp [madeCells, Value.cells, Nat.mod_one, ints]
/-- One row of zeros more: made, laid into a row of one cell, appended. -/
theorem Mat.made {W w' : World} {base D : Nat} {v v' : Value} {Bs : List Nat} {L : List (List Int)} (M : Mat W base D v Bs L) (hb : base ≤ W.heap.size)
    (hown : w'.ownsRow base 36 1 v' (L.length + 1) (Bs.map (rowVal D) ++ [rowVal D W.heap.size])) (hg : ((W.alloc (.cells (ints (List.replicate D (0 : Int))).toArray 2)).alloc (.cells #[rowVal D W.heap.size] 36)).grownBy w' v.ownBlock) :
    Mat w' base D v' (Bs ++ [W.heap.size]) (L ++ [List.replicate D 0]) := by
  have h2 : Below W.heap.size W ((W.alloc (.cells (ints (List.replicate D (0 : Int))).toArray 2)).alloc (.cells #[rowVal D W.heap.size] 36)) := bl_alloc (bl_alloc (bl_refl _) _) _
  refine (M.mono h2).more hb (heap_mono (World.alloc_heap_new W _) (bl_alloc (bl_refl _) _)) (by simp) (fun i C hC e => ?_) hown hg
  subst e
  have hi := (List.getElem?_eq_some_iff.1 hC).1
  obtain ⟨r, hr⟩ := get_at (l := L) (k := i) (by rw [← M.len]; exact hi)
  have := (M.rows i _ r hC hr).2.1
  exact Nat.lt_irrefl _ (Array.getElem?_eq_some_iff.1 this).1
theorem bl_mat {w W w' : World} {base D : Nat} {v : Value} {Bs : List Nat} {L : List (List Int)} (h : Below w.heap.size w W) (M : Mat W base D v Bs L) (hB : w.heap.size ≤ base) (hg : W.grownBy w' v.ownBlock) : Below w.heap.size w w' := bl_grown h M.own hB hg
theorem info36 : (Try.prog.info? 36).map (fun i => (i.zero, i.size, i.bytes)) = some (some (.slice none 0 0), 1, 24) := by kernel_rfl
theorem info2' : (Try.prog.info? 2).map (fun i => (i.zero, i.size, i.bytes)) = some (some (.int .i64 0), 1, 8) := by kernel_rfl

end Go.Proofs.Ytbnmjbmlejifcaa
