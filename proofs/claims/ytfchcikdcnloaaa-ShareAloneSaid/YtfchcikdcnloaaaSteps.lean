/- An append to a row of the call's own, as one step of a region that draws its order; a box that holds such a row. -/
import Derived.Test.YtfchcikdcnloaaaRegs
import Derived.Test.YtfchcikdcnloaaaRefe
import Derived.Deep.RegionLaw
namespace Go.Proofs.Ytfchcikdcnloaaa
open Go Go.RowKit Go.Proofs

/-- An append to a row of the call's own, as one step of a region that draws its order. -/
theorem step_append_own {P : Program} {ops : Array Oper} {o : Oper} {a : Act} {w : World} {K : Act → World → Prop} {Q : Exit → Act → World → Prop} {E : Prop} (hgd : o.guard = none) (s x : Operand) (t : TypeId)
    (ho : o.op = .call { callee := .builtin .append, args := #[s, x], argTypes := #[t, t] })
    (base : Nat) (e : TypeId) (i : TypeInfo) (z : Value) (size bytes : Nat) (ht : P.underlying t = some (.slice e)) (hi : P.info? e = some i) (hz : i.zero = some z)
    (hsize : i.size = size) (hby : i.bytes = bytes) (hzs : z.cells.size = size) (hsz : 0 < size)
    (v : Value) (n : Nat) (xs : List Value) (hs : a.eval s = v) (hown : w.ownsRow base e size v n xs)
    (ad : Addr) (m c : Nat) (news : List Value) (hx : a.eval x = .slice (some ad) m c) (hl : news.length = m * size) (hnews : ∀ j u, news[j]? = some u → w.cell? (ad.add j) = some u) (h1 : ∀ u ∈ news, u.oneCell' = true)
    (h63 : n + m ≤ maxLen) (hbytes : (n + m) * bytes ≤ 140737488355328) (hbase : base ≤ w.heap.size)
    (h : ∀ v' w', w'.ownsRow base e size v' (n + m) (xs ++ news) → w.grownBy w' v.ownBlock → (v' = .slice none 0 0 ↔ v = .slice none 0 0 ∧ m = 0) → K (a.put o.dst v') w') :
    if Region.wanted o (yielded ops a.tmps) = true then Oper.wp P o a w K Q else E := by
  have hw : Region.wanted o (yielded ops a.tmps) = true := by simp [Region.wanted, hgd]
  rw [if_pos hw]
  exact wp_append_own w s x t ho base e i z size bytes ht hi hz hsize hby hzs hsz v n xs hs hown ad m c news hx hl hnews h1 h63 hbytes hbase h

/-- A row of the call's own reads as the list. -/
theorem ints_own {w : World} {base e n : Nat} {v : Value} {l : List Int} (hl : l.length = n) (h : w.ownsRow base e 1 v n (l.map (Value.int .i64))) : Ints w v l := by
  subst hl
  rcases h.2 with ⟨rfl, h0⟩ | ⟨g, cap, cur, rfl, _, hg, hc, _, _, ht⟩
  · exact .inl ⟨rfl, List.eq_nil_of_length_eq_zero h0⟩
  · refine .inr ⟨g, 0, cap, rfl, hc, (Array.getElem?_eq_some_iff.1 hg).1, fun i x hx => ?_⟩
    have h2 := h.cells (g := g) rfl i (.int .i64 x) (by rw [List.getElem?_map, hx]; rfl)
    rw [Addr.add_lit] at h2
    exact h2

/-- A row of the call's own is a slice. -/
theorem own_slice {w : World} {base e n : Nat} {v : Value} {l : List Value} (h : w.ownsRow base e 1 v n l) : ∃ A c, v = .slice A n c := by
  rcases h.2 with ⟨rfl, h0⟩ | ⟨g, cap, cur, rfl, _⟩
  · subst h0; exact ⟨none, 0, rfl⟩
  · exact ⟨_, _, rfl⟩

/-- A block that is no part of the row stays. -/
theorem keep_other {W W' : World} {base e size n X : Nat} {v : Value} {xs : List Value} {cs : Array Value} {t : TypeId} (h : W.heap[X]? = some (.cells cs t (0, 0))) (ho : W.ownsRow base e size v n xs) (ht : e ≠ t) (hg : W.grownBy W' v.ownBlock) : W'.heap[X]? = some (.cells cs t (0, 0)) := by
  rw [hg.block X (Array.getElem?_eq_some_iff.1 h).1 (fun q => own_ne h ho ht q.symm)]
  exact h
/-- A store into such a block leaves the row. -/
theorem own_set_other {W : World} {base e size n X : Nat} {v : Value} {xs : List Value} {cs : Array Value} {t : TypeId} (h : W.heap[X]? = some (.cells cs t (0, 0))) (ho : W.ownsRow base e size v n xs) (ht : e ≠ t) (o : Nat) (u : Value) : (W.setCell ⟨X, o, none⟩ u).ownsRow base e size v n xs :=
  ho.kept (grown_set W X o u) (.inr (own_ne h ho ht))

/-- What lies there between two owners: the pool, the box of the other pool, and its row. -/
structure JInv (w wr : World) (B X : Nat) (cs : Array Value) (v a b : Value) (n : Nat) (xs : List Value) : Prop where
  pool : wr.heap[w.heap.size]? = some (.cells cs 24 (0, 0))
  box : wr.heap[X]? = some (.cells #[v, a, b] 24 (0, 0))
  own : wr.ownsRow B 2 1 v n xs
  old : Below w.heap.size w wr
theorem JInv.mono {w wr W : World} {B X : Nat} {cs : Array Value} {v a b : Value} {n : Nat} {xs : List Value} (D : JInv w wr B X cs v a b n xs) (hb : Below wr.heap.size wr W) : JInv w W B X cs v a b n xs :=
  ⟨heap_mono D.pool hb, heap_mono D.box hb, own_mono D.own hb, bl_trans D.old hb⟩
theorem set_head3 {W : World} {k : Nat} {a b c : Value} {t : TypeId} (h : W.heap[k]? = some (.cells #[a, b, c] t (0, 0))) (x : Value) : (W.setCell ⟨k, 0, none⟩ x).heap[k]? = some (.cells #[x, b, c] t (0, 0)) := by
  simp only [World.setCell, Array.getElem?_modify, if_true, h]
  rfl
theorem set_mid3 {W : World} {k : Nat} {a b c : Value} {t : TypeId} (h : W.heap[k]? = some (.cells #[a, b, c] t (0, 0))) (x : Value) : (W.setCell ⟨k, 1, none⟩ x).heap[k]? = some (.cells #[a, x, c] t (0, 0)) := by
  simp only [World.setCell, Array.getElem?_modify, if_true, h]
  rfl
/-- Behind the append and the store. -/
theorem JInv.grow {w W w5 : World} {B X n n' : Nat} {cs : Array Value} {v a b v' : Value} {xs ys : List Value} (D : JInv w W B X cs v a b n xs) (hB : w.heap.size < B) (hX : w.heap.size < X) (hg : W.grownBy w5 v.ownBlock) (hown' : w5.ownsRow B 2 1 v' n' ys) : JInv w (w5.setCell ⟨X, 0, none⟩ v') B X cs v' a b n' ys := by
  have hbox := keep_other D.box D.own (by decide) hg
  refine ⟨?_, set_head3 hbox v', own_set_other hbox hown' (by decide) _ _, bl_set (bl_grown D.old D.own (by omega) hg) _ (by omega)⟩
  rw [Below.heap_setCell w5 _ _ _ (show w.heap.size ≠ X by omega)]
  exact keep_other D.pool D.own (by decide) hg

end Go.Proofs.Ytfchcikdcnloaaa
