/- A region that draws its order and writes to what an elder world does not hold; two rows of the call's own that grow. -/
import Derived.Test.YtfchcikdcnloaaaSteps
import Derived.Maps.AppendAt
namespace Go.Proofs.Ytfchcikdcnloaaa
open Go Go.RowKit Go.Proofs

section
variable {P : Program} {Q : Exit → Act → World → Prop}
theorem wp_region_vals0 {id : Nat} {a : Act} {w : World} {l : List Oper} (w0 : World) (hb0 : Below w0.heap.size w0 w) (ds : List Nat) (F : (Nat → Bool) → (Nat → Value) → World → Prop) (hm : P.follows .mixedOrders = true) (hB : backB .any l.toArray = true)
    (hds : (l.all fun o => match o.dst with | none => true | some d => ds.contains d) = true) (hz : (ds.all fun d => decide (d < a.tmps.size)) = true)
    (h0 : F (fun _ => false) (valsOf a) w.drew)
    (hs : ∀ i o, l[i]? = some o → ∀ (seen : Nat → Bool) (a' : Act) w', Below w0.heap.size w0 w' → F seen (valsOf a') w' → (∀ s, s ∉ ds → valsOf a' s = valsOf a s) → seen i = false → (∀ e ∈ o.after, Region.binds .any e = true → seen e.on = true) →
      o.wp P a' w' (fun a'' w'' => ∃ v, a'' = a'.put o.dst v ∧ Below w0.heap.size w0 w'' ∧ F (fun j => if j = i then true else seen j) (fun s => if o.dst = some s then v else valsOf a' s) w'') Q)
    (hend : ∀ (u : Nat → Value) w', Below w0.heap.size w0 w' → (∀ seen : Nat → Bool, (∀ i, i < l.length → seen i = true) → F seen u w' → Q .normal { a with tmps := setAll u ds a.tmps } w')) : (Code.region id l.toArray true).wp P Q a w := by
  have hz' : ∀ d ∈ ds, d < a.tmps.size := fun d hd => by simpa using List.all_eq_true.mp hz d hd
  refine wp_region_inv (fun seen a' w' => Below w0.heap.size w0 w' ∧ a'.tmps.size = a.tmps.size ∧ a'.defers = a.defers ∧ (∀ s, s ∉ ds → valsOf a' s = valsOf a s) ∧ F (fun i => seen.getD i false) (valsOf a') w') hm hB ⟨bl_drew hb0, rfl, rfl, fun _ _ => rfl, ?_⟩ ?_ ?_
  · have e : (fun i => (Array.replicate l.toArray.size false).getD i false) = fun _ => false := by
      funext i
      simp only [Array.getD]
      split <;> simp
    rw [e]; exact h0
  · rintro i o ho seen a' w' ⟨hb, hsz, hdf, hv, hF⟩ hzs hsi hdep
    have ho' : l[i]? = some o := by simpa using ho
    have hsi' : seen.getD i false = false := by
      have hlt := (Array.getElem?_eq_some_iff.1 ho).1
      simp only [Array.getD, hzs, hlt, dite_true] at hsi ⊢
      exact hsi
    refine Oper.wp_mono ?_ (hs i o ho' (fun i => seen.getD i false) a' w' hb hF hv hsi' hdep)
    rintro a'' w'' ⟨v, rfl, hb', hF'⟩
    have hlt := (Array.getElem?_eq_some_iff.1 ho).1
    have hseen : (fun j => (seen.setIfInBounds i true).getD j false) = fun j => if j = i then true else seen.getD j false := by
      funext j
      by_cases e : j = i
      · subst e
        have : j < seen.size := by rw [hzs]; exact hlt
        simp [this]
      · simp [Ne.symm e, e]
    rw [hseen]
    cases hd : o.dst with
    | none =>
      rw [hd] at hF'
      refine ⟨hb', hsz, hdf, hv, ?_⟩
      simpa [Act.put] using hF'
    | some d =>
      have hmem : d ∈ ds := by
        have := List.all_eq_true.mp hds o (List.mem_of_getElem? ho')
        simpa [hd] using this
      have hvals : valsOf (a'.put (some d) v) = fun s => if (some d : Option Nat) = some s then v else valsOf a' s := by
        funext s
        simp only [valsOf, Act.put]
        rw [getD_set _ _ _ _ (by rw [hsz]; exact hz' d hmem)]
        simp
      refine ⟨hb', by simpa [Act.put] using hsz, hdf, fun s hs => ?_, ?_⟩
      · rw [hvals]
        have : ¬ ((some d : Option Nat) = some s) := by rintro ⟨⟩; exact hs hmem
        simp only [this, if_false]
        exact hv s hs
      · rw [hvals, ← hd]; exact hF'
  · rintro a' w' ⟨hb, hsz, hdf, hv, hF⟩
    rw [vals_ext hsz hdf hz' hv]
    refine hend _ _ hb _ (fun i hi => ?_) hF
    simp [hi]

theorem wp_append_run {w : World} {o : Oper} {a : Act} {K : Act → World → Prop} (s x : Operand) (t : TypeId)
    (ho : o.op = .call { callee := .builtin .append, args := #[s, x], argTypes := #[t, t] }) (v v2 v' : Value) (w' : World) (hs : a.eval s = v) (hx : a.eval x = v2)
    (hr : (Builtin.append_ #[t, t] o.type #[v, v2]).run P w = .ok v' w') (h : K (a.put o.dst v') w') : o.wp P a w K Q := by
  unfold Oper.wp execOp
  simp only [ho, resolve, invoke, builtin, Sem.run_bind, Sem.run_pure, Result.andThen_ok, List.map_toArray, List.map_cons, List.map_nil, hs, hx, hr]
  exact h
end

/-- A row of one cell, apart from two others. -/
def RowFree (W : World) (v z c1 c2 : Value) : Prop := ∃ g, v = .slice (some ⟨g, 0, none⟩) 1 1 ∧ W.heap[g]? = some (.cells #[z] 2 (0, 0)) ∧ c1.ownBlock ≠ some g ∧ c2.ownBlock ≠ some g
theorem RowFree.mono {W W' : World} {v z c1 c2 : Value} (h : RowFree W v z c1 c2) (hb : Below W.heap.size W W') : RowFree W' v z c1 c2 := by
  obtain ⟨g, h1, h2, h3, h4⟩ := h
  exact ⟨g, h1, heap_mono h2 hb, h3, h4⟩
theorem RowFree.new {W : World} {z c1 c2 : Value} {B n1 n2 : Nat} {x1 x2 : List Value} (h1 : W.ownsRow B 2 1 c1 n1 x1) (h2 : W.ownsRow B 2 1 c2 n2 x2) : RowFree (W.alloc (.cells #[z] 2)) (.slice (some ⟨W.heap.size, 0, none⟩) 1 1) z c1 c2 :=
  ⟨W.heap.size, rfl, World.alloc_heap_new _ _, fun h => Nat.lt_irrefl _ (h1.lt _ h).2, fun h => Nat.lt_irrefl _ (h2.lt _ h).2⟩

/-- Two rows that grow, and a box whose first cell is the one of them. -/
def MemF (X : Nat) (p q v1 v2 : Value) (n : Nat) (xs ys : List Value) (y x : Value) (s7 s8 s14 s15 s17 : Bool) (u61 u62 u68 u69 : Value) (W : World) : Prop :=
  ∃ c1 n1 x1 c2 n2 x2 b, W.heap[X]? = some (.cells #[b, p, q] 24 (0, 0)) ∧ W.ownsRow (X + 1) 2 1 c1 n1 x1 ∧ W.ownsRow (X + 1) 2 1 c2 n2 x2 ∧ (c1.ownBlock = none ∨ c1.ownBlock ≠ c2.ownBlock) ∧ X < W.heap.size ∧
    (if s8 = true then c1 = u62 ∧ n1 = n + 1 ∧ x1 = xs ++ [y] else c1 = v1 ∧ n1 = n ∧ x1 = xs) ∧ (if s15 = true then c2 = u69 ∧ n2 = n + 1 ∧ x2 = ys ++ [x] else c2 = v2 ∧ n2 = n ∧ x2 = ys) ∧
    (if s17 = true then b = u62 ∧ s8 = true else b = v1) ∧ (s7 = true → RowFree W u61 y c1 c2) ∧ (s14 = true → RowFree W u68 x c1 c2)

section
variable {X n : Nat} {p q v1 v2 y x : Value} {xs ys : List Value} {s7 s8 s14 s15 s17 : Bool} {u61 u62 u68 u69 : Value} {W : World}
theorem MemF.row1 (h : MemF X p q v1 v2 n xs ys y x false s8 s14 s15 s17 u61 u62 u68 u69 W) : MemF X p q v1 v2 n xs ys y x true s8 s14 s15 s17 (.slice (some ⟨W.heap.size, 0, none⟩) 1 1) u62 u68 u69 (W.alloc (.cells #[y] 2)) := by
  obtain ⟨c1, n1, x1, c2, n2, x2, b, h1, h2, h3, h4, h5, h6, h7, h8, h9, h10⟩ := h
  have hb := bl_alloc (bl_refl W) (.cells #[y] 2)
  exact ⟨c1, n1, x1, c2, n2, x2, b, heap_mono h1 hb, own_mono h2 hb, own_mono h3 hb, h4, Nat.lt_of_lt_of_le h5 hb.size, h6, h7, h8, fun _ => RowFree.new h2 h3, fun e => (h10 e).mono hb⟩
theorem MemF.row2 (h : MemF X p q v1 v2 n xs ys y x s7 s8 false s15 s17 u61 u62 u68 u69 W) : MemF X p q v1 v2 n xs ys y x s7 s8 true s15 s17 u61 u62 (.slice (some ⟨W.heap.size, 0, none⟩) 1 1) u69 (W.alloc (.cells #[x] 2)) := by
  obtain ⟨c1, n1, x1, c2, n2, x2, b, h1, h2, h3, h4, h5, h6, h7, h8, h9, h10⟩ := h
  have hb := bl_alloc (bl_refl W) (.cells #[x] 2)
  exact ⟨c1, n1, x1, c2, n2, x2, b, heap_mono h1 hb, own_mono h2 hb, own_mono h3 hb, h4, Nat.lt_of_lt_of_le h5 hb.size, h6, h7, h8, fun e => (h9 e).mono hb, fun _ => RowFree.new h2 h3⟩
/-- A row of one element more is no nil. -/
theorem own_some {B e m : Nat} {v : Value} {l : List Value} (h : W.ownsRow B e 1 v (m + 1) l) : v.ownBlock ≠ none := by
  rcases h.2 with ⟨_, h0⟩ | ⟨g, _, _, rfl, _⟩
  · omega
  · simp [Value.ownBlock]
theorem RowFree.grown {W W' : World} {v z c1 c2 c : Value} (h : RowFree W v z c1 c2) (hg : W.grownBy W' c1.ownBlock) (hat : c.ownBlock = c1.ownBlock ∨ c.ownBlock = some W.heap.size) : RowFree W' v z c c2 ∧ RowFree W' v z c1 c2 := by
  obtain ⟨g, e1, e2, e3, e4⟩ := h
  have hlt := (Array.getElem?_eq_some_iff.1 e2).1
  have e2' : W'.heap[g]? = some (.cells #[z] 2 (0, 0)) := by rw [hg.block g hlt (Ne.symm e3)]; exact e2
  refine ⟨⟨g, e1, e2', ?_, e4⟩, ⟨g, e1, e2', e3, e4⟩⟩
  rcases hat with hat | hat
  · rw [hat]; exact e3
  · rw [hat]; intro he; injection he with he; omega
theorem RowFree.swap {W : World} {v z c1 c2 : Value} (h : RowFree W v z c1 c2) : RowFree W v z c2 c1 := by
  obtain ⟨g, e1, e2, e3, e4⟩ := h
  exact ⟨g, e1, e2, e4, e3⟩
theorem MemF.app1 {w0 : World} (h : MemF X p q v1 v2 n xs ys y x true false s14 s15 s17 u61 u62 u68 u69 W) (hb : Below w0.heap.size w0 W) (hX : w0.heap.size ≤ X) (hn : n ≤ 100) (hy : y.oneCell' = true) :
    ∃ v' w', (Builtin.append_ #[22, 22] 22 #[v1, u61]).run Try.prog W = .ok v' w' ∧ MemF X p q v1 v2 n xs ys y x true true s14 s15 s17 u61 v' u68 u69 w' ∧ Below w0.heap.size w0 w' := by
  obtain ⟨c1, n1, x1, c2, n2, x2, b, h1, h2, h3, h4, h5, h6, h7, h8, h9, h10⟩ := h
  simp only [Bool.false_eq_true, if_false] at h6
  obtain ⟨rfl, rfl, rfl⟩ := h6
  obtain ⟨g, rfl, e2, e3, e4⟩ := h9 rfl
  obtain ⟨i0, hi0, hz0, hz1, hz2⟩ := info_parts info2'
  obtain ⟨v', w', hr, hown, hg, _, hat⟩ := run_append_own_at (P := Try.prog) W (X + 1) 22 22 2 i0 (.int .i64 0) 1 8 Try.underlying22 hi0 hz0 hz1 hz2 rfl (by decide) c1 n1 x1 h2 ⟨g, 0, none⟩ 1 1 [y] rfl (fun j u hj => by
    rw [Addr.add_lit, Nat.zero_add, cell_of_heap e2]
    simpa using hj) (fun u hu => by simp at hu; subst hu; exact hy) (by unfold maxLen; omega) (by omega) (by omega)
  have hl2 := h2.lt
  have hl3 := h3.lt
  refine ⟨v', w', hr, ⟨v', n1 + 1, x1 ++ [y], c2, n2, x2, b, keep_other h1 h2 (by decide) hg, hown, h3.kept hg ?_, ?_, Nat.lt_of_lt_of_le h5 hg.size, by simp, h7, ?_, fun _ => (RowFree.grown ⟨g, rfl, e2, e3, e4⟩ hg hat).1, fun e => (RowFree.grown (h10 e) hg hat).1⟩, bl_grown hb h2 (by omega) hg⟩
  · rcases h4 with h4 | h4
    · rw [h4]
      cases c2.ownBlock with
      | none => exact .inl rfl
      | some k => exact .inr (by simp)
    · exact .inr (Ne.symm h4)
  · rcases hat with hat | hat
    · rw [hat]; exact h4
    · rw [hat]
      refine .inr fun e => ?_
      exact Nat.lt_irrefl _ (hl3 _ e.symm).2
  · cases s17 with
    | false => simpa using h8
    | true => simp at h8
theorem MemF.app2 {w0 : World} (h : MemF X p q v1 v2 n xs ys y x s7 s8 true false s17 u61 u62 u68 u69 W) (hb : Below w0.heap.size w0 W) (hX : w0.heap.size ≤ X) (hn : n ≤ 100) (hx : x.oneCell' = true) :
    ∃ v' w', (Builtin.append_ #[22, 22] 22 #[v2, u68]).run Try.prog W = .ok v' w' ∧ MemF X p q v1 v2 n xs ys y x s7 s8 true true s17 u61 u62 u68 v' w' ∧ Below w0.heap.size w0 w' := by
  obtain ⟨c1, n1, x1, c2, n2, x2, b, h1, h2, h3, h4, h5, h6, h7, h8, h9, h10⟩ := h
  simp only [Bool.false_eq_true, if_false] at h7
  obtain ⟨rfl, rfl, rfl⟩ := h7
  obtain ⟨g, rfl, e2, e3, e4⟩ := h10 rfl
  obtain ⟨i0, hi0, hz0, hz1, hz2⟩ := info_parts info2'
  obtain ⟨v', w', hr, hown, hg, _, hat⟩ := run_append_own_at (P := Try.prog) W (X + 1) 22 22 2 i0 (.int .i64 0) 1 8 Try.underlying22 hi0 hz0 hz1 hz2 rfl (by decide) c2 n2 x2 h3 ⟨g, 0, none⟩ 1 1 [x] rfl (fun j u hj => by
    rw [Addr.add_lit, Nat.zero_add, cell_of_heap e2]
    simpa using hj) (fun u hu => by simp at hu; subst hu; exact hx) (by unfold maxLen; omega) (by omega) (by omega)
  have hl2 := h2.lt
  refine ⟨v', w', hr, ⟨c1, n1, x1, v', n2 + 1, x2 ++ [x], b, keep_other h1 h3 (by decide) hg, h2.kept hg ?_, hown, ?_, Nat.lt_of_lt_of_le h5 hg.size, h6, by simp, h8, fun e => (RowFree.grown (h9 e).swap hg hat).1.swap, fun _ => (RowFree.grown (RowFree.swap ⟨g, rfl, e2, e3, e4⟩) hg hat).1.swap⟩, bl_grown hb h3 (by omega) hg⟩
  · rcases h4 with h4 | h4
    · exact .inl h4
    · exact .inr h4
  · rcases hat with hat | hat
    · rw [hat]; exact h4
    · rw [hat]
      refine .inr fun e => ?_
      exact Nat.lt_irrefl _ (hl2 _ e).2
theorem RowFree.set {v z c1 c2 : Value} {cs : Array Value} (h : RowFree W v z c1 c2) (hX : W.heap[X]? = some (.cells cs 24 (0, 0))) (o : Nat) (u : Value) : RowFree (W.setCell ⟨X, o, none⟩ u) v z c1 c2 := by
  obtain ⟨g, e1, e2, e3, e4⟩ := h
  refine ⟨g, e1, past_set ?_ e2, e3, e4⟩
  rintro rfl
  rw [hX] at e2
  injection e2 with e2
  injection e2 with _ e5
  exact absurd e5 (by decide)
theorem MemF.store (h : MemF X p q v1 v2 n xs ys y x s7 true s14 s15 false u61 u62 u68 u69 W) : MemF X p q v1 v2 n xs ys y x s7 true s14 s15 true u61 u62 u68 u69 (W.setCell ⟨X, 0, none⟩ u62) ∧ ∃ b, W.heap[X]? = some (.cells #[b, p, q] 24 (0, 0)) := by
  obtain ⟨c1, n1, x1, c2, n2, x2, b, h1, h2, h3, h4, h5, h6, h7, h8, h9, h10⟩ := h
  exact ⟨⟨c1, n1, x1, c2, n2, x2, u62, set_head3 h1 _, own_set_other h1 h2 (by decide) _ _, own_set_other h1 h3 (by decide) _ _, h4, by simpa using h5, h6, h7, by simp, fun e => (h9 e).set h1 _ _, fun e => (h10 e).set h1 _ _⟩, b, h1⟩
end

theorem MemF.s8 {X n : Nat} {p q v1 v2 y x : Value} {xs ys : List Value} {s7 s8 s14 s15 s17 : Bool} {u61 u62 u68 u69 : Value} {W : World} (h : MemF X p q v1 v2 n xs ys y x s7 s8 s14 s15 s17 u61 u62 u68 u69 W) (hs : s17 = true) : s8 = true := by
  obtain ⟨c1, n1, x1, c2, n2, x2, b, h1, h2, h3, h4, h5, h6, h7, h8, h9, h10⟩ := h
  subst hs
  exact h8.2
theorem MemF.first {X n : Nat} {p q v1 v2 y x : Value} {xs ys : List Value} {s7 s8 s14 s15 s17 : Bool} {u61 u62 u68 u69 : Value} {W : World} (h : MemF X p q v1 v2 n xs ys y x s7 s8 s14 s15 s17 u61 u62 u68 u69 W) (hs : s17 = false) : W.heap[X]? = some (.cells #[v1, p, q] 24 (0, 0)) := by
  obtain ⟨c1, n1, x1, c2, n2, x2, b, h1, h2, h3, h4, h5, h6, h7, h8, h9, h10⟩ := h
  subst hs
  simp only [Bool.false_eq_true, if_false] at h8
  subst h8
  exact h1
theorem MemF.slice1 {X n : Nat} {p q v1 v2 y x : Value} {xs ys : List Value} {s7 s14 s15 s17 : Bool} {u61 u62 u68 u69 : Value} {W : World} (h : MemF X p q v1 v2 n xs ys y x s7 true s14 s15 s17 u61 u62 u68 u69 W) : ∃ A m c, u62 = .slice A m c := by
  obtain ⟨c1, n1, x1, c2, n2, x2, b, h1, h2, h3, h4, h5, h6, h7, h8, h9, h10⟩ := h
  simp only [if_true] at h6
  obtain ⟨rfl, rfl, rfl⟩ := h6
  obtain ⟨A, c, e⟩ := own_slice h2
  exact ⟨A, _, c, e⟩

/-- What lies there between two owners of ShareAlone. -/
structure TInv (w4 wr : World) (X : Nat) (part sum v1 v2 : Value) (n : Nat) (xs ys : List Value) : Prop where
  old : Below w4.heap.size w4 wr
  box : wr.heap[X]? = some (.cells #[v1, part, sum] 24 (0, 0))
  own1 : wr.ownsRow (X + 1) 2 1 v1 n xs
  own2 : wr.ownsRow (X + 1) 2 1 v2 n ys
  sep : v1.ownBlock = none ∨ v1.ownBlock ≠ v2.ownBlock
theorem TInv.start {w4 wr : World} {X n : Nat} {part sum v1 v2 y x u61 u62 u68 u69 : Value} {xs ys : List Value} (D : TInv w4 wr X part sum v1 v2 n xs ys) : MemF X part sum v1 v2 n xs ys y x false false false false false u61 u62 u68 u69 wr :=
  ⟨v1, n, xs, v2, n, ys, v1, D.box, D.own1, D.own2, D.sep, (Array.getElem?_eq_some_iff.1 D.box).1, by simp, by simp, by simp, by simp, by simp⟩
theorem TInv.mono {w4 wr W : World} {X n : Nat} {part sum v1 v2 : Value} {xs ys : List Value} (D : TInv w4 wr X part sum v1 v2 n xs ys) (hb : Below wr.heap.size wr W) : TInv w4 W X part sum v1 v2 n xs ys :=
  ⟨bl_trans D.old hb, heap_mono D.box hb, own_mono D.own1 hb, own_mono D.own2 hb, D.sep⟩
theorem TInv.done {w4 W : World} {X n : Nat} {p q v1 v2 y x u61 u62 u68 u69 : Value} {xs ys : List Value} (hb : Below w4.heap.size w4 W) (h : MemF X p q v1 v2 n xs ys y x true true true true true u61 u62 u68 u69 W) : TInv w4 W X p q u62 u69 (n + 1) (xs ++ [y]) (ys ++ [x]) := by
  obtain ⟨c1, n1, x1, c2, n2, x2, b, h1, h2, h3, h4, h5, h6, h7, h8, h9, h10⟩ := h
  simp only [if_true] at h6 h7 h8
  obtain ⟨rfl, rfl, rfl⟩ := h6
  obtain ⟨rfl, rfl, rfl⟩ := h7
  obtain ⟨rfl, _⟩ := h8
  exact ⟨hb, h1, h2, h3, h4⟩
theorem set_third3 {W : World} {k : Nat} {a b c : Value} {t : TypeId} (h : W.heap[k]? = some (.cells #[a, b, c] t (0, 0))) (x : Value) : (W.setCell ⟨k, 2, none⟩ x).heap[k]? = some (.cells #[a, b, x] t (0, 0)) := by
  simp only [World.setCell, Array.getElem?_modify, if_true, h]
  rfl
theorem TInv.add {w4 wr : World} {X n : Nat} {part sum v1 v2 : Value} {xs ys : List Value} (D : TInv w4 wr X part sum v1 v2 n xs ys) (hX : w4.heap.size ≤ X) (s : Value) : TInv w4 (wr.setCell ⟨X, 2, none⟩ s) X part s v1 v2 n xs ys :=
  ⟨bl_set D.old _ hX, set_third3 D.box s, own_set_other D.box D.own1 (by decide) _ _, own_set_other D.box D.own2 (by decide) _ _, D.sep⟩

end Go.Proofs.Ytfchcikdcnloaaa
