/- What a year's days leave in memory. -/
import Derived.Test.YtbnmjbmlejifcaaArr
import Derived.Test.YtbnmjbmlejifcaaYear
import Derived.Test.YtbnmjbmlejifcaaSpot
set_option linter.all false
namespace Go.Proofs.Ytbnmjbmlejifcaa
open Go Go.RowKit Go.Proofs

def row8 (f : Nat → Int) : List Int := (List.range 8).map f
theorem row8_len (f : Nat → Int) : (row8 f).length = 8 := by simp [row8]
theorem row8_at {f : Nat → Int} {i : Nat} (h : i < 8) : (row8 f)[i]? = some (f i) := by simp [row8, h]
theorem row8_set {f g : Nat → Int} {i : Nat} (h : i < 8) (hg : ∀ j, j < 8 → j ≠ i → g j = f j) : (row8 f).set i (g i) = row8 g := by
  apply List.ext_getElem?
  intro j
  rw [List.getElem?_set]
  by_cases e : i = j
  · subst e
    rw [if_pos rfl, row8_len, if_pos h, row8_at h]
  · rw [if_neg e]
    by_cases hj : j < 8
    · rw [row8_at hj, row8_at hj, hg j hj (Ne.symm e)]
    · rw [List.getElem?_eq_none (by rw [row8_len]; omega), List.getElem?_eq_none (by rw [row8_len]; omega)]
theorem row8_congr {f g : Nat → Int} (h : ∀ j, j < 8 → f j = g j) : row8 f = row8 g := by
  unfold row8
  exact List.map_congr_left fun j hj => h j (List.mem_range.1 hj)
theorem row8_zero {f : Nat → Int} (h : ∀ j, j < 8 → f j = 0) : row8 f = List.replicate 8 0 := by
  rw [row8_congr h]; rfl

/-- What has come above each reach, behind reach i of the day d + 1. -/
def nowF (l : List Rch) (P : Nat → Nat → Int) (d i j : Nat) : Int := if j < l.length then come (rivP l) P j (if j < i then (d : Int) + 1 else d) else 0
/-- What has entered each reach, behind reach i of the day d + 1. -/
def goneF (l : List Rch) (P : Nat → Nat → Int) (d i j : Nat) : Int := if j < l.length then gone P j (if j < i then (d : Int) + 1 else d) else 0
theorem nowF_day (l : List Rch) (P : Nat → Nat → Int) (d j : Nat) : nowF l P d l.length j = nowF l P (d + 1) 0 j := by
  unfold nowF
  by_cases h : j < l.length
  · rw [if_pos h, if_pos h, if_pos h, if_neg (by omega)]; rfl
  · rw [if_neg h, if_neg h]
theorem goneF_day (l : List Rch) (P : Nat → Nat → Int) (d j : Nat) : goneF l P d l.length j = goneF l P (d + 1) 0 j := by
  unfold goneF
  by_cases h : j < l.length
  · rw [if_pos h, if_pos h, if_pos h, if_neg (by omega)]; rfl
  · rw [if_neg h, if_neg h]
theorem nowF_step {l : List Rch} {P : Nat → Nat → Int} {d i j : Nat} (h : j ≠ i) : nowF l P d (i + 1) j = nowF l P d i j := by
  unfold nowF
  by_cases h0 : j < l.length
  · rw [if_pos h0, if_pos h0]
    by_cases h1 : j < i
    · rw [if_pos h1, if_pos (by omega)]
    · rw [if_neg h1, if_neg (by omega)]
  · rw [if_neg h0, if_neg h0]
theorem goneF_step {l : List Rch} {P : Nat → Nat → Int} {d i j : Nat} (h : j ≠ i) : goneF l P d (i + 1) j = goneF l P d i j := by
  unfold goneF
  by_cases h0 : j < l.length
  · rw [if_pos h0, if_pos h0]
    by_cases h1 : j < i
    · rw [if_pos h1, if_pos (by omega)]
    · rw [if_neg h1, if_neg (by omega)]
  · rw [if_neg h0, if_neg h0]

def comeRows (l : List Rch) (P : Nat → Nat → Int) (k : Nat) : List (List Int) := (List.range k).map fun t => row8 (nowF l P t 0)
def boomRow (l : List Rch) (P : Nat → Nat → Int) (k : Nat) : List Int := (List.range k).map fun t : Nat => brought (rivP l) l.length P (t : Int)
theorem comeRows_snoc (l : List Rch) (P : Nat → Nat → Int) (k : Nat) : comeRows l P (k + 1) = comeRows l P k ++ [row8 (nowF l P k 0)] := by simp [comeRows, List.range_succ]
theorem boomRow_snoc (l : List Rch) (P : Nat → Nat → Int) (k : Nat) : boomRow l P (k + 1) = boomRow l P k ++ [brought (rivP l) l.length P (k : Int)] := by simp [boomRow, List.range_succ]

/-- A block that holds no cells is no row. -/
theorem own_ne_map {W : World} {base e size n r clk : Nat} {v : Value} {xs : List Value} {es : Array MapEntry} (h : W.heap[r]? = some (.map es clk)) (ho : W.ownsRow base e size v n xs) : v.ownBlock ≠ some r := by
  rcases ho.2 with ⟨rfl, _⟩ | ⟨g, cap, cur, rfl, _, hg, _⟩
  · simp [Value.ownBlock]
  · intro q
    simp only [Value.ownBlock, Option.some.injEq] at q
    subst q
    rw [h] at hg
    cases hg
theorem cells_ne_map {W : World} {r clk B : Nat} {es : Array MapEntry} {cs : Array Value} {t : TypeId} {fr : Nat × Nat} (h : W.heap[r]? = some (.map es clk)) (hB : W.heap[B]? = some (.cells cs t fr)) : r ≠ B := by
  rintro rfl
  rw [h] at hB
  cases hB

section
variable {wb W W' : World} {Y D r : Nat} {days : Int} {sr vp vc vb v' : Value} {Bs : List Nat} {L C : List (List Int)} {Bm g : List Int} {f : Int × Int → Int}
/-- An operation on the map leaves the year. -/
theorem Year.putMap (h : Year wb W Y days sr D vp vc vb Bs L C Bm g) (hm : SpotMap W r f) (hr : wb.heap.size ≤ r) (o : Obj) : Year wb (W.putObj r o) Y days sr D vp vc vb Bs L C Bm g := by
  obtain ⟨es, clk, h1, _⟩ := hm
  have hg := grownBy_putObj' W r o
  have hk : ∀ (B : Nat) (cs : Array Value) (t : TypeId) (fr : Nat × Nat), W.heap[B]? = some (.cells cs t fr) → (W.putObj r o).heap[B]? = some (.cells cs t fr) := fun B cs t fr hB => by
    rw [World.putObj_heap_other (Ne.symm (cells_ne_map h1 hB))]; exact hB
  refine ⟨hk _ _ _ _ h.box, h.hY, ⟨h.plan.own.kept hg (.inr (own_ne_map h1 h.plan.own)), h.plan.len, fun i B q a b => ?_, h.plan.nodup⟩, h.come.kept hg (.inr (own_ne_map h1 h.come)), h.clen, h.boom.kept hg (.inr (own_ne_map h1 h.boom)), h.sep, h.glen, below_put h.old hr⟩
  obtain ⟨x, y, z⟩ := h.plan.rows i B q a b
  exact ⟨x, hk _ _ _ _ y, z⟩
/-- A store into the row of what has gone. -/
theorem Year.setGone (h : Year wb W Y days sr D vp vc vb Bs L C Bm g) (i : Nat) (x : Int) : Year wb (W.setCell ⟨Y, 5 + i, none⟩ (.int .i64 x)) Y days sr D vp vc vb Bs L C Bm (g.set i x) := by
  refine ⟨?_, h.hY, ⟨own_set_other h.box h.plan.own (by decide) _ _, h.plan.len, fun j B q a b => ?_, h.plan.nodup⟩, own_set_other h.box h.come (by decide) _ _, h.clen, own_set_other h.box h.boom (by decide) _ _, h.sep, by simp [h.glen], bl_set h.old _ h.hY⟩
  · rw [heap_setCell_same _ _ _ _ _ _ h.box]
    congr 2
    unfold yearCells
    rw [List.setIfInBounds_toArray, List.set_append_right _ _ (by simp)]
    simp [ints, List.map_set]
  · obtain ⟨x, y, z⟩ := h.plan.rows j B q a b
    refine ⟨x, past_set ?_ y, z⟩
    rintro rfl
    rw [h.box] at y
    injection y with y
    injection y with _ y
    exact absurd y (by decide)
/-- A store into the plan. -/
theorem Year.setRow (h : Year wb W Y days sr D vp vc vb Bs L C Bm g) {i d B : Nat} {q : List Int} (hB : Bs[i]? = some B) (hq : L[i]? = some q) (hd : d < q.length) (x : Int) : Year wb (W.setCell ⟨B, d, none⟩ (.int .i64 x)) Y days sr D vp vc vb Bs (L.set i (q.set d x)) C Bm g := by
  obtain ⟨a1, a2, a3⟩ := h.plan.rows i B q hB hq
  have hYB : Y ≠ B := by
    rintro rfl
    rw [h.box] at a2
    injection a2 with a2
    injection a2 with _ a2
    exact absurd a2 (by decide)
  exact ⟨past_set hYB h.box, h.hY, h.plan.set hB hq hd x, own_set_other a2 h.come (by decide) _ _, h.clen, h.boom.kept (grown_set W B d _) (.inr (h.sep i B hB)), h.sep, h.glen, bl_set h.old _ a1⟩
/-- The field of what has come is stored. -/
theorem Year.setCome {vc2 : Value} {C2 : List (List Int)} (h : Year wb W Y days sr D vp vc vb Bs L C Bm g) (hg : W.grownBy W' vc.ownBlock) (M : W'.ownsRow wb.heap.size 86 8 vc2 C2.length (C2.flatMap ints)) (hC2 : ∀ c ∈ C2, c.length = 8) : Year wb (W'.setCell ⟨Y, 3, none⟩ vc2) Y days sr D vp vc2 vb Bs L C2 Bm g := by
  have hbox := keep_other h.box h.come (by decide) hg
  have hk : ∀ (B : Nat) (cs : Array Value) (t : TypeId), W.heap[B]? = some (.cells cs t (0, 0)) → t ≠ 86 → W'.heap[B]? = some (.cells cs t (0, 0)) := fun B cs t hB ht => keep_other hB h.come (Ne.symm ht) hg
  have keepRow : ∀ {e size n : Nat} {v : Value} {xs : List Value}, W.ownsRow wb.heap.size e size v n xs → e ≠ 86 → W'.ownsRow wb.heap.size e size v n xs := fun {e size n v xs} ho he => by
    refine ho.kept hg ?_
    cases hv : v.ownBlock with
    | none => exact .inl rfl
    | some k =>
      refine .inr fun q => ?_
      rcases ho.2 with ⟨e1, _⟩ | ⟨a, cap, cur, e1, _, e2, _⟩
      · rw [e1] at hv; simp [Value.ownBlock] at hv
      · rw [e1] at hv
        simp only [Value.ownBlock, Option.some.injEq] at hv
        subst hv
        exact own_ne e2 h.come (Ne.symm he) q.symm
  have hplan := keepRow h.plan.own (by decide)
  have hboom := keepRow h.boom (by decide)
  refine ⟨?_, h.hY, ⟨own_set_other hbox hplan (by decide) _ _, h.plan.len, fun i B r h1 h2 => ?_, h.plan.nodup⟩, own_set_other hbox M (by decide) _ _, hC2, own_set_other hbox hboom (by decide) _ _, h.sep, h.glen, bl_set (bl_grown h.old h.come (Nat.le_refl _) hg) _ h.hY⟩
  · rw [heap_setCell_same _ _ _ _ _ _ hbox]
    rfl
  · obtain ⟨a, b, c⟩ := h.plan.rows i B r h1 h2
    have b' := hk B _ _ b (by decide)
    refine ⟨a, past_set ?_ b', c⟩
    rintro rfl
    rw [hbox] at b'
    injection b' with b'
    injection b' with _ b'
    exact absurd b' (by decide)
/-- A map is kept behind an append. -/
theorem SpotMap.grown {base e size n : Nat} {v : Value} {xs : List Value} (hm : SpotMap W r f) (ho : W.ownsRow base e size v n xs) (hg : W.grownBy W' v.ownBlock) : SpotMap W' r f := by
  obtain ⟨es, clk, h1, h2⟩ := hm
  refine ⟨es, clk, ?_, h2⟩
  rw [hg.block r (Array.getElem?_eq_some_iff.1 h1).1 (fun q => own_ne_map h1 ho q.symm)]
  exact h1
/-- A store into a block that is no part of it. -/
theorem Year.setOther (h : Year wb W Y days sr D vp vc vb Bs L C Bm g) {X o : Nat} {u : Value} {cs : Array Value} {t : TypeId} (hX : W.heap[X]? = some (.cells cs t (0, 0))) (hXb : wb.heap.size ≤ X) (ht : t ≠ 88 ∧ t ≠ 36 ∧ t ≠ 2) (hc : vc.ownBlock ≠ some X) : Year wb (W.setCell ⟨X, o, none⟩ u) Y days sr D vp vc vb Bs L C Bm g := by
  have ne : ∀ (B : Nat) (cs' : Array Value) (t' : TypeId), W.heap[B]? = some (.cells cs' t' (0, 0)) → t ≠ t' → B ≠ X := fun B cs' t' hB hne e => by
    subst e
    rw [hX] at hB
    injection hB with hB
    injection hB with _ hB
    exact hne hB
  refine ⟨past_set (ne _ _ _ h.box ht.1) h.box, h.hY, ⟨own_set_other hX h.plan.own (Ne.symm ht.2.1) _ _, h.plan.len, fun j B q a b => ?_, h.plan.nodup⟩, h.come.kept (grown_set W X o u) (.inr hc), h.clen, own_set_other hX h.boom (Ne.symm ht.2.2) _ _, h.sep, h.glen, bl_set h.old _ hXb⟩
  obtain ⟨x, y, z⟩ := h.plan.rows j B q a b
  exact ⟨x, past_set (ne _ _ _ y ht.2.2) y, z⟩
theorem SpotMap.setCell (hm : SpotMap W r f) {X o : Nat} {u : Value} {cs : Array Value} {t : TypeId} (hX : W.heap[X]? = some (.cells cs t (0, 0))) : SpotMap (W.setCell ⟨X, o, none⟩ u) r f := by
  obtain ⟨es, clk, h1, h2⟩ := hm
  exact ⟨es, clk, past_set (cells_ne_map h1 hX) h1, h2⟩
theorem SpotMap.mono (hm : SpotMap W r f) (hb : Below W.heap.size W W') : SpotMap W' r f := hm.keep fun o h => heap_mono h hb
theorem SpotEnt.mono {b : Nat} {k : Int × Int} (hm : SpotEnt W r f b k) (hb : Below W.heap.size W W') : SpotEnt W' r f b k := hm.keep fun o h => heap_mono h hb
theorem heap_putMap {X : Nat} {cs : Array Value} {t : TypeId} (hX : W.heap[X]? = some (.cells cs t (0, 0))) (hm : SpotMap W r f) (o : Obj) : (W.putObj r o).heap[X]? = some (.cells cs t (0, 0)) := by
  obtain ⟨es, clk, h1, _⟩ := hm
  rw [World.putObj_heap_other (Ne.symm (cells_ne_map h1 hX))]; exact hX
end

end Go.Proofs.Ytbnmjbmlejifcaa
