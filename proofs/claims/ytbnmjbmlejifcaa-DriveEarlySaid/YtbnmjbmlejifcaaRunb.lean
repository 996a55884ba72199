/- The year's run: the walk. -/
import Derived.Test.YtbnmjbmlejifcaaMapf
import Derived.Test.YtbnmjbmlejifcaaDays
import Derived.Test.YtbnmjbmlejifcaaBoomf
import Derived.Deep.Cut
set_option linter.all false
namespace Go.Proofs.Ytbnmjbmlejifcaa
open Go Go.RowKit Go.Proofs
attribute [local go_sem] cell_grow frozen_grow

theorem set_same {w : World} {g o : Nat} {cs : Array Value} {t : TypeId} {fr : Nat × Nat} {v : Value} (h : w.heap[g]? = some (.cells cs t fr)) (hv : cs[o]? = some v) : w.setCell ⟨g, o, none⟩ v = w := by
  obtain ⟨heap, tape, drawn, os, output⟩ := w
  simp only [World.setCell, World.mk.injEq, and_true]
  apply Array.ext_getElem?
  intro k
  simp only [Array.getElem?_modify]
  split
  · rename_i e
    subst e
    simp only at h
    rw [h]
    simp only [Option.map_some, Option.isSome_none, Bool.false_eq_true, if_false, Option.some.injEq, Obj.cells.injEq, and_true]
    apply Array.ext_getElem?
    intro j
    rw [Array.getElem?_setIfInBounds]
    split
    · rename_i e; subst e
      have := (Array.getElem?_eq_some_iff.mp hv).1
      rw [if_pos this, hv]
    · rfl
  · rfl

theorem run_clear8 {w : World} {g : Nat} {cs : Array Value} {tt : TypeId} (h : w.heap[g]? = some (.cells cs tt (0, 0))) (hc : ∀ i, i < 8 → cs[5 + i]? = some (.int .i64 0)) (t ty : TypeId) (ht : Try.prog.underlying t = some (.slice 2)) :
    (Builtin.clear_ #[t] ty #[.slice (some ⟨g, 5, none⟩) 8 8]).run Try.prog w = .ok (.tuple #[]) w := by
  have hz2 := Try.zeroValue2
  have hf : ∀ i, w.frozen? ⟨g, i, none⟩ = false := fun i => frozen_of_heap h
  have c0 : w.cell? ⟨g, 5, none⟩ = some (.int .i64 0) := (cell_of_heap h).trans (hc 0 (by omega))
  have c1 : w.cell? ⟨g, 6, none⟩ = some (.int .i64 0) := (cell_of_heap h).trans (hc 1 (by omega))
  have c2 : w.cell? ⟨g, 7, none⟩ = some (.int .i64 0) := (cell_of_heap h).trans (hc 2 (by omega))
  have c3 : w.cell? ⟨g, 8, none⟩ = some (.int .i64 0) := (cell_of_heap h).trans (hc 3 (by omega))
  have c4 : w.cell? ⟨g, 9, none⟩ = some (.int .i64 0) := (cell_of_heap h).trans (hc 4 (by omega))
  have c5 : w.cell? ⟨g, 10, none⟩ = some (.int .i64 0) := (cell_of_heap h).trans (hc 5 (by omega))
  have c6 : w.cell? ⟨g, 11, none⟩ = some (.int .i64 0) := (cell_of_heap h).trans (hc 6 (by omega))
  have c7 : w.cell? ⟨g, 12, none⟩ = some (.int .i64 0) := (cell_of_heap h).trans (hc 7 (by omega))
  have z0 : w.setCell ⟨g, 5, none⟩ (.int .i64 0) = w := set_same h (hc 0 (by omega))
  have z1 : w.setCell ⟨g, 6, none⟩ (.int .i64 0) = w := set_same h (hc 1 (by omega))
  have z2 : w.setCell ⟨g, 7, none⟩ (.int .i64 0) = w := set_same h (hc 2 (by omega))
  have z3 : w.setCell ⟨g, 8, none⟩ (.int .i64 0) = w := set_same h (hc 3 (by omega))
  have z4 : w.setCell ⟨g, 9, none⟩ (.int .i64 0) = w := set_same h (hc 4 (by omega))
  have z5 : w.setCell ⟨g, 10, none⟩ (.int .i64 0) = w := set_same h (hc 5 (by omega))
  have z6 : w.setCell ⟨g, 11, none⟩ (.int .i64 0) = w := set_same h (hc 6 (by omega))
  have z7 : w.setCell ⟨g, 12, none⟩ (.int .i64 0) = w := set_same h (hc 7 (by omega))
  clear hc
  unfold Builtin.clear_
  simp [run_underlying ht, Sem.run_bind, hz2, Builtin.zeroCells, storeCells, go_sem, hf, Value.cells, c0, z0, c1, z1, c2, z2, c3, z3, c4, z4, c5, z5, c6, z6, c7, z7]

/-- Logs that are ready, of the first so many reaches. -/
def readyN (l : List Rch) (k : Nat) (q : Int × Int) : Int := sumN (fun j => if (j : Int) = q.1 ∧ (rivP l j).ready = q.2 then (rivP l j).logs else 0) k

theorem readyN_step {l : List Rch} {k : Nat} {x : Rch} {f : Int × Int → Int} (hx : rivP l k = x) (hf : ∀ q, f q = readyN l k q) (q : Int × Int) : updS f ((k : Int), x.ready) (f ((k : Int), x.ready) + x.logs) q = readyN l (k + 1) q := by
  unfold updS
  have e : readyN l (k + 1) q = readyN l k q + if (k : Int) = q.1 ∧ x.ready = q.2 then x.logs else 0 := by
    unfold readyN
    rw [sumN_succ, hx]
  rw [e]
  obtain ⟨q1, q2⟩ := q
  simp only [Prod.mk.injEq]
  by_cases h : q1 = (k : Int) ∧ q2 = x.ready
  · rw [if_pos h, if_pos ⟨h.1.symm, h.2.symm⟩, h.1, h.2, hf]
  · rw [if_neg h, if_neg (fun g => h ⟨g.1.symm, g.2.symm⟩), hf]; omega
theorem readyN_bd {days : Int} {l : List Rch} (F : Fit days l) (q : Int × Int) : ∀ k, k ≤ l.length → 0 ≤ readyN l k q ∧ readyN l k q ≤ k * 10000
  | 0, _ => by simp [readyN, sumN]
  | k + 1, hk => by
    have ih := readyN_bd F q k (by omega)
    obtain ⟨x, hx⟩ := get_at (l := l) (k := k) (by omega)
    have hl := F.logs k x hx
    have e : readyN l (k + 1) q = readyN l k q + if (k : Int) = q.1 ∧ x.ready = q.2 then x.logs else 0 := by
      unfold readyN
      rw [sumN_succ, riv_at hx]
    rw [e]
    split <;> omega

theorem start_now {days : Int} {l : List Rch} (F : Fit days l) (P : Nat → Nat → Int) (j : Nat) : nowF l P 0 0 j = 0 := by
  unfold nowF
  by_cases h : j < l.length
  · rw [if_pos h, if_neg (by omega)]
    exact come_zero (fit_riv F) P h
  · rw [if_neg h]
theorem start_gone (l : List Rch) (P : Nat → Nat → Int) (j : Nat) : goneF l P 0 0 j = 0 := by
  unfold goneF
  by_cases h : j < l.length
  · rw [if_pos h, if_neg (by omega)]
    exact gone_zero P j (by omega)
  · rw [if_neg h]
theorem start_boom {days : Int} {l : List Rch} (F : Fit days l) (P : Nat → Nat → Int) : brought (rivP l) l.length P ((0 : Nat) : Int) = 0 := by
  unfold brought
  refine Eq.trans (sumN_congr fun u hu => ?_) (sumN_zero l.length)
  obtain ⟨x, hx⟩ := get_at hu
  have := F.takes u x hx
  rw [riv_at hx, gone_zero P u (by omega)]
  split <;> rfl
/-- No more have entered so far than have come. -/
def okTo (l : List Rch) (P : Nat → Nat → Int) (d i : Nat) : Prop := ∀ j e, j < l.length → Done d i j e → gone P j ((e : Int) + 1) ≤ come (rivP l) P j ((e : Int) + 1)
theorem come_bd {days : Int} {l : List Rch} {L : List (List Int)} (F : Fit days l) (h : Small L) {i : Nat} (hi : i < l.length) (t : Int) (ht : t ≤ 900) : 0 ≤ come (rivP l) (planP L) i t ∧ come (rivP l) (planP L) i t ≤ 900000000 := by
  obtain ⟨x, hx⟩ := get_at hi
  have h1 := comeN_bd F h i t ht i (by omega)
  have h3 := F.logs i x hx
  have h2 : come (rivP l) (planP L) i t = (if x.ready ≤ t then x.logs else 0) + comeN l L i t i := by unfold come comeN; rw [riv_at hx]
  rw [h2]
  split <;> omega
theorem brought_bd {days : Int} {l : List Rch} {L : List (List Int)} (F : Fit days l) (h : Small L) (t : Int) (ht : t ≤ 900) : 0 ≤ brought (rivP l) l.length (planP L) t ∧ brought (rivP l) l.length (planP L) t ≤ 800000000 := broughtN_bd F h t ht l.length (Nat.le_refl _)
/-- Behind a reach that is closed on the day. -/
theorem step_closed {l : List Rch} {D : Nat} (F : Fit (D : Int) l) {Pt : List (List Int)} (hPt : Full l.length D Pt) (hsm : Small Pt) {i d : Nat} (hi : i < l.length) (hd : d < D) (h0 : planP Pt i (d + 1) = 0) :
    maskL (planP Pt) l.length D d (i + 1) = maskL (planP Pt) l.length D d i ∧ row8 (goneF l (planP Pt) d (i + 1)) = row8 (goneF l (planP Pt) d i) ∧ (∀ q, arr l (planP Pt) d (i + 1) q = arr l (planP Pt) d i q) ∧ (okTo l (planP Pt) d i → okTo l (planP Pt) d (i + 1)) := by
  have hg : gone (planP Pt) i ((d : Int) + 1) = gone (planP Pt) i d := by rw [gone_succ, h0]; omega
  refine ⟨mask_skip h0, row8_congr fun j _ => ?_, fun q => ?_, fun hok j e hj hdn => ?_⟩
  · by_cases e : j = i
    · subst e
      unfold goneF
      rw [if_pos hi, if_pos hi, if_pos (by omega), if_neg (by omega), hg]
    · exact goneF_step e
  · rw [arr_step d i hi q, h0]
    split <;> omega
  · by_cases e1 : j = i ∧ e = d
    · obtain ⟨rfl, rfl⟩ := e1
      rw [hg]
      have hm := come_mono (P := planP Pt) (fit_riv F) hi (fun u _ k _ => (plan_bd hsm u (k + 1)).1) (s := (e : Int)) (t := (e : Int) + 1) (by omega) (by omega)
      refine Int.le_trans ?_ hm
      cases e with
      | zero => rw [gone_zero _ _ (by omega), show ((0 : Nat) : Int) = 0 from rfl, come_zero (fit_riv F) _ hi]; exact Int.le_refl _
      | succ e => have := hok j e hj (.inl (Nat.lt_succ_self _)); rwa [show ((e + 1 : Nat) : Int) = (e : Int) + 1 by omega]
    · exact hok j e hj (by unfold Done at hdn ⊢; omega)
/-- What is still to come of the day d + 1, at reach i. -/
def Ahead (d i : Nat) (q : Int × Int) : Prop := (d : Int) + 1 < q.2 ∨ q.2 = (d : Int) + 1 ∧ (q.1 = -1 ∨ (i : Int) ≤ q.1)
theorem flat_at {C : List (List Int)} (hC : ∀ c ∈ C, c.length = 8) {t j : Nat} {c : List Int} {x : Int} (hc : C[t]? = some c) (hx : c[j]? = some x) : (C.flatMap ints)[t * 8 + j]? = some (.int .i64 x) := by
  induction C generalizing t with
  | nil => simp at hc
  | cons a C ih =>
    have ha := hC a (by simp)
    rw [List.flatMap_cons]
    have hla : (ints a).length = 8 := by simp [ints, ha]
    cases t with
    | zero =>
      simp only [List.getElem?_cons_zero, Option.some.injEq] at hc
      subst hc
      have hj := (List.getElem?_eq_some_iff.1 hx).1
      rw [Nat.zero_mul, Nat.zero_add, List.getElem?_append_left (by rw [hla]; omega)]
      simp [ints, hx]
    | succ t =>
      rw [List.getElem?_cons_succ] at hc
      rw [List.getElem?_append_right (by rw [hla, Nat.add_mul]; omega), hla, show (t + 1) * 8 + j - 8 = t * 8 + j by omega]
      exact ih (fun q hq => hC q (by simp [hq])) hc
/-- The row of the day before. -/
theorem come_at {wb W : World} {Y D d : Nat} {days : Int} {sr vp vc vb : Value} {Bs : List Nat} {L : List (List Int)} {Bm g : List Int} {l : List Rch} {P : Nat → Nat → Int} (h : Year wb W Y days sr D vp vc vb Bs L (comeRows l P (d + 1)) Bm g) :
    ∃ gC cap, vc = .slice (some ⟨gC, 0, none⟩) (d + 1) cap ∧ gC < W.heap.size ∧ ∀ j, j < 8 → W.cell? ⟨gC, d * 8 + j, none⟩ = some (.int .i64 (nowF l P d 0 j)) := by
  have hl : (comeRows l P (d + 1)).length = d + 1 := by simp [comeRows]
  rcases h.come.2 with ⟨_, h2⟩ | ⟨g, cap, cur, h1, _, hg, _⟩
  · rw [hl] at h2; omega
  · refine ⟨g, cap, by rw [h1, hl], (Array.getElem?_eq_some_iff.1 hg).1, fun j hj => ?_⟩
    have h3 := h.come.cells (g := g) (by rw [h1]; rfl) (d * 8 + j) (.int .i64 (nowF l P d 0 j)) (flat_at h.clen (t := d) (c := row8 (nowF l P d 0)) (by simp [comeRows]) (row8_at hj))
    rw [Addr.add_lit, Nat.zero_add] at h3
    exact h3

theorem neq110_run (a b : Int × Int) (h : a ≠ b) (w : World) : (binOp .neq 110 (.agg #[.int .i64 a.1, .int .i64 a.2]) (.agg #[.int .i64 b.1, .int .i64 b.2])).run Try.prog w = .ok (.bool true) w := by
  have := eq110 a b w
  unfold encS at this
  simp [binOp, Sem.run_bind, this, Result.andThen, h]
theorem ne_type {W : World} {a b : Nat} {cs cs' : Array Value} {t t' : TypeId} (ha : W.heap[a]? = some (.cells cs t (0, 0))) (hb : W.heap[b]? = some (.cells cs' t' (0, 0))) (ht : t ≠ t') : a ≠ b := by
  rintro rfl
  rw [ha] at hb
  injection hb with hb
  injection hb with _ hb
  exact ht hb
/-- The plan's row of a reach. -/
theorem plan_at {wb W : World} {Y D i n : Nat} {days : Int} {sr vp vc vb : Value} {Bs : List Nat} {L C : List (List Int)} {Bm g : List Int} {q : List Int} (h : Year wb W Y days sr D vp vc vb Bs L C Bm g) (hn : L.length = n) (hq : L[i]? = some q) :
    ∃ gP cap B, vp = .slice (some ⟨gP, 0, none⟩) n cap ∧ Bs[i]? = some B ∧ W.cell? ⟨gP, i, none⟩ = some (.slice (some ⟨B, 0, none⟩) D D) ∧ W.heap[B]? = some (.cells (ints q).toArray 2 (0, 0)) ∧ q.length = D ∧ wb.heap.size ≤ B ∧ gP < W.heap.size := by
  have hi := (List.getElem?_eq_some_iff.1 hq).1
  obtain ⟨B, hB⟩ := get_at (l := Bs) (k := i) (by rw [h.plan.len]; exact hi)
  obtain ⟨a1, a2, a3⟩ := h.plan.rows i B q hB hq
  rcases h.plan.own.2 with ⟨_, h2⟩ | ⟨gP, cap, cur, h1, _, hg, _⟩
  · omega
  · have h3 := h.plan.own.cells (g := gP) (by rw [h1]; rfl) i (rowVal D B) (by rw [List.getElem?_map, hB]; rfl)
    rw [Addr.add_lit, Nat.zero_add] at h3
    exact ⟨gP, cap, B, by rw [h1, hn], hB, h3, a2, a3, a1, (Array.getElem?_eq_some_iff.1 hg).1⟩

theorem arr_bd {days : Int} {l : List Rch} (F : Fit days l) {Pt : List (List Int)} (hsm : Small Pt) (d i : Nat) (k : Int × Int) : 0 ≤ arr l (planP Pt) d i k ∧ arr l (planP Pt) d i k ≤ 1000000 := by
  have h1 := readyN_bd F k l.length (Nat.le_refl _)
  have h2 := sumN_nonneg (f := fun u => if (rivP l u).down = k.1 ∧ doneB d i u (k.2 - (rivP l u).takes) = true then planP Pt u (k.2 - (rivP l u).takes).toNat else 0) (n := l.length) fun u _ => by
    have := plan_bd hsm u (k.2 - (rivP l u).takes).toNat
    show 0 ≤ if (rivP l u).down = k.1 ∧ doneB d i u (k.2 - (rivP l u).takes) = true then planP Pt u (k.2 - (rivP l u).takes).toNat else 0
    split <;> omega
  have h3 := sumN_bd (f := fun u => if (rivP l u).down = k.1 ∧ doneB d i u (k.2 - (rivP l u).takes) = true then planP Pt u (k.2 - (rivP l u).takes).toNat else 0) (n := l.length) (c := 100000) fun u _ => by
    have := plan_bd hsm u (k.2 - (rivP l u).takes).toNat
    show (if (rivP l u).down = k.1 ∧ doneB d i u (k.2 - (rivP l u).takes) = true then planP Pt u (k.2 - (rivP l u).takes).toNat else 0) ≤ 100000
    split <;> omega
  have h4 := F.n2
  have e : arr l (planP Pt) d i k = readyN l l.length k + sumN (fun u => if (rivP l u).down = k.1 ∧ doneB d i u (k.2 - (rivP l u).takes) = true then planP Pt u (k.2 - (rivP l u).takes).toNat else 0) l.length := rfl
  rw [e]
  omega
theorem map_step {l : List Rch} {P : Nat → Nat → Int} {d i : Nat} (hi : i < l.length) {f : Int × Int → Int} {x : Rch} (hx : rivP l i = x) (hK : Ahead d (i + 1) (x.down, (d : Int) + 1 + x.takes)) (hf : ∀ q, Ahead d (i + 1) q → f q = arr l P d i q) (q : Int × Int) (hq : Ahead d (i + 1) q) :
    updS f (x.down, (d : Int) + 1 + x.takes) (f (x.down, (d : Int) + 1 + x.takes) + P i (d + 1)) q = arr l P d (i + 1) q := by
  rw [arr_step d i hi q, hx]
  unfold updS
  by_cases h : q = (x.down, (d : Int) + 1 + x.takes)
  · rw [if_pos h, if_pos h, hf _ hK, h]
  · rw [if_neg h, if_neg h, hf q hq]; omega

theorem info86 : (Try.prog.info? 86).map (fun i => (i.zero, i.size, i.bytes)) = some (some (.agg #[.int .i64 0, .int .i64 0, .int .i64 0, .int .i64 0, .int .i64 0, .int .i64 0, .int .i64 0, .int .i64 0]), 8, 64) := by kernel_rfl
theorem ints_one (l : List Int) : ∀ u ∈ ints l, u.oneCell' = true := fun u hu => by
  simp only [ints, List.mem_map] at hu
  obtain ⟨x, _, rfl⟩ := hu
  rfl
theorem new8_at {W : World} {X : Nat} {l : List Int} {cs : Array Value} {t : TypeId} (h : W.heap[X]? = some (.cells cs t (0, 0))) (hcs : cs = (ints l).toArray := by rfl) : ∀ (j : Nat) (u : Value), (ints l)[j]? = some u → W.cell? ((⟨X, 0, none⟩ : Addr).add j) = some u := fun j u hj => by
  subst hcs
  rw [Addr.add_lit, Nat.zero_add, cell_of_heap h]
  simpa using hj

theorem own_slice8 {w : World} {base e size n : Nat} {v : Value} {l : List Value} (h : w.ownsRow base e size v n l) : ∃ A c, v = .slice A n c := by
  rcases h.2 with ⟨rfl, h0⟩ | ⟨g, cap, cur, rfl, _⟩
  · subst h0; exact ⟨none, 0, rfl⟩
  · exact ⟨_, _, rfl⟩
/-- The boom of the day before. -/
theorem boom_at {wb W : World} {Y D d : Nat} {days : Int} {sr vp vc vb : Value} {Bs : List Nat} {L C : List (List Int)} {g : List Int} {l : List Rch} {P : Nat → Nat → Int} (h : Year wb W Y days sr D vp vc vb Bs L C (boomRow l P (d + 1)) g) :
    ∃ gB cap, vb = .slice (some ⟨gB, 0, none⟩) (d + 1) cap ∧ gB < W.heap.size ∧ W.cell? ⟨gB, d, none⟩ = some (.int .i64 (brought (rivP l) l.length P (d : Int))) := by
  have hl : (boomRow l P (d + 1)).length = d + 1 := by simp [boomRow]
  rcases h.boom.2 with ⟨_, h2⟩ | ⟨g, cap, cur, h1, _, hg, _⟩
  · rw [hl] at h2; omega
  · refine ⟨g, cap, by rw [h1, hl], (Array.getElem?_eq_some_iff.1 hg).1, ?_⟩
    have h3 := h.boom.cells (g := g) (by rw [h1]; rfl) d (.int .i64 (brought (rivP l) l.length P (d : Int))) (by simp [ints, boomRow])
    rw [Addr.add_lit, Nat.zero_add] at h3
    exact h3
theorem boom_cell {wb W : World} {Y D d gB cap : Nat} {days : Int} {sr vp vc : Value} {Bs : List Nat} {L C : List (List Int)} {g : List Int} {l : List Rch} {P : Nat → Nat → Int} (h : Year wb W Y days sr D vp vc (.slice (some ⟨gB, 0, none⟩) (d + 1) cap) Bs L C (boomRow l P (d + 1)) g) : W.cell? ⟨gB, d, none⟩ = some (.int .i64 (brought (rivP l) l.length P (d : Int))) := by
  have h3 := h.boom.cells (g := gB) rfl d (.int .i64 (brought (rivP l) l.length P (d : Int))) (by simp [ints, boomRow])
  rw [Addr.add_lit, Nat.zero_add] at h3
  exact h3
theorem flat_len {C : List (List Int)} (hC : ∀ c ∈ C, c.length = 8) : (C.flatMap ints).length = C.length * 8 := by
  induction C with
  | nil => rfl
  | cons a C ih =>
    rw [List.flatMap_cons, List.length_append, ih (fun q hq => hC q (by simp [hq]))]
    simp [ints, hC a (by simp)]
    omega

/-- What the run leaves. -/
def RunPost (l : List Rch) (Pt : List (List Int)) (D : Nat) (wb : World) (Y : Nat) (days : Int) (sr vp : Value) (Bs : List Nat) (e : Ending) (w' : World) : Prop :=
  Below wb.heap.size wb w' ∧ ((okTo l (planP Pt) D 0 ∧ e = .returned (.bool true) ∧ ∃ vc vb, Year wb w' Y days sr D vp vc vb Bs Pt (comeRows l (planP Pt) (D + 1)) (boomRow l (planP Pt) (D + 1)) (row8 (goneF l (planP Pt) D 0))) ∨ (¬ okTo l (planP Pt) D 0 ∧ e = .returned (.bool false)))

end Go.Proofs.Ytbnmjbmlejifcaa
