/- Words and laws that the walks of this seat share: lists in memory, what a call leaves as it was, regions that draw their order, ranges over functions, rows that grow. -/
import Derived.WalkKit
import Derived.KernelRfl
import Derived.BigQuiet
import Derived.Deep.QuietTactic
import Derived.Lib.QuietBelow
import Derived.Lib.Hide
import Derived.WalkSmall
import Derived.IntWalk
import Derived.StillTail
import Derived.OwnWalk
import Derived.OwnWalkIn
import Derived.RangeFuncNested
import Derived.RangeFuncBound
import Derived.RangeFuncCalls
import Derived.RangeFuncLeaves
import Derived.Deep.RegionLaw
import Derived.Maps.AppendAt
import Derived.Laws.StructEq
import Derived.Test.YtlkoadcbolkhoaaProg
set_option linter.all false
namespace Go.Proofs.Ytlkoadcbolkhoaa
open Go Go.RowKit Go.Proofs

theorem hid {p : Prop} (h : p) : Hid p := h

/-- The slice value v holds the int64 numbers l. -/
def Ints (w : World) (v : Value) (l : List Int) : Prop :=
  (v = .slice none 0 0 ∧ l = []) ∨ ∃ b off c, v = .slice (some ⟨b, off, none⟩) l.length c ∧ l.length ≤ c ∧ b < w.heap.size ∧ ∀ i x, l[i]? = some x → w.cell? ⟨b, off + i, none⟩ = some (.int .i64 x)

theorem get_at {α : Type} {l : List α} {k : Nat} (h : k < l.length) : ∃ x, l[k]? = some x := ⟨l[k], by simp [h]⟩

theorem bl_refl (w : World) : Below w.heap.size w w := Below.refl _ _
theorem bl_alloc {w v : World} (h : Below w.heap.size w v) (o : Obj) : Below w.heap.size w (v.alloc o) := h.alloc h.size o
theorem bl_drew {w v : World} (h : Below w.heap.size w v) : Below w.heap.size w v.drew := h.drew
theorem bl_drewN {w v : World} (h : Below w.heap.size w v) (n : Nat) : Below w.heap.size w (v.drewN n) := below_drewN h n
theorem bl_set {w v : World} (h : Below w.heap.size w v) {b o : Nat} (u : Value) (hb : w.heap.size ≤ b) : Below w.heap.size w (v.setCell ⟨b, o, none⟩ u) := h.setCell (p := ⟨b, o, none⟩) hb u
theorem bl_trans {w v u : World} (h : Below w.heap.size w v) (k : Below v.heap.size v u) : Below w.heap.size w u := h.trans (k.mono h.size)

theorem cell_mono {w v : World} {a : Addr} {x : Value} (h : w.cell? a = some x) (hb : Below w.heap.size w v) : v.cell? a = some x :=
  (hb.cell (World.block_lt_of_cell? _ _ h)).trans h
theorem Ints.mono {w v : World} {s : Value} {l : List Int} (h : Ints w s l) (hb : Below w.heap.size w v) : Ints v s l := by
  rcases h with h | ⟨b, off, c, h1, h2, h3, h4⟩
  · exact .inl h
  · exact .inr ⟨b, off, c, h1, h2, Nat.lt_of_lt_of_le h3 hb.size, fun i x hi => cell_mono (h4 i x hi) hb⟩

/-- The rules by which the walk reads old cells in a later world. -/
theorem bcell {w v : World} (hb : Below w.heap.size w v) : (∀ b o, b < w.heap.size → v.cell? ⟨b, o, none⟩ = w.cell? ⟨b, o, none⟩) ∧ (∀ b o, b < w.heap.size → v.frozen? ⟨b, o, none⟩ = w.frozen? ⟨b, o, none⟩) :=
  ⟨fun b o h => hb.cell (p := ⟨b, o, none⟩) h, fun b o h => hb.frozen (p := ⟨b, o, none⟩) h⟩

/-- A block that was laid, in a later world. -/
theorem new_cells {w v : World} {cs : Array Value} {t : TypeId} (hb : Below (w.alloc (.cells cs t)).heap.size (w.alloc (.cells cs t)) v) :
    (∀ i, v.cell? ⟨w.heap.size, i, none⟩ = cs[i]?) ∧ (∀ i, v.frozen? ⟨w.heap.size, i, none⟩ = false) := by
  have h := hb.block w.heap.size (by simp)
  have e : (w.alloc (.cells cs t)).heap[w.heap.size]? = some (.cells cs t (0, 0)) := by
    show (w.heap.push _)[w.heap.size]? = _
    simp
  rw [e] at h
  exact ⟨fun i => by simp [World.cell?, h], fun i => by simp [World.frozen?, h]⟩

theorem own_mono {w v : World} {base e size n : Nat} {s : Value} {xs : List Value} (h : w.ownsRow base e size s n xs) (hb : Below w.heap.size w v) : v.ownsRow base e size s n xs :=
  h.kept (row := none) ⟨hb.os, hb.tape, hb.output, hb.size, fun k hk _ => hb.block k hk⟩ (by cases hv : s.ownBlock <;> simp)

/-- Behind an append to a row of the call's own. -/
theorem bl_grown {w v u : World} {base e size n : Nat} {s : Value} {xs : List Value} (h : Below w.heap.size w v) (ho : v.ownsRow base e size s n xs) (hB : w.heap.size ≤ base) (hg : v.grownBy u s.ownBlock) : Below w.heap.size w u :=
  h.grown hg h.size (fun k hk => by have := (ho.lt k hk).1; omega)

theorem cell_grow (w : World) (d : Nat) (os : Array Obj) (b o : Nat) (h : b < w.heap.size) : (Sort.grow (redrawn w d) os).cell? ⟨b, o, none⟩ = w.cell? ⟨b, o, none⟩ :=
  (below_regrown w d os).cell (p := ⟨b, o, none⟩) h
theorem frozen_grow (w : World) (d : Nat) (os : Array Obj) (b o : Nat) (h : b < w.heap.size) : (Sort.grow (redrawn w d) os).frozen? ⟨b, o, none⟩ = w.frozen? ⟨b, o, none⟩ :=
  (below_regrown w d os).frozen (p := ⟨b, o, none⟩) h
theorem heap_mono {w W : World} {k : Nat} {o : Obj} (h : w.heap[k]? = some o) (hb : Below w.heap.size w W) : W.heap[k]? = some o := by
  rw [hb.block k (Array.getElem?_eq_some_iff.1 h).1]; exact h
theorem heap_grown {w W : World} {k r : Nat} {o : Obj} (h : w.heap[k]? = some o) (hb : w.grownBy W (some r)) (hr : k ≠ r) : W.heap[k]? = some o := by
  rw [hb.block k (Array.getElem?_eq_some_iff.1 h).1 (by intro e; injection e with e; exact hr e)]; exact h
theorem grown_set (W : World) (k o : Nat) (u : Value) : W.grownBy (W.setCell ⟨k, o, none⟩ u) (some k) :=
  ⟨rfl, rfl, rfl, by simp [World.setCell], fun j hj hne => Below.heap_setCell _ _ _ _ (by intro e; exact hne (congrArg some e))⟩
theorem grown_two {W W' W'' : World} {k : Nat} (h1 : W.grownBy W' (some k)) (h2 : W'.grownBy W'' (some k)) : W.grownBy W'' (some k) :=
  ⟨h2.os.trans h1.os, h2.tape.trans h1.tape, h2.output.trans h1.output, Nat.le_trans h1.size h2.size, fun j hj hne => (h2.block j (Nat.lt_of_lt_of_le hj h1.size) hne).trans (h1.block j hj hne)⟩
theorem cell_of_heap {W : World} {k i : Nat} {cs : Array Value} {t : TypeId} (h : W.heap[k]? = some (.cells cs t (0, 0))) : W.cell? ⟨k, i, none⟩ = cs[i]? := by simp [World.cell?, h]
theorem frozen_of_heap {W : World} {k i : Nat} {cs : Array Value} {t : TypeId} (h : W.heap[k]? = some (.cells cs t (0, 0))) : W.frozen? ⟨k, i, none⟩ = false := by simp [World.frozen?, h]
theorem heap_new {w v : World} {cs : Array Value} {t : TypeId} (hb : Below (w.alloc (.cells cs t)).heap.size (w.alloc (.cells cs t)) v) : v.heap[w.heap.size]? = some (.cells cs t (0, 0)) :=
  heap_mono (World.alloc_heap_new _ _) hb

section
variable {P : Program} {ops : Array Oper} {md : Region.Mode} {C : World → Prop}

/-- Whatever comes up during the first f steps lies ahead of n and is quiet; then L. -/
def HeadQ (P : Program) (md : Region.Mode) (ops : Array Oper) (C : World → Prop) (n : Nat) (L : Array Bool → Act → Prop) : Nat → Array Bool → Act → Prop
  | 0, seen, a => L seen a
  | f + 1, seen, a => Region.ready md ops seen ≠ [] ∧ ∀ i, i ∈ Region.ready md ops seen → i < n ∧ qOp P ops C i (HeadQ P md ops C n L f (seen.setIfInBounds i true)) a

theorem any_of_headQ {n g : Nat} {L : Array Bool → Act → Prop} {R : Exit → Act → World → Prop} (hL : ∀ seen a w, C w → L seen a → wpAny P md ops R g seen a w) (f : Nat) :
    ∀ seen a w, C w → HeadQ P md ops C n L f seen a → wpAny P md ops R (f + g) seen a w := by
  induction f with
  | zero => intro seen a w hw h; rw [Nat.zero_add]; exact hL seen a w hw h
  | succ f ih =>
    intro seen a w hw h
    have e : f + 1 + g = (f + g) + 1 := by omega
    rw [e]
    refine ⟨fun h0 => absurd h0 h.1, fun i hi => ?_⟩
    exact wpOp_of_qOp hw (fun a' w' hw' h' => ih _ a' w' hw' h') (h.2 i hi).2

/-- An operation ahead of n that may come up now may be taken first. -/
theorem headQ_first {n : Nat} {L : Array Bool → Act → Prop} (hsel : ∀ (j : Nat) (o : Oper) cs b, ops[j]? = some o → o.op ≠ .select cs b)
    (hs : Region.sinkB md ops n = true) (hc : Region.chainB md ops n = true) (hn : n < ops.size)
    (hend : ∀ seen a, L seen a → ∀ j, j ∈ Region.ready md ops seen → n ≤ j) {i : Nat} {o : Oper} {v : Value} (ho : ops[i]? = some o) (hin : i < n) (f : Nat) :
    ∀ seen a, HeadInv md ops n seen →
      (∀ j p, ops[j]? = some p → j ≠ i → seen.getD j true = false → (∀ e ∈ p.after, Region.binds md e = true → e.on ≠ i) → o.apart ops p = true) →
      i ∈ Region.ready md ops seen → YieldsIn P ops C o v a →
      HeadQ P md ops C n L f (seen.setIfInBounds i true) (a.put o.dst v) → HeadQ P md ops C n L (f + 1) seen a := by
  induction f with
  | zero =>
    intro seen a inv _ hr hy H
    refine ⟨fun h0 => (by rw [h0] at hr; cases hr), fun j hj => ?_⟩
    have hjn : j < n := Nat.lt_of_not_le fun h => tail_waits hs hc hn inv _ i rfl hin (mem_ready.1 hr).1 j h hj
    refine ⟨hjn, ?_⟩
    by_cases e : j = i
    · subst e; exact hy.qOp ho H
    · exact absurd (hend _ _ H j (ready_mono hj e)) (by omega)
  | succ f ih =>
    intro seen a inv free hr hy H
    have hi0 := (mem_ready.1 hr).1
    refine ⟨fun h0 => (by rw [h0] at hr; cases hr), fun j hj => ?_⟩
    have hjn : j < n := Nat.lt_of_not_le fun h => tail_waits hs hc hn inv _ i rfl hin hi0 j h hj
    refine ⟨hjn, ?_⟩
    by_cases e : j = i
    · subst e; exact hy.qOp ho H
    obtain ⟨hj0, p, hp, hall⟩ := mem_ready.1 hj
    have hno : ∀ e ∈ p.after, Region.binds md e = true → e.on ≠ i := by
      intro e he hb hon
      have h1 := hall e he hb
      rw [hon, getD_both hi0] at h1
      cases h1
    have h2 := qOp_put hp (free j p hp e hj0 hno) (fun cs b => hsel i o cs b ho) (fun cs b => hsel j p cs b hp) hy (H.2 j (ready_mono hj e)).2
    refine qOp_mono (fun a' h3 => ?_) h2
    refine ih _ a' (inv.set hj hjn) ?_ (ready_mono hr (Ne.symm e)) h3.1 ?_
    · intro k q hq hki hk0 hkno
      refine free k q hq hki ?_ hkno
      by_cases hjk : j = k
      · subst hjk; exact hj0
      · rwa [getD_set_ne true hjk] at hk0
    · rw [Array.setIfInBounds_comm _ _ e]
      exact h3.2

theorem headQ_lex {n g : Nat} {Lq : Act → Prop} (hsel : Region.noSelect ops = true) (hs : Region.sinkB md ops n = true) (hc : Region.chainB md ops n = true) (hn : n < ops.size) (l : List Oper) :
    ∀ k seen a, (∀ j, j < l.length → l[j]? = ops[k + j]?) → k + l.length = n → HeadInv md ops n seen → Region.lexHead md ops g l.length k seen = true → wpQuiet P ops C Lq l a →
      HeadQ P md ops C n (fun seen' a' => Region.seqB md ops g n seen' = true ∧ Lq a') l.length seen a := by
  induction l with
  | nil =>
    intro k seen a _ hk _ hB h
    obtain rfl : k = n := by simpa using hk
    exact ⟨by simpa [Region.lexHead] using hB, h⟩
  | cons o l ih =>
    intro k seen a hl hk inv hB h
    have ho : ops[k]? = some o := by simpa using (hl 0 (by simp)).symm
    simp only [List.length_cons, Region.lexHead, Bool.and_eq_true] at hB
    have hkn : k < n := by simp only [List.length_cons] at hk; omega
    have hr : k ∈ Region.ready md ops seen := by simpa using hB.1.1
    have hq : qOp P ops C k (wpQuiet P ops C Lq l) a := by unfold qOp; simp only [ho]; exact h
    obtain ⟨v, hy, hK⟩ := yieldsIn_of_qOp ho hq
    refine headQ_first (Region.noSelect_spec hsel) hs hc hn (fun seen' a' hL => seqB_ready hL.1) ho hkn l.length seen a inv (Region.free_spec ho hB.1.2) hr hy ?_
    refine ih (k + 1) _ _ (fun j hj => ?_) (by simp only [List.length_cons] at hk; omega) (inv.set hr hkn) hB.2 hK
    have := hl (j + 1) (by simp; omega)
    simpa [Nat.add_assoc, Nat.add_comm 1 j] using this

/-- The first n operations are quiet in the class; the others come behind them, in the order of the text, in whatever world of the class. -/
theorem wp_region_quiet_tail {id : Nat} {Q : Exit → Act → World → Prop} {a : Act} {w : World} {l : List Oper} (n : Nat) (hm : P.follows .mixedOrders = true) (hB : Region.lexTailB .any l.toArray n = true) (hC : C { w with drawn := w.drawn + 1 })
    (h : wpQuiet P l.toArray C (fun a' => ∀ w', C w' → wpList P l.toArray Q (l.drop n) a' w') (l.take n) a) : (Code.region id l.toArray true).wp P Q a w := by
  simp only [Region.lexTailB, Bool.and_eq_true, decide_eq_true_eq] at hB
  obtain ⟨⟨⟨⟨hsel, hn⟩, hs⟩, hc⟩, hlex⟩ := hB
  have hn' : n < l.length := by simpa using hn
  have htl : (l.take n).length = n := by simp; omega
  have hdl : (l.drop n).length = l.toArray.size - n := by simp
  have inv : HeadInv .any l.toArray n (Array.replicate l.toArray.size false) :=
    ⟨by simp, fun j p _ hl => (by rw [getD_replicate_false] at hl; cases hl), fun t _ ht => getD_in (by simpa using ht) (getD_replicate_false _ _)⟩
  have H := headQ_lex (C := C) (md := .any) (g := l.toArray.size - n) hsel hs hc hn (l.take n) 0 _ a (fun j hj => by
    have hj' : j < n := by rw [htl] at hj; exact hj
    simp [hj']) (by simpa using htl) inv (by rw [htl]; exact hlex) h
  refine wp_region_any hm ?_
  have H2 := any_of_headQ (R := Q) (g := l.toArray.size - n) (fun seen a' w' hw' hL => by
    have := wpAny_of_seq (md := .any) (Q' := Q) (l.drop n) n seen a' w' (fun j => by simp [List.getElem?_drop]) (by rw [hdl]; exact hL.1) (hL.2 w' hw')
    rwa [hdl] at this) _ _ _ _ hC H
  rw [htl, show n + (l.toArray.size - n) = l.toArray.size by omega] at H2
  exact H2

/-- The same at the class of what lies behind w with blocks of others' own. -/
theorem wp_region_below_tail {id : Nat} {Q : Exit → Act → World → Prop} {a : Act} {w : World} {l : List Oper} (n : Nat) (hm : P.follows .mixedOrders = true) (hB : Region.lexTailB .any l.toArray n = true)
    (h : wpQuiet P l.toArray (fun w' => ∃ p : Regrown, w' = Sort.grow (redrawn w p.d) p.os) (fun a' => ∀ w', Below w.heap.size w w' → wpList P l.toArray Q (l.drop n) a' w') (l.take n) a) : (Code.region id l.toArray true).wp P Q a w := by
  refine wp_region_quiet_tail (C := fun w' => ∃ p : Regrown, w' = Sort.grow (redrawn w p.d) p.os) n hm hB ⟨⟨w.drawn + 1, #[]⟩, by rw [Sort.grow_empty]; rfl⟩ ?_
  have e : (fun a' => ∀ w', Below w.heap.size w w' → wpList P l.toArray Q (l.drop n) a' w') = (fun a' => ∀ w', (∃ p : Regrown, w' = Sort.grow (redrawn w p.d) p.os) → wpList P l.toArray Q (l.drop n) a' w') := by
    funext a'
    refine propext ⟨fun h w' ⟨p, hp⟩ => h w' (by subst hp; exact below_regrown w p.d p.os), fun h w' hb => h w' (regrown_of_below hb)⟩
  rw [← e]
  exact h

/-- All operations quiet, at that class. -/
theorem wp_region_below {id : Nat} {Q : Exit → Act → World → Prop} {a : Act} {w : World} {l : List Oper} (hm : P.follows .mixedOrders = true) (hB : Region.lexB .any l.toArray = true)
    (h : wpQuiet P l.toArray (fun w' => ∃ p : Regrown, w' = Sort.grow (redrawn w p.d) p.os) (fun a' => ∀ w', Below w.heap.size w w' → Q .normal a' w') l a) : (Code.region id l.toArray true).wp P Q a w := by
  refine wp_region_quiet_below hm hB ?_
  have e : (fun a' => ∀ w', Below w.heap.size w w' → Q .normal a' w') = (fun a' => ∀ w', (∃ p : Regrown, w' = Sort.grow (redrawn w p.d) p.os) → Q .normal a' w') := by
    funext a'
    refine propext ⟨fun h w' ⟨p, hp⟩ => h w' (by subst hp; exact below_regrown w p.d p.os), fun h w' hb => h w' (regrown_of_below hb)⟩
  rw [← e]
  exact h

end

/-- No guards, and no operation waits for a later one. -/
def backB (md : Region.Mode) (ops : Array Oper) : Bool :=
  (List.range ops.size).all fun i => match ops[i]? with
    | none => false
    | some o => o.guard.isNone && o.after.all fun e => !Region.binds md e || decide (e.on < i)

theorem bl_drew' (w : World) : Below w.heap.size w w.drew := (Below.refl _ _).drew
theorem count_drop : ∀ (l : List Bool) (i : Nat) {h : i < l.length}, l[i] = false → (l.set i true).count false = l.count false - 1
  | [], i, h, _ => by simp at h
  | b :: l, 0, _, e => by simp at e; subst e; simp
  | b :: l, i + 1, h, e => by
    have h' : i < l.length := by simpa using h
    have e' : l[i] = false := by simpa using e
    have := count_drop l i (h := h') e'
    have hp : 0 < l.count false := List.count_pos_iff.2 (by rw [← e']; exact List.getElem_mem h')
    cases b <;> simp [this]
    omega

section
variable {P : Program} {md : Region.Mode} {ops : Array Oper} {Q : Exit → Act → World → Prop}

theorem ready_nil (hB : backB md ops = true) {seen : Array Bool} (hz : seen.size = ops.size) (h : Region.ready md ops seen = []) : ∀ i, i < ops.size → seen.getD i false = true := by
  intro i
  induction i using Nat.strongRecOn with
  | _ i ih =>
    intro hi
    cases hs : seen.getD i false with
    | true => rfl
    | false =>
      exfalso
      have hb := List.all_eq_true.mp hB i (by simpa using hi)
      have ho : ops[i]? = some ops[i] := by simp [hi]
      simp only [ho, Bool.and_eq_true, Array.all_eq_true'] at hb
      have : i ∈ Region.ready md ops seen := mem_ready.2 ⟨by simp only [Array.getD, hz, hi, dite_true] at hs ⊢; exact hs, ops[i], ho, fun e he hbi => by
        have := hb.2 e he
        simp only [hbi, Bool.not_true, Bool.false_or, decide_eq_true_eq] at this
        exact ih _ this (by omega)⟩
      rw [h] at this
      cases this

theorem wpAny_inv {Inv : Array Bool → Act → World → Prop} (hB : backB md ops = true)
    (hs : ∀ i o, ops[i]? = some o → ∀ seen a w, Inv seen a w → seen.size = ops.size → seen.getD i true = false → (∀ e ∈ o.after, Region.binds md e = true → seen.getD e.on false = true) → o.wp P a w (fun a' w' => Inv (seen.setIfInBounds i true) a' w') Q)
    (hend : ∀ a w, Inv (Array.replicate ops.size true) a w → Q .normal a w) :
    ∀ (f : Nat) (seen : Array Bool) (a : Act) (w : World), seen.size = ops.size → (seen.toList.count false) ≤ f → Inv seen a w → wpAny P md ops Q f seen a w := by
  have hall : ∀ seen : Array Bool, seen.size = ops.size → (∀ i, i < ops.size → seen.getD i false = true) → seen = Array.replicate ops.size true := by
    intro seen hz h
    apply Array.ext
    · simp [hz]
    · intro i h1 h2
      have := h i (by omega)
      simp only [Array.getD, h1, dite_true] at this
      rw [Array.getElem_replicate]
      exact this
  intro f
  induction f with
  | zero =>
    intro seen a w hz hc hi
    have hT : ∀ i, i < ops.size → seen.getD i false = true := by
      intro i hlt
      have h0 : seen.toList.count false = 0 := by omega
      have := List.count_eq_zero.mp h0
      cases hs : seen.getD i false with
      | true => rfl
      | false =>
        exfalso
        apply this
        simp only [Array.getD, hz, hlt, dite_true] at hs
        rw [← hs]
        exact Array.getElem_mem_toList (by omega)
    refine ⟨?_, ?_⟩
    · cases h : Region.ready md ops seen with
      | nil => rfl
      | cons j r =>
        have hj : j ∈ Region.ready md ops seen := by rw [h]; exact List.mem_cons_self
        obtain ⟨h1, o, ho, _⟩ := mem_ready.1 hj
        have hlt := (Array.getElem?_eq_some_iff.1 ho).1
        have h2 := hT j hlt
        simp only [Array.getD, hz, hlt, dite_true] at h1 h2
        rw [h1] at h2
        cases h2
    · rw [hall seen hz hT] at hi
      exact hend a w hi
  | succ f ih =>
    intro seen a w hz hc hi
    refine ⟨fun h => ?_, fun i hr => ?_⟩
    · rw [hall seen hz (ready_nil hB hz h)] at hi
      exact hend a w hi
    · obtain ⟨h1, o, ho, hall⟩ := mem_ready.1 hr
      have hlt := (Array.getElem?_eq_some_iff.1 ho).1
      have hb := List.all_eq_true.mp hB i (by simpa using hlt)
      simp only [ho, Bool.and_eq_true] at hb
      have hgn : o.guard = none := by simpa using hb.1
      unfold wpOp
      simp only [ho, Region.wanted, hgn, if_true]
      refine .inl (Oper.wp_mono (fun a' w' h => ih _ _ _ (by simpa using hz) ?_ h) (hs i o ho seen a w hi hz h1 hall))
      have hlt' : i < seen.toList.length := by simpa [hz] using hlt
      have hf : seen.toList[i] = false := by
        simp only [Array.getD, hz, hlt, dite_true] at h1
        simpa using h1
      rw [Array.toList_setIfInBounds, count_drop _ _ hf]
      omega

theorem wp_region_inv {id : Nat} {a : Act} {w : World} {l : List Oper} (Inv : Array Bool → Act → World → Prop) (hm : P.follows .mixedOrders = true) (hB : backB .any l.toArray = true)
    (h0 : Inv (Array.replicate l.toArray.size false) a w.drew)
    (hs : ∀ i o, l.toArray[i]? = some o → ∀ seen a w, Inv seen a w → seen.size = l.toArray.size → seen.getD i true = false → (∀ e ∈ o.after, Region.binds .any e = true → seen.getD e.on false = true) → o.wp P a w (fun a' w' => Inv (seen.setIfInBounds i true) a' w') Q)
    (hend : ∀ a w, Inv (Array.replicate l.toArray.size true) a w → Q .normal a w) : (Code.region id l.toArray true).wp P Q a w :=
  wp_region_any hm (wpAny_inv hB hs hend _ _ _ _ (by simp) (by simp) h0)

/-- The values of all slots. -/
def valsOf (a : Act) (s : Nat) : Value := a.tmps.getD s undef
def setAll (u : Nat → Value) : List Nat → Array Value → Array Value
  | [], t => t
  | d :: ds, t => setAll u ds (t.setIfInBounds d (u d))

theorem getD_set (t : Array Value) (d s : Nat) (v : Value) (hd : d < t.size) : (t.setIfInBounds d v).getD s undef = if d = s then v else t.getD s undef := by
  by_cases e : d = s
  · subst e; simp [hd]
  · simp [e]

theorem setAll_size (u : Nat → Value) : ∀ (ds : List Nat) (t : Array Value), (setAll u ds t).size = t.size
  | [], t => rfl
  | d :: ds, t => by rw [setAll, setAll_size u ds]; simp

theorem setAll_getD (u : Nat → Value) : ∀ (ds : List Nat) (t : Array Value), (∀ d ∈ ds, d < t.size) → ∀ s, (setAll u ds t).getD s undef = if s ∈ ds then u s else t.getD s undef
  | [], t, _, s => by simp [setAll]
  | d :: ds, t, h, s => by
    rw [setAll, setAll_getD u ds _ (fun e he => by simpa using h e (List.mem_cons_of_mem _ he)) s, getD_set _ _ _ _ (h d List.mem_cons_self)]
    by_cases hs : s ∈ ds
    · simp [hs]
    · by_cases e : d = s
      · subst e; simp
      · simp [hs, e, Ne.symm e]

theorem vals_ext {A a : Act} {ds : List Nat} (hz : a.tmps.size = A.tmps.size) (hd : a.defers = A.defers) (hds : ∀ d ∈ ds, d < A.tmps.size) (h : ∀ s, s ∉ ds → valsOf a s = valsOf A s) : a = { A with tmps := setAll (valsOf a) ds A.tmps } := by
  obtain ⟨t, df⟩ := a
  obtain ⟨T, Df⟩ := A
  simp only at hd hz
  subst hd
  simp only [Act.mk.injEq, and_true]
  apply Array.ext
  · rw [setAll_size]; exact hz
  · intro i h1 h2
    have e := setAll_getD (valsOf ⟨t, df⟩) ds T hds i
    have e2 : valsOf ⟨t, df⟩ i = t[i] := by show t.getD i undef = t[i]; simp [h1]
    have e3 : (setAll (valsOf ⟨t, df⟩) ds T).getD i undef = (setAll (valsOf ⟨t, df⟩) ds T)[i] := by simp [h2]
    rw [e3] at e
    rw [e]
    show t[i] = _
    rw [← e2]
    split
    · rfl
    · exact h i (by assumption)

theorem wp_value {o : Oper} {a : Act} {w w' : World} {K : Act → World → Prop} (v : Value) (hr : (execOp a.eval o).run P w = .ok (.value v) w') (hK : K (a.put o.dst v) w') : o.wp P a w K Q := by
  unfold Oper.wp
  rw [hr]
  exact hK
theorem wp_effect {o : Oper} {a : Act} {w w' : World} {K : Act → World → Prop} (hr : (execOp a.eval o).run P w = .ok .skip w') (hK : K (a.put o.dst undef) w') : o.wp P a w K Q := by
  unfold Oper.wp
  rw [hr]
  exact hK
theorem wp_calls {o : Oper} {a : Act} {w w' : World} {K : Act → World → Prop} {f : Nat} {args : Array Value} {R : Ending → World → Prop} (hr : (execOp a.eval o).run P w = .ok (.enter f args) w') (hc : Calls P f args w' R) (hK : ∀ e w'', R e w'' → ∃ v, e = .returned v ∧ K (a.put o.dst v) w'') : o.wp P a w K Q := by
  unfold Oper.wp
  rw [hr]
  refine Calls.mono hc ?_
  intro e w'' h
  obtain ⟨v, rfl, hk⟩ := hK e w'' h
  exact hk
theorem val_at {a : Act} {s : Nat} {v : Value} (h : valsOf a s = v) : a.tmps[s]?.getD undef = v := by simpa [valsOf] using h
theorem eval_tmp (a : Act) (t : Nat) : a.eval (.tmp t) = valsOf a t := rfl
theorem eval_const (a : Act) (v : Value) : a.eval (.const v) = v := rfl

theorem wp_region_vals {id : Nat} {a : Act} {w : World} {l : List Oper} (ds : List Nat) (F : (Nat → Bool) → (Nat → Value) → World → Prop) (hm : P.follows .mixedOrders = true) (hB : backB .any l.toArray = true)
    (hds : (l.all fun o => match o.dst with | none => true | some d => ds.contains d) = true) (hz : (ds.all fun d => decide (d < a.tmps.size)) = true)
    (h0 : F (fun _ => false) (valsOf a) w.drew)
    (hs : ∀ i o, l[i]? = some o → ∀ (seen : Nat → Bool) (a' : Act) w', Below w.heap.size w w' → F seen (valsOf a') w' → (∀ s, s ∉ ds → valsOf a' s = valsOf a s) → seen i = false → (∀ e ∈ o.after, Region.binds .any e = true → seen e.on = true) →
      o.wp P a' w' (fun a'' w'' => ∃ v, a'' = a'.put o.dst v ∧ Below w.heap.size w w'' ∧ F (fun j => if j = i then true else seen j) (fun s => if o.dst = some s then v else valsOf a' s) w'') Q)
    (hend : ∀ (u : Nat → Value) w', Below w.heap.size w w' → (∀ seen : Nat → Bool, (∀ i, i < l.length → seen i = true) → F seen u w' → Q .normal { a with tmps := setAll u ds a.tmps } w')) : (Code.region id l.toArray true).wp P Q a w := by
  have hz' : ∀ d ∈ ds, d < a.tmps.size := fun d hd => by simpa using List.all_eq_true.mp hz d hd
  refine wp_region_inv (fun seen a' w' => Below w.heap.size w w' ∧ a'.tmps.size = a.tmps.size ∧ a'.defers = a.defers ∧ (∀ s, s ∉ ds → valsOf a' s = valsOf a s) ∧ F (fun i => seen.getD i false) (valsOf a') w') hm hB ⟨(bl_drew' w), rfl, rfl, fun _ _ => rfl, ?_⟩ ?_ ?_
  · have e : (fun i => (Array.replicate l.toArray.size false).getD i false) = fun _ => false := by
      funext i
      simp only [Array.getD]
      split <;> simp
    rw [e]; exact h0
  · rintro i o ho seen a' w' ⟨hb, hsz, hdf, hv, hF⟩ hzs hsi hdep
    have ho' : l[i]? = some o := by simpa using ho
    have hsi' : seen.getD i false = false := by
      have hlt := (Array.getElem?_eq_some_iff.1 ho).1
      simp only [Array.getD, hzs, hlt, dite_true] at hsi ⊢
      exact hsi
    refine Oper.wp_mono ?_ (hs i o ho' (fun i => seen.getD i false) a' w' hb hF hv hsi' hdep)
    rintro a'' w'' ⟨v, rfl, hb', hF'⟩
    have hlt := (Array.getElem?_eq_some_iff.1 ho).1
    have hseen : (fun j => (seen.setIfInBounds i true).getD j false) = fun j => if j = i then true else seen.getD j false := by
      funext j
      by_cases e : j = i
      · subst e
        have : j < seen.size := by rw [hzs]; exact hlt
        simp [this]
      · simp [Ne.symm e, e]
    rw [hseen]
    cases hd : o.dst with
    | none =>
      rw [hd] at hF'
      refine ⟨hb', hsz, hdf, hv, ?_⟩
      simpa [Act.put] using hF'
    | some d =>
      have hmem : d ∈ ds := by
        have := List.all_eq_true.mp hds o (List.mem_of_getElem? ho')
        simpa [hd] using this
      have hvals : valsOf (a'.put (some d) v) = fun s => if (some d : Option Nat) = some s then v else valsOf a' s := by
        funext s
        simp only [valsOf, Act.put]
        rw [getD_set _ _ _ _ (by rw [hsz]; exact hz' d hmem)]
        simp
      refine ⟨hb', by simpa [Act.put] using hsz, hdf, fun s hs => ?_, ?_⟩
      · rw [hvals]
        have : ¬ ((some d : Option Nat) = some s) := by rintro ⟨⟩; exact hs hmem
        simp only [this, if_false]
        exact hv s hs
      · rw [hvals, ← hd]; exact hF'
  · rintro a' w' ⟨hb, hsz, hdf, hv, hF⟩
    rw [vals_ext hsz hdf hz' hv]
    refine hend _ _ hb _ (fun i hi => ?_) hF
    simp [hi]
end

section
variable {P : Program}

/-- How the body of a round may be left: the loop's own two blocks lie as they lay. -/
def rfPost {α : Type} (l : Nat) (I2 : List α → World → Prop) (Ix : Code → List α → World → Prop) (xs : List α) (W : World) : Exit → Act → World → Prop
  | .normal, _, W' => W'.heap[l]? = W.heap[l]? ∧ W'.heap[l - 1]? = W.heap[l - 1]? ∧ I2 xs W'
  | .ret, _, W' => W'.heap[l]? = W.heap[l]? ∧ W'.heap[l - 1]? = W.heap[l - 1]? ∧ Ix .ret xs W'
  | .exit id, _, W' => W'.heap[l]? = W.heap[l]? ∧ W'.heap[l - 1]? = W.heap[l - 1]? ∧ Ix (.exit id) xs W'
  | .goto t, _, W' => W'.heap[l]? = W.heap[l]? ∧ W'.heap[l - 1]? = W.heap[l - 1]? ∧ Ix (.goto t) xs W'
  | .panic _, _, _ => False
  | .outgrown, _, _ => False

/-- A turn of a loop's record is nothing to it. -/
def RecFree {β : Type} (l : Nat) (I : β → World → Prop) : Prop := ∀ s W o, I s W → (∃ r, W.heap[l]? = some (.loop r)) → (∃ r, o = Obj.loop r) → I s (W.putObj l o)

/-- What the iterator owes: whatever B is that new blocks and stores into cells leave alone. -/
def IterOk {α : Type} (P : Program) (gf : Nat) (lb : Array Value) (encs : α → Array Value) (I I2 : List α → World → Prop) (Ix : Code → List α → World → Prop) (S : List α → Prop) (Adm : List α → α → Prop) (w : World) : Prop :=
  ∀ (l : Nat) (B : World → Prop) (Bx : Code → World → Prop) (W1 : World), Below w.heap.size w W1 →
    (∀ W W', B W → Below W.heap.size W W' → B W') → (∀ W a v, B W → B (W.setCell a v)) →
    (∀ c W W', Bx c W → Below W.heap.size W W' → Bx c W') → (∀ c W a v, Bx c W → Bx c (W.setCell a v)) →
    (∀ pre x W, I pre W → B W → Adm pre x → YieldAt Fence.wide 1 P l (encs x) W fun e W' =>
      (e = .returned (.bool true) ∧ I2 (pre ++ [x]) W' ∧ B W') ∨ (e = .returned (.bool false) ∧ ∃ c, Ix c (pre ++ [x]) W' ∧ Bx c W')) →
    I [] W1 → B W1 →
    CallsIn Fence.wide 2 P gf (#[.func (.yield l) #[] #[]] ++ lb) W1 fun e W' => (∃ v, e = .returned v) ∧ ((∃ xs, S xs ∧ I xs W' ∧ B W') ∨ (∃ c pre, Ix c pre W' ∧ Bx c W'))

theorem book_set {W : World} {k : Nat} {o : Obj} (h : W.heap[k]? = some o) (ho : o.isCells = false) (a : Addr) (v : Value) : (W.setCell a v).heap[k]? = some o := by
  rw [World.setCell]
  simp only [Array.getElem?_modify]
  split
  · rw [h]; cases o <;> simp_all [Obj.isCells]
  · exact h

theorem wp_rangeFunc_mine {α : Type} {g : Operand} {ps : Array Tmp} {assign body : Code} {Q : Exit → Act → World → Prop} {a : Act} {w : World}
    {gf : Nat} {lb : Array Value} (hg : a.eval g = .func (.func gf) #[] lb) (eg : ∀ args w, (callFunc gf args).run P w = .ok (.enter gf args) w)
    {encs : α → Array Value} (hps : ∀ x, (encs x).size = ps.size)
    (I I2 : List α → World → Prop) (Ix : Code → List α → World → Prop) (S : List α → Prop) (Adm : List α → α → Prop)
    (hseq : IterOk P gf lb encs I I2 Ix S Adm w)
    (hI : ∀ l, w.heap.size < l → RecFree l I) (hI2 : ∀ l, w.heap.size < l → RecFree l I2) (hIx : ∀ l c, w.heap.size < l → RecFree l (Ix c))
    (h0 : ∀ W, Below w.heap.size w W → W.heap.size = w.heap.size + 2 → I [] W) (a₁ : α → Act)
    (hassign : ∀ (l : Nat) (x : α) (W : World) (K : Act → World → Prop), K (a₁ x) W →
      assign.wpIn (Fence.wide.inRound l) 1 P (Exit.then K (fun _ _ _ => False)) { tmps := (ps.zip (encs x)).foldl (fun t (p, v) => t.setIfInBounds p v) a.tmps, defers := [] } W)
    (hbody : ∀ (l : Nat) (pre : List α) (x : α) (W : World), l = w.heap.size + 1 → I pre W → Adm pre x → (∃ r, W.heap[l]? = some (.loop r)) → W.heap[l - 1]? = some (.deferred (some [])) → body.wpIn (Fence.wide.inRound l) 1 P (rfPost l I2 Ix (pre ++ [x]) W) (a₁ x) W)
    (hdone : ∀ (D : Nat) (xs : List α) (W : World), D = w.heap.size → S xs → I xs W → W.heap[D]? = some (.deferred (some [])) → Q .normal { a with defers := { target := .collected D, args := #[] } :: a.defers } W)
    (hstop : ∀ (D : Nat) (c : Code) (pre : List α) (W : World), D = w.heap.size → Ix c pre W → W.heap[D]? = some (.deferred (some [])) → c.wp P Q { a with defers := { target := .collected D, args := #[] } :: a.defers } W) :
    (Code.rangeFunc g ps assign body).wp P Q a w := by
  refine (wpIn_wide (n := 3)).1 (wpIn_rangeFunc ?_)
  intro fn hfn
  obtain ⟨rec, hrec⟩ : ∃ rec : LoopState → Option Code → Loop, rec = fun st pe => { state := st, pending := pe, fn, tmps := a.tmps, params := ps, assign, body, defers := w.heap.size } := ⟨_, rfl⟩
  obtain ⟨W1, hW1⟩ : ∃ W1, (w.alloc (.deferred (some []))).alloc (.loop (rec .ready none)) = W1 := ⟨_, rfl⟩
  have hL1 : W1.heap[w.heap.size + 1]? = some (.loop (rec .ready none)) := by
    rw [← hW1]; have := World.alloc_heap_new (w.alloc (.deferred (some []))) (.loop (rec .ready none)); rwa [World.size_alloc] at this
  have hK1 : W1.heap[w.heap.size]? = some (.deferred (some [])) := by
    rw [← hW1]; exact (Below.heap_alloc _ _ _ (by simp)).trans (World.alloc_heap_new w _)
  have hb1 : Below w.heap.size w W1 := by
    rw [← hW1]; exact ((Below.refl _ w).alloc (Nat.le_refl _) _).alloc (by simp) _
  refine ⟨w.heap.size + 1, [{ target := .collected w.heap.size, args := #[] }], W1, { target := .fn (.func gf) lb, args := #[.func (.yield (w.heap.size + 1)) #[] #[]] }, W1, gf,
    #[.func (.yield (w.heap.size + 1)) #[] #[]] ++ lb, W1, ?_, ?_, ?_, ?_, fun _ => (by omega), ?_⟩
  · rw [← hW1, hrec]; exact run_enterLoop_outer _ _ _ _ _
  · simp only [resolve, hg]
    simp [go_sem]
  · intro f' hf'; trivial
  · simp [invoke, go_sem, eg]
  · have hBb : ∀ (o : Obj) (k : Nat) (W W' : World), W.heap[k]? = some o → Below W.heap.size W W' → W'.heap[k]? = some o := fun o k W W' h hb => by
      rw [hb.block k (Array.getElem?_eq_some_iff.1 h).1]; exact h
    have hlt0 : w.heap.size < w.heap.size + 1 := by omega
    refine (hseq (w.heap.size + 1)
      (fun W => W.heap[w.heap.size + 1]? = some (.loop (rec .ready none)) ∧ W.heap[w.heap.size]? = some (.deferred (some [])))
      (fun c W => W.heap[w.heap.size + 1]? = some (.loop (rec .done (some c))) ∧ W.heap[w.heap.size]? = some (.deferred (some [])))
      W1 hb1
      (fun W W' h hb => ⟨hBb _ _ _ _ h.1 hb, hBb _ _ _ _ h.2 hb⟩)
      (fun W a v h => ⟨book_set h.1 rfl a v, book_set h.2 rfl a v⟩)
      (fun c W W' h hb => ⟨hBb _ _ _ _ h.1 hb, hBb _ _ _ _ h.2 hb⟩)
      (fun c W a v h => ⟨book_set h.1 rfl a v, book_set h.2 rfl a v⟩)
      ?_ (h0 W1 hb1 (by rw [← hW1]; simp)) ⟨hL1, hK1⟩).mono ?_
    · rintro pre x W hi ⟨hl, hk⟩ hlen
      have hlt : w.heap.size + 1 < W.heap.size := (Array.getElem?_eq_some_iff.1 hl).1
      have hy := run_yield (P := P) (args := encs x) hl (by rw [hrec]; exact hps x)
      rw [hrec] at hy
      refine ⟨fn, _, assign, body, hy, roundIn_of_wpIn hfn (hassign _ x W _ ⟨_, run_beginRound hl (by rw [hrec]), ?_⟩)⟩
      have hl2 : (W.putObj (w.heap.size + 1) (.loop { rec .ready none with state := .busy })).heap[w.heap.size + 1]? = some (.loop { rec .ready none with state := .busy }) := World.putObj_heap_same hlt
      have hk2 : (W.putObj (w.heap.size + 1) (.loop { rec .ready none with state := .busy })).heap[w.heap.size]? = some (.deferred (some [])) := (World.putObj_heap_other (by omega)).trans hk
      refine wpIn_mono (hbody _ pre x _ rfl (hI _ hlt0 _ _ _ hi ⟨_, hl⟩ ⟨_, rfl⟩) hlen ⟨_, hl2⟩ hk2) ?_
      have fin : ∀ (jump : Option Code) (W3 : World), W3.heap[w.heap.size + 1]? = (W.putObj (w.heap.size + 1) (.loop { rec .ready none with state := .busy })).heap[w.heap.size + 1]? → W3.heap[w.heap.size + 1 - 1]? = (W.putObj (w.heap.size + 1) (.loop { rec .ready none with state := .busy })).heap[w.heap.size + 1 - 1]? →
          (Instr.endRound (w.heap.size + 1) jump).run P W3 = .ok (.bool jump.isNone) (W3.putObj (w.heap.size + 1) (.loop (rec (if jump.isNone then .ready else .done) jump))) ∧
          W3.heap[w.heap.size + 1]? = some (.loop { rec .ready none with state := .busy }) ∧
          (W3.putObj (w.heap.size + 1) (.loop (rec (if jump.isNone then .ready else .done) jump))).heap[w.heap.size + 1]? = some (.loop (rec (if jump.isNone then .ready else .done) jump)) ∧
          (W3.putObj (w.heap.size + 1) (.loop (rec (if jump.isNone then .ready else .done) jump))).heap[w.heap.size]? = some (.deferred (some [])) := fun jump W3 h1 h2 => by
        have hl3 := h1.trans hl2
        have hk3 : W3.heap[w.heap.size]? = some (.deferred (some [])) := h2.trans hk2
        have := run_endRound (P := P) jump hl3
        rw [hrec] at this ⊢
        exact ⟨this, by rw [hrec] at hl3; exact hl3, World.putObj_heap_same (Array.getElem?_eq_some_iff.1 hl3).1, (World.putObj_heap_other (by omega)).trans hk3⟩
      rintro e a3 W3 hp
      cases e with
      | normal =>
        obtain ⟨h1, h2, hi3⟩ := hp
        obtain ⟨hr, hl3, hl4, hk4⟩ := fin none W3 h1 h2
        exact ⟨_, _, hr, .inl ⟨rfl, hI2 _ hlt0 _ _ _ hi3 ⟨_, hl3⟩ ⟨_, rfl⟩, hl4, hk4⟩⟩
      | ret =>
        obtain ⟨h1, h2, hi3⟩ := hp
        obtain ⟨hr, hl3, hl4, hk4⟩ := fin (some .ret) W3 h1 h2
        exact ⟨_, _, hr, .inr ⟨rfl, .ret, hIx _ _ hlt0 _ _ _ hi3 ⟨_, hl3⟩ ⟨_, rfl⟩, hl4, hk4⟩⟩
      | exit id =>
        obtain ⟨h1, h2, hi3⟩ := hp
        obtain ⟨hr, hl3, hl4, hk4⟩ := fin (some (.exit id)) W3 h1 h2
        exact ⟨_, _, hr, .inr ⟨rfl, .exit id, hIx _ _ hlt0 _ _ _ hi3 ⟨_, hl3⟩ ⟨_, rfl⟩, hl4, hk4⟩⟩
      | goto t =>
        obtain ⟨h1, h2, hi3⟩ := hp
        obtain ⟨hr, hl3, hl4, hk4⟩ := fin (some (.goto t)) W3 h1 h2
        exact ⟨_, _, hr, .inr ⟨rfl, .goto t, hIx _ _ hlt0 _ _ _ hi3 ⟨_, hl3⟩ ⟨_, rfl⟩, hl4, hk4⟩⟩
      | panic ch => exact hp.elim
      | outgrown => exact hp.elim
    · rintro e W2 ⟨⟨v, rfl⟩, (⟨xs, hS, hi, hl, hk⟩ | ⟨c, pre, hi, hl, hk⟩)⟩
      · exact ⟨none, _, by have := run_endLoop (P := P) hl (by rw [hrec]; simp); rw [hrec] at this; exact this, hdone _ xs _ rfl hS (hI _ hlt0 _ _ _ hi ⟨_, hl⟩ ⟨_, rfl⟩) ((World.putObj_heap_other (by omega)).trans hk)⟩
      · exact ⟨some c, _, by have := run_endLoop (P := P) hl (by rw [hrec]; simp); rw [hrec] at this; exact this, wpIn_wide.2 (hstop _ c pre _ rfl (hIx _ _ hlt0 _ _ _ hi ⟨_, hl⟩ ⟨_, rfl⟩) ((World.putObj_heap_other (by omega)).trans hk))⟩

/-- A function that holds such a loop. -/
theorem calls_marks {f : FuncId} {fn : Func} {c : Code} {args : Array Value} {w : World} {R : Ending → World → Prop} (hf : P.funcs[f]? = some fn) (hb : fn.body = some c)
    (h : c.wp P (bodyPostM Fence.wide 3 P fn R) { tmps := args ++ Array.replicate (fn.ntmps - args.size) undef, defers := [] } w) : Calls P f args w R :=
  (callsIn_wide (n := 3)).1 (callsIn_of_wp_marks hf hb trivial (wpIn_wide.2 h) rfl)

theorem leave_nil {fn : Func} {R : Ending → World → Prop} {a : Act} {w : World} {v : Value} (hr : (results fn a.tmps).run P w = .ok v w) (hd : a.defers = []) (hR : R (.returned v) w) : bodyPostM Fence.wide 3 P fn R .ret a w := by
  show LeavesInM _ _ _ _ _ _ a.defers _ _
  rw [hd]
  exact ⟨v, hr, hR⟩
theorem leave_one {fn : Func} {R : Ending → World → Prop} {a : Act} {w : World} {v : Value} {D : Nat} (hd : a.defers = [{ target := .collected D, args := #[] }]) (hK : w.heap[D]? = some (.deferred (some [])))
    (hr : (results fn a.tmps).run P (w.putObj D (.deferred none)) = .ok v (w.putObj D (.deferred none))) (hR : R (.returned v) (w.putObj D (.deferred none))) : bodyPostM Fence.wide 3 P fn R .ret a w := by
  show LeavesInM _ _ _ _ _ _ a.defers _ _
  rw [hd]
  exact ⟨by simp, .inl ⟨_, _, rfl, run_takeDeferred hK, v, hr, hR⟩⟩

/-- A turn of a block that holds no cells leaves cells as they were. -/
theorem cell_put {W : World} {a : Addr} {v : Value} {l : Nat} {o o' : Obj} (h : W.cell? a = some v) (hl : W.heap[l]? = some o) (ho : o.isCells = false) : (W.putObj l o').cell? a = some v := by
  obtain ⟨x, hx, hc⟩ := cells_of_cell h
  have hne : l ≠ a.block := by intro e; subst e; rw [hl] at hx; cases hx; rw [ho] at hc; cases hc
  exact (World.cell?_of_block (World.putObj_heap_other hne.symm)).trans h
theorem heap_put {W : World} {k l : Nat} {o o' : Obj} {x : Obj} (h : W.heap[k]? = some x) (hx : x.isCells = true) (hl : W.heap[l]? = some o) (ho : o.isCells = false) : (W.putObj l o').heap[k]? = some x := by
  have hne : l ≠ k := by intro e; subst e; rw [hl] at h; cases h; rw [ho] at hx; cases hx
  exact (World.putObj_heap_other hne.symm).trans h
theorem below_put {w W : World} {l : Nat} {o : Obj} (h : Below w.heap.size w W) (hl : w.heap.size ≤ l) : Below w.heap.size w (W.putObj l o) :=
  h.grown (grownBy_putObj' W l o) h.size (fun k e => by cases e; exact hl)
theorem size_put {W : World} {l : Nat} {o : Obj} : (W.putObj l o).heap.size = W.heap.size := by simp [World.putObj]

/-- An append whose run is told by an equation. -/
theorem wpList_append_run {w : World} {ops : Array Oper} {rest : List Oper} {o : Oper} {a : Act} {Q : Exit → Act → World → Prop} (hgd : o.guard = none) (s x : Operand) (t : TypeId)
    (ho : o.op = .call { callee := .builtin .append, args := #[s, x], argTypes := #[t, t] }) (v v2 v' : Value) (w' : World) (hs : a.eval s = v) (hx : a.eval x = v2)
    (hr : (Builtin.append_ #[t, t] o.type #[v, v2]).run P w = .ok v' w') (h : wpList P ops Q rest (a.put o.dst v') w') : wpList P ops Q (o :: rest) a w :=
  wpList_plain hgd fun K hK => by
    unfold Oper.wp execOp
    simp only [ho, resolve, invoke, builtin, Sem.run_bind, Sem.run_pure, Result.andThen_ok, List.map_toArray, List.map_cons, List.map_nil, hs, hx, hr]
    exact hK _ _ h
theorem wpListIn_append_run {F : Fence} {n : Nat} {w : World} {ops : Array Oper} {rest : List Oper} {o : Oper} {a : Act} {Q : Exit → Act → World → Prop} (hgd : o.guard = none) (s x : Operand) (t : TypeId)
    (ho : o.op = .call { callee := .builtin .append, args := #[s, x], argTypes := #[t, t] }) (v v2 v' : Value) (w' : World) (hs : a.eval s = v) (hx : a.eval x = v2)
    (hr : (Builtin.append_ #[t, t] o.type #[v, v2]).run P w = .ok v' w') (h : wpListIn F n P ops Q rest (a.put o.dst v') w') : wpListIn F n P ops Q (o :: rest) a w :=
  wpListIn_plain hgd fun K hK => by
    unfold Oper.wpIn
    refine ⟨?_, ?_⟩
    · simp [Oper.about, ho, resolve, Target.leads, Sem.run_pure]
    · rw [Oper.semAt_plain F _ _ (by rw [ho]; intro c hc'; cases hc')]
      simp [execOp, ho, resolve, invoke, builtin, hs, hx, hr, Result.andThen]
      exact hK _ _ h
end

/-- The value is a pointer to a box of the call's own, which holds these cells. -/
def BoxAt (base : Nat) (W : World) (v : Value) (t : TypeId) (cs : Array Value) : Prop := ∃ B, v = .pointer (some ⟨B, 0, none⟩) ∧ base ≤ B ∧ W.heap[B]? = some (.cells cs t (0, 0))
theorem BoxAt.mono {base : Nat} {W W' : World} {v : Value} {t : TypeId} {cs : Array Value} (h : BoxAt base W v t cs) (hb : Below W.heap.size W W') : BoxAt base W' v t cs := by
  obtain ⟨B, h1, h2, h3⟩ := h
  exact ⟨B, h1, h2, heap_mono h3 hb⟩
theorem BoxAt.new {base : Nat} {W : World} {t : TypeId} {cs : Array Value} (h : base ≤ W.heap.size) : BoxAt base (W.alloc (.cells cs t)) (.pointer (some ⟨W.heap.size, 0, none⟩)) t cs := ⟨_, rfl, h, World.alloc_heap_new _ _⟩
theorem BoxAt.ne_new {base : Nat} {W : World} {v : Value} {t : TypeId} {cs : Array Value} (h : BoxAt base W v t cs) : .pointer (some ⟨W.heap.size, 0, none⟩) ≠ v := by
  obtain ⟨B, h1, h2, h3⟩ := h
  have := (Array.getElem?_eq_some_iff.1 h3).1
  rintro rfl
  injection h1 with h1
  injection h1 with h1
  injection h1 with h1
  omega

theorem past_set {W : World} {B o : Nat} {u : Value} {k : Nat} {x : Obj} (hk : k ≠ B) (h : W.heap[k]? = some x) : (W.setCell ⟨B, o, none⟩ u).heap[k]? = some x := by
  rw [Below.heap_setCell W _ _ _ hk]; exact h

theorem BoxAt.past {base : Nat} {W W' : World} {v : Value} {t : TypeId} {cs : Array Value} {B : Nat} (h : BoxAt base W v t cs) (hne : v ≠ .pointer (some ⟨B, 0, none⟩)) (hp : ∀ k o, k ≠ B → W.heap[k]? = some o → W'.heap[k]? = some o) : BoxAt base W' v t cs := by
  obtain ⟨C, e1, e2, e3⟩ := h
  have hCB : C ≠ B := by rintro rfl; exact hne e1
  exact ⟨C, e1, e2, hp _ _ hCB e3⟩
theorem BoxAt.put2 {base : Nat} {W : World} {v : Value} {t : TypeId} {x y : Value} {B : Nat} (h1 : v = .pointer (some ⟨B, 0, none⟩)) (h2 : base ≤ B) (h3 : W.heap[B]? = some (.cells #[x, y] t (0, 0))) (x' y' : Value) :
    BoxAt base ((W.setCell ⟨B, 0, none⟩ x').setCell ⟨B, 1, none⟩ y') v t #[x', y'] ∧ (∀ v' t' cs, BoxAt base W v' t' cs → v' ≠ .pointer (some ⟨B, 0, none⟩) → BoxAt base ((W.setCell ⟨B, 0, none⟩ x').setCell ⟨B, 1, none⟩ y') v' t' cs) ∧
    ∀ k o, k ≠ B → W.heap[k]? = some o → ((W.setCell ⟨B, 0, none⟩ x').setCell ⟨B, 1, none⟩ y').heap[k]? = some o := by
  have hp : ∀ k o, k ≠ B → W.heap[k]? = some o → ((W.setCell ⟨B, 0, none⟩ x').setCell ⟨B, 1, none⟩ y').heap[k]? = some o := fun k o hk h => past_set hk (past_set hk h)
  refine ⟨⟨B, h1, h2, ?_⟩, fun v' t' cs h hne => h.past hne hp, hp⟩
  simp only [World.setCell, Array.getElem?_modify, if_true, h3]
  rfl
theorem BoxAt.put3 {base : Nat} {W : World} {v : Value} {t : TypeId} {x y z : Value} {B : Nat} (h1 : v = .pointer (some ⟨B, 0, none⟩)) (h2 : base ≤ B) (h3 : W.heap[B]? = some (.cells #[x, y, z] t (0, 0))) (x' y' z' : Value) :
    BoxAt base (((W.setCell ⟨B, 0, none⟩ x').setCell ⟨B, 1, none⟩ y').setCell ⟨B, 2, none⟩ z') v t #[x', y', z'] ∧ (∀ v' t' cs, BoxAt base W v' t' cs → v' ≠ .pointer (some ⟨B, 0, none⟩) → BoxAt base (((W.setCell ⟨B, 0, none⟩ x').setCell ⟨B, 1, none⟩ y').setCell ⟨B, 2, none⟩ z') v' t' cs) ∧
    ∀ k o, k ≠ B → W.heap[k]? = some o → (((W.setCell ⟨B, 0, none⟩ x').setCell ⟨B, 1, none⟩ y').setCell ⟨B, 2, none⟩ z').heap[k]? = some o := by
  have hp : ∀ k o, k ≠ B → W.heap[k]? = some o → (((W.setCell ⟨B, 0, none⟩ x').setCell ⟨B, 1, none⟩ y').setCell ⟨B, 2, none⟩ z').heap[k]? = some o := fun k o hk h => past_set hk (past_set hk (past_set hk h))
  refine ⟨⟨B, h1, h2, ?_⟩, fun v' t' cs h hne => h.past hne hp, hp⟩
  simp only [World.setCell, Array.getElem?_modify, if_true, h3]
  rfl

/-- The value is a slice of a row of the call's own, which holds these cells. -/
def RowAt (base : Nat) (W : World) (v : Value) (t : TypeId) (cs : Array Value) : Prop := ∃ g, v = .slice (some ⟨g, 0, none⟩) cs.size cs.size ∧ base ≤ g ∧ W.heap[g]? = some (.cells cs t (0, 0))
theorem RowAt.mono {base : Nat} {W W' : World} {v : Value} {t : TypeId} {cs : Array Value} (h : RowAt base W v t cs) (hb : Below W.heap.size W W') : RowAt base W' v t cs := by
  obtain ⟨B, h1, h2, h3⟩ := h
  exact ⟨B, h1, h2, heap_mono h3 hb⟩
theorem RowAt.new {base : Nat} {W : World} {t : TypeId} {cs : Array Value} (h : base ≤ W.heap.size) : RowAt base (W.alloc (.cells cs t)) (.slice (some ⟨W.heap.size, 0, none⟩) cs.size cs.size) t cs := ⟨_, rfl, h, World.alloc_heap_new _ _⟩
theorem RowAt.past {base : Nat} {W W' : World} {v : Value} {t t' : TypeId} {cs cs' : Array Value} {B : Nat} (h : RowAt base W v t cs) (hB : W.heap[B]? = some (.cells cs' t' (0, 0))) (ht : t ≠ t') (hp : ∀ k o, k ≠ B → W.heap[k]? = some o → W'.heap[k]? = some o) : RowAt base W' v t cs := by
  obtain ⟨g, e1, e2, e3⟩ := h
  refine ⟨g, e1, e2, hp _ _ ?_ e3⟩
  rintro rfl
  rw [hB] at e3
  injection e3 with e3
  injection e3 with _ e4
  exact ht e4.symm
/-- A row of numbers reads as the list. -/
theorem RowAt.ints {base : Nat} {W : World} {v : Value} {t : TypeId} {cs : Array Value} {l : List Int} (h : RowAt base W v t cs) (hcs : cs = (l.map (Value.int .i64)).toArray := by rfl) : Ints W v l := by
  subst hcs
  obtain ⟨g, rfl, _, e3⟩ := h
  refine .inr ⟨g, 0, l.length, by simp, Nat.le_refl _, (Array.getElem?_eq_some_iff.1 e3).1, fun i x hi => ?_⟩
  rw [Nat.zero_add, cell_of_heap e3]
  simp [hi]
theorem RowAt.own {base e : Nat} {W : World} {v : Value} {cs : Array Value} (h : RowAt base W v e cs) (hm : cs.size ≤ maxLen) : W.ownsRow base e 1 v cs.size cs.toList := by
  obtain ⟨g, rfl, h2, h3⟩ := h
  exact ⟨by simp, .inr ⟨g, cs.size, cs, rfl, h2, h3, Nat.le_refl _, hm, by simp, by rw [Nat.mul_one, ← Array.length_toList, List.take_length]⟩⟩
/-- A row is no box of another type. -/
theorem own_ne {W : World} {base e size n X : Nat} {v : Value} {xs : List Value} {cs : Array Value} {t : TypeId} (h : W.heap[X]? = some (.cells cs t (0, 0))) (ho : W.ownsRow base e size v n xs) (ht : e ≠ t) : v.ownBlock ≠ some X := by
  rcases ho.2 with ⟨rfl, _⟩ | ⟨g, cap, cur, rfl, _, hg, _⟩
  · simp [Value.ownBlock]
  · intro he
    simp only [Value.ownBlock, Option.some.injEq] at he
    subst he
    rw [h] at hg
    injection hg with hg
    injection hg with _ e4
    exact ht e4.symm

/-- An append to a row of the call's own, as one step of a region that draws its order. -/
theorem step_append_own {P : Program} {ops : Array Oper} {o : Oper} {a : Act} {w : World} {K : Act → World → Prop} {Q : Exit → Act → World → Prop} {E : Prop} (hgd : o.guard = none) (s x : Operand) (t : TypeId)
    (ho : o.op = .call { callee := .builtin .append, args := #[s, x], argTypes := #[t, t] })
    (base : Nat) (e : TypeId) (i : TypeInfo) (z : Value) (size bytes : Nat) (ht : P.underlying t = some (.slice e)) (hi : P.info? e = some i) (hz : i.zero = some z)
    (hsize : i.size = size) (hby : i.bytes = bytes) (hzs : z.cells.size = size) (hsz : 0 < size)
    (v : Value) (n : Nat) (xs : List Value) (hs : a.eval s = v) (hown : w.ownsRow base e size v n xs)
    (ad : Addr) (m c : Nat) (news : List Value) (hx : a.eval x = .slice (some ad) m c) (hl : news.length = m * size) (hnews : ∀ j u, news[j]? = some u → w.cell? (ad.add j) = some u) (h1 : ∀ u ∈ news, u.oneCell' = true)
    (h63 : n + m ≤ maxLen) (hbytes : (n + m) * bytes ≤ 140737488355328) (hbase : base ≤ w.heap.size)
    (h : ∀ v' w', w'.ownsRow base e size v' (n + m) (xs ++ news) → w.grownBy w' v.ownBlock → (v' = .slice none 0 0 ↔ v = .slice none 0 0 ∧ m = 0) → K (a.put o.dst v') w') :
    if Region.wanted o (yielded ops a.tmps) = true then Oper.wp P o a w K Q else E := by
  have hw : Region.wanted o (yielded ops a.tmps) = true := by simp [Region.wanted, hgd]
  rw [if_pos hw]
  exact wp_append_own w s x t ho base e i z size bytes ht hi hz hsize hby hzs hsz v n xs hs hown ad m c news hx hl hnews h1 h63 hbytes hbase h
/-- A row of the call's own reads as the list. -/
theorem ints_own {w : World} {base e n : Nat} {v : Value} {l : List Int} (hl : l.length = n) (h : w.ownsRow base e 1 v n (l.map (Value.int .i64))) : Ints w v l := by
  subst hl
  rcases h.2 with ⟨rfl, h0⟩ | ⟨g, cap, cur, rfl, _, hg, hc, _, _, ht⟩
  · exact .inl ⟨rfl, List.eq_nil_of_length_eq_zero h0⟩
  · refine .inr ⟨g, 0, cap, rfl, hc, (Array.getElem?_eq_some_iff.1 hg).1, fun i x hx => ?_⟩
    have h2 := h.cells (g := g) rfl i (.int .i64 x) (by rw [List.getElem?_map, hx]; rfl)
    rw [Addr.add_lit] at h2
    exact h2
/-- A row of the call's own is a slice. -/
theorem own_slice {w : World} {base e n : Nat} {v : Value} {l : List Value} (h : w.ownsRow base e 1 v n l) : ∃ A c, v = .slice A n c := by
  rcases h.2 with ⟨rfl, h0⟩ | ⟨g, cap, cur, rfl, _⟩
  · subst h0; exact ⟨none, 0, rfl⟩
  · exact ⟨_, _, rfl⟩
/-- A block that is no part of the row stays. -/
theorem keep_other {W W' : World} {base e size n X : Nat} {v : Value} {xs : List Value} {cs : Array Value} {t : TypeId} (h : W.heap[X]? = some (.cells cs t (0, 0))) (ho : W.ownsRow base e size v n xs) (ht : e ≠ t) (hg : W.grownBy W' v.ownBlock) : W'.heap[X]? = some (.cells cs t (0, 0)) := by
  rw [hg.block X (Array.getElem?_eq_some_iff.1 h).1 (fun q => own_ne h ho ht q.symm)]
  exact h
/-- A store into such a block leaves the row. -/
theorem own_set_other {W : World} {base e size n X : Nat} {v : Value} {xs : List Value} {cs : Array Value} {t : TypeId} (h : W.heap[X]? = some (.cells cs t (0, 0))) (ho : W.ownsRow base e size v n xs) (ht : e ≠ t) (o : Nat) (u : Value) : (W.setCell ⟨X, o, none⟩ u).ownsRow base e size v n xs :=
  ho.kept (grown_set W X o u) (.inr (own_ne h ho ht))
section
variable {P : Program} {Q : Exit → Act → World → Prop}
theorem wp_region_vals0 {id : Nat} {a : Act} {w : World} {l : List Oper} (w0 : World) (hb0 : Below w0.heap.size w0 w) (ds : List Nat) (F : (Nat → Bool) → (Nat → Value) → World → Prop) (hm : P.follows .mixedOrders = true) (hB : backB .any l.toArray = true)
    (hds : (l.all fun o => match o.dst with | none => true | some d => ds.contains d) = true) (hz : (ds.all fun d => decide (d < a.tmps.size)) = true)
    (h0 : F (fun _ => false) (valsOf a) w.drew)
    (hs : ∀ i o, l[i]? = some o → ∀ (seen : Nat → Bool) (a' : Act) w', Below w0.heap.size w0 w' → F seen (valsOf a') w' → (∀ s, s ∉ ds → valsOf a' s = valsOf a s) → seen i = false → (∀ e ∈ o.after, Region.binds .any e = true → seen e.on = true) →
      o.wp P a' w' (fun a'' w'' => ∃ v, a'' = a'.put o.dst v ∧ Below w0.heap.size w0 w'' ∧ F (fun j => if j = i then true else seen j) (fun s => if o.dst = some s then v else valsOf a' s) w'') Q)
    (hend : ∀ (u : Nat → Value) w', Below w0.heap.size w0 w' → (∀ seen : Nat → Bool, (∀ i, i < l.length → seen i = true) → F seen u w' → Q .normal { a with tmps := setAll u ds a.tmps } w')) : (Code.region id l.toArray true).wp P Q a w := by
  have hz' : ∀ d ∈ ds, d < a.tmps.size := fun d hd => by simpa using List.all_eq_true.mp hz d hd
  refine wp_region_inv (fun seen a' w' => Below w0.heap.size w0 w' ∧ a'.tmps.size = a.tmps.size ∧ a'.defers = a.defers ∧ (∀ s, s ∉ ds → valsOf a' s = valsOf a s) ∧ F (fun i => seen.getD i false) (valsOf a') w') hm hB ⟨bl_drew hb0, rfl, rfl, fun _ _ => rfl, ?_⟩ ?_ ?_
  · have e : (fun i => (Array.replicate l.toArray.size false).getD i false) = fun _ => false := by
      funext i
      simp only [Array.getD]
      split <;> simp
    rw [e]; exact h0
  · rintro i o ho seen a' w' ⟨hb, hsz, hdf, hv, hF⟩ hzs hsi hdep
    have ho' : l[i]? = some o := by simpa using ho
    have hsi' : seen.getD i false = false := by
      have hlt := (Array.getElem?_eq_some_iff.1 ho).1
      simp only [Array.getD, hzs, hlt, dite_true] at hsi ⊢
      exact hsi
    refine Oper.wp_mono ?_ (hs i o ho' (fun i => seen.getD i false) a' w' hb hF hv hsi' hdep)
    rintro a'' w'' ⟨v, rfl, hb', hF'⟩
    have hlt := (Array.getElem?_eq_some_iff.1 ho).1
    have hseen : (fun j => (seen.setIfInBounds i true).getD j false) = fun j => if j = i then true else seen.getD j false := by
      funext j
      by_cases e : j = i
      · subst e
        have : j < seen.size := by rw [hzs]; exact hlt
        simp [this]
      · simp [Ne.symm e, e]
    rw [hseen]
    cases hd : o.dst with
    | none =>
      rw [hd] at hF'
      refine ⟨hb', hsz, hdf, hv, ?_⟩
      simpa [Act.put] using hF'
    | some d =>
      have hmem : d ∈ ds := by
        have := List.all_eq_true.mp hds o (List.mem_of_getElem? ho')
        simpa [hd] using this
      have hvals : valsOf (a'.put (some d) v) = fun s => if (some d : Option Nat) = some s then v else valsOf a' s := by
        funext s
        simp only [valsOf, Act.put]
        rw [getD_set _ _ _ _ (by rw [hsz]; exact hz' d hmem)]
        simp
      refine ⟨hb', by simpa [Act.put] using hsz, hdf, fun s hs => ?_, ?_⟩
      · rw [hvals]
        have : ¬ ((some d : Option Nat) = some s) := by rintro ⟨⟩; exact hs hmem
        simp only [this, if_false]
        exact hv s hs
      · rw [hvals, ← hd]; exact hF'
  · rintro a' w' ⟨hb, hsz, hdf, hv, hF⟩
    rw [vals_ext hsz hdf hz' hv]
    refine hend _ _ hb _ (fun i hi => ?_) hF
    simp [hi]

theorem wp_append_run {w : World} {o : Oper} {a : Act} {K : Act → World → Prop} (s x : Operand) (t : TypeId)
    (ho : o.op = .call { callee := .builtin .append, args := #[s, x], argTypes := #[t, t] }) (v v2 v' : Value) (w' : World) (hs : a.eval s = v) (hx : a.eval x = v2)
    (hr : (Builtin.append_ #[t, t] o.type #[v, v2]).run P w = .ok v' w') (h : K (a.put o.dst v') w') : o.wp P a w K Q := by
  unfold Oper.wp execOp
  simp only [ho, resolve, invoke, builtin, Sem.run_bind, Sem.run_pure, Result.andThen_ok, List.map_toArray, List.map_cons, List.map_nil, hs, hx, hr]
  exact h
end


end Go.Proofs.Ytlkoadcbolkhoaa
