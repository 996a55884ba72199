/- Regions with guards that draw their order; ranges over a function in a loop: the marks they leave, and what the body keeps for the iterator. -/
import Derived.Test.YtlkoadcbolkhoaaKit
set_option linter.all false
namespace Go.Proofs.Ytlkoadcbolkhoaa
open Go Go.RowKit Go.Proofs

/-! ### Guards -/
/-- No operation waits for a later one. -/
def backG (md : Region.Mode) (ops : Array Oper) : Bool :=
  (List.range ops.size).all fun i => match ops[i]? with
    | none => false
    | some o => o.after.all fun e => !Region.binds md e || decide (e.on < i)
section
variable {P : Program} {md : Region.Mode} {ops : Array Oper} {Q : Exit → Act → World → Prop}
theorem readyG_nil (hB : backG md ops = true) {seen : Array Bool} (hz : seen.size = ops.size) (h : Region.ready md ops seen = []) : ∀ i, i < ops.size → seen.getD i false = true := by
  intro i
  induction i using Nat.strongRecOn with
  | _ i ih =>
    intro hi
    cases hs : seen.getD i false with
    | true => rfl
    | false =>
      exfalso
      have hb := List.all_eq_true.mp hB i (by simpa using hi)
      have ho : ops[i]? = some ops[i] := by simp [hi]
      simp only [ho, Array.all_eq_true'] at hb
      have : i ∈ Region.ready md ops seen := mem_ready.2 ⟨by simp only [Array.getD, hz, hi, dite_true] at hs ⊢; exact hs, ops[i], ho, fun e he hbi => by
        have := hb e he
        simp only [hbi, Bool.not_true, Bool.false_or, decide_eq_true_eq] at this
        exact ih _ this (by omega)⟩
      rw [h] at this
      cases this
theorem wpAny_invG {Inv : Array Bool → Act → World → Prop} (hB : backG md ops = true)
    (hs : ∀ i o, ops[i]? = some o → ∀ seen a w, Inv seen a w → seen.size = ops.size → seen.getD i true = false → (∀ e ∈ o.after, Region.binds md e = true → seen.getD e.on false = true) →
      if Region.wanted o (yielded ops a.tmps) = true then o.wp P a w (fun a' w' => Inv (seen.setIfInBounds i true) a' w') Q else Inv (seen.setIfInBounds i true) (a.put o.dst undef) w)
    (hend : ∀ a w, Inv (Array.replicate ops.size true) a w → Q .normal a w) :
    ∀ (f : Nat) (seen : Array Bool) (a : Act) (w : World), seen.size = ops.size → (seen.toList.count false) ≤ f → Inv seen a w → wpAny P md ops Q f seen a w := by
  have hall : ∀ seen : Array Bool, seen.size = ops.size → (∀ i, i < ops.size → seen.getD i false = true) → seen = Array.replicate ops.size true := by
    intro seen hz h
    apply Array.ext
    · simp [hz]
    · intro i h1 h2
      have := h i (by omega)
      simp only [Array.getD, h1, dite_true] at this
      rw [Array.getElem_replicate]
      exact this
  intro f
  induction f with
  | zero =>
    intro seen a w hz hc hi
    have hT : ∀ i, i < ops.size → seen.getD i false = true := by
      intro i hlt
      have h0 : seen.toList.count false = 0 := by omega
      have := List.count_eq_zero.mp h0
      cases hs : seen.getD i false with
      | true => rfl
      | false =>
        exfalso
        apply this
        simp only [Array.getD, hz, hlt, dite_true] at hs
        rw [← hs]
        exact Array.getElem_mem_toList (by omega)
    refine ⟨?_, ?_⟩
    · cases h : Region.ready md ops seen with
      | nil => rfl
      | cons j r =>
        have hj : j ∈ Region.ready md ops seen := by rw [h]; exact List.mem_cons_self
        obtain ⟨h1, o, ho, _⟩ := mem_ready.1 hj
        have hlt := (Array.getElem?_eq_some_iff.1 ho).1
        have h2 := hT j hlt
        simp only [Array.getD, hz, hlt, dite_true] at h1 h2
        rw [h1] at h2
        cases h2
    · rw [hall seen hz hT] at hi
      exact hend a w hi
  | succ f ih =>
    intro seen a w hz hc hi
    refine ⟨fun h => ?_, fun i hr => ?_⟩
    · rw [hall seen hz (readyG_nil hB hz h)] at hi
      exact hend a w hi
    · obtain ⟨h1, o, ho, hall⟩ := mem_ready.1 hr
      have hlt := (Array.getElem?_eq_some_iff.1 ho).1
      have hlt' : i < seen.toList.length := by simpa [hz] using hlt
      have hf : seen.toList[i] = false := by
        simp only [Array.getD, hz, hlt, dite_true] at h1
        simpa using h1
      have hcnt : (seen.setIfInBounds i true).toList.count false ≤ f := by
        rw [Array.toList_setIfInBounds, count_drop _ _ hf]
        omega
      have hst := hs i o ho seen a w hi hz h1 hall
      unfold wpOp
      simp only [ho]
      by_cases hw : Region.wanted o (yielded ops a.tmps) = true
      · rw [if_pos hw] at hst ⊢
        exact .inl (Oper.wp_mono (fun a' w' h => ih _ _ _ (by simpa using hz) hcnt h) hst)
      · rw [if_neg hw] at hst ⊢
        exact ih _ _ _ (by simpa using hz) hcnt hst
theorem wp_region_valsG {id : Nat} {a : Act} {w : World} {l : List Oper} (w0 : World) (hb0 : Below w0.heap.size w0 w) (ds : List Nat) (F : (Nat → Bool) → (Nat → Value) → World → Prop) (hm : P.follows .mixedOrders = true) (hB : backG .any l.toArray = true)
    (hds : (l.all fun o => match o.dst with | none => true | some d => ds.contains d) = true) (hz : (ds.all fun d => decide (d < a.tmps.size)) = true)
    (h0 : F (fun _ => false) (valsOf a) w.drew)
    (hs : ∀ i o, l[i]? = some o → ∀ (seen : Nat → Bool) (a' : Act) w', Below w0.heap.size w0 w' → F seen (valsOf a') w' → (∀ s, s ∉ ds → valsOf a' s = valsOf a s) → seen i = false → (∀ e ∈ o.after, Region.binds .any e = true → seen e.on = true) →
      if Region.wanted o (yielded l.toArray a'.tmps) = true then o.wp P a' w' (fun a'' w'' => ∃ v, a'' = a'.put o.dst v ∧ Below w0.heap.size w0 w'' ∧ F (fun j => if j = i then true else seen j) (fun s => if o.dst = some s then v else valsOf a' s) w'') Q
      else F (fun j => if j = i then true else seen j) (fun s => if o.dst = some s then undef else valsOf a' s) w')
    (hend : ∀ (u : Nat → Value) w', Below w0.heap.size w0 w' → (∀ seen : Nat → Bool, (∀ i, i < l.length → seen i = true) → F seen u w' → Q .normal { a with tmps := setAll u ds a.tmps } w')) : (Code.region id l.toArray true).wp P Q a w := by
  have hz' : ∀ d ∈ ds, d < a.tmps.size := fun d hd => by simpa using List.all_eq_true.mp hz d hd
  refine wp_region_any hm (wpAny_invG (Inv := fun seen a' w' => Below w0.heap.size w0 w' ∧ a'.tmps.size = a.tmps.size ∧ a'.defers = a.defers ∧ (∀ s, s ∉ ds → valsOf a' s = valsOf a s) ∧ F (fun i => seen.getD i false) (valsOf a') w') hB ?_ ?_ _ _ _ _ (by simp) (by simp) ⟨bl_drew hb0, rfl, rfl, fun _ _ => rfl, ?_⟩)
  · rintro i o ho seen a' w' ⟨hb, hsz, hdf, hv, hF⟩ hzs hsi hdep
    have ho' : l[i]? = some o := by simpa using ho
    have hsi' : seen.getD i false = false := by
      have hlt := (Array.getElem?_eq_some_iff.1 ho).1
      simp only [Array.getD, hzs, hlt, dite_true] at hsi ⊢
      exact hsi
    have hlt := (Array.getElem?_eq_some_iff.1 ho).1
    have hseen : (fun j => (seen.setIfInBounds i true).getD j false) = fun j => if j = i then true else seen.getD j false := by
      funext j
      by_cases e : j = i
      · subst e
        have : j < seen.size := by rw [hzs]; exact hlt
        simp [this]
      · simp [Ne.symm e, e]
    have fin : ∀ (v : Value) (w'' : World), Below w0.heap.size w0 w'' → F (fun j => if j = i then true else seen.getD j false) (fun s => if o.dst = some s then v else valsOf a' s) w'' →
        Below w0.heap.size w0 w'' ∧ (a'.put o.dst v).tmps.size = a.tmps.size ∧ (a'.put o.dst v).defers = a.defers ∧ (∀ s, s ∉ ds → valsOf (a'.put o.dst v) s = valsOf a s) ∧ F (fun j => (seen.setIfInBounds i true).getD j false) (valsOf (a'.put o.dst v)) w'' := fun v w'' hb' hF' => by
      rw [hseen]
      cases hd : o.dst with
      | none =>
        rw [hd] at hF'
        refine ⟨hb', hsz, hdf, hv, ?_⟩
        simpa [Act.put] using hF'
      | some d =>
        have hmem : d ∈ ds := by
          have := List.all_eq_true.mp hds o (List.mem_of_getElem? ho')
          simpa [hd] using this
        have hvals : valsOf (a'.put (some d) v) = fun s => if (some d : Option Nat) = some s then v else valsOf a' s := by
          funext s
          simp only [valsOf, Act.put]
          rw [getD_set _ _ _ _ (by rw [hsz]; exact hz' d hmem)]
          simp
        refine ⟨hb', by simpa [Act.put] using hsz, hdf, fun s hs => ?_, ?_⟩
        · rw [hvals]
          have : ¬ ((some d : Option Nat) = some s) := by rintro ⟨⟩; exact hs hmem
          simp only [this, if_false]
          exact hv s hs
        · rw [hvals, ← hd]; exact hF'
    have hst := hs i o ho' (fun i => seen.getD i false) a' w' hb hF hv hsi' hdep
    by_cases hw : Region.wanted o (yielded l.toArray a'.tmps) = true
    · rw [if_pos hw] at hst ⊢
      refine Oper.wp_mono ?_ hst
      rintro a'' w'' ⟨v, rfl, hb', hF'⟩
      exact fin v w'' hb' hF'
    · rw [if_neg hw] at hst ⊢
      exact fin undef w' hb hst
  · rintro a' w' ⟨hb, hsz, hdf, hv, hF⟩
    rw [vals_ext hsz hdf hz' hv]
    refine hend _ _ hb _ (fun i hi => ?_) hF
    simp [hi]
  · have e : (fun i => (Array.replicate l.toArray.size false).getD i false) = fun _ => false := by
      funext i
      simp only [Array.getD]
      split <;> simp
    rw [e]; exact h0
theorem wanted_none {o : Oper} {y : Nat → Option Bool} (h : o.guard = none) : Region.wanted o y = true := by simp [Region.wanted, h]
theorem yield_at {l : List Oper} {j d : Nat} {oj : Oper} {g : Bool} {a' : Act} (hj : l[j]? = some oj) (hd : oj.dst = some d) (hv : valsOf a' d = .bool g) : yielded l.toArray a'.tmps j = some g := by
  have hd2 : a'.tmps[d]? = some (.bool g) := by
    unfold valsOf at hv
    rw [Array.getD_eq_getD_getElem?] at hv
    cases hk : a'.tmps[d]? with
    | none => rw [hk] at hv; cases hv
    | some x => rw [hk] at hv; simp at hv; rw [hv]
  simp [yielded, hj, hd, hd2]
theorem wanted_at {l : List Oper} {o oj : Oper} {j d : Nat} {b g : Bool} {a' : Act} (hg : o.guard = some (j, b)) (hj : l[j]? = some oj) (hd : oj.dst = some d) (hv : valsOf a' d = .bool g) : Region.wanted o (yielded l.toArray a'.tmps) = (g == b) := by
  unfold Region.wanted
  rw [hg]
  simp only
  rw [yield_at hj hd hv]
  cases g <;> cases b <;> rfl
end

/-! ### The marks that loops over a function leave -/
/-- Blocks for deferred calls have been taken. -/
inductive Turned (base : Nat) : World → World → Prop
  | refl (W : World) : Turned base W W
  | step {W W' : World} {D : Nat} : Turned base W W' → base ≤ D → W'.heap[D]? = some (.deferred (some [])) → Turned base W (W'.putObj D (.deferred none))
theorem put_other {W : World} {k D : Nat} {x o : Obj} (h : W.heap[k]? = some x) (hD : W.heap[D]? = some (.deferred (some []))) (hx : ∀ z, x ≠ .deferred z) : (W.putObj D o).heap[k]? = some x := by
  have hne : D ≠ k := by
    rintro rfl
    rw [hD] at h
    injection h with h
    exact hx _ h.symm
  exact (World.putObj_heap_other hne.symm).trans h
theorem Turned.keep {base : Nat} {W W' : World} (h : Turned base W W') {k : Nat} {x : Obj} (hk : W.heap[k]? = some x) (hx : ∀ z, x ≠ .deferred z) : W'.heap[k]? = some x := by
  induction h with
  | refl => exact hk
  | step _ _ hD ih => exact put_other ih hD hx
theorem Turned.cells {base : Nat} {W W' : World} (h : Turned base W W') {k : Nat} {cs : Array Value} {t : TypeId} {p : Nat × Nat} (hk : W.heap[k]? = some (.cells cs t p)) : W'.heap[k]? = some (.cells cs t p) := h.keep hk fun z e => by cases e
theorem Turned.bl {base : Nat} {w W W' : World} (h : Turned base W W') (hb : Below w.heap.size w W) (hbase : w.heap.size ≤ base) : Below w.heap.size w W' := by
  induction h with
  | refl => exact hb
  | step _ hl _ ih => exact below_put ih (by omega)
/-- The marks: blocks that hold no deferred call, each once. -/
def MarksOk (base : Nat) (W : World) : List Deferred → Prop
  | [] => True
  | d :: ds => (∃ D, d = { target := .collected D, args := #[] } ∧ base ≤ D ∧ W.heap[D]? = some (.deferred (some [])) ∧ ∀ E, ({ target := .collected E, args := #[] } : Deferred) ∈ ds → E ≠ D) ∧ MarksOk base W ds
theorem MarksOk.keep {base : Nat} {W W' : World} : ∀ {ds : List Deferred}, MarksOk base W ds → (∀ D : Nat, W.heap[D]? = some (Obj.deferred (some [])) → W'.heap[D]? = some (Obj.deferred (some []))) → MarksOk base W' ds
  | [], _, _ => trivial
  | _ :: _, ⟨⟨D, h1, h2, h3, h4⟩, h5⟩, hk => ⟨⟨D, h1, h2, hk D h3, h4⟩, h5.keep hk⟩
theorem MarksOk.mono {base : Nat} {W W' : World} {ds : List Deferred} (h : MarksOk base W ds) (hb : Below W.heap.size W W') : MarksOk base W' ds := h.keep fun _ hD => heap_mono hD hb
theorem MarksOk.set {base : Nat} {W : World} {ds : List Deferred} (h : MarksOk base W ds) (a : Addr) (v : Value) : MarksOk base (W.setCell a v) ds := h.keep fun _ hD => book_set hD rfl a v
theorem MarksOk.put {base : Nat} {W : World} {ds : List Deferred} (h : MarksOk base W ds) {r : Nat} {x o : Obj} (hr : W.heap[r]? = some x) (hx : ∀ z, x ≠ .deferred z) : MarksOk base (W.putObj r o) ds := h.keep fun D hD => by
  have hne : r ≠ D := by
    rintro rfl
    rw [hr] at hD
    injection hD with hD
    exact hx _ hD
  exact (World.putObj_heap_other hne.symm).trans hD
theorem MarksOk.lt {base : Nat} {W : World} : ∀ {ds : List Deferred}, MarksOk base W ds → ∀ E, ({ target := .collected E, args := #[] } : Deferred) ∈ ds → E < W.heap.size
  | [], _, _, h => by simp at h
  | d :: ds, ⟨⟨D, h1, _, h3, _⟩, h5⟩, E, h => by
    rcases List.mem_cons.1 h with h | h
    · rw [h1] at h
      injection h with h
      injection h with h
      subst h
      exact (Array.getElem?_eq_some_iff.1 h3).1
    · exact h5.lt E h
theorem MarksOk.push {base : Nat} {w W : World} {ds : List Deferred} (h0 : MarksOk base w ds) (h : MarksOk base W ds) {D : Nat} (hD : w.heap.size ≤ D) (hb : base ≤ D) (hk : W.heap[D]? = some (.deferred (some []))) : MarksOk base W ({ target := .collected D, args := #[] } :: ds) :=
  ⟨⟨D, rfl, hb, hk, fun E hE => by have := h0.lt E hE; omega⟩, h⟩
section
variable {P : Program}
/-- A function is left that leaves such marks. -/
theorem leave_many {fn : Func} {R : Ending → World → Prop} {v : Value} {base : Nat} : ∀ (ds : List Deferred) {a : Act} {W W0 : World}, a.defers = ds → MarksOk base W ds → Turned base W0 W →
    (∀ W', Turned base W0 W' → (results fn a.tmps).run P W' = .ok v W' ∧ R (.returned v) W') → bodyPostM Fence.wide 3 P fn R .ret a W
  | [], a, W, W0, hd, _, hT, hR => leave_nil (hR W hT).1 hd (hR W hT).2
  | d :: ds, a, W, W0, hd, hM, hT, hR => by
    obtain ⟨⟨D, h1, h2, h3, h4⟩, h5⟩ := hM
    show LeavesInM _ _ _ _ _ _ a.defers _ _
    rw [hd]
    refine ⟨by simp, .inl ⟨D, W.putObj D (.deferred none), by rw [h1], run_takeDeferred h3, ?_⟩⟩
    have hM' : MarksOk base (W.putObj D (.deferred none)) ds := by
      have key : ∀ (es : List Deferred), (∀ E, ({ target := .collected E, args := #[] } : Deferred) ∈ es → E ≠ D) → MarksOk base W es → MarksOk base (W.putObj D (.deferred none)) es := by
        intro es
        induction es with
        | nil => intro _ _; trivial
        | cons e es ih =>
          rintro hne ⟨⟨E, e1, e2, e3, e4⟩, e5⟩
          have hED : E ≠ D := hne E (by rw [e1]; exact List.mem_cons_self)
          exact ⟨⟨E, e1, e2, (World.putObj_heap_other hED).trans e3, e4⟩, ih (fun F hF => hne F (List.mem_cons_of_mem _ hF)) e5⟩
      exact key ds h4 h5
    have := leave_many ds (a := { a with defers := ds }) (W := W.putObj D (.deferred none)) (W0 := W0) rfl hM' (hT.step h2 h3) hR
    exact this
end

end Go.Proofs.Ytlkoadcbolkhoaa
