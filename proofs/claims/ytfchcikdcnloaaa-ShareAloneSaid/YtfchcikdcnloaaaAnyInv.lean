/- A region that draws its order, by an invariant over what has come up: each operation is walked once, whatever came ahead of it. -/
import Derived.Test.YtfchcikdcnloaaaTail
namespace Go.Proofs.Ytfchcikdcnloaaa
open Go Go.RowKit Go.Proofs

/-- No guards, and no operation waits for a later one. -/
def backB (md : Region.Mode) (ops : Array Oper) : Bool :=
  (List.range ops.size).all fun i => match ops[i]? with
    | none => false
    | some o => o.guard.isNone && o.after.all fun e => !Region.binds md e || decide (e.on < i)

theorem bl_drew' (w : World) : Below w.heap.size w w.drew := (Below.refl _ _).drew
theorem count_drop : ∀ (l : List Bool) (i : Nat) {h : i < l.length}, l[i] = false → (l.set i true).count false = l.count false - 1
  | [], i, h, _ => by simp at h
  | b :: l, 0, _, e => by simp at e; subst e; simp
  | b :: l, i + 1, h, e => by
    have h' : i < l.length := by simpa using h
    have e' : l[i] = false := by simpa using e
    have := count_drop l i (h := h') e'
    have hp : 0 < l.count false := List.count_pos_iff.2 (by rw [← e']; exact List.getElem_mem h')
    cases b <;> simp [this]
    omega

section
variable {P : Program} {md : Region.Mode} {ops : Array Oper} {Q : Exit → Act → World → Prop}

theorem ready_nil (hB : backB md ops = true) {seen : Array Bool} (hz : seen.size = ops.size) (h : Region.ready md ops seen = []) : ∀ i, i < ops.size → seen.getD i false = true := by
  intro i
  induction i using Nat.strongRecOn with
  | _ i ih =>
    intro hi
    cases hs : seen.getD i false with
    | true => rfl
    | false =>
      exfalso
      have hb := List.all_eq_true.mp hB i (by simpa using hi)
      have ho : ops[i]? = some ops[i] := by simp [hi]
      simp only [ho, Bool.and_eq_true, Array.all_eq_true'] at hb
      have : i ∈ Region.ready md ops seen := mem_ready.2 ⟨by simp only [Array.getD, hz, hi, dite_true] at hs ⊢; exact hs, ops[i], ho, fun e he hbi => by
        have := hb.2 e he
        simp only [hbi, Bool.not_true, Bool.false_or, decide_eq_true_eq] at this
        exact ih _ this (by omega)⟩
      rw [h] at this
      cases this

theorem wpAny_inv {Inv : Array Bool → Act → World → Prop} (hB : backB md ops = true)
    (hs : ∀ i o, ops[i]? = some o → ∀ seen a w, Inv seen a w → seen.size = ops.size → seen.getD i true = false → (∀ e ∈ o.after, Region.binds md e = true → seen.getD e.on false = true) → o.wp P a w (fun a' w' => Inv (seen.setIfInBounds i true) a' w') Q)
    (hend : ∀ a w, Inv (Array.replicate ops.size true) a w → Q .normal a w) :
    ∀ (f : Nat) (seen : Array Bool) (a : Act) (w : World), seen.size = ops.size → (seen.toList.count false) ≤ f → Inv seen a w → wpAny P md ops Q f seen a w := by
  have hall : ∀ seen : Array Bool, seen.size = ops.size → (∀ i, i < ops.size → seen.getD i false = true) → seen = Array.replicate ops.size true := by
    intro seen hz h
    apply Array.ext
    · simp [hz]
    · intro i h1 h2
      have := h i (by omega)
      simp only [Array.getD, h1, dite_true] at this
      rw [Array.getElem_replicate]
      exact this
  intro f
  induction f with
  | zero =>
    intro seen a w hz hc hi
    have hT : ∀ i, i < ops.size → seen.getD i false = true := by
      intro i hlt
      have h0 : seen.toList.count false = 0 := by omega
      have := List.count_eq_zero.mp h0
      cases hs : seen.getD i false with
      | true => rfl
      | false =>
        exfalso
        apply this
        simp only [Array.getD, hz, hlt, dite_true] at hs
        rw [← hs]
        exact Array.getElem_mem_toList (by omega)
    refine ⟨?_, ?_⟩
    · cases h : Region.ready md ops seen with
      | nil => rfl
      | cons j r =>
        have hj : j ∈ Region.ready md ops seen := by rw [h]; exact List.mem_cons_self
        obtain ⟨h1, o, ho, _⟩ := mem_ready.1 hj
        have hlt := (Array.getElem?_eq_some_iff.1 ho).1
        have h2 := hT j hlt
        simp only [Array.getD, hz, hlt, dite_true] at h1 h2
        rw [h1] at h2
        cases h2
    · rw [hall seen hz hT] at hi
      exact hend a w hi
  | succ f ih =>
    intro seen a w hz hc hi
    refine ⟨fun h => ?_, fun i hr => ?_⟩
    · rw [hall seen hz (ready_nil hB hz h)] at hi
      exact hend a w hi
    · obtain ⟨h1, o, ho, hall⟩ := mem_ready.1 hr
      have hlt := (Array.getElem?_eq_some_iff.1 ho).1
      have hb := List.all_eq_true.mp hB i (by simpa using hlt)
      simp only [ho, Bool.and_eq_true] at hb
      have hgn : o.guard = none := by simpa using hb.1
      unfold wpOp
      simp only [ho, Region.wanted, hgn, if_true]
      refine .inl (Oper.wp_mono (fun a' w' h => ih _ _ _ (by simpa using hz) ?_ h) (hs i o ho seen a w hi hz h1 hall))
      have hlt' : i < seen.toList.length := by simpa [hz] using hlt
      have hf : seen.toList[i] = false := by
        simp only [Array.getD, hz, hlt, dite_true] at h1
        simpa using h1
      rw [Array.toList_setIfInBounds, count_drop _ _ hf]
      omega

theorem wp_region_inv {id : Nat} {a : Act} {w : World} {l : List Oper} (Inv : Array Bool → Act → World → Prop) (hm : P.follows .mixedOrders = true) (hB : backB .any l.toArray = true)
    (h0 : Inv (Array.replicate l.toArray.size false) a w.drew)
    (hs : ∀ i o, l.toArray[i]? = some o → ∀ seen a w, Inv seen a w → seen.size = l.toArray.size → seen.getD i true = false → (∀ e ∈ o.after, Region.binds .any e = true → seen.getD e.on false = true) → o.wp P a w (fun a' w' => Inv (seen.setIfInBounds i true) a' w') Q)
    (hend : ∀ a w, Inv (Array.replicate l.toArray.size true) a w → Q .normal a w) : (Code.region id l.toArray true).wp P Q a w :=
  wp_region_any hm (wpAny_inv hB hs hend _ _ _ _ (by simp) (by simp) h0)

/-- The values of all slots. -/
def valsOf (a : Act) (s : Nat) : Value := a.tmps.getD s undef
def setAll (u : Nat → Value) : List Nat → Array Value → Array Value
  | [], t => t
  | d :: ds, t => setAll u ds (t.setIfInBounds d (u d))

theorem getD_set (t : Array Value) (d s : Nat) (v : Value) (hd : d < t.size) : (t.setIfInBounds d v).getD s undef = if d = s then v else t.getD s undef := by
  by_cases e : d = s
  · subst e; simp [hd]
  · simp [e]

theorem setAll_size (u : Nat → Value) : ∀ (ds : List Nat) (t : Array Value), (setAll u ds t).size = t.size
  | [], t => rfl
  | d :: ds, t => by rw [setAll, setAll_size u ds]; simp

theorem setAll_getD (u : Nat → Value) : ∀ (ds : List Nat) (t : Array Value), (∀ d ∈ ds, d < t.size) → ∀ s, (setAll u ds t).getD s undef = if s ∈ ds then u s else t.getD s undef
  | [], t, _, s => by simp [setAll]
  | d :: ds, t, h, s => by
    rw [setAll, setAll_getD u ds _ (fun e he => by simpa using h e (List.mem_cons_of_mem _ he)) s, getD_set _ _ _ _ (h d List.mem_cons_self)]
    by_cases hs : s ∈ ds
    · simp [hs]
    · by_cases e : d = s
      · subst e; simp
      · simp [hs, e, Ne.symm e]

theorem vals_ext {A a : Act} {ds : List Nat} (hz : a.tmps.size = A.tmps.size) (hd : a.defers = A.defers) (hds : ∀ d ∈ ds, d < A.tmps.size) (h : ∀ s, s ∉ ds → valsOf a s = valsOf A s) : a = { A with tmps := setAll (valsOf a) ds A.tmps } := by
  obtain ⟨t, df⟩ := a
  obtain ⟨T, Df⟩ := A
  simp only at hd hz
  subst hd
  simp only [Act.mk.injEq, and_true]
  apply Array.ext
  · rw [setAll_size]; exact hz
  · intro i h1 h2
    have e := setAll_getD (valsOf ⟨t, df⟩) ds T hds i
    have e2 : valsOf ⟨t, df⟩ i = t[i] := by show t.getD i undef = t[i]; simp [h1]
    have e3 : (setAll (valsOf ⟨t, df⟩) ds T).getD i undef = (setAll (valsOf ⟨t, df⟩) ds T)[i] := by simp [h2]
    rw [e3] at e
    rw [e]
    show t[i] = _
    rw [← e2]
    split
    · rfl
    · exact h i (by assumption)

theorem wp_value {o : Oper} {a : Act} {w w' : World} {K : Act → World → Prop} (v : Value) (hr : (execOp a.eval o).run P w = .ok (.value v) w') (hK : K (a.put o.dst v) w') : o.wp P a w K Q := by
  unfold Oper.wp
  rw [hr]
  exact hK
theorem wp_effect {o : Oper} {a : Act} {w w' : World} {K : Act → World → Prop} (hr : (execOp a.eval o).run P w = .ok .skip w') (hK : K (a.put o.dst undef) w') : o.wp P a w K Q := by
  unfold Oper.wp
  rw [hr]
  exact hK
theorem wp_calls {o : Oper} {a : Act} {w w' : World} {K : Act → World → Prop} {f : Nat} {args : Array Value} {R : Ending → World → Prop} (hr : (execOp a.eval o).run P w = .ok (.enter f args) w') (hc : Calls P f args w' R) (hK : ∀ e w'', R e w'' → ∃ v, e = .returned v ∧ K (a.put o.dst v) w'') : o.wp P a w K Q := by
  unfold Oper.wp
  rw [hr]
  refine Calls.mono hc ?_
  intro e w'' h
  obtain ⟨v, rfl, hk⟩ := hK e w'' h
  exact hk
theorem val_at {a : Act} {s : Nat} {v : Value} (h : valsOf a s = v) : a.tmps[s]?.getD undef = v := by simpa [valsOf] using h
theorem eval_tmp (a : Act) (t : Nat) : a.eval (.tmp t) = valsOf a t := rfl
theorem eval_const (a : Act) (v : Value) : a.eval (.const v) = v := rfl

theorem wp_region_vals {id : Nat} {a : Act} {w : World} {l : List Oper} (ds : List Nat) (F : (Nat → Bool) → (Nat → Value) → World → Prop) (hm : P.follows .mixedOrders = true) (hB : backB .any l.toArray = true)
    (hds : (l.all fun o => match o.dst with | none => true | some d => ds.contains d) = true) (hz : (ds.all fun d => decide (d < a.tmps.size)) = true)
    (h0 : F (fun _ => false) (valsOf a) w.drew)
    (hs : ∀ i o, l[i]? = some o → ∀ (seen : Nat → Bool) (a' : Act) w', Below w.heap.size w w' → F seen (valsOf a') w' → (∀ s, s ∉ ds → valsOf a' s = valsOf a s) → seen i = false → (∀ e ∈ o.after, Region.binds .any e = true → seen e.on = true) →
      o.wp P a' w' (fun a'' w'' => ∃ v, a'' = a'.put o.dst v ∧ Below w.heap.size w w'' ∧ F (fun j => if j = i then true else seen j) (fun s => if o.dst = some s then v else valsOf a' s) w'') Q)
    (hend : ∀ (u : Nat → Value) w', Below w.heap.size w w' → (∀ seen : Nat → Bool, (∀ i, i < l.length → seen i = true) → F seen u w' → Q .normal { a with tmps := setAll u ds a.tmps } w')) : (Code.region id l.toArray true).wp P Q a w := by
  have hz' : ∀ d ∈ ds, d < a.tmps.size := fun d hd => by simpa using List.all_eq_true.mp hz d hd
  refine wp_region_inv (fun seen a' w' => Below w.heap.size w w' ∧ a'.tmps.size = a.tmps.size ∧ a'.defers = a.defers ∧ (∀ s, s ∉ ds → valsOf a' s = valsOf a s) ∧ F (fun i => seen.getD i false) (valsOf a') w') hm hB ⟨(bl_drew' w), rfl, rfl, fun _ _ => rfl, ?_⟩ ?_ ?_
  · have e : (fun i => (Array.replicate l.toArray.size false).getD i false) = fun _ => false := by
      funext i
      simp only [Array.getD]
      split <;> simp
    rw [e]; exact h0
  · rintro i o ho seen a' w' ⟨hb, hsz, hdf, hv, hF⟩ hzs hsi hdep
    have ho' : l[i]? = some o := by simpa using ho
    have hsi' : seen.getD i false = false := by
      have hlt := (Array.getElem?_eq_some_iff.1 ho).1
      simp only [Array.getD, hzs, hlt, dite_true] at hsi ⊢
      exact hsi
    refine Oper.wp_mono ?_ (hs i o ho' (fun i => seen.getD i false) a' w' hb hF hv hsi' hdep)
    rintro a'' w'' ⟨v, rfl, hb', hF'⟩
    have hlt := (Array.getElem?_eq_some_iff.1 ho).1
    have hseen : (fun j => (seen.setIfInBounds i true).getD j false) = fun j => if j = i then true else seen.getD j false := by
      funext j
      by_cases e : j = i
      · subst e
        have : j < seen.size := by rw [hzs]; exact hlt
        simp [this]
      · simp [Ne.symm e, e]
    rw [hseen]
    cases hd : o.dst with
    | none =>
      rw [hd] at hF'
      refine ⟨hb', hsz, hdf, hv, ?_⟩
      simpa [Act.put] using hF'
    | some d =>
      have hmem : d ∈ ds := by
        have := List.all_eq_true.mp hds o (List.mem_of_getElem? ho')
        simpa [hd] using this
      have hvals : valsOf (a'.put (some d) v) = fun s => if (some d : Option Nat) = some s then v else valsOf a' s := by
        funext s
        simp only [valsOf, Act.put]
        rw [getD_set _ _ _ _ (by rw [hsz]; exact hz' d hmem)]
        simp
      refine ⟨hb', by simpa [Act.put] using hsz, hdf, fun s hs => ?_, ?_⟩
      · rw [hvals]
        have : ¬ ((some d : Option Nat) = some s) := by rintro ⟨⟩; exact hs hmem
        simp only [this, if_false]
        exact hv s hs
      · rw [hvals, ← hd]; exact hF'
  · rintro a' w' ⟨hb, hsz, hdf, hv, hF⟩
    rw [vals_ext hsz hdf hz' hv]
    refine hend _ _ hb _ (fun i hi => ?_) hF
    simp [hi]
end

end Go.Proofs.Ytfchcikdcnloaaa
