/- Regions with guards that draw their order, inside a fence (the body of a range over a function). -/
import Derived.OrdersIn
import Derived.Test.YtlkoadcbolkhoaaMarks
set_option linter.all false
namespace Go.Proofs.Ytlkoadcbolkhoaa
open Go Go.RowKit Go.Proofs

section
variable {Fe : Fence} {n : Nat} {P : Program} {md : Region.Mode} {ops : Array Oper} {Q : Exit → Act → World → Prop}
theorem wpAnyIn_invG (hfn : ∀ f, Fe.fn f) {Inv : Array Bool → Act → World → Prop} (hB : backG md ops = true)
    (hs : ∀ i o, ops[i]? = some o → ∀ seen a w, Inv seen a w → seen.size = ops.size → seen.getD i true = false → (∀ e ∈ o.after, Region.binds md e = true → seen.getD e.on false = true) →
      if Region.wanted o (yielded ops a.tmps) = true then o.wpIn Fe n P a w (fun a' w' => Inv (seen.setIfInBounds i true) a' w') Q else Inv (seen.setIfInBounds i true) (a.put o.dst undef) w)
    (hend : ∀ a w, Inv (Array.replicate ops.size true) a w → Q .normal a w) :
    ∀ (f : Nat) (seen : Array Bool) (a : Act) (w : World), seen.size = ops.size → (seen.toList.count false) ≤ f → Inv seen a w → wpAnyIn Fe n P md ops Q f seen a w := by
  have hall : ∀ seen : Array Bool, seen.size = ops.size → (∀ i, i < ops.size → seen.getD i false = true) → seen = Array.replicate ops.size true := by
    intro seen hz h
    apply Array.ext
    · simp [hz]
    · intro i h1 h2
      have := h i (by omega)
      simp only [Array.getD, h1, dite_true] at this
      rw [Array.getElem_replicate]
      exact this
  intro f
  induction f with
  | zero =>
    intro seen a w hz hc hi
    have hT : ∀ i, i < ops.size → seen.getD i false = true := by
      intro i hlt
      have h0 : seen.toList.count false = 0 := by omega
      have := List.count_eq_zero.mp h0
      cases hs : seen.getD i false with
      | true => rfl
      | false =>
        exfalso
        apply this
        simp only [Array.getD, hz, hlt, dite_true] at hs
        rw [← hs]
        exact Array.getElem_mem_toList (by omega)
    refine ⟨?_, ?_⟩
    · cases h : Region.ready md ops seen with
      | nil => rfl
      | cons j r =>
        have hj : j ∈ Region.ready md ops seen := by rw [h]; exact List.mem_cons_self
        obtain ⟨h1, o, ho, _⟩ := mem_ready.1 hj
        have hlt := (Array.getElem?_eq_some_iff.1 ho).1
        have h2 := hT j hlt
        simp only [Array.getD, hz, hlt, dite_true] at h1 h2
        rw [h1] at h2
        cases h2
    · rw [hall seen hz hT] at hi
      exact hend a w hi
  | succ f ih =>
    intro seen a w hz hc hi
    refine ⟨fun h => ?_, fun i hr => ?_⟩
    · rw [hall seen hz (readyG_nil hB hz h)] at hi
      exact hend a w hi
    · obtain ⟨h1, o, ho, hall⟩ := mem_ready.1 hr
      have hlt := (Array.getElem?_eq_some_iff.1 ho).1
      have hlt' : i < seen.toList.length := by simpa [hz] using hlt
      have hf : seen.toList[i] = false := by
        simp only [Array.getD, hz, hlt, dite_true] at h1
        simpa using h1
      have hcnt : (seen.setIfInBounds i true).toList.count false ≤ f := by
        rw [Array.toList_setIfInBounds, count_drop _ _ hf]
        omega
      have hst := hs i o ho seen a w hi hz h1 hall
      unfold wpOpIn
      simp only [ho]
      by_cases hw : Region.wanted o (yielded ops a.tmps) = true
      · rw [if_pos hw] at hst ⊢
        exact (Oper.wpIn_mono (fun a' w' h => ih _ _ _ (by simpa using hz) hcnt h) hst)
      · rw [if_neg hw] at hst ⊢
        exact ⟨fun f _ => hfn f, ih _ _ _ (by simpa using hz) hcnt hst⟩
theorem wpIn_region_valsG (hfn : ∀ f, Fe.fn f) {id : Nat} {a : Act} {w : World} {l : List Oper} (w0 : World) (hb0 : Below w0.heap.size w0 w) (ds : List Nat) (F : (Nat → Bool) → (Nat → Value) → World → Prop) (hm : P.follows .mixedOrders = true) (hB : backG .any l.toArray = true)
    (hds : (l.all fun o => match o.dst with | none => true | some d => ds.contains d) = true) (hz : (ds.all fun d => decide (d < a.tmps.size)) = true)
    (h0 : F (fun _ => false) (valsOf a) w.drew)
    (hs : ∀ i o, l[i]? = some o → ∀ (seen : Nat → Bool) (a' : Act) w', Below w0.heap.size w0 w' → F seen (valsOf a') w' → (∀ s, s ∉ ds → valsOf a' s = valsOf a s) → seen i = false → (∀ e ∈ o.after, Region.binds .any e = true → seen e.on = true) →
      if Region.wanted o (yielded l.toArray a'.tmps) = true then o.wpIn Fe n P a' w' (fun a'' w'' => ∃ v, a'' = a'.put o.dst v ∧ Below w0.heap.size w0 w'' ∧ F (fun j => if j = i then true else seen j) (fun s => if o.dst = some s then v else valsOf a' s) w'') Q
      else F (fun j => if j = i then true else seen j) (fun s => if o.dst = some s then undef else valsOf a' s) w')
    (hend : ∀ (u : Nat → Value) w', Below w0.heap.size w0 w' → (∀ seen : Nat → Bool, (∀ i, i < l.length → seen i = true) → F seen u w' → Q .normal { a with tmps := setAll u ds a.tmps } w')) : (Code.region id l.toArray true).wpIn Fe n P Q a w := by
  have hz' : ∀ d ∈ ds, d < a.tmps.size := fun d hd => by simpa using List.all_eq_true.mp hz d hd
  refine wpIn_region_any hm (wpAnyIn_invG hfn (Inv := fun seen a' w' => Below w0.heap.size w0 w' ∧ a'.tmps.size = a.tmps.size ∧ a'.defers = a.defers ∧ (∀ s, s ∉ ds → valsOf a' s = valsOf a s) ∧ F (fun i => seen.getD i false) (valsOf a') w') hB ?_ ?_ _ _ _ _ (by simp) (by simp) ⟨bl_drew hb0, rfl, rfl, fun _ _ => rfl, ?_⟩)
  · rintro i o ho seen a' w' ⟨hb, hsz, hdf, hv, hF⟩ hzs hsi hdep
    have ho' : l[i]? = some o := by simpa using ho
    have hsi' : seen.getD i false = false := by
      have hlt := (Array.getElem?_eq_some_iff.1 ho).1
      simp only [Array.getD, hzs, hlt, dite_true] at hsi ⊢
      exact hsi
    have hlt := (Array.getElem?_eq_some_iff.1 ho).1
    have hseen : (fun j => (seen.setIfInBounds i true).getD j false) = fun j => if j = i then true else seen.getD j false := by
      funext j
      by_cases e : j = i
      · subst e
        have : j < seen.size := by rw [hzs]; exact hlt
        simp [this]
      · simp [Ne.symm e, e]
    have fin : ∀ (v : Value) (w'' : World), Below w0.heap.size w0 w'' → F (fun j => if j = i then true else seen.getD j false) (fun s => if o.dst = some s then v else valsOf a' s) w'' →
        Below w0.heap.size w0 w'' ∧ (a'.put o.dst v).tmps.size = a.tmps.size ∧ (a'.put o.dst v).defers = a.defers ∧ (∀ s, s ∉ ds → valsOf (a'.put o.dst v) s = valsOf a s) ∧ F (fun j => (seen.setIfInBounds i true).getD j false) (valsOf (a'.put o.dst v)) w'' := fun v w'' hb' hF' => by
      rw [hseen]
      cases hd : o.dst with
      | none =>
        rw [hd] at hF'
        refine ⟨hb', hsz, hdf, hv, ?_⟩
        simpa [Act.put] using hF'
      | some d =>
        have hmem : d ∈ ds := by
          have := List.all_eq_true.mp hds o (List.mem_of_getElem? ho')
          simpa [hd] using this
        have hvals : valsOf (a'.put (some d) v) = fun s => if (some d : Option Nat) = some s then v else valsOf a' s := by
          funext s
          simp only [valsOf, Act.put]
          rw [getD_set _ _ _ _ (by rw [hsz]; exact hz' d hmem)]
          simp
        refine ⟨hb', by simpa [Act.put] using hsz, hdf, fun s hs => ?_, ?_⟩
        · rw [hvals]
          have : ¬ ((some d : Option Nat) = some s) := by rintro ⟨⟩; exact hs hmem
          simp only [this, if_false]
          exact hv s hs
        · rw [hvals, ← hd]; exact hF'
    have hst := hs i o ho' (fun i => seen.getD i false) a' w' hb hF hv hsi' hdep
    by_cases hw : Region.wanted o (yielded l.toArray a'.tmps) = true
    · rw [if_pos hw] at hst ⊢
      refine Oper.wpIn_mono ?_ hst
      rintro a'' w'' ⟨v, rfl, hb', hF'⟩
      exact fin v w'' hb' hF'
    · rw [if_neg hw] at hst ⊢
      exact fin undef w' hb hst
  · rintro a' w' ⟨hb, hsz, hdf, hv, hF⟩
    rw [vals_ext hsz hdf hz' hv]
    refine hend _ _ hb _ (fun i hi => ?_) hF
    simp [hi]
  · have e : (fun i => (Array.replicate l.toArray.size false).getD i false) = fun _ => false := by
      funext i
      simp only [Array.getD]
      split <;> simp
    rw [e]; exact h0
theorem wpIn_value {o : Oper} {a : Act} {w w' : World} {K : Act → World → Prop} (v : Value) (hfn : ∀ f, Fe.fn f) (hd : ∀ c, o.op ≠ .defer c) (hr : (execOp a.eval o).run P w = .ok (.value v) w') (hK : K (a.put o.dst v) w') : o.wpIn Fe n P a w K Q := by
  unfold Oper.wpIn
  rw [Oper.semAt_eq _ _ _ hd, hr]
  exact ⟨fun f _ => hfn f, hK⟩
theorem wpIn_effect {o : Oper} {a : Act} {w w' : World} {K : Act → World → Prop} (hfn : ∀ f, Fe.fn f) (hd : ∀ c, o.op ≠ .defer c) (hr : (execOp a.eval o).run P w = .ok .skip w') (hK : K (a.put o.dst undef) w') : o.wpIn Fe n P a w K Q := by
  unfold Oper.wpIn
  rw [Oper.semAt_eq _ _ _ hd, hr]
  exact ⟨fun f _ => hfn f, hK⟩
theorem wpIn_calls {o : Oper} {a : Act} {w w' : World} {K : Act → World → Prop} {f : Nat} {args : Array Value} {R : Ending → World → Prop} (hfn : ∀ f, Fe.fn f) (hd : ∀ c, o.op ≠ .defer c) (hn : Fe.depth.isSome = true → 1 ≤ n) (hr : (execOp a.eval o).run P w = .ok (.enter f args) w') (hc : CallsIn Fe (n - 1) P f args w' R) (hK : ∀ e w'', R e w'' → ∃ v, e = .returned v ∧ K (a.put o.dst v) w'') : o.wpIn Fe n P a w K Q := by
  unfold Oper.wpIn
  rw [Oper.semAt_eq _ _ _ hd, hr]
  refine ⟨fun f _ => hfn f, hn, CallsIn.mono hc ?_⟩
  intro e w'' h
  obtain ⟨v, rfl, hk⟩ := hK e w'' h
  exact hk
end

end Go.Proofs.Ytlkoadcbolkhoaa
