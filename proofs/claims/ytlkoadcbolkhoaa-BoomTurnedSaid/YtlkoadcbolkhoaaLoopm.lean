/- A loop whose rounds leave marks: what holds at its head is said of the marks and the world, the slots that it writes are free. -/
import Derived.Test.YtlkoadcbolkhoaaRange
set_option linter.all false
namespace Go.Proofs.Ytlkoadcbolkhoaa
open Go Go.RowKit Go.Proofs

theorem least_ex {p : Nat → Prop} : (∃ m, p m) → ∃ m, p m ∧ ∀ k, p k → m ≤ k := by
  rintro ⟨m, hm⟩
  induction m using Nat.strongRecOn with
  | _ m ih =>
    by_cases h : ∃ k, k < m ∧ p k
    · obtain ⟨k, hk, hp⟩ := h
      exact ih k hk hp
    · exact ⟨m, hm, fun k hk => Nat.le_of_not_lt fun hlt => h ⟨k, hlt, hk⟩⟩
noncomputable def leastN (p : Nat → Prop) : Nat := @Classical.epsilon Nat ⟨0⟩ fun m => p m ∧ ∀ k, p k → m ≤ k
theorem leastN_spec {p : Nat → Prop} (h : ∃ m, p m) : p (leastN p) ∧ ∀ k, p k → leastN p ≤ k := Classical.epsilon_spec (least_ex h)

theorem wp_loop_marks {P : Program} {Q : Exit → Act → World → Prop} {c : Code} {a : Act} {w : World} (ds : List Nat) (tm : Array Value) (J : Nat → List Deferred → World → Prop) (u0 : Nat → Value) (m0 : Nat) (ha : a.tmps = setAll u0 ds tm) (h0 : J m0 a.defers w)
    (round : ∀ (m : Nat) (u : Nat → Value) (D : List Deferred) (W : World) (K : Act → World → Prop), J m D W → (∀ (m' : Nat) (u' : Nat → Value) (t' : Array Value) (D' : List Deferred) (W' : World), t' = setAll u' ds tm → J m' D' W' → m' < m → K { tmps := t', defers := D' } W') → c.wp P (Exit.then K Q) { tmps := setAll u ds tm, defers := D } W) :
    (Code.loop c).wp P Q a w := by
  refine wp_loop (I := fun a w => ∃ m, (∃ u, a.tmps = setAll u ds tm) ∧ J m a.defers w) (μ := fun a w => leastN fun m => (∃ u, a.tmps = setAll u ds tm) ∧ J m a.defers w) ⟨m0, ⟨u0, ha⟩, h0⟩ ?_
  intro a w hI
  obtain ⟨⟨⟨u, hu⟩, hJ⟩, hmin⟩ := leastN_spec hI
  obtain ⟨t, D⟩ := a
  simp only at hu hJ
  subst hu
  refine round _ u D w _ hJ ?_
  rintro m' u' t' D' W' rfl hJ' hlt
  refine ⟨⟨m', ⟨u', rfl⟩, hJ'⟩, Nat.lt_of_le_of_lt ((leastN_spec ⟨m', ⟨u', rfl⟩, hJ'⟩).2 m' ⟨⟨u', rfl⟩, hJ'⟩) hlt⟩
/-- The same, over the frame as it stands. -/
theorem wp_loop_marksz {P : Program} {Q : Exit → Act → World → Prop} {c : Code} {a : Act} {w : World} (ds : List Nat) (J : Nat → List Deferred → World → Prop) (m0 : Nat) (hz : (ds.all fun d => decide (d < a.tmps.size)) = true) (h0 : J m0 a.defers w)
    (round : ∀ (m : Nat) (u : Nat → Value) (D : List Deferred) (W : World) (K : Act → World → Prop), J m D W → (∀ (m' : Nat) (u' : Nat → Value) (t' : Array Value) (D' : List Deferred) (W' : World), t' = setAll u' ds a.tmps → J m' D' W' → m' < m → K { tmps := t', defers := D' } W') → c.wp P (Exit.then K Q) { tmps := setAll u ds a.tmps, defers := D } W) :
    (Code.loop c).wp P Q a w :=
  wp_loop_marks ds a.tmps J (valsOf a) m0 (congrArg Act.tmps (vals_ext (A := a) (a := a) rfl rfl (fun d hd => by simpa using List.all_eq_true.mp hz d hd) fun _ _ => rfl)) h0 round
end Go.Proofs.Ytlkoadcbolkhoaa

/- A loop whose rounds leave marks, with what its slots hold. -/
namespace Go.Proofs.Ytlkoadcbolkhoaa
open Go Go.RowKit Go.Proofs

theorem wp_loop_marksu {P : Program} {Q : Exit → Act → World → Prop} {c : Code} {a : Act} {w : World} (ds : List Nat) (J : Nat → (Nat → Value) → List Deferred → World → Prop) (m0 : Nat) (hz : (ds.all fun d => decide (d < a.tmps.size)) = true) (h0 : J m0 (valsOf a) a.defers w)
    (round : ∀ (m : Nat) (u : Nat → Value) (D : List Deferred) (W : World) (K : Act → World → Prop), J m u D W → (∀ (m' : Nat) (u' : Nat → Value) (t' : Array Value) (D' : List Deferred) (W' : World), t' = setAll u' ds a.tmps → J m' u' D' W' → m' < m → K { tmps := t', defers := D' } W') → c.wp P (Exit.then K Q) { tmps := setAll u ds a.tmps, defers := D } W) :
    (Code.loop c).wp P Q a w := by
  refine wp_loop (I := fun b w => ∃ m u, b.tmps = setAll u ds a.tmps ∧ J m u b.defers w) (μ := fun b w => leastN fun m => ∃ u, b.tmps = setAll u ds a.tmps ∧ J m u b.defers w) ⟨m0, valsOf a, congrArg Act.tmps (vals_ext (A := a) (a := a) rfl rfl (fun d hd => by simpa using List.all_eq_true.mp hz d hd) fun _ _ => rfl), h0⟩ ?_
  intro b w hI
  obtain ⟨⟨u, hu, hJ⟩, hmin⟩ := leastN_spec hI
  obtain ⟨t, D⟩ := b
  simp only at hu hJ
  subst hu
  refine round _ u D w _ hJ ?_
  rintro m' u' t' D' W' rfl hJ' hlt
  exact ⟨⟨m', u', rfl, hJ'⟩, Nat.lt_of_le_of_lt ((leastN_spec ⟨m', u', rfl, hJ'⟩).2 m' ⟨u', rfl, hJ'⟩) hlt⟩
end Go.Proofs.Ytlkoadcbolkhoaa
