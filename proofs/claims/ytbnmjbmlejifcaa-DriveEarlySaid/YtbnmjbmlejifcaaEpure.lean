/- The early plan, day by day and reach by reach. -/
import Derived.Test.YtbnmjbmlejifcaaCome
set_option linter.all false
namespace Go.Proofs.Ytbnmjbmlejifcaa

def newE (l : List Rch) (L : List (List Int)) (d i : Nat) : Int := min (rivP l i).pass (come (rivP l) (planP L) i d - gone (planP L) i d)
def stepE (l : List Rch) (L : List (List Int)) (d i : Nat) : List (List Int) := if openB (rivP l i) d = true then L.set i ((L.getD i []).set (d - 1) (newE l L d i)) else L
def rowE (l : List Rch) (L : List (List Int)) (d : Nat) : Nat → List (List Int)
  | 0 => L
  | i + 1 => stepE l (rowE l L d i) d i
def allE (l : List Rch) (D : Nat) : Nat → List (List Int)
  | 0 => List.replicate l.length (List.replicate D 0)
  | d + 1 => rowE l (allE l D d) (d + 1) l.length
/-- The early plan. -/
def planE (days : Int) (l : List Rch) : List (List Int) := allE l days.toNat days.toNat

/-- As many lists as reaches, as many numbers as days. -/
def Full (n D : Nat) (L : List (List Int)) : Prop := L.length = n ∧ ∀ r ∈ L, r.length = D
theorem full_set {n D : Nat} {L : List (List Int)} (h : Full n D L) (i d : Nat) (x : Int) : Full n D (L.set i ((L.getD i []).set d x)) := by
  refine ⟨by rw [List.length_set]; exact h.1, fun r hr => ?_⟩
  by_cases hi : i < L.length
  · rcases List.mem_or_eq_of_mem_set hr with hr | rfl
    · exact h.2 r hr
    · rw [List.length_set]
      obtain ⟨q, hq⟩ := get_at hi
      rw [show L.getD i [] = q by simp [List.getD, hq]]
      exact h.2 q (List.mem_of_getElem? hq)
  · rw [List.set_eq_of_length_le (by omega)] at hr
    exact h.2 r hr
theorem full_step {n D : Nat} {l : List Rch} {L : List (List Int)} (h : Full n D L) (d i : Nat) : Full n D (stepE l L d i) := by
  unfold stepE
  split
  · exact full_set h _ _ _
  · exact h
theorem full_row {n D : Nat} {l : List Rch} {L : List (List Int)} (h : Full n D L) (d : Nat) : ∀ i, Full n D (rowE l L d i)
  | 0 => h
  | i + 1 => full_step (full_row h d i) d i
theorem full_all (l : List Rch) (D : Nat) : ∀ d, Full l.length D (allE l D d)
  | 0 => ⟨by simp [allE], fun r hr => by simp [allE] at hr; rw [hr.2]; simp⟩
  | d + 1 => full_row (full_all l D d) (d + 1) _
theorem plan_set {n D : Nat} {L : List (List Int)} (h : Full n D L) {i d : Nat} (hi : i < n) (hd : d < D) (x : Int) (j e : Nat) : planP (L.set i ((L.getD i []).set d x)) j (e + 1) = if j = i ∧ e = d then x else planP L j (e + 1) := by
  unfold planP
  simp only [Nat.add_sub_cancel, List.getD]
  rw [List.getElem?_set]
  have hiL : i < L.length := by rw [h.1]; exact hi
  obtain ⟨q, hq⟩ := get_at hiL
  have hql := h.2 q (List.mem_of_getElem? hq)
  by_cases e1 : i = j
  · subst e1
    rw [if_pos rfl, if_pos hiL, hq]
    simp only [Option.getD_some]
    rw [List.getElem?_set]
    by_cases e2 : d = e
    · subst e2
      rw [if_pos rfl, if_pos (by omega), if_pos (by simp)]; rfl
    · rw [if_neg e2, if_neg (by omega)]
  · rw [if_neg e1, if_neg (by omega)]
theorem plan_zero (l : List Rch) (D i d : Nat) : planP (allE l D 0) i d = 0 := by
  unfold planP allE
  by_cases hi : i < l.length
  · simp only [List.getD, List.getElem?_replicate, hi, if_true, Option.getD_some]
    split <;> rfl
  · simp only [List.getD, List.getElem?_replicate, hi, if_false, Option.getD_none]
    simp

/-- Two plans that agree but for one place. -/
theorem gone_but {P Q : Nat → Nat → Int} {i0 d0 : Nat} (h : ∀ j e, ¬ (j = i0 ∧ e = d0) → P j (e + 1) = Q j (e + 1)) (j : Nat) (t : Int) (hne : ¬ (j = i0 ∧ (d0 : Int) + 1 ≤ t)) : gone P j t = gone Q j t := by
  unfold gone
  exact sumN_congr fun e he => h j e (by omega)
theorem come_but {R : Nat → Rch} {P Q : Nat → Nat → Int} {i0 d0 : Nat} (h : ∀ j e, ¬ (j = i0 ∧ e = d0) → P j (e + 1) = Q j (e + 1)) (ht : ∀ u, u < i0 + 1 → 0 ≤ (R u).takes) (j : Nat) (t : Int) (hne : ¬ (i0 < j ∧ (d0 : Int) + 1 ≤ t)) : come R P j t = come R Q j t := by
  unfold come
  congr 1
  refine sumN_congr fun u hu => ?_
  split
  · refine gone_but h u _ ?_
    rintro ⟨rfl, h2⟩
    have := ht u (by omega)
    exact hne ⟨hu, by omega⟩
  · rfl

section
variable {days : Int} {l : List Rch}
theorem fit_riv (F : Fit days l) : Riv (rivP l) l.length days.toNat := by
  have at' : ∀ i, i < l.length → ∃ x, l[i]? = some x ∧ rivP l i = x := fun i hi => by
    obtain ⟨x, hx⟩ := get_at hi
    exact ⟨x, hx, riv_at hx⟩
  refine ⟨fun i hi => ?_, fun i hi => ?_, fun i hi => ?_, fun i hi => ?_, fun i hi => ?_, fun i hi => ?_, fun i hi => ?_⟩
  all_goals
    obtain ⟨x, hx, e⟩ := at' i hi
    rw [e]
  · exact F.down i x hx
  · exact (F.pass i x hx).1
  · exact (F.takes i x hx).1
  · exact (F.every i x hx).1
  · exact (F.water i x hx).1
  · exact (F.logs i x hx).1
  · exact (F.ready i x hx).1

/-- What has been written so far. -/
def Done (d i j e : Nat) : Prop := e < d ∨ e = d ∧ j < i
/-- Behind reach i of the day d + 1: what has been written is as the early plan says, all else is 0. -/
def InvE (l : List Rch) (D : Nat) (P : Nat → Nat → Int) (d i : Nat) : Prop :=
  ∀ j e, j < l.length → e < D → (Done d i j e → P j (e + 1) = if openB (rivP l j) ((e : Int) + 1) = true then min (rivP l j).pass (come (rivP l) P j ((e : Int) + 1) - gone P j e) else 0) ∧ (¬ Done d i j e → P j (e + 1) = 0)

theorem inv_step (F : Fit days l) {L : List (List Int)} {D d i : Nat} (hf : Full l.length D L) (hd : d < D) (hi : i < l.length) (h : InvE l D (planP L) d i) :
    InvE l D (planP (stepE l L (d + 1) i)) d (i + 1) ∧ ∀ j e, ¬ (j = i ∧ e = d) → planP (stepE l L (d + 1) i) j (e + 1) = planP L j (e + 1) := by
  have V := fit_riv F
  have hz : planP L i (d + 1) = 0 := (h i d hi hd).2 (by unfold Done; omega)
  have hg : gone (planP L) i ((d + 1 : Nat) : Int) = gone (planP L) i d := by
    rw [show ((d + 1 : Nat) : Int) = (d : Int) + 1 by omega, gone_succ, hz]; omega
  have hsame : ∀ j e, ¬ (j = i ∧ e = d) → planP (stepE l L (d + 1) i) j (e + 1) = planP L j (e + 1) := fun j e hne => by
    unfold stepE
    split
    · rw [show d + 1 - 1 = d by omega, plan_set hf hi hd, if_neg hne]
    · rfl
  have hnew : planP (stepE l L (d + 1) i) i (d + 1) = if openB (rivP l i) ((d : Int) + 1) = true then min (rivP l i).pass (come (rivP l) (planP L) i ((d : Int) + 1) - gone (planP L) i d) else 0 := by
    unfold stepE
    rw [show ((d + 1 : Nat) : Int) = (d : Int) + 1 by omega]
    by_cases ho : openB (rivP l i) ((d : Int) + 1) = true
    · rw [if_pos ho, if_pos ho, show d + 1 - 1 = d by omega, plan_set hf hi hd, if_pos ⟨rfl, rfl⟩]
      unfold newE
      rw [hg, show ((d + 1 : Nat) : Int) = (d : Int) + 1 by omega]
    · rw [if_neg ho, if_neg ho, hz]
  have hc : ∀ j t, ¬ (i < j ∧ (d : Int) + 1 ≤ t) → come (rivP l) (planP (stepE l L (d + 1) i)) j t = come (rivP l) (planP L) j t := fun j t => come_but hsame (fun u hu => V.takes u (by omega)) j t
  have hgo : ∀ j t, ¬ (j = i ∧ (d : Int) + 1 ≤ t) → gone (planP (stepE l L (d + 1) i)) j t = gone (planP L) j t := fun j t => gone_but hsame j t
  refine ⟨fun j e hj he => ?_, hsame⟩
  by_cases hne : j = i ∧ e = d
  · obtain ⟨rfl, rfl⟩ := hne
    refine ⟨fun _ => ?_, fun hn => absurd (.inr ⟨rfl, Nat.lt_succ_self _⟩) hn⟩
    rw [hnew, hc j _ (by omega), hgo j _ (by omega)]
  · rw [hsame j e hne]
    refine ⟨fun hdn => ?_, fun hn => (h j e hj he).2 (by unfold Done at *; omega)⟩
    have hdn' : Done d i j e := by unfold Done at *; omega
    rw [(h j e hj he).1 hdn', hc j _ (by unfold Done at *; omega), hgo j _ (by unfold Done at *; omega)]

theorem inv_row (F : Fit days l) {L : List (List Int)} {D d : Nat} (hf : Full l.length D L) (hd : d < D) (h : InvE l D (planP L) d 0) : ∀ i, i ≤ l.length → InvE l D (planP (rowE l L (d + 1) i)) d i
  | 0, _ => h
  | i + 1, hi => (inv_step F (full_row hf (d + 1) i) hd (by omega) (inv_row F hf hd h i (by omega))).1
theorem inv_all (F : Fit days l) {D : Nat} : ∀ d, d ≤ D → InvE l D (planP (allE l D d)) d 0
  | 0, _ => fun j e hj he => ⟨fun h => by unfold Done at h; omega, fun _ => plan_zero l D j (e + 1)⟩
  | d + 1, hd => fun j e hj he => by
    have h := inv_row F (full_all l D d) (by omega) (inv_all F d (by omega)) l.length (Nat.le_refl _)
    exact ⟨fun hdn => (h j e hj he).1 (by unfold Done at *; omega), fun hn => (h j e hj he).2 (by unfold Done at *; omega)⟩

/-- It is the early plan. -/
theorem planE_early (F : Fit days l) : IsEarly (rivP l) l.length days.toNat (planP (planE days l)) := fun i d hi hd => ((inv_all F days.toNat (Nat.le_refl _)) i d hi hd).1 (.inl hd)
theorem planE_full (days : Int) (l : List Rch) : Full l.length days.toNat (planE days l) := full_all _ _ _

/-- What is there meanwhile: the early plan so far. -/
theorem row_keep (F : Fit days l) {D d : Nat} (hd : d < D) {i k : Nat} (hik : i ≤ k) (hk : k ≤ l.length) (j e : Nat) (hdn : Done d i j e) : planP (rowE l (allE l D d) (d + 1) k) j (e + 1) = planP (rowE l (allE l D d) (d + 1) i) j (e + 1) := by
  induction k with
  | zero => rw [show i = 0 by omega]
  | succ k ih =>
    by_cases hk2 : i = k + 1
    · rw [hk2]
    · have h1 := (inv_step F (full_row (full_all l D d) (d + 1) k) hd (by omega) (inv_row F (full_all l D d) hd (inv_all F d (by omega)) k (by omega))).2 j e (by unfold Done at hdn; omega)
      show planP (stepE l (rowE l (allE l D d) (d + 1) k) (d + 1) k) j (e + 1) = _
      rw [h1, ih (by omega) (by omega)]
theorem all_keep (F : Fit days l) {D d m : Nat} (hdm : d ≤ m) (hm : m ≤ D) (j e : Nat) (he : e < d) : planP (allE l D m) j (e + 1) = planP (allE l D d) j (e + 1) := by
  induction m with
  | zero => omega
  | succ m ih =>
    by_cases h2 : d = m + 1
    · rw [h2]
    · have h1 := row_keep F (D := D) (d := m) (by omega) (i := 0) (k := l.length) (Nat.zero_le _) (Nat.le_refl _) j e (.inl (by omega))
      show planP (rowE l (allE l D m) (m + 1) l.length) j (e + 1) = _
      rw [h1]
      exact ih (by omega) (by omega)
theorem state_is (F : Fit days l) {d i : Nat} (hd : d < days.toNat) (hi : i ≤ l.length) (j e : Nat) (hj : j < l.length) (he : e < days.toNat) :
    planP (rowE l (allE l days.toNat d) (d + 1) i) j (e + 1) = planP (planE days l) j (e + 1) ∨ planP (rowE l (allE l days.toNat d) (d + 1) i) j (e + 1) = 0 := by
  by_cases hdn : Done d i j e
  · refine .inl ?_
    rw [← row_keep F hd hi (Nat.le_refl _) j e hdn]
    symm
    exact all_keep F (d := d + 1) (by omega) (Nat.le_refl _) j e (by unfold Done at hdn; omega)
  · exact .inr ((inv_row F (full_all l days.toNat d) hd (inv_all F d (by omega)) i hi j e hj he).2 hdn)

theorem planE_range (F : Fit days l) (j e : Nat) (hj : j < l.length) (he : e < days.toNat) : 0 ≤ planP (planE days l) j (e + 1) ∧ planP (planE days l) j (e + 1) ≤ 1001 := by
  have H := early_right (fit_riv F) (planE_early F)
  have h1 := H.ge j e hj he
  have h2 := H.cap j e hj he
  obtain ⟨x, hx⟩ := get_at hj
  have h3 := F.pass j x hx
  unfold capD at h2
  rw [riv_at hx] at h2
  refine ⟨h1, ?_⟩
  split at h2 <;> omega
/-- A full plan is small if its numbers are. -/
theorem small_of {n D : Nat} {L : List (List Int)} (h : Full n D L) (hD : D ≤ 1000) (hv : ∀ j e, j < n → e < D → 0 ≤ planP L j (e + 1) ∧ planP L j (e + 1) ≤ 100000) : Small L := fun r hr => by
  obtain ⟨j, hj, rfl⟩ := List.mem_iff_getElem.mp hr
  have hl := h.2 _ hr
  refine ⟨by omega, fun x hx => ?_⟩
  obtain ⟨e, he, rfl⟩ := List.mem_iff_getElem.mp hx
  have := hv j e (by rw [← h.1]; exact hj) (by omega)
  simpa [planP, List.getD, hj, he] using this
theorem planE_small (F : Fit days l) : Small (planE days l) := by
  have := F.d2
  refine small_of (planE_full days l) (by omega) fun j e hj he => ?_
  have := planE_range F j e hj he
  omega
theorem state_small (F : Fit days l) {d i : Nat} (hd : d < days.toNat) (hi : i ≤ l.length) : Small (rowE l (allE l days.toNat d) (d + 1) i) := by
  have := F.d2
  refine small_of (full_row (full_all l days.toNat d) (d + 1) i) (by omega) fun j e hj he => ?_
  have h1 := planE_range F j e hj he
  rcases state_is F hd hi j e hj he with h | h <;> rw [h] <;> omega
end

end Go.Proofs.Ytbnmjbmlejifcaa
