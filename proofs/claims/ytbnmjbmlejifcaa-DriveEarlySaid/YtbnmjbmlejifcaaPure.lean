/- How many can come is the least bound of a cut (plain). -/
import Derived.Test.YtbnmjbmlejifcaaMost
import Derived.Test.YtbnmjbmlejifcaaMathB
import Derived.Test.YtbnmjbmlejifcaaCuta
set_option linter.all false
namespace Go.Proofs.Ytbnmjbmlejifcaa

theorem argmin (c : Nat → Int) : ∀ m, 1 ≤ m → ∃ f, 1 ≤ f ∧ f ≤ m ∧ ∀ d, 1 ≤ d → d ≤ m → c f ≤ c d
  | 0, h => by omega
  | 1, _ => ⟨1, by omega, by omega, fun d h1 h2 => Int.le_of_eq (by rw [show d = 1 by omega])⟩
  | m + 2, _ => by
    obtain ⟨f, h1, h2, h3⟩ := argmin c (m + 1) (by omega)
    by_cases h : c f ≤ c (m + 2)
    · exact ⟨f, h1, by omega, fun d hd1 hd2 => by
        by_cases e : d = m + 2
        · subst e; exact h
        · exact h3 d hd1 (by omega)⟩
    · exact ⟨m + 2, by omega, by omega, fun d hd1 hd2 => by
        by_cases e : d = m + 2
        · subst e; exact Int.le_refl _
        · have := h3 d hd1 (by omega); omega⟩

section
variable {D : Nat} {l l' : List Rch}
theorem riv_of (F : Fit (D : Int) l) : Riv (rivP l) l.length D := by have := fit_riv F; rwa [Int.toNat_natCast] at this
theorem early_of (F : Fit (D : Int) l) : IsEarly (rivP l) l.length D (planP (planE D l)) := by have := planE_early F; rwa [Int.toNat_natCast] at this
theorem right_of (F : Fit (D : Int) l) : Right (rivP l) l.length D (planP (planE D l)) := early_right (riv_of F) (early_of F)

theorem best_exists (F : Fit (D : Int) l) {day : Nat} (hday : 1 ≤ day ∧ day ≤ D) : ∃ G : Nat → Nat, IsCut l.length G day ∧ Best (rivP l) l.length (planP (planE D l)) G day := by
  have V := riv_of F
  have E := early_of F
  have key : ∀ k, k ≤ l.length → ∃ G : Nat → Nat, ∀ j, l.length - k ≤ j → j < l.length → (1 ≤ G j ∧ G j ≤ day + 1) ∧ gone (planP (planE D l)) j (before (rivP l) G day j - (rivP l j).takes - 1) = come (rivP l) (planP (planE D l)) j ((G j - 1 : Nat) : Int) + thr (rivP l j) (G j) (before (rivP l) G day j) := by
    intro k
    induction k with
    | zero => exact fun _ => ⟨fun _ => 1, fun j h1 h2 => by omega⟩
    | succ k ih =>
      intro hk
      obtain ⟨G, hG⟩ := ih (by omega)
      obtain ⟨i, hi⟩ : ∃ i, l.length - (k + 1) = i := ⟨_, rfl⟩
      have hil : i < l.length := by omega
      obtain ⟨x, hx⟩ := get_at hil
      have hdn := F.down i x hx
      have htk := F.takes i x hx
      obtain ⟨bv, hbv⟩ : ∃ bv, before (rivP l) G day i = bv := ⟨_, rfl⟩
      have hb1 : bv ≤ (day : Int) + 1 := by
        rw [← hbv]
        unfold before
        rw [riv_at hx]
        by_cases h : 0 ≤ x.down
        · rw [if_pos h]
          have := hG x.down.toNat (by omega) (by omega)
          omega
        · rw [if_neg h]; exact Int.le_refl _
      obtain ⟨f, h1, h2, h3⟩ := argmin (cost (rivP l) (planP (planE D l)) i bv) (lastDay (rivP l i) bv) (by unfold lastDay; omega)
      have hlast : lastDay (rivP l i) bv ≤ day + 1 := by unfold lastDay; rw [riv_at hx]; omega
      refine ⟨fun j => if j = i then f else G j, fun j hj1 hj2 => ?_⟩
      have hbj : ∀ j, i ≤ j → j < l.length → before (rivP l) (fun j => if j = i then f else G j) day j = before (rivP l) G day j := fun j hij hjl => by
        obtain ⟨y, hy⟩ := get_at hjl
        have hd := F.down j y hy
        unfold before
        rw [riv_at hy]
        by_cases h : 0 ≤ y.down
        · rw [if_pos h, if_pos h]
          simp only
          rw [if_neg (by omega)]
        · rw [if_neg h, if_neg h]
      rw [hbj j (by omega) hj2]
      by_cases hji : j = i
      · subst hji
        simp only [if_true]
        refine ⟨⟨h1, by omega⟩, ?_⟩
        rw [hbv]
        exact best_of_least V E hj2 (by omega) h1 h2 (by omega) h3
      · simp only [hji, if_false]
        exact hG j (by omega) hj2
  obtain ⟨G, hG⟩ := key l.length (Nat.le_refl _)
  exact ⟨G, fun i hi => (hG i (by omega) hi).1, fun i hi => (hG i (by omega) hi).2⟩

/-- No more can come than a cut bounds. -/
theorem most_bound (F : Fit (D : Int) l) {day : Nat} (hday : 1 ≤ day ∧ day ≤ D) {G : Nat → Nat} (hG : IsCut l.length G day) : mostE D l (day : Int) ≤ bound (rivP l) l.length G day :=
  weak (riv_of F) (right_of F) hday.2 hG
/-- As many as one bounds. -/
theorem most_cut (F : Fit (D : Int) l) {day : Nat} (hday : 1 ≤ day ∧ day ≤ D) : ∃ G, IsCut l.length G day ∧ mostE D l (day : Int) = bound (rivP l) l.length G day := by
  obtain ⟨G, h1, h2⟩ := best_exists F hday
  exact ⟨G, h1, strong (riv_of F) h1 h2⟩
/-- A river whose bounds are no greater brings no more. -/
theorem most_mono (F : Fit (D : Int) l) (F' : Fit (D : Int) l') (hl : l.length = l'.length) {day : Nat} (hday : 1 ≤ day ∧ day ≤ D) (h : ∀ G, IsCut l.length G day → bound (rivP l) l.length G day ≤ bound (rivP l') l'.length G day) : mostE D l (day : Int) ≤ mostE D l' (day : Int) := by
  obtain ⟨G, h1, h2⟩ := most_cut F' hday
  rw [← hl] at h1
  have h3 := most_bound F hday h1
  have h4 := h G h1
  omega
/-- What a right plan brings is no more. -/
theorem right_most (F : Fit (D : Int) l) {Q : Nat → Nat → Int} (H : Right (rivP l) l.length D Q) {day : Nat} (hday : 1 ≤ day ∧ day ≤ D) : brought (rivP l) l.length Q (day : Int) ≤ mostE D l (day : Int) := by
  obtain ⟨G, h1, h2⟩ := most_cut F hday
  rw [h2]
  exact weak (riv_of F) H hday.2 h1
theorem most_nonneg (F : Fit (D : Int) l) {day : Nat} (hd : day ≤ D) : 0 ≤ mostE D l (day : Int) ∧ mostE D l (day : Int) ≤ 800000000 := brought_bd F (planE_small F) (day : Int) (by have := F.d2; omega)
end

/-! ### A river with another reach -/
theorem riv_set {l : List Rch} {i : Nat} (hi : i < l.length) (y : Rch) (j : Nat) : rivP (l.set i y) j = if j = i then y else rivP l j := by
  unfold rivP List.getD
  by_cases e : j = i
  · subst e; rw [if_pos rfl, List.getElem?_set_self hi]; rfl
  · rw [if_neg e, List.getElem?_set_ne (Ne.symm e)]
theorem fit_set {days : Int} {l : List Rch} (F : Fit days l) {i : Nat} (hi : i < l.length) {y : Rch} (h : (y.down = -1 ∨ (i : Int) < y.down ∧ y.down < (l.length : Int)) ∧ (0 ≤ y.pass ∧ y.pass ≤ 1001) ∧ (0 ≤ y.takes ∧ y.takes ≤ 10) ∧ (1 ≤ y.every ∧ y.every ≤ 10) ∧ (1 ≤ y.lo ∧ y.lo ≤ y.hi ∧ y.hi ≤ days) ∧ (0 ≤ y.logs ∧ y.logs ≤ 10000) ∧ (1 ≤ y.ready ∧ y.ready ≤ days)) : Fit days (l.set i y) := by
  have hl : (l.set i y).length = l.length := List.length_set ..
  have ho : ∀ (j : Nat) (x : Rch), (l.set i y)[j]? = some x → (j = i ∧ x = y) ∨ l[j]? = some x := fun j x hx => by
    by_cases e : j = i
    · subst e
      rw [List.getElem?_set_self hi] at hx
      injection hx with hx
      exact .inl ⟨rfl, hx.symm⟩
    · rw [List.getElem?_set_ne (Ne.symm e)] at hx
      exact .inr hx
  refine ⟨F.d1, F.d2, by rw [hl]; exact F.n1, by rw [hl]; exact F.n2, fun j x hx => ?_, fun j x hx => ?_, fun j x hx => ?_, fun j x hx => ?_, fun j x hx => ?_, fun j x hx => ?_, fun j x hx => ?_⟩
  · rw [hl]; rcases ho j x hx with ⟨rfl, rfl⟩ | h2
    · exact h.1
    · exact F.down j x h2
  · rcases ho j x hx with ⟨rfl, rfl⟩ | h2
    · exact h.2.1
    · exact F.pass j x h2
  · rcases ho j x hx with ⟨rfl, rfl⟩ | h2
    · exact h.2.2.1
    · exact F.takes j x h2
  · rcases ho j x hx with ⟨rfl, rfl⟩ | h2
    · exact h.2.2.2.1
    · exact F.every j x h2
  · rcases ho j x hx with ⟨rfl, rfl⟩ | h2
    · exact h.2.2.2.2.1
    · exact F.water j x h2
  · rcases ho j x hx with ⟨rfl, rfl⟩ | h2
    · exact h.2.2.2.2.2.1
    · exact F.logs j x h2
  · rcases ho j x hx with ⟨rfl, rfl⟩ | h2
    · exact h.2.2.2.2.2.2
    · exact F.ready j x h2
def widerL (l : List Rch) (i : Nat) : List Rch := l.set i { rivP l i with pass := (rivP l i).pass + 1 }
def laterL (l : List Rch) (i : Nat) (r : Int) : List Rch := l.set i { rivP l i with ready := r }
/-- A river that is valid itself. -/
theorem strict_pass {days : Int} {l : List Rch} (h : riverE days l = 0) {i : Nat} {x : Rch} (hx : l[i]? = some x) : x.pass ≤ 1000 := by
  unfold riverE at h
  by_cases c1 : days < 1 ∨ 40 < days
  · rw [if_pos c1] at h; cases h
  rw [if_neg c1] at h
  by_cases c2 : l.length < 1 ∨ 8 < l.length
  · rw [if_pos c2] at h; cases h
  rw [if_neg c2] at h
  by_cases c3 : downs l l.length = false
  · rw [if_pos c3] at h; cases h
  rw [if_neg c3] at h
  by_cases c4 : ranges days l l.length = false
  · rw [if_pos c4] at h; cases h
  have c4' : ranges days l l.length = true := by simpa using c4
  unfold ranges at c4'
  have h1 := all_range_get c4' (List.getElem?_eq_some_iff.1 hx).1
  have h2 : l.getD i zeroR = x := by simp [List.getD, hx]
  rw [h2] at h1
  simp only [rangedB, Bool.and_eq_true, decide_eq_true_eq] at h1
  exact h1.1.1.2.1
theorem fit_wider {days : Int} {l : List Rch} (h : riverE days l = 0) {i : Nat} (hi : i < l.length) : Fit days (widerL l i) := by
  have F := fit_of h
  obtain ⟨x, hx⟩ := get_at hi
  have hp := strict_pass h hx
  have h1 := F.pass i x hx
  refine fit_set F hi ?_
  rw [riv_at hx]
  exact ⟨F.down i x hx, ⟨by simp only; omega, by simp only; omega⟩, F.takes i x hx, F.every i x hx, F.water i x hx, F.logs i x hx, F.ready i x hx⟩
theorem fit_later {days : Int} {l : List Rch} (F : Fit days l) {i : Nat} (hi : i < l.length) {r : Int} (hr : 1 ≤ r ∧ r ≤ days) : Fit days (laterL l i r) := by
  obtain ⟨x, hx⟩ := get_at hi
  refine fit_set F hi ?_
  rw [riv_at hx]
  exact ⟨F.down i x hx, F.pass i x hx, F.takes i x hx, F.every i x hx, F.water i x hx, F.logs i x hx, hr⟩
theorem later_same {l : List Rch} {i : Nat} {x : Rch} (hx : l[i]? = some x) : laterL l i x.ready = l := by
  unfold laterL
  rw [riv_at hx]
  apply List.ext_getElem?
  intro j
  by_cases e : j = i
  · subst e; rw [List.getElem?_set_self (List.getElem?_eq_some_iff.1 hx).1, hx]
  · rw [List.getElem?_set_ne (Ne.symm e)]
theorem later_len (l : List Rch) (i : Nat) (r : Int) : (laterL l i r).length = l.length := List.length_set ..
/-- Logs that are ready later: no more come. -/
theorem later_mono {D : Nat} {l : List Rch} (F : Fit (D : Int) l) {i : Nat} (hi : i < l.length) {r s : Int} (h1 : 1 ≤ r) (hrs : r ≤ s) (hs : s ≤ D) {day : Nat} (hday : 1 ≤ day ∧ day ≤ D) : mostE D (laterL l i s) (day : Int) ≤ mostE D (laterL l i r) (day : Int) := by
  refine most_mono (fit_later F hi ⟨by omega, hs⟩) (fit_later F hi ⟨h1, by omega⟩) (by rw [later_len, later_len]) hday fun G hG => ?_
  rw [later_len, later_len]
  unfold bound
  refine sumN_le fun j hj => ?_
  obtain ⟨x, hx⟩ := get_at hi
  have hlg := F.logs i x hx
  have hd : ∀ r j, (rivP (laterL l i r) j).down = (rivP l j).down := fun r j => by
    unfold laterL; rw [riv_set hi]; split
    · rename_i e; subst e; rfl
    · rfl
  have hb : ∀ r, before (rivP (laterL l i r)) G day j = before (rivP l) G day j := fun r => by unfold before; rw [hd]
  unfold cutAt
  rw [hb, hb]
  unfold laterL
  rw [riv_set hi, riv_set hi]
  by_cases e : j = i
  · subst e
    simp only [if_true, riv_at hx]
    have ht : ∀ r : Int, thr { x with ready := r } (G j) (before (rivP l) G day j) = thr x (G j) (before (rivP l) G day j) := fun _ => rfl
    rw [ht s, ht r]
    by_cases p : s < (G j : Int)
    · rw [if_pos p, if_pos (by omega)]; exact Int.le_refl _
    · rw [if_neg p]; split <;> omega
  · simp only [e, if_false]; exact Int.le_refl _

/-- The latest day up to one for which something holds. -/
def latD (f : Nat → Bool) : Nat → Nat
  | 0 => 0
  | n + 1 => if f (n + 1) = true then n + 1 else latD f n
theorem latD_at {f : Nat → Bool} {r : Nat} (hr : f r = true) (h1 : 1 ≤ r) : ∀ n, r ≤ n → (∀ s, r < s → s ≤ n → f s = false) → latD f n = r
  | 0, h, _ => by omega
  | n + 1, h, hs => by
    unfold latD
    by_cases e : r = n + 1
    · subst e; rw [if_pos hr]
    · rw [if_neg (by rw [hs (n + 1) (by omega) (Nat.le_refl _)]; decide)]
      exact latD_at hr h1 n (by omega) fun s a b => hs s a (by omega)
def latF (D : Nat) (l : List Rch) (day : Int) (i : Nat) (s : Nat) : Bool := decide (mostE D (laterL l i (s : Int)) day = mostE D l day)
/-- How late logs may be ready. -/
def latN (D : Nat) (l : List Rch) (day : Int) (i : Nat) : Nat := latD (latF D l day i) D
theorem latN_is {D : Nat} {l : List Rch} (F : Fit (D : Int) l) {i : Nat} {x : Rch} (hx : l[i]? = some x) {day : Nat} (hday : 1 ≤ day ∧ day ≤ D) {r : Nat} (h1 : x.ready ≤ (r : Int)) (h2 : r ≤ D) (h3 : ¬ mostE D (laterL l i (r : Int)) (day : Int) < mostE D l (day : Int)) (h4 : r < D → mostE D (laterL l i ((r : Int) + 1)) (day : Int) < mostE D l (day : Int)) : latN D l (day : Int) i = r := by
  have hi := (List.getElem?_eq_some_iff.1 hx).1
  have hrd := F.ready i x hx
  have hm := later_mono F hi hrd.1 h1 (by omega) hday
  rw [later_same hx] at hm
  refine latD_at (by unfold latF; simp only [decide_eq_true_eq]; omega) (by omega) D h2 fun s hs1 hs2 => ?_
  have h5 := h4 (by omega)
  have h6 := later_mono F hi (r := (r : Int) + 1) (s := (s : Int)) (by omega) (by omega) (by omega) hday
  unfold latF
  simp only [decide_eq_false_iff_not]
  omega
def worthE (days : Int) (l : List Rch) (day reach : Int) : Int := if reachedE days l day reach = 0 then mostE days (widerL l reach.toNat) day - mostE days l day else 0
def latestE (days : Int) (l : List Rch) (day reach : Int) : Int := if reachedE days l day reach = 0 then (latN days.toNat l day reach.toNat : Int) else 0
theorem reached_zero {days : Int} {l : List Rch} {day reach : Int} (h : reachedE days l day reach = 0) : askedE days l day = 0 ∧ 0 ≤ reach ∧ reach < (l.length : Int) := by
  unfold reachedE at h
  by_cases h0 : askedE days l day = 0
  · have hn : ¬ (askedE days l day ≠ 0) := by simpa using h0
    rw [if_neg hn] at h
    refine ⟨h0, ?_⟩
    by_cases h1 : reach < 0 ∨ (l.length : Int) ≤ reach
    · rw [if_pos h1] at h; cases h
    · omega
  · rw [if_pos h0] at h; exact absurd h h0

end Go.Proofs.Ytbnmjbmlejifcaa
