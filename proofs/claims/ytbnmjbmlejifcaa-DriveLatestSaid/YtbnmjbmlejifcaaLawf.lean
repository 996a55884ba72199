/- A reach in another's place (plain): what more of it brings, how much a wider one, till when it may be late. -/
import Derived.Test.YtbnmjbmlejifcaaLawe
set_option linter.all false
namespace Go.Proofs.Ytbnmjbmlejifcaa

theorem river_set {days : Int} {l : List Rch} (h : riverE days l = 0) {i : Nat} (hi : i < l.length) {y : Rch} (hd : y.down = (rivP l i).down) (hr : rangedB y days = true) : riverE days (l.set i y) = 0 := by
  unfold riverE at h ⊢
  rw [List.length_set]
  by_cases c1 : days < 1 ∨ 40 < days
  · rw [if_pos c1] at h; cases h
  rw [if_neg c1] at h ⊢
  by_cases c2 : l.length < 1 ∨ 8 < l.length
  · rw [if_pos c2] at h; cases h
  rw [if_neg c2] at h ⊢
  by_cases c3 : downs l l.length = false
  · rw [if_pos c3] at h; cases h
  rw [if_neg c3] at h
  by_cases c4 : ranges days l l.length = false
  · rw [if_pos c4] at h; cases h
  have c3' : downs l l.length = true := by simpa using c3
  have c4' : ranges days l l.length = true := by simpa using c4
  have e3 : downs (l.set i y) l.length = true := by
    unfold downs
    rw [List.all_eq_true]
    intro j hj
    have h1 : downOk l.length j (rivP l j) = true := all_range_get c3' (List.mem_range.1 hj)
    rw [List.length_set]
    show downOk l.length j (rivP (l.set i y) j) = true
    rw [riv_set hi]
    by_cases e : j = i
    · subst e
      rw [if_pos rfl]
      unfold downOk at h1 ⊢
      rw [hd]
      exact h1
    · rw [if_neg e]; exact h1
  have e4 : ranges days (l.set i y) l.length = true := by
    unfold ranges
    rw [List.all_eq_true]
    intro j hj
    have h1 : rangedB (rivP l j) days = true := all_range_get c4' (List.mem_range.1 hj)
    show rangedB (rivP (l.set i y) j) days = true
    rw [riv_set hi]
    by_cases e : j = i
    · rw [if_pos e]; exact hr
    · rw [if_neg e]; exact h1
  rw [e3, e4, if_neg (by decide), if_neg (by decide)]
theorem ranged_of {days : Int} {x : Rch} (h : (0 ≤ x.pass ∧ x.pass ≤ 1000) ∧ (0 ≤ x.takes ∧ x.takes ≤ 10) ∧ (1 ≤ x.every ∧ x.every ≤ 10) ∧ (1 ≤ x.lo ∧ x.lo ≤ x.hi ∧ x.hi ≤ days) ∧ (0 ≤ x.logs ∧ x.logs ≤ 10000) ∧ (1 ≤ x.ready ∧ x.ready ≤ days)) : rangedB x days = true := by
  simp only [rangedB, Bool.and_eq_true, decide_eq_true_eq]
  omega
/-- What a valid river's reach is like. -/
theorem reach_at {days : Int} {l : List Rch} (h : riverE days l = 0) {i : Nat} {x : Rch} (hx : l[i]? = some x) : (0 ≤ x.pass ∧ x.pass ≤ 1000) ∧ (0 ≤ x.takes ∧ x.takes ≤ 10) ∧ (1 ≤ x.every ∧ x.every ≤ 10) ∧ (1 ≤ x.lo ∧ x.lo ≤ x.hi ∧ x.hi ≤ days) ∧ (0 ≤ x.logs ∧ x.logs ≤ 10000) ∧ (1 ≤ x.ready ∧ x.ready ≤ days) := by
  have F := fit_of h
  have h1 := strict_pass h hx
  have h2 := F.pass i x hx
  exact ⟨by omega, F.takes i x hx, F.every i x hx, F.water i x hx, F.logs i x hx, F.ready i x hx⟩

theorem capN_diff (x : Rch) {k m : Nat} (h : k ≤ m) : capN x m - capN x k = sumN (fun d => capD x (((k + d : Nat) : Int) + 1)) (m - k) := by
  have := sumN_split (fun d => capD x ((d : Int) + 1)) k (m - k)
  rw [show k + (m - k) = m by omega] at this
  unfold capN
  omega
theorem thr_more {x y : Rch} (ht : y.takes ≤ x.takes) (hc : ∀ d, capD x d ≤ capD y d) (h0 : ∀ d, 0 ≤ capD y d) (f : Nat) (b : Int) : thr x f b ≤ thr y f b := by
  unfold thr
  have h1 : f - 1 ≤ max (f - 1) (b - x.takes - 1).toNat := by omega
  have h2 : f - 1 ≤ max (f - 1) (b - y.takes - 1).toNat := by omega
  rw [capN_diff x h1, capN_diff y h2]
  have h3 := sumN_le (f := fun d => capD x (((f - 1 + d : Nat) : Int) + 1)) (g := fun d => capD y (((f - 1 + d : Nat) : Int) + 1)) (n := max (f - 1) (b - x.takes - 1).toNat - (f - 1)) fun d _ => hc _
  have h4 := sumN_mono (f := fun d => capD y (((f - 1 + d : Nat) : Int) + 1)) (m := max (f - 1) (b - x.takes - 1).toNat - (f - 1)) (n := max (f - 1) (b - y.takes - 1).toNat - (f - 1)) (fun d _ => h0 _) (by omega)
  omega
theorem capD_pos {x : Rch} (h : 0 ≤ x.pass) (d : Int) : 0 ≤ capD x d := by unfold capD; split <;> omega
section
variable {D : Nat} {l : List Rch}
theorem set_down {i : Nat} (hi : i < l.length) {y : Rch} (hd : y.down = (rivP l i).down) (j : Nat) : (rivP (l.set i y) j).down = (rivP l j).down := by
  rw [riv_set hi]
  split
  · rename_i e; subst e; exact hd
  · rfl
theorem set_before {i : Nat} (hi : i < l.length) {y : Rch} (hd : y.down = (rivP l i).down) (G : Nat → Nat) (day j : Nat) : before (rivP (l.set i y)) G day j = before (rivP l) G day j := by
  unfold before
  rw [set_down hi hd]
/-- A reach that is no less brings no less. -/
theorem more_le (F : Fit (D : Int) l) {i : Nat} (hi : i < l.length) {y : Rch} (F' : Fit (D : Int) (l.set i y)) (hd : y.down = (rivP l i).down) (hg : (rivP l i).logs ≤ y.logs) (hr : y.ready ≤ (rivP l i).ready) (ht : y.takes ≤ (rivP l i).takes) (hp : 0 ≤ y.pass) (hc : ∀ d, capD (rivP l i) d ≤ capD y d) {day : Nat} (hday : 1 ≤ day ∧ day ≤ D) : mostE D l (day : Int) ≤ mostE D (l.set i y) (day : Int) := by
  refine most_mono F F' (List.length_set ..).symm hday fun G hG => ?_
  rw [List.length_set]
  unfold bound
  refine sumN_le fun j hj => ?_
  unfold cutAt
  rw [set_before hi hd, riv_set hi]
  by_cases e : j = i
  · subst e
    rw [if_pos rfl]
    have h1 := thr_more ht hc (capD_pos hp) (G j) (before (rivP l) G day j)
    obtain ⟨x, hx⟩ := get_at hi
    have h2 := F.logs j x hx
    rw [riv_at hx] at hg hr h1 ⊢
    split <;> split <;> omega
  · rw [if_neg e]; exact Int.le_refl _

/-! ### Worth -/
def openN (x : Rch) (t : Nat) : Int := sumN (fun d => if openB x ((d : Int) + 1) = true then 1 else 0) t
theorem capN_open (x : Rch) (t : Nat) : capN x t = x.pass * openN x t := by
  unfold capN openN
  rw [← sumN_mul]
  refine sumN_congr fun d _ => ?_
  unfold capD
  split <;> simp
theorem openN_mono (x : Rch) {k m : Nat} (h : k ≤ m) : openN x k ≤ openN x m := sumN_mono (fun d _ => by split <;> decide) h
theorem openN_nonneg (x : Rch) (m : Nat) : 0 ≤ openN x m := sumN_nonneg fun d _ => by split <;> decide
/-- How many open days of a reach a cut counts. -/
def countN (x : Rch) (f : Nat) (b : Int) : Int := openN x (max (f - 1) (b - x.takes - 1).toNat) - openN x (f - 1)
theorem thr_count (x : Rch) (p : Int) (f : Nat) (b : Int) : thr { x with pass := p } f b = p * countN x f b := by
  unfold thr countN
  rw [capN_open, capN_open, Int.mul_sub]
  rfl
theorem count_range {x : Rch} (ht : 0 ≤ x.takes) {f : Nat} {b : Int} {day : Nat} (hf : 1 ≤ f ∧ f ≤ day + 1) (hb : b ≤ (day : Int) + 1) (hd : day ≤ D) : 0 ≤ countN x f b ∧ countN x f b ≤ openN x D := by
  unfold countN
  have h1 := openN_mono x (k := f - 1) (m := max (f - 1) (b - x.takes - 1).toNat) (by omega)
  have h2 := openN_mono x (k := max (f - 1) (b - x.takes - 1).toNat) (m := D) (by omega)
  have h3 := openN_nonneg x (f - 1)
  omega
/-- With another Pass a cut's bound is as much more as it counts days. -/
theorem bound_pass (F : Fit (D : Int) l) {i : Nat} (hi : i < l.length) (p : Int) (G : Nat → Nat) (day : Nat) : bound (rivP (l.set i { rivP l i with pass := p })) l.length G day = bound (rivP l) l.length G day + (p - (rivP l i).pass) * countN (rivP l i) (G i) (before (rivP l) G day i) := by
  have h1 : ∀ j, j < l.length → cutAt (rivP (l.set i { rivP l i with pass := p })) G day j = cutAt (rivP l) G day j + (if j = i then (fun j => (p - (rivP l i).pass) * countN (rivP l i) (G i) (before (rivP l) G day i)) j else 0) := fun j hj => by
    unfold cutAt
    rw [set_before hi (by rfl), riv_set hi]
    by_cases e : j = i
    · subst e
      rw [if_pos rfl, if_pos rfl]
      have e1 := thr_count (rivP l j) p (G j) (before (rivP l) G day j)
      have e2 : thr (rivP l j) (G j) (before (rivP l) G day j) = (rivP l j).pass * countN (rivP l j) (G j) (before (rivP l) G day j) := thr_count (rivP l j) (rivP l j).pass (G j) (before (rivP l) G day j)
      dsimp only
      rw [e1, e2, Int.sub_mul]
      omega
    · rw [if_neg e, if_neg e]; omega
  unfold bound
  rw [sumN_congr h1, sumN_add, sumN_one (c := fun j => (p - (rivP l i).pass) * countN (rivP l i) (G i) (before (rivP l) G day i)) hi]
theorem worth_bounds (h : riverE (D : Int) l = 0) {i : Nat} (hi : i < l.length) {day : Nat} (hday : 1 ≤ day ∧ day ≤ D) : 0 ≤ mostE D (widerL l i) (day : Int) - mostE D l (day : Int) ∧ mostE D (widerL l i) (day : Int) - mostE D l (day : Int) ≤ openN (rivP l i) D := by
  have F := fit_of h
  have F' := fit_wider h hi
  obtain ⟨x, hx⟩ := get_at hi
  have hp := F.pass i x hx
  have ht := F.takes i x hx
  have hxe := riv_at hx
  have h1 : mostE D l (day : Int) ≤ mostE D (widerL l i) (day : Int) := more_le F hi F' rfl (Int.le_refl _) (Int.le_refl _) (Int.le_refl _) (by rw [hxe]; show 0 ≤ x.pass + 1; omega) (fun d => by
    rw [hxe]
    show capD x d ≤ capD { x with pass := x.pass + 1 } d
    unfold capD
    show (if openB x d = true then x.pass else 0) ≤ (if openB x d = true then x.pass + 1 else 0)
    split <;> omega) hday
  obtain ⟨G, g1, g2⟩ := most_cut F hday
  have h2 := most_bound F' hday (G := G) (by rw [show (widerL l i).length = l.length from List.length_set ..]; exact g1)
  rw [show (widerL l i).length = l.length from List.length_set ..] at h2
  have h3 := bound_pass F hi ((rivP l i).pass + 1) G day
  rw [show (rivP l i).pass + 1 - (rivP l i).pass = 1 by omega, Int.one_mul] at h3
  have hbl := (before_le (riv_of F) g1 hi).2
  have h4 := count_range (D := D) (x := rivP l i) (by rw [hxe]; omega) (g1 i hi) hbl hday.2
  have h5 : mostE D (widerL l i) (day : Int) ≤ bound (rivP (l.set i { rivP l i with pass := (rivP l i).pass + 1 })) l.length G day := h2
  omega
/-- The reach without Pass. -/
def narrowL (l : List Rch) (i : Nat) : List Rch := l.set i { rivP l i with pass := 0 }
theorem narrow_river (h : riverE (D : Int) l = 0) {i : Nat} (hi : i < l.length) : riverE (D : Int) (narrowL l i) = 0 := by
  obtain ⟨x, hx⟩ := get_at hi
  have hr := reach_at h hx
  refine river_set h hi rfl (ranged_of ?_)
  rw [riv_at hx]
  simp only
  omega
/-- The bounds of the cut that is returned. -/
theorem worth_cut {i : Nat} (hi : i < l.length) {day : Int} {o : List Int} (h0 : askedE (D : Int) l day = 0) (h : CutOk (D : Int) l day o) : ccErr (D : Int) (narrowL l i) day o = 0 ∧ (ccVal (D : Int) l day o = ccVal (D : Int) (narrowL l i) day o → (rivP l i).pass ≠ 0 → mostE D (widerL l i) day - mostE D l day = 0) := by
  obtain ⟨c1, c2⟩ := cutOk_bound h0 h
  rcases h with ⟨h1, _⟩ | ⟨_, hl, hw⟩
  · exact absurd h0 h1
  obtain ⟨g0, g1, g2⟩ := asked_zero h0
  obtain ⟨t, rfl⟩ : ∃ t : Nat, day = t := ⟨day.toNat, by omega⟩
  have F := fit_of g0
  have F' := fit_wider g0 hi
  rw [Int.toNat_natCast] at hw
  have hn := asked_day (narrow_river g0 hi) g1 g2
  have hln : (narrowL l i).length = l.length := List.length_set ..
  have hcut : IsCut l.length (cutF o) t := fun j hj => by
    obtain ⟨⟨y, h1, h2, h3⟩, _⟩ := hw j hj
    have e : cutF o j = y.toNat := by simp [cutF, List.getD, h1]
    rw [e]; omega
  have he : ccErr (D : Int) (narrowL l i) (t : Int) o = 0 := by
    unfold ccErr at c1 ⊢
    have n1 : ¬ (askedE (D : Int) (narrowL l i) (t : Int) ≠ 0) := by simpa using hn
    have n2 : ¬ (askedE (D : Int) l (t : Int) ≠ 0) := by simpa using h0
    rw [if_neg n2] at c1
    rw [if_neg n1, hln]
    exact c1
  refine ⟨he, fun hab hp => ?_⟩
  obtain ⟨x, hx⟩ := get_at hi
  have hpx := F.pass i x hx
  have htx := F.takes i x hx
  have hbl := (before_le (riv_of F) hcut hi).2
  have h4 := count_range (D := D) (x := rivP l i) (by rw [riv_at hx]; omega) (hcut i hi) hbl (by omega)
  have h3 := bound_pass F hi 0 (cutF o) t
  have h5 := bound_pass F hi ((rivP l i).pass + 1) (cutF o) t
  have hv1 : ccVal (D : Int) l (t : Int) o = bound (rivP l) l.length (cutF o) t := by unfold ccVal; rw [c1, if_pos rfl, Int.toNat_natCast]
  have hv2 : ccVal (D : Int) (narrowL l i) (t : Int) o = bound (rivP (l.set i { rivP l i with pass := 0 })) l.length (cutF o) t := by unfold ccVal; rw [he, if_pos rfl, Int.toNat_natCast, hln]; rfl
  have hz : (0 - (rivP l i).pass) * countN (rivP l i) (cutF o i) (before (rivP l) (cutF o) t i) = 0 := by omega
  have hz2 : countN (rivP l i) (cutF o i) (before (rivP l) (cutF o) t i) = 0 := by
    rcases Int.mul_eq_zero.1 hz with h | h
    · exact absurd (by omega) hp
    · exact h
  rw [hz2, Int.mul_zero] at h5
  have h2 := most_bound F' (day := t) (by omega) (G := cutF o) (by rw [show (widerL l i).length = l.length from List.length_set ..]; exact hcut)
  rw [show (widerL l i).length = l.length from List.length_set ..] at h2
  have h6 : mostE D (widerL l i) (t : Int) ≤ bound (rivP (l.set i { rivP l i with pass := (rivP l i).pass + 1 })) l.length (cutF o) t := h2
  have h7 := (worth_bounds g0 hi (day := t) (by omega)).1
  omega

/-! ### Latest -/
theorem latD_spec {f : Nat → Bool} : ∀ (n r : Nat), 1 ≤ r → r ≤ n → f r = true → f (latD f n) = true ∧ r ≤ latD f n ∧ latD f n ≤ n ∧ ∀ s, latD f n < s → s ≤ n → f s = false
  | 0, r, h1, h2, _ => by omega
  | n + 1, r, h1, h2, h3 => by
    by_cases h : f (n + 1) = true
    · rw [latD_yes (by omega) h]
      exact ⟨h, h2, Nat.le_refl _, fun s a b => by omega⟩
    · rw [latD_no (by omega) (by simpa using h)]
      have hr : r ≠ n + 1 := fun e => h (e ▸ h3)
      obtain ⟨a, b, c, d⟩ := latD_spec n r h1 (by omega) h3
      rw [show n + 1 - 1 = n from rfl]
      refine ⟨a, b, by omega, fun s p q => ?_⟩
      by_cases e : s = n + 1
      · subst e; simpa using h
      · exact d s p (by omega)
theorem later_river (h : riverE (D : Int) l = 0) {i : Nat} (hi : i < l.length) {r : Int} (h1 : 1 ≤ r) (h2 : r ≤ (D : Int)) : riverE (D : Int) (laterL l i r) = 0 := by
  obtain ⟨x, hx⟩ := get_at hi
  have hr := reach_at h hx
  refine river_set h hi rfl (ranged_of ?_)
  rw [riv_at hx]
  simp only
  omega
theorem latest_is (h : riverE (D : Int) l = 0) {i : Nat} {x : Rch} (hx : l[i]? = some x) {day : Int} (hd1 : 1 ≤ day) (hd2 : day ≤ (D : Int)) : ∃ r : Int, latestE (D : Int) l day (i : Int) = r ∧ reachedE (D : Int) l day (i : Int) = 0 ∧ x.ready ≤ r ∧ r ≤ (D : Int) ∧ (∀ s : Int, x.ready ≤ s → s ≤ r → mostE D (laterL l i s) day = mostE D l day) ∧ (r < (D : Int) → mostE D (laterL l i (r + 1)) day < mostE D l day) := by
  have F := fit_of h
  have hi := (List.getElem?_eq_some_iff.1 hx).1
  have hrd := F.ready i x hx
  have ha := asked_day h hd1 hd2
  have hre : reachedE (D : Int) l day (i : Int) = 0 := by
    unfold reachedE
    rw [if_neg (by simpa using ha), if_neg (by omega)]
  obtain ⟨t, rfl⟩ : ∃ t : Nat, day = t := ⟨day.toNat, by omega⟩
  obtain ⟨o, ho⟩ : ∃ o : Nat, x.ready = o := ⟨x.ready.toNat, by omega⟩
  have h1 : latF D l (t : Int) i o = true := by
    unfold latF
    rw [← ho, later_same hx]
    simp
  obtain ⟨a, b, c, d⟩ := latD_spec D o (by omega) (by omega) h1
  have hv : latestE (D : Int) l (t : Int) (i : Int) = (latD (latF D l (t : Int) i) D : Int) := by
    unfold latestE
    rw [hre, if_pos rfl]
    rfl
  have ha' : mostE D (laterL l i ((latD (latF D l (t : Int) i) D : Nat) : Int)) (t : Int) = mostE D l (t : Int) := by
    have := a
    unfold latF at this
    simp only [decide_eq_true_eq] at this
    exact this
  have hm := fun (r s : Int) (h1 : 1 ≤ r) (h2 : r ≤ s) (h3 : s ≤ (D : Int)) => later_mono F hi (r := r) (s := s) h1 h2 h3 (day := t) (by omega)
  refine ⟨_, hv, hre, by omega, by omega, fun s h1 h2 => ?_, fun h1 => ?_⟩
  · have m1 := hm x.ready s (by omega) h1 (by omega)
    have m2 := hm s _ (by omega) h2 (by omega)
    rw [later_same hx] at m1
    omega
  · have m1 := hm x.ready (((latD (latF D l (t : Int) i) D : Nat) : Int) + 1) (by omega) (by omega) (by omega)
    rw [later_same hx] at m1
    have e := d (latD (latF D l (t : Int) i) D + 1) (by omega) (by omega)
    have e' : ¬ mostE D (laterL l i (((latD (latF D l (t : Int) i) D + 1 : Nat) : Int))) (t : Int) = mostE D l (t : Int) := of_decide_eq_false e
    rw [show (((latD (latF D l (t : Int) i) D + 1 : Nat)) : Int) = ((latD (latF D l (t : Int) i) D : Nat) : Int) + 1 by omega] at e'
    omega
end

end Go.Proofs.Ytbnmjbmlejifcaa
