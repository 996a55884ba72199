/- A river that is moved, one that is as many times as great, and one with another reach put in (plain). -/
import Derived.Test.YtbnmjbmlejifcaaLawd
set_option linter.all false
namespace Go.Proofs.Ytbnmjbmlejifcaa

theorem day_asked {D : Nat} {l : List Rch} (h0 : riverE (D : Int) l = 0) {t : Int} (h1 : 1 ≤ t) (h2 : t ≤ (D : Int)) : askedE (D : Int) l t = 0 := by
  unfold askedE
  rw [if_neg (by simpa using h0), if_neg (by omega)]
theorem river_mk {days : Int} {l : List Rch} (hd : 1 ≤ days ∧ days ≤ 40) (hn : 1 ≤ l.length ∧ l.length ≤ 8) (h1 : ∀ i, i < l.length → downOk l.length i (rivP l i) = true) (h2 : ∀ i, i < l.length → rangedB (rivP l i) days = true) : riverE days l = 0 := by
  have e1 : downs l l.length = true := by
    unfold downs
    rw [List.all_eq_true]
    exact fun j hj => h1 j (List.mem_range.1 hj)
  have e2 : ranges days l l.length = true := by
    unfold ranges
    rw [List.all_eq_true]
    exact fun j hj => h2 j (List.mem_range.1 hj)
  unfold riverE
  rw [if_neg (by omega), if_neg (by omega), e1, e2, if_neg (by decide), if_neg (by decide)]
theorem ranged_mk {days : Int} {x : Rch} (h : (0 ≤ x.pass ∧ x.pass ≤ 1000) ∧ (0 ≤ x.takes ∧ x.takes ≤ 10) ∧ (1 ≤ x.every ∧ x.every ≤ 10) ∧ (1 ≤ x.lo ∧ x.lo ≤ x.hi ∧ x.hi ≤ days) ∧ (0 ≤ x.logs ∧ x.logs ≤ 10000) ∧ (1 ≤ x.ready ∧ x.ready ≤ days)) : rangedB x days = true := by
  simp only [rangedB, Bool.and_eq_true, decide_eq_true_eq]
  omega
theorem reach_of {days : Int} {l : List Rch} (h : riverE days l = 0) {i : Nat} (hi : i < l.length) : ((rivP l i).down = -1 ∨ (i : Int) < (rivP l i).down ∧ (rivP l i).down < (l.length : Int)) ∧ (0 ≤ (rivP l i).pass ∧ (rivP l i).pass ≤ 1000) ∧ (0 ≤ (rivP l i).takes ∧ (rivP l i).takes ≤ 10) ∧ (1 ≤ (rivP l i).every ∧ (rivP l i).every ≤ 10) ∧ (1 ≤ (rivP l i).lo ∧ (rivP l i).lo ≤ (rivP l i).hi ∧ (rivP l i).hi ≤ days) ∧ (0 ≤ (rivP l i).logs ∧ (rivP l i).logs ≤ 10000) ∧ (1 ≤ (rivP l i).ready ∧ (rivP l i).ready ≤ days) := by
  obtain ⟨x, hx⟩ := get_at hi
  have F := fit_of h
  have h1 := strict_pass h hx
  have h2 := F.pass i x hx
  rw [riv_at hx]
  exact ⟨F.down i x hx, by omega, F.takes i x hx, F.every i x hx, F.water i x hx, F.logs i x hx, F.ready i x hx⟩
theorem riv_map (f : Rch → Rch) {l : List Rch} {i : Nat} (hi : i < l.length) : rivP (l.map f) i = f (rivP l i) := by
  obtain ⟨x, hx⟩ := get_at hi
  have h2 : (l.map f)[i]? = some (f x) := by rw [List.getElem?_map, hx]; rfl
  rw [riv_at hx, riv_at h2]
/-- What can come, by any plan that is early. -/
theorem most_by {D : Nat} {l : List Rch} (F : Fit (D : Int) l) {Q : Nat → Nat → Int} (E : IsEarly (rivP l) l.length D Q) {t : Int} (ht : t ≤ (D : Int)) : mostE D l t = brought (rivP l) l.length Q t :=
  brought_congr (D := D) (fun u hu => (riv_of F).takes u hu) (early_unique (fun u hu => (riv_of F).takes u hu) (early_of F) E) ht

/-! ### Some days later -/
def movedR (k : Int) (x : Rch) : Rch := { x with ready := x.ready + k, lo := x.lo + k, hi := x.hi + k }
def movedL (l : List Rch) (k : Int) : List Rch := l.map (movedR k)
/-- A plan some days later. -/
def laterP (k : Nat) (P : Nat → Nat → Int) (i d : Nat) : Int := if d ≤ k then 0 else P i (d - k)
theorem gone_later (k : Nat) (P : Nat → Nat → Int) (i : Nat) (t : Int) : gone (laterP k P) i t = gone P i (t - k) := by
  unfold gone
  have hz : ∀ m, m ≤ k → sumN (fun d => laterP k P i (d + 1)) m = 0 := fun m hm => by
    rw [← sumN_zero m]
    exact sumN_congr fun d hd => by unfold laterP; rw [if_pos (by omega)]
  by_cases h : t ≤ k
  · rw [hz _ (by omega), show (t - (k : Int)).toNat = 0 by omega]; rfl
  · rw [show t.toNat = k + (t - (k : Int)).toNat by omega, sumN_split, hz k (Nat.le_refl _), Int.zero_add]
    exact sumN_congr fun d hd => by
      show laterP k P i (k + d + 1) = _
      unfold laterP
      rw [if_neg (by omega), show k + d + 1 - k = d + 1 by omega]
section
variable {R R' : Nat → Rch} {n D : Nat} {k : Nat} {P : Nat → Nat → Int}
theorem come_later (hR : ∀ u, u < n → R' u = movedR k (R u)) {i : Nat} (hi : i < n) (t : Int) : come R' (laterP k P) i t = come R P i (t - k) := by
  unfold come
  rw [hR i hi]
  congr 1
  · show (if (R i).ready + (k : Int) ≤ t then (R i).logs else 0) = _
    by_cases h : (R i).ready ≤ t - k
    · rw [if_pos h, if_pos (by omega)]
    · rw [if_neg h, if_neg (by omega)]
  · refine sumN_congr fun u hu => ?_
    rw [hR u (by omega), gone_later]
    show (if (R u).down = (i : Int) then gone P u (t - (R u).takes - k) else 0) = _
    rw [show t - (R u).takes - (k : Int) = t - k - (R u).takes by omega]
theorem brought_later (hR : ∀ u, u < n → R' u = movedR k (R u)) (t : Int) : brought R' n (laterP k P) t = brought R n P (t - k) := by
  unfold brought
  refine sumN_congr fun u hu => ?_
  rw [hR u (by omega), gone_later]
  show (if (R u).down = -1 then gone P u (t - (R u).takes - k) else 0) = _
  rw [show t - (R u).takes - (k : Int) = t - k - (R u).takes by omega]
theorem early_later (hR : ∀ u, u < n → R' u = movedR k (R u)) (hlo : ∀ u, u < n → 1 ≤ (R u).lo) (E : IsEarly R n D P) : IsEarly R' n (D + k) (laterP k P) := by
  intro i d hi hd
  rw [come_later hR hi, gone_later, hR i hi]
  by_cases h : d < k
  · have := hlo i hi
    have e : openB (movedR k (R i)) ((d : Int) + 1) = false := by
      unfold openB movedR
      have : decide ((R i).lo + (k : Int) ≤ (d : Int) + 1) = false := by rw [decide_eq_false_iff_not]; omega
      rw [this]; rfl
    rw [e, if_neg (by decide)]
    unfold laterP
    rw [if_pos (by omega)]
  · obtain ⟨e, rfl⟩ : ∃ e, d = k + e := ⟨d - k, by omega⟩
    have h1 : laterP k P i (k + e + 1) = P i (e + 1) := by
      unfold laterP
      rw [if_neg (by omega), show k + e + 1 - k = e + 1 by omega]
    have h2 : openB (movedR k (R i)) (((k + e : Nat) : Int) + 1) = openB (R i) ((e : Int) + 1) := by
      unfold openB movedR
      dsimp only
      rw [show ((k + e : Nat) : Int) + 1 - ((R i).lo + k) = (e : Int) + 1 - (R i).lo by omega]
      congr 2
      · exact decide_eq_decide.2 (by omega)
      · exact decide_eq_decide.2 (by omega)
    rw [h1, h2, E i e hi (by omega), show ((k + e : Nat) : Int) + 1 - (k : Int) = (e : Int) + 1 by omega, show ((k + e : Nat) : Int) - (k : Int) = (e : Int) by omega]
    rfl
end
section
variable {D k : Nat} {l : List Rch}
theorem moved_river (h : riverE (D : Int) l = 0) (hk : D + k ≤ 40) : riverE ((D + k : Nat) : Int) (movedL l k) = 0 := by
  have F := fit_of h
  have hd := F.d1
  have hn1 := F.n1
  have hn2 := F.n2
  have hlen : (movedL l k).length = l.length := List.length_map ..
  refine river_mk (by omega) (by omega) (fun i hi => ?_) (fun i hi => ?_)
  · rw [hlen] at hi ⊢
    rw [movedL, riv_map _ hi]
    have := (reach_of h hi).1
    unfold downOk movedR
    exact decide_eq_true this
  · rw [hlen] at hi
    rw [movedL, riv_map _ hi]
    have := (reach_of h hi).2
    refine ranged_mk ?_
    unfold movedR
    dsimp only
    omega
theorem moved_early (h : riverE (D : Int) l = 0) : IsEarly (rivP (movedL l k)) (movedL l k).length (D + k) (laterP k (planP (planE D l))) := by
  have hlen : (movedL l k).length = l.length := List.length_map ..
  rw [hlen]
  exact early_later (fun u hu => riv_map _ hu) (fun u hu => (reach_of h hu).2.2.2.2.1.1) (early_of (fit_of h))
theorem moved_most (h : riverE (D : Int) l = 0) (hk : D + k ≤ 40) {t : Int} (ht : t ≤ (D : Int)) : mostE ((D + k : Nat) : Int) (movedL l k) (t + k) = mostE D l t := by
  have hlen : (movedL l k).length = l.length := List.length_map ..
  rw [most_by (fit_of (moved_river h hk)) (moved_early h) (by omega), hlen, brought_later (R := rivP l) (R' := rivP (movedL l k)) (fun u hu => riv_map _ hu), show t + (k : Int) - k = t by omega]
  rfl
theorem moved_none (h : riverE (D : Int) l = 0) (hk : D + k ≤ 40) : mostE ((D + k : Nat) : Int) (movedL l k) (k : Int) = 0 := by
  have F := fit_of h
  have h1 := moved_most h hk (t := 0) (by omega)
  rw [Int.zero_add] at h1
  rw [h1]
  unfold mostE brought
  refine Eq.trans (sumN_congr fun u hu => ?_) (sumN_zero l.length)
  have := (riv_of F).takes u hu
  rw [gone_zero _ _ (by omega)]
  split <;> rfl
theorem moved_left (h : riverE (D : Int) l = 0) (hk : D + k ≤ 40) : leftL ((D + k : Nat) : Int) (movedL l k) = leftL (D : Int) l := by
  have hlen : (movedL l k).length = l.length := List.length_map ..
  have h2 := moved_river h hk
  have F := fit_of h2
  unfold leftL
  rw [if_pos h, if_pos h2, hlen, Int.toNat_natCast, Int.toNat_natCast]
  refine List.map_congr_left fun i hi => ?_
  have hi := List.mem_range.1 hi
  have htk := fun u (hu : u < (movedL l k).length) => (riv_of F).takes u hu
  have hu := early_unique htk (early_of F) (moved_early h)
  unfold leftN
  rw [come_congr (D := D + k) (fun u hu' => htk u (by omega)) (fun u hu' => hu u (by omega)) (by omega), gone_congr (D := D + k) (hu i (by omega)) (by omega), come_later (R := rivP l) (R' := rivP (movedL l k)) (n := l.length) (fun u hu => riv_map _ hu) hi, gone_later, show ((D + k : Nat) : Int) - (k : Int) = (D : Int) by omega]
end

/-! ### As many times as great -/
def timesR (t : Int) (x : Rch) : Rch := { x with pass := t * x.pass, logs := t * x.logs }
def timesL (t : Int) (l : List Rch) : List Rch := l.map (timesR t)
def timesP (t : Int) (P : Nat → Nat → Int) (i d : Nat) : Int := t * P i d
theorem mul_min (t a b : Int) (h : 0 ≤ t) : min (t * a) (t * b) = t * min a b := by
  by_cases hab : a ≤ b
  · have := Int.mul_le_mul_of_nonneg_left hab h
    rw [Int.min_eq_left hab, Int.min_eq_left this]
  · have hba : b ≤ a := by omega
    have := Int.mul_le_mul_of_nonneg_left hba h
    rw [Int.min_eq_right hba, Int.min_eq_right this]
section
variable {R R' : Nat → Rch} {n D : Nat} {t : Int} {P : Nat → Nat → Int}
theorem gone_times (i : Nat) (d : Int) : gone (timesP t P) i d = t * gone P i d := by
  unfold gone
  rw [← sumN_mul]
  rfl
theorem come_times (hR : ∀ u, u < n → R' u = timesR t (R u)) {i : Nat} (hi : i < n) (d : Int) : come R' (timesP t P) i d = t * come R P i d := by
  unfold come
  rw [Int.mul_add, ← sumN_mul, hR i hi]
  congr 1
  · show (if (R i).ready ≤ d then t * (R i).logs else 0) = _
    split <;> simp
  · refine sumN_congr fun u hu => ?_
    rw [hR u (by omega), gone_times]
    show (if (R u).down = (i : Int) then t * gone P u (d - (R u).takes) else 0) = _
    split <;> simp
theorem brought_times (hR : ∀ u, u < n → R' u = timesR t (R u)) (d : Int) : brought R' n (timesP t P) d = t * brought R n P d := by
  unfold brought
  rw [← sumN_mul]
  refine sumN_congr fun u hu => ?_
  rw [hR u hu, gone_times]
  show (if (R u).down = -1 then t * gone P u (d - (R u).takes) else 0) = _
  split <;> simp
theorem early_times (ht : 0 ≤ t) (hR : ∀ u, u < n → R' u = timesR t (R u)) (E : IsEarly R n D P) : IsEarly R' n D (timesP t P) := by
  intro i d hi hd
  rw [come_times hR hi, gone_times, hR i hi]
  show t * P i (d + 1) = if openB (R i) ((d : Int) + 1) = true then min (t * (R i).pass) _ else 0
  rw [E i d hi hd, ← Int.mul_sub, mul_min _ _ _ ht]
  split <;> simp
theorem capN_times (x : Rch) (m : Nat) : capN (timesR t x) m = t * capN x m := by
  unfold capN
  rw [← sumN_mul]
  refine sumN_congr fun d _ => ?_
  unfold capD
  show (if openB x ((d : Int) + 1) = true then t * x.pass else 0) = _
  split <;> simp
theorem bound_times (hR : ∀ u, u < n → R' u = timesR t (R u)) (G : Nat → Nat) (day : Nat) : bound R' n G day = t * bound R n G day := by
  unfold bound
  rw [← sumN_mul]
  refine sumN_congr fun u hu => ?_
  have hb : before R' G day u = before R G day u := by
    unfold before
    rw [hR u hu]
    rfl
  unfold cutAt thr
  rw [hb, hR u hu, capN_times, capN_times, Int.mul_add, Int.mul_sub]
  show (if (R u).ready < (G u : Int) then t * (R u).logs else 0) + _ = _
  congr 1
  split <;> simp
end
section
variable {D : Nat} {l : List Rch} {t : Int}
theorem times_most (h : riverE (D : Int) l = 0) (h2 : riverE (D : Int) (timesL t l) = 0) (ht : 1 ≤ t) {d : Int} (hd : d ≤ (D : Int)) : mostE D (timesL t l) d = t * mostE D l d := by
  have hlen : (timesL t l).length = l.length := List.length_map ..
  have E : IsEarly (rivP (timesL t l)) (timesL t l).length D (timesP t (planP (planE D l))) := by
    rw [hlen]
    exact early_times (by omega) (fun u hu => riv_map _ hu) (early_of (fit_of h))
  rw [most_by (fit_of h2) E hd, hlen, brought_times (R := rivP l) (R' := rivP (timesL t l)) (fun u hu => riv_map _ hu)]
  rfl
theorem cc_ok (h : riverE (D : Int) l = 0) {d : Int} (hd : 1 ≤ d ∧ d ≤ (D : Int)) {f : List Int} (hf : f.length = l.length) (hb : ∀ x ∈ f, 1 ≤ x ∧ x ≤ d + 1) : ccErr (D : Int) l d f = 0 := by
  have ha := day_asked h hd.1 hd.2
  unfold ccErr
  rw [if_neg (by simpa using ha), if_neg (by simpa using hf), if_neg]
  rw [Bool.not_eq_false]
  unfold withinB
  rw [Bool.not_eq_true', List.any_eq_false]
  intro x hx
  have := hb x hx
  simp only [badB, Bool.or_eq_true, decide_eq_true_eq]
  omega
theorem times_cut (h : riverE (D : Int) l = 0) (h2 : riverE (D : Int) (timesL t l) = 0) {d : Int} (hd : 1 ≤ d ∧ d ≤ (D : Int)) {f : List Int} (hf : f.length = l.length) (hb : ∀ x ∈ f, 1 ≤ x ∧ x ≤ d + 1) : ccVal (D : Int) (timesL t l) d f = t * ccVal (D : Int) l d f := by
  have hlen : (timesL t l).length = l.length := List.length_map ..
  unfold ccVal
  rw [cc_ok h hd hf hb, cc_ok h2 hd (hf.trans hlen.symm) hb, if_pos rfl, if_pos rfl, hlen, bound_times (R := rivP l) (R' := rivP (timesL t l)) (fun u hu => riv_map _ hu)]
theorem byD_times (ht : 1 ≤ t) {f g : Nat → Int} {n : Int} : ∀ (m d : Nat), (∀ j, j < m → g (d + j) = t * f (d + j)) → byD g (t * n) m d = byD f n m d
  | 0, _, _ => rfl
  | m + 1, d, h => by
    have h0 := h 0 (by omega)
    have hi : t * n ≤ g d ↔ n ≤ f d := by
      rw [Nat.add_zero] at h0
      rw [h0]
      exact ⟨fun h => Int.le_of_mul_le_mul_left h (by omega), fun h => Int.mul_le_mul_of_nonneg_left h (by omega)⟩
    have ih := byD_times ht (f := f) (g := g) (n := n) m (d + 1) fun j hj => by have := h (j + 1) (by omega); rwa [show d + (j + 1) = d + 1 + j by omega] at this
    unfold byD
    by_cases c : n ≤ f d
    · rw [if_pos c, if_pos (hi.2 c)]
    · rw [if_neg c, if_neg (fun x => c (hi.1 x)), ih]
theorem times_by (h : riverE (D : Int) l = 0) (h2 : riverE (D : Int) (timesL t l) = 0) (ht : 1 ≤ t) {n : Int} (hn : 0 ≤ n) : byErr (D : Int) (timesL t l) (t * n) = byErr (D : Int) l n ∧ byE (D : Int) (timesL t l) (t * n) = byE (D : Int) l n ∧ (byErr (D : Int) l n = 0 ∨ byErr (D : Int) l n = 20) := by
  have hN : byN (D : Int) (timesL t l) (t * n) = byN (D : Int) l n := by
    unfold byN
    rw [Int.toNat_natCast]
    exact byD_times ht D 1 fun j hj => times_most h h2 ht (by omega)
  have hp : 0 ≤ t * n := Int.mul_nonneg (by omega) hn
  have e1 : byErr (D : Int) (timesL t l) (t * n) = byErr (D : Int) l n := by
    unfold byErr
    rw [hN, if_neg (show ¬ (riverE (D : Int) (timesL t l) ≠ 0) by simpa using h2), if_neg (show ¬ t * n < 0 by omega), if_neg (show ¬ (riverE (D : Int) l ≠ 0) by simpa using h), if_neg (show ¬ n < 0 by omega)]
  refine ⟨e1, ?_, ?_⟩
  · unfold byE; rw [e1, hN]
  · unfold byErr
    rw [if_neg (by simpa using h), if_neg (by omega)]
    split
    · exact .inr rfl
    · exact .inl rfl
end

/-! ### Rivers that grow -/
open Go Go.RowKit Go.Proofs
theorem own_sl {w : World} {base e size n : Nat} {v : Value} {xs : List Value} (h : w.ownsRow base e size v n xs) : ∃ A c, v = .slice A n c := by
  rcases h.2 with ⟨rfl, h0⟩ | ⟨g, cap, cur, rfl, _⟩
  · subst h0; exact ⟨none, 0, rfl⟩
  · exact ⟨_, _, rfl⟩
theorem own_some {w : World} {base e size n : Nat} {v : Value} {xs : List Value} (h : w.ownsRow base e size v (n + 1) xs) : ∃ g c, v = .slice (some ⟨g, 0, none⟩) (n + 1) c := by
  rcases h.2 with ⟨_, h0⟩ | ⟨g, cap, cur, rfl, _⟩
  · cases h0
  · exact ⟨_, _, rfl⟩
/-- A row of reaches of the call's own reads as the list. -/
theorem own_rchs {w : World} {base n : Nat} {v : Value} {l : List Rch} (hl : l.length = n) (h : w.ownsRow base 59 8 v n (rcs l)) : Rchs w v l := by
  subst hl
  rcases h.2 with ⟨rfl, h0⟩ | ⟨g, cap, cur, rfl, _, hg, hc, _, _, ht⟩
  · exact .inl ⟨rfl, List.eq_nil_of_length_eq_zero h0⟩
  · refine .inr ⟨g, 0, cap, rfl, hc, (Array.getElem?_eq_some_iff.1 hg).1, fun i x hx => ?_⟩
    have hcc : ∀ j, j < 8 → ∀ u, (rc x)[j]? = some u → w.cell? ⟨g, 0 + i * 8 + j, none⟩ = some u := fun j hj u hu => by
      have h2 := h.cells (g := g) rfl (i * 8 + j) u ((rcs_at hx j hj).trans hu)
      rw [Addr.add_lit] at h2
      rw [show 0 + i * 8 + j = 0 + (i * 8 + j) by omega]
      exact h2
    exact ⟨hcc 0 (by omega) _ rfl, hcc 1 (by omega) _ rfl, hcc 2 (by omega) _ rfl, hcc 3 (by omega) _ rfl, hcc 4 (by omega) _ rfl, hcc 5 (by omega) _ rfl, hcc 6 (by omega) _ rfl, hcc 7 (by omega) _ rfl⟩
theorem news_new (W : World) (cs : List Value) (t : TypeId) : ∀ j u, cs[j]? = some u → (W.alloc (.cells cs.toArray t)).cell? ((⟨W.heap.size, 0, none⟩ : Addr).add j) = some u := fun j u h => by
  rw [Addr.add_lit, Nat.zero_add, cell_of_heap (World.alloc_heap_new W _)]
  simpa using h
theorem rc_one (x : Rch) : ∀ u ∈ rc x, u.oneCell' = true := fun u hu => by
  simp only [rc, List.mem_cons, List.not_mem_nil, or_false] at hu
  rcases hu with rfl | rfl | rfl | rfl | rfl | rfl | rfl | rfl <;> rfl
theorem rcs_snoc (l : List Rch) (x : Rch) : rcs (l ++ [x]) = rcs l ++ rc x := by
  unfold rcs
  rw [List.flatMap_append]
  simp
theorem map_take_succ (f : Rch → Rch) {l : List Rch} {k : Nat} {x : Rch} (hx : l[k]? = some x) : (l.take (k + 1)).map f = (l.take k).map f ++ [f x] := by
  rw [List.take_add_one, hx, List.map_append]
  rfl
theorem take_len {l : List Rch} {k : Nat} (h : k ≤ l.length) (f : Rch → Rch) : ((l.take k).map f).length = k := by
  rw [List.length_map, List.length_take]; omega

end Go.Proofs.Ytbnmjbmlejifcaa
