/- What is under way: by reaches and days (plain). -/
import Derived.Test.YtbnmjbmlejifcaaEpure
set_option linter.all false
namespace Go.Proofs.Ytbnmjbmlejifcaa

/-- Logs of a reach that are ready on a day. -/
def readyAt (l : List Rch) (k : Int × Int) : Int := sumN (fun j => if (j : Int) = k.1 ∧ (rivP l j).ready = k.2 then (rivP l j).logs else 0) l.length
/-- Whether what entered reach u on day s is written, behind reach i of the day d + 1. -/
def doneB (d i u : Nat) (s : Int) : Bool := decide (1 ≤ s) && (decide (s ≤ (d : Int)) || (decide (s = (d : Int) + 1) && decide (u < i)))
/-- What comes to a place on a day, of what has entered so far. -/
def arr (l : List Rch) (P : Nat → Nat → Int) (d i : Nat) (k : Int × Int) : Int :=
  readyAt l k + sumN (fun u => if (rivP l u).down = k.1 ∧ doneB d i u (k.2 - (rivP l u).takes) = true then P u (k.2 - (rivP l u).takes).toNat else 0) l.length

section
variable {days : Int} {l : List Rch} {P : Nat → Nat → Int}
theorem ready_own {j : Nat} (hj : j < l.length) (t : Int) : readyAt l ((j : Int), t) = if (rivP l j).ready = t then (rivP l j).logs else 0 := by
  unfold readyAt
  have h := sumN_one (c := fun i => if (rivP l i).ready = t then (rivP l i).logs else 0) hj
  refine Eq.trans (sumN_congr fun i _ => ?_) h
  by_cases e : i = j
  · subst e; simp
  · rw [if_neg e, if_neg (by simp only; omega)]
theorem ready_boom (l : List Rch) (t : Int) : readyAt l (-1, t) = 0 := by
  unfold readyAt
  refine Eq.trans (sumN_congr fun i _ => ?_) (sumN_zero l.length)
  rw [if_neg (by simp only; omega)]
/-- Behind one reach more. -/
theorem arr_step (d i : Nat) (hi : i < l.length) (k : Int × Int) : arr l P d (i + 1) k = arr l P d i k + if k = ((rivP l i).down, (d : Int) + 1 + (rivP l i).takes) then P i (d + 1) else 0 := by
  unfold arr
  rw [Int.add_assoc]
  congr 1
  have h := sumN_one (c := fun u => if k = ((rivP l i).down, (d : Int) + 1 + (rivP l i).takes) then P i (d + 1) else 0) hi
  rw [← h, ← sumN_add]
  refine sumN_congr fun u hu => ?_
  obtain ⟨k1, k2⟩ := k
  simp only [Prod.mk.injEq, doneB, Bool.and_eq_true, Bool.or_eq_true, decide_eq_true_eq]
  by_cases e : u = i
  · subst e
    rw [if_pos rfl]
    by_cases h1 : (rivP l u).down = k1
    · by_cases h2 : k2 - (rivP l u).takes = (d : Int) + 1
      · rw [if_pos ⟨h1, by omega, by omega⟩, if_neg (by omega), if_pos ⟨h1.symm, by omega⟩]
        rw [h2, show ((d : Int) + 1).toNat = d + 1 by omega]; omega
      · rw [if_neg (show ¬ (k1 = (rivP l u).down ∧ k2 = (d : Int) + 1 + (rivP l u).takes) by omega)]
        by_cases h3 : 1 ≤ k2 - (rivP l u).takes ∧ k2 - (rivP l u).takes ≤ (d : Int)
        · rw [if_pos ⟨h1, h3.1, .inl h3.2⟩, if_pos ⟨h1, h3.1, .inl h3.2⟩]; omega
        · rw [if_neg (by omega), if_neg (by omega)]; omega
    · rw [if_neg (fun q => h1 q.1), if_neg (fun q => h1 q.1), if_neg (fun q => h1 q.1.symm)]; omega
  · rw [if_neg e]
    by_cases h1 : (rivP l u).down = k1
    · by_cases h3 : 1 ≤ k2 - (rivP l u).takes ∧ (k2 - (rivP l u).takes ≤ (d : Int) ∨ k2 - (rivP l u).takes = (d : Int) + 1 ∧ u < i)
      · rw [if_pos ⟨h1, h3.1, by omega⟩, if_pos ⟨h1, h3.1, h3.2⟩]; omega
      · rw [if_neg (by omega), if_neg (by omega)]; omega
    · rw [if_neg (fun q => h1 q.1), if_neg (fun q => h1 q.1)]; omega
theorem arr_day (d : Nat) (k : Int × Int) : arr l P d l.length k = arr l P (d + 1) 0 k := by
  unfold arr
  congr 1
  refine sumN_congr fun u hu => ?_
  simp only [doneB, Bool.and_eq_true, Bool.or_eq_true, decide_eq_true_eq]
  by_cases h1 : (rivP l u).down = k.1
  · by_cases h3 : 1 ≤ k.2 - (rivP l u).takes ∧ k.2 - (rivP l u).takes ≤ (d : Int) + 1
    · rw [if_pos ⟨h1, h3.1, by omega⟩, if_pos ⟨h1, h3.1, by omega⟩]
    · rw [if_neg (by omega), if_neg (by omega)]
  · rw [if_neg (fun q => h1 q.1), if_neg (fun q => h1 q.1)]
theorem arr_zero (k : Int × Int) : arr l P 0 0 k = readyAt l k := by
  unfold arr
  have : sumN (fun u => if (rivP l u).down = k.1 ∧ doneB 0 0 u (k.2 - (rivP l u).takes) = true then P u (k.2 - (rivP l u).takes).toNat else 0) l.length = 0 := by
    refine Eq.trans (sumN_congr fun u _ => ?_) (sumN_zero l.length)
    rw [if_neg]
    simp only [doneB, Bool.and_eq_true, Bool.or_eq_true, decide_eq_true_eq]
    omega
  rw [this]; omega

theorem gone_day (u : Nat) (t : Int) : gone P u (t + 1) = gone P u t + if 1 ≤ t + 1 then P u (t + 1).toNat else 0 := by
  by_cases h : 0 ≤ t
  · obtain ⟨d, rfl⟩ : ∃ d : Nat, t = d := ⟨t.toNat, by omega⟩
    rw [gone_succ, if_pos (by omega), show ((d : Int) + 1).toNat = d + 1 by omega]
  · rw [gone_zero P u (by omega), gone_zero P u (by omega), if_neg (by omega)]; rfl

/-- What has come by the next day. -/
theorem arr_now (F : Fit days l) {i : Nat} (hi : i < l.length) (d : Nat) : come (rivP l) P i ((d : Int) + 1) = come (rivP l) P i d + arr l P d i ((i : Int), (d : Int) + 1) := by
  unfold arr
  rw [ready_own hi]
  unfold come
  have h0 : sumN (fun u => if (rivP l u).down = ((i : Int), (d : Int) + 1).1 ∧ doneB d i u (((i : Int), (d : Int) + 1).2 - (rivP l u).takes) = true then P u (((i : Int), (d : Int) + 1).2 - (rivP l u).takes).toNat else 0) l.length = sumN (fun u => if (rivP l u).down = (i : Int) ∧ doneB d i u ((d : Int) + 1 - (rivP l u).takes) = true then P u ((d : Int) + 1 - (rivP l u).takes).toNat else 0) i :=
    sumN_tail (by omega) fun u h1 h2 => by
      obtain ⟨x, hx⟩ := get_at h2
      have := F.down u x hx
      rw [riv_at hx]
      rw [if_neg]
      simp only
      omega
  rw [h0]
  have h1 : sumN (fun u => if (rivP l u).down = (i : Int) then gone P u ((d : Int) + 1 - (rivP l u).takes) else 0) i = sumN (fun u => if (rivP l u).down = (i : Int) then gone P u ((d : Int) - (rivP l u).takes) else 0) i + sumN (fun u => if (rivP l u).down = (i : Int) ∧ doneB d i u ((d : Int) + 1 - (rivP l u).takes) = true then P u ((d : Int) + 1 - (rivP l u).takes).toNat else 0) i := by
    rw [← sumN_add]
    refine sumN_congr fun u hu => ?_
    obtain ⟨x, hx⟩ := get_at (l := l) (k := u) (by omega)
    have ht := F.takes u x hx
    rw [riv_at hx]
    by_cases e : x.down = (i : Int)
    · rw [if_pos e, if_pos e]
      have hg := gone_day (P := P) u ((d : Int) - x.takes)
      rw [show (d : Int) - x.takes + 1 = (d : Int) + 1 - x.takes by omega] at hg
      rw [hg]
      congr 1
      simp only [doneB, Bool.and_eq_true, Bool.or_eq_true, decide_eq_true_eq]
      by_cases h3 : 1 ≤ (d : Int) + 1 - x.takes
      · rw [if_pos h3, if_pos ⟨e, h3, by omega⟩]
      · rw [if_neg h3, if_neg (by omega)]
    · rw [if_neg e, if_neg e, if_neg (fun q => e q.1)]; rfl
  rw [h1]
  have h2 : (if (rivP l i).ready ≤ (d : Int) + 1 then (rivP l i).logs else 0) = (if (rivP l i).ready ≤ (d : Int) then (rivP l i).logs else 0) + if (rivP l i).ready = (d : Int) + 1 then (rivP l i).logs else 0 := by
    by_cases e1 : (rivP l i).ready ≤ (d : Int)
    · rw [if_pos (by omega), if_pos e1, if_neg (by omega)]; omega
    · by_cases e2 : (rivP l i).ready = (d : Int) + 1
      · rw [if_pos (by omega), if_neg e1, if_pos e2]; omega
      · rw [if_neg (by omega), if_neg e1, if_neg e2]; omega
  rw [h2]
  omega
theorem arr_boom (F : Fit days l) (d : Nat) : brought (rivP l) l.length P ((d : Int) + 1) = brought (rivP l) l.length P d + arr l P d l.length (-1, (d : Int) + 1) := by
  unfold arr
  rw [ready_boom]
  unfold brought
  rw [Int.zero_add, ← sumN_add]
  refine sumN_congr fun u hu => ?_
  obtain ⟨x, hx⟩ := get_at hu
  have ht := F.takes u x hx
  rw [riv_at hx]
  by_cases e : x.down = -1
  · rw [if_pos e, if_pos e]
    have hg := gone_day (P := P) u ((d : Int) - x.takes)
    rw [show (d : Int) - x.takes + 1 = (d : Int) + 1 - x.takes by omega] at hg
    rw [hg]
    congr 1
    simp only [doneB, Bool.and_eq_true, Bool.or_eq_true, decide_eq_true_eq]
    by_cases h3 : 1 ≤ (d : Int) + 1 - x.takes
    · rw [if_pos h3, if_pos ⟨e, h3, by omega⟩]
    · rw [if_neg h3, if_neg (by omega)]
  · rw [if_neg e, if_neg e, if_neg (fun q => e q.1)]; rfl
end

/-! ### The plan so far -/
def maskL (P : Nat → Nat → Int) (n D d i : Nat) : List (List Int) := (List.range n).map fun j => (List.range D).map fun e => if e < d ∨ e = d ∧ j < i then P j (e + 1) else 0
theorem mask_full (P : Nat → Nat → Int) (n D d i : Nat) : Full n D (maskL P n D d i) := ⟨by simp [maskL], fun r hr => by
  simp only [maskL, List.mem_map] at hr
  obtain ⟨j, _, rfl⟩ := hr
  simp⟩
theorem mask_row {P : Nat → Nat → Int} {n D d i j : Nat} (hj : j < n) : (maskL P n D d i)[j]? = some ((List.range D).map fun e => if e < d ∨ e = d ∧ j < i then P j (e + 1) else 0) := by
  simp [maskL, hj]
theorem mask_set {P : Nat → Nat → Int} {n D d i : Nat} (hi : i < n) (hd : d < D) : (maskL P n D d i).set i (((maskL P n D d i).getD i []).set d (P i (d + 1))) = maskL P n D d (i + 1) := by
  apply List.ext_getElem?
  intro j
  rw [List.getElem?_set]
  have hl : (maskL P n D d i).length = n := (mask_full P n D d i).1
  by_cases hij : i = j
  · subst hij
    rw [if_pos rfl, if_pos (by omega), mask_row hi]
    have e : (maskL P n D d i).getD i [] = (List.range D).map fun e => if e < d ∨ e = d ∧ i < i then P i (e + 1) else 0 := by rw [List.getD, mask_row hi]; rfl
    rw [e]
    congr 1
    apply List.ext_getElem?
    intro k
    rw [List.getElem?_set]
    by_cases hk : d = k
    · subst hk
      rw [if_pos rfl, if_pos (by simpa using hd)]
      simp [hd]
    · rw [if_neg hk]
      by_cases hkD : k < D
      · simp only [List.getElem?_map, List.getElem?_range hkD, Option.map_some]
        congr 1
        by_cases h1 : k < d
        · rw [if_pos (.inl h1), if_pos (.inl h1)]
        · rw [if_neg (by omega), if_neg (by omega)]
      · simp [hkD]
  · rw [if_neg hij]
    by_cases hj : j < n
    · rw [mask_row hj, mask_row hj]
      congr 1
      apply List.map_congr_left
      intro e _
      by_cases h1 : e < d ∨ e = d ∧ j < i
      · rw [if_pos h1, if_pos (by omega)]
      · rw [if_neg h1, if_neg (by omega)]
    · rw [List.getElem?_eq_none (by omega), List.getElem?_eq_none (by rw [(mask_full P n D d (i + 1)).1]; omega)]
theorem mask_skip {P : Nat → Nat → Int} {n D d i : Nat} (hP : P i (d + 1) = 0) : maskL P n D d (i + 1) = maskL P n D d i := by
  unfold maskL
  apply List.map_congr_left
  intro j _
  apply List.map_congr_left
  intro e _
  by_cases h1 : e < d ∨ e = d ∧ j < i
  · rw [if_pos h1, if_pos (by omega)]
  · by_cases h2 : e = d ∧ j = i
    · rw [if_neg h1, if_pos (by omega), h2.1, h2.2, hP]
    · rw [if_neg h1, if_neg (by omega)]
theorem mask_day (P : Nat → Nat → Int) (n D d : Nat) : maskL P n D d n = maskL P n D (d + 1) 0 := by
  unfold maskL
  apply List.map_congr_left
  intro j hj
  have hj' := List.mem_range.1 hj
  apply List.map_congr_left
  intro e _
  by_cases h1 : e < d + 1
  · rw [if_pos (by omega), if_pos (.inl h1)]
  · rw [if_neg (by omega), if_neg (by omega)]
theorem mask_start (P : Nat → Nat → Int) (n D : Nat) : maskL P n D 0 0 = List.replicate n (List.replicate D 0) := by
  unfold maskL
  have : ∀ j, ((List.range D).map fun e => if e < 0 ∨ e = 0 ∧ j < 0 then P j (e + 1) else 0) = List.replicate D 0 := fun j => by
    rw [List.eq_replicate_iff]
    refine ⟨by simp, fun x hx => ?_⟩
    simp only [List.mem_map] at hx
    obtain ⟨e, _, rfl⟩ := hx
    rw [if_neg (by omega)]
  simp only [this]
  rw [List.eq_replicate_iff]
  exact ⟨by simp, fun x hx => by simp at hx; exact hx.2.symm⟩
theorem mask_end {L : List (List Int)} {n D : Nat} (h : Full n D L) : maskL (planP L) n D D 0 = L := by
  apply List.ext_getElem?
  intro j
  by_cases hj : j < n
  · rw [mask_row hj]
    obtain ⟨r, hr⟩ := get_at (l := L) (k := j) (by rw [h.1]; exact hj)
    rw [hr]
    congr 1
    have hl := h.2 r (List.mem_of_getElem? hr)
    apply List.ext_getElem?
    intro e
    by_cases he : e < D
    · obtain ⟨x, hx⟩ := get_at (l := r) (k := e) (by omega)
      simp only [List.getElem?_map, List.getElem?_range he, Option.map_some, hx]
      rw [if_pos (.inl he)]
      simp [planP, List.getD, hr, hx]
    · rw [List.getElem?_eq_none (by simp; omega), List.getElem?_eq_none (by omega)]
  · rw [List.getElem?_eq_none (by rw [(mask_full _ _ _ _ _).1]; omega), List.getElem?_eq_none (by rw [h.1]; omega)]

end Go.Proofs.Ytbnmjbmlejifcaa
