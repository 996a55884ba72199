/- The early plan is told by what it says; the chapter's rivers (plain). -/
import Derived.Test.YtbnmjbmlejifcaaPure
import Derived.Test.YtbnmjbmlejifcaaBy
set_option linter.all false
namespace Go.Proofs.Ytbnmjbmlejifcaa

theorem gone_congr {P Q : Nat → Nat → Int} {i D : Nat} (h : ∀ d, d < D → P i (d + 1) = Q i (d + 1)) {t : Int} (ht : t ≤ D) : gone P i t = gone Q i t := by
  unfold gone
  exact sumN_congr fun d hd => h d (by omega)
theorem come_congr {R : Nat → Rch} {P Q : Nat → Nat → Int} {i D : Nat} (htk : ∀ u, u < i → 0 ≤ (R u).takes) (h : ∀ u, u < i → ∀ d, d < D → P u (d + 1) = Q u (d + 1)) {t : Int} (ht : t ≤ D) : come R P i t = come R Q i t := by
  unfold come
  congr 1
  refine sumN_congr fun u hu => ?_
  rw [gone_congr (h u hu) (by have := htk u hu; omega)]
theorem brought_congr {R : Nat → Rch} {P Q : Nat → Nat → Int} {n D : Nat} (htk : ∀ u, u < n → 0 ≤ (R u).takes) (h : ∀ u, u < n → ∀ d, d < D → P u (d + 1) = Q u (d + 1)) {t : Int} (ht : t ≤ D) : brought R n P t = brought R n Q t := by
  unfold brought
  refine sumN_congr fun u hu => ?_
  rw [gone_congr (h u hu) (by have := htk u hu; omega)]
/-- There is one early plan. -/
theorem early_unique {R : Nat → Rch} {n D : Nat} {P Q : Nat → Nat → Int} (htk : ∀ u, u < n → 0 ≤ (R u).takes) (hP : IsEarly R n D P) (hQ : IsEarly R n D Q) : ∀ i, i < n → ∀ d, d < D → P i (d + 1) = Q i (d + 1) := by
  intro i
  induction i using Nat.strongRecOn with
  | _ i ih =>
    intro hi d
    induction d using Nat.strongRecOn with
    | _ d ihd =>
      intro hd
      rw [hP i d hi hd, hQ i d hi hd]
      have h1 : come R P i ((d : Int) + 1) = come R Q i ((d : Int) + 1) := come_congr (D := D) (fun u hu => htk u (by omega)) (fun u hu e he => ih u hu (by omega) e he) (by omega)
      have h2 : gone P i d = gone Q i d := by
        unfold gone
        exact sumN_congr fun e he => ihd e (by omega) (by omega)
      rw [h1, h2]
theorem full_ext {n D : Nat} {L M : List (List Int)} (hL : Full n D L) (hM : Full n D M) (h : ∀ i, i < n → ∀ d, d < D → planP L i (d + 1) = planP M i (d + 1)) : L = M := by
  apply List.ext_getElem?
  intro i
  by_cases hi : i < n
  · obtain ⟨q, hq⟩ := get_at (l := L) (k := i) (by rw [hL.1]; exact hi)
    obtain ⟨r, hr⟩ := get_at (l := M) (k := i) (by rw [hM.1]; exact hi)
    rw [hq, hr]
    congr 1
    have hql := hL.2 q (List.mem_of_getElem? hq)
    have hrl := hM.2 r (List.mem_of_getElem? hr)
    apply List.ext_getElem?
    intro d
    by_cases hd : d < D
    · obtain ⟨x, hx⟩ := get_at (l := q) (k := d) (by omega)
      obtain ⟨y, hy⟩ := get_at (l := r) (k := d) (by omega)
      have := h i hi d hd
      simp only [planP, List.getD, hq, hr, Option.getD_some, Nat.add_sub_cancel, hx, hy] at this
      rw [hx, hy, this]
    · rw [List.getElem?_eq_none (by omega), List.getElem?_eq_none (by omega)]
  · rw [List.getElem?_eq_none (by rw [hL.1]; omega), List.getElem?_eq_none (by rw [hM.1]; omega)]
/-- Whether a plan is the early one. -/
def earlyB (l : List Rch) (D : Nat) (L : List (List Int)) : Bool := decide (L.length = l.length) && (L.all fun r => decide (r.length = D)) && (List.range l.length).all fun i => (List.range D).all fun d => decide (planP L i (d + 1) = if openB (rivP l i) ((d : Int) + 1) = true then min (rivP l i).pass (come (rivP l) (planP L) i ((d : Int) + 1) - gone (planP L) i d) else 0)
theorem planE_is {D : Nat} {l : List Rch} (F : Fit (D : Int) l) {L : List (List Int)} (h : earlyB l D L = true) : planE D l = L := by
  unfold earlyB at h
  simp only [Bool.and_eq_true, decide_eq_true_eq, List.all_eq_true, List.mem_range] at h
  obtain ⟨⟨h1, h2⟩, h3⟩ := h
  have hf := planE_full (D : Int) l
  rw [Int.toNat_natCast] at hf
  refine full_ext hf ⟨h1, h2⟩ (early_unique (fun u hu => (riv_of F).takes u hu) (early_of F) fun i d hi hd => h3 i hi d hd)

/-! ### The chapter's rivers -/
def rvL (last : Int) : List Rch := [⟨2, 3, 1, 1, 6, 1, 10, 1⟩, ⟨2, 5, 2, 1, 10, 2, 8, 2⟩, ⟨-1, 4, 1, 2, last, 1, 2, 1⟩]
def earlyL : List (List Int) := [[3, 3, 3, 1, 0, 0, 0, 0, 0, 0], [0, 0, 5, 0, 3, 0, 0, 0, 0, 0], [0, 4, 4, 3, 4, 2, 3, 0, 0, 0]]
theorem river9 : riverE 10 (rvL 9) = 0 := by decide +kernel
theorem river4 : riverE 10 (rvL 4) = 0 := by decide +kernel
theorem plan9 : planE ((10 : Nat) : Int) (rvL 9) = earlyL := planE_is (fit_of river9) (by decide +kernel)
def earlyW : List (List Int) := [[3, 3, 3, 1, 0, 0, 0, 0, 0, 0], [0, 0, 5, 0, 3, 0, 0, 0, 0, 0], [0, 4, 4, 3, 0, 0, 0, 0, 0, 0]]
theorem plan4 : planE ((10 : Nat) : Int) (rvL 4) = earlyW := planE_is (fit_of river4) (by decide +kernel)
theorem most9 (t : Int) : mostE ((10 : Nat) : Int) (rvL 9) t = brought (rivP (rvL 9)) 3 (planP earlyL) t := by unfold mostE; rw [plan9]; rfl
theorem most4 (t : Int) : mostE ((10 : Nat) : Int) (rvL 4) t = brought (rivP (rvL 4)) 3 (planP earlyW) t := by unfold mostE; rw [plan4]; rfl
theorem m9_6 : mostE ((10 : Nat) : Int) (rvL 9) 6 = 15 := by rw [most9]; decide +kernel
theorem m9_8 : mostE ((10 : Nat) : Int) (rvL 9) 8 = 20 := by rw [most9]; decide +kernel

end Go.Proofs.Ytbnmjbmlejifcaa
