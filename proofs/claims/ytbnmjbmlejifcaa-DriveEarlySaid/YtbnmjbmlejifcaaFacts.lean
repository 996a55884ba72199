/- What is known of the chapter's rivers (plain). -/
import Derived.Test.YtbnmjbmlejifcaaRefplan
import Derived.Test.YtbnmjbmlejifcaaWorthi
import Derived.Test.YtbnmjbmlejifcaaKnown
set_option linter.all false
namespace Go.Proofs.Ytbnmjbmlejifcaa

/-- The cut that is returned bounds what can come, exactly. -/
theorem cutOk_bound {days : Int} {l : List Rch} {day : Int} {o : List Int} (h0 : askedE days l day = 0) (h : CutOk days l day o) : ccErr days l day o = 0 ∧ ccVal days l day o = mostE days l day := by
  rcases h with ⟨h1, _⟩ | ⟨_, hl, hw⟩
  · exact absurd h0 h1
  obtain ⟨g0, g1, g2⟩ := asked_zero h0
  obtain ⟨D, rfl⟩ : ∃ D : Nat, days = D := ⟨days.toNat, by omega⟩
  obtain ⟨t, rfl⟩ : ∃ t : Nat, day = t := ⟨day.toNat, by omega⟩
  have F := fit_of g0
  rw [Int.toNat_natCast] at hw
  have hv : ∀ j, j < l.length → ∃ y : Int, o[j]? = some y ∧ 1 ≤ y ∧ y ≤ (t : Int) + 1 := fun j hj => (hw j hj).1
  have hwi : withinB 1 ((t : Int) + 1) o = true := within_of fun i x hi hx => by
    obtain ⟨y, h1, h2⟩ := hv i (by omega)
    rw [hx] at h1
    injection h1 with h1
    subst h1
    exact h2
  have he : ccErr D l t o = 0 := by
    unfold ccErr
    have hn : ¬ (askedE (D : Int) l (t : Int) ≠ 0) := by simpa using h0
    rw [if_neg hn, if_neg (by simpa using hl), if_neg (by simp [hwi])]
  refine ⟨he, ?_⟩
  have hc : IsCut l.length (cutF o) t := fun i hi => by
    obtain ⟨y, h1, h2, h3⟩ := hv i hi
    have e : cutF o i = y.toNat := by simp [cutF, List.getD, h1]
    rw [e]; omega
  have hb : Best (rivP l) l.length (planP (planE D l)) (cutF o) t := fun i hi => (hw i hi).2
  unfold ccVal
  rw [he, if_pos rfl, Int.toNat_natCast]
  exact (strong (riv_of F) hc hb).symm

/-! ### V and W -/
theorem p9 : planE 10 (rvL 9) = earlyL := plan9
theorem p4 : planE 10 (rvL 4) = earlyW := plan4
theorem most9i (t : Int) : mostE 10 (rvL 9) t = brought (rivP (rvL 9)) 3 (planP earlyL) t := most9 t
theorem asked9 {t : Int} (h1 : 1 ≤ t) (h2 : t ≤ 10) : askedE 10 (rvL 9) t = 0 := by
  unfold askedE
  rw [river9, if_neg (by decide), if_neg (by omega)]
theorem reached9 {t i : Int} (h1 : 1 ≤ t) (h2 : t ≤ 10) (h3 : 0 ≤ i) (h4 : i < 3) : reachedE 10 (rvL 9) t i = 0 := by
  unfold reachedE
  rw [asked9 h1 h2, if_neg (by decide), if_neg (by have : (rvL 9).length = 3 := rfl; omega)]
theorem by9 (logs : Int) : byN 10 (rvL 9) logs = byD (fun d => brought (rivP (rvL 9)) 3 (planP earlyL) (d : Int)) logs 10 1 := by
  unfold byN
  rw [show (fun d : Nat => mostE 10 (rvL 9) (d : Int)) = fun d : Nat => brought (rivP (rvL 9)) 3 (planP earlyL) (d : Int) from funext fun d => most9i d]
  rfl
theorem k_plan : planL 10 (rvL 9) = earlyL := by unfold planL; rw [river9, if_pos rfl, p9]
theorem k_check : cpErr 10 (rvL 9) earlyL 8 = 0 ∧ cpVal 10 (rvL 9) earlyL 8 = 20 := by
  have h : cpErr 10 (rvL 9) earlyL 8 = 0 := by decide +kernel
  refine ⟨h, ?_⟩
  unfold cpVal
  rw [h, if_pos rfl]
  decide +kernel
theorem k_most6 : mostE 10 (rvL 9) 6 = 15 := by rw [most9i]; decide +kernel
theorem k_most8 : mostE 10 (rvL 9) 8 = 20 := by rw [most9i]; decide +kernel
theorem k_by16 : byErr 10 (rvL 9) 16 = 0 ∧ byE 10 (rvL 9) 16 = 7 := by
  have h : byN 10 (rvL 9) 16 = 7 := by rw [by9]; decide +kernel
  have h2 : byErr 10 (rvL 9) 16 = 0 := by unfold byErr; rw [river9, h]; decide
  exact ⟨h2, by unfold byE; rw [h2, h]; rfl⟩
theorem k_by21 : byErr 10 (rvL 9) 21 = 20 ∧ byE 10 (rvL 9) 21 = 0 := by
  have h : byN 10 (rvL 9) 21 = 0 := by rw [by9]; decide +kernel
  have h2 : byErr 10 (rvL 9) 21 = 20 := by unfold byErr; rw [river9, h]; decide
  exact ⟨h2, by unfold byE; rw [h2]; rfl⟩
theorem k_cut125 : ccErr 10 (rvL 9) 6 [1, 2, 5] = 0 ∧ ccVal 10 (rvL 9) 6 [1, 2, 5] = 15 := by
  have h : ccErr 10 (rvL 9) 6 [1, 2, 5] = 0 := by decide +kernel
  refine ⟨h, ?_⟩
  unfold ccVal
  rw [h, if_pos rfl]
  decide +kernel
theorem k_cut118 : ccErr 10 (rvL 9) 6 [1, 1, 8] = 3 ∧ ccVal 10 (rvL 9) 6 [1, 1, 8] = 0 := by
  have h : ccErr 10 (rvL 9) 6 [1, 1, 8] = 3 := by decide +kernel
  refine ⟨h, ?_⟩
  unfold ccVal
  rw [h, if_neg (by decide)]
theorem k_cut {o : List Int} (h : CutOk 10 (rvL 9) 6 o) : ccErr 10 (rvL 9) 6 o = 0 ∧ ccVal 10 (rvL 9) 6 o = 15 := by
  have := cutOk_bound (asked9 (by decide) (by decide)) h
  rw [k_most6] at this
  exact this
theorem k_left4 : leftL 10 (rvL 4) = [0, 0, 9] := by
  unfold leftL
  rw [river4, if_pos rfl]
  show [leftN 10 (rvL 4) 0, leftN 10 (rvL 4) 1, leftN 10 (rvL 4) 2] = _
  unfold leftN
  rw [plan4]
  decide +kernel
theorem k_left9 : leftL 10 (rvL 9) = [0, 0, 0] := by
  unfold leftL
  rw [river9, if_pos rfl]
  show [leftN 10 (rvL 9) 0, leftN 10 (rvL 9) 1, leftN 10 (rvL 9) 2] = _
  unfold leftN
  rw [plan9]
  decide +kernel
theorem wide9 {i : Nat} (hi : i < 3) {L : List (List Int)} (h : earlyB (widerL (rvL 9) i) 10 L = true) (t : Int) : mostE 10 (widerL (rvL 9) i) t = brought (rivP (widerL (rvL 9) i)) (widerL (rvL 9) i).length (planP L) t := by
  have e : planE ((10 : Nat) : Int) (widerL (rvL 9) i) = L := planE_is (fit_wider river9 hi) h
  show brought _ _ (planP (planE ((10 : Nat) : Int) (widerL (rvL 9) i))) t = _
  rw [e]
theorem late9 {i : Nat} (hi : i < 3) {r : Int} (hr : 1 ≤ r ∧ r ≤ 10) {L : List (List Int)} (h : earlyB (laterL (rvL 9) i r) 10 L = true) (t : Int) : mostE 10 (laterL (rvL 9) i r) t = brought (rivP (laterL (rvL 9) i r)) (laterL (rvL 9) i r).length (planP L) t := by
  have e : planE ((10 : Nat) : Int) (laterL (rvL 9) i r) = L := planE_is (fit_later (fit_of river9) hi hr) h
  show brought _ _ (planP (planE ((10 : Nat) : Int) (laterL (rvL 9) i r))) t = _
  rw [e]
theorem k_worth2 : worthE 10 (rvL 9) 6 2 = 1 := by
  unfold worthE
  rw [reached9 (by decide) (by decide) (by decide) (by decide), if_pos rfl, k_most6]
  show mostE 10 (widerL (rvL 9) 2) 6 - 15 = 1
  rw [wide9 (by decide) (L := [[3, 3, 3, 1, 0, 0, 0, 0, 0, 0], [0, 0, 5, 0, 3, 0, 0, 0, 0, 0], [0, 5, 3, 3, 5, 1, 3, 0, 0, 0]]) (by decide +kernel)]
  decide +kernel
theorem k_worth0 : worthE 10 (rvL 9) 6 0 = 1 := by
  unfold worthE
  rw [reached9 (by decide) (by decide) (by decide) (by decide), if_pos rfl, k_most6]
  show mostE 10 (widerL (rvL 9) 0) 6 - 15 = 1
  rw [wide9 (by decide) (L := [[4, 4, 2, 0, 0, 0, 0, 0, 0, 0], [0, 0, 5, 0, 3, 0, 0, 0, 0, 0], [0, 4, 4, 4, 4, 1, 3, 0, 0, 0]]) (by decide +kernel)]
  decide +kernel
theorem k_worth1 : worthE 10 (rvL 9) 6 1 = 0 := by
  unfold worthE
  rw [reached9 (by decide) (by decide) (by decide) (by decide), if_pos rfl, k_most6]
  show mostE 10 (widerL (rvL 9) 1) 6 - 15 = 0
  rw [wide9 (by decide) (L := [[3, 3, 3, 1, 0, 0, 0, 0, 0, 0], [0, 0, 6, 0, 2, 0, 0, 0, 0, 0], [0, 4, 4, 3, 4, 3, 2, 0, 0, 0]]) (by decide +kernel)]
  decide +kernel
theorem k_late8 : latestE 10 (rvL 9) 8 1 = 3 := by
  unfold latestE
  rw [reached9 (by decide) (by decide) (by decide) (by decide), if_pos rfl]
  have e := latN_is (D := 10) (l := rvL 9) (i := 1) (x := ⟨2, 5, 2, 1, 10, 2, 8, 2⟩) (fit_of river9) rfl (day := 8) (by decide) (r := 3) (by decide) (by decide) (by
    have h1 : mostE ((10 : Nat) : Int) (laterL (rvL 9) 1 ((3 : Nat) : Int)) ((8 : Nat) : Int) = 20 := (late9 (by decide) (by decide) (L := [[3, 3, 3, 1, 0, 0, 0, 0, 0, 0], [0, 0, 5, 0, 3, 0, 0, 0, 0, 0], [0, 4, 4, 3, 4, 2, 3, 0, 0, 0]]) (by decide +kernel) 8).trans (by decide +kernel)
    have h2 : mostE ((10 : Nat) : Int) (rvL 9) ((8 : Nat) : Int) = 20 := k_most8
    omega) (fun _ => by
    have h1 : mostE ((10 : Nat) : Int) (laterL (rvL 9) 1 (((3 : Nat) : Int) + 1)) ((8 : Nat) : Int) = 16 := (late9 (by decide) (by decide) (L := [[3, 3, 3, 1, 0, 0, 0, 0, 0, 0], [0, 0, 0, 0, 5, 0, 3, 0, 0, 0], [0, 4, 4, 3, 1, 0, 4, 1, 3, 0]]) (by decide +kernel) 8).trans (by decide +kernel)
    have h2 : mostE ((10 : Nat) : Int) (rvL 9) ((8 : Nat) : Int) = 20 := k_most8
    omega)
  show ((latN 10 (rvL 9) ((8 : Nat) : Int) 1 : Nat) : Int) = 3
  rw [e]; rfl
theorem k_most10 : mostE 10 (rvL 9) 10 = 20 := by rw [most9i]; decide +kernel
theorem k_late10 : latestE 10 (rvL 9) 10 1 = 5 := by
  unfold latestE
  rw [reached9 (by decide) (by decide) (by decide) (by decide), if_pos rfl]
  have e := latN_is (D := 10) (l := rvL 9) (i := 1) (x := ⟨2, 5, 2, 1, 10, 2, 8, 2⟩) (fit_of river9) rfl (day := 10) (by decide) (r := 5) (by decide) (by decide) (by
    have h1 : mostE ((10 : Nat) : Int) (laterL (rvL 9) 1 ((5 : Nat) : Int)) ((10 : Nat) : Int) = 20 := (late9 (by decide) (by decide) (L := [[3, 3, 3, 1, 0, 0, 0, 0, 0, 0], [0, 0, 0, 0, 5, 0, 3, 0, 0, 0], [0, 4, 4, 3, 1, 0, 4, 1, 3, 0]]) (by decide +kernel) 10).trans (by decide +kernel)
    have h2 : mostE ((10 : Nat) : Int) (rvL 9) ((10 : Nat) : Int) = 20 := k_most10
    omega) (fun _ => by
    have h1 : mostE ((10 : Nat) : Int) (laterL (rvL 9) 1 (((5 : Nat) : Int) + 1)) ((10 : Nat) : Int) = 16 := (late9 (by decide) (by decide) (L := [[3, 3, 3, 1, 0, 0, 0, 0, 0, 0], [0, 0, 0, 0, 0, 0, 5, 0, 3, 0], [0, 4, 4, 3, 1, 0, 0, 0, 4, 0]]) (by decide +kernel) 10).trans (by decide +kernel)
    have h2 : mostE ((10 : Nat) : Int) (rvL 9) ((10 : Nat) : Int) = 20 := k_most10
    omega)
  show ((latN 10 (rvL 9) ((10 : Nat) : Int) 1 : Nat) : Int) = 5
  rw [e]; rfl

end Go.Proofs.Ytbnmjbmlejifcaa
