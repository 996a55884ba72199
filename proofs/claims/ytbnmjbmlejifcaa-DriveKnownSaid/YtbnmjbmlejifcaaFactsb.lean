/- More that is known of the chapter's rivers (plain). -/
import Derived.Test.YtbnmjbmlejifcaaFacts
set_option linter.all false
namespace Go.Proofs.Ytbnmjbmlejifcaa

theorem most4i (t : Int) : mostE 10 (rvL 4) t = brought (rivP (rvL 4)) 3 (planP earlyW) t := most4 t
theorem asked4 {t : Int} (h1 : 1 ≤ t) (h2 : t ≤ 10) : askedE 10 (rvL 4) t = 0 := by
  unfold askedE
  rw [river4, if_neg (by decide), if_neg (by omega)]
theorem k_most2 : mostE 10 (rvL 9) 2 = 0 := by rw [most9i]; decide +kernel
theorem k_most5 : mostE 10 (rvL 9) 5 = 11 := by rw [most9i]; decide +kernel
theorem k_mostw : mostE 10 (rvL 4) 10 = 11 := by rw [most4i]; decide +kernel
theorem k_by20 : byErr 10 (rvL 9) 20 = 0 ∧ byE 10 (rvL 9) 20 = 8 := by
  have h : byN 10 (rvL 9) 20 = 8 := by rw [by9]; decide +kernel
  have h2 : byErr 10 (rvL 9) 20 = 0 := by unfold byErr; rw [river9, h]; decide
  exact ⟨h2, by unfold byE; rw [h2, h]; rfl⟩
theorem k_by0 : byErr 10 (rvL 9) 0 = 0 ∧ byE 10 (rvL 9) 0 = 1 := by
  have h : byN 10 (rvL 9) 0 = 1 := by rw [by9]; decide +kernel
  have h2 : byErr 10 (rvL 9) 0 = 0 := by unfold byErr; rw [river9, h]; decide
  exact ⟨h2, by unfold byE; rw [h2, h]; rfl⟩
theorem k_cut777 : ccErr 10 (rvL 9) 6 [7, 7, 7] = 0 ∧ ccVal 10 (rvL 9) 6 [7, 7, 7] = 20 := by
  have h : ccErr 10 (rvL 9) 6 [7, 7, 7] = 0 := by decide +kernel
  refine ⟨h, ?_⟩
  unfold ccVal
  rw [h, if_pos rfl]
  decide +kernel
theorem k_cut111 : ccErr 10 (rvL 9) 6 [1, 1, 1] = 0 ∧ ccVal 10 (rvL 9) 6 [1, 1, 1] = 16 := by
  have h : ccErr 10 (rvL 9) 6 [1, 1, 1] = 0 := by decide +kernel
  refine ⟨h, ?_⟩
  unfold ccVal
  rw [h, if_pos rfl]
  decide +kernel

end Go.Proofs.Ytbnmjbmlejifcaa
