/- DrivePlans: the law holds. Whatever the input, the law returns true, and the input reads as it did. No condition. -/
import Derived.Test.YtbnmjbmlejifcaaRowkit
import Derived.Test.YtbnmjbmlejifcaaLawc
set_option linter.all false
namespace Go.Proofs.Ytbnmjbmlejifcaa
open Go Go.ChangeShapes Go.WideShapes Go.ChangeAt Go.RowKit Go.Joins Go.Proofs

set_option maxRecDepth 100000 in
theorem drivePlans_lifted (os : Os) (started : os.Started) (H : Type) (enc : TypeId × Value → H) :
    ReturnsInHanded {} Try.checked os 4 .any (Rows.drivePlansSpec.pre6 enc Try.prog Try.f4 Rows.drivePlansRow.domain false) (Rows.drivePlansSpec.post enc Try.prog Try.f4 false true false false) := by
  refine returnsInHanded_of_change (C := Try.checked) Try.own started (by kernel_rfl) Try.func4
    (ChangeSpec.witness6 (enc := enc) (C := Try.checked) false ⟨#[], #[.agg #[.int .i64 0, .slice none 0 0]], []⟩ 8 (by kernel_rfl) (by kernel_rfl) (by kernel_rfl) (by kernel_rfl)) ?_
  intro W base args ds gs before hval0 hW hcnd _
  have hval : ∀ (j : Nat) t v, Try.f4.params[j]? = some t → args[j]? = some v → Value.okWide Try.prog W .any base t v := hval0
  have hW' := hW
  obtain ⟨p, q, hA0, hV, rfl, hfz, hnd⟩ := hW
  have hA : DataW.TrodAll enc Try.prog W 0 (fun _ => true) true Try.f4.params.toList args.toList ds p := hA0
  rw [Try.params4] at hA hval
  obtain ⟨v0, d0, rfl, rfl, h0⟩ := trodAll_one hA
  obtain ⟨rfl, rfl⟩ := trodVars_none hV
  obtain ⟨days0, sr0, l0, rfl, hI0⟩ := open_river (hval 0 24 v0 rfl rfl) h0
  clear hA0 hval0
  refine (drivePlans_any days0 l0 sr0 W hI0).mono fun e W' ⟨he, hb⟩ => ?_
  subst he
  exact ⟨_, rfl, post_of_below Try.laidOut (by kernel_rfl) hW' rfl hb rfl rfl (fun _ _ _ => trodAll_mk1 (bool_mk true)) (ok_one (by kernel_rfl) rfl (bool_ok W' true))⟩

theorem drivePlans_holds : Rows.DrivePlansSaid :=
  OpenClaim.holds_of_wide 4 Try.f4 rfl rfl rfl rfl rfl rfl rfl ⟨rfl, rfl, rfl, rfl, rfl⟩ rfl rfl rfl rfl rfl (by kernel_rfl) Try.func4 (by kernel_rfl)
    (of_decide_eq_true (by kernel_rfl)) (by unfold Func.isWrapper; first | (rw [if_pos (by decide +kernel)]; kernel_rfl) | (rw [if_neg (by decide +kernel)]; exact ⟨rfl, rfl⟩))
    (fun os started H enc _ => drivePlans_lifted os started H enc)

#print axioms drivePlans_holds

end Go.Proofs.Ytbnmjbmlejifcaa
