/- BoomTurned: a pond mirrored, or turned across, has as many sticks, and its smallest and largest best water are the turned ones Whatever the input, the law returns true, and the input reads as it did. No condition. -/
import Derived.Test.YtlkoadcbolkhoaaRowkit
import Derived.Test.YtlkoadcbolkhoaaLawx
set_option linter.all false
namespace Go.Proofs.Ytlkoadcbolkhoaa
open Go Go.ChangeShapes Go.WideShapes Go.ChangeAt Go.RowKit Go.Joins Go.Proofs

set_option maxRecDepth 100000 in
theorem boomTurned_lifted (os : Os) (started : os.Started) (H : Type) (enc : TypeId × Value → H) :
    ReturnsInHanded {} Try.checked os 12 .any (Rows.boomTurnedSpec.pre6 enc Try.prog Try.f12 Rows.boomTurnedRow.domain false) (Rows.boomTurnedSpec.post enc Try.prog Try.f12 false true false false) := by
  refine returnsInHanded_of_change (C := Try.checked) Try.own started (by kernel_rfl) Try.func12
    (ChangeSpec.witness6 (enc := enc) (C := Try.checked) false ⟨#[], #[.agg #[.int .i64 0, .int .i64 0, .slice none 0 0, .slice none 0 0], .bool false], []⟩ 8 (by kernel_rfl) (by kernel_rfl) (by kernel_rfl) (by kernel_rfl)) ?_
  intro W base args ds gs before hval0 hW hcnd _
  have hval : ∀ (j : Nat) t v, Try.f12.params[j]? = some t → args[j]? = some v → Value.okWide Try.prog W .any base t v := hval0
  have hW' := hW
  obtain ⟨p, q, hA0, hV, rfl, hfz, hnd⟩ := hW
  have hA : DataW.TrodAll enc Try.prog W 0 (fun _ => true) true Try.f12.params.toList args.toList ds p := hA0
  rw [Try.params12] at hA hval
  obtain ⟨v0, v1, d0, d1, p0, p1, rfl, rfl, rfl, h0, h1⟩ := trodAll_two hA
  obtain ⟨rfl, rfl⟩ := trodVars_none hV
  obtain ⟨wd0, hg0, sw0, sk0, want0, keep0, rfl, hW0, hK0⟩ := open_pond (hval 0 24 v0 rfl rfl) h0
  obtain ⟨b1, rfl, _, _⟩ := open_bool Try.underlying4 (hval 1 4 v1 rfl rfl) h1
  clear hA0 hval0
  refine (boomTurned_any wd0 hg0 sw0 sk0 want0 keep0 b1 W hW0 hK0).mono fun e W' ⟨he, hb⟩ => ?_
  subst he
  exact ⟨_, rfl, post_of_below Try.laidOut (by kernel_rfl) hW' rfl hb rfl rfl (fun _ _ _ => trodAll_mk1 (bool_mk true)) (ok_one (by kernel_rfl) rfl (bool_ok W' true))⟩

theorem boomTurned_holds : Rows.BoomTurnedSaid :=
  OpenClaim.holds_of_wide 12 Try.f12 rfl rfl rfl rfl rfl rfl rfl ⟨rfl, rfl, rfl, rfl, rfl⟩ rfl rfl rfl rfl rfl (by kernel_rfl) Try.func12 (by kernel_rfl)
    (of_decide_eq_true (by kernel_rfl)) (by unfold Func.isWrapper; first | (rw [if_pos (by decide +kernel)]; kernel_rfl) | (rw [if_neg (by decide +kernel)]; exact ⟨rfl, rfl⟩))
    (fun os started H enc _ => boomTurned_lifted os started H enc)

#print axioms boomTurned_holds

end Go.Proofs.Ytlkoadcbolkhoaa
