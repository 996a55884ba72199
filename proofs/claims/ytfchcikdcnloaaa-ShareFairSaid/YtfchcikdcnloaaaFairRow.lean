/- ShareFair: the shares that are returned are fair; given shares are fair just if some divisor rounds each Had to its share. Whatever the input, the law returns true, and the input reads as it did. No condition. -/
import Derived.Test.YtfchcikdcnloaaaRowkit
import Derived.Test.YtfchcikdcnloaaaLawn
namespace Go.Proofs.Ytfchcikdcnloaaa
open Go Go.ChangeShapes Go.WideShapes Go.ChangeAt Go.RowKit Go.Joins Go.Proofs

set_option maxRecDepth 100000 in
theorem shareFair_lifted (os : Os) (started : os.Started) (H : Type) (enc : TypeId × Value → H) :
    ReturnsInHanded {} Try.checked os 7 .any (Rows.shareFairSpec.pre6 enc Try.prog Try.f7 Rows.shareFairRow.domain false) (Rows.shareFairSpec.post enc Try.prog Try.f7 false true false false) := by
  refine returnsInHanded_of_change (C := Try.checked) Try.own started (by kernel_rfl) Try.func7
    (ChangeSpec.witness6 (enc := enc) (C := Try.checked) false ⟨#[], #[.agg #[.slice none 0 0, .int .i64 0, .int .i64 0], .slice none 0 0, .agg #[.int .i64 0, .int .i64 0], .int .u8 0], []⟩ 8 (by kernel_rfl) (by kernel_rfl) (by kernel_rfl) (by kernel_rfl)) ?_
  intro W base args ds gs before hval0 hW hcnd _
  have hval : ∀ (j : Nat) t v, Try.f7.params[j]? = some t → args[j]? = some v → Value.okWide Try.prog W .any base t v := hval0
  have hW' := hW
  obtain ⟨p, q, hA0, hV, rfl, hfz, hnd⟩ := hW
  have hA : DataW.TrodAll enc Try.prog W 0 (fun _ => true) true Try.f7.params.toList args.toList ds p := hA0
  rw [Try.params7] at hA hval
  obtain ⟨v0, v1, v2, v3, d0, d1, d2, d3, p0, p1, p2, p3, rfl, rfl, rfl, h0, h1, h2, h3⟩ := trodAll_four hA
  obtain ⟨rfl, rfl⟩ := trodVars_none hV
  obtain ⟨s0, had0, part0, prize0, rfl, hI0⟩ := open_pool (hval 0 24 v0 rfl rfl) h0
  obtain ⟨xs1, hI1⟩ := open_longs (hval 1 22 v1 rfl rfl) h1
  obtain ⟨num2, den2, rfl⟩ := open_ratio (hval 2 39 v2 rfl rfl) h2
  obtain ⟨n3, rfl, _, _, hw3⟩ := open_int Try.underlying5 (hval 3 5 v3 rfl rfl) h3
  clear hA0 hval0
  refine (shareFair_any had0 part0 prize0 xs1 num2 den2 n3 s0 v1 W hI0 hI1 (wf_u8 hw3)).mono fun e W' ⟨he, hb⟩ => ?_
  subst he
  exact ⟨_, rfl, post_of_below Try.laidOut (by kernel_rfl) hW' rfl hb rfl rfl (fun _ _ _ => trodAll_mk1 (bool_mk true)) (ok_one (by kernel_rfl) rfl (bool_ok W' true))⟩

theorem shareFair_holds : Rows.ShareFairSaid :=
  OpenClaim.holds_of_wide 7 Try.f7 rfl rfl rfl rfl rfl rfl rfl ⟨rfl, rfl, rfl, rfl, rfl⟩ rfl rfl rfl rfl rfl (by kernel_rfl) Try.func7 (by kernel_rfl)
    (of_decide_eq_true (by kernel_rfl)) (by unfold Func.isWrapper; first | (rw [if_pos (by decide +kernel)]; kernel_rfl) | (rw [if_neg (by decide +kernel)]; exact ⟨rfl, rfl⟩))
    (fun os started H enc _ => shareFair_lifted os started H enc)

#print axioms shareFair_holds

end Go.Proofs.Ytfchcikdcnloaaa
