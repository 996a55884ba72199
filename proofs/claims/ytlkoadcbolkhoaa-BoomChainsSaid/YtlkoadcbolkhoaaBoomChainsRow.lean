/- BoomChains: which chains are valid, which cells they enclose, how many, and on which side, are what the definitions say, or the error. Whatever the input, the law returns true, and the input reads as it did. No condition. -/
import Derived.Test.YtlkoadcbolkhoaaRowkit
import Derived.Test.YtlkoadcbolkhoaaLawc
set_option linter.all false
namespace Go.Proofs.Ytlkoadcbolkhoaa
open Go Go.ChangeShapes Go.WideShapes Go.ChangeAt Go.RowKit Go.Joins Go.Proofs

set_option maxRecDepth 100000 in
theorem boomChains_lifted (os : Os) (started : os.Started) (H : Type) (enc : TypeId × Value → H) :
    ReturnsInHanded {} Try.checked os 6 .any (Rows.boomChainsSpec.pre6 enc Try.prog Try.f6 Rows.boomChainsRow.domain false) (Rows.boomChainsSpec.post enc Try.prog Try.f6 false true false false) := by
  refine returnsInHanded_of_change (C := Try.checked) Try.own started (by kernel_rfl) Try.func6
    (ChangeSpec.witness6 (enc := enc) (C := Try.checked) false ⟨#[], #[.agg #[.int .i64 0, .int .i64 0, .string ⟨#[]⟩]], []⟩ 8 (by kernel_rfl) (by kernel_rfl) (by kernel_rfl) (by kernel_rfl)) ?_
  intro W base args ds gs before hval0 hW hcnd _
  have hval : ∀ (j : Nat) t v, Try.f6.params[j]? = some t → args[j]? = some v → Value.okWide Try.prog W .any base t v := hval0
  have hW' := hW
  obtain ⟨p, q, hA0, hV, rfl, hfz, hnd⟩ := hW
  have hA : DataW.TrodAll enc Try.prog W 0 (fun _ => true) true Try.f6.params.toList args.toList ds p := hA0
  rw [Try.params6] at hA hval
  obtain ⟨v0, d0, rfl, rfl, h0⟩ := trodAll_one hA
  obtain ⟨rfl, rfl⟩ := trodVars_none hV
  obtain ⟨x0, y0, s0, rfl, hs0⟩ := open_chain (hval 0 45 v0 rfl rfl) h0
  clear hA0 hval0
  refine (boomChains_any x0 y0 s0 W hs0).mono fun e W' ⟨he, hb⟩ => ?_
  subst he
  exact ⟨_, rfl, post_of_below Try.laidOut (by kernel_rfl) hW' rfl hb rfl rfl (fun _ _ _ => trodAll_mk1 (bool_mk true)) (ok_one (by kernel_rfl) rfl (bool_ok W' true))⟩

theorem boomChains_holds : Rows.BoomChainsSaid :=
  OpenClaim.holds_of_wide 6 Try.f6 rfl rfl rfl rfl rfl rfl rfl ⟨rfl, rfl, rfl, rfl, rfl⟩ rfl rfl rfl rfl rfl (by kernel_rfl) Try.func6 (by kernel_rfl)
    (of_decide_eq_true (by kernel_rfl)) (by unfold Func.isWrapper; first | (rw [if_pos (by decide +kernel)]; kernel_rfl) | (rw [if_neg (by decide +kernel)]; exact ⟨rfl, rfl⟩))
    (fun os started H enc _ => boomChains_lifted os started H enc)

#print axioms boomChains_holds

end Go.Proofs.Ytlkoadcbolkhoaa
