/- SharePools: which pools are valid, and which shares are fair, are what the definitions say, or the error. Whatever the input, the law returns true, and the input reads as it did. No condition. -/
import Derived.Test.YtfchcikdcnloaaaPost
import Derived.Test.YtfchcikdcnloaaaLawa
namespace Go.Proofs.Ytfchcikdcnloaaa
open Go Go.ChangeShapes Go.WideShapes Go.ChangeAt Go.RowKit Go.Joins Go.Proofs

theorem Try.own : ownKnob Try.prog.godebug = none := by kernel_rfl
theorem Try.laidOut : laidOutB Try.prog = true := by kernel_rfl
theorem bool_mk {H : Type} {enc : TypeId × Value → H} {W : World} {base : Nat} {sp : Nat → Bool} {held : Bool} (b : Bool) : DataW.Trod enc Try.prog W base sp held 4 (.bool b) (.lit (.bool b)) [] := ⟨1, by simp [DataW.trod, Value.cells, Try.underlying4]⟩

theorem bool_ok (W : World) (b : Bool) : Value.okWide Try.prog W .any 0 4 (.bool b) := by simp [Value.okWide, Cell.okWide, Cell.ok, Try.underlying4]

set_option maxRecDepth 100000 in
theorem sharePools_lifted (os : Os) (started : os.Started) (H : Type) (enc : TypeId × Value → H) :
    ReturnsInHanded {} Try.checked os 3 .any (Rows.sharePoolsSpec.pre6 enc Try.prog Try.f3 Rows.sharePoolsRow.domain false) (Rows.sharePoolsSpec.post enc Try.prog Try.f3 false true false false) := by
  refine returnsInHanded_of_change (C := Try.checked) Try.own started (by kernel_rfl) Try.func3
    (ChangeSpec.witness6 (enc := enc) (C := Try.checked) false ⟨#[], #[.agg #[.slice none 0 0, .int .i64 0, .int .i64 0], .slice none 0 0], []⟩ 8 (by kernel_rfl) (by kernel_rfl) (by kernel_rfl) (by kernel_rfl)) ?_
  intro W base args ds gs before hval0 hW hcnd _
  have hval : ∀ (j : Nat) t v, Try.f3.params[j]? = some t → args[j]? = some v → Value.okWide Try.prog W .any base t v := hval0
  have hW' := hW
  obtain ⟨p, q, hA0, hV, rfl, hfz, hnd⟩ := hW
  have hA : DataW.TrodAll enc Try.prog W 0 (fun _ => true) true Try.f3.params.toList args.toList ds p := hA0
  rw [Try.params3] at hA hval
  obtain ⟨v0, v1, d0, d1, p0, p1, rfl, rfl, rfl, h0, h1⟩ := trodAll_two hA
  obtain ⟨rfl, rfl⟩ := trodVars_none hV
  obtain ⟨s, had, part, prize, rfl, hI⟩ := open_pool (hval 0 24 v0 rfl rfl) h0
  obtain ⟨shares, hI2⟩ := open_longs (hval 1 22 v1 rfl rfl) h1
  clear hA0 hval0
  refine (sharePools_any had part prize shares s v1 W hI hI2).mono fun e W' ⟨he, hb⟩ => ?_
  subst he
  exact ⟨_, rfl, post_of_below Try.laidOut (by kernel_rfl) hW' rfl hb rfl rfl (fun _ _ _ => trodAll_mk1 (bool_mk true)) (ok_one (by kernel_rfl) rfl (bool_ok W' true))⟩

theorem sharePools_holds : Rows.SharePoolsSaid :=
  OpenClaim.holds_of_wide 3 Try.f3 rfl rfl rfl rfl rfl rfl rfl ⟨rfl, rfl, rfl, rfl, rfl⟩ rfl rfl rfl rfl rfl (by kernel_rfl) Try.func3 (by kernel_rfl)
    (of_decide_eq_true (by kernel_rfl)) (by unfold Func.isWrapper; first | (rw [if_pos (by decide +kernel)]; kernel_rfl) | (rw [if_neg (by decide +kernel)]; exact ⟨rfl, rfl⟩))
    (fun os started H enc _ => sharePools_lifted os started H enc)

#print axioms sharePools_holds

end Go.Proofs.Ytfchcikdcnloaaa
