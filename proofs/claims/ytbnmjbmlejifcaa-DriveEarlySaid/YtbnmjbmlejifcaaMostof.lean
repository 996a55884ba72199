/- The reference's MostOf: the walk. -/
import Derived.Test.YtbnmjbmlejifcaaRefa
set_option linter.all false
namespace Go.Proofs.Ytbnmjbmlejifcaa
open Go Go.RowKit Go.Proofs
attribute [local go_sem] cell_grow frozen_grow

set_option maxRecDepth 100000 in
set_option maxHeartbeats 8000000 in
theorem mostOf_any (D : Nat) (l : List Rch) (sr : Value) (t : Nat) (w : World) (hs : Rchs w sr l) (F : Fit (D : Int) l) (ht : t ≤ D) :
    Calls Try.prog 39 #[.agg #[.int .i64 (D : Int), sr], .int .i64 (t : Int)] w fun e w' => e = .returned (.int .i64 (mostE D l (t : Int))) ∧ Below w.heap.size w w' := by
  have f1 := F.d1
  have f2 := F.d2
  have f3 := F.n1
  have f4 := F.n2
  obtain ⟨b, off, c, rfl, hlc, hb, hcell⟩ := hs.some f3
  have HX := hid (World.alloc_heap_new w (.cells #[.int .i64 (D : Int), .slice (some ⟨b, off, none⟩) l.length c] 24))
  have HB := hid (bl_alloc (bl_refl w) (.cells #[.int .i64 (D : Int), .slice (some ⟨b, off, none⟩) l.length c] 24))
  have HR := hid hs
  have HF := hid F
  have HFU : Hid ((planE D l).length = l.length) := (planE_full (D : Int) l).1
  clear hs F hcell
  go_enter Try.func39, Try.ntmps39
  go_upto_region 1 with (fail)
  obtain ⟨R, hR⟩ : ∃ R, w.heap.size = R := ⟨_, rfl⟩
  obtain ⟨w0, hw0⟩ : ∃ w0, w.alloc (.cells #[.int .i64 (D : Int), .slice (some ⟨b, off, none⟩) l.length c] 24) = w0 := ⟨_, rfl⟩
  rw [hR] at HX ⊢
  rw [hw0] at HX HB ⊢
  have HR0 := hid (HR.out.mono HB.out)
  clear hw0 hR
  refine wp_region_vals [5, 6, 7, 8, 9, 4] (fun seen u W => (seen 0 = true → u 5 = .agg #[.int .i64 (D : Int), .slice (some ⟨b, off, none⟩) l.length c]) ∧
    (seen 1 = true → u 6 = .agg #[.int .i64 (D : Int), .slice (some ⟨b, off, none⟩) l.length c]) ∧
    (seen 2 = true → Rows W (u 7) (planE D l)) ∧
    (seen 3 = true → u 8 = .int .i64 (t : Int)) ∧
    (seen 4 = true → u 9 = .int .i64 (mostE D l (t : Int))) ∧
    (seen 5 = true → u 4 = .int .i64 (mostE D l (t : Int))))
    (by kernel_rfl) (by kernel_rfl) (by kernel_rfl) (by simp) (by simp) ?_ ?_
  · intro i o ho seen a' w9 hb9 ⟨F0, F1, F2, F3, F4, F5⟩ hv hsi hdep
    have hbx := heap_mono HX.out hb9
    have c0 : w9.cell? ⟨R, 0, none⟩ = some (.int .i64 (D : Int)) := cell_of_heap hbx
    have c1 : w9.cell? ⟨R, 1, none⟩ = some (.slice (some ⟨b, off, none⟩) l.length c) := cell_of_heap hbx
    have hXl := (Array.getElem?_eq_some_iff.1 hbx).1
    rcases i with _ | _ | _ | _ | _ | _ | i <;> simp only [List.getElem?_cons_zero, List.getElem?_cons_succ, List.getElem?_nil, Option.some.injEq, reduceCtorEq] at ho <;> subst ho
    · have x2 := val_at (hv 2 (by simp))
      simp [valsOf] at x2
      refine wp_value (.agg #[.int .i64 (D : Int), .slice (some ⟨b, off, none⟩) l.length c]) (w' := w9) (by simp [execOp, x2, go_sem, c0, c1, hXl]) ⟨_, rfl, hb9, ?_⟩
      exact ⟨by simp, by simpa using F1, by simpa using F2, by simpa using F3, by simpa using F4, by simpa using F5⟩
    · have x2 := val_at (hv 2 (by simp))
      simp [valsOf] at x2
      refine wp_value (.agg #[.int .i64 (D : Int), .slice (some ⟨b, off, none⟩) l.length c]) (w' := w9) (by simp [execOp, x2, go_sem, c0, c1, hXl]) ⟨_, rfl, hb9, ?_⟩
      exact ⟨by simpa using F0, by simp, by simpa using F2, by simpa using F3, by simpa using F4, by simpa using F5⟩
    · have d1 := hdep ⟨1, .data⟩ (by simp) rfl
      have e1 := val_at (F1 d1)
      refine wp_calls (f := 70) (args := #[.agg #[.int .i64 (D : Int), .slice (some ⟨b, off, none⟩) l.length c]]) (w' := w9) (by simp [execOp, e1, go_sem, valsOf]) (refEarly_any D l _ w9 (HR0.out.mono hb9) HF.out) ?_
      rintro e w10 ⟨⟨v, rfl, hv⟩, hg⟩
      refine ⟨_, rfl, _, rfl, bl_trans hb9 hg, ?_⟩
      exact ⟨by simpa using F0, by simpa using F1, by simpa using hv, by simpa using F3, by simpa using F4, by simpa using F5⟩
    · have x1 := val_at (hv 1 (by simp))
      simp [valsOf] at x1
      refine wp_value (.int .i64 (t : Int)) (w' := w9) (by simp [execOp, x1, go_sem, c0, c1, hXl]) ⟨_, rfl, hb9, ?_⟩
      exact ⟨by simpa using F0, by simpa using F1, by simpa using F2, by simp, by simpa using F4, by simpa using F5⟩
    · have d0 := hdep ⟨0, .data⟩ (by simp) rfl
      have e0 := val_at (F0 d0)
      have d2 := hdep ⟨2, .data⟩ (by simp) rfl
      have d3 := hdep ⟨3, .data⟩ (by simp) rfl
      have e3 := val_at (F3 d3)
      obtain ⟨A7, c7, h7⟩ := (F2 d2).slice
      have e7 := val_at h7
      have hrow := F2 d2
      rw [h7] at hrow
      refine wp_calls (f := 65) (args := #[.agg #[.int .i64 (D : Int), .slice (some ⟨b, off, none⟩) l.length c], .slice A7 (planE D l).length c7, .int .i64 (t : Int)]) (w' := w9) (by simp [execOp, e0, e7, e3, go_sem, valsOf]) (brought_any D l _ (planE D l) _ (t : Int) w9 (HR0.out.mono hb9) hrow HF.out HFU.out (planE_small HF.out) (by omega)) ?_
      rintro e w10 ⟨rfl, hg⟩
      refine ⟨_, rfl, _, rfl, bl_trans hb9 hg, ?_⟩
      exact ⟨by simpa using F0, by simpa using F1, by simpa using fun h => (F2 h).mono hg, by simpa using F3, by simp [mostE], by simpa using F5⟩
    · have d4 := hdep ⟨4, .data⟩ (by simp) rfl
      have e4 := val_at (F4 d4)
      refine wp_value (.int .i64 (mostE D l (t : Int))) (w' := w9) (by simp [execOp, e4, go_sem, c0, c1, hXl]) ⟨_, rfl, hb9, ?_⟩
      exact ⟨by simpa using F0, by simpa using F1, by simpa using F2, by simpa using F3, by simpa using F4, by simp⟩
  intro u w5 hb5 seen hall ⟨F0, F1, F2, F3, F4, F5⟩
  replace F0 := F0 (hall 0 (by decide))
  replace F1 := F1 (hall 1 (by decide))
  replace F2 := F2 (hall 2 (by decide))
  replace F3 := F3 (hall 3 (by decide))
  replace F4 := F4 (hall 4 (by decide))
  replace F5 := F5 (hall 5 (by decide))
  simp only [setAll, F4, F5]
  have HB5 := hid (bl_trans HB.out hb5)
  clear F0 F1 F2 F3 F4 F5 hall seen hb5
  generalize u 5 = u5
  generalize u 6 = u6
  generalize u 7 = u7
  generalize u 8 = u8
  go_wp2
  go_ret
  exact ⟨rfl, HB5.out⟩

end Go.Proofs.Ytbnmjbmlejifcaa
