/- y.boom = append(y.boom, ..) in drawn order: what holds in its midst. -/
import Derived.Test.YtbnmjbmlejifcaaRuna
import Derived.Maps.AppendAt
set_option linter.all false
namespace Go.Proofs.Ytbnmjbmlejifcaa
open Go Go.RowKit Go.Proofs

section
variable {wb W W' : World} {Y D r : Nat} {days : Int} {sr vp vc vb vb2 : Value} {Bs : List Nat} {L C : List (List Int)} {Bm Bm2 g : List Int} {f : Int × Int → Int}
theorem Year.setBoom (h : Year wb W Y days sr D vp vc vb Bs L C Bm g) (hg : W.grownBy W' vb.ownBlock) (M : W'.ownsRow wb.heap.size 2 1 vb2 Bm2.length (ints Bm2)) (hat : vb2.ownBlock = vb.ownBlock ∨ vb2.ownBlock = some W.heap.size) : Year wb (W'.setCell ⟨Y, 4, none⟩ vb2) Y days sr D vp vc vb2 Bs L C Bm2 g := by
  have hbox := keep_other h.box h.boom (by decide) hg
  have keepRow : ∀ {e size n : Nat} {v : Value} {xs : List Value}, W.ownsRow wb.heap.size e size v n xs → e ≠ 2 → W'.ownsRow wb.heap.size e size v n xs := fun {e size n v xs} ho he => by
    refine ho.kept hg ?_
    cases hv : v.ownBlock with
    | none => exact .inl rfl
    | some k =>
      refine .inr fun q => ?_
      rcases ho.2 with ⟨e1, _⟩ | ⟨a, cap, cur, e1, _, e2, _⟩
      · rw [e1] at hv; simp [Value.ownBlock] at hv
      · rw [e1] at hv
        simp only [Value.ownBlock, Option.some.injEq] at hv
        subst hv
        exact own_ne e2 h.boom (Ne.symm he) q.symm
  have hplan := keepRow h.plan.own (by decide)
  have hcome := keepRow h.come (by decide)
  refine ⟨?_, h.hY, ⟨own_set_other hbox hplan (by decide) _ _, h.plan.len, fun i B r h1 h2 => ?_, h.plan.nodup⟩, own_set_other hbox hcome (by decide) _ _, h.clen, own_set_other hbox M (by decide) _ _, fun i B hB => ?_, h.glen, bl_set (bl_grown h.old h.boom (Nat.le_refl _) hg) _ h.hY⟩
  · rw [heap_setCell_same _ _ _ _ _ _ hbox]
    rfl
  · obtain ⟨a, b, c⟩ := h.plan.rows i B r h1 h2
    have b' : W'.heap[B]? = some (.cells (ints r).toArray 2 (0, 0)) := by
      rw [hg.block B (Array.getElem?_eq_some_iff.1 b).1 (fun q => h.sep i B h1 q.symm)]; exact b
    refine ⟨a, past_set ?_ b', c⟩
    rintro rfl
    rw [hbox] at b'
    injection b' with b'
    injection b' with _ b'
    exact absurd b' (by decide)
  · rcases hat with q | q
    · rw [q]; exact h.sep i B hB
    · rw [q]
      obtain ⟨x, hx⟩ := get_at (l := L) (k := i) (by rw [← h.plan.len]; exact (List.getElem?_eq_some_iff.1 hB).1)
      have hlt := (Array.getElem?_eq_some_iff.1 (h.plan.rows i B x hB hx).2.1).1
      intro e
      injection e with e
      omega

def BoomF (wb : World) (Y : Nat) (days : Int) (sr : Value) (D : Nat) (vp vc vb : Value) (Bs : List Nat) (L C : List (List Int)) (Bm g : List Int) (r : Nat) (f : Int × Int → Int) (x : Int) (s18 s19 s22 : Bool) (u182 u183 : Value) (W : World) : Prop :=
  SpotMap W r f ∧ if s22 = true then Year wb W Y days sr D vp vc u183 Bs L C (Bm ++ [x]) g
  else if s19 = true then W.heap[Y]? = some (.cells (yearCells days sr vp vc vb g) 88 (0, 0)) ∧ Year wb (W.setCell ⟨Y, 4, none⟩ u183) Y days sr D vp vc u183 Bs L C (Bm ++ [x]) g ∧ Below wb.heap.size wb (W.setCell ⟨Y, 4, none⟩ u183) ∧ ∃ A c, u183 = .slice A (Bm.length + 1) c
  else Year wb W Y days sr D vp vc vb Bs L C Bm g ∧ (s18 = true → ∃ b, u182 = .slice (some ⟨b, 0, none⟩) 1 1 ∧ W.cell? ⟨b, 0, none⟩ = some (.int .i64 x))

section
variable {x : Int} {s18 s19 s22 : Bool} {u182 u183 : Value}
theorem BoomF.start (h : Year wb W Y days sr D vp vc vb Bs L C Bm g) (hm : SpotMap W r f) : BoomF wb Y days sr D vp vc vb Bs L C Bm g r f x false false false u182 u183 W :=
  ⟨hm, by simpa using h⟩
theorem BoomF.map (h : BoomF wb Y days sr D vp vc vb Bs L C Bm g r f x s18 s19 s22 u182 u183 W) : SpotMap W r f := h.1
theorem BoomF.year (h : BoomF wb Y days sr D vp vc vb Bs L C Bm g r f x s18 false false u182 u183 W) : Year wb W Y days sr D vp vc vb Bs L C Bm g := by
  have := h.2
  simp only [Bool.false_eq_true, if_false] at this
  exact this.1
theorem BoomF.box (h : BoomF wb Y days sr D vp vc vb Bs L C Bm g r f x s18 s19 false u182 u183 W) : W.heap[Y]? = some (.cells (yearCells days sr vp vc vb g) 88 (0, 0)) := by
  cases s19 with
  | false => exact h.year.box
  | true =>
    have := h.2
    simp only [Bool.false_eq_true, if_false, if_true] at this
    exact this.1
theorem BoomF.row (h : BoomF wb Y days sr D vp vc vb Bs L C Bm g r f x false false false u182 u183 W) : BoomF wb Y days sr D vp vc vb Bs L C Bm g r f x true false false (.slice (some ⟨W.heap.size, 0, none⟩) 1 1) u183 (W.alloc (.cells #[.int .i64 x] 2)) := by
  have hy := h.year.mono (bl_alloc (bl_refl W) (.cells #[.int .i64 x] 2))
  have hm := h.1.mono (bl_alloc (bl_refl W) (.cells #[.int .i64 x] 2))
  refine ⟨hm, ?_⟩
  simp only [Bool.false_eq_true, if_false]
  exact ⟨hy, fun _ => ⟨_, rfl, cell_of_heap (World.alloc_heap_new W _)⟩⟩
theorem BoomF.arg (h : BoomF wb Y days sr D vp vc vb Bs L C Bm g r f x true false false u182 u183 W) : ∃ b, u182 = .slice (some ⟨b, 0, none⟩) 1 1 := by
  have h2 := h.2
  simp only [Bool.false_eq_true, if_false] at h2
  obtain ⟨b, e, _⟩ := h2.2 trivial
  exact ⟨b, e⟩
theorem BoomF.app (h : BoomF wb Y days sr D vp vc vb Bs L C Bm g r f x true false false u182 u183 W) (hn : Bm.length ≤ 100) (ty : TypeId) : ∃ v' W', (Builtin.append_ #[36, 36] ty #[vb, u182]).run Try.prog W = .ok v' W' ∧ BoomF wb Y days sr D vp vc vb Bs L C Bm g r f x true true false u182 v' W' ∧ Below wb.heap.size wb W' := by
  have hy := h.year
  have h2 := h.2
  simp only [Bool.false_eq_true, if_false] at h2
  obtain ⟨_, hb⟩ := h2
  obtain ⟨b, rfl, hc⟩ := hb trivial
  obtain ⟨i2, hi2, hz2, hs2, hb2⟩ := info_parts info2'
  obtain ⟨v', W', h3, h4, h5, _, h6⟩ := run_append_own_at (P := Try.prog) W wb.heap.size 36 ty 2 i2 (.int .i64 0) 1 8 Try.underlying36 hi2 hz2 hs2 hb2 rfl (by decide) vb Bm.length _ hy.boom ⟨b, 0, none⟩ 1 1 [.int .i64 x] rfl (fun j u hj => by
    cases j with
    | zero => simp only [List.getElem?_cons_zero, Option.some.injEq] at hj; subst hj; exact hc
    | succ j => simp at hj) (fun u hu => by simp at hu; subst hu; rfl) (by unfold maxLen; omega) (by omega) hy.old.size
  have h4' : W'.ownsRow wb.heap.size 2 1 v' (Bm ++ [x]).length (ints (Bm ++ [x])) := by
    rw [List.length_append]
    simpa [ints] using h4
  have hbox := keep_other hy.box hy.boom (by decide) h5
  have hys := hy.setBoom h5 h4' h6
  refine ⟨v', W', h3, ⟨h.1.grown hy.boom h5, ?_⟩, bl_grown hy.old hy.boom (Nat.le_refl _) h5⟩
  simp only [Bool.false_eq_true, if_false, if_true]
  exact ⟨hbox, hys, hys.old, own_slice h4⟩
theorem BoomF.stored (h : BoomF wb Y days sr D vp vc vb Bs L C Bm g r f x s18 true false u182 u183 W) : BoomF wb Y days sr D vp vc vb Bs L C Bm g r f x s18 true true u182 u183 (W.setCell ⟨Y, 4, none⟩ u183) ∧ Below wb.heap.size wb (W.setCell ⟨Y, 4, none⟩ u183) := by
  have hb := h.box
  have h2 := h.2
  simp only [Bool.false_eq_true, if_false, if_true] at h2
  refine ⟨⟨h.1.setCell hb, ?_⟩, h2.2.2.1⟩
  simp only [if_true]
  exact h2.2.1
theorem BoomF.done (h : BoomF wb Y days sr D vp vc vb Bs L C Bm g r f x s18 s19 true u182 u183 W) : SpotMap W r f ∧ Year wb W Y days sr D vp vc u183 Bs L C (Bm ++ [x]) g := by
  have h2 := h.2
  simp only [if_true] at h2
  exact ⟨h.1, h2⟩
theorem BoomF.slice (h : BoomF wb Y days sr D vp vc vb Bs L C Bm g r f x s18 true false u182 u183 W) : ∃ A c, u183 = .slice A (Bm.length + 1) c := by
  have h2 := h.2
  simp only [Bool.false_eq_true, if_false, if_true] at h2
  exact h2.2.2.2
end
end

end Go.Proofs.Ytbnmjbmlejifcaa
