/- A year in memory; a new one. -/
import Derived.Test.YtbnmjbmlejifcaaMat
import Derived.Test.YtbnmjbmlejifcaaEarly
import Derived.Deep.Cut
set_option linter.all false
namespace Go.Proofs.Ytbnmjbmlejifcaa
open Go Go.RowKit Go.Proofs
attribute [local go_sem] cell_grow frozen_grow

/-- The cells of a year. -/
def yearCells (days : Int) (sr vp vc vb : Value) (g : List Int) : Array Value := ([.int .i64 days, sr, vp, vc, vb] ++ ints g).toArray
/-- A year: its river, what enters, what has come, what is at the boom, what has gone. -/
structure Year (wb W : World) (Y : Nat) (days : Int) (sr : Value) (D : Nat) (vp vc vb : Value) (Bs : List Nat) (L C : List (List Int)) (Bm g : List Int) : Prop where
  box : W.heap[Y]? = some (.cells (yearCells days sr vp vc vb g) 88 (0, 0))
  hY : wb.heap.size ≤ Y
  plan : Mat W wb.heap.size D vp Bs L
  come : W.ownsRow wb.heap.size 86 8 vc C.length (C.flatMap ints)
  clen : ∀ c ∈ C, c.length = 8
  boom : W.ownsRow wb.heap.size 2 1 vb Bm.length (ints Bm)
  sep : ∀ (i B : Nat), Bs[i]? = some B → vb.ownBlock ≠ some B
  glen : g.length = 8
  old : Below wb.heap.size wb W

section
variable {wb W W' : World} {Y D : Nat} {days : Int} {sr vp vc vb v' : Value} {Bs : List Nat} {L C : List (List Int)} {Bm g : List Int}
theorem Year.mono (h : Year wb W Y days sr D vp vc vb Bs L C Bm g) (hb : Below W.heap.size W W') : Year wb W' Y days sr D vp vc vb Bs L C Bm g :=
  ⟨heap_mono h.box hb, h.hY, h.plan.mono hb, own_mono h.come hb, h.clen, own_mono h.boom hb, h.sep, h.glen, bl_trans h.old hb⟩
theorem Year.lt (h : Year wb W Y days sr D vp vc vb Bs L C Bm g) : Y < W.heap.size := (Array.getElem?_eq_some_iff.1 h.box).1
theorem Year.c0 (h : Year wb W Y days sr D vp vc vb Bs L C Bm g) : W.cell? ⟨Y, 0, none⟩ = some (.int .i64 days) := cell_of_heap h.box
theorem Year.c1 (h : Year wb W Y days sr D vp vc vb Bs L C Bm g) : W.cell? ⟨Y, 1, none⟩ = some sr := cell_of_heap h.box
theorem Year.c2 (h : Year wb W Y days sr D vp vc vb Bs L C Bm g) : W.cell? ⟨Y, 2, none⟩ = some vp := cell_of_heap h.box
theorem Year.c3 (h : Year wb W Y days sr D vp vc vb Bs L C Bm g) : W.cell? ⟨Y, 3, none⟩ = some vc := cell_of_heap h.box
theorem Year.c4 (h : Year wb W Y days sr D vp vc vb Bs L C Bm g) : W.cell? ⟨Y, 4, none⟩ = some vb := cell_of_heap h.box
theorem Year.fr (h : Year wb W Y days sr D vp vc vb Bs L C Bm g) (i : Nat) : W.frozen? ⟨Y, i, none⟩ = false := frozen_of_heap h.box
theorem Year.cg (h : Year wb W Y days sr D vp vc vb Bs L C Bm g) {i : Nat} {x : Int} (hx : g[i]? = some x) : W.cell? ⟨Y, 5 + i, none⟩ = some (.int .i64 x) := by
  rw [cell_of_heap h.box]
  unfold yearCells
  rw [List.getElem?_toArray, List.getElem?_append_right (by simp)]
  simp [ints, hx]

/-- The plan's field is stored. -/
theorem Year.setPlan {vp2 : Value} {Bs2 : List Nat} {L2 : List (List Int)} (h : Year wb W Y days sr D vp vc vb Bs L C Bm g) (hg : W.grownBy W' vp.ownBlock) (M : Mat W' wb.heap.size D vp2 Bs2 L2) (hsep : ∀ (i B : Nat), Bs2[i]? = some B → vb.ownBlock ≠ some B) : Year wb (W'.setCell ⟨Y, 2, none⟩ vp2) Y days sr D vp2 vc vb Bs2 L2 C Bm g := by
  have hbox := keep_other h.box h.plan.own (by decide) hg
  have hcome : W'.ownsRow wb.heap.size 86 8 vc C.length (C.flatMap ints) := by
    refine h.come.kept hg ?_
    cases hv : vc.ownBlock with
    | none => exact .inl rfl
    | some k =>
      refine .inr fun e => ?_
      rcases h.come.2 with ⟨e1, _⟩ | ⟨a, cap, cur, e1, _, e2, _⟩
      · rw [e1] at hv; simp [Value.ownBlock] at hv
      · rw [e1] at hv
        simp only [Value.ownBlock, Option.some.injEq] at hv
        subst hv
        exact own_ne e2 h.plan.own (by decide) e.symm
  have hboom : W'.ownsRow wb.heap.size 2 1 vb Bm.length (ints Bm) := by
    refine h.boom.kept hg ?_
    cases hv : vb.ownBlock with
    | none => exact .inl rfl
    | some k =>
      refine .inr fun e => ?_
      rcases h.boom.2 with ⟨e1, _⟩ | ⟨a, cap, cur, e1, _, e2, _⟩
      · rw [e1] at hv; simp [Value.ownBlock] at hv
      · rw [e1] at hv
        simp only [Value.ownBlock, Option.some.injEq] at hv
        subst hv
        exact own_ne e2 h.plan.own (by decide) e.symm
  refine ⟨?_, h.hY, ?_, own_set_other hbox hcome (by decide) _ _, h.clen, own_set_other hbox hboom (by decide) _ _, hsep, h.glen, bl_set (bl_grown h.old h.plan.own (Nat.le_refl _) hg) _ h.hY⟩
  · rw [heap_setCell_same _ _ _ _ _ _ hbox]
    rfl
  · refine ⟨own_set_other hbox M.own (by decide) _ _, M.len, fun i B r h1 h2 => ?_, M.nodup⟩
    obtain ⟨a, b, c⟩ := M.rows i B r h1 h2
    refine ⟨a, past_set ?_ b, c⟩
    rintro rfl
    rw [hbox] at b
    injection b with b
    injection b with _ b
    exact absurd b (by decide)
end

set_option maxRecDepth 100000 in
set_option maxHeartbeats 8000000 in
theorem newYear_any (D : Nat) (l : List Rch) (sr : Value) (w : World) (hr : Rchs w sr l) (F : Fit (D : Int) l) :
    Calls Try.prog 61 #[.agg #[.int .i64 (D : Int), sr]] w fun e w' => ∃ Y vp vc vb Bs, e = .returned (.pointer (some ⟨Y, 0, none⟩)) ∧ Year w w' Y D sr D vp vc vb Bs (List.replicate l.length (List.replicate D 0)) [List.replicate 8 0] [0] (List.replicate 8 0) := by
  have hn1 := F.n1
  have hn2 := F.n2
  have hd1 := F.d1
  have hd2 := F.d2
  obtain ⟨b, off, c, rfl, hlc, hb, hcell⟩ := hr.some hn1
  obtain ⟨i36, hi, hi0, hi1, hi2⟩ := info_parts info36
  obtain ⟨i2, hi', hj0, hj1, hj2⟩ := info_parts info2'
  clear hcell F
  go_enter Try.func61, Try.ntmps61
  go_wp2
  obtain ⟨W2, hW2⟩ : ∃ W2, (((w.alloc (.cells #[.int .i64 (D : Int), .slice (some ⟨b, off, none⟩) l.length c] 24)).alloc (.cells #[.int .i64 0, .int .i64 0, .int .i64 0, .int .i64 0, .int .i64 0, .int .i64 0, .int .i64 0, .int .i64 0] 86)).alloc (.cells #[.int .i64 0] 2)).alloc (.cells #[.int .i64 (D : Int), .slice (some ⟨b, off, none⟩) l.length c, .slice none 0 0, .slice (some ⟨w.heap.size + 1, 0, none⟩) 1 1, .slice (some ⟨w.heap.size + 1 + 1, 0, none⟩) 1 1, .int .i64 0, .int .i64 0, .int .i64 0, .int .i64 0, .int .i64 0, .int .i64 0, .int .i64 0, .int .i64 0] 88) = W2 := ⟨_, rfl⟩
  have e0 := World.alloc_heap_new w (.cells #[.int .i64 (D : Int), .slice (some ⟨b, off, none⟩) l.length c] 24)
  have e1 := World.alloc_heap_new (w.alloc (.cells #[.int .i64 (D : Int), .slice (some ⟨b, off, none⟩) l.length c] 24)) (.cells #[.int .i64 0, .int .i64 0, .int .i64 0, .int .i64 0, .int .i64 0, .int .i64 0, .int .i64 0, .int .i64 0] 86)
  have e2 := World.alloc_heap_new ((w.alloc (.cells #[.int .i64 (D : Int), .slice (some ⟨b, off, none⟩) l.length c] 24)).alloc (.cells #[.int .i64 0, .int .i64 0, .int .i64 0, .int .i64 0, .int .i64 0, .int .i64 0, .int .i64 0, .int .i64 0] 86)) (.cells #[.int .i64 0] 2)
  have e3 := World.alloc_heap_new (((w.alloc (.cells #[.int .i64 (D : Int), .slice (some ⟨b, off, none⟩) l.length c] 24)).alloc (.cells #[.int .i64 0, .int .i64 0, .int .i64 0, .int .i64 0, .int .i64 0, .int .i64 0, .int .i64 0, .int .i64 0] 86)).alloc (.cells #[.int .i64 0] 2)) (.cells #[.int .i64 (D : Int), .slice (some ⟨b, off, none⟩) l.length c, .slice none 0 0, .slice (some ⟨w.heap.size + 1, 0, none⟩) 1 1, .slice (some ⟨w.heap.size + 1 + 1, 0, none⟩) 1 1, .int .i64 0, .int .i64 0, .int .i64 0, .int .i64 0, .int .i64 0, .int .i64 0, .int .i64 0, .int .i64 0] 88)
  simp only [World.size_alloc] at e1 e2 e3
  have k0 := heap_mono e0 (bl_alloc (bl_alloc (bl_alloc (bl_refl _) (.cells #[.int .i64 0, .int .i64 0, .int .i64 0, .int .i64 0, .int .i64 0, .int .i64 0, .int .i64 0, .int .i64 0] 86)) (.cells #[.int .i64 0] 2)) (.cells #[.int .i64 (D : Int), .slice (some ⟨b, off, none⟩) l.length c, .slice none 0 0, .slice (some ⟨w.heap.size + 1, 0, none⟩) 1 1, .slice (some ⟨w.heap.size + 1 + 1, 0, none⟩) 1 1, .int .i64 0, .int .i64 0, .int .i64 0, .int .i64 0, .int .i64 0, .int .i64 0, .int .i64 0, .int .i64 0] 88))
  have k1 := heap_mono e1 (bl_alloc (bl_alloc (bl_refl _) (.cells #[.int .i64 0] 2)) (.cells #[.int .i64 (D : Int), .slice (some ⟨b, off, none⟩) l.length c, .slice none 0 0, .slice (some ⟨w.heap.size + 1, 0, none⟩) 1 1, .slice (some ⟨w.heap.size + 1 + 1, 0, none⟩) 1 1, .int .i64 0, .int .i64 0, .int .i64 0, .int .i64 0, .int .i64 0, .int .i64 0, .int .i64 0, .int .i64 0] 88))
  have k2 := heap_mono e2 (bl_alloc (bl_refl _) (.cells #[.int .i64 (D : Int), .slice (some ⟨b, off, none⟩) l.length c, .slice none 0 0, .slice (some ⟨w.heap.size + 1, 0, none⟩) 1 1, .slice (some ⟨w.heap.size + 1 + 1, 0, none⟩) 1 1, .int .i64 0, .int .i64 0, .int .i64 0, .int .i64 0, .int .i64 0, .int .i64 0, .int .i64 0, .int .i64 0] 88))
  have hold : Below w.heap.size w W2 := by rw [← hW2]; exact bl_alloc (bl_alloc (bl_alloc (bl_alloc (bl_refl _) _) _) _) _
  rw [hW2] at k0 k1 k2 e3 ⊢
  clear hW2 e0 e1 e2
  have D0 : Year w W2 (w.heap.size + 1 + 1 + 1) D (.slice (some ⟨b, off, none⟩) l.length c) D (.slice none 0 0) (.slice (some ⟨w.heap.size + 1, 0, none⟩) 1 1) (.slice (some ⟨w.heap.size + 1 + 1, 0, none⟩) 1 1) [] (List.replicate 0 (List.replicate D 0)) [List.replicate 8 0] [0] (List.replicate 8 0) := by
    refine ⟨e3, by omega, Mat.nil _ _ _, ?_, by simp, ?_, by simp, rfl, hold⟩
    · exact ⟨rfl, .inr ⟨w.heap.size + 1, 1, _, rfl, by omega, k1, Nat.le_refl _, by unfold maxLen; decide, rfl, rfl⟩⟩
    · exact ⟨rfl, .inr ⟨w.heap.size + 1 + 1, 1, _, rfl, by omega, k2, Nat.le_refl _, by unfold maxLen; decide, rfl, rfl⟩⟩
  have HD0 := hid D0
  have K0 := hid k0
  clear D0 k0 k1 k2 e3 hold
  go_loopw [13] (fun p wr => ∃ (k : Nat) (vp : Value) (Bs : List Nat), k ≤ l.length ∧ p = .int .i64 k ∧ Year w wr (w.heap.size + 1 + 1 + 1) D (.slice (some ⟨b, off, none⟩) l.length c) D vp (.slice (some ⟨w.heap.size + 1, 0, none⟩) 1 1) (.slice (some ⟨w.heap.size + 1 + 1, 0, none⟩) 1 1) Bs (List.replicate k (List.replicate D 0)) [List.replicate 8 0] [0] (List.replicate 8 0) ∧ wr.heap[w.heap.size]? = some (.cells #[.int .i64 (D : Int), .slice (some ⟨b, off, none⟩) l.length c] 24 (0, 0))) (fun p _ => l.length - (intOf p).toNat)
  case atStart => exact ⟨0, _, [], Nat.zero_le _, rfl, HD0.out, K0.out⟩
  case round =>
    obtain ⟨k, vp, Bs, hk, rfl, Yr, hp⟩ := hrel
    clear HD0 K0
    have hbl := (Array.getElem?_eq_some_iff.1 hp).1
    by_cases hlt : k < l.length
    · have hbc0 : wr.cell? ⟨w.heap.size, 0, none⟩ = some (.int .i64 (D : Int)) := cell_of_heap hp
      have hy2 := Yr.c2
      have hyl := Yr.lt
      have hmk := run_makeSlice wr.drew 36 2 i2 (.int .i64 0) Try.underlying36 hi' hj0 .i64 .i64 (D : Int) (D : Int) (by omega) (by omega) (by rw [hj1]; omega) (by rw [hj2]; omega) (by omega)
      rw [Int.toNat_natCast, hj1, Nat.mul_one, made_zero] at hmk
      have hll : (List.replicate k (List.replicate D (0 : Int))).length = k := by simp
      have Y1 := Yr.mono (bl_drew (bl_refl wr))
      have hown := Y1.plan.own
      rw [hll] at hown
      have hb2 : Below wr.heap.size wr ((wr.drew.alloc (.cells (ints (List.replicate D (0 : Int))).toArray 2)).alloc (.cells #[.slice (some ⟨wr.heap.size, 0, none⟩) D D] 36)) := bl_alloc (bl_alloc (bl_drew (bl_refl _)) _) _
      have hown2 := (hown.alloc (.cells (ints (List.replicate D (0 : Int))).toArray 2)).alloc (.cells #[.slice (some ⟨wr.heap.size, 0, none⟩) D D] 36)
      have HY := hid (Yr.mono hb2)
      have hyA : (wr.alloc (.cells (ints (List.replicate D (0 : Int))).toArray 2)).cell? ⟨w.heap.size + 1 + 1 + 1, 2, none⟩ = some vp := (Yr.mono (bl_alloc (bl_refl _) _)).c2
      have hyB : ((wr.alloc (.cells (ints (List.replicate D (0 : Int))).toArray 2)).alloc (.cells #[.slice (some ⟨wr.heap.size, 0, none⟩) D D] 36)).cell? ⟨w.heap.size + 1 + 1 + 1, 2, none⟩ = some vp := (Yr.mono (bl_alloc (bl_alloc (bl_refl _) _) _)).c2
      have HY1 := hid Y1
      have HP2 := hid (heap_mono hp hb2)
      have hst := hid (rep_snoc k (List.replicate D (0 : Int)))
      clear Yr Y1 hown hp
      go_wp2
      go_region_law (refine step_append_own rfl _ _ 25 rfl w.heap.size 36 i36 (.slice none 0 0) 1 24 Try.underlying25 hi hi0 hi1 hi2 rfl (by decide) vp k _ rfl hown2 ⟨wr.heap.size + 1, 0, none⟩ 1 1 [.slice (some ⟨wr.heap.size, 0, none⟩) D D] rfl rfl (by have := cell_one_new (wr.drew.alloc (.cells (ints (List.replicate D (0 : Int))).toArray 2)) (.slice (some ⟨wr.heap.size, 0, none⟩) D D) 36; rw [World.size_alloc] at this; exact this) (fun x hx => by simp at hx; subst hx; rfl) (by unfold maxLen; omega) (by omega) (by simp; omega) ?_; intro v' w5 hown' hgrow5 hnil5; obtain ⟨A9, c9, rfl⟩ := own_slice hown'; have hk9 := keep_other HY.out.box hown2 (by decide) hgrow5; have hx9 := (Array.getElem?_eq_some_iff.1 hk9).1; have hc9 : w5.cell? ⟨w.heap.size + 1 + 1 + 1, 2, none⟩ = some vp := cell_of_heap hk9; have hz9 : ∀ i, w5.frozen? ⟨w.heap.size + 1 + 1 + 1, i, none⟩ = false := fun i => frozen_of_heap hk9)
      all_goals
        have M5 := HY1.out.plan.made (W := wr.drew) (by have := HY1.out.old.size; exact this) (by rw [hll]; exact hown') hgrow5
        have Y5 := HY.out.setPlan hgrow5 M5 (fun i B hB e => by
          have hle := HY1.out.boom.lt B e
          rcases Nat.lt_or_ge i Bs.length with hi5 | hi5
          · rw [List.getElem?_append_left hi5] at hB
            exact HY1.out.sep i B hB e
          · have hi6 := (List.getElem?_eq_some_iff.1 hB).1
            simp only [List.length_append, List.length_cons, List.length_nil] at hi6
            rw [List.getElem?_append_right hi5, show i - Bs.length = 0 by omega] at hB
            simp only [List.getElem?_cons_zero, Option.some.injEq] at hB
            subst hB
            exact Nat.lt_irrefl _ hle.2)
        rw [hst.out] at Y5
        have hp5 : (w5.setCell ⟨w.heap.size + 1 + 1 + 1, 2, none⟩ (.slice A9 (k + 1) c9)).heap[w.heap.size]? = some (.cells #[.int .i64 (D : Int), .slice (some ⟨b, off, none⟩) l.length c] 24 (0, 0)) := past_set (by omega) (keep_other HP2.out hown2 (by decide) hgrow5)
        clear hown' hgrow5 hnil5 hk9 hx9 hc9 hz9 M5 hyA hyB hy2 hbc0
        obtain ⟨w6, hw6⟩ : ∃ w6, w5.setCell ⟨w.heap.size + 1 + 1 + 1, 2, none⟩ (.slice A9 (k + 1) c9) = w6 := ⟨_, rfl⟩
        rw [hw6] at Y5 hp5 ⊢
        clear hw6
        go_wp2
        go_roundw
        case rel => exact ⟨k + 1, _, _, by omega, by go_num, Y5, hp5⟩
        case measure => simp [intOf]; omega
    · obtain rfl : k = l.length := by omega
      have HY := hid Yr
      clear Yr hp
      go_wp2
      go_ret
      exact ⟨_, _, _, _, _, rfl, HY.out⟩

end Go.Proofs.Ytbnmjbmlejifcaa
