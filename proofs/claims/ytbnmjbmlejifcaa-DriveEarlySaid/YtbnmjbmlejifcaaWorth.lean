/- How many more come by a wider reach: the walks. -/
import Derived.Test.YtbnmjbmlejifcaaWider
set_option linter.all false
namespace Go.Proofs.Ytbnmjbmlejifcaa
open Go Go.RowKit Go.Proofs
attribute [local go_sem] cell_grow frozen_grow

/-- A river's value. -/
def AgR (W : World) (v : Value) (days : Int) (L : List Rch) : Prop := ∃ s, v = .agg #[.int .i64 days, s] ∧ Rchs W s L
theorem AgR.mono {W W' : World} {v : Value} {days : Int} {L : List Rch} (h : AgR W v days L) (hb : Below W.heap.size W W') : AgR W' v days L := by
  obtain ⟨s, h1, h2⟩ := h
  exact ⟨s, h1, h2.mono hb⟩
/-- A year by the early plan, its boom's field, its boom, a day of it. -/
def YearV (D : Nat) (l : List Rch) (W : World) (v : Value) : Prop := ∃ Y sr, v = .pointer (some ⟨Y, 0, none⟩) ∧ EarlyYear D l sr W Y
def BoomP (D : Nat) (l : List Rch) (W : World) (v : Value) : Prop := ∃ Y sr, v = .pointer (some ⟨Y, 4, none⟩) ∧ EarlyYear D l sr W Y
def BoomS (D : Nat) (l : List Rch) (W : World) (v : Value) : Prop := ∃ g cap, v = .slice (some ⟨g, 0, none⟩) (D + 1) cap ∧ g < W.heap.size ∧ ∀ t : Nat, t ≤ D → W.cell? ⟨g, t, none⟩ = some (.int .i64 (mostE D l (t : Int)))
def BoomC (D : Nat) (l : List Rch) (t : Nat) (W : World) (v : Value) : Prop := ∃ g, v = .pointer (some ⟨g, t, none⟩) ∧ g < W.heap.size ∧ W.cell? ⟨g, t, none⟩ = some (.int .i64 (mostE D l (t : Int)))
section
variable {D : Nat} {l : List Rch} {t : Nat} {W W' : World} {v : Value}
theorem YearV.mono (h : YearV D l W v) (hb : Below W.heap.size W W') : YearV D l W' v := by obtain ⟨Y, sr, h1, h2⟩ := h; exact ⟨Y, sr, h1, h2.mono hb⟩
theorem BoomP.mono (h : BoomP D l W v) (hb : Below W.heap.size W W') : BoomP D l W' v := by obtain ⟨Y, sr, h1, h2⟩ := h; exact ⟨Y, sr, h1, h2.mono hb⟩
theorem BoomS.mono (h : BoomS D l W v) (hb : Below W.heap.size W W') : BoomS D l W' v := by obtain ⟨g, cap, h1, h2, h3⟩ := h; exact ⟨g, cap, h1, Nat.lt_of_lt_of_le h2 hb.size, fun t ht => cell_mono (h3 t ht) hb⟩
theorem BoomC.mono (h : BoomC D l t W v) (hb : Below W.heap.size W W') : BoomC D l t W' v := by obtain ⟨g, h1, h2, h3⟩ := h; exact ⟨g, h1, Nat.lt_of_lt_of_le h2 hb.size, cell_mono h3 hb⟩
end

set_option maxRecDepth 100000 in
set_option maxHeartbeats 8000000 in
theorem refWorth_any (days : Int) (l : List Rch) (sr : Value) (day reach : Int) (w : World) (hl : l.length ≤ 1000) (hs : Rchs w sr l) :
    Calls Try.prog 41 #[.agg #[.int .i64 days, sr], .int .i64 day, .int .i64 reach] w fun e w' => e = .returned (.tuple #[.int .i64 (worthE days l day reach), .int .i64 (reachedE days l day reach)]) ∧ Below w.heap.size w w' := by
  obtain ⟨A, c, rfl⟩ := hs.slice
  have HX0 := hid (World.alloc_heap_new w (.cells #[.int .i64 days, .slice A l.length c] 24))
  have HB := hid (bl_alloc (bl_refl w) (.cells #[.int .i64 days, .slice A l.length c] 24))
  have HS := hid hs
  clear hs
  go_enter Try.func41, Try.ntmps41
  go_upto_region 1 with (fail)
  obtain ⟨R, hR⟩ : ∃ R, w.heap.size = R := ⟨_, rfl⟩
  obtain ⟨w0, hw0⟩ : ∃ w0, w.alloc (.cells #[.int .i64 days, .slice A l.length c] 24) = w0 := ⟨_, rfl⟩
  rw [hR] at HX0 ⊢
  rw [hw0] at HX0 HB ⊢
  clear hw0 hR
  have r0 : w0.cell? ⟨R, 0, none⟩ = some (.int .i64 days) := cell_of_heap HX0.out
  have r1 : w0.cell? ⟨R, 1, none⟩ = some (.slice A l.length c) := cell_of_heap HX0.out
  have l0 := (Array.getElem?_eq_some_iff.1 HX0.out).1
  go_wp2_with fail
  refine (refReached_any days l _ day reach _ (HS.out.mono HB.out)).mono ?_
  rintro e w1 ⟨rfl, hb1⟩
  have HX := hid (heap_mono HX0.out hb1)
  have HB1 := hid (bl_trans HB.out hb1)
  clear HX0 HB hb1 r0 r1 l0
  by_cases h0 : reachedE days l day reach = 0
  case neg =>
    have he : (reachedE days l day reach != 0) = true := by simp [h0]
    have e2 := hid (show worthE days l day reach = 0 by rw [worthE, if_neg h0])
    clear h0
    have s0 : w1.cell? ⟨R, 0, none⟩ = some (.int .i64 days) := cell_of_heap HX.out
    have s1 : w1.cell? ⟨R, 1, none⟩ = some (.slice A l.length c) := cell_of_heap HX.out
    have sl := (Array.getElem?_eq_some_iff.1 HX.out).1
    go_wp2_with fail
    refine (refReached_any days l _ day reach w1 (HS.out.mono HB1.out)).mono ?_
    rintro e w2 ⟨rfl, hb2⟩
    clear s0 s1 sl
    go_wp2
    go_ret2
    exact ⟨by rw [e2.out]; rfl, bl_trans HB1.out hb2⟩
  have he : (reachedE days l day reach != 0) = false := by simp [h0]
  obtain ⟨ha, hr1, hr2⟩ := reached_zero h0
  obtain ⟨g0, g1, g2⟩ := asked_zero ha
  obtain ⟨D, rfl⟩ : ∃ D : Nat, days = D := ⟨days.toNat, by omega⟩
  obtain ⟨t, rfl⟩ : ∃ t : Nat, day = t := ⟨day.toNat, by omega⟩
  obtain ⟨i, rfl⟩ : ∃ i : Nat, reach = i := ⟨reach.toNat, by omega⟩
  have htD : t ≤ D := by omega
  have ht1 : 1 ≤ t := by omega
  have hil : i < l.length := by omega
  have HF := hid (fit_of g0)
  have HFW := hid (fit_wider g0 hil)
  have f2 := HF.out.d2
  have f3 := HF.out.n1
  have f4 := HF.out.n2
  obtain ⟨b, off, c', e5, hlc, hb, hcell⟩ := HS.out.some f3
  simp only [Value.slice.injEq, true_and] at e5
  obtain ⟨rfl, rfl⟩ := e5
  have HR1 := hid (HS.out.mono HB1.out)
  have HPX : Hid (∀ x, l[i]? = some x → 0 ≤ x.pass ∧ x.pass ≤ 100000) := fun x hx => by have := HF.out.pass i x hx; omega
  have hm1 := most_nonneg HF.out htD
  have hm2 := most_nonneg HFW.out htD
  have E2 : Hid (worthE (D : Int) l (t : Int) (i : Int) = mostE D (widerL l i) (t : Int) - mostE D l (t : Int)) := by
    show worthE (D : Int) l (t : Int) (i : Int) = _
    rw [worthE, if_pos h0]
    simp only [Int.toNat_natCast]
  have H0 := hid h0
  clear h0 ha g0 g1 g2 hr1 hr2 hcell
  have hwr : IntKind.i64.wrap (mostE D (widerL l i) (t : Int) - mostE D l (t : Int)) = mostE D (widerL l i) (t : Int) - mostE D l (t : Int) := IntWalk.i64_in _ (by omega)
  go_upto_region 3 with (fail)
  refine wp_region_vals [17, 18, 19, 20, 21, 22, 23, 24, 25, 6, 7] (fun seen u W => (seen 0 = true → u 17 = .agg #[.int .i64 (D : Int), .slice (some ⟨b, off, none⟩) l.length c]) ∧
    (seen 1 = true → u 18 = .int .i64 (i : Int)) ∧
    (seen 2 = true → AgR W (u 19) (D : Int) (widerL l i)) ∧
    (seen 3 = true → u 20 = .int .i64 (t : Int)) ∧
    (seen 4 = true → u 21 = .int .i64 (mostE D (widerL l i) (t : Int))) ∧
    (seen 5 = true → u 22 = .agg #[.int .i64 (D : Int), .slice (some ⟨b, off, none⟩) l.length c]) ∧
    (seen 6 = true → u 23 = .int .i64 (t : Int)) ∧
    (seen 7 = true → u 24 = .int .i64 (mostE D l (t : Int))) ∧
    (seen 8 = true → u 25 = .int .i64 (mostE D (widerL l i) (t : Int) - mostE D l (t : Int))) ∧
    (seen 9 = true → u 6 = .int .i64 (mostE D (widerL l i) (t : Int) - mostE D l (t : Int))) ∧
    (seen 10 = true → u 7 = .int .i64 0))
    (by kernel_rfl) (by kernel_rfl) (by kernel_rfl) (by simp) (by simp) ?_ ?_
  · intro i o ho seen a' w9 hb9 ⟨F0, F1, F2, F3, F4, F5, F6, F7, F8, F9, F10⟩ hv hsi hdep
    have hbx := heap_mono HX.out hb9
    have c0 : w9.cell? ⟨R, 0, none⟩ = some (.int .i64 (D : Int)) := cell_of_heap hbx
    have c1 : w9.cell? ⟨R, 1, none⟩ = some (.slice (some ⟨b, off, none⟩) l.length c) := cell_of_heap hbx
    have hXl := (Array.getElem?_eq_some_iff.1 hbx).1
    rcases i with _ | _ | _ | _ | _ | _ | _ | _ | _ | _ | _ | i <;> simp only [List.getElem?_cons_zero, List.getElem?_cons_succ, List.getElem?_nil, Option.some.injEq, reduceCtorEq] at ho <;> subst ho
    · have x3 := val_at (hv 3 (by simp))
      simp [valsOf] at x3
      refine wp_value (.agg #[.int .i64 (D : Int), .slice (some ⟨b, off, none⟩) l.length c]) (w' := w9) (by simp [execOp, x3, go_sem, c0, c1, hXl, hwr]) ⟨_, rfl, hb9, ?_⟩
      exact ⟨by simp, by simpa using F1, by simpa using F2, by simpa using F3, by simpa using F4, by simpa using F5, by simpa using F6, by simpa using F7, by simpa using F8, by simpa using F9, by simpa using F10⟩
    · have x2 := val_at (hv 2 (by simp))
      simp [valsOf] at x2
      refine wp_value (.int .i64 (i : Int)) (w' := w9) (by simp [execOp, x2, go_sem, c0, c1, hXl, hwr]) ⟨_, rfl, hb9, ?_⟩
      exact ⟨by simpa using F0, by simp, by simpa using F2, by simpa using F3, by simpa using F4, by simpa using F5, by simpa using F6, by simpa using F7, by simpa using F8, by simpa using F9, by simpa using F10⟩
    · have d0 := hdep ⟨0, .data⟩ (by simp) rfl
      have e0 := val_at (F0 d0)
      have d1 := hdep ⟨1, .data⟩ (by simp) rfl
      have e1 := val_at (F1 d1)
      refine wp_calls (f := 79) (args := #[.agg #[.int .i64 (D : Int), .slice (some ⟨b, off, none⟩) l.length c], .int .i64 (i : Int)]) (w' := w9) (by simp [execOp, e0, e1, go_sem, valsOf]) (refWider_any D l _ i w9 f3 (by omega) (HR1.out.mono hb9) hil HPX.out) ?_
      rintro e w10 ⟨⟨s, rfl, hv⟩, hg⟩
      refine ⟨_, rfl, _, rfl, bl_trans hb9 hg, ?_⟩
      exact ⟨by simpa using F0, by simpa using F1, by simpa using ⟨s, rfl, hv.rchs⟩, by simpa using F3, by simpa using F4, by simpa using F5, by simpa using F6, by simpa using F7, by simpa using F8, by simpa using F9, by simpa using F10⟩
    · have x1 := val_at (hv 1 (by simp))
      simp [valsOf] at x1
      refine wp_value (.int .i64 (t : Int)) (w' := w9) (by simp [execOp, x1, go_sem, c0, c1, hXl, hwr]) ⟨_, rfl, hb9, ?_⟩
      exact ⟨by simpa using F0, by simpa using F1, by simpa using F2, by simp, by simpa using F4, by simpa using F5, by simpa using F6, by simpa using F7, by simpa using F8, by simpa using F9, by simpa using F10⟩
    · have d2 := hdep ⟨2, .data⟩ (by simp) rfl
      have d3 := hdep ⟨3, .data⟩ (by simp) rfl
      have e3 := val_at (F3 d3)
      obtain ⟨s19, h19, hr19⟩ := F2 d2
      have e19 := val_at h19
      refine wp_calls (f := 39) (args := #[.agg #[.int .i64 (D : Int), s19], .int .i64 (t : Int)]) (w' := w9) (by simp [execOp, e19, e3, go_sem, valsOf]) (mostOf_any D (widerL l i) s19 t w9 hr19 HFW.out htD) ?_
      rintro e w10 ⟨rfl, hg⟩
      refine ⟨_, rfl, _, rfl, bl_trans hb9 hg, ?_⟩
      exact ⟨by simpa using F0, by simpa using F1, by simpa using fun h => (F2 h).mono hg, by simpa using F3, by simp, by simpa using F5, by simpa using F6, by simpa using F7, by simpa using F8, by simpa using F9, by simpa using F10⟩
    · have x3 := val_at (hv 3 (by simp))
      simp [valsOf] at x3
      refine wp_value (.agg #[.int .i64 (D : Int), .slice (some ⟨b, off, none⟩) l.length c]) (w' := w9) (by simp [execOp, x3, go_sem, c0, c1, hXl, hwr]) ⟨_, rfl, hb9, ?_⟩
      exact ⟨by simpa using F0, by simpa using F1, by simpa using F2, by simpa using F3, by simpa using F4, by simp, by simpa using F6, by simpa using F7, by simpa using F8, by simpa using F9, by simpa using F10⟩
    · have x1 := val_at (hv 1 (by simp))
      simp [valsOf] at x1
      refine wp_value (.int .i64 (t : Int)) (w' := w9) (by simp [execOp, x1, go_sem, c0, c1, hXl, hwr]) ⟨_, rfl, hb9, ?_⟩
      exact ⟨by simpa using F0, by simpa using F1, by simpa using F2, by simpa using F3, by simpa using F4, by simpa using F5, by simp, by simpa using F7, by simpa using F8, by simpa using F9, by simpa using F10⟩
    · have d5 := hdep ⟨5, .data⟩ (by simp) rfl
      have e5 := val_at (F5 d5)
      have d6 := hdep ⟨6, .data⟩ (by simp) rfl
      have e6 := val_at (F6 d6)
      refine wp_calls (f := 39) (args := #[.agg #[.int .i64 (D : Int), .slice (some ⟨b, off, none⟩) l.length c], .int .i64 (t : Int)]) (w' := w9) (by simp [execOp, e5, e6, go_sem, valsOf]) (mostOf_any D l _ t w9 (HR1.out.mono hb9) HF.out htD) ?_
      rintro e w10 ⟨rfl, hg⟩
      refine ⟨_, rfl, _, rfl, bl_trans hb9 hg, ?_⟩
      exact ⟨by simpa using F0, by simpa using F1, by simpa using fun h => (F2 h).mono hg, by simpa using F3, by simpa using F4, by simpa using F5, by simpa using F6, by simp, by simpa using F8, by simpa using F9, by simpa using F10⟩
    · have d4 := hdep ⟨4, .data⟩ (by simp) rfl
      have e4 := val_at (F4 d4)
      have d7 := hdep ⟨7, .data⟩ (by simp) rfl
      have e7 := val_at (F7 d7)
      refine wp_value (.int .i64 (mostE D (widerL l i) (t : Int) - mostE D l (t : Int))) (w' := w9) (by simp [execOp, e4, e7, go_sem, c0, c1, hXl, hwr]) ⟨_, rfl, hb9, ?_⟩
      exact ⟨by simpa using F0, by simpa using F1, by simpa using F2, by simpa using F3, by simpa using F4, by simpa using F5, by simpa using F6, by simpa using F7, by simp, by simpa using F9, by simpa using F10⟩
    · have d8 := hdep ⟨8, .data⟩ (by simp) rfl
      have e8 := val_at (F8 d8)
      refine wp_value (.int .i64 (mostE D (widerL l i) (t : Int) - mostE D l (t : Int))) (w' := w9) (by simp [execOp, e8, go_sem, c0, c1, hXl, hwr]) ⟨_, rfl, hb9, ?_⟩
      exact ⟨by simpa using F0, by simpa using F1, by simpa using F2, by simpa using F3, by simpa using F4, by simpa using F5, by simpa using F6, by simpa using F7, by simpa using F8, by simp, by simpa using F10⟩
    · refine wp_value (.int .i64 0) (w' := w9) (by simp [execOp, go_sem, c0, c1, hXl, hwr]) ⟨_, rfl, hb9, ?_⟩
      exact ⟨by simpa using F0, by simpa using F1, by simpa using F2, by simpa using F3, by simpa using F4, by simpa using F5, by simpa using F6, by simpa using F7, by simpa using F8, by simpa using F9, by simp⟩
  intro u w5 hb5 seen hall ⟨F0, F1, F2, F3, F4, F5, F6, F7, F8, F9, F10⟩
  replace F0 := F0 (hall 0 (by decide))
  replace F1 := F1 (hall 1 (by decide))
  replace F2 := F2 (hall 2 (by decide))
  replace F3 := F3 (hall 3 (by decide))
  replace F4 := F4 (hall 4 (by decide))
  replace F5 := F5 (hall 5 (by decide))
  replace F6 := F6 (hall 6 (by decide))
  replace F7 := F7 (hall 7 (by decide))
  replace F8 := F8 (hall 8 (by decide))
  replace F9 := F9 (hall 9 (by decide))
  replace F10 := F10 (hall 10 (by decide))
  simp only [setAll, F9, F10]
  clear hwr hm1 hm2
  have HB5 := hid (bl_trans HB1.out hb5)
  clear F0 F1 F2 F3 F4 F5 F6 F7 F8 F9 F10 hall seen hb5
  generalize mostE D (widerL l i) (t : Int) - mostE D l (t : Int) = dv at *
  generalize u 17 = u17
  generalize u 18 = u18
  generalize u 19 = u19
  generalize u 20 = u20
  generalize u 21 = u21
  generalize u 22 = u22
  generalize u 23 = u23
  generalize u 24 = u24
  generalize u 25 = u25
  go_wp2
  go_ret2
  exact ⟨by rw [E2.out, H0.out]; simp, HB5.out⟩

theorem latD_yes {f : Nat → Bool} {s : Nat} (h1 : 1 ≤ s) (h : f s = true) : latD f s = s := by
  obtain ⟨m, rfl⟩ : ∃ m, s = m + 1 := ⟨s - 1, by omega⟩
  unfold latD
  rw [if_pos h]
theorem latD_no {f : Nat → Bool} {s : Nat} (h1 : 1 ≤ s) (h : f s = false) : latD f s = latD f (s - 1) := by
  obtain ⟨m, rfl⟩ : ∃ m, s = m + 1 := ⟨s - 1, by omega⟩
  rw [show latD f (m + 1) = if f (m + 1) = true then m + 1 else latD f m from rfl, if_neg (by rw [h]; decide)]
  rfl

set_option maxRecDepth 100000 in
set_option maxHeartbeats 8000000 in
theorem refLatest_any (days : Int) (l : List Rch) (sr : Value) (day reach : Int) (w : World) (hl : l.length ≤ 1000) (hs : Rchs w sr l) :
    Calls Try.prog 43 #[.agg #[.int .i64 days, sr], .int .i64 day, .int .i64 reach] w fun e w' => e = .returned (.tuple #[.int .i64 (latestE days l day reach), .int .i64 (reachedE days l day reach)]) ∧ Below w.heap.size w w' := by
  obtain ⟨A, c, rfl⟩ := hs.slice
  have HX0 := hid (World.alloc_heap_new w (.cells #[.int .i64 days, .slice A l.length c] 24))
  have HB := hid (bl_alloc (bl_refl w) (.cells #[.int .i64 days, .slice A l.length c] 24))
  have HS := hid hs
  clear hs
  go_enter Try.func43, Try.ntmps43
  go_upto_region 1 with (fail)
  obtain ⟨R, hR⟩ : ∃ R, w.heap.size = R := ⟨_, rfl⟩
  obtain ⟨w0, hw0⟩ : ∃ w0, w.alloc (.cells #[.int .i64 days, .slice A l.length c] 24) = w0 := ⟨_, rfl⟩
  rw [hR] at HX0 ⊢
  rw [hw0] at HX0 HB ⊢
  clear hw0 hR
  have r0 : w0.cell? ⟨R, 0, none⟩ = some (.int .i64 days) := cell_of_heap HX0.out
  have r1 : w0.cell? ⟨R, 1, none⟩ = some (.slice A l.length c) := cell_of_heap HX0.out
  have l0 := (Array.getElem?_eq_some_iff.1 HX0.out).1
  go_wp2_with fail
  refine (refReached_any days l _ day reach _ (HS.out.mono HB.out)).mono ?_
  rintro e w1 ⟨rfl, hb1⟩
  have HX := hid (heap_mono HX0.out hb1)
  have HB1 := hid (bl_trans HB.out hb1)
  clear HX0 HB hb1 r0 r1 l0
  by_cases h0 : reachedE days l day reach = 0
  case neg =>
    have he : (reachedE days l day reach != 0) = true := by simp [h0]
    have e2 := hid (show latestE days l day reach = 0 by rw [latestE, if_neg h0])
    clear h0
    have s0 : w1.cell? ⟨R, 0, none⟩ = some (.int .i64 days) := cell_of_heap HX.out
    have s1 : w1.cell? ⟨R, 1, none⟩ = some (.slice A l.length c) := cell_of_heap HX.out
    have sl := (Array.getElem?_eq_some_iff.1 HX.out).1
    go_wp2_with fail
    refine (refReached_any days l _ day reach w1 (HS.out.mono HB1.out)).mono ?_
    rintro e w2 ⟨rfl, hb2⟩
    clear s0 s1 sl
    go_wp2
    go_ret2
    exact ⟨by rw [e2.out]; rfl, bl_trans HB1.out hb2⟩
  have he : (reachedE days l day reach != 0) = false := by simp [h0]
  obtain ⟨ha, hr1, hr2⟩ := reached_zero h0
  obtain ⟨g0, g1, g2⟩ := asked_zero ha
  obtain ⟨D, rfl⟩ : ∃ D : Nat, days = D := ⟨days.toNat, by omega⟩
  obtain ⟨t, rfl⟩ : ∃ t : Nat, day = t := ⟨day.toNat, by omega⟩
  obtain ⟨i, rfl⟩ : ∃ i : Nat, reach = i := ⟨reach.toNat, by omega⟩
  have htD : t ≤ D := by omega
  have ht1 : 1 ≤ t := by omega
  have hil : i < l.length := by omega
  have HF := hid (fit_of g0)
  have HFW := hid (fit_wider g0 hil)
  have f2 := HF.out.d2
  have f3 := HF.out.n1
  have f4 := HF.out.n2
  obtain ⟨b, off, c', e5, hlc, hb, hcell⟩ := HS.out.some f3
  simp only [Value.slice.injEq, true_and] at e5
  obtain ⟨rfl, rfl⟩ := e5
  have HR1 := hid (HS.out.mono HB1.out)
  have HPX : Hid (∀ x, l[i]? = some x → 0 ≤ x.pass ∧ x.pass ≤ 100000) := fun x hx => by have := HF.out.pass i x hx; omega
  have hm1 := most_nonneg HF.out htD
  have hm2 := most_nonneg HFW.out htD
  have E2 : Hid (latestE (D : Int) l (t : Int) (i : Int) = (latN D l (t : Int) i : Int)) := by
    show latestE (D : Int) l (t : Int) (i : Int) = _
    rw [latestE, if_pos h0]
    simp only [Int.toNat_natCast]
  have H0 := hid h0
  clear h0 ha g0 g1 g2 hr1 hr2 hcell
  obtain ⟨x, hx⟩ := get_at hil
  have hrd := HF.out.ready i x hx
  have Hx := hid hx
  have HE : Hid (latF D l (t : Int) i x.ready.toNat = true) := by
    show latF D l (t : Int) i x.ready.toNat = true
    unfold latF
    rw [show ((x.ready.toNat : Nat) : Int) = x.ready by omega, later_same hx]
    simp
  have HLF : Hid (∀ s, latF D l (t : Int) i s = decide (mostE D (laterL l i (s : Int)) (t : Int) = mostE D l (t : Int))) := fun _ => rfl
  have hcall := mostOf_any D l _ t w1 HR1.out HF.out htD
  have s0 : w1.cell? ⟨R, 0, none⟩ = some (.int .i64 (D : Int)) := cell_of_heap HX.out
  have s1 : w1.cell? ⟨R, 1, none⟩ = some (.slice (some ⟨b, off, none⟩) l.length c) := cell_of_heap HX.out
  have sl := (Array.getElem?_eq_some_iff.1 HX.out).1
  clear hx hm1 hm2
  go_wp2_with fail
  refine hcall.mono ?_
  rintro e w2 ⟨rfl, hb2⟩
  have HX2 := hid (heap_mono HX.out hb2)
  have HB2 := hid (bl_trans HB1.out hb2)
  clear s0 s1 sl HX hb2 hcall
  have s0 : w2.cell? ⟨R, 0, none⟩ = some (.int .i64 (D : Int)) := cell_of_heap HX2.out
  have sl := (Array.getElem?_eq_some_iff.1 HX2.out).1
  generalize mostE D l (t : Int) = wn at *
  go_wp2
  clear s0 sl
  go_loopw [9] (fun p wr => ∃ s : Nat, x.ready ≤ (s : Int) ∧ s ≤ D ∧ p = .int .i64 (s : Int) ∧ latN D l (t : Int) i = latD (latF D l (t : Int) i) s ∧ wr.heap[R]? = some (.cells #[.int .i64 (D : Int), .slice (some ⟨b, off, none⟩) l.length c] 24 (0, 0)) ∧ Below w.heap.size w wr) (fun p _ => (intOf p).toNat)
  case atStart => exact ⟨D, by omega, Nat.le_refl _, rfl, rfl, HX2.out, HB2.out⟩
  case round =>
    obtain ⟨s, hs1, hs2, rfl, hlat, hR, hB⟩ := hrel
    clear HX2 HB2
    have HLAT := hid hlat
    have HX3 := hid hR
    have HB3 := hid hB
    have hcall := refLater_any (D : Int) l _ i (s : Int) wr f3 (by omega) (HS.out.mono hB) hil
    have s0 : wr.cell? ⟨R, 0, none⟩ = some (.int .i64 (D : Int)) := cell_of_heap HX3.out
    have s1 : wr.cell? ⟨R, 1, none⟩ = some (.slice (some ⟨b, off, none⟩) l.length c) := cell_of_heap HX3.out
    have sl := (Array.getElem?_eq_some_iff.1 HX3.out).1
    clear hlat hR hB
    go_wp2_with fail
    refine hcall.mono ?_
    rintro e w4 ⟨⟨s', rfl, hch⟩, hb4⟩
    have hcall2 := mostOf_any D (laterL l i (s : Int)) s' t w4 hch.rchs (fit_later HF.out hil ⟨by omega, by omega⟩) htD
    have HX4 := hid (heap_mono HX3.out hb4)
    have HB4 := hid (bl_trans HB3.out hb4)
    clear hcall s0 s1 sl hch hb4 HX3 HB3
    go_wp2_with fail
    refine hcall2.mono ?_
    rintro e w5 ⟨rfl, hb5⟩
    have HX5 := hid (heap_mono HX4.out hb5)
    have HB5 := hid (bl_trans HB4.out hb5)
    clear hcall2 hb5 HX4 HB4
    by_cases heq : mostE D (laterL l i (s : Int)) (t : Int) = wn
    · have d1 : (mostE D (laterL l i (s : Int)) (t : Int) != wn) = false := by simp [heq]
      have hres := hid (show latestE (D : Int) l (t : Int) (i : Int) = (s : Int) by
        rw [E2.out, HLAT.out, latD_yes (by omega) (by rw [HLF.out]; simpa using heq)])
      clear heq
      generalize mostE D (laterL l i (s : Int)) (t : Int) = mv at *
      go_wp2
      go_ret2
      exact ⟨by rw [hres.out, H0.out]; simp, HB5.out⟩
    · have d1 : (mostE D (laterL l i (s : Int)) (t : Int) != wn) = true := by simp [heq]
      have hlt : x.ready < (s : Int) := by
        by_cases e : x.ready = (s : Int)
        · exfalso
          have h := HE.out
          rw [HLF.out, show ((x.ready.toNat : Nat) : Int) = (s : Int) by omega] at h
          exact heq (by simpa using h)
        · omega
      have HN := hid (show latN D l (t : Int) i = latD (latF D l (t : Int) i) (s - 1) by
        rw [HLAT.out, latD_no (by omega) (by rw [HLF.out]; simpa using heq)])
      have hws : IntKind.i64.wrap ((s : Int) - 1) = ((s - 1 : Nat) : Int) := by rw [IntWalk.i64_in _ (by omega)]; omega
      clear heq
      generalize mostE D (laterL l i (s : Int)) (t : Int) = mv at *
      go_wp2
      go_roundw
      case rel => exact ⟨s - 1, by omega, by omega, rfl, HN.out, HX5.out, HB5.out⟩
      case measure => simp [intOf]; omega

end Go.Proofs.Ytbnmjbmlejifcaa
