/- Whether a river is valid, and what is asked of it: the walks. -/
import Derived.Test.YtbnmjbmlejifcaaByearly
import Derived.Test.YtbnmjbmlejifcaaWithin
set_option linter.all false
namespace Go.Proofs.Ytbnmjbmlejifcaa
open Go Go.RowKit Go.Proofs
attribute [local go_sem] cell_grow frozen_grow

theorem Ints.one {W : World} {n : Nat} (x : Int) (t : TypeId) (hn : n = W.heap.size) : Ints (W.alloc (.cells #[.int .i64 x] t)) (.slice (Option.some ⟨n, 0, none⟩) 1 1) [x] := by
  subst hn
  refine .inr ⟨W.heap.size, 0, 1, rfl, Nat.le_refl _, by simp, fun i y hy => ?_⟩
  have hi : i = 0 := by
    have := (List.getElem?_eq_some_iff.mp hy).1; simp at this; omega
  subst hi
  simp at hy; subst hy
  simp [go_sem]
theorem ints_three {W : World} {n : Nat} (x y z : Int) (t : TypeId) (hn : n = W.heap.size) : Ints (W.alloc (.cells #[.int .i64 x, .int .i64 y, .int .i64 z] t)) (.slice (Option.some ⟨n, 0, none⟩) 3 3) [x, y, z] := by
  subst hn
  refine .inr ⟨W.heap.size, 0, 3, rfl, Nat.le_refl _, by simp, fun i u hu => ?_⟩
  match i, hu with
  | 0, hu => simp at hu; subst hu; simp [go_sem]
  | 1, hu => simp at hu; subst hu; simp [go_sem]
  | 2, hu => simp at hu; subst hu; simp [go_sem]
theorem within_one (lo hi x : Int) : withinB lo hi [x] = decide (lo ≤ x ∧ x ≤ hi) := by
  simp only [withinB, badB, List.any_cons, List.any_nil, Bool.or_false, Bool.not_or]
  by_cases h1 : x < lo <;> by_cases h2 : hi < x <;> simp [h1, h2] <;> omega
theorem within_three (lo hi x y z : Int) : withinB lo hi [x, y, z] = decide ((lo ≤ x ∧ x ≤ hi) ∧ (lo ≤ y ∧ y ≤ hi) ∧ (lo ≤ z ∧ z ≤ hi)) := by
  simp only [withinB, badB, List.any_cons, List.any_nil, Bool.or_false, Bool.not_or]
  by_cases h1 : x < lo <;> by_cases h2 : hi < x <;> by_cases h3 : y < lo <;> by_cases h4 : hi < y <;> by_cases h5 : z < lo <;> by_cases h6 : hi < z <;> simp [h1, h2, h3, h4, h5, h6] <;> omega

set_option maxHeartbeats 8000000 in
theorem odd_any (x : Rch) (days : Int) (sr : Value) (R : Nat) (w : World) (hR : w.heap[R]? = some (.cells #[.int .i64 days, sr] 24 (0, 0))) :
    Calls Try.prog 66 #[encR x, .pointer (some ⟨R, 0, none⟩)] w fun e w' => e = .returned (.bool (!rangedB x days)) ∧ Below w.heap.size w w' := by
  have e0 := World.alloc_heap_new w (.cells #[.int .i64 x.down, .int .i64 x.pass, .int .i64 x.takes, .int .i64 x.lo, .int .i64 x.hi, .int .i64 x.every, .int .i64 x.logs, .int .i64 x.ready] 59)
  have HX := hid e0
  have HR := hid (heap_mono hR (bl_alloc (bl_refl w) (.cells #[.int .i64 x.down, .int .i64 x.pass, .int .i64 x.takes, .int .i64 x.lo, .int .i64 x.hi, .int .i64 x.every, .int .i64 x.logs, .int .i64 x.ready] 59)))
  have HB := hid (bl_alloc (bl_refl w) (.cells #[.int .i64 x.down, .int .i64 x.pass, .int .i64 x.takes, .int .i64 x.lo, .int .i64 x.hi, .int .i64 x.every, .int .i64 x.logs, .int .i64 x.ready] 59))
  unfold encR
  clear e0 hR
  go_enter Try.func66, Try.ntmps66
  go_upto_region 1 with (fail)
  obtain ⟨X, hX⟩ : ∃ X, w.heap.size = X := ⟨_, rfl⟩
  obtain ⟨w0, hw0⟩ : ∃ w0, w.alloc (.cells #[.int .i64 x.down, .int .i64 x.pass, .int .i64 x.takes, .int .i64 x.lo, .int .i64 x.hi, .int .i64 x.every, .int .i64 x.logs, .int .i64 x.ready] 59) = w0 := ⟨_, rfl⟩
  rw [hX] at HX ⊢
  rw [hw0] at HX HR HB ⊢
  have HX0 := HX
  have HR0 := HR
  have HB0 := HB
  clear hw0 HX HR HB hX
  have hx0 := HX0.out
  have c00 : w0.cell? ⟨X, 0, none⟩ = some (.int .i64 x.down) := cell_of_heap HX0.out
  have c01 : w0.cell? ⟨X, 1, none⟩ = some (.int .i64 x.pass) := cell_of_heap HX0.out
  have c02 : w0.cell? ⟨X, 2, none⟩ = some (.int .i64 x.takes) := cell_of_heap HX0.out
  have c03 : w0.cell? ⟨X, 3, none⟩ = some (.int .i64 x.lo) := cell_of_heap HX0.out
  have c04 : w0.cell? ⟨X, 4, none⟩ = some (.int .i64 x.hi) := cell_of_heap HX0.out
  have c05 : w0.cell? ⟨X, 5, none⟩ = some (.int .i64 x.every) := cell_of_heap HX0.out
  have c06 : w0.cell? ⟨X, 6, none⟩ = some (.int .i64 x.logs) := cell_of_heap HX0.out
  have c07 : w0.cell? ⟨X, 7, none⟩ = some (.int .i64 x.ready) := cell_of_heap HX0.out
  have r0 : w0.cell? ⟨R, 0, none⟩ = some (.int .i64 days) := cell_of_heap HR0.out
  have l0 := (Array.getElem?_eq_some_iff.1 hx0).1
  go_wp2_with fail
  refine (within_any 0 1000 [x.pass] _ _ (by simp) (Ints.one _ _ (by first | rfl | simp))).mono ?_
  rintro e w1 ⟨rfl, hb1⟩
  have HX1 := hid (heap_mono HX0.out (bl_trans (bl_alloc (bl_refl _) _) hb1))
  have HR1 := hid (heap_mono HR0.out (bl_trans (bl_alloc (bl_refl _) _) hb1))
  have HB1 := hid (bl_trans HB0.out (bl_trans (bl_alloc (bl_refl _) _) hb1))
  clear HX0 HR0 HB0 c00 c01 c02 c03 c04 c05 c06 c07 r0 l0 hx0 hb1
  cases h1 : withinB 0 1000 [x.pass]
  · have hfin := hid (show (!rangedB x days) = true by have h := h1; simp only [within_one, within_three, decide_eq_false_iff_not] at h; simp [rangedB]; omega)
    clear h1
    go_wp2
    go_ret
    exact ⟨ret_bool hfin.out.symm, HB1.out⟩
  have H1 := hid h1
  clear h1
  have hx1 := HX1.out
  have c10 : w1.cell? ⟨X, 0, none⟩ = some (.int .i64 x.down) := cell_of_heap HX1.out
  have c11 : w1.cell? ⟨X, 1, none⟩ = some (.int .i64 x.pass) := cell_of_heap HX1.out
  have c12 : w1.cell? ⟨X, 2, none⟩ = some (.int .i64 x.takes) := cell_of_heap HX1.out
  have c13 : w1.cell? ⟨X, 3, none⟩ = some (.int .i64 x.lo) := cell_of_heap HX1.out
  have c14 : w1.cell? ⟨X, 4, none⟩ = some (.int .i64 x.hi) := cell_of_heap HX1.out
  have c15 : w1.cell? ⟨X, 5, none⟩ = some (.int .i64 x.every) := cell_of_heap HX1.out
  have c16 : w1.cell? ⟨X, 6, none⟩ = some (.int .i64 x.logs) := cell_of_heap HX1.out
  have c17 : w1.cell? ⟨X, 7, none⟩ = some (.int .i64 x.ready) := cell_of_heap HX1.out
  have r1 : w1.cell? ⟨R, 0, none⟩ = some (.int .i64 days) := cell_of_heap HR1.out
  have l1 := (Array.getElem?_eq_some_iff.1 hx1).1
  go_wp2_with fail
  refine (within_any 0 10 [x.takes] _ _ (by simp) (Ints.one _ _ (by first | rfl | simp))).mono ?_
  rintro e w2 ⟨rfl, hb2⟩
  have HX2 := hid (heap_mono HX1.out (bl_trans (bl_alloc (bl_refl _) _) hb2))
  have HR2 := hid (heap_mono HR1.out (bl_trans (bl_alloc (bl_refl _) _) hb2))
  have HB2 := hid (bl_trans HB1.out (bl_trans (bl_alloc (bl_refl _) _) hb2))
  clear HX1 HR1 HB1 c10 c11 c12 c13 c14 c15 c16 c17 r1 l1 hx1 hb2
  cases h2 : withinB 0 10 [x.takes]
  · have hfin := hid (show (!rangedB x days) = true by have h := h2; simp only [within_one, within_three, decide_eq_false_iff_not] at h; simp [rangedB]; omega)
    clear h2
    go_wp2
    go_ret
    exact ⟨ret_bool hfin.out.symm, HB2.out⟩
  have H2 := hid h2
  clear h2
  have hx2 := HX2.out
  have c20 : w2.cell? ⟨X, 0, none⟩ = some (.int .i64 x.down) := cell_of_heap HX2.out
  have c21 : w2.cell? ⟨X, 1, none⟩ = some (.int .i64 x.pass) := cell_of_heap HX2.out
  have c22 : w2.cell? ⟨X, 2, none⟩ = some (.int .i64 x.takes) := cell_of_heap HX2.out
  have c23 : w2.cell? ⟨X, 3, none⟩ = some (.int .i64 x.lo) := cell_of_heap HX2.out
  have c24 : w2.cell? ⟨X, 4, none⟩ = some (.int .i64 x.hi) := cell_of_heap HX2.out
  have c25 : w2.cell? ⟨X, 5, none⟩ = some (.int .i64 x.every) := cell_of_heap HX2.out
  have c26 : w2.cell? ⟨X, 6, none⟩ = some (.int .i64 x.logs) := cell_of_heap HX2.out
  have c27 : w2.cell? ⟨X, 7, none⟩ = some (.int .i64 x.ready) := cell_of_heap HX2.out
  have r2 : w2.cell? ⟨R, 0, none⟩ = some (.int .i64 days) := cell_of_heap HR2.out
  have l2 := (Array.getElem?_eq_some_iff.1 hx2).1
  go_wp2_with fail
  refine (within_any 0 10000 [x.logs] _ _ (by simp) (Ints.one _ _ (by first | rfl | simp))).mono ?_
  rintro e w3 ⟨rfl, hb3⟩
  have HX3 := hid (heap_mono HX2.out (bl_trans (bl_alloc (bl_refl _) _) hb3))
  have HR3 := hid (heap_mono HR2.out (bl_trans (bl_alloc (bl_refl _) _) hb3))
  have HB3 := hid (bl_trans HB2.out (bl_trans (bl_alloc (bl_refl _) _) hb3))
  clear HX2 HR2 HB2 c20 c21 c22 c23 c24 c25 c26 c27 r2 l2 hx2 hb3
  cases h3 : withinB 0 10000 [x.logs]
  · have hfin := hid (show (!rangedB x days) = true by have h := h3; simp only [within_one, within_three, decide_eq_false_iff_not] at h; simp [rangedB]; omega)
    clear h3
    go_wp2
    go_ret
    exact ⟨ret_bool hfin.out.symm, HB3.out⟩
  have H3 := hid h3
  clear h3
  have hx3 := HX3.out
  have c30 : w3.cell? ⟨X, 0, none⟩ = some (.int .i64 x.down) := cell_of_heap HX3.out
  have c31 : w3.cell? ⟨X, 1, none⟩ = some (.int .i64 x.pass) := cell_of_heap HX3.out
  have c32 : w3.cell? ⟨X, 2, none⟩ = some (.int .i64 x.takes) := cell_of_heap HX3.out
  have c33 : w3.cell? ⟨X, 3, none⟩ = some (.int .i64 x.lo) := cell_of_heap HX3.out
  have c34 : w3.cell? ⟨X, 4, none⟩ = some (.int .i64 x.hi) := cell_of_heap HX3.out
  have c35 : w3.cell? ⟨X, 5, none⟩ = some (.int .i64 x.every) := cell_of_heap HX3.out
  have c36 : w3.cell? ⟨X, 6, none⟩ = some (.int .i64 x.logs) := cell_of_heap HX3.out
  have c37 : w3.cell? ⟨X, 7, none⟩ = some (.int .i64 x.ready) := cell_of_heap HX3.out
  have r3 : w3.cell? ⟨R, 0, none⟩ = some (.int .i64 days) := cell_of_heap HR3.out
  have l3 := (Array.getElem?_eq_some_iff.1 hx3).1
  go_wp2_with fail
  refine (within_any 1 days [x.lo, x.hi, x.ready] _ _ (by simp) (ints_three _ _ _ _ (by first | rfl | simp))).mono ?_
  rintro e w4 ⟨rfl, hb4⟩
  have HX4 := hid (heap_mono HX3.out (bl_trans (bl_alloc (bl_refl _) _) hb4))
  have HR4 := hid (heap_mono HR3.out (bl_trans (bl_alloc (bl_refl _) _) hb4))
  have HB4 := hid (bl_trans HB3.out (bl_trans (bl_alloc (bl_refl _) _) hb4))
  clear HX3 HR3 HB3 c30 c31 c32 c33 c34 c35 c36 c37 r3 l3 hx3 hb4
  cases h4 : withinB 1 days [x.lo, x.hi, x.ready]
  · have hfin := hid (show (!rangedB x days) = true by have h := h4; simp only [within_one, within_three, decide_eq_false_iff_not] at h; simp [rangedB]; omega)
    clear h4
    go_wp2
    go_ret
    exact ⟨ret_bool hfin.out.symm, HB4.out⟩
  have H4 := hid h4
  clear h4
  have hx4 := HX4.out
  have c40 : w4.cell? ⟨X, 0, none⟩ = some (.int .i64 x.down) := cell_of_heap HX4.out
  have c41 : w4.cell? ⟨X, 1, none⟩ = some (.int .i64 x.pass) := cell_of_heap HX4.out
  have c42 : w4.cell? ⟨X, 2, none⟩ = some (.int .i64 x.takes) := cell_of_heap HX4.out
  have c43 : w4.cell? ⟨X, 3, none⟩ = some (.int .i64 x.lo) := cell_of_heap HX4.out
  have c44 : w4.cell? ⟨X, 4, none⟩ = some (.int .i64 x.hi) := cell_of_heap HX4.out
  have c45 : w4.cell? ⟨X, 5, none⟩ = some (.int .i64 x.every) := cell_of_heap HX4.out
  have c46 : w4.cell? ⟨X, 6, none⟩ = some (.int .i64 x.logs) := cell_of_heap HX4.out
  have c47 : w4.cell? ⟨X, 7, none⟩ = some (.int .i64 x.ready) := cell_of_heap HX4.out
  have r4 : w4.cell? ⟨R, 0, none⟩ = some (.int .i64 days) := cell_of_heap HR4.out
  have l4 := (Array.getElem?_eq_some_iff.1 hx4).1
  by_cases hlo : x.hi < x.lo
  · have hfin := hid (show (!rangedB x days) = true by simp [rangedB]; omega)
    have hlo2 : decide (x.hi < x.lo) = true := by simpa using hlo
    go_wp2
    go_ret
    exact ⟨ret_bool hfin.out.symm, HB4.out⟩
  have hlo2 : decide (x.hi < x.lo) = false := by simpa using hlo
  have hx4 := HX4.out
  have c40 : w4.cell? ⟨X, 0, none⟩ = some (.int .i64 x.down) := cell_of_heap HX4.out
  have c41 : w4.cell? ⟨X, 1, none⟩ = some (.int .i64 x.pass) := cell_of_heap HX4.out
  have c42 : w4.cell? ⟨X, 2, none⟩ = some (.int .i64 x.takes) := cell_of_heap HX4.out
  have c43 : w4.cell? ⟨X, 3, none⟩ = some (.int .i64 x.lo) := cell_of_heap HX4.out
  have c44 : w4.cell? ⟨X, 4, none⟩ = some (.int .i64 x.hi) := cell_of_heap HX4.out
  have c45 : w4.cell? ⟨X, 5, none⟩ = some (.int .i64 x.every) := cell_of_heap HX4.out
  have c46 : w4.cell? ⟨X, 6, none⟩ = some (.int .i64 x.logs) := cell_of_heap HX4.out
  have c47 : w4.cell? ⟨X, 7, none⟩ = some (.int .i64 x.ready) := cell_of_heap HX4.out
  have r4 : w4.cell? ⟨R, 0, none⟩ = some (.int .i64 days) := cell_of_heap HR4.out
  have l4 := (Array.getElem?_eq_some_iff.1 hx4).1
  go_wp2_with fail
  refine (within_any 1 10 [x.every] _ _ (by simp) (Ints.one _ _ (by first | rfl | simp))).mono ?_
  rintro e w5 ⟨rfl, hb5⟩
  have HX5 := hid (heap_mono HX4.out (bl_trans (bl_alloc (bl_refl _) _) hb5))
  have HR5 := hid (heap_mono HR4.out (bl_trans (bl_alloc (bl_refl _) _) hb5))
  have HB5 := hid (bl_trans HB4.out (bl_trans (bl_alloc (bl_refl _) _) hb5))
  clear HX4 HR4 HB4 c40 c41 c42 c43 c44 c45 c46 c47 r4 l4 hx4 hb5
  cases h5 : withinB 1 10 [x.every]
  · have hfin := hid (show (!rangedB x days) = true by have h := h5; simp only [within_one, within_three, decide_eq_false_iff_not] at h; simp [rangedB]; omega)
    clear h5
    go_wp2
    go_ret
    exact ⟨ret_bool hfin.out.symm, HB5.out⟩
  have H5 := hid h5
  clear h5
  have hfin := hid (show (!rangedB x days) = false by have g1 := H1.out; have g2 := H2.out; have g3 := H3.out; have g4 := H4.out; have g5 := H5.out; simp only [within_one, within_three, decide_eq_true_eq] at g1 g2 g3 g4 g5; simp [rangedB]; omega)
  go_wp2
  go_ret
  exact ⟨ret_bool hfin.out.symm, HB5.out⟩

theorem ranges_succ {days : Int} {l : List Rch} {k : Nat} {x : Rch} (hx : l[k]? = some x) : ranges days l (k + 1) = (ranges days l k && rangedB x days) := by
  unfold ranges
  rw [all_range_succ]
  congr 2
  simp [List.getD, hx]
theorem ranges_no {days : Int} {l : List Rch} {k n : Nat} {x : Rch} (hx : l[k]? = some x) (hk : k < n) (h : rangedB x days = false) : ranges days l n = false := by
  unfold ranges
  exact all_range_at hk (by simpa [List.getD, hx] using h)
theorem downs_succ {l : List Rch} {k : Nat} {x : Rch} (hx : l[k]? = some x) : downs l (k + 1) = (downs l k && downOk l.length k x) := by
  unfold downs
  rw [all_range_succ]
  congr 2
  simp [List.getD, hx]
theorem downs_no {l : List Rch} {k n : Nat} {x : Rch} (hx : l[k]? = some x) (hk : k < n) (h : downOk l.length k x = false) : downs l n = false := by
  unfold downs
  exact all_range_at hk (by simpa [List.getD, hx] using h)

theorem indexR_any (days : Int) (l : List Rch) (s sr : Value) (R : Nat) (w : World) (hl : l.length ≤ 1000) (hR : w.heap[R]? = some (.cells #[.int .i64 days, sr] 24 (0, 0))) (hs : Rchs w s l) :
    Calls Try.prog 85 #[s, .func (.func 66) #[] #[.pointer (some ⟨R, 0, none⟩)]] w fun e w' => (∃ r, e = .returned (.int .i64 r) ∧ FoundAt r (!ranges days l l.length)) ∧ Below w.heap.size w w' := by
  rcases hs with ⟨rfl, rfl⟩ | ⟨b, off, c, rfl, hc, hb, hcell⟩
  · go_enter Try.func85, Try.ntmps85
    go_wp2
    go_loop [5, 8] (fun _ i => i = .int .i64 0) (fun _ _ => 0)
    case atStart => exact rfl
    case round =>
      obtain rfl := hrel
      go_wp2
      go_ret
      exact ⟨⟨_, rfl, by simp [FoundAt, ranges]⟩, bl_refl _⟩
  · have HC := Lib.hid hcell
    have HR := hid hR
    clear hcell hR
    go_enter Try.func85, Try.ntmps85
    go_wp2
    go_loopw [5, 8] (fun _ i wr => ∃ k : Nat, k ≤ l.length ∧ i = .int .i64 k ∧ ranges days l k = true ∧ Below w.heap.size w wr) (fun _ i _ => l.length - (intOf i).toNat)
    case atStart => exact ⟨0, Nat.zero_le _, rfl, by simp [ranges], bl_refl _⟩
    case round =>
      obtain ⟨k, hk, rfl, hn, hB⟩ := hrel
      by_cases hlt : k < l.length
      · obtain ⟨x, hx⟩ := get_at hlt
        obtain ⟨q0, q1, q2, q3, q4, q5, q6, q7⟩ := (HC.out k x hx).mono hB
        have hcall := odd_any x days sr R wr (heap_mono HR.out hB)
        have Hx := hid hx
        have HN := hid hn
        clear hx hn
        unfold encR at hcall
        cases hbad : rangedB x days with
        | false =>
          rw [hbad] at hcall
          have hany := hid (ranges_no Hx.out hlt hbad)
          clear hbad
          go_wp2_with fail
          refine hcall.mono ?_
          rintro e w2 ⟨rfl, hb2⟩
          go_wp2
          go_ret
          exact ⟨⟨_, rfl, by rw [hany.out]; simp [FoundAt]⟩, bl_trans hB hb2⟩
        | true =>
          rw [hbad] at hcall
          have hn2 := hid (show ranges days l (k + 1) = true by rw [ranges_succ Hx.out, HN.out, hbad]; rfl)
          clear hbad
          go_wp2_with fail
          refine hcall.mono ?_
          rintro e w2 ⟨rfl, hb2⟩
          clear q0 q1 q2 q3 q4 q5 q6 q7 hcall
          go_wp2
          go_roundw
          case rel => exact ⟨k + 1, by omega, by go_num, hn2.out, bl_trans hB hb2⟩
          case measure => simp [intOf]; omega
      · obtain rfl : k = l.length := by omega
        have hall := hid hn
        clear hn
        go_wp2
        go_ret
        exact ⟨⟨_, rfl, by rw [hall.out]; simp [FoundAt]⟩, hB⟩
theorem containsR_any (days : Int) (l : List Rch) (s sr : Value) (R : Nat) (w : World) (hl : l.length ≤ 1000) (hR : w.heap[R]? = some (.cells #[.int .i64 days, sr] 24 (0, 0))) (hs : Rchs w s l) :
    Calls Try.prog 67 #[s, .func (.func 66) #[] #[.pointer (some ⟨R, 0, none⟩)]] w fun e w' => e = .returned (.bool (!ranges days l l.length)) ∧ Below w.heap.size w w' := by
  have hcall := indexR_any days l s sr R w hl hR hs
  cases hany : ranges days l l.length
  · rw [hany] at hcall
    clear hany
    go_enter Try.func67, Try.ntmps67
    go_wp2_with fail
    refine hcall.mono ?_
    rintro e w2 ⟨⟨r, rfl, hr⟩, hb2⟩
    have hr' : decide (0 ≤ r) = true := by simpa [FoundAt] using hr
    clear hr
    go_wp2
    go_ret
    exact ⟨rfl, hb2⟩
  · rw [hany] at hcall
    clear hany
    go_enter Try.func67, Try.ntmps67
    go_wp2_with fail
    refine hcall.mono ?_
    rintro e w2 ⟨⟨r, rfl, hr⟩, hb2⟩
    obtain rfl : r = -1 := by simpa [FoundAt] using hr
    clear hr
    go_wp2
    go_ret
    exact ⟨rfl, hb2⟩

set_option maxHeartbeats 8000000 in
theorem checkRiver_any (days : Int) (l : List Rch) (s : Value) (w : World) (hl : l.length ≤ 1000) (hs : Rchs w s l) :
    Calls Try.prog 23 #[.agg #[.int .i64 days, s]] w fun e w' => e = .returned (.int .i64 (riverE days l)) ∧ Below w.heap.size w w' := by
  obtain ⟨A, c, rfl⟩ := hs.slice
  have HX := hid (World.alloc_heap_new w (.cells #[.int .i64 days, .slice A l.length c] 24))
  have HB := hid (bl_alloc (bl_refl w) (.cells #[.int .i64 days, .slice A l.length c] 24))
  have HS := hid hs
  clear hs
  go_enter Try.func23, Try.ntmps23
  go_upto_region 1 with (fail)
  obtain ⟨R, hR⟩ : ∃ R, w.heap.size = R := ⟨_, rfl⟩
  obtain ⟨w0, hw0⟩ : ∃ w0, w.alloc (.cells #[.int .i64 days, .slice A l.length c] 24) = w0 := ⟨_, rfl⟩
  rw [hR] at HX ⊢
  rw [hw0] at HX HB ⊢
  clear hw0 hR
  have r0 : w0.cell? ⟨R, 0, none⟩ = some (.int .i64 days) := cell_of_heap HX.out
  have l0 := (Array.getElem?_eq_some_iff.1 HX.out).1
  go_wp2_with fail
  refine (within_any 1 40 [days] _ _ (by simp) (Ints.one _ _ (by first | rfl | simp))).mono ?_
  rintro e w1 ⟨rfl, hb1⟩
  have hb01 := bl_trans (bl_alloc (bl_refl _) _) hb1
  have HX1 := hid (heap_mono HX.out hb01)
  have HB1 := hid (bl_trans HB.out hb01)
  clear HX HB hb1 hb01 r0 l0
  cases h1 : withinB 1 40 [days]
  · have hfin := hid (show riverE days l = 3 by rw [riverE, if_pos]; have h := h1; simp only [within_one, decide_eq_false_iff_not] at h; omega)
    clear h1
    go_wp2
    go_ret
    exact ⟨ret_i64 hfin.out.symm, HB1.out⟩
  have H1 := hid h1
  clear h1
  have r0 : w1.cell? ⟨R, 1, none⟩ = some (.slice A l.length c) := cell_of_heap HX1.out
  have l0 := (Array.getElem?_eq_some_iff.1 HX1.out).1
  go_wp2_with fail
  refine (within_any 1 8 [(l.length : Int)] _ _ (by simp) (Ints.one _ _ (by first | rfl | simp))).mono ?_
  rintro e w2 ⟨rfl, hb1⟩
  have hb01 := bl_trans (bl_alloc (bl_refl _) _) hb1
  have HX2 := hid (heap_mono HX1.out hb01)
  have HB2 := hid (bl_trans HB1.out hb01)
  clear HX1 HB1 hb1 hb01 r0 l0
  cases h2 : withinB 1 8 [(l.length : Int)]
  · have hfin := hid (show riverE days l = 6 by
      have h := h2
      have g := H1.out
      simp only [within_one, decide_eq_false_iff_not, decide_eq_true_eq] at h g
      rw [riverE, if_neg (by omega), if_pos (by omega)])
    clear h2
    go_wp2
    go_ret
    exact ⟨ret_i64 hfin.out.symm, HB2.out⟩
  have h3 := h2
  have h4 := H1.out
  simp only [within_one, decide_eq_true_eq] at h3 h4
  have HE : Hid (riverE days l = if downs l l.length = false then 2 else if ranges days l l.length = false then 3 else 0) := by
    show riverE days l = _
    rw [riverE, if_neg (by omega), if_neg (by omega)]
  have hl1 : 1 ≤ l.length := by omega
  have hl8 : l.length ≤ 8 := by omega
  obtain ⟨b, off, c', e5, hlc, hb, hcell⟩ := HS.out.some hl1
  simp only [Value.slice.injEq, true_and] at e5
  obtain ⟨rfl, rfl⟩ := e5
  have HC := Lib.hid hcell
  clear h2 h3 h4 H1 hcell
  have r0 : w2.cell? ⟨R, 1, none⟩ = some (.slice (some ⟨b, off, none⟩) l.length c) := cell_of_heap HX2.out
  have l0 := (Array.getElem?_eq_some_iff.1 HX2.out).1
  go_wp2
  go_loopw [22] (fun p wr => ∃ k : Nat, k ≤ l.length ∧ p = .int .i64 k ∧ downs l k = true ∧ wr.heap[R]? = some (.cells #[.int .i64 days, .slice (some ⟨b, off, none⟩) l.length c] 24 (0, 0)) ∧ Below w.heap.size w wr) (fun p _ => l.length - (intOf p).toNat)
  case atStart => exact ⟨0, Nat.zero_le _, rfl, by simp [downs], HX2.out, HB2.out⟩
  case round =>
    obtain ⟨k, hk, rfl, hd, hR, hB⟩ := hrel
    clear HX2 HB2 r0 l0
    by_cases hlt : k < l.length
    · obtain ⟨x, hx⟩ := get_at hlt
      obtain ⟨q0, q1, q2, q3, q4, q5, q6, q7⟩ := (HC.out k x hx).mono hB
      have hkI : (k : Int) < (l.length : Int) := by omega
      have ba := bl_alloc (bl_refl wr) (.cells #[.int .i64 x.down, .int .i64 x.pass, .int .i64 x.takes, .int .i64 x.lo, .int .i64 x.hi, .int .i64 x.every, .int .i64 x.logs, .int .i64 x.ready] 59)
      have HR3 := hid (heap_mono hR ba)
      have HB3 := hid (bl_trans hB ba)
      have HX3 := hid (World.alloc_heap_new wr (.cells #[.int .i64 x.down, .int .i64 x.pass, .int .i64 x.takes, .int .i64 x.lo, .int .i64 x.hi, .int .i64 x.every, .int .i64 x.logs, .int .i64 x.ready] 59))
      have HD := hid hd
      have Hx := hid hx
      clear hd hx hR hB ba
      go_upto_region 8 with (fail)
      obtain ⟨X, hX⟩ : ∃ X, wr.heap.size = X := ⟨_, rfl⟩
      obtain ⟨w3, hw3⟩ : ∃ w3, wr.alloc (.cells #[.int .i64 x.down, .int .i64 x.pass, .int .i64 x.takes, .int .i64 x.lo, .int .i64 x.hi, .int .i64 x.every, .int .i64 x.logs, .int .i64 x.ready] 59) = w3 := ⟨_, rfl⟩
      rw [hX] at HX3 ⊢
      rw [hw3] at HR3 HB3 HX3 ⊢
      clear hw3 hX q0 q1 q2 q3 q4 q5 q6 q7
      have y0 : w3.cell? ⟨X, 0, none⟩ = some (.int .i64 x.down) := cell_of_heap HX3.out
      have yl := (Array.getElem?_eq_some_iff.1 HX3.out).1
      have z1 : w3.cell? ⟨R, 1, none⟩ = some (.slice (some ⟨b, off, none⟩) l.length c) := cell_of_heap HR3.out
      have zl := (Array.getElem?_eq_some_iff.1 HR3.out).1
      by_cases hdn : x.down = -1
      · have hn2 := hid (show downs l (k + 1) = true by rw [downs_succ Hx.out, HD.out]; simp [downOk, hdn])
        have dd : (x.down != -1) = false := by simp [hdn]
        clear hdn
        go_wp2
        go_roundw
        case rel => exact ⟨k + 1, by omega, by go_num, hn2.out, HR3.out, HB3.out⟩
        case measure => simp [intOf]; omega
      · have dd : (x.down != -1) = true := by simp [hdn]
        have hwk : IntKind.i64.wrap ((k : Int) + 1) = (k : Int) + 1 := IntWalk.i64_in _ (by omega)
        have hwn : IntKind.i64.wrap ((l.length : Int) - 1) = (l.length : Int) - 1 := IntWalk.i64_in _ (by omega)
        have Hdn := hid hdn
        clear hdn
        go_wp2_with fail
        refine (within_any ((k : Int) + 1) ((l.length : Int) - 1) [x.down] _ _ (by simp) (Ints.one _ _ (by first | rfl | simp))).mono ?_
        rintro e w4 ⟨rfl, hb1⟩
        have hb01 := bl_trans (bl_alloc (bl_refl _) _) hb1
        have HR4 := hid (heap_mono HR3.out hb01)
        have HB4 := hid (bl_trans HB3.out hb01)
        clear HR3 HB3 hb1 hb01 y0 yl z1 zl hwk hwn
        cases h4 : withinB ((k : Int) + 1) ((l.length : Int) - 1) [x.down]
        · have hfin := hid (show riverE days l = 2 by
            rw [HE.out, if_pos]
            have h := h4
            have g := Hdn.out
            simp only [within_one, decide_eq_false_iff_not] at h
            refine downs_no Hx.out hlt ?_
            simp only [downOk, decide_eq_false_iff_not]
            omega)
          clear h4
          go_wp2
          go_ret
          exact ⟨ret_i64 hfin.out.symm, HB4.out⟩
        · have hn2 := hid (show downs l (k + 1) = true by
            have h := h4
            simp only [within_one, decide_eq_true_eq] at h
            rw [downs_succ Hx.out, HD.out]
            simp only [downOk, Bool.true_and, decide_eq_true_eq]
            omega)
          clear h4
          go_wp2
          go_roundw
          case rel => exact ⟨k + 1, by omega, by go_num, hn2.out, HR4.out, HB4.out⟩
          case measure => simp [intOf]; omega
    · obtain rfl : k = l.length := by omega
      have hcall := containsR_any days l _ _ R wr (by omega) hR (HS.out.mono hB)
      have z1 : wr.cell? ⟨R, 1, none⟩ = some (.slice (some ⟨b, off, none⟩) l.length c) := cell_of_heap hR
      have zl := (Array.getElem?_eq_some_iff.1 hR).1
      have HE2 : Hid (riverE days l = if ranges days l l.length = false then 3 else 0) := by
        have h := HE.out
        rw [hd, if_neg (by simp)] at h
        exact h
      clear HE hd
      cases hany : ranges days l l.length
      all_goals
        rw [hany] at hcall HE2
        clear hany
        go_wp2_with fail
        refine hcall.mono ?_
        rintro e w4 ⟨rfl, hb4⟩
        clear hcall
        go_wp2
        go_ret
        exact ⟨ret_i64 (by rw [HE2.out]; rfl), bl_trans hB hb4⟩

end Go.Proofs.Ytbnmjbmlejifcaa