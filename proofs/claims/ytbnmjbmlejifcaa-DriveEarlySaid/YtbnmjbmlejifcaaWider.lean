/- The reference's Wider and Later: the walks. -/
import Derived.Test.YtbnmjbmlejifcaaChange
import Derived.Test.YtbnmjbmlejifcaaPure
set_option linter.all false
namespace Go.Proofs.Ytbnmjbmlejifcaa
open Go Go.RowKit Go.Proofs
attribute [local go_sem] cell_grow frozen_grow

set_option maxRecDepth 100000 in
set_option maxHeartbeats 8000000 in
theorem refWider_any (days : Int) (l : List Rch) (sr : Value) (i : Nat) (w : World) (h0 : 1 ≤ l.length) (hn : l.length ≤ 1000) (hs : Rchs w sr l) (hi : i < l.length) (hp : ∀ x, l[i]? = some x → 0 ≤ x.pass ∧ x.pass ≤ 100000) :
    Calls Try.prog 79 #[.agg #[.int .i64 days, sr], .int .i64 (i : Int)] w fun e w' => (∃ s, e = .returned (.agg #[.int .i64 days, s]) ∧ ChOut w' s (widerL l i)) ∧ Below w.heap.size w w' := by
  obtain ⟨b, off, c, rfl, hlc, hb, hcell⟩ := hs.some h0
  obtain ⟨x, hx⟩ := get_at hi
  have b1 := bl_alloc (bl_refl w) (.cells #[.int .i64 days, .slice (some ⟨b, off, none⟩) l.length c] 24)
  have b2 := bl_alloc (bl_refl (w.alloc (.cells #[.int .i64 days, .slice (some ⟨b, off, none⟩) l.length c] 24))) (.cells #[.int .i64 0, .slice none 0 0] 24)
  have e1 := World.alloc_heap_new w (.cells #[.int .i64 days, .slice (some ⟨b, off, none⟩) l.length c] 24)
  have e2 := World.alloc_heap_new (w.alloc (.cells #[.int .i64 days, .slice (some ⟨b, off, none⟩) l.length c] 24)) (.cells #[.int .i64 0, .slice none 0 0] 24)
  simp only [World.size_alloc] at e2
  have HX := hid (heap_mono e1 b2)
  have HQ := hid e2
  have HB := hid (bl_trans b1 b2)
  have HS := hid hs
  have HC := Lib.hid hcell
  have Hx := hid hx
  clear hs b1 b2 e1 e2 hcell hx
  go_enter Try.func79, Try.ntmps79
  go_upto_region 1 with (fail)
  obtain ⟨w0, hw0⟩ : ∃ w0, (w.alloc (.cells #[.int .i64 days, .slice (some ⟨b, off, none⟩) l.length c] 24)).alloc (.cells #[.int .i64 0, .slice none 0 0] 24) = w0 := ⟨_, rfl⟩
  rw [hw0] at HX HQ HB ⊢
  obtain ⟨R, hR⟩ : ∃ R, w.heap.size = R := ⟨_, rfl⟩
  have HRB : Hid (w.heap.size ≤ R) := by show w.heap.size ≤ R; omega
  rw [hR] at HX HQ ⊢
  clear hw0 hR
  have r1 : w0.cell? ⟨R, 1, none⟩ = some (.slice (some ⟨b, off, none⟩) l.length c) := cell_of_heap HX.out
  have rl := (Array.getElem?_eq_some_iff.1 HX.out).1
  obtain ⟨q0, q1, q2, q3, q4, q5, q6, q7⟩ := (HC.out i x Hx.out).mono HB.out
  have hiI : (i : Int) < (l.length : Int) := by omega
  have ba := bl_alloc (bl_refl w0) (.cells #[.int .i64 x.down, .int .i64 x.pass, .int .i64 x.takes, .int .i64 x.lo, .int .i64 x.hi, .int .i64 x.every, .int .i64 x.logs, .int .i64 x.ready] 59)
  have HX1 := hid (heap_mono HX.out ba)
  have HQ1 := hid (heap_mono HQ.out ba)
  have HB1 := hid (bl_trans HB.out ba)
  have HN1 := hid (World.alloc_heap_new w0 (.cells #[.int .i64 x.down, .int .i64 x.pass, .int .i64 x.takes, .int .i64 x.lo, .int .i64 x.hi, .int .i64 x.every, .int .i64 x.logs, .int .i64 x.ready] 59))
  have hxr := (Array.getElem?_eq_some_iff.1 HQ.out).1
  clear HX HQ HB ba
  go_upto_region 2 with (fail)
  obtain ⟨X, hX⟩ : ∃ X, w0.heap.size = X := ⟨_, rfl⟩
  obtain ⟨w1, hw1⟩ : ∃ w1, w0.alloc (.cells #[.int .i64 x.down, .int .i64 x.pass, .int .i64 x.takes, .int .i64 x.lo, .int .i64 x.hi, .int .i64 x.every, .int .i64 x.logs, .int .i64 x.ready] 59) = w1 := ⟨_, rfl⟩
  have HXR : Hid (R + 1 < X ∧ w.heap.size ≤ X) := by show R + 1 < X ∧ w.heap.size ≤ X; have := HRB.out; omega
  rw [hX] at HN1 ⊢
  rw [hw1] at HX1 HQ1 HB1 HN1 ⊢
  clear hX hw1 hxr r1 rl q0 q1 q2 q3 q4 q5 q6 q7
  have c0 : w1.cell? ⟨X, 1, none⟩ = some (.int .i64 x.pass) := cell_of_heap HN1.out
  have f0 : w1.frozen? ⟨X, 1, none⟩ = false := frozen_of_heap HN1.out
  have xl := (Array.getElem?_eq_some_iff.1 HN1.out).1
  have hpx := hp x Hx.out
  have hwp : IntKind.i64.wrap (x.pass + 1) = x.pass + 1 := IntWalk.i64_in _ (by omega)
  have h2 : (w1.setCell ⟨X, 1, none⟩ (.int .i64 (x.pass + 1))).heap[X]? = some (.cells #[.int .i64 x.down, .int .i64 (x.pass + 1), .int .i64 x.takes, .int .i64 x.lo, .int .i64 x.hi, .int .i64 x.every, .int .i64 x.logs, .int .i64 x.ready] 59 (0, 0)) := by
    rw [heap_setCell_same _ _ _ _ _ _ HN1.out]; rfl
  have HN2 := hid h2
  have HX2 := hid (past_set (o := 1) (u := .int .i64 (x.pass + 1)) (show R ≠ X by have := HXR.out; omega) HX1.out)
  have HQ2 := hid (past_set (o := 1) (u := .int .i64 (x.pass + 1)) (show R + 1 ≠ X by have := HXR.out; omega) HQ1.out)
  have HB2 := hid (bl_set HB1.out (o := 1) (.int .i64 (x.pass + 1)) HXR.out.2)
  clear h2 HN1 HX1 HQ1 HB1
  go_upto_region 3 with (fail)
  obtain ⟨w2, hw2⟩ : ∃ w2, w1.setCell ⟨X, 1, none⟩ (.int .i64 (x.pass + 1)) = w2 := ⟨_, rfl⟩
  rw [hw2] at HN2 HX2 HQ2 HB2 ⊢
  clear hw2 c0 f0 xl
  have r0 : w2.cell? ⟨R, 0, none⟩ = some (.int .i64 days) := cell_of_heap HX2.out
  have r1 : w2.cell? ⟨R, 1, none⟩ = some (.slice (some ⟨b, off, none⟩) l.length c) := cell_of_heap HX2.out
  have rl := (Array.getElem?_eq_some_iff.1 HX2.out).1
  obtain ⟨y0, y1, y2, y3, y4, y5, y6, y7⟩ : RchAt w2 X 0 { x with pass := x.pass + 1 } := ⟨cell_of_heap HN2.out, cell_of_heap HN2.out, cell_of_heap HN2.out, cell_of_heap HN2.out, cell_of_heap HN2.out, cell_of_heap HN2.out, cell_of_heap HN2.out, cell_of_heap HN2.out⟩
  have yl := (Array.getElem?_eq_some_iff.1 HN2.out).1
  simp only [Nat.zero_add] at y0 y1 y2 y3 y4 y5 y6 y7
  have hcall := changed_any days l _ i { x with pass := x.pass + 1 } w2 h0 hn (HS.out.mono HB2.out) hi
  simp only at hcall
  have HLF : Hid (widerL l i = l.set i { x with pass := x.pass + 1 }) := by show l.set i { rivP l i with pass := (rivP l i).pass + 1 } = _; rw [riv_at Hx.out]
  go_wp2_with fail
  refine hcall.mono ?_
  rintro e w3 ⟨⟨s, rfl, hs3⟩, hb3⟩
  have HQ3 := hid (heap_mono HQ2.out hb3)
  have HB3 := hid (bl_trans HB2.out hb3)
  have HS3 := hid hs3
  obtain ⟨g3, c3, rfl, hc3, ho3⟩ := hs3
  have HO3 := hid ho3
  obtain ⟨cs3, hbx3, _⟩ := ho3.box
  have hg3 : g3 ≠ R + 1 := ne_type hbx3 HQ3.out (by decide)
  clear hcall r0 r1 rl y0 y1 y2 y3 y4 y5 y6 y7 yl ho3 hbx3 hb3 HX2 HN2 HQ2 HB2 HS3
  have s0 : w3.cell? ⟨R + 1, 0, none⟩ = some (.int .i64 0) := cell_of_heap HQ3.out
  have s1 : w3.cell? ⟨R + 1, 1, none⟩ = some (.slice none 0 0) := cell_of_heap HQ3.out
  have z0 : w3.frozen? ⟨R + 1, 0, none⟩ = false := frozen_of_heap HQ3.out
  have z1 : w3.frozen? ⟨R + 1, 1, none⟩ = false := frozen_of_heap HQ3.out
  have sl := (Array.getElem?_eq_some_iff.1 HQ3.out).1
  have hll : (l.set i { x with pass := x.pass + 1 }).length = l.length := List.length_set ..
  obtain ⟨vs, hvs⟩ : ∃ vs, Value.slice (some ⟨g3, 0, none⟩) (l.set i { x with pass := x.pass + 1 }).length c3 = vs := ⟨_, rfl⟩
  have HVS := hid hvs
  rw [hll] at hvs
  have h4 : ((w3.setCell ⟨R + 1, 0, none⟩ (.int .i64 days)).setCell ⟨R + 1, 1, none⟩ (.slice (some ⟨g3, 0, none⟩) l.length c3)).heap[R + 1]? = some (.cells #[.int .i64 days, .slice (some ⟨g3, 0, none⟩) l.length c3] 24 (0, 0)) := by
    have h5 : (w3.setCell ⟨R + 1, 0, none⟩ (.int .i64 days)).heap[R + 1]? = some (.cells #[.int .i64 days, .slice none 0 0] 24 (0, 0)) := by rw [heap_setCell_same _ _ _ _ _ _ HQ3.out]; rfl
    rw [heap_setCell_same _ _ _ _ _ _ h5]; rfl
  have hr1 : w.heap.size ≤ R + 1 := by have := HRB.out; omega
  have HB7 := hid (bl_set (bl_set HB3.out (o := 0) (.int .i64 days) hr1) (o := 1) (.slice (some ⟨g3, 0, none⟩) l.length c3) hr1)
  have HO7 : Hid (OwnR ((w3.setCell ⟨R + 1, 0, none⟩ (.int .i64 days)).setCell ⟨R + 1, 1, none⟩ (.slice (some ⟨g3, 0, none⟩) l.length c3)) g3 (l.set i { x with pass := x.pass + 1 })) := by
    obtain ⟨cs, h1, h2⟩ := HO3.out.box
    exact ⟨⟨cs, past_set hg3 (past_set hg3 h1), h2⟩⟩
  have HH4 := hid h4
  have HC3 : Hid (l.length ≤ c3) := by show l.length ≤ c3; rw [← hll]; exact hc3
  rw [hll]
  clear h4 hr1 HO3 HB3 HQ3 hvs HVS hll hc3
  go_wp2
  obtain ⟨w7, hw7⟩ : ∃ w7, (w3.setCell ⟨R + 1, 0, none⟩ (.int .i64 days)).setCell ⟨R + 1, 1, none⟩ (.slice (some ⟨g3, 0, none⟩) l.length c3) = w7 := ⟨_, rfl⟩
  rw [hw7] at HH4 HB7 HO7 ⊢
  have v0 : w7.cell? ⟨R + 1, 0, none⟩ = some (.int .i64 days) := cell_of_heap HH4.out
  have v1 : w7.cell? ⟨R + 1, 1, none⟩ = some (.slice (some ⟨g3, 0, none⟩) l.length c3) := cell_of_heap HH4.out
  have vl := (Array.getElem?_eq_some_iff.1 HH4.out).1
  refine bodyPost_ret (v := .agg #[.int .i64 days, .slice (some ⟨g3, 0, none⟩) l.length c3]) (by simp [results, Try.results79, go_sem, v0, v1, vl]) rfl ⟨⟨_, rfl, ?_⟩, HB7.out⟩
  rw [HLF.out]
  exact ⟨g3, c3, by rw [List.length_set], by rw [List.length_set]; exact HC3.out, HO7.out⟩

set_option maxRecDepth 100000 in
set_option maxHeartbeats 8000000 in
theorem refLater_any (days : Int) (l : List Rch) (sr : Value) (i : Nat) (late : Int) (w : World) (h0 : 1 ≤ l.length) (hn : l.length ≤ 1000) (hs : Rchs w sr l) (hi : i < l.length) :
    Calls Try.prog 52 #[.agg #[.int .i64 days, sr], .int .i64 (i : Int), .int .i64 late] w fun e w' => (∃ s, e = .returned (.agg #[.int .i64 days, s]) ∧ ChOut w' s (laterL l i late)) ∧ Below w.heap.size w w' := by
  obtain ⟨b, off, c, rfl, hlc, hb, hcell⟩ := hs.some h0
  obtain ⟨x, hx⟩ := get_at hi
  have b1 := bl_alloc (bl_refl w) (.cells #[.int .i64 days, .slice (some ⟨b, off, none⟩) l.length c] 24)
  have b2 := bl_alloc (bl_refl (w.alloc (.cells #[.int .i64 days, .slice (some ⟨b, off, none⟩) l.length c] 24))) (.cells #[.int .i64 0, .slice none 0 0] 24)
  have e1 := World.alloc_heap_new w (.cells #[.int .i64 days, .slice (some ⟨b, off, none⟩) l.length c] 24)
  have e2 := World.alloc_heap_new (w.alloc (.cells #[.int .i64 days, .slice (some ⟨b, off, none⟩) l.length c] 24)) (.cells #[.int .i64 0, .slice none 0 0] 24)
  simp only [World.size_alloc] at e2
  have HX := hid (heap_mono e1 b2)
  have HQ := hid e2
  have HB := hid (bl_trans b1 b2)
  have HS := hid hs
  have HC := Lib.hid hcell
  have Hx := hid hx
  clear hs b1 b2 e1 e2 hcell hx
  go_enter Try.func52, Try.ntmps52
  go_upto_region 1 with (fail)
  obtain ⟨w0, hw0⟩ : ∃ w0, (w.alloc (.cells #[.int .i64 days, .slice (some ⟨b, off, none⟩) l.length c] 24)).alloc (.cells #[.int .i64 0, .slice none 0 0] 24) = w0 := ⟨_, rfl⟩
  rw [hw0] at HX HQ HB ⊢
  obtain ⟨R, hR⟩ : ∃ R, w.heap.size = R := ⟨_, rfl⟩
  have HRB : Hid (w.heap.size ≤ R) := by show w.heap.size ≤ R; omega
  rw [hR] at HX HQ ⊢
  clear hw0 hR
  have r1 : w0.cell? ⟨R, 1, none⟩ = some (.slice (some ⟨b, off, none⟩) l.length c) := cell_of_heap HX.out
  have rl := (Array.getElem?_eq_some_iff.1 HX.out).1
  obtain ⟨q0, q1, q2, q3, q4, q5, q6, q7⟩ := (HC.out i x Hx.out).mono HB.out
  have hiI : (i : Int) < (l.length : Int) := by omega
  have ba := bl_alloc (bl_refl w0) (.cells #[.int .i64 x.down, .int .i64 x.pass, .int .i64 x.takes, .int .i64 x.lo, .int .i64 x.hi, .int .i64 x.every, .int .i64 x.logs, .int .i64 x.ready] 59)
  have HX1 := hid (heap_mono HX.out ba)
  have HQ1 := hid (heap_mono HQ.out ba)
  have HB1 := hid (bl_trans HB.out ba)
  have HN1 := hid (World.alloc_heap_new w0 (.cells #[.int .i64 x.down, .int .i64 x.pass, .int .i64 x.takes, .int .i64 x.lo, .int .i64 x.hi, .int .i64 x.every, .int .i64 x.logs, .int .i64 x.ready] 59))
  have hxr := (Array.getElem?_eq_some_iff.1 HQ.out).1
  clear HX HQ HB ba
  go_upto_region 2 with (fail)
  obtain ⟨X, hX⟩ : ∃ X, w0.heap.size = X := ⟨_, rfl⟩
  obtain ⟨w1, hw1⟩ : ∃ w1, w0.alloc (.cells #[.int .i64 x.down, .int .i64 x.pass, .int .i64 x.takes, .int .i64 x.lo, .int .i64 x.hi, .int .i64 x.every, .int .i64 x.logs, .int .i64 x.ready] 59) = w1 := ⟨_, rfl⟩
  have HXR : Hid (R + 1 < X ∧ w.heap.size ≤ X) := by show R + 1 < X ∧ w.heap.size ≤ X; have := HRB.out; omega
  rw [hX] at HN1 ⊢
  rw [hw1] at HX1 HQ1 HB1 HN1 ⊢
  clear hX hw1 hxr r1 rl q0 q1 q2 q3 q4 q5 q6 q7
  have c0 : w1.cell? ⟨X, 7, none⟩ = some (.int .i64 x.ready) := cell_of_heap HN1.out
  have f0 : w1.frozen? ⟨X, 7, none⟩ = false := frozen_of_heap HN1.out
  have xl := (Array.getElem?_eq_some_iff.1 HN1.out).1
  have h2 : (w1.setCell ⟨X, 7, none⟩ (.int .i64 (late))).heap[X]? = some (.cells #[.int .i64 x.down, .int .i64 x.pass, .int .i64 x.takes, .int .i64 x.lo, .int .i64 x.hi, .int .i64 x.every, .int .i64 x.logs, .int .i64 (late)] 59 (0, 0)) := by
    rw [heap_setCell_same _ _ _ _ _ _ HN1.out]; rfl
  have HN2 := hid h2
  have HX2 := hid (past_set (o := 7) (u := .int .i64 (late)) (show R ≠ X by have := HXR.out; omega) HX1.out)
  have HQ2 := hid (past_set (o := 7) (u := .int .i64 (late)) (show R + 1 ≠ X by have := HXR.out; omega) HQ1.out)
  have HB2 := hid (bl_set HB1.out (o := 7) (.int .i64 (late)) HXR.out.2)
  clear h2 HN1 HX1 HQ1 HB1
  go_upto_region 3 with (fail)
  obtain ⟨w2, hw2⟩ : ∃ w2, w1.setCell ⟨X, 7, none⟩ (.int .i64 (late)) = w2 := ⟨_, rfl⟩
  rw [hw2] at HN2 HX2 HQ2 HB2 ⊢
  clear hw2 c0 f0 xl
  have r0 : w2.cell? ⟨R, 0, none⟩ = some (.int .i64 days) := cell_of_heap HX2.out
  have r1 : w2.cell? ⟨R, 1, none⟩ = some (.slice (some ⟨b, off, none⟩) l.length c) := cell_of_heap HX2.out
  have rl := (Array.getElem?_eq_some_iff.1 HX2.out).1
  obtain ⟨y0, y1, y2, y3, y4, y5, y6, y7⟩ : RchAt w2 X 0 { x with ready := late } := ⟨cell_of_heap HN2.out, cell_of_heap HN2.out, cell_of_heap HN2.out, cell_of_heap HN2.out, cell_of_heap HN2.out, cell_of_heap HN2.out, cell_of_heap HN2.out, cell_of_heap HN2.out⟩
  have yl := (Array.getElem?_eq_some_iff.1 HN2.out).1
  simp only [Nat.zero_add] at y0 y1 y2 y3 y4 y5 y6 y7
  have hcall := changed_any days l _ i { x with ready := late } w2 h0 hn (HS.out.mono HB2.out) hi
  simp only at hcall
  have HLF : Hid (laterL l i late = l.set i { x with ready := late }) := by show l.set i { rivP l i with ready := late } = _; rw [riv_at Hx.out]
  go_wp2_with fail
  refine hcall.mono ?_
  rintro e w3 ⟨⟨s, rfl, hs3⟩, hb3⟩
  have HQ3 := hid (heap_mono HQ2.out hb3)
  have HB3 := hid (bl_trans HB2.out hb3)
  have HS3 := hid hs3
  obtain ⟨g3, c3, rfl, hc3, ho3⟩ := hs3
  have HO3 := hid ho3
  obtain ⟨cs3, hbx3, _⟩ := ho3.box
  have hg3 : g3 ≠ R + 1 := ne_type hbx3 HQ3.out (by decide)
  clear hcall r0 r1 rl y0 y1 y2 y3 y4 y5 y6 y7 yl ho3 hbx3 hb3 HX2 HN2 HQ2 HB2 HS3
  have s0 : w3.cell? ⟨R + 1, 0, none⟩ = some (.int .i64 0) := cell_of_heap HQ3.out
  have s1 : w3.cell? ⟨R + 1, 1, none⟩ = some (.slice none 0 0) := cell_of_heap HQ3.out
  have z0 : w3.frozen? ⟨R + 1, 0, none⟩ = false := frozen_of_heap HQ3.out
  have z1 : w3.frozen? ⟨R + 1, 1, none⟩ = false := frozen_of_heap HQ3.out
  have sl := (Array.getElem?_eq_some_iff.1 HQ3.out).1
  have hll : (l.set i { x with ready := late }).length = l.length := List.length_set ..
  obtain ⟨vs, hvs⟩ : ∃ vs, Value.slice (some ⟨g3, 0, none⟩) (l.set i { x with ready := late }).length c3 = vs := ⟨_, rfl⟩
  have HVS := hid hvs
  rw [hll] at hvs
  have h4 : ((w3.setCell ⟨R + 1, 0, none⟩ (.int .i64 days)).setCell ⟨R + 1, 1, none⟩ (.slice (some ⟨g3, 0, none⟩) l.length c3)).heap[R + 1]? = some (.cells #[.int .i64 days, .slice (some ⟨g3, 0, none⟩) l.length c3] 24 (0, 0)) := by
    have h5 : (w3.setCell ⟨R + 1, 0, none⟩ (.int .i64 days)).heap[R + 1]? = some (.cells #[.int .i64 days, .slice none 0 0] 24 (0, 0)) := by rw [heap_setCell_same _ _ _ _ _ _ HQ3.out]; rfl
    rw [heap_setCell_same _ _ _ _ _ _ h5]; rfl
  have hr1 : w.heap.size ≤ R + 1 := by have := HRB.out; omega
  have HB7 := hid (bl_set (bl_set HB3.out (o := 0) (.int .i64 days) hr1) (o := 1) (.slice (some ⟨g3, 0, none⟩) l.length c3) hr1)
  have HO7 : Hid (OwnR ((w3.setCell ⟨R + 1, 0, none⟩ (.int .i64 days)).setCell ⟨R + 1, 1, none⟩ (.slice (some ⟨g3, 0, none⟩) l.length c3)) g3 (l.set i { x with ready := late })) := by
    obtain ⟨cs, h1, h2⟩ := HO3.out.box
    exact ⟨⟨cs, past_set hg3 (past_set hg3 h1), h2⟩⟩
  have HH4 := hid h4
  have HC3 : Hid (l.length ≤ c3) := by show l.length ≤ c3; rw [← hll]; exact hc3
  rw [hll]
  clear h4 hr1 HO3 HB3 HQ3 hvs HVS hll hc3
  go_wp2
  obtain ⟨w7, hw7⟩ : ∃ w7, (w3.setCell ⟨R + 1, 0, none⟩ (.int .i64 days)).setCell ⟨R + 1, 1, none⟩ (.slice (some ⟨g3, 0, none⟩) l.length c3) = w7 := ⟨_, rfl⟩
  rw [hw7] at HH4 HB7 HO7 ⊢
  have v0 : w7.cell? ⟨R + 1, 0, none⟩ = some (.int .i64 days) := cell_of_heap HH4.out
  have v1 : w7.cell? ⟨R + 1, 1, none⟩ = some (.slice (some ⟨g3, 0, none⟩) l.length c3) := cell_of_heap HH4.out
  have vl := (Array.getElem?_eq_some_iff.1 HH4.out).1
  refine bodyPost_ret (v := .agg #[.int .i64 days, .slice (some ⟨g3, 0, none⟩) l.length c3]) (by simp [results, Try.results52, go_sem, v0, v1, vl]) rfl ⟨⟨_, rfl, ?_⟩, HB7.out⟩
  rw [HLF.out]
  exact ⟨g3, c3, by rw [List.length_set], by rw [List.length_set]; exact HC3.out, HO7.out⟩

end Go.Proofs.Ytbnmjbmlejifcaa
