/- The reference's rivers with another reach: the walks. -/
import Derived.Test.YtbnmjbmlejifcaaMostof
import Derived.Test.YtbnmjbmlejifcaaWith
set_option linter.all false
namespace Go.Proofs.Ytbnmjbmlejifcaa
open Go Go.RowKit Go.Proofs
attribute [local go_sem] cell_grow frozen_grow

/-- What is there while a river is copied. -/
structure ChF (base : Nat) (days : Int) (l : List Rch) (s5 s7 s8 : Bool) (u13 u7 : Value) (W : World) : Prop where
  app : s5 = true → ∃ g cap, u13 = .slice (some ⟨g, 0, none⟩) l.length cap ∧ l.length ≤ cap ∧ base ≤ g ∧ OwnR W g l
  box' : s7 = true → ∃ b, u7 = .pointer (some ⟨b, 0, none⟩) ∧ base ≤ b ∧ W.heap[b]? = some (.cells (if s8 = true then #[.int .i64 days, u13] else #[.int .i64 0, .slice none 0 0]) 24 (0, 0))
section
variable {base : Nat} {days : Int} {l : List Rch} {s5 s7 s8 : Bool} {u13 u7 : Value} {W W' : World}
theorem ChF.start : ChF base days l false false false u13 u7 W := ⟨(fun h => by cases h), (fun h => by cases h)⟩
theorem ChF.mono (h : ChF base days l s5 s7 s8 u13 u7 W) (hb : Below W.heap.size W W') : ChF base days l s5 s7 s8 u13 u7 W' :=
  ⟨fun q => by obtain ⟨g, cap, h1, h2, h3, h4⟩ := h.app q; exact ⟨g, cap, h1, h2, h3, h4.mono hb⟩, fun q => by obtain ⟨b, h1, h2, h3⟩ := h.box' q; exact ⟨b, h1, h2, heap_mono h3 hb⟩⟩
theorem ChF.app' {g cap : Nat} (h : ChF base days l s5 s7 s8 u13 u7 W) (_h5 : s5 = false) (h8 : s8 = false) (hb : Below W.heap.size W W') (hcap : l.length ≤ cap) (hg : base ≤ g) (ho : OwnR W' g l) : ChF base days l true s7 s8 (.slice (some ⟨g, 0, none⟩) l.length cap) u7 W' := by
  subst h8
  exact ⟨fun _ => ⟨g, cap, rfl, hcap, hg, ho⟩, fun q => by obtain ⟨b, h1, h2, h3⟩ := h.box' q; exact ⟨b, h1, h2, by simpa using heap_mono h3 hb⟩⟩
theorem ChF.box (h : ChF base days l s5 s7 s8 u13 u7 W) (h8 : s8 = false) (hb : base ≤ W.heap.size) : ChF base days l s5 true s8 u13 (.pointer (some ⟨W.heap.size, 0, none⟩)) (W.alloc (.cells #[.int .i64 0, .slice none 0 0] 24)) := by
  subst h8
  refine ⟨(h.mono (bl_alloc (bl_refl W) _)).app, fun _ => ⟨W.heap.size, rfl, hb, ?_⟩⟩
  exact World.alloc_heap_new W _
theorem ChF.boxAt (h : ChF base days l s5 true false u13 u7 W) : ∃ b, u7 = .pointer (some ⟨b, 0, none⟩) ∧ base ≤ b ∧ W.heap[b]? = some (.cells #[.int .i64 0, .slice none 0 0] 24 (0, 0)) := by
  simpa using h.box' rfl
theorem ChF.put {b : Nat} (h : ChF base days l true true false u13 u7 W) (hq : u7 = .pointer (some ⟨b, 0, none⟩)) (hx : W.heap[b]? = some (.cells #[.int .i64 0, .slice none 0 0] 24 (0, 0))) : ChF base days l true true true u13 u7 ((W.setCell ⟨b, 0, none⟩ (.int .i64 days)).setCell ⟨b, 1, none⟩ u13) := by
  obtain ⟨b', h1, h2, h3⟩ := h.boxAt
  rw [hq] at h1
  obtain rfl : b = b' := by simpa using h1
  have h4 : (W.setCell ⟨b, 0, none⟩ (.int .i64 days)).heap[b]? = some (.cells #[.int .i64 days, .slice none 0 0] 24 (0, 0)) := by rw [heap_setCell_same _ _ _ _ _ _ h3]; rfl
  refine ⟨fun q => ?_, fun _ => ⟨b, hq, h2, ?_⟩⟩
  · obtain ⟨g, cap, h5, h6, h7, h8⟩ := h.app q
    obtain ⟨cs, h9, h10⟩ := h8.box
    have hne : g ≠ b := ne_type h9 hx (by decide)
    exact ⟨g, cap, h5, h6, h7, ⟨⟨cs, past_set hne (past_set hne h9), h10⟩⟩⟩
  · rw [heap_setCell_same _ _ _ _ _ _ h4]; rfl
end

/-- Reaches in a block of their own, as a slice. -/
def ChOut (w : World) (s : Value) (l : List Rch) : Prop := ∃ g cap, s = .slice (some ⟨g, 0, none⟩) l.length cap ∧ l.length ≤ cap ∧ OwnR w g l
theorem ChOut.rchs {w : World} {s : Value} {l : List Rch} (h : ChOut w s l) : Rchs w s l := by
  obtain ⟨g, cap, rfl, h1, h2⟩ := h
  exact h2.rchs h1
theorem ChOut.mono {w w' : World} {s : Value} {l : List Rch} (h : ChOut w s l) (hb : Below w.heap.size w w') : ChOut w' s l := by
  obtain ⟨g, cap, h0, h1, h2⟩ := h
  exact ⟨g, cap, h0, h1, h2.mono hb⟩
/-- A reach is stored. -/
theorem OwnR.put {W : World} {g i : Nat} {l : List Rch} {x : Rch} (h : OwnR W g l) (hx : l[i]? = some x) (y : Rch) : OwnR ((((((((W.setCell ⟨g, i * 8, none⟩ (.int .i64 y.down)).setCell ⟨g, i * 8 + 1, none⟩ (.int .i64 y.pass)).setCell ⟨g, i * 8 + 2, none⟩ (.int .i64 y.takes)).setCell ⟨g, i * 8 + 3, none⟩ (.int .i64 y.lo)).setCell ⟨g, i * 8 + 4, none⟩ (.int .i64 y.hi)).setCell ⟨g, i * 8 + 5, none⟩ (.int .i64 y.every)).setCell ⟨g, i * 8 + 6, none⟩ (.int .i64 y.logs)).setCell ⟨g, i * 8 + 7, none⟩ (.int .i64 y.ready)) g (l.set i y) := by
  have hil := (List.getElem?_eq_some_iff.1 hx).1
  have g1 : ∀ z : Rch, (l.set i z)[i]? = some z := fun z => List.getElem?_set_self hil
  have k0 := h.set (j := 0) (x' := { x with down := y.down }) (u := .int .i64 y.down) hx (by omega) rfl
  have k1 := k0.set (j := 1) (x' := { x with down := y.down, pass := y.pass }) (u := .int .i64 y.pass) (g1 _) (by omega) rfl
  rw [List.set_set] at k1
  have k2 := k1.set (j := 2) (x' := { x with down := y.down, pass := y.pass, takes := y.takes }) (u := .int .i64 y.takes) (g1 _) (by omega) rfl
  rw [List.set_set] at k2
  have k3 := k2.set (j := 3) (x' := { x with down := y.down, pass := y.pass, takes := y.takes, lo := y.lo }) (u := .int .i64 y.lo) (g1 _) (by omega) rfl
  rw [List.set_set] at k3
  have k4 := k3.set (j := 4) (x' := { x with down := y.down, pass := y.pass, takes := y.takes, lo := y.lo, hi := y.hi }) (u := .int .i64 y.hi) (g1 _) (by omega) rfl
  rw [List.set_set] at k4
  have k5 := k4.set (j := 5) (x' := { x with down := y.down, pass := y.pass, takes := y.takes, lo := y.lo, hi := y.hi, every := y.every }) (u := .int .i64 y.every) (g1 _) (by omega) rfl
  rw [List.set_set] at k5
  have k6 := k5.set (j := 6) (x' := { x with down := y.down, pass := y.pass, takes := y.takes, lo := y.lo, hi := y.hi, every := y.every, logs := y.logs }) (u := .int .i64 y.logs) (g1 _) (by omega) rfl
  rw [List.set_set] at k6
  have k7 := k6.set (j := 7) (x' := y) (u := .int .i64 y.ready) (g1 _) (by omega) rfl
  rw [List.set_set] at k7
  exact k7

set_option maxRecDepth 100000 in
set_option maxHeartbeats 8000000 in
theorem changed_any (days : Int) (l : List Rch) (sr : Value) (i : Nat) (y : Rch) (w : World) (h0 : 1 ≤ l.length) (hn : l.length ≤ 1000) (hs : Rchs w sr l) (hi : i < l.length) :
    Calls Try.prog 50 #[.agg #[.int .i64 days, sr], .int .i64 (i : Int), .agg #[.int .i64 y.down, .int .i64 y.pass, .int .i64 y.takes, .int .i64 y.lo, .int .i64 y.hi, .int .i64 y.every, .int .i64 y.logs, .int .i64 y.ready]] w fun e w' => (∃ s, e = .returned (.agg #[.int .i64 days, s]) ∧ ChOut w' s (l.set i y)) ∧ Below w.heap.size w w' := by
  obtain ⟨b, off, c, rfl, hlc, hb, hcell⟩ := hs.some h0
  have b1 := bl_alloc (bl_refl w) (.cells #[.int .i64 days, .slice (some ⟨b, off, none⟩) l.length c] 24)
  have b2 := bl_alloc (bl_refl (w.alloc (.cells #[.int .i64 days, .slice (some ⟨b, off, none⟩) l.length c] 24))) (.cells #[.int .i64 y.down, .int .i64 y.pass, .int .i64 y.takes, .int .i64 y.lo, .int .i64 y.hi, .int .i64 y.every, .int .i64 y.logs, .int .i64 y.ready] 59)
  have b3 := bl_alloc (bl_refl ((w.alloc (.cells #[.int .i64 days, .slice (some ⟨b, off, none⟩) l.length c] 24)).alloc (.cells #[.int .i64 y.down, .int .i64 y.pass, .int .i64 y.takes, .int .i64 y.lo, .int .i64 y.hi, .int .i64 y.every, .int .i64 y.logs, .int .i64 y.ready] 59))) (.cells #[.int .i64 0, .slice none 0 0] 24)
  have e1 := World.alloc_heap_new w (.cells #[.int .i64 days, .slice (some ⟨b, off, none⟩) l.length c] 24)
  have e2 := World.alloc_heap_new (w.alloc (.cells #[.int .i64 days, .slice (some ⟨b, off, none⟩) l.length c] 24)) (.cells #[.int .i64 y.down, .int .i64 y.pass, .int .i64 y.takes, .int .i64 y.lo, .int .i64 y.hi, .int .i64 y.every, .int .i64 y.logs, .int .i64 y.ready] 59)
  have e3 := World.alloc_heap_new ((w.alloc (.cells #[.int .i64 days, .slice (some ⟨b, off, none⟩) l.length c] 24)).alloc (.cells #[.int .i64 y.down, .int .i64 y.pass, .int .i64 y.takes, .int .i64 y.lo, .int .i64 y.hi, .int .i64 y.every, .int .i64 y.logs, .int .i64 y.ready] 59)) (.cells #[.int .i64 0, .slice none 0 0] 24)
  simp only [World.size_alloc] at e2 e3
  have HX := hid (heap_mono (heap_mono e1 b2) b3)
  have HY := hid (heap_mono e2 b3)
  have HQ := hid e3
  have HB := hid (bl_trans (bl_trans b1 b2) b3)
  have HC := Lib.hid hcell
  clear hs b1 b2 b3 e1 e2 e3 hcell
  go_enter Try.func50, Try.ntmps50
  go_upto_region 1 with (fail)
  obtain ⟨w0, hw0⟩ : ∃ w0, ((w.alloc (.cells #[.int .i64 days, .slice (some ⟨b, off, none⟩) l.length c] 24)).alloc (.cells #[.int .i64 y.down, .int .i64 y.pass, .int .i64 y.takes, .int .i64 y.lo, .int .i64 y.hi, .int .i64 y.every, .int .i64 y.logs, .int .i64 y.ready] 59)).alloc (.cells #[.int .i64 0, .slice none 0 0] 24) = w0 := ⟨_, rfl⟩
  rw [hw0] at HX HY HQ HB ⊢
  obtain ⟨R, hR⟩ : ∃ R, w.heap.size = R := ⟨_, rfl⟩
  have HRB : Hid (w.heap.size ≤ R) := by show w.heap.size ≤ R; omega
  rw [hR] at HX HY HQ ⊢
  clear hw0 hR
  refine wp_region_vals [8, 9, 10, 11, 12, 13, 14, 7] (fun seen u W => (seen 0 = true → u 8 = .pointer (some ⟨R, 0, none⟩)) ∧
    (seen 1 = true → u 9 = .int .i64 days) ∧
    (seen 2 = true → RowAt w0.heap.size W (u 10) 59 #[]) ∧
    (seen 3 = true → u 11 = .pointer (some ⟨R, 1, none⟩)) ∧
    (seen 4 = true → u 12 = .slice (some ⟨b, off, none⟩) l.length c) ∧
    (seen 5 = true → True) ∧
    (seen 6 = true → u 14 = .agg #[.int .i64 days, u 13]) ∧
    (seen 7 = true → True) ∧
    (seen 8 = true → True) ∧
    (seen 6 = true → seen 5 = true) ∧
    (seen 8 = true → seen 5 = true) ∧
    (seen 8 = true → seen 7 = true) ∧
    ChF w0.heap.size days l (seen 5) (seen 7) (seen 8) (u 13) (u 7) W)
    (by kernel_rfl) (by kernel_rfl) (by kernel_rfl) (by simp) ⟨by simp [valsOf], by simp [valsOf], by simp [valsOf], by simp [valsOf], by simp [valsOf], by simp [valsOf], by simp [valsOf], by simp [valsOf], by simp [valsOf], by simp [valsOf], by simp [valsOf], by simp [valsOf], ChF.start⟩ ?_ ?_
  · intro i o ho seen a' w9 hb9 ⟨F0, F1, F2, F3, F4, F5, F6, F7, F8, F9, F10, F11, FM⟩ hv hsi hdep
    have hbx := heap_mono HX.out hb9
    have c0 : w9.cell? ⟨R, 0, none⟩ = some (.int .i64 days) := cell_of_heap hbx
    have c1 : w9.cell? ⟨R, 1, none⟩ = some (.slice (some ⟨b, off, none⟩) l.length c) := cell_of_heap hbx
    have hXl := (Array.getElem?_eq_some_iff.1 hbx).1
    rcases i with _ | _ | _ | _ | _ | _ | _ | _ | _ | i <;> simp only [List.getElem?_cons_zero, List.getElem?_cons_succ, List.getElem?_nil, Option.some.injEq, reduceCtorEq] at ho <;> subst ho
    · have x3 := val_at (hv 3 (by simp))
      simp [valsOf] at x3
      refine wp_value (.pointer (some ⟨R, 0, none⟩)) (w' := w9) (by simp [execOp, x3, go_sem, c0, c1, hXl]) ⟨_, rfl, hb9, ?_⟩
      exact ⟨by simp, by simpa using F1, by simpa using F2, by simpa using F3, by simpa using F4, by simpa using F5, by simpa using F6, by simpa using F7, by simpa using F8, by simpa using F9, by simpa using F10, by simpa using F11, by simpa using FM⟩
    · have d0 := hdep ⟨0, .data⟩ (by simp) rfl
      have e0 := val_at (F0 d0)
      refine wp_value (.int .i64 days) (w' := w9) (by simp [execOp, e0, go_sem, c0, c1, hXl]) ⟨_, rfl, hb9, ?_⟩
      exact ⟨by simpa using F0, by simp, by simpa using F2, by simpa using F3, by simpa using F4, by simpa using F5, by simpa using F6, by simpa using F7, by simpa using F8, by simpa using F9, by simpa using F10, by simpa using F11, by simpa using FM⟩
    · have hg : Below w9.heap.size w9 (w9.alloc (.cells #[] 59)) := bl_alloc (bl_refl _) _
      refine wp_value (.slice (some ⟨w9.heap.size, 0, none⟩) 0 0) (w' := w9.alloc (.cells #[] 59)) (by simp [execOp, go_sem, c0, c1, hXl]) ⟨_, rfl, bl_trans hb9 hg, ?_⟩
      have hn : RowAt w0.heap.size (w9.alloc (.cells #[] 59)) (.slice (some ⟨w9.heap.size, 0, none⟩) 0 0) 59 #[] := RowAt.new (by have := hb9.size; omega)
      exact ⟨by simpa using F0, by simpa using F1, by simpa using hn, by simpa using F3, by simpa using F4, by simpa using F5, by simpa using F6, by simpa using F7, by simpa using F8, by simpa using F9, by simpa using F10, by simpa using F11, by simpa using FM.mono hg⟩
    · have x3 := val_at (hv 3 (by simp))
      simp [valsOf] at x3
      refine wp_value (.pointer (some ⟨R, 1, none⟩)) (w' := w9) (by simp [execOp, x3, go_sem, c0, c1, hXl]) ⟨_, rfl, hb9, ?_⟩
      exact ⟨by simpa using F0, by simpa using F1, by simpa using F2, by simp, by simpa using F4, by simpa using F5, by simpa using F6, by simpa using F7, by simpa using F8, by simpa using F9, by simpa using F10, by simpa using F11, by simpa using FM⟩
    · have d3 := hdep ⟨3, .data⟩ (by simp) rfl
      have e3 := val_at (F3 d3)
      refine wp_value (.slice (some ⟨b, off, none⟩) l.length c) (w' := w9) (by simp [execOp, e3, go_sem, c0, c1, hXl]) ⟨_, rfl, hb9, ?_⟩
      exact ⟨by simpa using F0, by simpa using F1, by simpa using F2, by simpa using F3, by simp, by simpa using F5, by simpa using F6, by simpa using F7, by simpa using F8, by simpa using F9, by simpa using F10, by simpa using F11, by simpa using FM⟩
    · have d2 := hdep ⟨2, .data⟩ (by simp) rfl
      obtain ⟨g2, r2, _, _⟩ := F2 d2
      have e2 := val_at r2
      have d4 := hdep ⟨4, .data⟩ (by simp) rfl
      have e4 := val_at (F4 d4)
      have hs8 : seen 8 = false := by { cases hq : seen 8 with | false => rfl | true => exact absurd (F10 hq) (by rw [hsi]; decide) }
      obtain ⟨g, cap, W', hr, hcap, hg, ho, hb'⟩ := append_rchs (W := w9) (b0 := g2) (b := b) (off := off) (c := c) h0 hn (fun i x hx => (HC.out i x hx).mono (bl_trans HB.out hb9))
      have hm := FM.app' (by rw [hsi]) hs8 hb' hcap (Nat.le_trans hb9.size hg) ho
      refine wp_append_run _ _ 22 rfl _ _ _ W' (by simp [go_sem, e2]) (by simp [go_sem, e4]) hr ⟨_, rfl, bl_trans hb9 hb', ?_⟩
      have hg := hb'
      exact ⟨by simpa using F0, by simpa using F1, by simpa using fun h => (F2 h).mono hg, by simpa using F3, by simpa using F4, by simp, by simpa using fun h => absurd (F9 h) (by rw [hsi]; decide), by simpa using F7, by simpa using F8, by simpa using F9, by simp, by simpa using F11, by simpa using hm⟩
    · have d1 := hdep ⟨1, .data⟩ (by simp) rfl
      have e1 := val_at (F1 d1)
      have d5 := hdep ⟨5, .data⟩ (by simp) rfl
      obtain ⟨g13, c13, h13, _⟩ := FM.app d5
      have e13 := val_at h13
      refine wp_value (.agg #[.int .i64 days, .slice (some ⟨g13, 0, none⟩) l.length c13]) (w' := w9) (by simp [execOp, e1, e13, go_sem]) ⟨_, rfl, hb9, ?_⟩
      exact ⟨by simpa using F0, by simpa using F1, by simpa using F2, by simpa using F3, by simpa using F4, by simpa using F5, by simp [h13], by simpa using F7, by simpa using F8, by simpa using d5, by simpa using F10, by simpa using F11, by simpa using FM⟩
    · have hs8 : seen 8 = false := by { cases hq : seen 8 with | false => rfl | true => exact absurd (F11 hq) (by rw [hsi]; decide) }
      have hm := FM.box hs8 (by have := hb9.size; omega)
      have hg : Below w9.heap.size w9 (w9.alloc (.cells #[.int .i64 0, .slice none 0 0] 24)) := bl_alloc (bl_refl _) _
      refine wp_value (.pointer (some ⟨w9.heap.size, 0, none⟩)) (w' := w9.alloc (.cells #[.int .i64 0, .slice none 0 0] 24)) (by simp [execOp, go_sem]) ⟨_, rfl, bl_trans hb9 hg, ?_⟩
      exact ⟨by simpa using F0, by simpa using F1, by simpa using fun h => (F2 h).mono hg, by simpa using F3, by simpa using F4, by simpa using F5, by simpa using F6, by simp, by simpa using F8, by simpa using F9, by simpa using F10, by simp, by simpa using hm⟩
    · have d7 := hdep ⟨7, .data⟩ (by simp) rfl
      have d6 := hdep ⟨6, .data⟩ (by simp) rfl
      have e6 := val_at (F6 d6)
      have d5 := F9 d6
      rw [hsi, d5, d7] at FM
      obtain ⟨bq, hq, hbq, hbox⟩ := FM.boxAt
      have eq := val_at hq
      have cq0 : w9.cell? ⟨bq, 0, none⟩ = some (.int .i64 0) := cell_of_heap hbox
      have cq1 : w9.cell? ⟨bq, 1, none⟩ = some (.slice none 0 0) := cell_of_heap hbox
      have fq : ∀ i, w9.frozen? ⟨bq, i, none⟩ = false := fun i => frozen_of_heap hbox
      have hql := (Array.getElem?_eq_some_iff.1 hbox).1
      have hm := FM.put hq hbox
      have hB2 := bl_set (bl_set hb9 (o := 0) (.int .i64 days) hbq) (o := 1) (valsOf a' 13) hbq
      obtain ⟨g13, c13, h13, _⟩ := FM.app rfl
      refine wp_effect (w' := (w9.setCell ⟨bq, 0, none⟩ (.int .i64 days)).setCell ⟨bq, 1, none⟩ (valsOf a' 13)) (by simp [execOp, eq, e6, go_sem, cq0, cq1, fq, hql, h13]) ⟨_, rfl, hB2, ?_⟩
      exact ⟨by simpa using F0, by simpa using F1, by simpa using fun h => (F2 h).past hbox (by decide) (fun k o hk h => past_set hk (past_set hk h)), by simpa using F3, by simpa using F4, by simpa using F5, by simpa using F6, by simpa using F7, by simp, by simpa using F9, by simpa using F9 d6, by simpa using d7, by simpa [d5, d7] using hm⟩
  intro u w5 hb5 seen hall ⟨F0, F1, F2, F3, F4, F5, F6, F7, F8, F9, F10, F11, FM⟩
  replace F0 := F0 (hall 0 (by decide))
  replace F1 := F1 (hall 1 (by decide))
  replace F2 := F2 (hall 2 (by decide))
  replace F3 := F3 (hall 3 (by decide))
  replace F4 := F4 (hall 4 (by decide))
  replace F5 := F5 (hall 5 (by decide))
  replace F6 := F6 (hall 6 (by decide))
  replace F7 := F7 (hall 7 (by decide))
  replace F8 := F8 (hall 8 (by decide))
  simp only [hall 5 (by decide), hall 7 (by decide), hall 8 (by decide)] at FM
  obtain ⟨g, cap, hu13, hcap, hg, hown⟩ := FM.app rfl
  obtain ⟨bq, hu7, hbq, hbox⟩ := FM.box' rfl
  simp only [if_true, hu13] at hbox
  simp only [setAll, F0, F1, F3, F4, F6, hu13, hu7]
  have HB5 := hid (bl_trans HB.out hb5)
  have HY5 := hid (heap_mono HY.out hb5)
  have HQ5 := hid (heap_mono HQ.out hb5)
  have HG := hid hown
  have HBX := hid hbox
  have HGB : Hid (R + 2 < g ∧ R + 2 < bq ∧ w.heap.size ≤ g) := by
    show R + 2 < g ∧ R + 2 < bq ∧ w.heap.size ≤ g
    have h1 := (Array.getElem?_eq_some_iff.1 HQ.out).1
    have h2 := HB.out.size
    omega
  clear FM hu13 hu7 hbox hown F0 F1 F2 F3 F4 F5 F6 F7 F8 F9 F10 F11 hall seen hb5 HX HY HQ HB
  generalize u 10 = u10
  clear u
  have hx0 : l[i]? = some (rivP l i) := by obtain ⟨x, hx⟩ := get_at hi; rw [hx, riv_at hx]
  obtain ⟨cs, hcs, hcc⟩ := HG.out.box
  obtain ⟨q0, q1, q2, q3, q4, q5, q6, q7⟩ := HG.out.at hx0
  have fz : ∀ k, w5.frozen? ⟨g, k, none⟩ = false := fun k => frozen_of_heap hcs
  have gl := (Array.getElem?_eq_some_iff.1 hcs).1
  have t1 : w5.cell? ⟨bq, 1, none⟩ = some (.slice (some ⟨g, 0, none⟩) l.length cap) := cell_of_heap HBX.out
  have tl := (Array.getElem?_eq_some_iff.1 HBX.out).1
  obtain ⟨y0, y1, y2, y3, y4, y5, y6, y7⟩ : RchAt w5 (R + 1) 0 y := ⟨cell_of_heap HY5.out, cell_of_heap HY5.out, cell_of_heap HY5.out, cell_of_heap HY5.out, cell_of_heap HY5.out, cell_of_heap HY5.out, cell_of_heap HY5.out, cell_of_heap HY5.out⟩
  have yl := (Array.getElem?_eq_some_iff.1 HY5.out).1
  simp only [Nat.zero_add] at y1 y2 y3 y4 y5 y6 y7
  have hiI : (i : Int) < (l.length : Int) := by omega
  clear hcs hcc hx0
  go_upto_region 3 with (fail)
  clear q0 q1 q2 q3 q4 q5 q6 q7 fz gl t1 tl y0 y1 y2 y3 y4 y5 y6 y7 yl hiI
  have hx0 : l[i]? = some (rivP l i) := by obtain ⟨x, hx⟩ := get_at hi; rw [hx, riv_at hx]
  have HP := hid (HG.out.put hx0 y)
  have hgq : g ≠ R + 2 := by have := HGB.out; omega
  have hgb : g ≠ bq := by
    obtain ⟨cs, h1, _⟩ := HG.out.box
    exact ne_type h1 HBX.out (by decide)
  have hk : ∀ (X : Nat) (o : Obj), X ≠ g → w5.heap[X]? = some o → ((((((((w5.setCell ⟨g, i * 8, none⟩ (.int .i64 y.down)).setCell ⟨g, i * 8 + 1, none⟩ (.int .i64 y.pass)).setCell ⟨g, i * 8 + 2, none⟩ (.int .i64 y.takes)).setCell ⟨g, i * 8 + 3, none⟩ (.int .i64 y.lo)).setCell ⟨g, i * 8 + 4, none⟩ (.int .i64 y.hi)).setCell ⟨g, i * 8 + 5, none⟩ (.int .i64 y.every)).setCell ⟨g, i * 8 + 6, none⟩ (.int .i64 y.logs)).setCell ⟨g, i * 8 + 7, none⟩ (.int .i64 y.ready)).heap[X]? = some o := fun X o hX h => past_set hX (past_set hX (past_set hX (past_set hX (past_set hX (past_set hX (past_set hX (past_set hX h)))))))
  have HBX6 := hid (hk _ _ (Ne.symm hgb) HBX.out)
  have HQ6 := hid (hk _ _ (Ne.symm hgq) HQ5.out)
  have hgw := HGB.out.2.2
  have HB6 : Hid (Below w.heap.size w ((((((((w5.setCell ⟨g, i * 8, none⟩ (.int .i64 y.down)).setCell ⟨g, i * 8 + 1, none⟩ (.int .i64 y.pass)).setCell ⟨g, i * 8 + 2, none⟩ (.int .i64 y.takes)).setCell ⟨g, i * 8 + 3, none⟩ (.int .i64 y.lo)).setCell ⟨g, i * 8 + 4, none⟩ (.int .i64 y.hi)).setCell ⟨g, i * 8 + 5, none⟩ (.int .i64 y.every)).setCell ⟨g, i * 8 + 6, none⟩ (.int .i64 y.logs)).setCell ⟨g, i * 8 + 7, none⟩ (.int .i64 y.ready))) := bl_set (bl_set (bl_set (bl_set (bl_set (bl_set (bl_set (bl_set HB5.out _ hgw) _ hgw) _ hgw) _ hgw) _ hgw) _ hgw) _ hgw) _ hgw
  obtain ⟨w6, hw6⟩ : ∃ w6, (((((((w5.setCell ⟨g, i * 8, none⟩ (.int .i64 y.down)).setCell ⟨g, i * 8 + 1, none⟩ (.int .i64 y.pass)).setCell ⟨g, i * 8 + 2, none⟩ (.int .i64 y.takes)).setCell ⟨g, i * 8 + 3, none⟩ (.int .i64 y.lo)).setCell ⟨g, i * 8 + 4, none⟩ (.int .i64 y.hi)).setCell ⟨g, i * 8 + 5, none⟩ (.int .i64 y.every)).setCell ⟨g, i * 8 + 6, none⟩ (.int .i64 y.logs)).setCell ⟨g, i * 8 + 7, none⟩ (.int .i64 y.ready) = w6 := ⟨_, rfl⟩
  rw [hw6] at HP HBX6 HQ6 HB6 ⊢
  clear hw6 hk hgw hgb hx0 HBX HQ5 HB5 HG HY5
  have r0 : w6.cell? ⟨bq, 0, none⟩ = some (.int .i64 days) := cell_of_heap HBX6.out
  have r1 : w6.cell? ⟨bq, 1, none⟩ = some (.slice (some ⟨g, 0, none⟩) l.length cap) := cell_of_heap HBX6.out
  have rl := (Array.getElem?_eq_some_iff.1 HBX6.out).1
  have s0 : w6.cell? ⟨R + 2, 0, none⟩ = some (.int .i64 0) := cell_of_heap HQ6.out
  have s1 : w6.cell? ⟨R + 2, 1, none⟩ = some (.slice none 0 0) := cell_of_heap HQ6.out
  have z0 : w6.frozen? ⟨R + 2, 0, none⟩ = false := frozen_of_heap HQ6.out
  have z1 : w6.frozen? ⟨R + 2, 1, none⟩ = false := frozen_of_heap HQ6.out
  have sl := (Array.getElem?_eq_some_iff.1 HQ6.out).1
  have h4 : ((w6.setCell ⟨R + 2, 0, none⟩ (.int .i64 days)).setCell ⟨R + 2, 1, none⟩ (.slice (some ⟨g, 0, none⟩) l.length cap)).heap[R + 2]? = some (.cells #[.int .i64 days, .slice (some ⟨g, 0, none⟩) l.length cap] 24 (0, 0)) := by
    have h5 : (w6.setCell ⟨R + 2, 0, none⟩ (.int .i64 days)).heap[R + 2]? = some (.cells #[.int .i64 days, .slice none 0 0] 24 (0, 0)) := by rw [heap_setCell_same _ _ _ _ _ _ HQ6.out]; rfl
    rw [heap_setCell_same _ _ _ _ _ _ h5]; rfl
  have HH4 := hid h4
  have hr1 : w.heap.size ≤ R + 2 := by have := HRB.out; omega
  have HB7 := hid (bl_set (bl_set HB6.out (o := 0) (.int .i64 days) hr1) (o := 1) (.slice (some ⟨g, 0, none⟩) l.length cap) hr1)
  have HO7 : Hid (OwnR ((w6.setCell ⟨R + 2, 0, none⟩ (.int .i64 days)).setCell ⟨R + 2, 1, none⟩ (.slice (some ⟨g, 0, none⟩) l.length cap)) g (l.set i y)) := by
    obtain ⟨cs, h1, h2⟩ := HP.out.box
    exact ⟨⟨cs, past_set hgq (past_set hgq h1), h2⟩⟩
  clear h4 hr1 HP HBX6 HQ6 HB6
  go_wp2
  obtain ⟨w7, hw7⟩ : ∃ w7, (w6.setCell ⟨R + 2, 0, none⟩ (.int .i64 days)).setCell ⟨R + 2, 1, none⟩ (.slice (some ⟨g, 0, none⟩) l.length cap) = w7 := ⟨_, rfl⟩
  rw [hw7] at HH4 HB7 HO7 ⊢
  have v0 : w7.cell? ⟨R + 2, 0, none⟩ = some (.int .i64 days) := cell_of_heap HH4.out
  have v1 : w7.cell? ⟨R + 2, 1, none⟩ = some (.slice (some ⟨g, 0, none⟩) l.length cap) := cell_of_heap HH4.out
  have vl := (Array.getElem?_eq_some_iff.1 HH4.out).1
  refine bodyPost_ret (v := .agg #[.int .i64 days, .slice (some ⟨g, 0, none⟩) l.length cap]) (by simp [results, Try.results50, go_sem, v0, v1, vl]) rfl ⟨⟨_, rfl, ?_⟩, HB7.out⟩
  exact ⟨g, cap, by rw [List.length_set], by rw [List.length_set]; exact hcap, HO7.out⟩

end Go.Proofs.Ytbnmjbmlejifcaa
