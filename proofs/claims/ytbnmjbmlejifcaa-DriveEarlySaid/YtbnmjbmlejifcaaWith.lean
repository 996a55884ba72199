/- A river with another reach: the walks. -/
import Derived.Test.YtbnmjbmlejifcaaLeft
import Derived.Laws.Cover3
set_option linter.all false
namespace Go.Proofs.Ytbnmjbmlejifcaa
open Go Go.RowKit Go.Proofs
attribute [local go_sem] cell_grow frozen_grow

theorem info59 : (Try.prog.info? 59).map (fun i => (i.zero, i.size, i.bytes)) = some (some (.agg #[.int .i64 0, .int .i64 0, .int .i64 0, .int .i64 0, .int .i64 0, .int .i64 0, .int .i64 0, .int .i64 0]), 8, 64) := by kernel_rfl
theorem wide1_any (g o : Nat) (p : Int) (cs : Array Value) (w : World) (hg : w.heap[g]? = some (.cells cs 59 (0, 0))) (hc : cs[o + 1]? = some (.int .i64 p)) (hp : 0 ≤ p ∧ p ≤ 100000) :
    Calls Try.prog 77 #[.pointer (some ⟨g, o, none⟩)] w fun e w' => e = .returned (.tuple #[]) ∧ w' = w.setCell ⟨g, o + 1, none⟩ (.int .i64 (p + 1)) := by
  have c0 : w.cell? ⟨g, o + 1, none⟩ = some (.int .i64 p) := (cell_of_heap hg).trans hc
  have f0 : w.frozen? ⟨g, o + 1, none⟩ = false := frozen_of_heap hg
  have gl := (Array.getElem?_eq_some_iff.1 hg).1
  have hw : IntKind.i64.wrap (p + 1) = p + 1 := IntWalk.i64_in _ (by omega)
  clear hc hg
  go_enter Try.func77, Try.ntmps77
  go_wp2
  first | go_end0 | refine bodyPost_ret (results_none rfl _ _ _) rfl ?_
  exact ⟨rfl, rfl⟩
theorem late1_any (g o B : Nat) (late y : Int) (cs : Array Value) (w : World) (hg : w.heap[g]? = some (.cells cs 59 (0, 0))) (hc : cs[o + 7]? = some (.int .i64 y)) (hB : w.cell? ⟨B, 0, none⟩ = some (.int .i64 late)) :
    Calls Try.prog 80 #[.pointer (some ⟨g, o, none⟩), .pointer (some ⟨B, 0, none⟩)] w fun e w' => e = .returned (.tuple #[]) ∧ w' = w.setCell ⟨g, o + 7, none⟩ (.int .i64 late) := by
  have c0 : w.cell? ⟨g, o + 7, none⟩ = some (.int .i64 y) := (cell_of_heap hg).trans hc
  have f0 : w.frozen? ⟨g, o + 7, none⟩ = false := frozen_of_heap hg
  have gl := (Array.getElem?_eq_some_iff.1 hg).1
  clear hc hg
  go_enter Try.func80, Try.ntmps80
  go_wp2
  first | go_end0 | refine bodyPost_ret (results_none rfl _ _ _) rfl ?_
  exact ⟨rfl, rfl⟩

/-- A reach's cells. -/
def rc (x : Rch) : List Value := [.int .i64 x.down, .int .i64 x.pass, .int .i64 x.takes, .int .i64 x.lo, .int .i64 x.hi, .int .i64 x.every, .int .i64 x.logs, .int .i64 x.ready]
/-- All cells of a list of reaches. -/
def rcs (l : List Rch) : List Value := l.flatMap rc
theorem rcs_len (l : List Rch) : (rcs l).length = l.length * 8 := by
  induction l with
  | nil => rfl
  | cons x l ih =>
    show (rc x ++ rcs l).length = _
    rw [List.length_append, ih, List.length_cons]
    show 8 + l.length * 8 = _
    omega
theorem rcs_at {l : List Rch} {i : Nat} {x : Rch} (hx : l[i]? = some x) (j : Nat) (hj : j < 8) : (rcs l)[i * 8 + j]? = (rc x)[j]? := by
  induction l generalizing i with
  | nil => simp at hx
  | cons y l ih =>
    show (rc y ++ rcs l)[i * 8 + j]? = _
    have hl : (rc y).length = 8 := rfl
    cases i with
    | zero =>
      simp only [List.getElem?_cons_zero, Option.some.injEq] at hx
      subst hx
      rw [Nat.zero_mul, Nat.zero_add, List.getElem?_append_left (by rw [hl]; exact hj)]
    | succ i =>
      rw [List.getElem?_cons_succ] at hx
      rw [List.getElem?_append_right (by rw [hl]; omega), hl, show (i + 1) * 8 + j - 8 = i * 8 + j by omega]
      exact ih hx
theorem rcs_cell {w : World} {b off : Nat} {l : List Rch} (h : ∀ i x, l[i]? = some x → RchAt w b (off + i * 8) x) (k : Nat) (u : Value) (hu : (rcs l)[k]? = some u) : w.cell? ⟨b, off + k, none⟩ = some u := by
  have hk : k < l.length * 8 := by rw [← rcs_len]; exact (List.getElem?_eq_some_iff.1 hu).1
  obtain ⟨x, hx⟩ := get_at (l := l) (k := k / 8) (by omega)
  have hm : k % 8 < 8 := Nat.mod_lt _ (by omega)
  have e := rcs_at hx (k % 8) hm
  rw [show k / 8 * 8 + k % 8 = k by omega, hu] at e
  obtain ⟨q0, q1, q2, q3, q4, q5, q6, q7⟩ := h (k / 8) x hx
  have hk8 : off + k = off + k / 8 * 8 + k % 8 := by omega
  rw [hk8]
  obtain ⟨m, hmm⟩ : ∃ m, k % 8 = m := ⟨_, rfl⟩
  rw [hmm] at e hm ⊢
  match m, hm, e with
  | 0, _, e => simp only [rc, List.getElem?_cons_zero] at e; rw [e]; exact q0
  | 1, _, e => simp only [rc, List.getElem?_cons_succ, List.getElem?_cons_zero] at e; rw [e]; exact q1
  | 2, _, e => simp only [rc, List.getElem?_cons_succ, List.getElem?_cons_zero] at e; rw [e]; exact q2
  | 3, _, e => simp only [rc, List.getElem?_cons_succ, List.getElem?_cons_zero] at e; rw [e]; exact q3
  | 4, _, e => simp only [rc, List.getElem?_cons_succ, List.getElem?_cons_zero] at e; rw [e]; exact q4
  | 5, _, e => simp only [rc, List.getElem?_cons_succ, List.getElem?_cons_zero] at e; rw [e]; exact q5
  | 6, _, e => simp only [rc, List.getElem?_cons_succ, List.getElem?_cons_zero] at e; rw [e]; exact q6
  | 7, _, e => simp only [rc, List.getElem?_cons_succ, List.getElem?_cons_zero] at e; rw [e]; exact q7
/-- Reaches that lie in a block of their own. -/
structure OwnR (w : World) (g : Nat) (l : List Rch) : Prop where
  box : ∃ cs, w.heap[g]? = some (.cells cs 59 (0, 0)) ∧ ∀ (k : Nat) (u : Value), (rcs l)[k]? = some u → cs[k]? = some u
theorem OwnR.at {w : World} {g : Nat} {l : List Rch} (h : OwnR w g l) {i : Nat} {x : Rch} (hx : l[i]? = some x) : RchAt w g (i * 8) x := by
  obtain ⟨cs, h1, h2⟩ := h.box
  have hc : ∀ j, j < 8 → ∀ u, (rc x)[j]? = some u → w.cell? ⟨g, i * 8 + j, none⟩ = some u := fun j hj u hu => by
    rw [cell_of_heap h1]
    exact h2 _ _ ((rcs_at hx j hj).trans hu)
  exact ⟨hc 0 (by omega) _ rfl, hc 1 (by omega) _ rfl, hc 2 (by omega) _ rfl, hc 3 (by omega) _ rfl, hc 4 (by omega) _ rfl, hc 5 (by omega) _ rfl, hc 6 (by omega) _ rfl, hc 7 (by omega) _ rfl⟩
theorem OwnR.rchs {w : World} {g cap : Nat} {l : List Rch} (h : OwnR w g l) (hc : l.length ≤ cap) : Rchs w (.slice (some ⟨g, 0, none⟩) l.length cap) l := by
  obtain ⟨cs, h1, _⟩ := h.box
  exact .inr ⟨g, 0, cap, rfl, hc, (Array.getElem?_eq_some_iff.1 h1).1, fun i x hx => by rw [Nat.zero_add]; exact h.at hx⟩
theorem OwnR.mono {w w' : World} {g : Nat} {l : List Rch} (h : OwnR w g l) (hb : Below w.heap.size w w') : OwnR w' g l := by
  obtain ⟨cs, h1, h2⟩ := h.box
  exact ⟨⟨cs, heap_mono h1 hb, h2⟩⟩
theorem rcs_set {l : List Rch} {i j : Nat} {x x' : Rch} {u : Value} (hx : l[i]? = some x) (hj : j < 8) (h : rc x' = (rc x).set j u) (k : Nat) : (rcs (l.set i x'))[k]? = if k = i * 8 + j then some u else (rcs l)[k]? := by
  by_cases hk : k < l.length * 8
  · obtain ⟨y, hy⟩ := get_at (l := l) (k := k / 8) (by omega)
    have hm : k % 8 < 8 := Nat.mod_lt _ (by omega)
    have hil := (List.getElem?_eq_some_iff.1 hx).1
    have e0 := rcs_at hy (k % 8) hm
    rw [show k / 8 * 8 + k % 8 = k by omega] at e0
    by_cases hi : k / 8 = i
    · subst hi
      rw [hx] at hy
      injection hy with hy
      subst hy
      have e1 := rcs_at (l := l.set (k / 8) x') (i := k / 8) (x := x') (by rw [List.getElem?_set_self hil]) (k % 8) hm
      rw [show k / 8 * 8 + k % 8 = k by omega] at e1
      rw [e1, h, List.getElem?_set]
      by_cases hj2 : j = k % 8
      · subst hj2
        rw [if_pos rfl, if_pos (by show k % 8 < 8; exact hm), if_pos (by omega)]
      · rw [if_neg hj2, if_neg (by omega), e0]
    · have e1 := rcs_at (l := l.set i x') (i := k / 8) (x := y) (by rw [List.getElem?_set_ne (Ne.symm hi)]; exact hy) (k % 8) hm
      rw [show k / 8 * 8 + k % 8 = k by omega] at e1
      rw [e1, if_neg (by omega), e0]
  · have hil := (List.getElem?_eq_some_iff.1 hx).1
    rw [List.getElem?_eq_none (by rw [rcs_len, List.length_set]; omega), if_neg (by omega), List.getElem?_eq_none (by rw [rcs_len]; omega)]
theorem OwnR.set {w : World} {g : Nat} {l : List Rch} (h : OwnR w g l) {i j : Nat} {x x' : Rch} {u : Value} (hx : l[i]? = some x) (hj : j < 8) (hr : rc x' = (rc x).set j u) : OwnR (w.setCell ⟨g, i * 8 + j, none⟩ u) g (l.set i x') := by
  obtain ⟨cs, h1, h2⟩ := h.box
  refine ⟨⟨_, heap_setCell_same _ _ _ _ _ _ h1, fun k v hv => ?_⟩⟩
  rw [rcs_set hx hj hr] at hv
  rw [Array.getElem?_setIfInBounds]
  by_cases hk : k = i * 8 + j
  · subst hk
    rw [if_pos rfl] at hv
    injection hv with hv
    subst hv
    have hlt : i * 8 + j < cs.size := by
      have hil := (List.getElem?_eq_some_iff.1 hx).1
      have h3 : i * 8 + j < (rcs l).length := by rw [rcs_len]; omega
      exact (Array.getElem?_eq_some_iff.1 (h2 _ _ (List.getElem?_eq_getElem h3))).1
    rw [if_pos rfl, if_pos hlt]
  · rw [if_neg hk] at hv
    rw [if_neg (fun q => hk q.symm)]
    exact h2 k v hv

theorem rcs_one (l : List Rch) : ∀ u ∈ rcs l, u.oneCell' = true := fun u hu => by
  simp only [rcs, List.mem_flatMap] at hu
  obtain ⟨x, _, hu⟩ := hu
  simp only [rc, List.mem_cons, List.not_mem_nil, or_false] at hu
  rcases hu with rfl | rfl | rfl | rfl | rfl | rfl | rfl | rfl <;> rfl
/-- Reaches appended to an empty row: a new row. -/
theorem append_rchs {W : World} {b0 b off c : Nat} {l : List Rch} (h0 : 1 ≤ l.length) (hn : l.length ≤ 1000) (hc : ∀ i x, l[i]? = some x → RchAt W b (off + i * 8) x) :
    ∃ g cap W', (Builtin.append_ #[22, 22] 22 #[.slice (some ⟨b0, 0, none⟩) 0 0, .slice (some ⟨b, off, none⟩) l.length c]).run Try.prog W = .ok (.slice (some ⟨g, 0, none⟩) l.length cap) W' ∧ l.length ≤ cap ∧ W.heap.size ≤ g ∧ OwnR W' g l ∧ Below W.heap.size W W' := by
  obtain ⟨i0, hi, hz0, hz1, hz2⟩ := info_parts info59
  have hr := run_append_grow (P := Try.prog) W 22 22 59 i0 (.agg #[.int .i64 0, .int .i64 0, .int .i64 0, .int .i64 0, .int .i64 0, .int .i64 0, .int .i64 0, .int .i64 0]) Try.underlying22 hi hz0 ⟨b0, 0, none⟩ 0 0 [] (by simp) (fun j v h => by simp at h) ⟨b, off, none⟩ l.length c (rcs l) (by rw [hz1, rcs_len]) (fun j u hu => by rw [Addr.add_lit]; exact rcs_cell hc j u hu) (by omega) (by omega) (by rw [hz2]; have := nextslicecap_le (need := 0 + l.length) (old := 0) (by omega); omega)
  rw [Nat.zero_add] at hr
  refine ⟨_, _, _, hr, ?_, Nat.le_refl _, ⟨⟨_, World.alloc_heap_new W.drew _, fun k u hu => ?_⟩⟩, bl_alloc (bl_drew (bl_refl _)) _⟩
  · exact grownCap_ge W l.length 0 59
  · have hk := (List.getElem?_eq_some_iff.1 hu).1
    rw [Array.getElem?_append_left (by simpa using hk)]
    simpa using hu

set_option maxRecDepth 100000 in
theorem clone_any (b off c : Nat) (l : List Rch) (w : World) (h0 : 1 ≤ l.length) (hn : l.length ≤ 1000) (hc : ∀ i x, l[i]? = some x → RchAt w b (off + i * 8) x) :
    Calls Try.prog 87 #[.slice (some ⟨b, off, none⟩) l.length c] w fun e w' => (∃ g cap, e = .returned (.slice (some ⟨g, 0, none⟩) l.length cap) ∧ l.length ≤ cap ∧ w.heap.size ≤ g ∧ OwnR w' g l) ∧ Below w.heap.size w w' := by
  have heq : ∀ W, (binOp .eql 22 (.slice (some ⟨b, off, none⟩) l.length c) (.slice none 0 0)).run Try.prog W = .ok (.bool false) W := fun W => by
    show ((do pure (.bool (← Op.equal 22 (.slice (some ⟨b, off, none⟩) l.length c) (.slice none 0 0)))) : Sem Value).run Try.prog W = _
    rw [Sem.run_bind, run_equal_slice_nil W 22 59 _ l.length c Try.underlying22]
    rfl
  have hb := bl_alloc (bl_refl w) (.cells #[] 59)
  obtain ⟨g, cap, W', hr, hcap, hg, ho, hb'⟩ := append_rchs (W := w.alloc (.cells #[] 59)) (b0 := w.heap.size) (b := b) (off := off) (c := c) h0 hn (fun i x hx => (hc i x hx).mono hb)
  have HO := hid ho
  have HB := hid (bl_trans hb hb')
  have HG : Hid (w.heap.size ≤ g) := by show w.heap.size ≤ g; have := hb.size; omega
  have HCAP := hid hcap
  clear hc ho hb hb' hg hcap
  go_enter Try.func87, Try.ntmps87
  go_wp2_with (at_builtin; refine wpList_append_run rfl _ _ 22 rfl _ _ _ _ rfl rfl hr ?_)
  go_ret
  exact ⟨⟨g, cap, rfl, HCAP.out, HG.out, HO.out⟩, HB.out⟩

set_option maxRecDepth 100000 in
set_option maxHeartbeats 4000000 in
theorem with_wide (days : Int) (l : List Rch) (sr : Value) (i : Nat) (x : Rch) (hp : 0 ≤ x.pass ∧ x.pass ≤ 100000) (w : World) (h0 : 1 ≤ l.length) (hn : l.length ≤ 1000) (hs : Rchs w sr l) (hx : l[i]? = some x) :
    Calls Try.prog 76 #[.agg #[.int .i64 days, sr], .int .i64 (i : Int), .func (.func 77) #[] #[]] w fun e w' => (∃ s, e = .returned (.agg #[.int .i64 days, s]) ∧ Rchs w' s (l.set i { x with pass := x.pass + 1 })) ∧ Below w.heap.size w w' := by
  obtain ⟨b, off, c, rfl, hlc, hb, hcell⟩ := hs.some h0
  have hil := (List.getElem?_eq_some_iff.1 hx).1
  have hiI : (i : Int) < (l.length : Int) := by omega
  have b1 := bl_alloc (bl_refl w) (.cells #[.int .i64 days, .slice (some ⟨b, off, none⟩) l.length c] 24)
  have b2 := bl_alloc (bl_refl (w.alloc (.cells #[.int .i64 days, .slice (some ⟨b, off, none⟩) l.length c] 24))) (.cells #[.int .i64 0, .slice none 0 0] 24)
  have hX2 := World.alloc_heap_new (w.alloc (.cells #[.int .i64 days, .slice (some ⟨b, off, none⟩) l.length c] 24)) (.cells #[.int .i64 0, .slice none 0 0] 24)
  rw [World.size_alloc] at hX2
  have HX := hid (heap_mono (World.alloc_heap_new w (.cells #[.int .i64 days, .slice (some ⟨b, off, none⟩) l.length c] 24)) b2)
  have HL := hid hX2
  have HB := hid (bl_trans b1 b2)
  have HC := Lib.hid hcell
  have Hx := hid hx
  clear hs hX2 b1 b2 hcell hx
  go_enter Try.func76, Try.ntmps76
  go_upto_region 1 with (fail)
  obtain ⟨R, hR⟩ : ∃ R, w.heap.size = R := ⟨_, rfl⟩
  obtain ⟨w0, hw0⟩ : ∃ w0, (w.alloc (.cells #[.int .i64 days, .slice (some ⟨b, off, none⟩) l.length c] 24)).alloc (.cells #[.int .i64 0, .slice none 0 0] 24) = w0 := ⟨_, rfl⟩
  rw [hw0] at HX HL HB ⊢
  have HRB : Hid (w.heap.size ≤ R) := by show w.heap.size ≤ R; omega
  rw [hR] at HX HL ⊢
  clear hw0 hR
  have r1 : w0.cell? ⟨R, 1, none⟩ = some (.slice (some ⟨b, off, none⟩) l.length c) := cell_of_heap HX.out
  have l0 := (Array.getElem?_eq_some_iff.1 HX.out).1
  have hcl := clone_any b off c l w0 h0 hn (fun i x hx => (HC.out i x hx).mono HB.out)
  go_wp2_with fail
  refine hcl.mono ?_
  rintro e w1 ⟨⟨g, cap, rfl, hcap, hg, ho⟩, hb1⟩
  have HX1 := hid (heap_mono HX.out hb1)
  have HL1 := hid (heap_mono HL.out hb1)
  have HB1 := hid (bl_trans HB.out hb1)
  have HO1 := hid ho
  have HG : Hid (R + 1 < g ∧ w.heap.size ≤ g) := by
    show R + 1 < g ∧ w.heap.size ≤ g
    have h1 := (Array.getElem?_eq_some_iff.1 HL.out).1
    have h2 := HB.out.size
    omega
  clear HX HL HB hb1 r1 l0 hcl ho hg
  have r1 : w1.cell? ⟨R, 1, none⟩ = some (.slice (some ⟨b, off, none⟩) l.length c) := cell_of_heap HX1.out
  have z1 : w1.frozen? ⟨R, 1, none⟩ = false := frozen_of_heap HX1.out
  have l0 := (Array.getElem?_eq_some_iff.1 HX1.out).1
  have hX2 : (w1.setCell ⟨R, 1, none⟩ (.slice (some ⟨g, 0, none⟩) l.length cap)).heap[R]? = some (.cells #[.int .i64 days, .slice (some ⟨g, 0, none⟩) l.length cap] 24 (0, 0)) := by
    rw [heap_setCell_same _ _ _ _ _ _ HX1.out]; rfl
  have HX2 := hid hX2
  have HL2 := hid (past_set (o := 1) (u := .slice (some ⟨g, 0, none⟩) l.length cap) (show R + 1 ≠ R by omega) HL1.out)
  have HB2 := hid (bl_set HB1.out (o := 1) (.slice (some ⟨g, 0, none⟩) l.length cap) HRB.out)
  have HO2 : Hid (OwnR (w1.setCell ⟨R, 1, none⟩ (.slice (some ⟨g, 0, none⟩) l.length cap)) g l) := by
    obtain ⟨cs, h1, h2⟩ := HO1.out.box
    exact ⟨⟨cs, past_set (by have := HG.out; omega) h1, h2⟩⟩
  clear hX2 HX1 HL1 HB1 HO1
  go_upto_region 2 with (fail)
  obtain ⟨w2, hw2⟩ : ∃ w2, w1.setCell ⟨R, 1, none⟩ (.slice (some ⟨g, 0, none⟩) l.length cap) = w2 := ⟨_, rfl⟩
  rw [hw2] at HX2 HL2 HB2 HO2 ⊢
  clear hw2 r1 z1 l0
  have r1 : w2.cell? ⟨R, 1, none⟩ = some (.slice (some ⟨g, 0, none⟩) l.length cap) := cell_of_heap HX2.out
  have l0 := (Array.getElem?_eq_some_iff.1 HX2.out).1
  obtain ⟨cs, hcs, hcc⟩ := HO2.out.box
  have hfld : cs[i * 8 + 1]? = some (.int .i64 x.pass) := hcc _ _ ((rcs_at Hx.out 1 (by omega)).trans rfl)
  have hcall := wide1_any g (i * 8) x.pass cs w2 hcs hfld hp
  clear hcs hcc hfld
  go_wp2_with fail
  refine hcall.mono ?_
  rintro e w3 ⟨rfl, hw3⟩
  have HX3 := hid (past_set (o := i * 8 + 1) (u := .int .i64 (x.pass + 1)) (show R ≠ g by have := HG.out; omega) HX2.out)
  have HL3 := hid (past_set (o := i * 8 + 1) (u := .int .i64 (x.pass + 1)) (show R + 1 ≠ g by have := HG.out; omega) HL2.out)
  have HB3 := hid (bl_set HB2.out (o := i * 8 + 1) (.int .i64 (x.pass + 1)) HG.out.2)
  have HO3 := hid (HO2.out.set (x' := { x with pass := x.pass + 1 }) Hx.out (show 1 < 8 by omega) (u := .int .i64 (x.pass + 1)) (by rfl))
  rw [← hw3] at HX3 HL3 HB3 HO3
  clear hw3 hcall HX2 HL2 HB2 HO2 r1 l0
  have r0 : w3.cell? ⟨R, 0, none⟩ = some (.int .i64 days) := cell_of_heap HX3.out
  have r1 : w3.cell? ⟨R, 1, none⟩ = some (.slice (some ⟨g, 0, none⟩) l.length cap) := cell_of_heap HX3.out
  have l0 := (Array.getElem?_eq_some_iff.1 HX3.out).1
  have s0 : w3.cell? ⟨R + 1, 0, none⟩ = some (.int .i64 0) := cell_of_heap HL3.out
  have s1 : w3.cell? ⟨R + 1, 1, none⟩ = some (.slice none 0 0) := cell_of_heap HL3.out
  have z0 : w3.frozen? ⟨R + 1, 0, none⟩ = false := frozen_of_heap HL3.out
  have z1 : w3.frozen? ⟨R + 1, 1, none⟩ = false := frozen_of_heap HL3.out
  have sl := (Array.getElem?_eq_some_iff.1 HL3.out).1
  have h4 : ((w3.setCell ⟨R + 1, 0, none⟩ (.int .i64 days)).setCell ⟨R + 1, 1, none⟩ (.slice (some ⟨g, 0, none⟩) l.length cap)).heap[R + 1]? = some (.cells #[.int .i64 days, .slice (some ⟨g, 0, none⟩) l.length cap] 24 (0, 0)) := by
    have h5 : (w3.setCell ⟨R + 1, 0, none⟩ (.int .i64 days)).heap[R + 1]? = some (.cells #[.int .i64 days, .slice none 0 0] 24 (0, 0)) := by rw [heap_setCell_same _ _ _ _ _ _ HL3.out]; rfl
    rw [heap_setCell_same _ _ _ _ _ _ h5]; rfl
  have HH4 := hid h4
  have hr1 : w.heap.size ≤ R + 1 := by have := HRB.out; omega
  have HB4 := hid (bl_set (bl_set HB3.out (o := 0) (.int .i64 days) hr1) (o := 1) (.slice (some ⟨g, 0, none⟩) l.length cap) hr1)
  have HO4 : Hid (OwnR ((w3.setCell ⟨R + 1, 0, none⟩ (.int .i64 days)).setCell ⟨R + 1, 1, none⟩ (.slice (some ⟨g, 0, none⟩) l.length cap)) g (l.set i { x with pass := x.pass + 1 })) := by
    obtain ⟨cs, h1, h2⟩ := HO3.out.box
    have hne : g ≠ R + 1 := by have := HG.out; omega
    exact ⟨⟨cs, past_set hne (past_set hne h1), h2⟩⟩
  clear h4 hr1
  go_wp2
  obtain ⟨w4, hw4⟩ : ∃ w4, (w3.setCell ⟨R + 1, 0, none⟩ (.int .i64 days)).setCell ⟨R + 1, 1, none⟩ (.slice (some ⟨g, 0, none⟩) l.length cap) = w4 := ⟨_, rfl⟩
  rw [hw4] at HH4 HB4 HO4 ⊢
  have t0 : w4.cell? ⟨R + 1, 0, none⟩ = some (.int .i64 days) := cell_of_heap HH4.out
  have t1 : w4.cell? ⟨R + 1, 1, none⟩ = some (.slice (some ⟨g, 0, none⟩) l.length cap) := cell_of_heap HH4.out
  have tl := (Array.getElem?_eq_some_iff.1 HH4.out).1
  refine bodyPost_ret (v := .agg #[.int .i64 days, .slice (some ⟨g, 0, none⟩) l.length cap]) (by simp [results, Try.results76, go_sem, t0, t1, tl]) rfl ⟨⟨_, rfl, ?_⟩, HB4.out⟩
  have h := HO4.out.rchs (cap := cap) (by rw [List.length_set]; exact hcap)
  rw [List.length_set] at h
  exact h

set_option maxRecDepth 100000 in
set_option maxHeartbeats 4000000 in
theorem with_late (days : Int) (l : List Rch) (sr : Value) (i : Nat) (x : Rch) (B : Nat) (late : Int) (w : World) (h0 : 1 ≤ l.length) (hn : l.length ≤ 1000) (hs : Rchs w sr l) (hx : l[i]? = some x) (hBc : w.cell? ⟨B, 0, none⟩ = some (.int .i64 late)) :
    Calls Try.prog 76 #[.agg #[.int .i64 days, sr], .int .i64 (i : Int), .func (.func 80) #[] #[.pointer (some ⟨B, 0, none⟩)]] w fun e w' => (∃ s, e = .returned (.agg #[.int .i64 days, s]) ∧ Rchs w' s (l.set i { x with ready := late })) ∧ Below w.heap.size w w' := by
  obtain ⟨b, off, c, rfl, hlc, hb, hcell⟩ := hs.some h0
  have hil := (List.getElem?_eq_some_iff.1 hx).1
  have hiI : (i : Int) < (l.length : Int) := by omega
  have b1 := bl_alloc (bl_refl w) (.cells #[.int .i64 days, .slice (some ⟨b, off, none⟩) l.length c] 24)
  have b2 := bl_alloc (bl_refl (w.alloc (.cells #[.int .i64 days, .slice (some ⟨b, off, none⟩) l.length c] 24))) (.cells #[.int .i64 0, .slice none 0 0] 24)
  have hX2 := World.alloc_heap_new (w.alloc (.cells #[.int .i64 days, .slice (some ⟨b, off, none⟩) l.length c] 24)) (.cells #[.int .i64 0, .slice none 0 0] 24)
  rw [World.size_alloc] at hX2
  have HX := hid (heap_mono (World.alloc_heap_new w (.cells #[.int .i64 days, .slice (some ⟨b, off, none⟩) l.length c] 24)) b2)
  have HL := hid hX2
  have HB := hid (bl_trans b1 b2)
  have HC := Lib.hid hcell
  have Hx := hid hx
  clear hs hX2 b1 b2 hcell hx
  go_enter Try.func76, Try.ntmps76
  go_upto_region 1 with (fail)
  obtain ⟨R, hR⟩ : ∃ R, w.heap.size = R := ⟨_, rfl⟩
  obtain ⟨w0, hw0⟩ : ∃ w0, (w.alloc (.cells #[.int .i64 days, .slice (some ⟨b, off, none⟩) l.length c] 24)).alloc (.cells #[.int .i64 0, .slice none 0 0] 24) = w0 := ⟨_, rfl⟩
  rw [hw0] at HX HL HB ⊢
  have HRB : Hid (w.heap.size ≤ R) := by show w.heap.size ≤ R; omega
  rw [hR] at HX HL ⊢
  clear hw0 hR
  have r1 : w0.cell? ⟨R, 1, none⟩ = some (.slice (some ⟨b, off, none⟩) l.length c) := cell_of_heap HX.out
  have l0 := (Array.getElem?_eq_some_iff.1 HX.out).1
  have hcl := clone_any b off c l w0 h0 hn (fun i x hx => (HC.out i x hx).mono HB.out)
  go_wp2_with fail
  refine hcl.mono ?_
  rintro e w1 ⟨⟨g, cap, rfl, hcap, hg, ho⟩, hb1⟩
  have HX1 := hid (heap_mono HX.out hb1)
  have HL1 := hid (heap_mono HL.out hb1)
  have HB1 := hid (bl_trans HB.out hb1)
  have HO1 := hid ho
  have HG : Hid (R + 1 < g ∧ w.heap.size ≤ g) := by
    show R + 1 < g ∧ w.heap.size ≤ g
    have h1 := (Array.getElem?_eq_some_iff.1 HL.out).1
    have h2 := HB.out.size
    omega
  clear HX HL HB hb1 r1 l0 hcl ho hg
  have r1 : w1.cell? ⟨R, 1, none⟩ = some (.slice (some ⟨b, off, none⟩) l.length c) := cell_of_heap HX1.out
  have z1 : w1.frozen? ⟨R, 1, none⟩ = false := frozen_of_heap HX1.out
  have l0 := (Array.getElem?_eq_some_iff.1 HX1.out).1
  have hX2 : (w1.setCell ⟨R, 1, none⟩ (.slice (some ⟨g, 0, none⟩) l.length cap)).heap[R]? = some (.cells #[.int .i64 days, .slice (some ⟨g, 0, none⟩) l.length cap] 24 (0, 0)) := by
    rw [heap_setCell_same _ _ _ _ _ _ HX1.out]; rfl
  have HX2 := hid hX2
  have HL2 := hid (past_set (o := 1) (u := .slice (some ⟨g, 0, none⟩) l.length cap) (show R + 1 ≠ R by omega) HL1.out)
  have HB2 := hid (bl_set HB1.out (o := 1) (.slice (some ⟨g, 0, none⟩) l.length cap) HRB.out)
  have HO2 : Hid (OwnR (w1.setCell ⟨R, 1, none⟩ (.slice (some ⟨g, 0, none⟩) l.length cap)) g l) := by
    obtain ⟨cs, h1, h2⟩ := HO1.out.box
    exact ⟨⟨cs, past_set (by have := HG.out; omega) h1, h2⟩⟩
  clear hX2 HX1 HL1 HB1 HO1
  go_upto_region 2 with (fail)
  obtain ⟨w2, hw2⟩ : ∃ w2, w1.setCell ⟨R, 1, none⟩ (.slice (some ⟨g, 0, none⟩) l.length cap) = w2 := ⟨_, rfl⟩
  rw [hw2] at HX2 HL2 HB2 HO2 ⊢
  clear hw2 r1 z1 l0
  have r1 : w2.cell? ⟨R, 1, none⟩ = some (.slice (some ⟨g, 0, none⟩) l.length cap) := cell_of_heap HX2.out
  have l0 := (Array.getElem?_eq_some_iff.1 HX2.out).1
  obtain ⟨cs, hcs, hcc⟩ := HO2.out.box
  have hfld : cs[i * 8 + 7]? = some (.int .i64 x.ready) := hcc _ _ ((rcs_at Hx.out 7 (by omega)).trans rfl)
  have hcall := late1_any g (i * 8) B late x.ready cs w2 hcs hfld (cell_mono hBc HB2.out)
  clear hcs hcc hfld
  go_wp2_with fail
  refine hcall.mono ?_
  rintro e w3 ⟨rfl, hw3⟩
  have HX3 := hid (past_set (o := i * 8 + 7) (u := .int .i64 late) (show R ≠ g by have := HG.out; omega) HX2.out)
  have HL3 := hid (past_set (o := i * 8 + 7) (u := .int .i64 late) (show R + 1 ≠ g by have := HG.out; omega) HL2.out)
  have HB3 := hid (bl_set HB2.out (o := i * 8 + 7) (.int .i64 late) HG.out.2)
  have HO3 := hid (HO2.out.set (x' := { x with ready := late }) Hx.out (show 7 < 8 by omega) (u := .int .i64 late) (by rfl))
  rw [← hw3] at HX3 HL3 HB3 HO3
  clear hw3 hcall HX2 HL2 HB2 HO2 r1 l0
  have r0 : w3.cell? ⟨R, 0, none⟩ = some (.int .i64 days) := cell_of_heap HX3.out
  have r1 : w3.cell? ⟨R, 1, none⟩ = some (.slice (some ⟨g, 0, none⟩) l.length cap) := cell_of_heap HX3.out
  have l0 := (Array.getElem?_eq_some_iff.1 HX3.out).1
  have s0 : w3.cell? ⟨R + 1, 0, none⟩ = some (.int .i64 0) := cell_of_heap HL3.out
  have s1 : w3.cell? ⟨R + 1, 1, none⟩ = some (.slice none 0 0) := cell_of_heap HL3.out
  have z0 : w3.frozen? ⟨R + 1, 0, none⟩ = false := frozen_of_heap HL3.out
  have z1 : w3.frozen? ⟨R + 1, 1, none⟩ = false := frozen_of_heap HL3.out
  have sl := (Array.getElem?_eq_some_iff.1 HL3.out).1
  have h4 : ((w3.setCell ⟨R + 1, 0, none⟩ (.int .i64 days)).setCell ⟨R + 1, 1, none⟩ (.slice (some ⟨g, 0, none⟩) l.length cap)).heap[R + 1]? = some (.cells #[.int .i64 days, .slice (some ⟨g, 0, none⟩) l.length cap] 24 (0, 0)) := by
    have h5 : (w3.setCell ⟨R + 1, 0, none⟩ (.int .i64 days)).heap[R + 1]? = some (.cells #[.int .i64 days, .slice none 0 0] 24 (0, 0)) := by rw [heap_setCell_same _ _ _ _ _ _ HL3.out]; rfl
    rw [heap_setCell_same _ _ _ _ _ _ h5]; rfl
  have HH4 := hid h4
  have hr1 : w.heap.size ≤ R + 1 := by have := HRB.out; omega
  have HB4 := hid (bl_set (bl_set HB3.out (o := 0) (.int .i64 days) hr1) (o := 1) (.slice (some ⟨g, 0, none⟩) l.length cap) hr1)
  have HO4 : Hid (OwnR ((w3.setCell ⟨R + 1, 0, none⟩ (.int .i64 days)).setCell ⟨R + 1, 1, none⟩ (.slice (some ⟨g, 0, none⟩) l.length cap)) g (l.set i { x with ready := late })) := by
    obtain ⟨cs, h1, h2⟩ := HO3.out.box
    have hne : g ≠ R + 1 := by have := HG.out; omega
    exact ⟨⟨cs, past_set hne (past_set hne h1), h2⟩⟩
  clear h4 hr1
  go_wp2
  obtain ⟨w4, hw4⟩ : ∃ w4, (w3.setCell ⟨R + 1, 0, none⟩ (.int .i64 days)).setCell ⟨R + 1, 1, none⟩ (.slice (some ⟨g, 0, none⟩) l.length cap) = w4 := ⟨_, rfl⟩
  rw [hw4] at HH4 HB4 HO4 ⊢
  have t0 : w4.cell? ⟨R + 1, 0, none⟩ = some (.int .i64 days) := cell_of_heap HH4.out
  have t1 : w4.cell? ⟨R + 1, 1, none⟩ = some (.slice (some ⟨g, 0, none⟩) l.length cap) := cell_of_heap HH4.out
  have tl := (Array.getElem?_eq_some_iff.1 HH4.out).1
  refine bodyPost_ret (v := .agg #[.int .i64 days, .slice (some ⟨g, 0, none⟩) l.length cap]) (by simp [results, Try.results76, go_sem, t0, t1, tl]) rfl ⟨⟨_, rfl, ?_⟩, HB4.out⟩
  have h := HO4.out.rchs (cap := cap) (by rw [List.length_set]; exact hcap)
  rw [List.length_set] at h
  exact h

end Go.Proofs.Ytbnmjbmlejifcaa
