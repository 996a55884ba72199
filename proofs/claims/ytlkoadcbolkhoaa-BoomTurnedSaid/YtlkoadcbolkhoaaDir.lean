/- The direction from a cell to a neighbour, or over an edge: the walk. -/
import Derived.Test.YtlkoadcbolkhoaaAround
import Derived.Test.YtlkoadcbolkhoaaFlow
set_option linter.all false
namespace Go.Proofs.Ytlkoadcbolkhoaa
open Go Go.RowKit Go.Proofs
attribute [local go_sem] Oper.semAt_some cell_grow frozen_grow

def dirM (wd hg a b d : Int) : Bool := ((nbr wd hg a d == b) && decide (0 ≤ b)) || (decide (nbr wd hg a d < 0) && (b == -1 - d))
def dirV (wd hg a b : Int) : Int := if dirM wd hg a b 0 = true then 0 else if dirM wd hg a b 1 = true then 1 else if dirM wd hg a b 2 = true then 2 else if dirM wd hg a b 3 = true then 3 else -1
theorem dirV_at {wd hg a b : Int} {k : Nat} (hk : k < 4) (h : ∀ j : Nat, j < k → dirM wd hg a b (j : Int) = false) (hm : dirM wd hg a b (k : Int) = true) : dirV wd hg a b = (k : Int) := by
  have h0 := h 0; have h1 := h 1; have h2 := h 2
  obtain rfl | rfl | rfl | rfl : k = 0 ∨ k = 1 ∨ k = 2 ∨ k = 3 := by omega
  all_goals simp at h0 h1 h2 hm
  all_goals simp [dirV, *]
theorem dirV_none {wd hg a b : Int} (h : ∀ j : Nat, j < 4 → dirM wd hg a b (j : Int) = false) : dirV wd hg a b = -1 := by
  have h0 := h 0; have h1 := h 1; have h2 := h 2; have h3 := h 3
  simp at h0 h1 h2 h3
  simp [dirV, *]

structure DirSt (w : World) (RP MB : Nat) (wd hg : Int) (sw sk : Value) (want keep : List Int) (m : Int) (u : Used) (TB SB : Nat) (b r : Int) (W : World) : Prop where
  ra : RaftAt W RP MB wd hg sw sk want keep m u
  tb : W.heap[TB]? = some (.cells #[.int .i64 b] 3 (0, 0))
  sb : W.heap[SB]? = some (.cells #[.int .i64 r] 3 (0, 0))
  old : Below w.heap.size w W
theorem DirSt.stable {w : World} {RP MB : Nat} {wd hg : Int} {sw sk : Value} {want keep : List Int} {m : Int} {u : Used} {TB SB : Nat} {b r : Int} : Stable w.heap.size (DirSt w RP MB wd hg sw sk want keep m u TB SB b r) :=
  ⟨fun W W' h hb => ⟨h.ra.mono hb, heap_mono h.tb hb, heap_mono h.sb hb, bl_trans h.old hb⟩, fun W r x o h hr hx hx1 hx2 hl => ⟨h.ra.put hr hx hx2, heap_put h.tb rfl hr hx, heap_put h.sb rfl hr hx, below_put h.old hl⟩⟩
theorem DirSt.setS {w W : World} {RP MB : Nat} {wd hg : Int} {sw sk : Value} {want keep : List Int} {m : Int} {u : Used} {b r : Int} (h : DirSt w RP MB wd hg sw sk want keep m u w.heap.size (w.heap.size + 1) b r W) (hR : RaftAt w RP MB wd hg sw sk want keep m u) (r' : Int) : DirSt w RP MB wd hg sw sk want keep m u w.heap.size (w.heap.size + 1) b r' (W.setCell ⟨w.heap.size + 1, 0, none⟩ (.int .i64 r')) := by
  have hb := bl_set (o := 0) h.old (.int .i64 r') (show w.heap.size ≤ w.heap.size + 1 by omega)
  exact ⟨hR.mono hb, past_set (by omega) h.tb, set_one h.sb _, hb⟩
theorem Stable.and {base : Nat} {J : World → Prop} {p : Prop} (h : Stable base J) : Stable base fun W => J W ∧ p :=
  ⟨fun W W' k hb => ⟨h.mono W W' k.1 hb, k.2⟩, fun W r x o k hr hx h1 h2 hl => ⟨h.put W r x o k.1 hr hx h1 h2 hl, k.2⟩⟩

set_option maxRecDepth 100000 in
set_option maxHeartbeats 8000000 in
theorem dir_any {RP MB : Nat} {wd hg : Int} {sw sk : Value} {want keep : List Int} {m : Int} {u : Used} (a b : Int) (w : World) (hR : RaftAt w RP MB wd hg sw sk want keep m u) (h1 : 1 ≤ wd ∧ wd ≤ 8) (h2 : 1 ≤ hg ∧ hg ≤ 8) (ha : inP wd hg a) :
    Calls Try.prog 102 #[.pointer (some ⟨RP, 0, none⟩), .int .i64 a, .int .i64 b] w fun e w' => e = .returned (.int .i64 (dirV wd hg a b)) ∧ Below w.heap.size w w' := by
  have b0 := bl_alloc (bl_refl w) (.cells #[.int .i64 b] 3)
  have b1 := bl_alloc (bl_refl (w.alloc (.cells #[.int .i64 b] 3))) (.cells #[.int .i64 0] 3)
  have k0 := heap_mono (World.alloc_heap_new w (.cells #[.int .i64 b] 3)) b1
  have k1 := World.alloc_heap_new (w.alloc (.cells #[.int .i64 b] 3)) (.cells #[.int .i64 0] 3)
  rw [World.size_alloc] at k1
  have hb2 := bl_trans b0 b1
  have HD := hid (show DirSt w RP MB wd hg sw sk want keep m u w.heap.size (w.heap.size + 1) b 0 _ from ⟨hR.mono hb2, k0, k1, hb2⟩)
  have HR0 := hid hR
  clear b0 b1 k0 k1 hb2 hR
  refine calls_marks Try.func102 rfl ?_
  simp only [Try.ntmps102, List.size_toArray, List.length_cons, List.length_nil, Nat.reduceAdd, Nat.reduceSub, Array.replicate_succ, Array.replicate_zero, List.push_toArray, List.append_toArray, List.nil_append, List.cons_append]
  go_upto_region 1 with (fail)
  obtain ⟨w1, hw1⟩ : ∃ w1, (w.alloc (.cells #[.int .i64 b] 3)).alloc (.cells #[.int .i64 0] 3) = w1 := ⟨_, rfl⟩
  rw [hw1] at HD ⊢
  clear hw1
  go_wp2_with fail
  refine (around_any RP a w1).mono ?_
  rintro e w2 ⟨rfl, hw2⟩
  have bA := bl_alloc (bl_refl w1) (.cells #[.pointer (some ⟨RP, 0, none⟩)] 87)
  have bB := bl_alloc (bl_refl (w1.alloc (.cells #[.pointer (some ⟨RP, 0, none⟩)] 87))) (.cells #[.int .i64 a] 3)
  have e1 := heap_mono (World.alloc_heap_new w1 (.cells #[.pointer (some ⟨RP, 0, none⟩)] 87)) bB
  have e2 := World.alloc_heap_new (w1.alloc (.cells #[.pointer (some ⟨RP, 0, none⟩)] 87)) (.cells #[.int .i64 a] 3)
  rw [World.size_alloc] at e2
  have b3 := bl_trans bA bB
  rw [← hw2] at e1 e2 b3
  have hsb := (Array.getElem?_eq_some_iff.1 HD.out.sb).1
  have HD2 := hid (DirSt.stable.mono w1 w2 HD.out b3)
  obtain ⟨Z, hZ⟩ : ∃ Z, w1.heap.size = Z := ⟨_, rfl⟩
  rw [hZ] at e1 e2 hsb ⊢
  clear hw2 bA bB b3 HD hZ
  go_wp2
  refine wp_range_around (base := w.heap.size) (RP := RP) [w.heap.size + 1] rfl rfl h1 h2 ha e2 e1 (by simp; omega) (by simp; omega)
    (fun k W => DirSt w RP MB wd hg sw sk want keep m u w.heap.size (w.heap.size + 1) b 0 W ∧ ∀ j : Nat, j < k → dirM wd hg a b (j : Int) = false)
    (fun W => DirSt w RP MB wd hg sw sk want keep m u w.heap.size (w.heap.size + 1) b (dirV wd hg a b) W)
    (fun k => DirSt.stable.and) DirSt.stable HD2.out.old.size (fun k W h => ⟨h.1.ra.c0, h.1.ra.c1⟩) ?hbs ⟨HD2.out, fun j hj => absurd hj (Nat.not_lt_zero _)⟩ ?_ ?assign ?body ?done ?stop
  case hbs =>
    intro k W h bb hbb
    rw [List.mem_singleton] at hbb
    subst hbb
    exact ⟨_, h.1.sb, (fun cs e => by cases e), (fun r e => by cases e), (fun z e => by cases e)⟩
  case assign =>
    intro l d t W K hK
    gi_wp2
    exact hK
  case body =>
    rintro l k W hk rfl ⟨hd, hno⟩ ⟨r, hr⟩ hdd
    have t0 : W.cell? ⟨w.heap.size, 0, none⟩ = some (.int .i64 b) := cell_of_heap hd.tb
    have s0 : W.cell? ⟨w.heap.size + 1, 0, none⟩ = some (.int .i64 0) := cell_of_heap hd.sb
    have sf : W.frozen? ⟨w.heap.size + 1, 0, none⟩ = false := frozen_of_heap hd.sb
    have tl := (Array.getElem?_eq_some_iff.1 hd.tb).1
    have sl := (Array.getElem?_eq_some_iff.1 hd.sb).1
    obtain ⟨q, hq⟩ : ∃ q, nbr wd hg a (k : Int) = q := ⟨_, rfl⟩
    have hsub : IntKind.i64.wrap (-1 - (k : Int)) = -1 - (k : Int) := IntWalk.i64_in _ (by omega)
    have HDD := hid hd
    have HNO := hid hno
    have HQ := hid hq
    have HR := hid hr
    have HDF := hid hdd
    rw [hq]
    cases hm : dirM wd hg a b (k : Int) with
    | true =>
      have hval := dirV_at hk hno hm
      have HV := hid hval
      have HST := hid (hd.setS HR0.out (k : Int))
      unfold dirM at hm
      rw [hq] at hm
      clear hd hno hq hr hdd hval
      cases e1 : (q == b) <;> cases e2 : decide (0 ≤ b) <;> cases e3 : decide (q < 0) <;> cases e4 : (b == -1 - (k : Int)) <;> rw [e1, e2, e3, e4] at hm <;> first | (exfalso; revert hm; decide) | skip
      all_goals (
        clear hm
        gi_wp2
        refine ⟨OnlyB.set (by rw [List.mem_singleton]), ?_⟩
        rw [HV.out]; exact HST.out)
    | false =>
      have hno2 := hid (show ∀ j : Nat, j < k + 1 → dirM wd hg a b (j : Int) = false from fun j hj => by
        by_cases e : j = k
        · subst e; exact hm
        · exact hno j (by omega))
      unfold dirM at hm
      rw [hq] at hm
      clear hd hno hq hr hdd
      cases e1 : (q == b) <;> cases e2 : decide (0 ≤ b) <;> cases e3 : decide (q < 0) <;> cases e4 : (b == -1 - (k : Int)) <;> rw [e1, e2, e3, e4] at hm <;> first | (exfalso; revert hm; decide) | skip
      all_goals (
        clear hm
        gi_wp2
        exact ⟨OnlyB.refl _ _, HDD.out, hno2.out⟩)
  case done =>
    rintro W ⟨hd, hno⟩ hdd
    have hv := dirV_none hno
    have s0 : W.cell? ⟨w.heap.size + 1, 0, none⟩ = some (.int .i64 0) := cell_of_heap hd.sb
    have sf : W.frozen? ⟨w.heap.size + 1, 0, none⟩ = false := frozen_of_heap hd.sb
    have sl := (Array.getElem?_eq_some_iff.1 hd.sb).1
    have HD3 := hid (hd.setS HR0.out (-1))
    have HV := hid hv
    have HDF := hid (past_set (B := w.heap.size + 1) (o := 0) (u := .int .i64 (-1)) (show w2.heap.size ≠ w.heap.size + 1 by have := HD2.out.sb; have := (Array.getElem?_eq_some_iff.1 this).1; omega) hdd)
    have hle := HD2.out.old.size
    clear hd hno hdd hv
    go_wp2
    refine leave_many (v := .int .i64 (dirV wd hg a b)) (base := w.heap.size) _ rfl (MarksOk.push (w := w2) (base := w.heap.size) (ds := []) trivial trivial (Nat.le_refl _) hle HDF.out) (.refl _) fun W' hW' => ?_
    have c0 := cell_of_heap (i := 0) (hW'.cells HD3.out.sb)
    refine ⟨?_, rfl, hW'.bl HD3.out.old (Nat.le_refl _)⟩
    rw [HV.out]
    simp [results, Try.results102, go_sem, c0]
  case stop =>
    rintro W hd hdd
    have hle := HD2.out.old.size
    go_wp2
    refine leave_many (v := .int .i64 (dirV wd hg a b)) (base := w.heap.size) _ rfl (MarksOk.push (w := w2) (base := w.heap.size) (ds := []) trivial trivial (Nat.le_refl _) hle hdd) (.refl _) fun W' hW' => ?_
    have c0 := cell_of_heap (i := 0) (hW'.cells hd.sb)
    refine ⟨?_, rfl, hW'.bl hd.old (Nat.le_refl _)⟩
    simp [results, Try.results102, go_sem, c0]
end Go.Proofs.Ytlkoadcbolkhoaa
