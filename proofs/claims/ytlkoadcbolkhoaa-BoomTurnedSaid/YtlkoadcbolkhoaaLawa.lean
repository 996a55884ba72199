/- The laws' small helpers: ponds, ways, chains, two lists compared, what is too great: the walks. -/
import Derived.Test.YtlkoadcbolkhoaaRhas
import Derived.Test.YtlkoadcbolkhoaaWaysi
set_option linter.all false
namespace Go.Proofs.Ytlkoadcbolkhoaa
open Go Go.RowKit Go.Proofs
attribute [local go_sem] cell_grow frozen_grow

theorem of_any (v : Value) (w : World) : Calls Try.prog 59 #[v] w fun e w' => e = .returned v ∧ w' = w := by
  go_enter Try.func59, Try.ntmps59
  go_wp2
  go_ret
  exact ⟨rfl, rfl⟩
theorem mkpond_any (wd hg : Int) (A B : Option Addr) (n1 ca n2 cb : Nat) (w : World) : Calls Try.prog 53 #[.int .i64 wd, .int .i64 hg, .slice A n1 ca, .slice B n2 cb] w fun e w' => e = .returned (.agg #[.int .i64 wd, .int .i64 hg, .slice A n1 ca, .slice B n2 cb]) ∧ Below w.heap.size w w' := by
  have k0 := World.alloc_heap_new w (.cells #[.int .i64 0, .int .i64 0, .slice none 0 0, .slice none 0 0] 24)
  have HB := hid (bl_alloc (bl_refl w) (.cells #[.int .i64 0, .int .i64 0, .slice none 0 0, .slice none 0 0] 24))
  have K0 := hid k0
  clear k0
  go_enter Try.func53, Try.ntmps53
  go_upto_region 1 with (fail)
  obtain ⟨w0, hw0⟩ : ∃ w0, w.alloc (.cells #[.int .i64 0, .int .i64 0, .slice none 0 0, .slice none 0 0] 24) = w0 := ⟨_, rfl⟩
  rw [hw0] at HB K0 ⊢
  clear hw0
  obtain ⟨X, hX⟩ : ∃ X, w.heap.size = X := ⟨_, rfl⟩
  have hwX : w.heap.size ≤ X := by omega
  rw [hX] at K0 ⊢
  clear hX
  have x0 : w0.cell? ⟨X, 0, none⟩ = some (.int .i64 0) := cell_of_heap K0.out
  have x1 : w0.cell? ⟨X, 1, none⟩ = some (.int .i64 0) := cell_of_heap K0.out
  have x2 : w0.cell? ⟨X, 2, none⟩ = some (.slice none 0 0) := cell_of_heap K0.out
  have x3 : w0.cell? ⟨X, 3, none⟩ = some (.slice none 0 0) := cell_of_heap K0.out
  have xf : ∀ i, w0.frozen? ⟨X, i, none⟩ = false := fun i => frozen_of_heap K0.out
  have xl := (Array.getElem?_eq_some_iff.1 K0.out).1
  have h1 : (w0.setCell ⟨X, 0, none⟩ (.int .i64 wd)).heap[X]? = some (.cells #[.int .i64 wd, .int .i64 0, .slice none 0 0, .slice none 0 0] 24 (0, 0)) := by rw [heap_setCell_same _ _ _ _ _ _ K0.out]; rfl
  have h2 : ((w0.setCell ⟨X, 0, none⟩ (.int .i64 wd)).setCell ⟨X, 1, none⟩ (.int .i64 hg)).heap[X]? = some (.cells #[.int .i64 wd, .int .i64 hg, .slice none 0 0, .slice none 0 0] 24 (0, 0)) := by rw [heap_setCell_same _ _ _ _ _ _ h1]; rfl
  have h3 : (((w0.setCell ⟨X, 0, none⟩ (.int .i64 wd)).setCell ⟨X, 1, none⟩ (.int .i64 hg)).setCell ⟨X, 2, none⟩ (.slice A n1 ca)).heap[X]? = some (.cells #[.int .i64 wd, .int .i64 hg, .slice A n1 ca, .slice none 0 0] 24 (0, 0)) := by rw [heap_setCell_same _ _ _ _ _ _ h2]; rfl
  have h4 : ((((w0.setCell ⟨X, 0, none⟩ (.int .i64 wd)).setCell ⟨X, 1, none⟩ (.int .i64 hg)).setCell ⟨X, 2, none⟩ (.slice A n1 ca)).setCell ⟨X, 3, none⟩ (.slice B n2 cb)).heap[X]? = some (.cells #[.int .i64 wd, .int .i64 hg, .slice A n1 ca, .slice B n2 cb] 24 (0, 0)) := by rw [heap_setCell_same _ _ _ _ _ _ h3]; rfl
  have HS := hid h4
  have bb := hid (bl_set (bl_set (bl_set (bl_set HB.out (o := 0) (.int .i64 wd) hwX) (o := 1) (.int .i64 hg) hwX) (o := 2) (.slice A n1 ca) hwX) (o := 3) (.slice B n2 cb) hwX)
  clear h1 h2 h3 h4
  go_wp2
  have c0 := cell_of_heap (i := 0) HS.out
  have c1 := cell_of_heap (i := 1) HS.out
  have c2 := cell_of_heap (i := 2) HS.out
  have c3 := cell_of_heap (i := 3) HS.out
  refine bodyPost_ret (v := .agg #[.int .i64 wd, .int .i64 hg, .slice A n1 ca, .slice B n2 cb]) (by simp [results, Try.results53, go_sem, c0, c1, c2, c3]) rfl ⟨rfl, bb.out⟩
theorem mkchain_any (x y : Int) (s : ByteArray) (w : World) : Calls Try.prog 58 #[.int .i64 x, .int .i64 y, .string s] w fun e w' => e = .returned (.agg #[.int .i64 x, .int .i64 y, .string s]) ∧ Below w.heap.size w w' := by
  have k0 := World.alloc_heap_new w (.cells #[.int .i64 0, .int .i64 0, .string ⟨#[]⟩] 45)
  have HB := hid (bl_alloc (bl_refl w) (.cells #[.int .i64 0, .int .i64 0, .string ⟨#[]⟩] 45))
  have K0 := hid k0
  clear k0
  go_enter Try.func58, Try.ntmps58
  go_upto_region 1 with (fail)
  obtain ⟨w0, hw0⟩ : ∃ w0, w.alloc (.cells #[.int .i64 0, .int .i64 0, .string ⟨#[]⟩] 45) = w0 := ⟨_, rfl⟩
  rw [hw0] at HB K0 ⊢
  clear hw0
  obtain ⟨X, hX⟩ : ∃ X, w.heap.size = X := ⟨_, rfl⟩
  have hwX : w.heap.size ≤ X := by omega
  rw [hX] at K0 ⊢
  clear hX
  have x0 : w0.cell? ⟨X, 0, none⟩ = some (.int .i64 0) := cell_of_heap K0.out
  have x1 : w0.cell? ⟨X, 1, none⟩ = some (.int .i64 0) := cell_of_heap K0.out
  have x2 : w0.cell? ⟨X, 2, none⟩ = some (.string ⟨#[]⟩) := cell_of_heap K0.out
  have xf : ∀ i, w0.frozen? ⟨X, i, none⟩ = false := fun i => frozen_of_heap K0.out
  have xl := (Array.getElem?_eq_some_iff.1 K0.out).1
  have h1 : (w0.setCell ⟨X, 0, none⟩ (.int .i64 x)).heap[X]? = some (.cells #[.int .i64 x, .int .i64 0, .string ⟨#[]⟩] 45 (0, 0)) := by rw [heap_setCell_same _ _ _ _ _ _ K0.out]; rfl
  have h2 : ((w0.setCell ⟨X, 0, none⟩ (.int .i64 x)).setCell ⟨X, 1, none⟩ (.int .i64 y)).heap[X]? = some (.cells #[.int .i64 x, .int .i64 y, .string ⟨#[]⟩] 45 (0, 0)) := by rw [heap_setCell_same _ _ _ _ _ _ h1]; rfl
  have h3 : (((w0.setCell ⟨X, 0, none⟩ (.int .i64 x)).setCell ⟨X, 1, none⟩ (.int .i64 y)).setCell ⟨X, 2, none⟩ (.string s)).heap[X]? = some (.cells #[.int .i64 x, .int .i64 y, .string s] 45 (0, 0)) := by rw [heap_setCell_same _ _ _ _ _ _ h2]; rfl
  have HS := hid h3
  have bb := hid (bl_set (bl_set (bl_set HB.out (o := 0) (.int .i64 x) hwX) (o := 1) (.int .i64 y) hwX) (o := 2) (.string s) hwX)
  clear h1 h2 h3
  go_wp2
  have c0 := cell_of_heap (i := 0) HS.out
  have c1 := cell_of_heap (i := 1) HS.out
  have c2 := cell_of_heap (i := 2) HS.out
  refine bodyPost_ret (v := .agg #[.int .i64 x, .int .i64 y, .string s]) (by simp [results, Try.results58, go_sem, c0, c1, c2]) rfl ⟨rfl, bb.out⟩
theorem mkway_any (o : Int) (A : Option Addr) (n cc : Nat) (w : World) : Calls Try.prog 60 #[.int .i64 o, .slice A n cc] w fun e w' => e = .returned (.agg #[.slice A n cc, .int .i64 o]) ∧ Below w.heap.size w w' := by
  have k0 := World.alloc_heap_new w (.cells #[.slice none 0 0, .int .i64 0] 81)
  have HB := hid (bl_alloc (bl_refl w) (.cells #[.slice none 0 0, .int .i64 0] 81))
  have K0 := hid k0
  clear k0
  go_enter Try.func60, Try.ntmps60
  go_upto_region 1 with (fail)
  obtain ⟨w0, hw0⟩ : ∃ w0, w.alloc (.cells #[.slice none 0 0, .int .i64 0] 81) = w0 := ⟨_, rfl⟩
  rw [hw0] at HB K0 ⊢
  clear hw0
  obtain ⟨X, hX⟩ : ∃ X, w.heap.size = X := ⟨_, rfl⟩
  have hwX : w.heap.size ≤ X := by omega
  rw [hX] at K0 ⊢
  clear hX
  have x0 : w0.cell? ⟨X, 0, none⟩ = some (.slice none 0 0) := cell_of_heap K0.out
  have x1 : w0.cell? ⟨X, 1, none⟩ = some (.int .i64 0) := cell_of_heap K0.out
  have xf : ∀ i, w0.frozen? ⟨X, i, none⟩ = false := fun i => frozen_of_heap K0.out
  have xl := (Array.getElem?_eq_some_iff.1 K0.out).1
  have h1 : (w0.setCell ⟨X, 0, none⟩ (.slice A n cc)).heap[X]? = some (.cells #[.slice A n cc, .int .i64 0] 81 (0, 0)) := by rw [heap_setCell_same _ _ _ _ _ _ K0.out]; rfl
  have h2 : ((w0.setCell ⟨X, 0, none⟩ (.slice A n cc)).setCell ⟨X, 1, none⟩ (.int .i64 o)).heap[X]? = some (.cells #[.slice A n cc, .int .i64 o] 81 (0, 0)) := by rw [heap_setCell_same _ _ _ _ _ _ h1]; rfl
  have HS := hid h2
  have bb := hid (bl_set (bl_set HB.out (o := 0) (.slice A n cc) hwX) (o := 1) (.int .i64 o) hwX)
  clear h1 h2
  go_wp2
  have c0 := cell_of_heap (i := 0) HS.out
  have c1 := cell_of_heap (i := 1) HS.out
  refine bodyPost_ret (v := .agg #[.slice A n cc, .int .i64 o]) (by simp [results, Try.results60, go_sem, c0, c1]) rfl ⟨rfl, bb.out⟩
theorem ret_bool {a b : Bool} (h : a = b) : Ending.returned (.bool a) = .returned (.bool b) := by rw [h]
theorem ints_some {w : World} {s : Value} {l : List Int} (h : Ints w s l) (hl : 1 ≤ l.length) : ∃ b off c, s = .slice (some ⟨b, off, none⟩) l.length c ∧ l.length ≤ c ∧ b < w.heap.size ∧ ∀ i x, l[i]? = some x → w.cell? ⟨b, off + i, none⟩ = some (.int .i64 x) := by
  rcases h with ⟨_, rfl⟩ | h
  · simp at hl
  · exact h
theorem ints_any (a b : List Int) (sa sb : Value) (w : World) (hal : a.length ≤ 1000) (ha : Ints w sa a) (hb : Ints w sb b) : Calls Try.prog 32 #[sa, sb] w fun e w' => e = .returned (.bool (decide (a = b))) ∧ Below w.heap.size w w' := by
  obtain ⟨A, c, rfl⟩ := ha.slice
  obtain ⟨A2, c2, rfl⟩ := hb.slice
  by_cases hl : a.length = b.length
  case neg =>
    have d1 : ((a.length : Int) != (b.length : Int)) = true := by simp; omega
    have e1 := hid (show decide (a = b) = false by simp only [decide_eq_false_iff_not]; intro h; exact hl (by rw [h]))
    clear hl ha hb
    go_enter Try.func32, Try.ntmps32
    go_wp2
    go_ret
    exact ⟨ret_bool e1.out.symm, bl_refl _⟩
  have d1 : ((a.length : Int) != (b.length : Int)) = false := by simp [hl]
  have HL := hid hl
  have HA := hid ha
  have HB := hid hb
  clear hl ha hb
  go_enter Try.func32, Try.ntmps32
  go_wp2
  go_loopw [5] (fun p wr => ∃ k : Nat, k ≤ a.length ∧ p = .int .i64 k ∧ (∀ i, i < k → a[i]? = b[i]?) ∧ Below w.heap.size w wr) (fun p _ => a.length - (intOf p).toNat)
  case atStart => exact ⟨0, Nat.zero_le _, rfl, fun i h => by omega, bl_refl _⟩
  case round =>
    obtain ⟨k, hk, rfl, hall, hB⟩ := hrel
    have HALL := Lib.hid hall
    clear hall
    by_cases hlt : k < a.length
    · obtain ⟨x, hx⟩ := get_at hlt
      obtain ⟨y, hy⟩ := get_at (l := b) (k := k) (by rw [← HL.out]; exact hlt)
      obtain ⟨b1, o1, c1', e5, _, hb1, hc1⟩ := ints_some HA.out (by omega)
      simp only [Value.slice.injEq, true_and] at e5
      obtain ⟨rfl, rfl⟩ := e5
      obtain ⟨b2, o2, c2', e5, _, hb2, hc2⟩ := ints_some HB.out (by rw [← HL.out]; omega)
      simp only [Value.slice.injEq, true_and] at e5
      obtain ⟨rfl, rfl⟩ := e5
      have q1 := cell_mono (hc1 k x hx) hB
      have q2 := cell_mono (hc2 k y hy) hB
      have hkI : (k : Int) < (a.length : Int) := by omega
      have hkI2 : (k : Int) < (b.length : Int) := by rw [← HL.out]; omega
      have s1 : b1 < wr.heap.size := by have := hB.size; omega
      have s2 : b2 < wr.heap.size := by have := hB.size; omega
      have Hx := hid hx
      have Hy := hid hy
      have HBB := hid hB
      clear hc1 hc2 hx hy hB
      go_upto_region 6 with (fail)
      by_cases hxy : x = y
      · have d2 : (x != y) = false := by simp [hxy]
        have hn2 : Hid (∀ i, i < k + 1 → a[i]? = b[i]?) := by
          intro i hi
          by_cases e : i = k
          · subst e; rw [Hx.out, Hy.out, hxy]
          · exact HALL.out i (by omega)
        clear hxy
        refine wp_region_below (by kernel_rfl) (by kernel_rfl) ?_
        repeat (first | go_big_quiet_step (fail) | quiet_step (fail))
        refine wpQuiet_nil ?_
        intro w4 hb4
        have HB4 := hid (bl_trans HBB.out hb4)
        clear q1 q2 s1 s2 hb4
        go_wp2
        go_roundw
        case rel => exact ⟨k + 1, by omega, by go_num, hn2.out, HB4.out⟩
        case measure => simp [intOf]; omega
      · have d2 : (x != y) = true := by simp [hxy]
        have e1 := hid (show decide (a = b) = false by
          simp only [decide_eq_false_iff_not]; intro h
          have h1 := Hx.out
          rw [h, Hy.out] at h1
          injection h1 with h1
          exact hxy h1.symm)
        clear hxy
        refine wp_region_below (by kernel_rfl) (by kernel_rfl) ?_
        repeat (first | go_big_quiet_step (fail) | quiet_step (fail))
        refine wpQuiet_nil ?_
        intro w4 hb4
        have HB4 := hid (bl_trans HBB.out hb4)
        clear q1 q2 s1 s2 hb4
        go_wp2
        go_ret
        exact ⟨ret_bool e1.out.symm, HB4.out⟩
    · obtain rfl : k = a.length := by omega
      have e1 := hid (show decide (a = b) = true by
        simp only [decide_eq_true_eq]
        apply List.ext_getElem?
        intro i
        by_cases hi : i < a.length
        · exact HALL.out i hi
        · rw [List.getElem?_eq_none (by omega), List.getElem?_eq_none (by rw [← HL.out]; omega)])
      go_wp2
      go_ret
      exact ⟨ret_bool e1.out.symm, hB⟩
def greatB (want keep : List Int) : Bool := decide (70 < want.length) || decide (70 < keep.length)
theorem great_any {wd hg : Int} {sw sk : Value} {want keep : List Int} (w : World) (hw : Ints w sw want) (hk : Ints w sk keep) :
    Calls Try.prog 17 #[.agg #[.int .i64 wd, .int .i64 hg, sw, sk]] w fun e w' => e = .returned (.bool (greatB want keep)) ∧ Below w.heap.size w w' := by
  obtain ⟨A, c, rfl⟩ := hw.slice
  obtain ⟨B, d, rfl⟩ := hk.slice
  have HB := hid (bl_alloc (bl_refl w) (.cells #[.int .i64 wd, .int .i64 hg, .slice A want.length c, .slice B keep.length d] 24))
  clear hw hk
  by_cases h1 : 70 < want.length
  · have t1 : decide ((70 : Int) < (want.length : Int)) = true := decide_eq_true (by omega)
    have e : greatB want keep = true := by unfold greatB; rw [decide_eq_true h1]; rfl
    rw [e]
    clear h1
    go_enter Try.func17, Try.ntmps17
    go_wp2
    go_ret
    exact ⟨rfl, HB.out⟩
  have t1 : decide ((70 : Int) < (want.length : Int)) = false := decide_eq_false (by omega)
  by_cases h2 : 70 < keep.length
  · have t2 : decide ((70 : Int) < (keep.length : Int)) = true := decide_eq_true (by omega)
    have e : greatB want keep = true := by unfold greatB; rw [decide_eq_true h2, Bool.or_true]
    rw [e]
    clear h1 h2
    go_enter Try.func17, Try.ntmps17
    go_wp2
    go_ret
    exact ⟨rfl, HB.out⟩
  · have t2 : decide ((70 : Int) < (keep.length : Int)) = false := decide_eq_false (by omega)
    have e : greatB want keep = false := by unfold greatB; rw [decide_eq_false h1, decide_eq_false h2]; rfl
    rw [e]
    clear h1 h2
    go_enter Try.func17, Try.ntmps17
    go_wp2
    go_ret
    exact ⟨rfl, HB.out⟩
theorem great_no {want keep : List Int} (h : greatB want keep = false) : want.length ≤ 70 ∧ keep.length ≤ 70 := by
  unfold greatB at h
  rw [Bool.or_eq_false_iff] at h
  have a := of_decide_eq_false h.1
  have b := of_decide_eq_false h.2
  omega
def fineB (wd hg : Int) (want keep : List Int) : Bool := !greatB want keep && decide (pondE wd hg want keep = 0)
theorem fine_any {wd hg : Int} {sw sk : Value} {want keep : List Int} (w : World) (hw : Ints w sw want) (hk : Ints w sk keep) :
    Calls Try.prog 45 #[.agg #[.int .i64 wd, .int .i64 hg, sw, sk]] w fun e w' => e = .returned (.bool (fineB wd hg want keep)) ∧ Below w.heap.size w w' := by
  have k0 := World.alloc_heap_new w (.cells #[.int .i64 wd, .int .i64 hg, sw, sk] 24)
  have hb0 := bl_alloc (bl_refl w) (.cells #[.int .i64 wd, .int .i64 hg, sw, sk] 24)
  have HB0 := hid hb0
  have HK0 := hid k0
  have HW := hid (hw.mono hb0)
  have HKp := hid (hk.mono hb0)
  obtain ⟨A, c, rfl⟩ := hw.slice
  obtain ⟨B, d, rfl⟩ := hk.slice
  clear hw hk hb0 k0
  obtain ⟨F, hF⟩ : ∃ F, fineB wd hg want keep = F := ⟨_, rfl⟩
  have HF := hid hF
  rw [hF]
  clear hF
  go_enter Try.func45, Try.ntmps45
  go_upto_region 1 with (fail)
  obtain ⟨w1, hw1⟩ : ∃ w1, w.alloc (.cells #[.int .i64 wd, .int .i64 hg, .slice A want.length c, .slice B keep.length d] 24) = w1 := ⟨_, rfl⟩
  obtain ⟨X, hX⟩ : ∃ X, w.heap.size = X := ⟨_, rfl⟩
  have HXs := hid hX
  rw [hX] at HK0 ⊢
  rw [hw1] at HB0 HK0 HW HKp ⊢
  clear hw1 hX
  have hcall := great_any (wd := wd) (hg := hg) w1 HW.out HKp.out
  obtain ⟨g, hg0⟩ : ∃ g, greatB want keep = g := ⟨_, rfl⟩
  have HG := hid hg0
  rw [hg0] at hcall
  have q0 : w1.cell? ⟨X, 0, none⟩ = some (.int .i64 wd) := cell_of_heap HK0.out
  have q1 : w1.cell? ⟨X, 1, none⟩ = some (.int .i64 hg) := cell_of_heap HK0.out
  have q2 : w1.cell? ⟨X, 2, none⟩ = some (.slice A want.length c) := cell_of_heap HK0.out
  have q3 : w1.cell? ⟨X, 3, none⟩ = some (.slice B keep.length d) := cell_of_heap HK0.out
  have ql := (Array.getElem?_eq_some_iff.1 HK0.out).1
  clear hg0
  go_wp2_with fail
  refine hcall.mono ?_
  rintro e w2 ⟨rfl, hb2⟩
  have HB2 := hid (bl_trans HB0.out hb2)
  have HK2 := hid (heap_mono HK0.out hb2)
  have HW2 := hid (HW.out.mono hb2)
  have HKp2 := hid (HKp.out.mono hb2)
  clear q0 q1 q2 q3 ql hcall hb2
  cases g with
  | true =>
    have e : F = false := by rw [← HF.out]; unfold fineB; rw [HG.out]; rfl
    subst e
    go_wp2
    go_ret
    exact ⟨rfl, HB2.out⟩
  | false =>
    have hgn := great_no HG.out
    have hcall := rpond_any (wd := wd) (hg := hg) w2 (by omega) (by omega) HW2.out HKp2.out
    obtain ⟨E, hE⟩ : ∃ E, pondE wd hg want keep = E := ⟨_, rfl⟩
    have he := hid (show F = decide (E = 0) by rw [← HF.out]; unfold fineB; rw [HG.out, hE]; rfl)
    rw [hE] at hcall
    have q0 : w2.cell? ⟨X, 0, none⟩ = some (.int .i64 wd) := cell_of_heap HK2.out
    have q1 : w2.cell? ⟨X, 1, none⟩ = some (.int .i64 hg) := cell_of_heap HK2.out
    have q2 : w2.cell? ⟨X, 2, none⟩ = some (.slice A want.length c) := cell_of_heap HK2.out
    have q3 : w2.cell? ⟨X, 3, none⟩ = some (.slice B keep.length d) := cell_of_heap HK2.out
    have ql := (Array.getElem?_eq_some_iff.1 HK2.out).1
    clear hE hgn
    go_wp2_with fail
    refine hcall.mono ?_
    rintro e w3 ⟨rfl, hb3⟩
    have HB3 := hid (bl_trans HB2.out hb3)
    clear q0 q1 q2 q3 ql hcall hb3
    have td : (E == 0) = F := by rw [he.out]; by_cases h : E = 0 <;> simp [h]
    go_wp2
    go_ret
    exact ⟨rfl, HB3.out⟩
end Go.Proofs.Ytlkoadcbolkhoaa
