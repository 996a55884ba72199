/- What the laws use: the walks. -/
import Derived.Test.YtbnmjbmlejifcaaRefplan
import Derived.Test.YtbnmjbmlejifcaaWorthi
set_option linter.all false
namespace Go.Proofs.Ytbnmjbmlejifcaa
open Go Go.RowKit Go.Proofs
attribute [local go_sem] cell_grow frozen_grow

theorem great_any (days : Int) (l : List Rch) (sr : Value) (w : World) (hs : Rchs w sr l) : Calls Try.prog 18 #[.agg #[.int .i64 days, sr]] w fun e w' => e = .returned (.bool (decide (15 < l.length))) ∧ Below w.heap.size w w' := by
  obtain ⟨A, c, rfl⟩ := hs.slice
  have hd : decide (15 < (l.length : Int)) = decide (15 < l.length) := by
    by_cases h : 15 < l.length
    · rw [decide_eq_true h, decide_eq_true (by omega)]
    · rw [decide_eq_false h, decide_eq_false (by omega)]
  have HD := hid hd
  clear hd
  go_enter Try.func18, Try.ntmps18
  go_wp2
  go_ret
  exact ⟨ret_bool HD.out, bl_alloc (bl_refl _) _⟩

def wideB (L : List (List Int)) : Bool := decide (15 < L.length) || L.any fun r => decide (50 < r.length)
theorem wide_any (L : List (List Int)) (s : Value) (w : World) (hs : Rows0 w s L) : Calls Try.prog 19 #[s] w fun e w' => e = .returned (.bool (wideB L)) ∧ w' = w := by
  obtain ⟨A, c, rfl⟩ := hs.slice
  by_cases h1 : 15 < L.length
  · have d1 : decide (15 < (L.length : Int)) = true := by simp; omega
    have e1 := hid (show wideB L = true by simp [wideB, h1])
    clear h1
    go_enter Try.func19, Try.ntmps19
    go_wp2
    go_ret
    exact ⟨ret_bool e1.out.symm, rfl⟩
  have d1 : decide (15 < (L.length : Int)) = false := by simp; omega
  have HS := hid hs
  have hl : L.length ≤ 15 := by omega
  clear hs h1
  go_enter Try.func19, Try.ntmps19
  go_wp2
  go_loop [3] (fun p => ∃ k : Nat, k ≤ L.length ∧ p = .int .i64 k ∧ ∀ (i : Nat) (r : List Int), i < k → L[i]? = some r → r.length ≤ 50) (fun p => L.length - (intOf p).toNat)
  case atStart => exact ⟨0, Nat.zero_le _, rfl, fun i r h => by omega⟩
  case round =>
    obtain ⟨k, hk, rfl, hall⟩ := hrel
    have HALL := Lib.hid hall
    clear hall
    by_cases hlt : k < L.length
    · obtain ⟨q, hq⟩ := get_at hlt
      obtain ⟨b, off, c', e5, hlc, hb, hcell⟩ := HS.out.some (by omega)
      simp only [Value.slice.injEq, true_and] at e5
      obtain ⟨rfl, rfl⟩ := e5
      obtain ⟨Av, cv, hv, hiv⟩ := hcell k q hq
      have hkI : (k : Int) < (L.length : Int) := by omega
      have Hq := hid hq
      clear hcell hq hiv
      by_cases h2 : 50 < q.length
      · have d2 : decide (50 < (q.length : Int)) = true := by simp; omega
        have e1 := hid (show wideB L = true by
          have : (L.any fun r => decide (50 < r.length)) = true := List.any_eq_true.2 ⟨q, List.mem_of_getElem? Hq.out, by simpa using h2⟩
          simp [wideB, this])
        clear h2
        go_wp2
        go_ret
        exact ⟨ret_bool e1.out.symm, rfl⟩
      · have d2 : decide (50 < (q.length : Int)) = false := by simp; omega
        have hn2 : Hid (∀ (i : Nat) (r : List Int), i < k + 1 → L[i]? = some r → r.length ≤ 50) := by
          intro i r hi hr
          by_cases e : i = k
          · subst e; have h := Hq.out; rw [hr] at h; injection h with h; subst h; omega
          · exact HALL.out i r (by omega) hr
        clear h2
        go_wp2
        go_round
        case rel => exact ⟨k + 1, by omega, by go_num, hn2.out⟩
        case measure => simp [intOf]; omega
    · obtain rfl : k = L.length := by omega
      have e1 := hid (show wideB L = false by
        have : (L.any fun r => decide (50 < r.length)) = false := by
          rw [List.any_eq_false]
          intro r hr
          obtain ⟨i, hi⟩ := List.getElem?_of_mem hr
          have := HALL.out i r (List.getElem?_eq_some_iff.1 hi).1 hi
          simp; omega
        simp [wideB, this]; omega)
      go_wp2
      go_ret
      exact ⟨ret_bool e1.out.symm, rfl⟩
theorem wide_no {L : List (List Int)} (h : wideB L = false) : L.length ≤ 15 ∧ ∀ r ∈ L, r.length ≤ 50 := by
  unfold wideB at h
  simp only [Bool.or_eq_false_iff, decide_eq_false_iff_not, List.any_eq_false, decide_eq_true_eq] at h
  exact ⟨by omega, fun r hr => by have := h.2 r hr; omega⟩

theorem longs_any (a b : List Int) (sa sb : Value) (w : World) (hal : a.length ≤ 1000) (ha : Ints w sa a) (hb : Ints w sb b) : Calls Try.prog 30 #[sa, sb] w fun e w' => e = .returned (.bool (decide (a = b))) ∧ Below w.heap.size w w' := by
  obtain ⟨A, c, rfl⟩ := ha.slice
  obtain ⟨A2, c2, rfl⟩ := hb.slice
  by_cases hl : a.length = b.length
  case neg =>
    have d1 : ((a.length : Int) != (b.length : Int)) = true := by simp; omega
    have e1 := hid (show decide (a = b) = false by simp only [decide_eq_false_iff_not]; intro h; exact hl (by rw [h]))
    clear hl ha hb
    go_enter Try.func30, Try.ntmps30
    go_wp2
    go_ret
    exact ⟨ret_bool e1.out.symm, bl_refl _⟩
  have d1 : ((a.length : Int) != (b.length : Int)) = false := by simp [hl]
  have HL := hid hl
  have HA := hid ha
  have HB := hid hb
  clear hl ha hb
  go_enter Try.func30, Try.ntmps30
  go_wp2
  go_loopw [5] (fun p wr => ∃ k : Nat, k ≤ a.length ∧ p = .int .i64 k ∧ (∀ i, i < k → a[i]? = b[i]?) ∧ Below w.heap.size w wr) (fun p _ => a.length - (intOf p).toNat)
  case atStart => exact ⟨0, Nat.zero_le _, rfl, fun i h => by omega, bl_refl _⟩
  case round =>
    obtain ⟨k, hk, rfl, hall, hB⟩ := hrel
    have HALL := Lib.hid hall
    clear hall
    by_cases hlt : k < a.length
    · obtain ⟨x, hx⟩ := get_at hlt
      obtain ⟨y, hy⟩ := get_at (l := b) (k := k) (by rw [← HL.out]; exact hlt)
      obtain ⟨b1, o1, c1', e5, _, hb1, hc1⟩ := HA.out.some (by omega)
      simp only [Value.slice.injEq, true_and] at e5
      obtain ⟨rfl, rfl⟩ := e5
      obtain ⟨b2, o2, c2', e5, _, hb2, hc2⟩ := HB.out.some (by rw [← HL.out]; omega)
      simp only [Value.slice.injEq, true_and] at e5
      obtain ⟨rfl, rfl⟩ := e5
      have q1 := cell_mono (hc1 k x hx) hB
      have q2 := cell_mono (hc2 k y hy) hB
      have hkI : (k : Int) < (a.length : Int) := by omega
      have hkI2 : (k : Int) < (b.length : Int) := by rw [← HL.out]; omega
      have s1 : b1 < wr.heap.size := by have := hB.size; omega
      have s2 : b2 < wr.heap.size := by have := hB.size; omega
      have Hx := hid hx
      have Hy := hid hy
      have HBB := hid hB
      clear hc1 hc2 hx hy hB
      go_upto_region 6 with (fail)
      by_cases hxy : x = y
      · have d2 : (x != y) = false := by simp [hxy]
        have hn2 : Hid (∀ i, i < k + 1 → a[i]? = b[i]?) := by
          intro i hi
          by_cases e : i = k
          · subst e; rw [Hx.out, Hy.out, hxy]
          · exact HALL.out i (by omega)
        clear hxy
        refine wp_region_below (by kernel_rfl) (by kernel_rfl) ?_
        repeat (first | go_big_quiet_step (fail) | quiet_step (fail))
        refine wpQuiet_nil ?_
        intro w4 hb4
        have HB4 := hid (bl_trans HBB.out hb4)
        clear q1 q2 s1 s2 hb4
        go_wp2
        go_roundw
        case rel => exact ⟨k + 1, by omega, by go_num, hn2.out, HB4.out⟩
        case measure => simp [intOf]; omega
      · have d2 : (x != y) = true := by simp [hxy]
        have e1 := hid (show decide (a = b) = false by
          simp only [decide_eq_false_iff_not]; intro h
          have h1 := Hx.out
          rw [h, Hy.out] at h1
          injection h1 with h1
          exact hxy h1.symm)
        clear hxy
        refine wp_region_below (by kernel_rfl) (by kernel_rfl) ?_
        repeat (first | go_big_quiet_step (fail) | quiet_step (fail))
        refine wpQuiet_nil ?_
        intro w4 hb4
        have HB4 := hid (bl_trans HBB.out hb4)
        clear q1 q2 s1 s2 hb4
        go_wp2
        go_ret
        exact ⟨ret_bool e1.out.symm, HB4.out⟩
    · obtain rfl : k = a.length := by omega
      have e1 := hid (show decide (a = b) = true by
        simp only [decide_eq_true_eq]
        apply List.ext_getElem?
        intro i
        by_cases hi : i < a.length
        · exact HALL.out i hi
        · rw [List.getElem?_eq_none (by omega), List.getElem?_eq_none (by rw [← HL.out]; omega)])
      go_wp2
      go_ret
      exact ⟨ret_bool e1.out.symm, hB⟩

theorem same_any (a b : List (List Int)) (sa sb : Value) (w : World) (hal : a.length ≤ 1000) (har : ∀ r ∈ a, r.length ≤ 1000) (ha : Rows w sa a) (hb : Rows w sb b) : Calls Try.prog 29 #[sa, sb] w fun e w' => e = .returned (.bool (decide (a = b))) ∧ Below w.heap.size w w' := by
  obtain ⟨A, c, rfl⟩ := ha.slice
  obtain ⟨A2, c2, rfl⟩ := hb.slice
  by_cases hl : a.length = b.length
  case neg =>
    have d1 : ((a.length : Int) != (b.length : Int)) = true := by simp; omega
    have e1 := hid (show decide (a = b) = false by simp only [decide_eq_false_iff_not]; intro h; exact hl (by rw [h]))
    clear hl ha hb
    go_enter Try.func29, Try.ntmps29
    go_wp2
    go_ret
    exact ⟨ret_bool e1.out.symm, bl_refl _⟩
  have d1 : ((a.length : Int) != (b.length : Int)) = false := by simp [hl]
  have HL := hid hl
  have HA := hid ha
  have HB := hid hb
  have HAR := Lib.hid har
  clear hl ha hb har
  go_enter Try.func29, Try.ntmps29
  go_wp2
  go_loopw [5] (fun p wr => ∃ k : Nat, k ≤ a.length ∧ p = .int .i64 k ∧ (∀ i, i < k → a[i]? = b[i]?) ∧ Below w.heap.size w wr) (fun p _ => a.length - (intOf p).toNat)
  case atStart => exact ⟨0, Nat.zero_le _, rfl, fun i h => by omega, bl_refl _⟩
  case round =>
    obtain ⟨k, hk, rfl, hall, hB⟩ := hrel
    have HALL := Lib.hid hall
    clear hall
    by_cases hlt : k < a.length
    · obtain ⟨x, hx⟩ := get_at hlt
      obtain ⟨y, hy⟩ := get_at (l := b) (k := k) (by rw [← HL.out]; exact hlt)
      obtain ⟨b1, o1, c1', e5, _, hb1, hc1⟩ := HA.out.some (by omega)
      simp only [Value.slice.injEq, true_and] at e5
      obtain ⟨rfl, rfl⟩ := e5
      obtain ⟨b2, o2, c2', e5, _, hb2, hc2⟩ := HB.out.some (by rw [← HL.out]; omega)
      simp only [Value.slice.injEq, true_and] at e5
      obtain ⟨rfl, rfl⟩ := e5
      obtain ⟨v1, hv1, hi1⟩ := hc1 k x hx
      obtain ⟨v2, hv2, hi2⟩ := hc2 k y hy
      obtain ⟨A3, c3, rfl⟩ := hi1.slice
      obtain ⟨A4, c4, rfl⟩ := hi2.slice
      have q1 := cell_mono hv1 hB
      have q2 := cell_mono hv2 hB
      have hkI : (k : Int) < (a.length : Int) := by omega
      have hkI2 : (k : Int) < (b.length : Int) := by rw [← HL.out]; omega
      have s1 : b1 < wr.heap.size := by have := hB.size; omega
      have s2 : b2 < wr.heap.size := by have := hB.size; omega
      have hxl := HAR.out x (List.mem_of_getElem? hx)
      have Gen : Hid (∀ W, Below wr.heap.size wr W → Calls Try.prog 30 #[.slice A3 x.length c3, .slice A4 y.length c4] W fun e w' => e = .returned (.bool (decide (x = y))) ∧ Below W.heap.size W w') := fun W hW => longs_any x y _ _ W hxl ((hi1.mono hB).mono hW) ((hi2.mono hB).mono hW)
      have Hx := hid hx
      have Hy := hid hy
      have HBB := hid hB
      clear hc1 hc2 hx hy hB hi1 hi2 hv1 hv2
      go_upto_region 6 with (fail)
      refine wp_region_below (by kernel_rfl) (by kernel_rfl) ?_
      repeat (first | go_big_quiet_step (first | (go_at_call 30; exact Calls.regrown_of (Gen.out _ (below_regrown _ _ _)))) | quiet_step (first | (go_at_call 30; exact Calls.regrown_of (Gen.out _ (below_regrown _ _ _)))))
      refine wpQuiet_nil ?_
      intro w4 hb4
      have HB4 := hid (bl_trans HBB.out hb4)
      clear q1 q2 s1 s2 hb4 Gen
      by_cases hxy : x = y
      · have d2 : decide (x = y) = true := by simp [hxy]
        have hn2 : Hid (∀ i, i < k + 1 → a[i]? = b[i]?) := by
          intro i hi
          by_cases e : i = k
          · subst e; rw [Hx.out, Hy.out, hxy]
          · exact HALL.out i (by omega)
        clear hxy
        simp only [d2]
        go_wp2
        go_roundw
        case rel => exact ⟨k + 1, by omega, by go_num, hn2.out, HB4.out⟩
        case measure => simp [intOf]; omega
      · have d2 : decide (x = y) = false := by simp [hxy]
        have e1 := hid (show decide (a = b) = false by
          simp only [decide_eq_false_iff_not]; intro h
          have h1 := Hx.out
          rw [h, Hy.out] at h1
          injection h1 with h1
          exact hxy h1.symm)
        clear hxy
        simp only [d2]
        go_wp2
        go_ret
        exact ⟨ret_bool e1.out.symm, HB4.out⟩
    · obtain rfl : k = a.length := by omega
      have e1 := hid (show decide (a = b) = true by
        simp only [decide_eq_true_eq]
        apply List.ext_getElem?
        intro i
        by_cases hi : i < a.length
        · exact HALL.out i hi
        · rw [List.getElem?_eq_none (by omega), List.getElem?_eq_none (by rw [← HL.out]; omega)])
      go_wp2
      go_ret
      exact ⟨ret_bool e1.out.symm, hB⟩

end Go.Proofs.Ytbnmjbmlejifcaa
