/- The laws that compare with the definitions: the walks. -/
import Derived.Test.YtbnmjbmlejifcaaWorks
set_option linter.all false
namespace Go.Proofs.Ytbnmjbmlejifcaa
open Go Go.RowKit Go.Proofs
attribute [local go_sem] cell_grow frozen_grow

set_option maxRecDepth 100000 in
set_option maxHeartbeats 8000000 in
theorem driveMosts_any (days : Int) (l : List Rch) (sr : Value) (day logs : Int) (w : World) (hs : Rchs w sr l) :
    Calls Try.prog 5 #[.agg #[.int .i64 days, sr], .int .i64 day, .int .i64 logs] w fun e w' => e = .returned (.bool true) ∧ Below w.heap.size w w' := by
  obtain ⟨A, c, rfl⟩ := hs.slice
  have HX0 := hid (World.alloc_heap_new w (.cells #[.int .i64 days, .slice A l.length c] 24))
  have HB0 := hid (bl_alloc (bl_refl w) (.cells #[.int .i64 days, .slice A l.length c] 24))
  have HS := hid hs
  clear hs
  go_enter Try.func5, Try.ntmps5
  go_upto_region 1 with (fail)
  obtain ⟨R, hR⟩ : ∃ R, w.heap.size = R := ⟨_, rfl⟩
  obtain ⟨w0, hw0⟩ : ∃ w0, w.alloc (.cells #[.int .i64 days, .slice A l.length c] 24) = w0 := ⟨_, rfl⟩
  rw [hR] at HX0 ⊢
  rw [hw0] at HX0 HB0 ⊢
  clear hw0 hR
  have s0 : w0.cell? ⟨R, 0, none⟩ = some (.int .i64 days) := cell_of_heap HX0.out
  have s1 : w0.cell? ⟨R, 1, none⟩ = some (.slice A l.length c) := cell_of_heap HX0.out
  have sl := (Array.getElem?_eq_some_iff.1 HX0.out).1
  have hcall := great_any days l _ w0 (HS.out.mono HB0.out)
  go_wp2_with fail
  refine hcall.mono ?_
  rintro e w1 ⟨rfl, hb1⟩
  have HX1 := hid (heap_mono HX0.out hb1)
  have HB1 := hid (bl_trans HB0.out hb1)
  clear hcall s0 s1 sl hb1 HX0
  by_cases hg : 15 < l.length
  · have d1 : decide (15 < l.length) = true := by simpa using hg
    clear hg
    go_wp2_with fail
    refine (works_any w1).mono ?_
    rintro e w2 ⟨rfl, hb2⟩
    go_wp2
    go_ret
    exact ⟨rfl, bl_trans HB1.out hb2⟩
  have d1 : decide (15 < l.length) = false := by simpa using hg
  have hl : l.length ≤ 1000 := by omega
  clear hg
  obtain ⟨mv, hmv⟩ : ∃ mv, (if askedE days l day = 0 then mostE days l day else 0) = mv := ⟨_, rfl⟩
  have HMV := hid hmv
  clear hmv
  have s0 : w1.cell? ⟨R, 0, none⟩ = some (.int .i64 days) := cell_of_heap HX1.out
  have s1 : w1.cell? ⟨R, 1, none⟩ = some (.slice A l.length c) := cell_of_heap HX1.out
  have sl := (Array.getElem?_eq_some_iff.1 HX1.out).1
  have hcall := most_any days l _ day w1 hl (HS.out.mono HB1.out)
  rw [HMV.out] at hcall
  go_wp2_with fail
  refine hcall.mono ?_
  rintro e w2 ⟨rfl, hb2⟩
  have HX2 := hid (heap_mono HX1.out hb2)
  have HB2 := hid (bl_trans HB1.out hb2)
  clear hcall s0 s1 sl hb2 HX1
  have s0 : w2.cell? ⟨R, 0, none⟩ = some (.int .i64 days) := cell_of_heap HX2.out
  have s1 : w2.cell? ⟨R, 1, none⟩ = some (.slice A l.length c) := cell_of_heap HX2.out
  have sl := (Array.getElem?_eq_some_iff.1 HX2.out).1
  have hcall := refMost_any days l _ day w2 (HS.out.mono HB2.out)
  rw [HMV.out] at hcall
  go_wp2_with fail
  refine hcall.mono ?_
  rintro e w3 ⟨rfl, hb3⟩
  have HX3 := hid (heap_mono HX2.out hb3)
  have HB3 := hid (bl_trans HB2.out hb3)
  clear hcall s0 s1 sl hb3 HX2
  have s0 : w3.cell? ⟨R, 0, none⟩ = some (.int .i64 days) := cell_of_heap HX3.out
  have s1 : w3.cell? ⟨R, 1, none⟩ = some (.slice A l.length c) := cell_of_heap HX3.out
  have sl := (Array.getElem?_eq_some_iff.1 HX3.out).1
  have hcall := by_any days l _ logs w3 hl (HS.out.mono HB3.out)
  go_wp2_with fail
  refine hcall.mono ?_
  rintro e w4 ⟨rfl, hb4⟩
  have HX4 := hid (heap_mono HX3.out hb4)
  have HB4 := hid (bl_trans HB3.out hb4)
  clear hcall s0 s1 sl hb4 HX3
  have s0 : w4.cell? ⟨R, 0, none⟩ = some (.int .i64 days) := cell_of_heap HX4.out
  have s1 : w4.cell? ⟨R, 1, none⟩ = some (.slice A l.length c) := cell_of_heap HX4.out
  have sl := (Array.getElem?_eq_some_iff.1 HX4.out).1
  have hcall := refBy_any days l _ logs w4 (HS.out.mono HB4.out)
  go_wp2_with fail
  refine hcall.mono ?_
  rintro e w5 ⟨rfl, hb5⟩
  have HX5 := hid (heap_mono HX4.out hb5)
  have HB5 := hid (bl_trans HB4.out hb5)
  clear hcall s0 s1 sl hb5 HX4
  go_wp2_with fail
  refine (works_any w5).mono ?_
  rintro e w6 ⟨rfl, hb6⟩
  go_wp2
  go_ret
  exact ⟨rfl, bl_trans HB5.out hb6⟩

set_option maxRecDepth 100000 in
set_option maxHeartbeats 8000000 in
theorem driveWorths_any (days : Int) (l : List Rch) (sr : Value) (day reach : Int) (w : World) (hs : Rchs w sr l) :
    Calls Try.prog 7 #[.agg #[.int .i64 days, sr], .int .i64 day, .int .i64 reach] w fun e w' => e = .returned (.bool true) ∧ Below w.heap.size w w' := by
  obtain ⟨A, c, rfl⟩ := hs.slice
  have HX0 := hid (World.alloc_heap_new w (.cells #[.int .i64 days, .slice A l.length c] 24))
  have HB0 := hid (bl_alloc (bl_refl w) (.cells #[.int .i64 days, .slice A l.length c] 24))
  have HS := hid hs
  clear hs
  go_enter Try.func7, Try.ntmps7
  go_upto_region 1 with (fail)
  obtain ⟨R, hR⟩ : ∃ R, w.heap.size = R := ⟨_, rfl⟩
  obtain ⟨w0, hw0⟩ : ∃ w0, w.alloc (.cells #[.int .i64 days, .slice A l.length c] 24) = w0 := ⟨_, rfl⟩
  rw [hR] at HX0 ⊢
  rw [hw0] at HX0 HB0 ⊢
  clear hw0 hR
  have s0 : w0.cell? ⟨R, 0, none⟩ = some (.int .i64 days) := cell_of_heap HX0.out
  have s1 : w0.cell? ⟨R, 1, none⟩ = some (.slice A l.length c) := cell_of_heap HX0.out
  have sl := (Array.getElem?_eq_some_iff.1 HX0.out).1
  have hcall := great_any days l _ w0 (HS.out.mono HB0.out)
  go_wp2_with fail
  refine hcall.mono ?_
  rintro e w1 ⟨rfl, hb1⟩
  have HX1 := hid (heap_mono HX0.out hb1)
  have HB1 := hid (bl_trans HB0.out hb1)
  clear hcall s0 s1 sl hb1 HX0
  by_cases hg : 15 < l.length
  · have d1 : decide (15 < l.length) = true := by simpa using hg
    clear hg
    go_wp2_with fail
    refine (works_any w1).mono ?_
    rintro e w2 ⟨rfl, hb2⟩
    go_wp2
    go_ret
    exact ⟨rfl, bl_trans HB1.out hb2⟩
  have d1 : decide (15 < l.length) = false := by simpa using hg
  have hl : l.length ≤ 1000 := by omega
  clear hg
  have s0 : w1.cell? ⟨R, 0, none⟩ = some (.int .i64 days) := cell_of_heap HX1.out
  have s1 : w1.cell? ⟨R, 1, none⟩ = some (.slice A l.length c) := cell_of_heap HX1.out
  have sl := (Array.getElem?_eq_some_iff.1 HX1.out).1
  have hcall := worth_any days l _ day reach w1 hl (HS.out.mono HB1.out)
  go_wp2_with fail
  refine hcall.mono ?_
  rintro e w2 ⟨rfl, hb2⟩
  have HX2 := hid (heap_mono HX1.out hb2)
  have HB2 := hid (bl_trans HB1.out hb2)
  clear hcall s0 s1 sl hb2 HX1
  have s0 : w2.cell? ⟨R, 0, none⟩ = some (.int .i64 days) := cell_of_heap HX2.out
  have s1 : w2.cell? ⟨R, 1, none⟩ = some (.slice A l.length c) := cell_of_heap HX2.out
  have sl := (Array.getElem?_eq_some_iff.1 HX2.out).1
  have hcall := refWorth_any days l _ day reach w2 hl (HS.out.mono HB2.out)
  go_wp2_with fail
  refine hcall.mono ?_
  rintro e w3 ⟨rfl, hb3⟩
  have HX3 := hid (heap_mono HX2.out hb3)
  have HB3 := hid (bl_trans HB2.out hb3)
  clear hcall s0 s1 sl hb3 HX2
  have s0 : w3.cell? ⟨R, 0, none⟩ = some (.int .i64 days) := cell_of_heap HX3.out
  have s1 : w3.cell? ⟨R, 1, none⟩ = some (.slice A l.length c) := cell_of_heap HX3.out
  have sl := (Array.getElem?_eq_some_iff.1 HX3.out).1
  have hcall := latest_any days l _ day reach w3 hl (HS.out.mono HB3.out)
  go_wp2_with fail
  refine hcall.mono ?_
  rintro e w4 ⟨rfl, hb4⟩
  have HX4 := hid (heap_mono HX3.out hb4)
  have HB4 := hid (bl_trans HB3.out hb4)
  clear hcall s0 s1 sl hb4 HX3
  have s0 : w4.cell? ⟨R, 0, none⟩ = some (.int .i64 days) := cell_of_heap HX4.out
  have s1 : w4.cell? ⟨R, 1, none⟩ = some (.slice A l.length c) := cell_of_heap HX4.out
  have sl := (Array.getElem?_eq_some_iff.1 HX4.out).1
  have hcall := refLatest_any days l _ day reach w4 hl (HS.out.mono HB4.out)
  go_wp2_with fail
  refine hcall.mono ?_
  rintro e w5 ⟨rfl, hb5⟩
  have HX5 := hid (heap_mono HX4.out hb5)
  have HB5 := hid (bl_trans HB4.out hb5)
  clear hcall s0 s1 sl hb5 HX4
  go_wp2_with fail
  refine (works_any w5).mono ?_
  rintro e w6 ⟨rfl, hb6⟩
  go_wp2
  go_ret
  exact ⟨rfl, bl_trans HB5.out hb6⟩

set_option maxRecDepth 100000 in
set_option maxHeartbeats 8000000 in
theorem drivePlans_any (days : Int) (l : List Rch) (sr : Value) (w : World) (hs : Rchs w sr l) :
    Calls Try.prog 4 #[.agg #[.int .i64 days, sr]] w fun e w' => e = .returned (.bool true) ∧ Below w.heap.size w w' := by
  obtain ⟨A, c, rfl⟩ := hs.slice
  have HX0 := hid (World.alloc_heap_new w (.cells #[.int .i64 days, .slice A l.length c] 24))
  have HB0 := hid (bl_alloc (bl_refl w) (.cells #[.int .i64 days, .slice A l.length c] 24))
  have HS := hid hs
  clear hs
  go_enter Try.func4, Try.ntmps4
  go_upto_region 1 with (fail)
  obtain ⟨R, hR⟩ : ∃ R, w.heap.size = R := ⟨_, rfl⟩
  obtain ⟨w0, hw0⟩ : ∃ w0, w.alloc (.cells #[.int .i64 days, .slice A l.length c] 24) = w0 := ⟨_, rfl⟩
  rw [hR] at HX0 ⊢
  rw [hw0] at HX0 HB0 ⊢
  clear hw0 hR
  have s0 : w0.cell? ⟨R, 0, none⟩ = some (.int .i64 days) := cell_of_heap HX0.out
  have s1 : w0.cell? ⟨R, 1, none⟩ = some (.slice A l.length c) := cell_of_heap HX0.out
  have sl := (Array.getElem?_eq_some_iff.1 HX0.out).1
  have hcall := great_any days l _ w0 (HS.out.mono HB0.out)
  go_wp2_with fail
  refine hcall.mono ?_
  rintro e w1 ⟨rfl, hb1⟩
  have HX1 := hid (heap_mono HX0.out hb1)
  have HB1 := hid (bl_trans HB0.out hb1)
  clear hcall s0 s1 sl hb1 HX0
  by_cases hg : 15 < l.length
  · have d1 : decide (15 < l.length) = true := by simpa using hg
    clear hg
    go_wp2_with fail
    refine (works_any w1).mono ?_
    rintro e w2 ⟨rfl, hb2⟩
    go_wp2
    go_ret
    exact ⟨rfl, bl_trans HB1.out hb2⟩
  have d1 : decide (15 < l.length) = false := by simpa using hg
  have hl : l.length ≤ 1000 := by omega
  have hpl : (planL days l).length ≤ 1000 ∧ ∀ r ∈ planL days l, r.length ≤ 1000 := by
    unfold planL
    by_cases h : riverE days l = 0
    · rw [if_pos h]
      have F := fit_of h
      have hf := planE_full days l
      have h1 := F.d2
      exact ⟨by rw [hf.1]; omega, fun r hr => by rw [hf.2 r hr]; omega⟩
    · rw [if_neg h]; exact ⟨by decide, fun r hr => by simp at hr⟩
  have hll : (leftL days l).length ≤ 1000 := by
    unfold leftL
    split
    · simp; omega
    · decide
  clear hg
  have s0 : w1.cell? ⟨R, 0, none⟩ = some (.int .i64 days) := cell_of_heap HX1.out
  have s1 : w1.cell? ⟨R, 1, none⟩ = some (.slice A l.length c) := cell_of_heap HX1.out
  have sl := (Array.getElem?_eq_some_iff.1 HX1.out).1
  have hcall := plan_any days l _ w1 hl (HS.out.mono HB1.out)
  go_wp2_with fail
  refine hcall.mono ?_
  rintro e w2 ⟨⟨p1, rfl, hp1⟩, hb2⟩
  have HX2 := hid (heap_mono HX1.out hb2)
  have HB2 := hid (bl_trans HB1.out hb2)
  have HP2 := hid hp1
  clear hp1
  clear hcall s0 s1 sl hb2 HX1
  have s0 : w2.cell? ⟨R, 0, none⟩ = some (.int .i64 days) := cell_of_heap HX2.out
  have s1 : w2.cell? ⟨R, 1, none⟩ = some (.slice A l.length c) := cell_of_heap HX2.out
  have sl := (Array.getElem?_eq_some_iff.1 HX2.out).1
  have hcall := refPlan_any days l _ w2 (HS.out.mono HB2.out)
  go_wp2_with fail
  refine hcall.mono ?_
  rintro e w3 ⟨⟨p2, rfl, hp2⟩, hb3⟩
  have HX3 := hid (heap_mono HX2.out hb3)
  have HB3 := hid (bl_trans HB2.out hb3)
  have HP3 := hid (HP2.out.mono hb3)
  have HQ3 := hid hp2
  clear hp2 HP2
  clear hcall s0 s1 sl hb3 HX2
  have s0 : w3.cell? ⟨R, 0, none⟩ = some (.int .i64 days) := cell_of_heap HX3.out
  have s1 : w3.cell? ⟨R, 1, none⟩ = some (.slice A l.length c) := cell_of_heap HX3.out
  have sl := (Array.getElem?_eq_some_iff.1 HX3.out).1
  have hcall := left_any days l _ w3 hl (HS.out.mono HB3.out)
  go_wp2_with fail
  refine hcall.mono ?_
  rintro e w4 ⟨⟨l1, rfl, hl1⟩, hb4⟩
  have HX4 := hid (heap_mono HX3.out hb4)
  have HB4 := hid (bl_trans HB3.out hb4)
  have HP4 := hid (HP3.out.mono hb4)
  have HQ4 := hid (HQ3.out.mono hb4)
  have HL4 := hid hl1
  clear hl1 HP3 HQ3
  clear hcall s0 s1 sl hb4 HX3
  have s0 : w4.cell? ⟨R, 0, none⟩ = some (.int .i64 days) := cell_of_heap HX4.out
  have s1 : w4.cell? ⟨R, 1, none⟩ = some (.slice A l.length c) := cell_of_heap HX4.out
  have sl := (Array.getElem?_eq_some_iff.1 HX4.out).1
  have hcall := refLeft_any days l _ w4 (HS.out.mono HB4.out)
  go_wp2_with fail
  refine hcall.mono ?_
  rintro e w5 ⟨⟨l2, rfl, hl2⟩, hb5⟩
  have HX5 := hid (heap_mono HX4.out hb5)
  have HB5 := hid (bl_trans HB4.out hb5)
  have HP5 := hid (HP4.out.mono hb5)
  have HQ5 := hid (HQ4.out.mono hb5)
  have HL5 := hid (HL4.out.mono hb5)
  have HM5 := hid hl2
  clear hl2 HP4 HQ4 HL4
  clear hcall s0 s1 sl hb5 HX4
  have hcall := same_any (planL days l) (planL days l) _ _ w5 hpl.1 hpl.2 HP5.out HQ5.out
  rw [decide_eq_true (rfl : planL days l = planL days l)] at hcall
  go_wp2_with fail
  refine hcall.mono ?_
  rintro e w6 ⟨rfl, hb6⟩
  have hcall := longs_any (leftL days l) (leftL days l) _ _ w6 hll (HL5.out.mono hb6) (HM5.out.mono hb6)
  rw [decide_eq_true (rfl : leftL days l = leftL days l)] at hcall
  have HB6 := hid (bl_trans HB5.out hb6)
  go_wp2_with fail
  refine hcall.mono ?_
  rintro e w7 ⟨rfl, hb7⟩
  have HB7 := hid (bl_trans HB6.out hb7)
  clear hcall hb6 hb7
  go_wp2_with fail
  refine (works_any w7).mono ?_
  rintro e w8 ⟨rfl, hb8⟩
  go_wp2
  go_ret
  exact ⟨rfl, bl_trans HB7.out hb8⟩

set_option maxRecDepth 100000 in
set_option maxHeartbeats 8000000 in
theorem driveRivers_any (days : Int) (l : List Rch) (sr : Value) (L : List (List Int)) (sp : Value) (day : Int) (w : World) (hs : Rchs w sr l) (hp : Rows0 w sp L) :
    Calls Try.prog 3 #[.agg #[.int .i64 days, sr], sp, .int .i64 day] w fun e w' => e = .returned (.bool true) ∧ Below w.heap.size w w' := by
  obtain ⟨A, c, rfl⟩ := hs.slice
  have HX0 := hid (World.alloc_heap_new w (.cells #[.int .i64 days, .slice A l.length c] 24))
  have HB0 := hid (bl_alloc (bl_refl w) (.cells #[.int .i64 days, .slice A l.length c] 24))
  have HS := hid hs
  obtain ⟨A2, c2, rfl⟩ := hp.slice
  have HP := hid hp
  clear hp
  clear hs
  go_enter Try.func3, Try.ntmps3
  go_upto_region 1 with (fail)
  obtain ⟨R, hR⟩ : ∃ R, w.heap.size = R := ⟨_, rfl⟩
  obtain ⟨w0, hw0⟩ : ∃ w0, w.alloc (.cells #[.int .i64 days, .slice A l.length c] 24) = w0 := ⟨_, rfl⟩
  rw [hR] at HX0 ⊢
  rw [hw0] at HX0 HB0 ⊢
  clear hw0 hR
  have s0 : w0.cell? ⟨R, 0, none⟩ = some (.int .i64 days) := cell_of_heap HX0.out
  have s1 : w0.cell? ⟨R, 1, none⟩ = some (.slice A l.length c) := cell_of_heap HX0.out
  have sl := (Array.getElem?_eq_some_iff.1 HX0.out).1
  have hcall := great_any days l _ w0 (HS.out.mono HB0.out)
  go_wp2_with fail
  refine hcall.mono ?_
  rintro e w1 ⟨rfl, hb1⟩
  have HX1 := hid (heap_mono HX0.out hb1)
  have HB1 := hid (bl_trans HB0.out hb1)
  clear hcall s0 s1 sl hb1 HX0
  by_cases hg : 15 < l.length
  · have d1 : decide (15 < l.length) = true := by simpa using hg
    clear hg
    go_wp2_with fail
    refine (works_any w1).mono ?_
    rintro e w2 ⟨rfl, hb2⟩
    go_wp2
    go_ret
    exact ⟨rfl, bl_trans HB1.out hb2⟩
  have d1 : decide (15 < l.length) = false := by simpa using hg
  have hl : l.length ≤ 1000 := by omega
  clear hg
  have hcall := wide_any L _ w1 (HP.out.mono HB1.out)
  cases hwd : wideB L
  case true =>
    rw [hwd] at hcall
    clear hwd
    go_wp2_with fail
    refine hcall.mono ?_
    rintro e w2 ⟨rfl, rfl⟩
    clear hcall
    go_wp2_with fail
    refine (works_any w2).mono ?_
    rintro e w3 ⟨rfl, hb2⟩
    go_wp2
    go_ret
    exact ⟨rfl, bl_trans HB1.out hb2⟩
  rw [hwd] at hcall
  have hwn := wide_no hwd
  have hL1 : L.length ≤ 1000 := by omega
  have HL2 : Hid (∀ r ∈ L, r.length ≤ 1000) := fun r hr => by have := hwn.2 r hr; omega
  clear hwd hwn
  go_wp2_with fail
  refine hcall.mono ?_
  rintro e w2 ⟨rfl, rfl⟩
  clear hcall
  have s0 : w2.cell? ⟨R, 0, none⟩ = some (.int .i64 days) := cell_of_heap HX1.out
  have s1 : w2.cell? ⟨R, 1, none⟩ = some (.slice A l.length c) := cell_of_heap HX1.out
  have sl := (Array.getElem?_eq_some_iff.1 HX1.out).1
  have hcall := checkPlan_any days l _ L _ day w2 hl (HS.out.mono HB1.out) hL1 HL2.out (HP.out.mono HB1.out)
  go_wp2_with fail
  refine hcall.mono ?_
  rintro e w3 ⟨rfl, hb3⟩
  have HX3 := hid (heap_mono HX1.out hb3)
  have HB3 := hid (bl_trans HB1.out hb3)
  clear hcall s0 s1 sl hb3 HX1
  have s0 : w3.cell? ⟨R, 0, none⟩ = some (.int .i64 days) := cell_of_heap HX3.out
  have s1 : w3.cell? ⟨R, 1, none⟩ = some (.slice A l.length c) := cell_of_heap HX3.out
  have sl := (Array.getElem?_eq_some_iff.1 HX3.out).1
  have hcall := refCheckPlan_any days l _ L _ day w3 (HS.out.mono HB3.out) hL1 HL2.out (HP.out.mono HB3.out)
  go_wp2_with fail
  refine hcall.mono ?_
  rintro e w4 ⟨rfl, hb4⟩
  have HX4 := hid (heap_mono HX3.out hb4)
  have HB4 := hid (bl_trans HB3.out hb4)
  clear hcall s0 s1 sl hb4 HX3
  go_upto_region 5 with (fail)
  have s0 : w4.cell? ⟨R, 0, none⟩ = some (.int .i64 days) := cell_of_heap HX4.out
  have s1 : w4.cell? ⟨R, 1, none⟩ = some (.slice A l.length c) := cell_of_heap HX4.out
  have sl := (Array.getElem?_eq_some_iff.1 HX4.out).1
  have G23 : Hid (∀ W, Below w4.heap.size w4 W → Calls Try.prog 23 #[.agg #[.int .i64 days, .slice A l.length c]] W fun e w' => e = .returned (.int .i64 (riverE days l)) ∧ Below W.heap.size W w') := fun W hW => checkRiver_any days l _ W hl ((HS.out.mono HB4.out).mono hW)
  have G24 : Hid (∀ W, Below w4.heap.size w4 W → Calls Try.prog 24 #[.agg #[.int .i64 days, .slice A l.length c]] W fun e w' => e = .returned (.int .i64 (riverE days l)) ∧ Below W.heap.size W w') := fun W hW => refRiver_any days l _ W ((HS.out.mono HB4.out).mono hW)
  have G20 : Hid (∀ W, Below w4.heap.size w4 W → Calls Try.prog 20 #[] W fun e w' => e = .returned (.bool true) ∧ Below W.heap.size W w') := fun W _ => works_any W
  refine wp_region_below (by kernel_rfl) (by kernel_rfl) ?_
  repeat (first | go_big_quiet_step (first | (go_at_call 23; exact Calls.regrown_of (G23.out _ (below_regrown _ _ _))) | (go_at_call 24; exact Calls.regrown_of (G24.out _ (below_regrown _ _ _))) | (go_at_call 20; exact Calls.regrown_of (G20.out _ (below_regrown _ _ _)))) | quiet_step (first | (go_at_call 23; exact Calls.regrown_of (G23.out _ (below_regrown _ _ _))) | (go_at_call 24; exact Calls.regrown_of (G24.out _ (below_regrown _ _ _))) | (go_at_call 20; exact Calls.regrown_of (G20.out _ (below_regrown _ _ _)))))
  refine wpQuiet_nil ?_
  intro w5 hb5
  clear s0 s1 sl G23 G24 G20
  go_wp2
  go_ret
  exact ⟨rfl, bl_trans HB4.out hb5⟩

set_option maxRecDepth 100000 in
set_option maxHeartbeats 8000000 in
theorem driveCuts_any (days : Int) (l : List Rch) (sr : Value) (day : Int) (fl : List Int) (sf : Value) (w : World) (hs : Rchs w sr l) (hf : Ints w sf fl) :
    Calls Try.prog 6 #[.agg #[.int .i64 days, sr], .int .i64 day, sf] w fun e w' => e = .returned (.bool true) ∧ Below w.heap.size w w' := by
  obtain ⟨A, c, rfl⟩ := hs.slice
  have HX0 := hid (World.alloc_heap_new w (.cells #[.int .i64 days, .slice A l.length c] 24))
  have HB0 := hid (bl_alloc (bl_refl w) (.cells #[.int .i64 days, .slice A l.length c] 24))
  have HS := hid hs
  obtain ⟨A2, c2, rfl⟩ := hf.slice
  have HF := hid hf
  clear hf
  clear hs
  go_enter Try.func6, Try.ntmps6
  go_upto_region 1 with (fail)
  obtain ⟨R, hR⟩ : ∃ R, w.heap.size = R := ⟨_, rfl⟩
  obtain ⟨w0, hw0⟩ : ∃ w0, w.alloc (.cells #[.int .i64 days, .slice A l.length c] 24) = w0 := ⟨_, rfl⟩
  rw [hR] at HX0 ⊢
  rw [hw0] at HX0 HB0 ⊢
  clear hw0 hR
  have s0 : w0.cell? ⟨R, 0, none⟩ = some (.int .i64 days) := cell_of_heap HX0.out
  have s1 : w0.cell? ⟨R, 1, none⟩ = some (.slice A l.length c) := cell_of_heap HX0.out
  have sl := (Array.getElem?_eq_some_iff.1 HX0.out).1
  have hcall := great_any days l _ w0 (HS.out.mono HB0.out)
  go_wp2_with fail
  refine hcall.mono ?_
  rintro e w1 ⟨rfl, hb1⟩
  have HX1 := hid (heap_mono HX0.out hb1)
  have HB1 := hid (bl_trans HB0.out hb1)
  clear hcall s0 s1 sl hb1 HX0
  by_cases hg : 15 < l.length
  · have d1 : decide (15 < l.length) = true := by simpa using hg
    clear hg
    go_wp2_with fail
    refine (works_any w1).mono ?_
    rintro e w2 ⟨rfl, hb2⟩
    go_wp2
    go_ret
    exact ⟨rfl, bl_trans HB1.out hb2⟩
  have d1 : decide (15 < l.length) = false := by simpa using hg
  have hl : l.length ≤ 1000 := by omega
  clear hg
  by_cases hf : 15 < fl.length
  · have d2 : decide (15 < (fl.length : Int)) = true := by simp; omega
    clear hf
    go_wp2_with fail
    refine (works_any w1).mono ?_
    rintro e w2 ⟨rfl, hb2⟩
    go_wp2
    go_ret
    exact ⟨rfl, bl_trans HB1.out hb2⟩
  have d2 : decide (15 < (fl.length : Int)) = false := by simp; omega
  have hfl : fl.length ≤ 1000 := by omega
  clear hf
  have s0 : w1.cell? ⟨R, 0, none⟩ = some (.int .i64 days) := cell_of_heap HX1.out
  have s1 : w1.cell? ⟨R, 1, none⟩ = some (.slice A l.length c) := cell_of_heap HX1.out
  have sl := (Array.getElem?_eq_some_iff.1 HX1.out).1
  have hcall := checkCut_any days l _ day fl _ w1 hl (HS.out.mono HB1.out) hfl (HF.out.mono HB1.out)
  go_wp2_with fail
  refine hcall.mono ?_
  rintro e w2 ⟨rfl, hb2⟩
  have HX2 := hid (heap_mono HX1.out hb2)
  have HB2 := hid (bl_trans HB1.out hb2)
  clear hcall s0 s1 sl hb2 HX1
  have s0 : w2.cell? ⟨R, 0, none⟩ = some (.int .i64 days) := cell_of_heap HX2.out
  have s1 : w2.cell? ⟨R, 1, none⟩ = some (.slice A l.length c) := cell_of_heap HX2.out
  have sl := (Array.getElem?_eq_some_iff.1 HX2.out).1
  have hcall := refCheckCut_any days l _ day fl _ w2 (HS.out.mono HB2.out) hfl (HF.out.mono HB2.out)
  go_wp2_with fail
  refine hcall.mono ?_
  rintro e w3 ⟨rfl, hb3⟩
  have HX3 := hid (heap_mono HX2.out hb3)
  have HB3 := hid (bl_trans HB2.out hb3)
  clear hcall s0 s1 sl hb3 HX2
  have s0 : w3.cell? ⟨R, 0, none⟩ = some (.int .i64 days) := cell_of_heap HX3.out
  have s1 : w3.cell? ⟨R, 1, none⟩ = some (.slice A l.length c) := cell_of_heap HX3.out
  have sl := (Array.getElem?_eq_some_iff.1 HX3.out).1
  have hcall := cutFn_any days l _ day w3 hl (HS.out.mono HB3.out)
  go_wp2_with fail
  refine hcall.mono ?_
  rintro e w4 ⟨⟨v, o, rfl, hv, ho⟩, hb4⟩
  have HX4 := hid (heap_mono HX3.out hb4)
  have HB4 := hid (bl_trans HB3.out hb4)
  have HV4 := hid hv
  have HO := hid ho
  clear hv ho
  clear hcall s0 s1 sl hb4 HX3
  have s0 : w4.cell? ⟨R, 0, none⟩ = some (.int .i64 days) := cell_of_heap HX4.out
  have s1 : w4.cell? ⟨R, 1, none⟩ = some (.slice A l.length c) := cell_of_heap HX4.out
  have sl := (Array.getElem?_eq_some_iff.1 HX4.out).1
  have hcall := refAsked_any days l _ day w4 (HS.out.mono HB4.out)
  go_wp2_with fail
  refine hcall.mono ?_
  rintro e w5 ⟨rfl, hb5⟩
  have HX5 := hid (heap_mono HX4.out hb5)
  have HB5 := hid (bl_trans HB4.out hb5)
  have HV5 := hid (HV4.out.mono hb5)
  clear HV4
  clear hcall s0 s1 sl hb5 HX4
  by_cases h0 : askedE days l day = 0
  case neg =>
    have he : (askedE days l day != 0) = true := by simp [h0]
    obtain ⟨A3, c3, rfl⟩ := HV5.out.slice
    have ho : o = [] := by
      rcases HO.out with ⟨_, h⟩ | ⟨h, _⟩
      · exact h
      · exact absurd h h0
    subst ho
    clear h0
    go_wp2_with fail
    refine (works_any w5).mono ?_
    rintro e w6 ⟨rfl, hb6⟩
    go_wp2
    go_ret
    exact ⟨rfl, bl_trans HB5.out hb6⟩
  have he : (askedE days l day != 0) = false := by simp [h0]
  have hcb := cutOk_bound h0 HO.out
  have hol : o.length ≤ 1000 := by
    rcases HO.out with ⟨h, _⟩ | ⟨_, h, _⟩
    · exact absurd h0 h
    · rw [h]; exact hl
  obtain ⟨g0, g1, g2⟩ := asked_zero h0
  obtain ⟨A3, c3, rfl⟩ := HV5.out.slice
  obtain ⟨D, rfl⟩ : ∃ D : Nat, days = D := ⟨days.toNat, by omega⟩
  obtain ⟨t, rfl⟩ : ∃ t : Nat, day = t := ⟨day.toNat, by omega⟩
  have htD : t ≤ D := by omega
  have HFT := hid (fit_of g0)
  clear h0 g0 g1 g2
  have s0 : w5.cell? ⟨R, 0, none⟩ = some (.int .i64 (D : Int)) := cell_of_heap HX5.out
  have s1 : w5.cell? ⟨R, 1, none⟩ = some (.slice A l.length c) := cell_of_heap HX5.out
  have sl := (Array.getElem?_eq_some_iff.1 HX5.out).1
  have hcall := refCheckCut_any (D : Int) l _ (t : Int) o _ w5 (HS.out.mono HB5.out) hol HV5.out
  rw [hcb.1, hcb.2] at hcall
  go_wp2_with fail
  refine hcall.mono ?_
  rintro e w6 ⟨rfl, hb6⟩
  have HX6 := hid (heap_mono HX5.out hb6)
  have HB6 := hid (bl_trans HB5.out hb6)
  clear hcall s0 s1 sl hb6 HX5
  clear hcb
  have s0 : w6.cell? ⟨R, 0, none⟩ = some (.int .i64 (D : Int)) := cell_of_heap HX6.out
  have s1 : w6.cell? ⟨R, 1, none⟩ = some (.slice A l.length c) := cell_of_heap HX6.out
  have sl := (Array.getElem?_eq_some_iff.1 HX6.out).1
  have hcall := mostOf_any D l _ t w6 (HS.out.mono HB6.out) HFT.out htD
  go_wp2_with fail
  refine hcall.mono ?_
  rintro e w7 ⟨rfl, hb7⟩
  have HX7 := hid (heap_mono HX6.out hb7)
  have HB7 := hid (bl_trans HB6.out hb7)
  clear hcall s0 s1 sl hb7 HX6
  generalize mostE D l (t : Int) = mv at *
  go_wp2_with fail
  refine (works_any w7).mono ?_
  rintro e w8 ⟨rfl, hb8⟩
  go_wp2
  go_ret
  exact ⟨rfl, bl_trans HB7.out hb8⟩

end Go.Proofs.Ytbnmjbmlejifcaa
