/- Days and cuts by numbers: the walks. -/
import Derived.Test.YtbnmjbmlejifcaaWorks
set_option linter.all false
namespace Go.Proofs.Ytbnmjbmlejifcaa
open Go Go.RowKit Go.Proofs
attribute [local go_sem] cell_grow frozen_grow

theorem fine_any (days : Int) (l : List Rch) (sr : Value) (w : World) (hs : Rchs w sr l) : Calls Try.prog 44 #[.agg #[.int .i64 days, sr]] w fun e w' => e = .returned (.bool (decide (riverE days l = 0))) ∧ Below w.heap.size w w' := by
  obtain ⟨A, c, rfl⟩ := hs.slice
  have HX0 := hid (World.alloc_heap_new w (.cells #[.int .i64 days, .slice A l.length c] 24))
  have HB0 := hid (bl_alloc (bl_refl w) (.cells #[.int .i64 days, .slice A l.length c] 24))
  have HS := hid hs
  clear hs
  go_enter Try.func44, Try.ntmps44
  go_upto_region 1 with (fail)
  obtain ⟨R, hR⟩ : ∃ R, w.heap.size = R := ⟨_, rfl⟩
  obtain ⟨w0, hw0⟩ : ∃ w0, w.alloc (.cells #[.int .i64 days, .slice A l.length c] 24) = w0 := ⟨_, rfl⟩
  rw [hR] at HX0 ⊢
  rw [hw0] at HX0 HB0 ⊢
  clear hw0 hR
  have s0 : w0.cell? ⟨R, 0, none⟩ = some (.int .i64 days) := cell_of_heap HX0.out
  have s1 : w0.cell? ⟨R, 1, none⟩ = some (.slice A l.length c) := cell_of_heap HX0.out
  have sl := (Array.getElem?_eq_some_iff.1 HX0.out).1
  have hcall := great_any days l _ w0 (HS.out.mono HB0.out)
  go_wp2_with fail
  refine hcall.mono ?_
  rintro e w1 ⟨rfl, hb1⟩
  have HX1 := hid (heap_mono HX0.out hb1)
  have HB1 := hid (bl_trans HB0.out hb1)
  clear hcall s0 s1 sl hb1 HX0
  by_cases hg : 15 < l.length
  · have d1 : decide (15 < l.length) = true := by simpa using hg
    have hr := hid (show decide (riverE days l = 0) = false by
      rw [decide_eq_false_iff_not]
      intro h
      have := (fit_of h).n2
      omega)
    clear hg
    go_wp2
    go_ret
    exact ⟨ret_bool hr.out.symm, HB1.out⟩
  have d1 : decide (15 < l.length) = false := by simpa using hg
  clear hg
  have s0 : w1.cell? ⟨R, 0, none⟩ = some (.int .i64 days) := cell_of_heap HX1.out
  have s1 : w1.cell? ⟨R, 1, none⟩ = some (.slice A l.length c) := cell_of_heap HX1.out
  have sl := (Array.getElem?_eq_some_iff.1 HX1.out).1
  have hcall := refRiver_any days l _ w1 (HS.out.mono HB1.out)
  by_cases h0 : riverE days l = 0
  · rw [h0] at hcall
    have hr := hid (show decide (riverE days l = 0) = true by rw [h0]; rfl)
    clear h0
    go_wp2_with fail
    refine hcall.mono ?_
    rintro e w2 ⟨rfl, hb2⟩
    clear hcall s0 s1 sl
    go_wp2
    go_ret
    exact ⟨ret_bool hr.out.symm, bl_trans HB1.out hb2⟩
  · have hr := hid (show decide (riverE days l = 0) = false by simpa using h0)
    have he : (riverE days l == 0) = false := by simpa using h0
    clear h0
    go_wp2_with fail
    refine hcall.mono ?_
    rintro e w2 ⟨rfl, hb2⟩
    clear hcall s0 s1 sl
    go_wp2
    go_ret
    exact ⟨ret_bool hr.out.symm, bl_trans HB1.out hb2⟩

/-- A day by a number. -/
def dayE (days by_ : Int) : Int := 1 + by_ % days
theorem dayE_bd {days by_ : Int} (h : 1 ≤ days) : 1 ≤ dayE days by_ ∧ dayE days by_ ≤ days := by
  have h1 := Int.emod_nonneg by_ (b := days) (by omega)
  have h2 := Int.emod_lt_of_pos by_ (b := days) (by omega)
  unfold dayE
  omega
theorem day_any (days : Int) (l : List Rch) (sr : Value) (by_ : Int) (w : World) (hs : Rchs w sr l) (hd : 1 ≤ days ∧ days ≤ 40) (hb : 0 ≤ by_ ∧ by_ < 256) : Calls Try.prog 45 #[.agg #[.int .i64 days, sr], .int .u8 by_] w fun e w' => e = .returned (.int .i64 (dayE days by_)) ∧ Below w.heap.size w w' := by
  obtain ⟨A, c, rfl⟩ := hs.slice
  have hn0 : ((days : Int) == 0) = false := beq_eq_false_iff_ne.2 (by omega)
  have hw1 : IntKind.i64.wrap by_ = by_ := IntWalk.i64_in _ (by omega)
  have h1 := Int.emod_nonneg by_ (b := days) (by omega)
  have h2 := Int.emod_lt_of_pos by_ (b := days) (by omega)
  have ht : by_.tmod days = by_ % days := Int.tmod_eq_emod_of_nonneg hb.1
  have hw2 : IntKind.i64.wrap (by_ % days) = by_ % days := IntWalk.i64_in _ (by omega)
  have hw3 : IntKind.i64.wrap (1 + by_ % days) = 1 + by_ % days := IntWalk.i64_in _ (by omega)
  have HE : Hid (dayE days by_ = 1 + by_ % days) := rfl
  clear h1 h2 hs
  go_enter Try.func45, Try.ntmps45
  go_wp2
  go_ret
  exact ⟨ret_i64 HE.out.symm, bl_alloc (bl_refl _) _⟩

end Go.Proofs.Ytbnmjbmlejifcaa
