/- The references: what is asked, and the early plan: the walks. -/
import Derived.Test.YtbnmjbmlejifcaaAsk
import Derived.Test.YtbnmjbmlejifcaaPlan
set_option linter.all false
namespace Go.Proofs.Ytbnmjbmlejifcaa
open Go Go.RowKit Go.Proofs
attribute [local go_sem] cell_grow frozen_grow

set_option maxHeartbeats 4000000 in
theorem refAsked_any (days : Int) (l : List Rch) (sr : Value) (day : Int) (w : World) (hs : Rchs w sr l) :
    Calls Try.prog 38 #[.agg #[.int .i64 days, sr], .int .i64 day] w fun e w' => e = .returned (.int .i64 (askedE days l day)) ∧ Below w.heap.size w w' := by
  obtain ⟨A, c, rfl⟩ := hs.slice
  have HX := hid (World.alloc_heap_new w (.cells #[.int .i64 days, .slice A l.length c] 24))
  have HB := hid (bl_alloc (bl_refl w) (.cells #[.int .i64 days, .slice A l.length c] 24))
  have HS := hid hs
  clear hs
  go_enter Try.func38, Try.ntmps38
  go_upto_region 1 with (fail)
  obtain ⟨R, hR⟩ : ∃ R, w.heap.size = R := ⟨_, rfl⟩
  obtain ⟨w0, hw0⟩ : ∃ w0, w.alloc (.cells #[.int .i64 days, .slice A l.length c] 24) = w0 := ⟨_, rfl⟩
  rw [hR] at HX ⊢
  rw [hw0] at HX HB ⊢
  clear hw0 hR
  have r0 : w0.cell? ⟨R, 0, none⟩ = some (.int .i64 days) := cell_of_heap HX.out
  have r1 : w0.cell? ⟨R, 1, none⟩ = some (.slice A l.length c) := cell_of_heap HX.out
  have l0 := (Array.getElem?_eq_some_iff.1 HX.out).1
  go_wp2_with fail
  refine (refRiver_any days l _ _ (HS.out.mono HB.out)).mono ?_
  rintro e w1 ⟨rfl, hb1⟩
  have HX1 := hid (heap_mono HX.out hb1)
  have HB1 := hid (bl_trans HB.out hb1)
  clear HX HB hb1 r0 r1 l0
  have r0 : w1.cell? ⟨R, 0, none⟩ = some (.int .i64 days) := cell_of_heap HX1.out
  have r1 : w1.cell? ⟨R, 1, none⟩ = some (.slice A l.length c) := cell_of_heap HX1.out
  have l0 := (Array.getElem?_eq_some_iff.1 HX1.out).1
  by_cases h0 : riverE days l = 0
  · have he : (riverE days l != 0) = false := by simp [h0]
    have HE : Hid (askedE days l day = if day < 1 ∨ days < day then 3 else 0) := by
      show askedE days l day = _
      rw [askedE, if_neg (by simpa using h0)]
    clear h0
    by_cases h1 : day < 1
    · have d1 : decide (day < 1) = true := by simpa using h1
      have H1 := hid h1
      clear h1
      go_wp2
      go_ret
      exact ⟨ret_i64 (by rw [HE.out, if_pos (.inl H1.out)]), HB1.out⟩
    · have d1 : decide (day < 1) = false := by simpa using h1
      by_cases h2 : days < day
      · have d2 : decide (days < day) = true := by simpa using h2
        have H2 := hid h2
        clear h1 h2
        go_wp2
        go_ret
        exact ⟨ret_i64 (by rw [HE.out, if_pos (.inr H2.out)]), HB1.out⟩
      · have d2 : decide (days < day) = false := by simpa using h2
        have H2 := hid (show ¬ (day < 1 ∨ days < day) by omega)
        clear h1 h2
        go_wp2
        go_ret
        exact ⟨ret_i64 (by rw [HE.out, if_neg H2.out]), HB1.out⟩
  · have he : (riverE days l != 0) = true := by simp [h0]
    have HE : Hid (askedE days l day = riverE days l) := by
      show askedE days l day = _
      rw [askedE, if_pos h0]
    clear h0
    go_wp2_with fail
    refine (refRiver_any days l _ _ (HS.out.mono HB1.out)).mono ?_
    rintro e w2 ⟨rfl, hb2⟩
    clear r0 r1 l0
    go_wp2
    go_ret
    exact ⟨ret_i64 HE.out.symm, bl_trans HB1.out hb2⟩

set_option maxHeartbeats 4000000 in
theorem refReached_any (days : Int) (l : List Rch) (sr : Value) (day reach : Int) (w : World) (hs : Rchs w sr l) :
    Calls Try.prog 78 #[.agg #[.int .i64 days, sr], .int .i64 day, .int .i64 reach] w fun e w' => e = .returned (.int .i64 (reachedE days l day reach)) ∧ Below w.heap.size w w' := by
  obtain ⟨A, c, rfl⟩ := hs.slice
  have HX := hid (World.alloc_heap_new w (.cells #[.int .i64 days, .slice A l.length c] 24))
  have HB := hid (bl_alloc (bl_refl w) (.cells #[.int .i64 days, .slice A l.length c] 24))
  have HS := hid hs
  clear hs
  go_enter Try.func78, Try.ntmps78
  go_upto_region 1 with (fail)
  obtain ⟨R, hR⟩ : ∃ R, w.heap.size = R := ⟨_, rfl⟩
  obtain ⟨w0, hw0⟩ : ∃ w0, w.alloc (.cells #[.int .i64 days, .slice A l.length c] 24) = w0 := ⟨_, rfl⟩
  rw [hR] at HX ⊢
  rw [hw0] at HX HB ⊢
  clear hw0 hR
  have r0 : w0.cell? ⟨R, 0, none⟩ = some (.int .i64 days) := cell_of_heap HX.out
  have r1 : w0.cell? ⟨R, 1, none⟩ = some (.slice A l.length c) := cell_of_heap HX.out
  have l0 := (Array.getElem?_eq_some_iff.1 HX.out).1
  go_wp2_with fail
  refine (refAsked_any days l _ day _ (HS.out.mono HB.out)).mono ?_
  rintro e w1 ⟨rfl, hb1⟩
  have HX1 := hid (heap_mono HX.out hb1)
  have HB1 := hid (bl_trans HB.out hb1)
  clear HX HB hb1 r0 r1 l0
  have r0 : w1.cell? ⟨R, 0, none⟩ = some (.int .i64 days) := cell_of_heap HX1.out
  have r1 : w1.cell? ⟨R, 1, none⟩ = some (.slice A l.length c) := cell_of_heap HX1.out
  have l0 := (Array.getElem?_eq_some_iff.1 HX1.out).1
  by_cases h0 : askedE days l day = 0
  · have he : (askedE days l day != 0) = false := by simp [h0]
    have HE : Hid (reachedE days l day reach = if reach < 0 ∨ (l.length : Int) ≤ reach then 2 else 0) := by
      show reachedE days l day reach = _
      rw [reachedE, if_neg (by simpa using h0)]
    clear h0
    by_cases h1 : reach < 0
    · have d1 : decide (reach < 0) = true := by simpa using h1
      have H1 := hid h1
      clear h1
      go_wp2
      go_ret
      exact ⟨ret_i64 (by rw [HE.out, if_pos (.inl H1.out)]), HB1.out⟩
    · have d1 : decide (reach < 0) = false := by simpa using h1
      by_cases h2 : (l.length : Int) ≤ reach
      · have d2 : decide ((l.length : Int) ≤ reach) = true := by simpa using h2
        have H2 := hid h2
        clear h1 h2
        go_wp2
        go_ret
        exact ⟨ret_i64 (by rw [HE.out, if_pos (.inr H2.out)]), HB1.out⟩
      · have d2 : decide ((l.length : Int) ≤ reach) = false := by simpa using h2
        have H2 := hid (show ¬ (reach < 0 ∨ (l.length : Int) ≤ reach) by omega)
        clear h1 h2
        go_wp2
        go_ret
        exact ⟨ret_i64 (by rw [HE.out, if_neg H2.out]), HB1.out⟩
  · have he : (askedE days l day != 0) = true := by simp [h0]
    have HE : Hid (reachedE days l day reach = askedE days l day) := by
      show reachedE days l day reach = _
      rw [reachedE, if_pos h0]
    clear h0
    go_wp2_with fail
    refine (refAsked_any days l _ day _ (HS.out.mono HB1.out)).mono ?_
    rintro e w2 ⟨rfl, hb2⟩
    clear r0 r1 l0
    go_wp2
    go_ret
    exact ⟨ret_i64 HE.out.symm, bl_trans HB1.out hb2⟩

set_option maxHeartbeats 4000000 in
theorem refPlan_any (days : Int) (l : List Rch) (sr : Value) (w : World) (hs : Rchs w sr l) :
    Calls Try.prog 26 #[.agg #[.int .i64 days, sr]] w fun e w' => (∃ v, e = .returned (.tuple #[v, .int .i64 (riverE days l)]) ∧ Rows w' v (planL days l)) ∧ Below w.heap.size w w' := by
  obtain ⟨A, c, rfl⟩ := hs.slice
  have HX := hid (World.alloc_heap_new w (.cells #[.int .i64 days, .slice A l.length c] 24))
  have HB := hid (bl_alloc (bl_refl w) (.cells #[.int .i64 days, .slice A l.length c] 24))
  have HS := hid hs
  clear hs
  go_enter Try.func26, Try.ntmps26
  go_upto_region 1 with (fail)
  obtain ⟨R, hR⟩ : ∃ R, w.heap.size = R := ⟨_, rfl⟩
  obtain ⟨w0, hw0⟩ : ∃ w0, w.alloc (.cells #[.int .i64 days, .slice A l.length c] 24) = w0 := ⟨_, rfl⟩
  rw [hR] at HX ⊢
  rw [hw0] at HX HB ⊢
  clear hw0 hR
  have r0 : w0.cell? ⟨R, 0, none⟩ = some (.int .i64 days) := cell_of_heap HX.out
  have r1 : w0.cell? ⟨R, 1, none⟩ = some (.slice A l.length c) := cell_of_heap HX.out
  have l0 := (Array.getElem?_eq_some_iff.1 HX.out).1
  go_wp2_with fail
  refine (refRiver_any days l _ _ (HS.out.mono HB.out)).mono ?_
  rintro e w1 ⟨rfl, hb1⟩
  have HX1 := hid (heap_mono HX.out hb1)
  have HB1 := hid (bl_trans HB.out hb1)
  clear HX HB hb1 r0 r1 l0
  have r0 : w1.cell? ⟨R, 0, none⟩ = some (.int .i64 days) := cell_of_heap HX1.out
  have r1 : w1.cell? ⟨R, 1, none⟩ = some (.slice A l.length c) := cell_of_heap HX1.out
  have l0 := (Array.getElem?_eq_some_iff.1 HX1.out).1
  by_cases h0 : riverE days l = 0
  · have he : (riverE days l != 0) = false := by simp [h0]
    have e1 := hid (show planL days l = planE days l by rw [planL, if_pos h0])
    have HF := hid (fit_of h0)
    have H0 := hid h0
    clear h0
    go_wp2_with fail
    refine (refEarly_any days l _ _ (HS.out.mono HB1.out) HF.out).mono ?_
    rintro e w2 ⟨⟨v, rfl, hv⟩, hb2⟩
    have HV := hid hv
    clear r0 r1 l0 hv
    go_wp2
    go_ret2
    exact ⟨⟨v, by rw [H0.out]; rfl, by rw [e1.out]; exact HV.out⟩, bl_trans HB1.out hb2⟩
  · have he : (riverE days l != 0) = true := by simp [h0]
    have e1 := hid (show planL days l = [] by rw [planL, if_neg h0])
    clear h0
    go_wp2_with fail
    refine (refRiver_any days l _ _ (HS.out.mono HB1.out)).mono ?_
    rintro e w2 ⟨rfl, hb2⟩
    clear r0 r1 l0
    go_wp2
    go_ret2
    exact ⟨⟨_, rfl, .inl ⟨rfl, e1.out⟩⟩, bl_trans HB1.out hb2⟩

end Go.Proofs.Ytbnmjbmlejifcaa
