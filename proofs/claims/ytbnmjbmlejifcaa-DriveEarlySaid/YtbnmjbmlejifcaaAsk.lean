/- check and reached: the walks. -/
import Derived.Test.YtbnmjbmlejifcaaValid
set_option linter.all false
namespace Go.Proofs.Ytbnmjbmlejifcaa
open Go Go.RowKit Go.Proofs
attribute [local go_sem] cell_grow frozen_grow

/-- The error of a river, and days. -/
def checkE (days : Int) (l : List Rch) (ds : List Int) : Int := if riverE days l ≠ 0 then riverE days l else if withinB 1 days ds = false then 3 else 0
/-- The error of a river, and a day. -/
def askedE (days : Int) (l : List Rch) (day : Int) : Int := if riverE days l ≠ 0 then riverE days l else if day < 1 ∨ days < day then 3 else 0
theorem check_none (days : Int) (l : List Rch) : checkE days l [] = riverE days l := by
  unfold checkE
  by_cases h : riverE days l = 0
  · rw [if_neg (by simpa using h), if_neg (by simp [withinB]), h]
  · rw [if_pos h]
theorem check_one (days : Int) (l : List Rch) (day : Int) : checkE days l [day] = askedE days l day := by
  unfold checkE askedE
  by_cases h : riverE days l = 0
  · have hn : ¬ (riverE days l ≠ 0) := by simpa using h
    rw [if_neg hn, if_neg hn, within_one]
    by_cases h2 : day < 1 ∨ days < day
    · rw [if_pos h2, if_pos (by simp; omega)]
    · rw [if_neg h2, if_neg (by simp; omega)]
  · rw [if_pos h, if_pos h]

set_option maxHeartbeats 4000000 in
theorem check_any (days : Int) (l : List Rch) (sr : Value) (ds : List Int) (sd : Value) (w : World) (hl : l.length ≤ 1000) (hs : Rchs w sr l) (hdl : ds.length ≤ 1000) (hd : Ints w sd ds) :
    Calls Try.prog 56 #[.agg #[.int .i64 days, sr], sd] w fun e w' => e = .returned (.int .i64 (checkE days l ds)) ∧ Below w.heap.size w w' := by
  obtain ⟨A, c, rfl⟩ := hs.slice
  obtain ⟨A2, c2, rfl⟩ := hd.slice
  have HX := hid (World.alloc_heap_new w (.cells #[.int .i64 days, .slice A l.length c] 24))
  have HB := hid (bl_alloc (bl_refl w) (.cells #[.int .i64 days, .slice A l.length c] 24))
  have HS := hid hs
  have HD := hid hd
  clear hs hd
  go_enter Try.func56, Try.ntmps56
  go_upto_region 1 with (fail)
  obtain ⟨R, hR⟩ : ∃ R, w.heap.size = R := ⟨_, rfl⟩
  obtain ⟨w0, hw0⟩ : ∃ w0, w.alloc (.cells #[.int .i64 days, .slice A l.length c] 24) = w0 := ⟨_, rfl⟩
  rw [hR] at HX ⊢
  rw [hw0] at HX HB ⊢
  clear hw0 hR
  have r0 : w0.cell? ⟨R, 0, none⟩ = some (.int .i64 days) := cell_of_heap HX.out
  have r1 : w0.cell? ⟨R, 1, none⟩ = some (.slice A l.length c) := cell_of_heap HX.out
  have l0 := (Array.getElem?_eq_some_iff.1 HX.out).1
  go_wp2_with fail
  refine (checkRiver_any days l _ _ hl (HS.out.mono HB.out)).mono ?_
  rintro e w1 ⟨rfl, hb1⟩
  have HX1 := hid (heap_mono HX.out hb1)
  have HB1 := hid (bl_trans HB.out hb1)
  clear HX HB hb1 r0 r1 l0
  by_cases h0 : riverE days l = 0
  · have he : (riverE days l != 0) = false := by simp [h0]
    have HE : Hid (checkE days l ds = if withinB 1 days ds = false then 3 else 0) := by
      show checkE days l ds = _
      rw [checkE, if_neg (by simpa using h0)]
    clear h0
    have s0 : w1.cell? ⟨R, 0, none⟩ = some (.int .i64 days) := cell_of_heap HX1.out
    have sl0 := (Array.getElem?_eq_some_iff.1 HX1.out).1
    go_wp2_with fail
    refine (within_any 1 days ds _ _ (by omega) (HD.out.mono HB1.out)).mono ?_
    rintro e w2 ⟨rfl, hb2⟩
    have HB2 := hid (bl_trans HB1.out hb2)
    clear HX1 HB1 hb2 s0 sl0
    cases h2 : withinB 1 days ds
    all_goals
      rw [h2] at HE
      clear h2
      go_wp2
      go_ret
      exact ⟨ret_i64 (by rw [HE.out]; rfl), HB2.out⟩
  · have he : (riverE days l != 0) = true := by simp [h0]
    have HE : Hid (checkE days l ds = riverE days l) := by
      show checkE days l ds = _
      rw [checkE, if_pos h0]
    clear h0
    go_wp2
    go_ret
    exact ⟨ret_i64 HE.out.symm, HB1.out⟩

/-- The error of a river, a day, and a reach. -/
def reachedE (days : Int) (l : List Rch) (day reach : Int) : Int := if askedE days l day ≠ 0 then askedE days l day else if reach < 0 ∨ (l.length : Int) ≤ reach then 2 else 0
set_option maxHeartbeats 4000000 in
theorem reached_any (days : Int) (l : List Rch) (sr : Value) (day reach : Int) (w : World) (hl : l.length ≤ 1000) (hs : Rchs w sr l) :
    Calls Try.prog 75 #[.agg #[.int .i64 days, sr], .int .i64 day, .int .i64 reach] w fun e w' => e = .returned (.int .i64 (reachedE days l day reach)) ∧ Below w.heap.size w w' := by
  obtain ⟨A, c, rfl⟩ := hs.slice
  have HX := hid (World.alloc_heap_new w (.cells #[.int .i64 days, .slice A l.length c] 24))
  have HB := hid (bl_alloc (bl_refl w) (.cells #[.int .i64 days, .slice A l.length c] 24))
  have HS := hid hs
  clear hs
  go_enter Try.func75, Try.ntmps75
  go_upto_region 1 with (fail)
  obtain ⟨R, hR⟩ : ∃ R, w.heap.size = R := ⟨_, rfl⟩
  obtain ⟨w0, hw0⟩ : ∃ w0, w.alloc (.cells #[.int .i64 days, .slice A l.length c] 24) = w0 := ⟨_, rfl⟩
  rw [hR] at HX ⊢
  rw [hw0] at HX HB ⊢
  clear hw0 hR
  have r0 : w0.cell? ⟨R, 0, none⟩ = some (.int .i64 days) := cell_of_heap HX.out
  have r1 : w0.cell? ⟨R, 1, none⟩ = some (.slice A l.length c) := cell_of_heap HX.out
  have l0 := (Array.getElem?_eq_some_iff.1 HX.out).1
  have ba := bl_alloc (bl_refl w0) (.cells #[.int .i64 day] 2)
  have hcall := check_any days l _ [day] _ _ hl (HS.out.mono (bl_trans HB.out ba)) (by simp) (Ints.one (W := w0) day 2 rfl)
  rw [check_one] at hcall
  have BA := hid ba
  clear ba
  go_wp2_with fail
  refine hcall.mono ?_
  rintro e w1 ⟨rfl, hb1⟩
  have hb01 := bl_trans BA.out hb1
  have HX1 := hid (heap_mono HX.out hb01)
  have HB1 := hid (bl_trans HB.out hb01)
  clear HX HB hb1 hb01 r0 r1 l0 hcall BA
  by_cases h0 : askedE days l day = 0
  · have he : (askedE days l day != 0) = false := by simp [h0]
    have HE : Hid (reachedE days l day reach = if reach < 0 ∨ (l.length : Int) ≤ reach then 2 else 0) := by
      show reachedE days l day reach = _
      rw [reachedE, if_neg (by simpa using h0)]
    clear h0
    have s1 : w1.cell? ⟨R, 1, none⟩ = some (.slice A l.length c) := cell_of_heap HX1.out
    have sl0 := (Array.getElem?_eq_some_iff.1 HX1.out).1
    by_cases h1 : reach < 0
    · have d1 : decide (reach < 0) = true := by simpa using h1
      have H1 := hid h1
      clear h1
      go_wp2
      go_ret
      exact ⟨ret_i64 (by rw [HE.out, if_pos (.inl H1.out)]), HB1.out⟩
    · have d1 : decide (reach < 0) = false := by simpa using h1
      by_cases h2 : (l.length : Int) ≤ reach
      · have d2 : decide ((l.length : Int) ≤ reach) = true := by simpa using h2
        have H2 := hid h2
        clear h1 h2
        go_wp2
        go_ret
        exact ⟨ret_i64 (by rw [HE.out, if_pos (.inr H2.out)]), HB1.out⟩
      · have d2 : decide ((l.length : Int) ≤ reach) = false := by simpa using h2
        have H2 := hid (show ¬ (reach < 0 ∨ (l.length : Int) ≤ reach) by omega)
        clear h1 h2
        go_wp2
        go_ret
        exact ⟨ret_i64 (by rw [HE.out, if_neg H2.out]), HB1.out⟩
  · have he : (askedE days l day != 0) = true := by simp [h0]
    have HE : Hid (reachedE days l day reach = askedE days l day) := by
      show reachedE days l day reach = _
      rw [reachedE, if_pos h0]
    clear h0
    go_wp2
    go_ret
    exact ⟨ret_i64 HE.out.symm, HB1.out⟩

end Go.Proofs.Ytbnmjbmlejifcaa
