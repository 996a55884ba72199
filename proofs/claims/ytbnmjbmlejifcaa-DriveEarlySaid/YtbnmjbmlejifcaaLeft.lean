/- Cut and Left: the walks. -/
import Derived.Test.YtbnmjbmlejifcaaCutc
import Derived.Test.YtbnmjbmlejifcaaPlan
set_option linter.all false
namespace Go.Proofs.Ytbnmjbmlejifcaa
open Go Go.RowKit Go.Proofs
attribute [local go_sem] cell_grow frozen_grow

/-- What Cut returns. -/
def CutOk (days : Int) (l : List Rch) (day : Int) (o : List Int) : Prop :=
  (askedE days l day ≠ 0 ∧ o = []) ∨ (askedE days l day = 0 ∧ o.length = l.length ∧ ∀ j, j < l.length → WellAt l (planP (planE days l)) day.toNat o j)

set_option maxHeartbeats 4000000 in
theorem cutFn_any (days : Int) (l : List Rch) (sr : Value) (day : Int) (w : World) (hl : l.length ≤ 1000) (hs : Rchs w sr l) :
    Calls Try.prog 37 #[.agg #[.int .i64 days, sr], .int .i64 day] w fun e w' => (∃ v o, e = .returned (.tuple #[v, .int .i64 (askedE days l day)]) ∧ Ints w' v o ∧ CutOk days l day o) ∧ Below w.heap.size w w' := by
  obtain ⟨A, c, rfl⟩ := hs.slice
  have HX := hid (World.alloc_heap_new w (.cells #[.int .i64 days, .slice A l.length c] 24))
  have HB := hid (bl_alloc (bl_refl w) (.cells #[.int .i64 days, .slice A l.length c] 24))
  have HS := hid hs
  clear hs
  go_enter Try.func37, Try.ntmps37
  go_upto_region 1 with (fail)
  obtain ⟨R, hR⟩ : ∃ R, w.heap.size = R := ⟨_, rfl⟩
  obtain ⟨w0, hw0⟩ : ∃ w0, w.alloc (.cells #[.int .i64 days, .slice A l.length c] 24) = w0 := ⟨_, rfl⟩
  rw [hR] at HX ⊢
  rw [hw0] at HX HB ⊢
  clear hw0 hR
  have r0 : w0.cell? ⟨R, 0, none⟩ = some (.int .i64 days) := cell_of_heap HX.out
  have r1 : w0.cell? ⟨R, 1, none⟩ = some (.slice A l.length c) := cell_of_heap HX.out
  have l0 := (Array.getElem?_eq_some_iff.1 HX.out).1
  have ba := bl_alloc (bl_refl w0) (.cells #[.int .i64 day] 2)
  have hcall := check_any days l _ [day] _ _ hl (HS.out.mono (bl_trans HB.out ba)) (by simp) (Ints.one (W := w0) day 2 rfl)
  rw [check_one] at hcall
  have BA := hid ba
  clear ba
  go_wp2_with fail
  refine hcall.mono ?_
  rintro e w1 ⟨rfl, hb1⟩
  have hb01 := bl_trans BA.out hb1
  have HX1 := hid (heap_mono HX.out hb01)
  have HB1 := hid (bl_trans HB.out hb01)
  clear HX HB hb1 hb01 r0 r1 l0 hcall BA
  by_cases h0 : askedE days l day = 0
  · have he : (askedE days l day != 0) = false := by simp [h0]
    obtain ⟨g0, g1, g2⟩ := asked_zero h0
    obtain ⟨D, rfl⟩ : ∃ D : Nat, days = D := ⟨days.toNat, by omega⟩
    obtain ⟨t, rfl⟩ : ∃ t : Nat, day = t := ⟨day.toNat, by omega⟩
    have htD : 1 ≤ t ∧ t ≤ D := by omega
    have HF := hid (fit_of g0)
    have hcall := early_any D l _ w1 (HS.out.mono HB1.out) HF.out
    have H0 := hid h0
    clear h0 g0 g1 g2
    have s0 : w1.cell? ⟨R, 0, none⟩ = some (.int .i64 (D : Int)) := cell_of_heap HX1.out
    have s1 : w1.cell? ⟨R, 1, none⟩ = some (.slice A l.length c) := cell_of_heap HX1.out
    have sl0 := (Array.getElem?_eq_some_iff.1 HX1.out).1
    go_wp2_with fail
    refine hcall.mono ?_
    rintro e w2 ⟨Y, rfl, hy, hb2⟩
    have HB2 := hid (bl_trans HB1.out hb2)
    have hcut := cut_any D l _ Y t w2 HF.out htD (HS.out.mono HB2.out) hy
    clear HX1 HB1 hb2 s0 s1 sl0 hcall hy
    go_wp2_with fail
    refine hcut.mono ?_
    rintro e w3 ⟨⟨v, o, rfl, hi, hol, hw⟩, hb3⟩
    have HI := hid hi
    have HO := hid hol
    have HW := Lib.hid hw
    obtain ⟨A3, c3, rfl⟩ := hi.slice
    clear hi hol hw hcut
    go_wp2
    go_ret2
    exact ⟨⟨_, o, by rw [H0.out]; rfl, HI.out, .inr ⟨H0.out, HO.out, by rw [Int.toNat_natCast]; exact HW.out⟩⟩, bl_trans HB2.out hb3⟩
  · have he : (askedE days l day != 0) = true := by simp [h0]
    have H0 := hid h0
    clear h0
    go_wp2
    go_ret2
    exact ⟨⟨_, [], rfl, .inl ⟨rfl, rfl⟩, .inl ⟨H0.out, rfl⟩⟩, HB1.out⟩

/-- What is left above each reach. -/
def leftN (D : Nat) (l : List Rch) (i : Nat) : Int := come (rivP l) (planP (planE D l)) i (D : Int) - gone (planP (planE D l)) i (D : Int)
def leftL (days : Int) (l : List Rch) : List Int := if riverE days l = 0 then (List.range l.length).map (leftN days.toNat l) else []

set_option maxRecDepth 100000 in
set_option maxHeartbeats 8000000 in
theorem left_any (days : Int) (l : List Rch) (sr : Value) (w : World) (hl : l.length ≤ 1000) (hs : Rchs w sr l) :
    Calls Try.prog 27 #[.agg #[.int .i64 days, sr]] w fun e w' => (∃ v, e = .returned (.tuple #[v, .int .i64 (riverE days l)]) ∧ Ints w' v (leftL days l)) ∧ Below w.heap.size w w' := by
  obtain ⟨A, c, rfl⟩ := hs.slice
  have HX := hid (World.alloc_heap_new w (.cells #[.int .i64 days, .slice A l.length c] 24))
  have HB := hid (bl_alloc (bl_refl w) (.cells #[.int .i64 days, .slice A l.length c] 24))
  have HS := hid hs
  clear hs
  go_enter Try.func27, Try.ntmps27
  go_upto_region 1 with (fail)
  obtain ⟨R, hR⟩ : ∃ R, w.heap.size = R := ⟨_, rfl⟩
  obtain ⟨w0, hw0⟩ : ∃ w0, w.alloc (.cells #[.int .i64 days, .slice A l.length c] 24) = w0 := ⟨_, rfl⟩
  rw [hR] at HX ⊢
  rw [hw0] at HX HB ⊢
  clear hw0 hR
  have r0 : w0.cell? ⟨R, 0, none⟩ = some (.int .i64 days) := cell_of_heap HX.out
  have r1 : w0.cell? ⟨R, 1, none⟩ = some (.slice A l.length c) := cell_of_heap HX.out
  have l0 := (Array.getElem?_eq_some_iff.1 HX.out).1
  have hcall := check_any days l _ [] _ w0 hl (HS.out.mono HB.out) (by simp) (.inl ⟨rfl, rfl⟩)
  rw [check_none] at hcall
  go_wp2_with fail
  refine hcall.mono ?_
  rintro e w1 ⟨rfl, hb1⟩
  have HX1 := hid (heap_mono HX.out hb1)
  have HB1 := hid (bl_trans HB.out hb1)
  clear HX HB hb1 r0 r1 l0 hcall
  by_cases h0 : riverE days l = 0
  case neg =>
    have he : (riverE days l != 0) = true := by simp [h0]
    have e1 := hid (show leftL days l = [] by rw [leftL, if_neg h0])
    clear h0
    go_wp2
    go_ret2
    exact ⟨⟨_, rfl, .inl ⟨rfl, e1.out⟩⟩, HB1.out⟩
  have he : (riverE days l != 0) = false := by simp [h0]
  have F := fit_of h0
  have f1 := F.d1
  have f2 := F.d2
  have f3 := F.n1
  have f4 := F.n2
  obtain ⟨D, rfl⟩ : ∃ D : Nat, days = D := ⟨days.toNat, by omega⟩
  have e1 := hid (show leftL D l = (List.range l.length).map (leftN D l) by rw [leftL, if_pos h0, Int.toNat_natCast])
  have HF := hid F
  have HSM := hid (planE_small F)
  have hcall := early_any D l _ w1 (HS.out.mono HB1.out) F
  have s0 : w1.cell? ⟨R, 0, none⟩ = some (.int .i64 (D : Int)) := cell_of_heap HX1.out
  have s1 : w1.cell? ⟨R, 1, none⟩ = some (.slice A l.length c) := cell_of_heap HX1.out
  have sl0 := (Array.getElem?_eq_some_iff.1 HX1.out).1
  have H0 := hid h0
  clear h0 F
  go_wp2_with fail
  refine hcall.mono ?_
  rintro e w2 ⟨Y, rfl, hy, hb2⟩
  obtain ⟨gC, capC, y3, y1, gl, yl, hcc⟩ := hy.come
  have HCC := Lib.hid hcc
  have HX2 := hid (heap_mono HX1.out hb2)
  have HB2 := hid (bl_trans HB1.out hb2)
  have hgn : Hid (∀ i, i < 8 → w2.cell? ⟨Y, 5 + i, none⟩ = some (.int .i64 (goneF l (planP (planE D l)) D 0 i))) := by
    obtain ⟨wb, vp, vc, vb, Bs, hyy⟩ := hy
    exact fun i hi => hyy.cg (row8_at hi)
  have s1 : w2.cell? ⟨R, 1, none⟩ = some (.slice A l.length c) := cell_of_heap HX2.out
  have sl2 := (Array.getElem?_eq_some_iff.1 HX2.out).1
  have Y3 := hid y3
  clear HX1 HB1 hb2 s0 sl0 hcall hy hcc y3 y1
  obtain ⟨i2, hi2, hz2, hs2, hb2'⟩ := info_parts info2'
  go_wp2
  go_loopw [6, 18] (fun v p wr => ∃ k : Nat, k ≤ l.length ∧ p = .int .i64 k ∧ wr.ownsRow w2.heap.size 2 1 v k (ints ((List.range k).map (leftN D l))) ∧ Below w2.heap.size w2 wr) (fun _ p _ => l.length - (intOf p).toNat)
  case atStart => exact ⟨0, Nat.zero_le _, rfl, World.ownsRow_nil _ _ _ _, bl_refl _⟩
  case round =>
    obtain ⟨k, hk, rfl, hown, hB⟩ := hrel
    clear s1 sl2
    by_cases hlt : k < l.length
    · go_upto_region 9 with (fail)
      have y3 := cell_mono Y3.out hB
      have yl2 : Y < wr.heap.size := by have := hB.size; omega
      have gl2 : gC < wr.heap.size := by have := hB.size; omega
      have hd0 : wr.cell? ⟨R, 0, none⟩ = some (.int .i64 (D : Int)) := cell_of_heap (heap_mono HX2.out hB)
      have rl2 := (Array.getElem?_eq_some_iff.1 (heap_mono HX2.out hB)).1
      have cI := cell_mono (HCC.out D (Nat.le_refl _) k (by omega)) hB
      have gI := cell_mono (hgn.out k (by omega)) hB
      have hnow : nowF l (planP (planE D l)) D 0 k = come (rivP l) (planP (planE D l)) k (D : Int) := by unfold nowF; rw [if_pos hlt, if_neg (by omega)]
      have hgo : goneF l (planP (planE D l)) D 0 k = gone (planP (planE D l)) k (D : Int) := by unfold goneF; rw [if_pos hlt, if_neg (by omega)]
      rw [hnow] at cI
      rw [hgo] at gI
      have hcb := come_bd HF.out HSM.out hlt (D : Int) (by omega)
      have hgb := gone_range HSM.out k (D : Int) (by omega)
      have HLN : Hid (leftN D l k = come (rivP l) (planP (planE D l)) k (D : Int) - gone (planP (planE D l)) k (D : Int)) := rfl
      clear hnow hgo
      generalize come (rivP l) (planP (planE D l)) k (D : Int) = cm at *
      generalize gone (planP (planE D l)) k (D : Int) = gn at *
      have hw1 : IntKind.i64.wrap (cm - gn) = cm - gn := IntWalk.i64_in _ (by omega)
      have hDI : (D : Int) < (D : Int) + 1 := by omega
      have hk8 : (k : Int) < 8 := by omega
      have hown1 := own_mono hown (bl_drew (bl_refl wr))
      have hown2 := hown1.alloc (.cells #[.int .i64 (cm - gn)] 2)
      have hcx := cell_one_new wr.drew (.int .i64 (cm - gn)) 2
      have hb2 : Below wr.heap.size wr (wr.drew.alloc (.cells #[.int .i64 (cm - gn)] 2)) := bl_alloc (bl_drew (bl_refl _)) _
      have HB2 := hid hb2
      have HBB := hid hB
      have hsz := hB.size
      clear hown hown1 hb2 hB
      go_region_law (refine step_append_own rfl _ _ 36 rfl w2.heap.size 2 i2 (.int .i64 0) 1 8 Try.underlying36 hi2 hz2 hs2 hb2' rfl (by decide) u6 k _ rfl hown2 ⟨wr.heap.size, 0, none⟩ 1 1 [.int .i64 (cm - gn)] rfl rfl hcx (fun x hx => by simp at hx; subst hx; rfl) (by unfold maxLen; omega) (by omega) (by simp; omega) ?_; intro v' w5 hown' hgrow5 hnil5)
      all_goals
        have hb5 := bl_grown (bl_trans HBB.out HB2.out) hown2 (Nat.le_refl _) hgrow5
        have hst : Hid (w5.ownsRow w2.heap.size 2 1 v' (k + 1) (ints ((List.range (k + 1)).map (leftN D l)))) := by
          show w5.ownsRow _ _ _ _ _ _
          rw [List.range_succ, List.map_append]
          simp only [List.map_cons, List.map_nil, HLN.out, ints, List.map_append]
          exact hown'
        have HB5 := hid hb5
        clear hown' hgrow5 hnil5 hown2 hb5 hcx y3 yl2 gl2 hd0 rl2 cI gI
        go_wp2
        go_roundw
        case rel => exact ⟨k + 1, by omega, by go_num, hst.out, HB5.out⟩
        case measure => simp [intOf]; omega
    · obtain rfl : k = l.length := by omega
      have hz := ints_own (by simp) hown
      have HZ := hid hz
      clear hz hown
      go_wp2
      go_ret2
      exact ⟨⟨_, by rw [H0.out]; rfl, by rw [e1.out]; exact HZ.out⟩, bl_trans HB2.out hB⟩

end Go.Proofs.Ytbnmjbmlejifcaa
