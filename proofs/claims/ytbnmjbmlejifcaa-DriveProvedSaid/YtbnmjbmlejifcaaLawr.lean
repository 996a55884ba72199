/- DriveProved: the walk. -/
import Derived.Test.YtbnmjbmlejifcaaSlow
set_option linter.all false
namespace Go.Proofs.Ytbnmjbmlejifcaa
open Go Go.RowKit Go.Proofs
attribute [local go_sem] cell_grow frozen_grow

/-- What any cut bounds is no less than what can come. -/
theorem cut_ge {D : Nat} {l : List Rch} (h : riverE (D : Int) l = 0) {d : Int} (hd : 1 ≤ d ∧ d ≤ (D : Int)) {f : List Int} (hf : f.length = l.length) (hb : ∀ x ∈ f, 1 ≤ x ∧ x ≤ d + 1) : ccErr (D : Int) l d f = 0 ∧ mostE D l d ≤ ccVal (D : Int) l d f := by
  have F := fit_of h
  have ha : askedE (D : Int) l d = 0 := by
    unfold askedE
    rw [if_neg (by simpa using h), if_neg (by omega)]
  have he : ccErr (D : Int) l d f = 0 := by
    unfold ccErr
    rw [if_neg (by simpa using ha), if_neg (by simpa using hf), if_neg]
    rw [Bool.not_eq_false]
    unfold withinB
    rw [Bool.not_eq_true', List.any_eq_false]
    intro x hx
    have := hb x hx
    simp only [badB, Bool.or_eq_true, decide_eq_true_eq]
    omega
  refine ⟨he, ?_⟩
  obtain ⟨t, rfl⟩ : ∃ t : Nat, d = t := ⟨d.toNat, by omega⟩
  unfold ccVal
  rw [he, if_pos rfl, Int.toNat_natCast]
  refine most_bound F (by omega) fun j hj => ?_
  obtain ⟨y, hy⟩ := get_at (l := f) (k := j) (by omega)
  have := hb y (List.mem_of_getElem? hy)
  have e : cutF f j = y.toNat := by simp [cutF, List.getD, hy]
  rw [e]; omega
/-- A right plan's value. -/
def SlowV (D : Nat) (l : List Rch) (W : World) (v : Value) : Prop := ∃ L, Rows W v L ∧ Full l.length D L ∧ Right (rivP l) l.length D (planP L)
theorem SlowV.mono {D : Nat} {l : List Rch} {W W' : World} {v : Value} (h : SlowV D l W v) (hb : Below W.heap.size W W') : SlowV D l W' v := by
  obtain ⟨L, h1, h2⟩ := h
  exact ⟨L, h1.mono hb, h2⟩
def FirstV (n : Nat) (d : Int) (W : World) (v : Value) : Prop := ∃ f, Ints W v f ∧ f.length = n ∧ ∀ x ∈ f, 1 ≤ x ∧ x ≤ d + 1
theorem FirstV.mono {n : Nat} {d : Int} {W W' : World} {v : Value} (h : FirstV n d W v) (hb : Below W.heap.size W W') : FirstV n d W' v := by
  obtain ⟨L, h1, h2⟩ := h
  exact ⟨L, h1.mono hb, h2⟩
/-- A pair of a number and no error. -/
def TupP (p : Int → Prop) (_ : World) (v : Value) : Prop := ∃ k, v = .tuple #[.int .i64 k, .int .i64 0] ∧ p k
theorem TupP.mono {p : Int → Prop} {W W' : World} {v : Value} (h : TupP p W v) (_ : Below W.heap.size W W') : TupP p W' v := h
def IntP (p : Int → Prop) (_ : World) (v : Value) : Prop := ∃ k, v = .int .i64 k ∧ p k
theorem IntP.mono {p : Int → Prop} {W W' : World} {v : Value} (h : IntP p W v) (_ : Below W.heap.size W W') : IntP p W' v := h

set_option maxRecDepth 100000 in
set_option maxHeartbeats 8000000 in
theorem driveProved_any (days : Int) (l : List Rch) (sr : Value) (day : Int) (ys : List Int) (sb : Value) (zs : List Int) (sz : Value) (w : World) (hs : Rchs w sr l) (b1 : 0 ≤ day ∧ day < 256) (hys : Bytes w sb ys) (hzs : Bytes w sz zs) :
    Calls Try.prog 8 #[.agg #[.int .i64 days, sr], .int .u8 day, sb, sz] w fun e w' => e = .returned (.bool true) ∧ Below w.heap.size w w' := by
  obtain ⟨Ay, cy, rfl⟩ := hys.slice
  obtain ⟨Az, cz, rfl⟩ := hzs.slice
  have HYS := hid hys
  have HZS := hid hzs
  clear hys hzs
  obtain ⟨A, c, rfl⟩ := hs.slice
  have HX0 := hid (World.alloc_heap_new w (.cells #[.int .i64 days, .slice A l.length c] 24))
  have HB0 := hid (bl_alloc (bl_refl w) (.cells #[.int .i64 days, .slice A l.length c] 24))
  have HS := hid hs
  clear hs
  go_enter Try.func8, Try.ntmps8
  go_upto_region 1 with (fail)
  obtain ⟨R, hR⟩ : ∃ R, w.heap.size = R := ⟨_, rfl⟩
  obtain ⟨w0, hw0⟩ : ∃ w0, w.alloc (.cells #[.int .i64 days, .slice A l.length c] 24) = w0 := ⟨_, rfl⟩
  rw [hR] at HX0 ⊢
  rw [hw0] at HX0 HB0 ⊢
  clear hw0 hR
  by_cases h0 : ¬ riverE days l = 0
  · have hd0 : decide (riverE days l = 0) = false := by simpa using h0
    have sX0 : w0.cell? ⟨R, 0, none⟩ = some (.int .i64 days) := cell_of_heap HX0.out
    have sX1 : w0.cell? ⟨R, 1, none⟩ = some (.slice A l.length c) := cell_of_heap HX0.out
    have slX := (Array.getElem?_eq_some_iff.1 HX0.out).1
    have hcall := fine_any days l _ w0 (HS.out.mono HB0.out)
    rw [hd0] at hcall
    clear hd0 h0
    go_wp2_with fail
    refine hcall.mono ?_
    rintro e w1 ⟨rfl, hb1⟩
    clear hcall sX0 sX1 slX
    have HX1 := hid (heap_mono HX0.out hb1)
    have HB1 := hid (bl_trans HB0.out hb1)
    clear HX0  hb1
    have hworks := works_any w1
    go_wp2_with fail
    refine hworks.mono ?_
    rintro e w2 ⟨rfl, hb2⟩
    clear hworks
    go_wp2
    go_ret
    exact ⟨rfl, bl_trans HB1.out hb2⟩
  replace h0 := Decidable.not_not.1 h0
  have hd0 : decide (riverE days l = 0) = true := by simpa using h0
  have F0 := fit_of h0
  obtain ⟨D, rfl⟩ : ∃ D : Nat, days = D := ⟨days.toNat, by have := F0.d1; omega⟩
  have hD1 := F0.d1
  have hD2 := F0.d2
  have hl1 := F0.n1
  have hl8 := F0.n2
  have HR0 := hid h0
  have HF := hid F0
  clear F0
  have sX0 : w0.cell? ⟨R, 0, none⟩ = some (.int .i64 (D : Int)) := cell_of_heap HX0.out
  have sX1 : w0.cell? ⟨R, 1, none⟩ = some (.slice A l.length c) := cell_of_heap HX0.out
  have slX := (Array.getElem?_eq_some_iff.1 HX0.out).1
  have hcall := fine_any (D : Int) l _ w0 (HS.out.mono HB0.out)
  rw [hd0] at hcall
  clear hd0 h0
  go_wp2_with fail
  refine hcall.mono ?_
  rintro e w1 ⟨rfl, hb1⟩
  clear hcall sX0 sX1 slX
  have HX1 := hid (heap_mono HX0.out hb1)
  have HB1 := hid (bl_trans HB0.out hb1)
  clear HX0  hb1
  by_cases hyl : 400 < ys.length
  · have hy1 : decide ((400 : Int) < (ys.length : Int)) = true := by rw [decide_eq_true_eq]; omega
    have sX0 : w1.cell? ⟨R, 0, none⟩ = some (.int .i64 (D : Int)) := cell_of_heap HX1.out
    have sX1 : w1.cell? ⟨R, 1, none⟩ = some (.slice A l.length c) := cell_of_heap HX1.out
    have slX := (Array.getElem?_eq_some_iff.1 HX1.out).1
    have hworks := works_any w1
    go_wp2_with fail
    refine hworks.mono ?_
    rintro e w2 ⟨rfl, hb2⟩
    clear hworks
    go_wp2
    go_ret
    exact ⟨rfl, bl_trans HB1.out hb2⟩
  have hy1 : decide ((400 : Int) < (ys.length : Int)) = false := by rw [decide_eq_false_iff_not]; omega
  by_cases hzl : 20 < zs.length
  · have hz1 : decide ((20 : Int) < (zs.length : Int)) = true := by rw [decide_eq_true_eq]; omega
    have sX0 : w1.cell? ⟨R, 0, none⟩ = some (.int .i64 (D : Int)) := cell_of_heap HX1.out
    have sX1 : w1.cell? ⟨R, 1, none⟩ = some (.slice A l.length c) := cell_of_heap HX1.out
    have slX := (Array.getElem?_eq_some_iff.1 HX1.out).1
    have hworks := works_any w1
    go_wp2_with fail
    refine hworks.mono ?_
    rintro e w2 ⟨rfl, hb2⟩
    clear hworks
    go_wp2
    go_ret
    exact ⟨rfl, bl_trans HB1.out hb2⟩
  have hz1 : decide ((20 : Int) < (zs.length : Int)) = false := by rw [decide_eq_false_iff_not]; omega
  obtain ⟨p, hp, p1, p2⟩ : ∃ p, dayE (D : Int) day = p ∧ 1 ≤ p ∧ p ≤ (D : Int) := ⟨_, rfl, dayE_bd hD1⟩
  have ha : askedE (D : Int) l p = 0 := by
    unfold askedE
    rw [if_neg (by simpa using HR0.out), if_neg (by omega)]
  have HA1 := hid ha
  clear ha
  have HPL : Hid (planL (D : Int) l = planE (D : Int) l) := hid (by rw [planL, if_pos HR0.out])
  obtain ⟨hcp1, hcp2⟩ := early_cp HA1.out
  have HCP1 := hid hcp1
  have HCP2 := hid hcp2
  clear hcp1 hcp2
  have hfu := planE_full (D : Int) l
  rw [Int.toNat_natCast] at hfu
  have hpl1 : (planE (D : Int) l).length ≤ 1000 := by rw [hfu.1]; omega
  have HPR : Hid (∀ r ∈ planE (D : Int) l, r.length ≤ 1000) := hid fun r hr => by have := hfu.2 r hr; omega
  clear hfu
  have sX0 : w1.cell? ⟨R, 0, none⟩ = some (.int .i64 (D : Int)) := cell_of_heap HX1.out
  have sX1 : w1.cell? ⟨R, 1, none⟩ = some (.slice A l.length c) := cell_of_heap HX1.out
  have slX := (Array.getElem?_eq_some_iff.1 HX1.out).1
  have hcall := day_any (D : Int) l _ day w1 (HS.out.mono HB1.out) (by omega) b1
  rw [hp] at hcall
  go_wp2_with fail
  refine hcall.mono ?_
  rintro e w2 ⟨rfl, hb2⟩
  clear hcall sX0 sX1 slX
  have HX2 := hid (heap_mono HX1.out hb2)
  have HB2 := hid (bl_trans HB1.out hb2)
  clear HX1  hb2
  clear hp hy1 hz1
  have sX0 : w2.cell? ⟨R, 0, none⟩ = some (.int .i64 (D : Int)) := cell_of_heap HX2.out
  have sX1 : w2.cell? ⟨R, 1, none⟩ = some (.slice A l.length c) := cell_of_heap HX2.out
  have slX := (Array.getElem?_eq_some_iff.1 HX2.out).1
  have hcall := plan_any (D : Int) l _ w2 (by omega) (HS.out.mono HB2.out)
  rw [HR0.out, HPL.out] at hcall
  go_wp2_with fail
  refine hcall.mono ?_
  rintro e w3 ⟨⟨vp, rfl, hvp⟩, hb3⟩
  clear hcall sX0 sX1 slX
  have HX3 := hid (heap_mono HX2.out hb3)
  have HB3 := hid (bl_trans HB2.out hb3)
  clear HX2  hb3
  have HP3 := hid hvp
  clear hvp
  have sX0 : w3.cell? ⟨R, 0, none⟩ = some (.int .i64 (D : Int)) := cell_of_heap HX3.out
  have sX1 : w3.cell? ⟨R, 1, none⟩ = some (.slice A l.length c) := cell_of_heap HX3.out
  have slX := (Array.getElem?_eq_some_iff.1 HX3.out).1
  have hcall := most_any (D : Int) l _ p w3 (by omega) (HS.out.mono HB3.out)
  rw [HA1.out, if_pos rfl] at hcall
  go_wp2_with fail
  refine hcall.mono ?_
  rintro e w4 ⟨rfl, hb4⟩
  clear hcall sX0 sX1 slX
  have HX4 := hid (heap_mono HX3.out hb4)
  have HB4 := hid (bl_trans HB3.out hb4)
  have HP4 := hid (HP3.out.mono hb4)
  clear HX3 HP3 hb4
  have sX0 : w4.cell? ⟨R, 0, none⟩ = some (.int .i64 (D : Int)) := cell_of_heap HX4.out
  have sX1 : w4.cell? ⟨R, 1, none⟩ = some (.slice A l.length c) := cell_of_heap HX4.out
  have slX := (Array.getElem?_eq_some_iff.1 HX4.out).1
  have hcall := cutFn_any (D : Int) l _ p w4 (by omega) (HS.out.mono HB4.out)
  rw [HA1.out] at hcall
  go_wp2_with fail
  refine hcall.mono ?_
  rintro e w5 ⟨⟨vo, o, rfl, hvo, hco⟩, hb5⟩
  clear hcall sX0 sX1 slX
  have HX5 := hid (heap_mono HX4.out hb5)
  have HB5 := hid (bl_trans HB4.out hb5)
  have HP5 := hid (HP4.out.mono hb5)
  clear HX4 HP4 hb5
  have HV5 := hid hvo
  clear hvo
  obtain ⟨hc1, hc2⟩ := cutOk_bound HA1.out hco
  have hol : o.length ≤ 1000 := by
    rcases hco with ⟨h, _⟩ | ⟨_, h, _⟩
    · exact absurd HA1.out h
    · omega
  have HC1 := hid hc1
  have HC2 := hid hc2
  clear hc1 hc2 hco
  have sX0 : w5.cell? ⟨R, 0, none⟩ = some (.int .i64 (D : Int)) := cell_of_heap HX5.out
  have sX1 : w5.cell? ⟨R, 1, none⟩ = some (.slice A l.length c) := cell_of_heap HX5.out
  have slX := (Array.getElem?_eq_some_iff.1 HX5.out).1
  have hcall := checkPlan_any (D : Int) l _ _ vp p w5 (by omega) (HS.out.mono HB5.out) hpl1 HPR.out HP5.out.weak
  rw [HCP1.out, HCP2.out] at hcall
  go_wp2_with fail
  refine hcall.mono ?_
  rintro e w6 ⟨rfl, hb6⟩
  clear hcall sX0 sX1 slX
  have HX6 := hid (heap_mono HX5.out hb6)
  have HB6 := hid (bl_trans HB5.out hb6)
  have HP6 := hid (HP5.out.mono hb6)
  have HV6 := hid (HV5.out.mono hb6)
  clear HX5 HP5 HV5 hb6
  have sX0 : w6.cell? ⟨R, 0, none⟩ = some (.int .i64 (D : Int)) := cell_of_heap HX6.out
  have sX1 : w6.cell? ⟨R, 1, none⟩ = some (.slice A l.length c) := cell_of_heap HX6.out
  have slX := (Array.getElem?_eq_some_iff.1 HX6.out).1
  have hcall := checkCut_any (D : Int) l _ p o vo w6 (by omega) (HS.out.mono HB6.out) hol HV6.out
  rw [HC1.out, HC2.out] at hcall
  go_wp2_with fail
  refine hcall.mono ?_
  rintro e w7 ⟨rfl, hb7⟩
  clear hcall sX0 sX1 slX
  have HX7 := hid (heap_mono HX6.out hb7)
  have HB7 := hid (bl_trans HB6.out hb7)
  have HP7 := hid (HP6.out.mono hb7)
  have HV7 := hid (HV6.out.mono hb7)
  clear HX6 HP6 HV6 hb7
  have sX0 : w7.cell? ⟨R, 0, none⟩ = some (.int .i64 (D : Int)) := cell_of_heap HX7.out
  have sX1 : w7.cell? ⟨R, 1, none⟩ = some (.slice A l.length c) := cell_of_heap HX7.out
  have slX := (Array.getElem?_eq_some_iff.1 HX7.out).1
  have hcall := refCheckPlan_any (D : Int) l _ _ vp p w7 (HS.out.mono HB7.out) hpl1 HPR.out HP7.out.weak
  rw [HCP1.out, HCP2.out] at hcall
  go_wp2_with fail
  refine hcall.mono ?_
  rintro e w8 ⟨rfl, hb8⟩
  clear hcall sX0 sX1 slX
  have HX8 := hid (heap_mono HX7.out hb8)
  have HB8 := hid (bl_trans HB7.out hb8)
  have HP8 := hid (HP7.out.mono hb8)
  have HV8 := hid (HV7.out.mono hb8)
  clear HX7 HP7 HV7 hb8
  have sX0 : w8.cell? ⟨R, 0, none⟩ = some (.int .i64 (D : Int)) := cell_of_heap HX8.out
  have sX1 : w8.cell? ⟨R, 1, none⟩ = some (.slice A l.length c) := cell_of_heap HX8.out
  have slX := (Array.getElem?_eq_some_iff.1 HX8.out).1
  have hcall := refCheckCut_any (D : Int) l _ p o vo w8 (HS.out.mono HB8.out) hol HV8.out
  rw [HC1.out, HC2.out] at hcall
  go_wp2_with fail
  refine hcall.mono ?_
  rintro e w9 ⟨rfl, hb9⟩
  clear hcall sX0 sX1 slX
  have HX9 := hid (heap_mono HX8.out hb9)
  have HB9 := hid (bl_trans HB8.out hb9)
  have HP9 := hid (HP8.out.mono hb9)
  have HV9 := hid (HV8.out.mono hb9)
  clear HX8 HP8 HV8 hb9
  obtain ⟨mo, hmo⟩ : ∃ mo, mostE (D : Int) l p = mo := ⟨_, rfl⟩
  rw [hmo]
  have HCK : Hid (∀ v W, Below w.heap.size w W → SlowV D l W v → Calls Try.prog 21 #[.agg #[.int .i64 (D : Int), .slice A l.length c], v, .int .i64 p] W fun e w' => (∃ u, e = .returned u ∧ TupP (fun k => k ≤ mo) W u) ∧ Below W.heap.size W w') := hid fun v W hW hv => by
    obtain ⟨L, h1, h2, h3⟩ := hv
    obtain ⟨e1, e2⟩ := right_cp HA1.out h2 h3
    have hle : brought (rivP l) l.length (planP L) p ≤ mo := by
      obtain ⟨t, rfl⟩ : ∃ t : Nat, p = t := ⟨p.toNat, by omega⟩
      rw [← hmo]
      exact right_most HF.out h3 (by omega)
    have hc := checkPlan_any (D : Int) l _ L v p W (by omega) (HS.out.mono hW) (by rw [h2.1]; omega) (fun r hr => by have := h2.2 r hr; omega) h1.weak
    rw [e1, e2] at hc
    exact hc.mono fun e w' ⟨q1, q2⟩ => ⟨⟨_, q1, _, rfl, hle⟩, q2⟩
  have HCC : Hid (∀ v W, Below w.heap.size w W → FirstV l.length p W v → Calls Try.prog 35 #[.agg #[.int .i64 (D : Int), .slice A l.length c], .int .i64 p, v] W fun e w' => (∃ u, e = .returned u ∧ TupP (fun k => mo ≤ k) W u) ∧ Below W.heap.size W w') := hid fun v W hW hv => by
    obtain ⟨f, h1, h2, h3⟩ := hv
    obtain ⟨e1, e2⟩ := cut_ge HR0.out ⟨p1, p2⟩ h2 h3
    rw [hmo] at e2
    have hc := checkCut_any (D : Int) l _ p f v W (by omega) (HS.out.mono hW) (by omega) h1
    rw [e1] at hc
    exact hc.mono fun e w' ⟨q1, q2⟩ => ⟨⟨_, q1, _, rfl, e2⟩, q2⟩
  clear hmo HC1 HC2 HCP1 HCP2
  go_upto_region 15 with (fail)
  refine wp_region_vals [130, 131, 132, 133, 134, 135, 129, 136, 137, 21, 11] (fun seen u W => (seen 0 = true → u 130 = .agg #[.int .i64 (D : Int), .slice A l.length c]) ∧
    (seen 1 = true → u 131 = .agg #[.int .i64 (D : Int), .slice A l.length c]) ∧
    (seen 2 = true → u 132 = .slice Ay ys.length cy) ∧
    (seen 3 = true → SlowV D l W (u 133)) ∧
    (seen 4 = true → u 134 = .int .i64 p) ∧
    (seen 5 = true → TupP (fun k => k ≤ mo) W (u 135)) ∧
    (seen 6 = true → TupP (fun k => k ≤ mo) W (u 129)) ∧
    (seen 7 = true → IntP (fun k => k ≤ mo) W (u 136)) ∧
    (seen 8 = true → u 137 = .int .i64 0) ∧
    (seen 9 = true → IntP (fun k => k ≤ mo) W (u 21)) ∧
    (seen 10 = true → u 11 = .int .i64 0))
    (by kernel_rfl) (by kernel_rfl) (by kernel_rfl) (by simp) (by simp) ?_ ?_
  · intro i o ho seen a' w9 hb9 ⟨F0, F1, F2, F3, F4, F5, F6, F7, F8, F9, F10⟩ hv hsi hdep
    have hbx := heap_mono HX9.out hb9
    have c0 : w9.cell? ⟨R, 0, none⟩ = some (.int .i64 (D : Int)) := cell_of_heap hbx
    have c1 : w9.cell? ⟨R, 1, none⟩ = some (.slice A l.length c) := cell_of_heap hbx
    have hXl := (Array.getElem?_eq_some_iff.1 hbx).1
    rcases i with _ | _ | _ | _ | _ | _ | _ | _ | _ | _ | _ | i <;> simp only [List.getElem?_cons_zero, List.getElem?_cons_succ, List.getElem?_nil, Option.some.injEq, reduceCtorEq] at ho <;> subst ho
    · have x4 := val_at (hv 4 (by simp))
      simp [valsOf] at x4
      refine wp_value (.agg #[.int .i64 (D : Int), .slice A l.length c]) (w' := w9) (by simp [execOp, x4, go_sem, c0, c1, hXl]) ⟨_, rfl, hb9, ?_⟩
      exact ⟨by simp, by simpa using F1, by simpa using F2, by simpa using F3, by simpa using F4, by simpa using F5, by simpa using F6, by simpa using F7, by simpa using F8, by simpa using F9, by simpa using F10⟩
    · have x4 := val_at (hv 4 (by simp))
      simp [valsOf] at x4
      refine wp_value (.agg #[.int .i64 (D : Int), .slice A l.length c]) (w' := w9) (by simp [execOp, x4, go_sem, c0, c1, hXl]) ⟨_, rfl, hb9, ?_⟩
      exact ⟨by simpa using F0, by simp, by simpa using F2, by simpa using F3, by simpa using F4, by simpa using F5, by simpa using F6, by simpa using F7, by simpa using F8, by simpa using F9, by simpa using F10⟩
    · have x2 := val_at (hv 2 (by simp))
      simp [valsOf] at x2
      refine wp_value (.slice Ay ys.length cy) (w' := w9) (by simp [execOp, x2, go_sem, c0, c1, hXl]) ⟨_, rfl, hb9, ?_⟩
      exact ⟨by simpa using F0, by simpa using F1, by simp, by simpa using F3, by simpa using F4, by simpa using F5, by simpa using F6, by simpa using F7, by simpa using F8, by simpa using F9, by simpa using F10⟩
    · have d1 := hdep ⟨1, .data⟩ (by simp) rfl
      have e1 := val_at (F1 d1)
      have d2 := hdep ⟨2, .data⟩ (by simp) rfl
      have e2 := val_at (F2 d2)
      refine wp_calls (f := 46) (args := #[.agg #[.int .i64 (D : Int), .slice A l.length c], .slice Ay ys.length cy]) (w' := w9) (by simp [execOp, e1, e2, go_sem, valsOf]) (slow_any D l _ ys _ w9 (HS.out.mono (bl_trans HB9.out hb9)) HF.out (HYS.out.mono (bl_trans HB9.out hb9)) (by omega)) ?_
      rintro e w10 ⟨⟨v46, L46, rfl, q1, q2, q3⟩, hg⟩
      refine ⟨_, rfl, _, rfl, bl_trans hb9 hg, ?_⟩
      exact ⟨by simpa using F0, by simpa using F1, by simpa using F2, by simpa using ⟨L46, q1, q2, q3⟩, by simpa using F4, by simpa using fun h => (F5 h).mono hg, by simpa using fun h => (F6 h).mono hg, by simpa using fun h => (F7 h).mono hg, by simpa using F8, by simpa using fun h => (F9 h).mono hg, by simpa using F10⟩
    · have x9 := val_at (hv 9 (by simp))
      simp [valsOf] at x9
      refine wp_value (.int .i64 p) (w' := w9) (by simp [execOp, x9, go_sem, c0, c1, hXl]) ⟨_, rfl, hb9, ?_⟩
      exact ⟨by simpa using F0, by simpa using F1, by simpa using F2, by simpa using F3, by simp, by simpa using F5, by simpa using F6, by simpa using F7, by simpa using F8, by simpa using F9, by simpa using F10⟩
    · have d0 := hdep ⟨0, .data⟩ (by simp) rfl
      have e0 := val_at (F0 d0)
      have d3 := hdep ⟨3, .data⟩ (by simp) rfl
      have d4 := hdep ⟨4, .data⟩ (by simp) rfl
      have e4 := val_at (F4 d4)
      obtain ⟨s133, hs133, hsv⟩ : ∃ s, valsOf a' 133 = s ∧ SlowV D l w9 s := ⟨_, rfl, F3 d3⟩
      have e133 := val_at hs133
      refine wp_calls (f := 21) (args := #[.agg #[.int .i64 (D : Int), .slice A l.length c], s133, .int .i64 p]) (w' := w9) (by simp [execOp, e0, e133, e4, go_sem, valsOf]) (HCK.out s133 w9 (bl_trans HB9.out hb9) hsv) ?_
      rintro e w10 ⟨⟨u135, rfl, hu⟩, hg⟩
      refine ⟨_, rfl, _, rfl, bl_trans hb9 hg, ?_⟩
      have hu2 := hu.mono hg
      exact ⟨by simpa using F0, by simpa using F1, by simpa using F2, by simpa using fun h => (F3 h).mono hg, by simpa using F4, by simpa using hu2, by simpa using fun h => (F6 h).mono hg, by simpa using fun h => (F7 h).mono hg, by simpa using F8, by simpa using fun h => (F9 h).mono hg, by simpa using F10⟩
    · have d5 := hdep ⟨5, .data⟩ (by simp) rfl
      obtain ⟨k, hk, hkp⟩ := F5 d5
      have ek := val_at hk
      refine wp_value (.tuple #[.int .i64 k, .int .i64 0]) (w' := w9) (by simp [execOp, ek, go_sem]) ⟨_, rfl, hb9, ?_⟩
      exact ⟨by simpa using F0, by simpa using F1, by simpa using F2, by simpa using F3, by simpa using F4, by simpa using F5, by simpa using ⟨k, rfl, hkp⟩, by simpa using F7, by simpa using F8, by simpa using F9, by simpa using F10⟩
    · have d6 := hdep ⟨6, .data⟩ (by simp) rfl
      obtain ⟨k, hk, hkp⟩ := F6 d6
      have ek := val_at hk
      refine wp_value (.int .i64 k) (w' := w9) (by simp [execOp, ek, go_sem]) ⟨_, rfl, hb9, ?_⟩
      exact ⟨by simpa using F0, by simpa using F1, by simpa using F2, by simpa using F3, by simpa using F4, by simpa using F5, by simpa using F6, by simpa using ⟨k, rfl, hkp⟩, by simpa using F8, by simpa using F9, by simpa using F10⟩
    · have d6 := hdep ⟨6, .data⟩ (by simp) rfl
      obtain ⟨k, hk, hkp⟩ := F6 d6
      have ek := val_at hk
      refine wp_value (.int .i64 0) (w' := w9) (by simp [execOp, ek, go_sem]) ⟨_, rfl, hb9, ?_⟩
      exact ⟨by simpa using F0, by simpa using F1, by simpa using F2, by simpa using F3, by simpa using F4, by simpa using F5, by simpa using F6, by simpa using F7, by simp, by simpa using F9, by simpa using F10⟩
    · have d7 := hdep ⟨7, .data⟩ (by simp) rfl
      obtain ⟨k, hk, hkp⟩ := F7 d7
      have ek := val_at hk
      refine wp_value (.int .i64 k) (w' := w9) (by simp [execOp, ek, go_sem]) ⟨_, rfl, hb9, ?_⟩
      exact ⟨by simpa using F0, by simpa using F1, by simpa using F2, by simpa using F3, by simpa using F4, by simpa using F5, by simpa using F6, by simpa using F7, by simpa using F8, by simpa using ⟨k, rfl, hkp⟩, by simpa using F10⟩
    · have d8 := hdep ⟨8, .data⟩ (by simp) rfl
      have e8 := val_at (F8 d8)
      refine wp_value (.int .i64 0) (w' := w9) (by simp [execOp, e8, go_sem, c0, c1, hXl]) ⟨_, rfl, hb9, ?_⟩
      exact ⟨by simpa using F0, by simpa using F1, by simpa using F2, by simpa using F3, by simpa using F4, by simpa using F5, by simpa using F6, by simpa using F7, by simpa using F8, by simpa using F9, by simp⟩
  intro u w10 hb10 seen hall ⟨F0, F1, F2, F3, F4, F5, F6, F7, F8, F9, F10⟩
  replace F0 := F0 (hall 0 (by decide))
  replace F1 := F1 (hall 1 (by decide))
  replace F2 := F2 (hall 2 (by decide))
  replace F3 := F3 (hall 3 (by decide))
  replace F4 := F4 (hall 4 (by decide))
  replace F5 := F5 (hall 5 (by decide))
  replace F6 := F6 (hall 6 (by decide))
  replace F7 := F7 (hall 7 (by decide))
  replace F8 := F8 (hall 8 (by decide))
  replace F9 := F9 (hall 9 (by decide))
  replace F10 := F10 (hall 10 (by decide))
  obtain ⟨kk, hkk, hkkp⟩ := F9
  simp only [setAll, hkk, F10]
  clear hkk F0 F1 F2 F3 F4 F5 F6 F7 F8 F10 hall seen
  have HX10 := hid (heap_mono HX9.out hb10)
  have HB10 := hid (bl_trans HB9.out hb10)
  have HP10 := hid (HP9.out.mono hb10)
  have HV10 := hid (HV9.out.mono hb10)
  clear HX9 HP9 HV9 hb10
  go_upto_region 16 with (fail)
  refine wp_region_vals [139, 140, 141, 142, 143, 144, 145, 138, 146, 147, 22, 13] (fun seen u W => (seen 0 = true → u 139 = .agg #[.int .i64 (D : Int), .slice A l.length c]) ∧
    (seen 1 = true → u 140 = .int .i64 p) ∧
    (seen 2 = true → u 141 = .agg #[.int .i64 (D : Int), .slice A l.length c]) ∧
    (seen 3 = true → u 142 = .int .i64 p) ∧
    (seen 4 = true → u 143 = .slice Az zs.length cz) ∧
    (seen 5 = true → FirstV l.length p W (u 144)) ∧
    (seen 6 = true → TupP (fun k => mo ≤ k) W (u 145)) ∧
    (seen 7 = true → TupP (fun k => mo ≤ k) W (u 138)) ∧
    (seen 8 = true → IntP (fun k => mo ≤ k) W (u 146)) ∧
    (seen 9 = true → u 147 = .int .i64 0) ∧
    (seen 10 = true → IntP (fun k => mo ≤ k) W (u 22)) ∧
    (seen 11 = true → u 13 = .int .i64 0))
    (by kernel_rfl) (by kernel_rfl) (by kernel_rfl) (by simp) (by simp) ?_ ?_
  · intro i o ho seen a' w9 hb9 ⟨F0, F1, F2, F3, F4, F5, F6, F7, F8, F9, F10, F11⟩ hv hsi hdep
    have hbx := heap_mono HX10.out hb9
    have c0 : w9.cell? ⟨R, 0, none⟩ = some (.int .i64 (D : Int)) := cell_of_heap hbx
    have c1 : w9.cell? ⟨R, 1, none⟩ = some (.slice A l.length c) := cell_of_heap hbx
    have hXl := (Array.getElem?_eq_some_iff.1 hbx).1
    rcases i with _ | _ | _ | _ | _ | _ | _ | _ | _ | _ | _ | _ | i <;> simp only [List.getElem?_cons_zero, List.getElem?_cons_succ, List.getElem?_nil, Option.some.injEq, reduceCtorEq] at ho <;> subst ho
    · have x4 := val_at (hv 4 (by simp))
      simp [valsOf] at x4
      refine wp_value (.agg #[.int .i64 (D : Int), .slice A l.length c]) (w' := w9) (by simp [execOp, x4, go_sem, c0, c1, hXl]) ⟨_, rfl, hb9, ?_⟩
      exact ⟨by simp, by simpa using F1, by simpa using F2, by simpa using F3, by simpa using F4, by simpa using F5, by simpa using F6, by simpa using F7, by simpa using F8, by simpa using F9, by simpa using F10, by simpa using F11⟩
    · have x9 := val_at (hv 9 (by simp))
      simp [valsOf] at x9
      refine wp_value (.int .i64 p) (w' := w9) (by simp [execOp, x9, go_sem, c0, c1, hXl]) ⟨_, rfl, hb9, ?_⟩
      exact ⟨by simpa using F0, by simp, by simpa using F2, by simpa using F3, by simpa using F4, by simpa using F5, by simpa using F6, by simpa using F7, by simpa using F8, by simpa using F9, by simpa using F10, by simpa using F11⟩
    · have x4 := val_at (hv 4 (by simp))
      simp [valsOf] at x4
      refine wp_value (.agg #[.int .i64 (D : Int), .slice A l.length c]) (w' := w9) (by simp [execOp, x4, go_sem, c0, c1, hXl]) ⟨_, rfl, hb9, ?_⟩
      exact ⟨by simpa using F0, by simpa using F1, by simp, by simpa using F3, by simpa using F4, by simpa using F5, by simpa using F6, by simpa using F7, by simpa using F8, by simpa using F9, by simpa using F10, by simpa using F11⟩
    · have x9 := val_at (hv 9 (by simp))
      simp [valsOf] at x9
      refine wp_value (.int .i64 p) (w' := w9) (by simp [execOp, x9, go_sem, c0, c1, hXl]) ⟨_, rfl, hb9, ?_⟩
      exact ⟨by simpa using F0, by simpa using F1, by simpa using F2, by simp, by simpa using F4, by simpa using F5, by simpa using F6, by simpa using F7, by simpa using F8, by simpa using F9, by simpa using F10, by simpa using F11⟩
    · have x3 := val_at (hv 3 (by simp))
      simp [valsOf] at x3
      refine wp_value (.slice Az zs.length cz) (w' := w9) (by simp [execOp, x3, go_sem, c0, c1, hXl]) ⟨_, rfl, hb9, ?_⟩
      exact ⟨by simpa using F0, by simpa using F1, by simpa using F2, by simpa using F3, by simp, by simpa using F5, by simpa using F6, by simpa using F7, by simpa using F8, by simpa using F9, by simpa using F10, by simpa using F11⟩
    · have d2 := hdep ⟨2, .data⟩ (by simp) rfl
      have e2 := val_at (F2 d2)
      have d3 := hdep ⟨3, .data⟩ (by simp) rfl
      have e3 := val_at (F3 d3)
      have d4 := hdep ⟨4, .data⟩ (by simp) rfl
      have e4 := val_at (F4 d4)
      refine wp_calls (f := 47) (args := #[.agg #[.int .i64 (D : Int), .slice A l.length c], .int .i64 p, .slice Az zs.length cz]) (w' := w9) (by simp [execOp, e2, e3, e4, go_sem, valsOf]) (firstFn_any (D : Int) l _ p zs _ w9 (HS.out.mono (bl_trans HB10.out hb9)) hl8 (by omega) (HZS.out.mono (bl_trans HB10.out hb9)) (by omega)) ?_
      rintro e w10 ⟨⟨v47, f47, rfl, q1, q2, q3⟩, hg⟩
      refine ⟨_, rfl, _, rfl, bl_trans hb9 hg, ?_⟩
      exact ⟨by simpa using F0, by simpa using F1, by simpa using F2, by simpa using F3, by simpa using F4, by simpa using ⟨f47, q1, q2, q3⟩, by simpa using fun h => (F6 h).mono hg, by simpa using fun h => (F7 h).mono hg, by simpa using fun h => (F8 h).mono hg, by simpa using F9, by simpa using fun h => (F10 h).mono hg, by simpa using F11⟩
    · have d0 := hdep ⟨0, .data⟩ (by simp) rfl
      have e0 := val_at (F0 d0)
      have d1 := hdep ⟨1, .data⟩ (by simp) rfl
      have e1 := val_at (F1 d1)
      have d5 := hdep ⟨5, .data⟩ (by simp) rfl
      obtain ⟨s144, hs144, hsv⟩ : ∃ s, valsOf a' 144 = s ∧ FirstV l.length p w9 s := ⟨_, rfl, F5 d5⟩
      have e144 := val_at hs144
      refine wp_calls (f := 35) (args := #[.agg #[.int .i64 (D : Int), .slice A l.length c], .int .i64 p, s144]) (w' := w9) (by simp [execOp, e0, e1, e144, go_sem, valsOf]) (HCC.out s144 w9 (bl_trans HB10.out hb9) hsv) ?_
      rintro e w10 ⟨⟨u145, rfl, hu⟩, hg⟩
      refine ⟨_, rfl, _, rfl, bl_trans hb9 hg, ?_⟩
      have hu2 := hu.mono hg
      exact ⟨by simpa using F0, by simpa using F1, by simpa using F2, by simpa using F3, by simpa using F4, by simpa using fun h => (F5 h).mono hg, by simpa using hu2, by simpa using fun h => (F7 h).mono hg, by simpa using fun h => (F8 h).mono hg, by simpa using F9, by simpa using fun h => (F10 h).mono hg, by simpa using F11⟩
    · have d6 := hdep ⟨6, .data⟩ (by simp) rfl
      obtain ⟨k, hk, hkp⟩ := F6 d6
      have ek := val_at hk
      refine wp_value (.tuple #[.int .i64 k, .int .i64 0]) (w' := w9) (by simp [execOp, ek, go_sem]) ⟨_, rfl, hb9, ?_⟩
      exact ⟨by simpa using F0, by simpa using F1, by simpa using F2, by simpa using F3, by simpa using F4, by simpa using F5, by simpa using F6, by simpa using ⟨k, rfl, hkp⟩, by simpa using F8, by simpa using F9, by simpa using F10, by simpa using F11⟩
    · have d7 := hdep ⟨7, .data⟩ (by simp) rfl
      obtain ⟨k, hk, hkp⟩ := F7 d7
      have ek := val_at hk
      refine wp_value (.int .i64 k) (w' := w9) (by simp [execOp, ek, go_sem]) ⟨_, rfl, hb9, ?_⟩
      exact ⟨by simpa using F0, by simpa using F1, by simpa using F2, by simpa using F3, by simpa using F4, by simpa using F5, by simpa using F6, by simpa using F7, by simpa using ⟨k, rfl, hkp⟩, by simpa using F9, by simpa using F10, by simpa using F11⟩
    · have d7 := hdep ⟨7, .data⟩ (by simp) rfl
      obtain ⟨k, hk, hkp⟩ := F7 d7
      have ek := val_at hk
      refine wp_value (.int .i64 0) (w' := w9) (by simp [execOp, ek, go_sem]) ⟨_, rfl, hb9, ?_⟩
      exact ⟨by simpa using F0, by simpa using F1, by simpa using F2, by simpa using F3, by simpa using F4, by simpa using F5, by simpa using F6, by simpa using F7, by simpa using F8, by simp, by simpa using F10, by simpa using F11⟩
    · have d8 := hdep ⟨8, .data⟩ (by simp) rfl
      obtain ⟨k, hk, hkp⟩ := F8 d8
      have ek := val_at hk
      refine wp_value (.int .i64 k) (w' := w9) (by simp [execOp, ek, go_sem]) ⟨_, rfl, hb9, ?_⟩
      exact ⟨by simpa using F0, by simpa using F1, by simpa using F2, by simpa using F3, by simpa using F4, by simpa using F5, by simpa using F6, by simpa using F7, by simpa using F8, by simpa using F9, by simpa using ⟨k, rfl, hkp⟩, by simpa using F11⟩
    · have d9 := hdep ⟨9, .data⟩ (by simp) rfl
      have e9 := val_at (F9 d9)
      refine wp_value (.int .i64 0) (w' := w9) (by simp [execOp, e9, go_sem, c0, c1, hXl]) ⟨_, rfl, hb9, ?_⟩
      exact ⟨by simpa using F0, by simpa using F1, by simpa using F2, by simpa using F3, by simpa using F4, by simpa using F5, by simpa using F6, by simpa using F7, by simpa using F8, by simpa using F9, by simpa using F10, by simp⟩
  intro u w11 hb11 seen hall ⟨F0, F1, F2, F3, F4, F5, F6, F7, F8, F9, F10, F11⟩
  replace F0 := F0 (hall 0 (by decide))
  replace F1 := F1 (hall 1 (by decide))
  replace F2 := F2 (hall 2 (by decide))
  replace F3 := F3 (hall 3 (by decide))
  replace F4 := F4 (hall 4 (by decide))
  replace F5 := F5 (hall 5 (by decide))
  replace F6 := F6 (hall 6 (by decide))
  replace F7 := F7 (hall 7 (by decide))
  replace F8 := F8 (hall 8 (by decide))
  replace F9 := F9 (hall 9 (by decide))
  replace F10 := F10 (hall 10 (by decide))
  replace F11 := F11 (hall 11 (by decide))
  obtain ⟨cc, hcc, hccp⟩ := F10
  simp only [setAll, hcc, F11]
  clear hcc F0 F1 F2 F3 F4 F5 F6 F7 F8 F9 F11 hall seen
  have HX11 := hid (heap_mono HX10.out hb11)
  have HB11 := hid (bl_trans HB10.out hb11)
  have HP11 := hid (HP10.out.mono hb11)
  have HV11 := hid (HV10.out.mono hb11)
  clear HX10 HP10 HV10 hb11
  have t1 : decide (kk ≤ mo) = true := decide_eq_true hkkp
  have t2 : decide (mo ≤ cc) = true := decide_eq_true hccp
  clear hkkp hccp HCK HCC
  have hworks := works_any w11
  go_wp2_with fail
  refine hworks.mono ?_
  rintro e w12 ⟨rfl, hb12⟩
  clear hworks
  go_wp2
  go_ret
  exact ⟨rfl, bl_trans HB11.out hb12⟩

end Go.Proofs.Ytbnmjbmlejifcaa
