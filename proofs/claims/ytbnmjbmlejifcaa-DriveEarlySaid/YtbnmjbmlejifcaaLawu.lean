/- DriveEarly: what is left, is under way or at the boom (plain), and the walk. -/
import Derived.Test.YtbnmjbmlejifcaaSlow
set_option linter.all false
namespace Go.Proofs.Ytbnmjbmlejifcaa
open Go Go.RowKit Go.Proofs
attribute [local go_sem] cell_grow frozen_grow

section
variable {D : Nat} {l : List Rch}
/-- What is left of a reach, and what is under way from it. -/
def restN (D : Nat) (l : List Rch) (i : Nat) : Int := leftN D l i + gone (planP (planE D l)) i (D : Int) - gone (planP (planE D l)) i ((D : Int) - (rivP l i).takes)
def logN (l : List Rch) (k : Nat) : Int := sumN (fun u => (rivP l u).logs) k
def gotN (D : Nat) (l : List Rch) (k : Nat) : Int := mostE D l (D : Int) + sumN (restN D l) k
theorem logN_succ {k : Nat} {x : Rch} (hx : l[k]? = some x) : logN l (k + 1) = logN l k + x.logs := by
  unfold logN
  rw [sumN_succ, riv_at hx]
theorem gotN_succ (k : Nat) : gotN D l (k + 1) = gotN D l k + restN D l k := by
  unfold gotN
  rw [sumN_succ]
  omega
/-- ALL LOGS ARE LEFT, UNDER WAY, OR AT THE BOOM. -/
theorem early_total (F : Fit (D : Int) l) : gotN D l l.length = logN l l.length := by
  have V := riv_of F
  have hfl := flow V (fun u => gone (planP (planE D l)) u ((D : Int) - (rivP l u).takes))
  have hcome : ∀ i, i < l.length → come (rivP l) (planP (planE D l)) i (D : Int) = (rivP l i).logs + sumN (fun u => if (rivP l u).down = (i : Int) then gone (planP (planE D l)) u ((D : Int) - (rivP l u).takes) else 0) i := fun i hi => by
    obtain ⟨x, hx⟩ := get_at hi
    have hr := F.ready i x hx
    unfold come
    rw [if_pos (by rw [riv_at hx]; omega)]
  have h1 : sumN (fun i => come (rivP l) (planP (planE D l)) i (D : Int)) l.length = logN l l.length + sumN (fun u => if (rivP l u).down = -1 then 0 else gone (planP (planE D l)) u ((D : Int) - (rivP l u).takes)) l.length := by
    rw [sumN_congr hcome, sumN_add, hfl]
    rfl
  have h2 : sumN (fun u => if (rivP l u).down = -1 then 0 else gone (planP (planE D l)) u ((D : Int) - (rivP l u).takes)) l.length + mostE D l (D : Int) = sumN (fun u => gone (planP (planE D l)) u ((D : Int) - (rivP l u).takes)) l.length := by
    unfold mostE brought
    rw [← sumN_add]
    refine sumN_congr fun u hu => ?_
    split <;> simp
  have h3 : sumN (restN D l) l.length = sumN (fun i => come (rivP l) (planP (planE D l)) i (D : Int)) l.length - sumN (fun u => gone (planP (planE D l)) u ((D : Int) - (rivP l u).takes)) l.length := by
    rw [← sumN_sub]
    refine sumN_congr fun i hi => ?_
    unfold restN leftN
    omega
  unfold gotN
  omega
theorem left_pos (F : Fit (D : Int) l) {i : Nat} (hi : i < l.length) : 0 ≤ leftN D l i := by
  have h := right_sum (riv_of F) (right_of F) hi (Nat.le_refl D)
  unfold leftN
  omega
theorem rest_pos (F : Fit (D : Int) l) {i : Nat} (hi : i < l.length) : leftN D l i ≤ restN D l i := by
  have V := riv_of F
  have htk := V.takes i hi
  have h := gone_mono (P := planP (planE D l)) (i := i) (D := D) (fun d hd => (right_of F).ge i d hi hd) (s := (D : Int) - (rivP l i).takes) (t := (D : Int)) (by omega) (by omega)
  unfold restN
  omega
theorem log_bd (F : Fit (D : Int) l) {k : Nat} (hk : k ≤ l.length) : 0 ≤ logN l k ∧ logN l k ≤ 80000 := by
  have h8 := F.n2
  have key : ∀ u, u < k → 0 ≤ (rivP l u).logs ∧ (rivP l u).logs ≤ 10000 := fun u hu => by
    obtain ⟨x, hx⟩ := get_at (l := l) (k := u) (by omega)
    rw [riv_at hx]
    exact F.logs u x hx
  have h1 := sumN_nonneg (f := fun u => (rivP l u).logs) (n := k) fun u hu => (key u hu).1
  have h2 := sumN_bd (f := fun u => (rivP l u).logs) (n := k) (c := 10000) fun u hu => (key u hu).2
  refine ⟨h1, ?_⟩
  have : (k : Int) * 10000 ≤ 8 * 10000 := Int.mul_le_mul_of_nonneg_right (by omega) (by decide)
  unfold logN
  omega
theorem got_bd (F : Fit (D : Int) l) {k : Nat} (hk : k ≤ l.length) : 0 ≤ gotN D l k ∧ gotN D l k ≤ 80000 := by
  have hm := (most_nonneg F (Nat.le_refl D)).1
  have hpos : ∀ i, i < l.length → 0 ≤ restN D l i := fun i hi => by
    have h1 := left_pos F hi
    have h2 := rest_pos F hi
    omega
  have h1 := sumN_nonneg (f := restN D l) (n := k) fun i hi => hpos i (by omega)
  have h2 := sumN_mono (f := restN D l) (m := k) (n := l.length) hpos hk
  have h3 := early_total F
  have h4 := (log_bd F (Nat.le_refl l.length)).2
  unfold gotN at h3 ⊢
  omega
theorem left_bd (F : Fit (D : Int) l) {i : Nat} (hi : i < l.length) : 0 ≤ leftN D l i ∧ leftN D l i ≤ 80000 := by
  have h1 := left_pos F hi
  have h2 := rest_pos F hi
  have h3 := (got_bd F (k := i + 1) (by omega)).2
  have h4 := (got_bd F (k := i) (by omega)).1
  rw [gotN_succ] at h3
  omega
theorem left_get (h : riverE (D : Int) l = 0) {i : Nat} (hi : i < l.length) : (leftL (D : Int) l)[i]? = some (leftN D l i) := by
  unfold leftL
  rw [if_pos h, List.getElem?_map, List.getElem?_range hi, Int.toNat_natCast]
  rfl
theorem left_len (h : riverE (D : Int) l = 0) : (leftL (D : Int) l).length = l.length := by
  unfold leftL
  rw [if_pos h]
  simp
end
theorem goneB_any (L : List (List Int)) (s : Value) (i : Nat) (t : Int) (w : World) (hs : Rows w s L) (hi : i < L.length) (hsm : Small L) (ht : -1000 ≤ t ∧ t ≤ 1000) :
    Calls Try.prog 48 #[s, .int .i64 i, .int .i64 t] w fun e w' => e = .returned (.int .i64 (gone (planP L) i t)) ∧ Below w.heap.size w w' :=
  (gone_any L s i t w hs hi hsm ht).mono fun e w' ⟨h1, h2⟩ => ⟨h1, by rw [h2]; exact bl_refl _⟩
theorem right_small {D : Nat} {l : List Rch} (F : Fit (D : Int) l) {L : List (List Int)} (hf : Full l.length D L) (H : Right (rivP l) l.length D (planP L)) : Small L := by
  refine small_of hf (by have := F.d2; omega) fun j e hj he => ⟨H.ge j e hj he, ?_⟩
  have h1 := H.cap j e hj he
  obtain ⟨x, hx⟩ := get_at hj
  have hp := F.pass j x hx
  unfold capD at h1
  rw [riv_at hx] at h1
  split at h1 <;> omega

set_option maxRecDepth 100000 in
set_option maxHeartbeats 8000000 in
theorem driveEarly_any (days : Int) (l : List Rch) (sr : Value) (ys : List Int) (sb : Value) (reach day : Int) (w : World) (hs : Rchs w sr l) (hys : Bytes w sb ys) (b1 : 0 ≤ reach ∧ reach < 256) (b2 : 0 ≤ day ∧ day < 256) :
    Calls Try.prog 9 #[.agg #[.int .i64 days, sr], sb, .int .u8 reach, .int .u8 day] w fun e w' => e = .returned (.bool true) ∧ Below w.heap.size w w' := by
  obtain ⟨Ay, cy, rfl⟩ := hys.slice
  have HYS := hid hys
  clear hys
  obtain ⟨A, c, rfl⟩ := hs.slice
  have HX0 := hid (World.alloc_heap_new w (.cells #[.int .i64 days, .slice A l.length c] 24))
  have HB0 := hid (bl_alloc (bl_refl w) (.cells #[.int .i64 days, .slice A l.length c] 24))
  have HS := hid hs
  clear hs
  go_enter Try.func9, Try.ntmps9
  go_upto_region 1 with (fail)
  obtain ⟨R, hR⟩ : ∃ R, w.heap.size = R := ⟨_, rfl⟩
  obtain ⟨w0, hw0⟩ : ∃ w0, w.alloc (.cells #[.int .i64 days, .slice A l.length c] 24) = w0 := ⟨_, rfl⟩
  rw [hR] at HX0 ⊢
  rw [hw0] at HX0 HB0 ⊢
  clear hw0 hR
  by_cases h0 : ¬ riverE days l = 0
  · have hd0 : decide (riverE days l = 0) = false := by simpa using h0
    have sX0 : w0.cell? ⟨R, 0, none⟩ = some (.int .i64 days) := cell_of_heap HX0.out
    have sX1 : w0.cell? ⟨R, 1, none⟩ = some (.slice A l.length c) := cell_of_heap HX0.out
    have slX := (Array.getElem?_eq_some_iff.1 HX0.out).1
    have hcall := fine_any days l _ w0 (HS.out.mono HB0.out)
    rw [hd0] at hcall
    clear hd0 h0
    go_wp2_with fail
    refine hcall.mono ?_
    rintro e w1 ⟨rfl, hb1⟩
    clear hcall sX0 sX1 slX
    have HX1 := hid (heap_mono HX0.out hb1)
    have HB1 := hid (bl_trans HB0.out hb1)
    clear HX0  hb1
    have hworks := works_any w1
    go_wp2_with fail
    refine hworks.mono ?_
    rintro e w2 ⟨rfl, hb2⟩
    clear hworks
    go_wp2
    go_ret
    exact ⟨rfl, bl_trans HB1.out hb2⟩
  replace h0 := Decidable.not_not.1 h0
  have hd0 : decide (riverE days l = 0) = true := by simpa using h0
  have F0 := fit_of h0
  obtain ⟨D, rfl⟩ : ∃ D : Nat, days = D := ⟨days.toNat, by have := F0.d1; omega⟩
  have hD1 := F0.d1
  have hD2 := F0.d2
  have hl1 := F0.n1
  have hl8 := F0.n2
  have HR0 := hid h0
  have HF := hid F0
  clear F0
  have sX0 : w0.cell? ⟨R, 0, none⟩ = some (.int .i64 (D : Int)) := cell_of_heap HX0.out
  have sX1 : w0.cell? ⟨R, 1, none⟩ = some (.slice A l.length c) := cell_of_heap HX0.out
  have slX := (Array.getElem?_eq_some_iff.1 HX0.out).1
  have hcall := fine_any (D : Int) l _ w0 (HS.out.mono HB0.out)
  rw [hd0] at hcall
  clear hd0 h0
  go_wp2_with fail
  refine hcall.mono ?_
  rintro e w1 ⟨rfl, hb1⟩
  clear hcall sX0 sX1 slX
  have HX1 := hid (heap_mono HX0.out hb1)
  have HB1 := hid (bl_trans HB0.out hb1)
  clear HX0  hb1
  by_cases hyl : 400 < ys.length
  · have hy1 : decide ((400 : Int) < (ys.length : Int)) = true := by rw [decide_eq_true_eq]; omega
    have sX0 : w1.cell? ⟨R, 0, none⟩ = some (.int .i64 (D : Int)) := cell_of_heap HX1.out
    have sX1 : w1.cell? ⟨R, 1, none⟩ = some (.slice A l.length c) := cell_of_heap HX1.out
    have slX := (Array.getElem?_eq_some_iff.1 HX1.out).1
    have hworks := works_any w1
    go_wp2_with fail
    refine hworks.mono ?_
    rintro e w2 ⟨rfl, hb2⟩
    clear hworks
    go_wp2
    go_ret
    exact ⟨rfl, bl_trans HB1.out hb2⟩
  have hy1 : decide ((400 : Int) < (ys.length : Int)) = false := by rw [decide_eq_false_iff_not]; omega
  have hyl2 : ys.length ≤ 400 := by omega
  clear hyl
  obtain ⟨b, off, c', e5, hlc, hb, hcell⟩ := HS.out.some hl1
  simp only [Value.slice.injEq, true_and] at e5
  obtain ⟨rfl, rfl⟩ := e5
  have HC := hid hcell
  clear hcell
  have ha : askedE (D : Int) l (D : Int) = 0 := by
    unfold askedE
    rw [if_neg (by simpa using HR0.out), if_neg (by omega)]
  have HA1 := hid ha
  have HPL : Hid (planL (D : Int) l = planE (D : Int) l) := hid (by rw [planL, if_pos HR0.out])
  obtain ⟨hcp1, hcp2⟩ := early_cp ha
  have HCP1 := hid hcp1
  have HCP2 := hid hcp2
  clear hcp1 hcp2 ha
  have hfu := planE_full (D : Int) l
  rw [Int.toNat_natCast] at hfu
  have hpl1 : (planE (D : Int) l).length = l.length := hfu.1
  have HPR : Hid (∀ r ∈ planE (D : Int) l, r.length ≤ 1000) := hid fun r hr => by have := hfu.2 r hr; omega
  have HSM := hid (planE_small HF.out)
  clear hfu
  have sX0 : w1.cell? ⟨R, 0, none⟩ = some (.int .i64 (D : Int)) := cell_of_heap HX1.out
  have sX1 : w1.cell? ⟨R, 1, none⟩ = some (.slice (some ⟨b, off, none⟩) l.length c) := cell_of_heap HX1.out
  have slX := (Array.getElem?_eq_some_iff.1 HX1.out).1
  have hcall := plan_any (D : Int) l _ w1 (by omega) (HS.out.mono HB1.out)
  rw [HR0.out, HPL.out] at hcall
  go_wp2_with fail
  refine hcall.mono ?_
  rintro e w2 ⟨⟨vp, rfl, hvp⟩, hb2⟩
  clear hcall sX0 sX1 slX
  have HX2 := hid (heap_mono HX1.out hb2)
  have HB2 := hid (bl_trans HB1.out hb2)
  clear HX1  hb2
  have HP2 := hid hvp
  clear hvp
  have sX0 : w2.cell? ⟨R, 0, none⟩ = some (.int .i64 (D : Int)) := cell_of_heap HX2.out
  have sX1 : w2.cell? ⟨R, 1, none⟩ = some (.slice (some ⟨b, off, none⟩) l.length c) := cell_of_heap HX2.out
  have slX := (Array.getElem?_eq_some_iff.1 HX2.out).1
  have hcall := left_any (D : Int) l _ w2 (by omega) (HS.out.mono HB2.out)
  rw [HR0.out] at hcall
  go_wp2_with fail
  refine hcall.mono ?_
  rintro e w3 ⟨⟨vl, rfl, hvl⟩, hb3⟩
  clear hcall sX0 sX1 slX
  have HX3 := hid (heap_mono HX2.out hb3)
  have HB3 := hid (bl_trans HB2.out hb3)
  have HP3 := hid (HP2.out.mono hb3)
  clear HX2 HP2 hb3
  have hll := left_len HR0.out
  have hvl2 : ∃ bl ol cl, vl = .slice (some ⟨bl, ol, none⟩) l.length cl ∧ bl < w3.heap.size ∧ ∀ k, k < l.length → w3.cell? ⟨bl, ol + k, none⟩ = some (.int .i64 (leftN D l k)) := by
    rcases hvl with ⟨_, h⟩ | ⟨bl, ol, cl, h1, h2, h3, h4⟩
    · rw [h] at hll; simp at hll; omega
    · exact ⟨bl, ol, cl, by rw [h1, hll], h3, fun k hk => h4 k _ (left_get HR0.out hk)⟩
  obtain ⟨bl, ol, cl, rfl, hblw, hlcell⟩ := hvl2
  clear hvl hll
  have HLC3 := hid hlcell
  clear hlcell
  have HWB3 := hid (bl_refl w3)
  have sX0 : w3.cell? ⟨R, 0, none⟩ = some (.int .i64 (D : Int)) := cell_of_heap HX3.out
  have sX1 : w3.cell? ⟨R, 1, none⟩ = some (.slice (some ⟨b, off, none⟩) l.length c) := cell_of_heap HX3.out
  have slX := (Array.getElem?_eq_some_iff.1 HX3.out).1
  have hcall := refCheckPlan_any (D : Int) l _ _ vp (D : Int) w3 (HS.out.mono HB3.out) (by omega) HPR.out HP3.out.weak
  rw [HCP1.out, HCP2.out] at hcall
  go_wp2_with fail
  refine hcall.mono ?_
  rintro e w4 ⟨rfl, hb4⟩
  clear hcall sX0 sX1 slX
  have HWB4 := hid (bl_trans HWB3.out hb4)
  clear HWB3
  have HX4 := hid (heap_mono HX3.out hb4)
  have HB4 := hid (bl_trans HB3.out hb4)
  have HP4 := hid (HP3.out.mono hb4)
  clear HX3 HP3 hb4
  clear HCP1 HCP2 HA1
  have sX0 : w4.cell? ⟨R, 0, none⟩ = some (.int .i64 (D : Int)) := cell_of_heap HX4.out
  have sX1 : w4.cell? ⟨R, 1, none⟩ = some (.slice (some ⟨b, off, none⟩) l.length c) := cell_of_heap HX4.out
  have slX := (Array.getElem?_eq_some_iff.1 HX4.out).1
  have hcall := slow_any D l _ ys _ w4 (HS.out.mono HB4.out) HF.out (HYS.out.mono HB4.out) hyl2
  go_wp2_with fail
  refine hcall.mono ?_
  rintro e w5 ⟨⟨vq, L, rfl, hvq, hfq, hrq⟩, hb5⟩
  clear hcall sX0 sX1 slX
  have HWB5 := hid (bl_trans HWB4.out hb5)
  clear HWB4
  have HX5 := hid (heap_mono HX4.out hb5)
  have HB5 := hid (bl_trans HB4.out hb5)
  have HP5 := hid (HP4.out.mono hb5)
  clear HX4 HP4 hb5
  have HG5 := hid hvq
  clear hvq
  have HSQ := hid (right_small HF.out hfq hrq)
  have hql := hfq.1
  have HEM : Hid (∀ j, j < l.length → ∀ t : Int, t ≤ (D : Int) → gone (planP L) j t ≤ gone (planP (planE (D : Int) l)) j t) := hid (early_most (riv_of HF.out) (early_of HF.out) hrq)
  clear hfq hrq
  have hln : ((l.length : Int) == 0) = false := beq_eq_false_iff_ne.2 (by omega)
  have hln2 : ¬ ((l.length : Int) = 0) := by omega
  obtain ⟨i, hi, hil⟩ : ∃ i : Nat, reach % (l.length : Int) = i ∧ i < l.length := by
    have h1 := Int.emod_nonneg reach (b := (l.length : Int)) (by omega)
    have h2 := Int.emod_lt_of_pos reach (b := (l.length : Int)) (by omega)
    exact ⟨(reach % (l.length : Int)).toNat, by omega, by omega⟩
  have hrt : Int.tmod reach (l.length : Int) = (i : Int) := by rw [Int.tmod_eq_emod_of_nonneg (by omega), hi]
  have hrw1 : IntKind.i64.wrap reach = reach := IntWalk.i64_in _ (by omega)
  have hrw2 : IntKind.i64.wrap (i : Int) = i := IntWalk.i64_in _ (by omega)
  go_upto_region 11 with (fail)
  have sX0 : w5.cell? ⟨R, 0, none⟩ = some (.int .i64 (D : Int)) := cell_of_heap HX5.out
  have sX1 : w5.cell? ⟨R, 1, none⟩ = some (.slice (some ⟨b, off, none⟩) l.length c) := cell_of_heap HX5.out
  have slX := (Array.getElem?_eq_some_iff.1 HX5.out).1
  have G45 : Hid (∀ (x : Int) (_ : 0 ≤ x ∧ x < 256) W, Below w5.heap.size w5 W → Calls Try.prog 45 #[.agg #[.int .i64 (D : Int), .slice (some ⟨b, off, none⟩) l.length c], .int .u8 x] W fun e w' => e = .returned (.int .i64 (dayE D x)) ∧ Below W.heap.size W w') := fun x hx W hW => day_any (D : Int) l _ x W (HS.out.mono (bl_trans HB5.out hW)) (by omega) hx
  refine wp_region_below (by kernel_rfl) (by kernel_rfl) ?_
  repeat (first | go_big_quiet_step (first | (go_at_call 45; exact Calls.regrown_of (G45.out _ (by assumption) _ (below_regrown _ _ _)))) | quiet_step (first | (go_at_call 45; exact Calls.regrown_of (G45.out _ (by assumption) _ (below_regrown _ _ _)))))
  refine wpQuiet_nil ?_
  intro w6 hb6
  clear G45 sX0 sX1 slX
  have HWB6 := hid (bl_trans HWB5.out hb6)
  clear HWB5
  have HX6 := hid (heap_mono HX5.out hb6)
  have HB6 := hid (bl_trans HB5.out hb6)
  have HP6 := hid (HP5.out.mono hb6)
  have HG6 := hid (HG5.out.mono hb6)
  clear HX5 HP5 HG5 hb6
  clear hln hln2 hi hrt hrw1 hrw2
  have p1 := dayE_bd (by_ := day) hD1
  generalize dayE (D : Int) day = p at *
  have sX0 : w6.cell? ⟨R, 0, none⟩ = some (.int .i64 (D : Int)) := cell_of_heap HX6.out
  have sX1 : w6.cell? ⟨R, 1, none⟩ = some (.slice (some ⟨b, off, none⟩) l.length c) := cell_of_heap HX6.out
  have slX := (Array.getElem?_eq_some_iff.1 HX6.out).1
  have hcall := goneB_any _ vp i p w6 HP6.out (by omega) HSM.out (by omega)
  go_wp2_with fail
  refine hcall.mono ?_
  rintro e w7 ⟨rfl, hb7⟩
  clear hcall sX0 sX1 slX
  have HWB7 := hid (bl_trans HWB6.out hb7)
  clear HWB6
  have HX7 := hid (heap_mono HX6.out hb7)
  have HB7 := hid (bl_trans HB6.out hb7)
  have HP7 := hid (HP6.out.mono hb7)
  have HG7 := hid (HG6.out.mono hb7)
  clear HX6 HP6 HG6 hb7
  have sX0 : w7.cell? ⟨R, 0, none⟩ = some (.int .i64 (D : Int)) := cell_of_heap HX7.out
  have sX1 : w7.cell? ⟨R, 1, none⟩ = some (.slice (some ⟨b, off, none⟩) l.length c) := cell_of_heap HX7.out
  have slX := (Array.getElem?_eq_some_iff.1 HX7.out).1
  have hcall := goneB_any _ vq i p w7 HG7.out (by omega) HSQ.out (by omega)
  go_wp2_with fail
  refine hcall.mono ?_
  rintro e w8 ⟨rfl, hb8⟩
  clear hcall sX0 sX1 slX
  have HWB8 := hid (bl_trans HWB7.out hb8)
  clear HWB7
  have HX8 := hid (heap_mono HX7.out hb8)
  have HB8 := hid (bl_trans HB7.out hb8)
  have HP8 := hid (HP7.out.mono hb8)
  have HG8 := hid (HG7.out.mono hb8)
  clear HX7 HP7 HG7 hb8
  have hem := HEM.out i hil p p1.2
  clear HEM
  generalize gone (planP L) i p = gq at *
  generalize gone (planP (planE (D : Int) l)) i p = gp at *
  have t1 : decide (gp < gq) = false := by rw [decide_eq_false_iff_not]; omega
  clear hem
  go_upto_region 15 with (fail)
  go_wp2
  clear t1
  have HG0 := hid (show gotN D l 0 = mostE (D : Int) l (D : Int) by unfold gotN; show _ + (0 : Int) = _; rw [Int.add_zero])
  go_loopw [18, 19, 20] (fun pa pg pk wr => ∃ k : Nat, k ≤ l.length ∧ pa = .int .i64 (logN l k) ∧ pg = .int .i64 (gotN D l k) ∧ pk = .int .i64 (k : Int) ∧ Below w8.heap.size w8 wr) (fun _ _ pk _ => l.length - (intOf pk).toNat)
  case atStart => exact ⟨0, Nat.zero_le _, rfl, by rw [HG0.out], rfl, bl_refl _⟩
  case round =>
    obtain ⟨k, hk, rfl, rfl, rfl, hB⟩ := hrel
    clear HG0
    have hlb := log_bd HF.out hk
    have hgb := got_bd HF.out hk
    have hkb := heap_mono HX8.out hB
    have s0 : wr.cell? ⟨R, 0, none⟩ = some (.int .i64 (D : Int)) := cell_of_heap hkb
    have s1 : wr.cell? ⟨R, 1, none⟩ = some (.slice (some ⟨b, off, none⟩) l.length c) := cell_of_heap hkb
    have sl := (Array.getElem?_eq_some_iff.1 hkb).1
    have HXR := hid hkb
    clear hkb
    by_cases hlt : k < l.length
    · obtain ⟨x, hx⟩ := get_at hlt
      have HLS := hid (logN_succ hx)
      have HGS := hid (gotN_succ (D := D) (l := l) k)
      have hlb2 := log_bd HF.out (show k + 1 ≤ l.length by omega)
      have hgb2 := got_bd HF.out (show k + 1 ≤ l.length by omega)
      rw [HLS.out] at hlb2
      rw [HGS.out] at hgb2
      have hlf := left_bd HF.out hlt
      have hxt := HF.out.takes k x hx
      have hkI : (k : Int) < (l.length : Int) := by omega
      have hB0 := bl_trans HB8.out hB
      have hBL := bl_trans HWB8.out hB
      obtain ⟨q0, q1, q2, q3, q4, q5, q6, q7⟩ := (HC.out k x hx).mono hB0
      have hbw : b < wr.heap.size := Nat.lt_of_lt_of_le hb hB0.size
      have lc := cell_mono (HLC3.out k hlt) hBL
      have lw : bl < wr.heap.size := Nat.lt_of_lt_of_le hblw hBL.size
      have hre : restN D l k = leftN D l k + gone (planP (planE (D : Int) l)) k (D : Int) - gone (planP (planE (D : Int) l)) k ((D : Int) - x.takes) := by
        unfold restN
        rw [riv_at hx]
      have hg1 := gone_range HSM.out k (D : Int) (by omega)
      have hg2 := gone_range HSM.out k ((D : Int) - x.takes) (by omega)
      rw [hre] at hgb2 HGS
      clear hre
      have G48 : Hid (∀ (t : Int) (_ : -1000 ≤ t ∧ t ≤ 1000) W, Below wr.heap.size wr W → Calls Try.prog 48 #[vp, .int .i64 (k : Int), .int .i64 t] W fun e w' => e = .returned (.int .i64 (gone (planP (planE (D : Int) l)) k t)) ∧ Below W.heap.size W w') := hid fun t ht W hW => goneB_any _ vp k t W (HP8.out.mono (bl_trans hB hW)) (by omega) HSM.out ht
      obtain ⟨t, ht⟩ : ∃ t, (D : Int) - x.takes = t := ⟨_, rfl⟩
      have htb : -1000 ≤ t ∧ t ≤ 1000 := by omega
      have hDb : -1000 ≤ (D : Int) ∧ (D : Int) ≤ 1000 := by omega
      rw [ht] at hg2 hgb2 HGS
      obtain ⟨gf, hgf⟩ : ∃ gf : Int → Int, gone (planP (planE (D : Int) l)) k = gf := ⟨_, rfl⟩
      rw [hgf] at hg1 hg2 hgb2 HGS
      simp only [hgf] at G48
      clear hgf
      generalize leftN D l k = lv at *
      have HWN : Hid (gotN D l (k + 1) = gotN D l k + (lv + gf (D : Int) - gf t)) := hid HGS.out
      clear HGS
      generalize gotN D l k = ga at *
      generalize logN l k = la at *
      have t1 : decide (lv < 0) = false := by rw [decide_eq_false_iff_not]; omega
      have t2 : decide (100000 < lv) = false := by rw [decide_eq_false_iff_not]; omega
      have u1 : IntKind.i64.wrap (la + x.logs) = la + x.logs := IntWalk.i64_in _ (by omega)
      have u2 : IntKind.i64.wrap t = t := IntWalk.i64_in _ (by omega)
      have u3 : IntKind.i64.wrap (lv + gf (D : Int)) = lv + gf (D : Int) := IntWalk.i64_in _ (by omega)
      have u4 : IntKind.i64.wrap (lv + gf (D : Int) - gf t) = lv + gf (D : Int) - gf t := IntWalk.i64_in _ (by omega)
      have u5 : IntKind.i64.wrap (ga + (lv + gf (D : Int) - gf t)) = ga + (lv + gf (D : Int) - gf t) := IntWalk.i64_in _ (by omega)
      have HBB := hid hB
      clear hB hB0 hBL hx
      go_upto_region 21 with (fail)
      refine wp_region_below (by kernel_rfl) (by kernel_rfl) ?_
      repeat (first | go_big_quiet_step (first | (go_at_call 48; exact Calls.regrown_of (G48.out _ (by first | exact hDb | exact htb) _ (below_regrown _ _ _)))) | quiet_step (first | (go_at_call 48; exact Calls.regrown_of (G48.out _ (by first | exact hDb | exact htb) _ (below_regrown _ _ _)))))
      refine wpQuiet_nil ?_
      intro w20 hb20
      have hB2 := bl_trans HBB.out hb20
      clear G48 q0 q1 q2 q3 q4 q5 q6 q7 s0 s1 sl hbw lc lw t1 t2 u1 u2 u3 u4 ht HXR hb20
      go_wp2
      go_roundw
      case rel => exact ⟨k + 1, by omega, by rw [HLS.out], by rw [HWN.out], by go_num, hB2⟩
      case measure => simp [intOf]; omega
    · obtain rfl : k = l.length := by omega
      have het := early_total HF.out
      rw [het] at hgb ⊢
      generalize logN l l.length = la at *
      clear het hlt hk
      obtain ⟨w9, hwn⟩ : ∃ w9, wr = w9 := ⟨_, rfl⟩
      rw [hwn] at hB s0 s1 sl HXR ⊢
      clear hwn
      have HB9 := hid (bl_trans HB8.out hB)
      have hworks := works_any w9
      go_wp2_with fail
      refine hworks.mono ?_
      rintro e w10 ⟨rfl, hb10⟩
      clear hworks
      go_wp2
      go_ret
      exact ⟨rfl, bl_trans HB9.out hb10⟩

end Go.Proofs.Ytbnmjbmlejifcaa
