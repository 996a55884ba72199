/- DriveWorth: the walk. -/
import Derived.Test.YtbnmjbmlejifcaaLawf
set_option linter.all false
namespace Go.Proofs.Ytbnmjbmlejifcaa
open Go Go.RowKit Go.Proofs
attribute [local go_sem] cell_grow frozen_grow

/-- A reach's value is that of another one. -/
theorem narrow_any (x : Rch) (w : World) : Calls Try.prog 51 #[encR x] w fun e w' => e = .returned (encR { x with pass := 0 }) ∧ Below w.heap.size w w' := by
  obtain ⟨down, pass, takes, lo, hi, every, logs, ready⟩ := x
  unfold encR
  dsimp only
  have b1 := bl_alloc (bl_refl w) (.cells #[.int .i64 down, .int .i64 0, .int .i64 takes, .int .i64 lo, .int .i64 hi, .int .i64 every, .int .i64 logs, .int .i64 ready] 59)
  have b2 := bl_alloc b1 (.cells #[.int .i64 down, .int .i64 0, .int .i64 takes, .int .i64 lo, .int .i64 hi, .int .i64 every, .int .i64 logs, .int .i64 ready] 59)
  have e2 := World.alloc_heap_new (w.alloc (.cells #[.int .i64 down, .int .i64 0, .int .i64 takes, .int .i64 lo, .int .i64 hi, .int .i64 every, .int .i64 logs, .int .i64 ready] 59)) (.cells #[.int .i64 down, .int .i64 0, .int .i64 takes, .int .i64 lo, .int .i64 hi, .int .i64 every, .int .i64 logs, .int .i64 ready] 59)
  simp only [World.size_alloc] at e2
  have HE := hid e2
  have HB := hid b2
  clear b1 b2 e2
  go_enter Try.func51, Try.ntmps51
  go_wp2
  obtain ⟨w7, hw7⟩ : ∃ w7, (w.alloc (.cells #[.int .i64 down, .int .i64 0, .int .i64 takes, .int .i64 lo, .int .i64 hi, .int .i64 every, .int .i64 logs, .int .i64 ready] 59)).alloc (.cells #[.int .i64 down, .int .i64 0, .int .i64 takes, .int .i64 lo, .int .i64 hi, .int .i64 every, .int .i64 logs, .int .i64 ready] 59) = w7 := ⟨_, rfl⟩
  rw [hw7] at HE HB ⊢
  obtain ⟨R, hR⟩ : ∃ R, w.heap.size + 1 = R := ⟨_, rfl⟩
  rw [hR] at HE ⊢
  have v0 := cell_of_heap (i := 0) HE.out
  have v1 := cell_of_heap (i := 1) HE.out
  have v2 := cell_of_heap (i := 2) HE.out
  have v3 := cell_of_heap (i := 3) HE.out
  have v4 := cell_of_heap (i := 4) HE.out
  have v5 := cell_of_heap (i := 5) HE.out
  have v6 := cell_of_heap (i := 6) HE.out
  have v7 := cell_of_heap (i := 7) HE.out
  have vl := (Array.getElem?_eq_some_iff.1 HE.out).1
  clear hw7 hR
  refine bodyPost_ret (v := .agg #[.int .i64 down, .int .i64 0, .int .i64 takes, .int .i64 lo, .int .i64 hi, .int .i64 every, .int .i64 logs, .int .i64 ready]) (by simp [results, Try.results51, go_sem, v0, v1, v2, v3, v4, v5, v6, v7, vl]) rfl ⟨rfl, HB.out⟩
theorem open_step (x : Rch) (d : Nat) : openN x (d + 1) = openN x d + if openB x ((d : Int) + 1) = true then 1 else 0 := rfl
theorem open_le (x : Rch) (d : Nat) : openN x d ≤ d := by
  have h := sumN_bd (f := fun d : Nat => if openB x ((d : Int) + 1) = true then (1 : Int) else 0) (n := d) (c := 1) fun i _ => by
    show (if openB x ((i : Int) + 1) = true then (1 : Int) else 0) ≤ 1
    split <;> decide
  unfold openN
  omega

set_option maxRecDepth 100000 in
set_option maxHeartbeats 8000000 in
theorem driveWorth_any (days : Int) (l : List Rch) (sr : Value) (day reach : Int) (w : World) (hs : Rchs w sr l) (b1 : 0 ≤ day ∧ day < 256) (b2 : 0 ≤ reach ∧ reach < 256) :
    Calls Try.prog 11 #[.agg #[.int .i64 days, sr], .int .u8 day, .int .u8 reach] w fun e w' => e = .returned (.bool true) ∧ Below w.heap.size w w' := by
  obtain ⟨A, c, rfl⟩ := hs.slice
  have HX0 := hid (World.alloc_heap_new w (.cells #[.int .i64 days, .slice A l.length c] 24))
  have HB0 := hid (bl_alloc (bl_refl w) (.cells #[.int .i64 days, .slice A l.length c] 24))
  have HS := hid hs
  clear hs
  go_enter Try.func11, Try.ntmps11
  go_upto_region 1 with (fail)
  obtain ⟨R, hR⟩ : ∃ R, w.heap.size = R := ⟨_, rfl⟩
  obtain ⟨w0, hw0⟩ : ∃ w0, w.alloc (.cells #[.int .i64 days, .slice A l.length c] 24) = w0 := ⟨_, rfl⟩
  rw [hR] at HX0 ⊢
  rw [hw0] at HX0 HB0 ⊢
  clear hw0 hR
  by_cases h0 : ¬ riverE days l = 0
  · have hd0 : decide (riverE days l = 0) = false := by simpa using h0
    have sX0 : w0.cell? ⟨R, 0, none⟩ = some (.int .i64 days) := cell_of_heap HX0.out
    have sX1 : w0.cell? ⟨R, 1, none⟩ = some (.slice A l.length c) := cell_of_heap HX0.out
    have slX := (Array.getElem?_eq_some_iff.1 HX0.out).1
    have hcall := fine_any days l _ w0 (HS.out.mono HB0.out)
    rw [hd0] at hcall
    clear hd0 h0
    go_wp2_with fail
    refine hcall.mono ?_
    rintro e w1 ⟨rfl, hb1⟩
    clear hcall sX0 sX1 slX
    have HX1 := hid (heap_mono HX0.out hb1)
    have HB1 := hid (bl_trans HB0.out hb1)
    clear HX0  hb1
    have hworks := works_any w1
    go_wp2_with fail
    refine hworks.mono ?_
    rintro e w2 ⟨rfl, hb2⟩
    clear hworks
    go_wp2
    go_ret
    exact ⟨rfl, bl_trans HB1.out hb2⟩
  replace h0 := Decidable.not_not.1 h0
  have hd0 : decide (riverE days l = 0) = true := by simpa using h0
  have F0 := fit_of h0
  obtain ⟨D, rfl⟩ : ∃ D : Nat, days = D := ⟨days.toNat, by have := F0.d1; omega⟩
  have hD1 := F0.d1
  have hD2 := F0.d2
  have hl1 := F0.n1
  have hl8 := F0.n2
  have HR0 := hid h0
  have HF := hid F0
  clear F0
  have sX0 : w0.cell? ⟨R, 0, none⟩ = some (.int .i64 (D : Int)) := cell_of_heap HX0.out
  have sX1 : w0.cell? ⟨R, 1, none⟩ = some (.slice A l.length c) := cell_of_heap HX0.out
  have slX := (Array.getElem?_eq_some_iff.1 HX0.out).1
  have hcall := fine_any (D : Int) l _ w0 (HS.out.mono HB0.out)
  rw [hd0] at hcall
  clear hd0 h0
  go_wp2_with fail
  refine hcall.mono ?_
  rintro e w1 ⟨rfl, hb1⟩
  clear hcall sX0 sX1 slX
  have HX1 := hid (heap_mono HX0.out hb1)
  have HB1 := hid (bl_trans HB0.out hb1)
  clear HX0  hb1
  have hln : ((l.length : Int) == 0) = false := beq_eq_false_iff_ne.2 (by omega)
  have hln2 : ¬ ((l.length : Int) = 0) := by omega
  obtain ⟨i, hi, hil⟩ : ∃ i : Nat, reach % (l.length : Int) = i ∧ i < l.length := by
    have h1 := Int.emod_nonneg reach (b := (l.length : Int)) (by omega)
    have h2 := Int.emod_lt_of_pos reach (b := (l.length : Int)) (by omega)
    exact ⟨(reach % (l.length : Int)).toNat, by omega, by omega⟩
  have hrt : Int.tmod reach (l.length : Int) = (i : Int) := by rw [Int.tmod_eq_emod_of_nonneg (by omega), hi]
  have hrw1 : IntKind.i64.wrap reach = reach := IntWalk.i64_in _ (by omega)
  have hrw2 : IntKind.i64.wrap (i : Int) = i := IntWalk.i64_in _ (by omega)
  go_upto_region 3 with (fail)
  have sX0 : w1.cell? ⟨R, 0, none⟩ = some (.int .i64 (D : Int)) := cell_of_heap HX1.out
  have sX1 : w1.cell? ⟨R, 1, none⟩ = some (.slice A l.length c) := cell_of_heap HX1.out
  have slX := (Array.getElem?_eq_some_iff.1 HX1.out).1
  have G45 : Hid (∀ (x : Int) (_ : 0 ≤ x ∧ x < 256) W, Below w1.heap.size w1 W → Calls Try.prog 45 #[.agg #[.int .i64 (D : Int), .slice A l.length c], .int .u8 x] W fun e w' => e = .returned (.int .i64 (dayE D x)) ∧ Below W.heap.size W w') := fun x hx W hW => day_any (D : Int) l _ x W (HS.out.mono (bl_trans HB1.out hW)) (by omega) hx
  refine wp_region_below (by kernel_rfl) (by kernel_rfl) ?_
  repeat (first | go_big_quiet_step (first | (go_at_call 45; exact Calls.regrown_of (G45.out _ (by assumption) _ (below_regrown _ _ _)))) | quiet_step (first | (go_at_call 45; exact Calls.regrown_of (G45.out _ (by assumption) _ (below_regrown _ _ _)))))
  refine wpQuiet_nil ?_
  intro w2 hb2
  clear G45 sX0 sX1 slX
  have HX2 := hid (heap_mono HX1.out hb2)
  have HB2 := hid (bl_trans HB1.out hb2)
  clear HX1  hb2
  clear hln hln2 hi hrt hrw1 hrw2
  have p1 := dayE_bd (by_ := day) hD1
  generalize dayE (D : Int) day = p at *
  obtain ⟨x, hx⟩ := get_at hil
  obtain ⟨b, off, c', e5, hlc, hb, hcell⟩ := HS.out.some hl1
  simp only [Value.slice.injEq, true_and] at e5
  obtain ⟨rfl, rfl⟩ := e5
  have HC := hid (hcell i x hx)
  have hxr := reach_at HR0.out hx
  have hiI : (i : Int) < (l.length : Int) := by omega
  have HA1 := hid (asked_day HR0.out p1.1 p1.2)
  have hre : reachedE (D : Int) l p (i : Int) = 0 := by
    unfold reachedE
    rw [if_neg (by simpa using HA1.out), if_neg (by omega)]
  have hwo : worthE (D : Int) l p (i : Int) = mostE (D : Int) (widerL l i) p - mostE (D : Int) l p := by
    unfold worthE
    rw [hre, if_pos rfl, Int.toNat_natCast]
  have hwb : 0 ≤ mostE (D : Int) (widerL l i) p - mostE (D : Int) l p ∧ mostE (D : Int) (widerL l i) p - mostE (D : Int) l p ≤ openN x D := by
    obtain ⟨t, rfl⟩ : ∃ t : Nat, p = t := ⟨p.toNat, by omega⟩
    have h := worth_bounds HR0.out hil (day := t) (by omega)
    rwa [riv_at hx] at h
  have HWC : Hid (∀ o, CutOk (D : Int) l p o → ccErr (D : Int) (narrowL l i) p o = 0 ∧ (ccVal (D : Int) l p o = ccVal (D : Int) (narrowL l i) p o → x.pass ≠ 0 → mostE (D : Int) (widerL l i) p - mostE (D : Int) l p = 0)) := hid fun o ho => by
    have h := worth_cut hil HA1.out ho
    rwa [riv_at hx] at h
  have HNL : Hid (narrowL l i = l.set i { x with pass := 0 }) := hid (by unfold narrowL; rw [riv_at hx])
  generalize mostE (D : Int) (widerL l i) p - mostE (D : Int) l p = wv at *
  clear hx hcell
  have sX0 : w2.cell? ⟨R, 0, none⟩ = some (.int .i64 (D : Int)) := cell_of_heap HX2.out
  have sX1 : w2.cell? ⟨R, 1, none⟩ = some (.slice (some ⟨b, off, none⟩) l.length c) := cell_of_heap HX2.out
  have slX := (Array.getElem?_eq_some_iff.1 HX2.out).1
  have hcall := worth_any (D : Int) l _ p i w2 (by omega) (HS.out.mono HB2.out)
  rw [hwo, hre] at hcall
  go_wp2_with fail
  refine hcall.mono ?_
  rintro e w3 ⟨rfl, hb3⟩
  clear hcall sX0 sX1 slX
  have HX3 := hid (heap_mono HX2.out hb3)
  have HB3 := hid (bl_trans HB2.out hb3)
  clear HX2  hb3
  clear hwo hre
  have sX0 : w3.cell? ⟨R, 0, none⟩ = some (.int .i64 (D : Int)) := cell_of_heap HX3.out
  have sX1 : w3.cell? ⟨R, 1, none⟩ = some (.slice (some ⟨b, off, none⟩) l.length c) := cell_of_heap HX3.out
  have slX := (Array.getElem?_eq_some_iff.1 HX3.out).1
  have hcall := cutFn_any (D : Int) l _ p w3 (by omega) (HS.out.mono HB3.out)
  rw [HA1.out] at hcall
  go_wp2_with fail
  refine hcall.mono ?_
  rintro e w4 ⟨⟨vo, o, rfl, hvo, hco⟩, hb4⟩
  clear hcall sX0 sX1 slX
  have HX4 := hid (heap_mono HX3.out hb4)
  have HB4 := hid (bl_trans HB3.out hb4)
  clear HX3  hb4
  have HV4 := hid hvo
  clear hvo
  obtain ⟨hc1, hc2⟩ := HWC.out o hco
  have hc3 := (cutOk_bound HA1.out hco).1
  have hol : o.length ≤ 1000 := by
    rcases hco with ⟨h, _⟩ | ⟨_, h, _⟩
    · exact absurd HA1.out h
    · omega
  have HC1 := hid hc1
  have HC3 := hid hc3
  have HC2 := hid hc2
  clear hc1 hc2 hc3 hco HWC
  obtain ⟨_, _, ⟨xe1, xe2⟩, ⟨xl1, xl2, xl3⟩, _⟩ := hxr
  go_upto_region 9 with (fail)
  go_wp2
  go_loopw [13, 14] (fun po pk wr => ∃ (t : Nat), t ≤ D ∧ po = .int .i64 (openN x t) ∧ pk = .int .i64 ((t : Int) + 1) ∧ Below w4.heap.size w4 wr) (fun _ pk _ => D + 1 - (intOf pk).toNat)
  case atStart => exact ⟨0, Nat.zero_le _, rfl, rfl, bl_refl _⟩
  case round =>
    obtain ⟨t, ht, rfl, rfl, hB⟩ := hrel
    obtain ⟨ot, hot⟩ : ∃ ot, openN x t = ot := ⟨_, rfl⟩
    have hot1 := open_le x t
    have hot2 := openN_nonneg x t
    have HOS := hid (open_step x t)
    rw [hot] at hot1 hot2 HOS ⊢
    have hkb := heap_mono HX4.out hB
    have s0 : wr.cell? ⟨R, 0, none⟩ = some (.int .i64 (D : Int)) := cell_of_heap hkb
    have s1 : wr.cell? ⟨R, 1, none⟩ = some (.slice (some ⟨b, off, none⟩) l.length c) := cell_of_heap hkb
    have sl := (Array.getElem?_eq_some_iff.1 hkb).1
    clear hkb
    by_cases htD : t < D
    · have hdI : decide ((t : Int) + 1 ≤ (D : Int)) = true := by simp; omega
      clear hot
      have hB0 := bl_trans HB4.out hB
      obtain ⟨q0, q1, q2, q3, q4, q5, q6, q7⟩ := HC.out.mono hB0
      have hbw : b < wr.heap.size := Nat.lt_of_lt_of_le hb hB0.size
      have hop := isOpen_any x ((t : Int) + 1) wr (by omega) (by omega) (by omega)
      unfold encR at hop
      have HBB := hid hB
      clear hB hB0
      cases ho : openB x ((t : Int) + 1)
      · rw [ho] at hop
        have HE := hid (show openN x (t + 1) = ot by rw [HOS.out, ho]; simp)
        clear ho
        go_wp2_with fail
        refine hop.mono ?_
        rintro e w20 ⟨rfl, hb20⟩
        have hB2 := bl_trans HBB.out hb20
        clear hop q0 q1 q2 q3 q4 q5 q6 q7 s0 s1 sl hbw hb20
        go_wp2
        go_roundw
        case rel => exact ⟨t + 1, by omega, by rw [HE.out], by go_num, hB2⟩
        case measure => simp [intOf]; omega
      · rw [ho] at hop
        have HE := hid (show openN x (t + 1) = ot + 1 by rw [HOS.out, ho]; simp)
        clear ho
        have hwt : IntKind.i64.wrap (ot + 1) = ot + 1 := IntWalk.i64_in _ (by omega)
        go_wp2_with fail
        refine hop.mono ?_
        rintro e w20 ⟨rfl, hb20⟩
        have hB2 := bl_trans HBB.out hb20
        clear hop q0 q1 q2 q3 q4 q5 q6 q7 s0 s1 sl hbw hb20
        go_wp2
        go_roundw
        case rel => exact ⟨t + 1, by omega, by rw [HE.out], by go_num, hB2⟩
        case measure => simp [intOf]; omega
    · obtain rfl : t = D := by omega
      have hdI : decide ((t : Int) + 1 ≤ (t : Int)) = false := by rw [decide_eq_false_iff_not]; omega
      clear htD
      rw [hot] at hwb
      clear hot HOS
      obtain ⟨w5, hwn⟩ : ∃ w5, wr = w5 := ⟨_, rfl⟩
      rw [hwn] at hB s0 s1 sl ⊢
      clear hwn
      have hb5 := hB
      clear hB
      clear s0 s1 sl
      have HX5 := hid (heap_mono HX4.out hb5)
      have HB5 := hid (bl_trans HB4.out hb5)
      have HV5 := hid (HV4.out.mono hb5)
      clear HX4 HV4 hb5
      have sX0 : w5.cell? ⟨R, 0, none⟩ = some (.int .i64 (t : Int)) := cell_of_heap HX5.out
      have sX1 : w5.cell? ⟨R, 1, none⟩ = some (.slice (some ⟨b, off, none⟩) l.length c) := cell_of_heap HX5.out
      have slX := (Array.getElem?_eq_some_iff.1 HX5.out).1
      have hcall := refCheckCut_any (t : Int) l _ p o vo w5 (HS.out.mono HB5.out) hol HV5.out
      rw [HC3.out] at hcall
      go_wp2_with fail
      refine hcall.mono ?_
      rintro e w6 ⟨rfl, hb6⟩
      clear hcall sX0 sX1 slX
      have HX6 := hid (heap_mono HX5.out hb6)
      have HB6 := hid (bl_trans HB5.out hb6)
      have HV6 := hid (HV5.out.mono hb6)
      clear HX5 HV5 hb6
      obtain ⟨ca, hca⟩ : ∃ ca, ccVal (t : Int) l p o = ca := ⟨_, rfl⟩
      obtain ⟨cb, hcb⟩ : ∃ cb, ccVal (t : Int) (narrowL l i) p o = cb := ⟨_, rfl⟩
      have HCC : Hid (∀ s W, Rchs W s (l.set i { x with pass := 0 }) → Ints W vo o → Calls Try.prog 36 #[.agg #[.int .i64 (t : Int), s], .int .i64 p, vo] W fun e w' => e = .returned (.tuple #[.int .i64 cb, .int .i64 0]) ∧ Below W.heap.size W w') := hid fun s W h h2 => by
        have hc := refCheckCut_any (t : Int) _ s p o vo W h hol h2
        rw [← HNL.out, HC1.out, hcb] at hc
        exact hc
      rw [hca, hcb] at HC2
      rw [hca]
      clear hca hcb HC1 HC3 HNL
      have HNA : Hid (∀ W, Calls Try.prog 51 #[.agg #[.int .i64 x.down, .int .i64 x.pass, .int .i64 x.takes, .int .i64 x.lo, .int .i64 x.hi, .int .i64 x.every, .int .i64 x.logs, .int .i64 x.ready]] W fun e w' => e = .returned (.agg #[.int .i64 x.down, .int .i64 0, .int .i64 x.takes, .int .i64 x.lo, .int .i64 x.hi, .int .i64 x.every, .int .i64 x.logs, .int .i64 x.ready]) ∧ Below W.heap.size W w') := hid fun W => narrow_any x W
      go_upto_region 15 with (fail)
      refine wp_region_vals [72, 73, 74, 75, 76, 77, 78, 79, 80, 81, 82, 83, 71, 84, 85, 16, 12] (fun seen u W => (seen 0 = true → u 72 = .agg #[.int .i64 (t : Int), .slice (some ⟨b, off, none⟩) l.length c]) ∧
        (seen 1 = true → u 73 = .int .i64 ((i : Int))) ∧
        (seen 2 = true → u 74 = .pointer (some ⟨R, 1, none⟩)) ∧
        (seen 3 = true → u 75 = .slice (some ⟨b, off, none⟩) l.length c) ∧
        (seen 4 = true → u 76 = .int .i64 ((i : Int))) ∧
        (seen 5 = true → u 77 = .pointer (some ⟨b, off + i * 8, none⟩)) ∧
        (seen 6 = true → u 78 = .agg #[.int .i64 x.down, .int .i64 x.pass, .int .i64 x.takes, .int .i64 x.lo, .int .i64 x.hi, .int .i64 x.every, .int .i64 x.logs, .int .i64 x.ready]) ∧
        (seen 7 = true → u 79 = .agg #[.int .i64 x.down, .int .i64 0, .int .i64 x.takes, .int .i64 x.lo, .int .i64 x.hi, .int .i64 x.every, .int .i64 x.logs, .int .i64 x.ready]) ∧
        (seen 8 = true → AgR W (u 80) (t : Int) (l.set i { x with pass := 0 })) ∧
        (seen 9 = true → u 81 = .int .i64 (p)) ∧
        (seen 10 = true → u 82 = vo) ∧
        (seen 11 = true → u 83 = .tuple #[.int .i64 cb, .int .i64 0]) ∧
        (seen 12 = true → u 71 = .tuple #[.int .i64 cb, .int .i64 0]) ∧
        (seen 13 = true → u 84 = .int .i64 (cb)) ∧
        (seen 14 = true → u 85 = .int .i64 (0)) ∧
        (seen 15 = true → u 16 = .int .i64 (cb)) ∧
        (seen 16 = true → u 12 = .int .i64 (0)))
        (by kernel_rfl) (by kernel_rfl) (by kernel_rfl) (by simp) (by simp) ?_ ?_
      · intro i o ho seen a' w9 hb9 ⟨F0, F1, F2, F3, F4, F5, F6, F7, F8, F9, F10, F11, F12, F13, F14, F15, F16⟩ hv hsi hdep
        have hbx := heap_mono HX6.out hb9
        have c0 : w9.cell? ⟨R, 0, none⟩ = some (.int .i64 (t : Int)) := cell_of_heap hbx
        have c1 : w9.cell? ⟨R, 1, none⟩ = some (.slice (some ⟨b, off, none⟩) l.length c) := cell_of_heap hbx
        have hXl := (Array.getElem?_eq_some_iff.1 hbx).1
        obtain ⟨q0, q1, q2, q3, q4, q5, q6, q7⟩ := HC.out.mono (bl_trans HB6.out hb9)
        have hblt : b < w9.heap.size := Nat.lt_of_lt_of_le hb (bl_trans HB6.out hb9).size
        rcases i with _ | _ | _ | _ | _ | _ | _ | _ | _ | _ | _ | _ | _ | _ | _ | _ | _ | i <;> simp only [List.getElem?_cons_zero, List.getElem?_cons_succ, List.getElem?_nil, Option.some.injEq, reduceCtorEq] at ho <;> subst ho
        · have x3 := val_at (hv 3 (by simp))
          simp [valsOf] at x3
          refine wp_value (.agg #[.int .i64 (t : Int), .slice (some ⟨b, off, none⟩) l.length c]) (w' := w9) (by simp [execOp, x3, go_sem, c0, c1, hXl, q0, q1, q2, q3, q4, q5, q6, q7, hblt, hiI]) ⟨_, rfl, hb9, ?_⟩
          exact ⟨by simp, by simpa using F1, by simpa using F2, by simpa using F3, by simpa using F4, by simpa using F5, by simpa using F6, by simpa using F7, by simpa using F8, by simpa using F9, by simpa using F10, by simpa using F11, by simpa using F12, by simpa using F13, by simpa using F14, by simpa using F15, by simpa using F16⟩
        · have x8 := val_at (hv 8 (by simp))
          simp [valsOf] at x8
          refine wp_value (.int .i64 ((i : Int))) (w' := w9) (by simp [execOp, x8, go_sem, c0, c1, hXl, q0, q1, q2, q3, q4, q5, q6, q7, hblt, hiI]) ⟨_, rfl, hb9, ?_⟩
          exact ⟨by simpa using F0, by simp, by simpa using F2, by simpa using F3, by simpa using F4, by simpa using F5, by simpa using F6, by simpa using F7, by simpa using F8, by simpa using F9, by simpa using F10, by simpa using F11, by simpa using F12, by simpa using F13, by simpa using F14, by simpa using F15, by simpa using F16⟩
        · have x3 := val_at (hv 3 (by simp))
          simp [valsOf] at x3
          refine wp_value (.pointer (some ⟨R, 1, none⟩)) (w' := w9) (by simp [execOp, x3, go_sem, c0, c1, hXl, q0, q1, q2, q3, q4, q5, q6, q7, hblt, hiI]) ⟨_, rfl, hb9, ?_⟩
          exact ⟨by simpa using F0, by simpa using F1, by simp, by simpa using F3, by simpa using F4, by simpa using F5, by simpa using F6, by simpa using F7, by simpa using F8, by simpa using F9, by simpa using F10, by simpa using F11, by simpa using F12, by simpa using F13, by simpa using F14, by simpa using F15, by simpa using F16⟩
        · have d2 := hdep ⟨2, .data⟩ (by simp) rfl
          have e2 := val_at (F2 d2)
          refine wp_value (.slice (some ⟨b, off, none⟩) l.length c) (w' := w9) (by simp [execOp, e2, go_sem, c0, c1, hXl, q0, q1, q2, q3, q4, q5, q6, q7, hblt, hiI]) ⟨_, rfl, hb9, ?_⟩
          exact ⟨by simpa using F0, by simpa using F1, by simpa using F2, by simp, by simpa using F4, by simpa using F5, by simpa using F6, by simpa using F7, by simpa using F8, by simpa using F9, by simpa using F10, by simpa using F11, by simpa using F12, by simpa using F13, by simpa using F14, by simpa using F15, by simpa using F16⟩
        · have x8 := val_at (hv 8 (by simp))
          simp [valsOf] at x8
          refine wp_value (.int .i64 ((i : Int))) (w' := w9) (by simp [execOp, x8, go_sem, c0, c1, hXl, q0, q1, q2, q3, q4, q5, q6, q7, hblt, hiI]) ⟨_, rfl, hb9, ?_⟩
          exact ⟨by simpa using F0, by simpa using F1, by simpa using F2, by simpa using F3, by simp, by simpa using F5, by simpa using F6, by simpa using F7, by simpa using F8, by simpa using F9, by simpa using F10, by simpa using F11, by simpa using F12, by simpa using F13, by simpa using F14, by simpa using F15, by simpa using F16⟩
        · have d3 := hdep ⟨3, .data⟩ (by simp) rfl
          have e3 := val_at (F3 d3)
          have d4 := hdep ⟨4, .data⟩ (by simp) rfl
          have e4 := val_at (F4 d4)
          refine wp_value (.pointer (some ⟨b, off + i * 8, none⟩)) (w' := w9) (by simp [execOp, e3, e4, go_sem, c0, c1, hXl, q0, q1, q2, q3, q4, q5, q6, q7, hblt, hiI]) ⟨_, rfl, hb9, ?_⟩
          exact ⟨by simpa using F0, by simpa using F1, by simpa using F2, by simpa using F3, by simpa using F4, by simp, by simpa using F6, by simpa using F7, by simpa using F8, by simpa using F9, by simpa using F10, by simpa using F11, by simpa using F12, by simpa using F13, by simpa using F14, by simpa using F15, by simpa using F16⟩
        · have d5 := hdep ⟨5, .data⟩ (by simp) rfl
          have e5 := val_at (F5 d5)
          refine wp_value (.agg #[.int .i64 x.down, .int .i64 x.pass, .int .i64 x.takes, .int .i64 x.lo, .int .i64 x.hi, .int .i64 x.every, .int .i64 x.logs, .int .i64 x.ready]) (w' := w9) (by simp [execOp, e5, go_sem, c0, c1, hXl, q0, q1, q2, q3, q4, q5, q6, q7, hblt, hiI]) ⟨_, rfl, hb9, ?_⟩
          exact ⟨by simpa using F0, by simpa using F1, by simpa using F2, by simpa using F3, by simpa using F4, by simpa using F5, by simp, by simpa using F7, by simpa using F8, by simpa using F9, by simpa using F10, by simpa using F11, by simpa using F12, by simpa using F13, by simpa using F14, by simpa using F15, by simpa using F16⟩
        · have d6 := hdep ⟨6, .data⟩ (by simp) rfl
          have e6 := val_at (F6 d6)
          refine wp_calls (f := 51) (args := #[.agg #[.int .i64 x.down, .int .i64 x.pass, .int .i64 x.takes, .int .i64 x.lo, .int .i64 x.hi, .int .i64 x.every, .int .i64 x.logs, .int .i64 x.ready]]) (w' := w9) (by simp [execOp, e6, go_sem, valsOf]) (HNA.out w9) ?_
          rintro e w10 ⟨rfl, hg⟩
          refine ⟨_, rfl, _, rfl, bl_trans hb9 hg, ?_⟩
          exact ⟨by simpa using F0, by simpa using F1, by simpa using F2, by simpa using F3, by simpa using F4, by simpa using F5, by simpa using F6, by simp, by simpa using fun h => (F8 h).mono hg, by simpa using F9, by simpa using F10, by simpa using F11, by simpa using F12, by simpa using F13, by simpa using F14, by simpa using F15, by simpa using F16⟩
        · have d0 := hdep ⟨0, .data⟩ (by simp) rfl
          have e0 := val_at (F0 d0)
          have d1 := hdep ⟨1, .data⟩ (by simp) rfl
          have e1 := val_at (F1 d1)
          have d7 := hdep ⟨7, .data⟩ (by simp) rfl
          have e7 := val_at (F7 d7)
          refine wp_calls (f := 50) (args := #[.agg #[.int .i64 (t : Int), .slice (some ⟨b, off, none⟩) l.length c], .int .i64 (i : Int), .agg #[.int .i64 x.down, .int .i64 0, .int .i64 x.takes, .int .i64 x.lo, .int .i64 x.hi, .int .i64 x.every, .int .i64 x.logs, .int .i64 x.ready]]) (w' := w9) (by simp [execOp, e0, e1, e7, go_sem, valsOf]) (changed_any (t : Int) l _ i { x with pass := 0 } w9 hl1 (by omega) (HS.out.mono (bl_trans HB6.out hb9)) hil) ?_
          rintro e w10 ⟨⟨s, rfl, hv⟩, hg⟩
          refine ⟨_, rfl, _, rfl, bl_trans hb9 hg, ?_⟩
          exact ⟨by simpa using F0, by simpa using F1, by simpa using F2, by simpa using F3, by simpa using F4, by simpa using F5, by simpa using F6, by simpa using F7, by simpa using ⟨s, rfl, hv.rchs⟩, by simpa using F9, by simpa using F10, by simpa using F11, by simpa using F12, by simpa using F13, by simpa using F14, by simpa using F15, by simpa using F16⟩
        · have x7 := val_at (hv 7 (by simp))
          simp [valsOf] at x7
          refine wp_value (.int .i64 (p)) (w' := w9) (by simp [execOp, x7, go_sem, c0, c1, hXl, q0, q1, q2, q3, q4, q5, q6, q7, hblt, hiI]) ⟨_, rfl, hb9, ?_⟩
          exact ⟨by simpa using F0, by simpa using F1, by simpa using F2, by simpa using F3, by simpa using F4, by simpa using F5, by simpa using F6, by simpa using F7, by simpa using F8, by simp, by simpa using F10, by simpa using F11, by simpa using F12, by simpa using F13, by simpa using F14, by simpa using F15, by simpa using F16⟩
        · have x11 := val_at (hv 11 (by simp))
          simp [valsOf] at x11
          refine wp_value (vo) (w' := w9) (by simp [execOp, x11, go_sem, c0, c1, hXl, q0, q1, q2, q3, q4, q5, q6, q7, hblt, hiI]) ⟨_, rfl, hb9, ?_⟩
          exact ⟨by simpa using F0, by simpa using F1, by simpa using F2, by simpa using F3, by simpa using F4, by simpa using F5, by simpa using F6, by simpa using F7, by simpa using F8, by simpa using F9, by simp, by simpa using F11, by simpa using F12, by simpa using F13, by simpa using F14, by simpa using F15, by simpa using F16⟩
        · have d8 := hdep ⟨8, .data⟩ (by simp) rfl
          have d9 := hdep ⟨9, .data⟩ (by simp) rfl
          have e9 := val_at (F9 d9)
          have d10 := hdep ⟨10, .data⟩ (by simp) rfl
          have e10 := val_at (F10 d10)
          obtain ⟨s19, h19, hr19⟩ := F8 d8
          have e19 := val_at h19
          refine wp_calls (f := 36) (args := #[.agg #[.int .i64 (t : Int), s19], .int .i64 p, vo]) (w' := w9) (by simp [execOp, e19, e9, e10, go_sem, valsOf]) (HCC.out s19 w9 hr19 (HV6.out.mono hb9)) ?_
          rintro e w10 ⟨rfl, hg⟩
          refine ⟨_, rfl, _, rfl, bl_trans hb9 hg, ?_⟩
          exact ⟨by simpa using F0, by simpa using F1, by simpa using F2, by simpa using F3, by simpa using F4, by simpa using F5, by simpa using F6, by simpa using F7, by simpa using fun h => (F8 h).mono hg, by simpa using F9, by simpa using F10, by simp, by simpa using F12, by simpa using F13, by simpa using F14, by simpa using F15, by simpa using F16⟩
        · have d11 := hdep ⟨11, .data⟩ (by simp) rfl
          have e11 := val_at (F11 d11)
          refine wp_value (.tuple #[.int .i64 cb, .int .i64 0]) (w' := w9) (by simp [execOp, e11, go_sem, c0, c1, hXl, q0, q1, q2, q3, q4, q5, q6, q7, hblt, hiI]) ⟨_, rfl, hb9, ?_⟩
          exact ⟨by simpa using F0, by simpa using F1, by simpa using F2, by simpa using F3, by simpa using F4, by simpa using F5, by simpa using F6, by simpa using F7, by simpa using F8, by simpa using F9, by simpa using F10, by simpa using F11, by simp, by simpa using F13, by simpa using F14, by simpa using F15, by simpa using F16⟩
        · have d12 := hdep ⟨12, .data⟩ (by simp) rfl
          have e12 := val_at (F12 d12)
          refine wp_value (.int .i64 (cb)) (w' := w9) (by simp [execOp, e12, go_sem, c0, c1, hXl, q0, q1, q2, q3, q4, q5, q6, q7, hblt, hiI]) ⟨_, rfl, hb9, ?_⟩
          exact ⟨by simpa using F0, by simpa using F1, by simpa using F2, by simpa using F3, by simpa using F4, by simpa using F5, by simpa using F6, by simpa using F7, by simpa using F8, by simpa using F9, by simpa using F10, by simpa using F11, by simpa using F12, by simp, by simpa using F14, by simpa using F15, by simpa using F16⟩
        · have d12 := hdep ⟨12, .data⟩ (by simp) rfl
          have e12 := val_at (F12 d12)
          refine wp_value (.int .i64 (0)) (w' := w9) (by simp [execOp, e12, go_sem, c0, c1, hXl, q0, q1, q2, q3, q4, q5, q6, q7, hblt, hiI]) ⟨_, rfl, hb9, ?_⟩
          exact ⟨by simpa using F0, by simpa using F1, by simpa using F2, by simpa using F3, by simpa using F4, by simpa using F5, by simpa using F6, by simpa using F7, by simpa using F8, by simpa using F9, by simpa using F10, by simpa using F11, by simpa using F12, by simpa using F13, by simp, by simpa using F15, by simpa using F16⟩
        · have d13 := hdep ⟨13, .data⟩ (by simp) rfl
          have e13 := val_at (F13 d13)
          refine wp_value (.int .i64 (cb)) (w' := w9) (by simp [execOp, e13, go_sem, c0, c1, hXl, q0, q1, q2, q3, q4, q5, q6, q7, hblt, hiI]) ⟨_, rfl, hb9, ?_⟩
          exact ⟨by simpa using F0, by simpa using F1, by simpa using F2, by simpa using F3, by simpa using F4, by simpa using F5, by simpa using F6, by simpa using F7, by simpa using F8, by simpa using F9, by simpa using F10, by simpa using F11, by simpa using F12, by simpa using F13, by simpa using F14, by simp, by simpa using F16⟩
        · have d14 := hdep ⟨14, .data⟩ (by simp) rfl
          have e14 := val_at (F14 d14)
          refine wp_value (.int .i64 (0)) (w' := w9) (by simp [execOp, e14, go_sem, c0, c1, hXl, q0, q1, q2, q3, q4, q5, q6, q7, hblt, hiI]) ⟨_, rfl, hb9, ?_⟩
          exact ⟨by simpa using F0, by simpa using F1, by simpa using F2, by simpa using F3, by simpa using F4, by simpa using F5, by simpa using F6, by simpa using F7, by simpa using F8, by simpa using F9, by simpa using F10, by simpa using F11, by simpa using F12, by simpa using F13, by simpa using F14, by simpa using F15, by simp⟩
      intro u w7 hb7 seen hall ⟨F0, F1, F2, F3, F4, F5, F6, F7, F8, F9, F10, F11, F12, F13, F14, F15, F16⟩
      replace F0 := F0 (hall 0 (by decide))
      replace F1 := F1 (hall 1 (by decide))
      replace F2 := F2 (hall 2 (by decide))
      replace F3 := F3 (hall 3 (by decide))
      replace F4 := F4 (hall 4 (by decide))
      replace F5 := F5 (hall 5 (by decide))
      replace F6 := F6 (hall 6 (by decide))
      replace F7 := F7 (hall 7 (by decide))
      replace F8 := F8 (hall 8 (by decide))
      replace F9 := F9 (hall 9 (by decide))
      replace F10 := F10 (hall 10 (by decide))
      replace F11 := F11 (hall 11 (by decide))
      replace F12 := F12 (hall 12 (by decide))
      replace F13 := F13 (hall 13 (by decide))
      replace F14 := F14 (hall 14 (by decide))
      replace F15 := F15 (hall 15 (by decide))
      replace F16 := F16 (hall 16 (by decide))
      simp only [setAll, F15, F16]
      clear F0 F1 F2 F3 F4 F5 F6 F7 F8 F9 F10 F11 F12 F13 F14 F15 F16 hall seen HCC HNA
      have HX7 := hid (heap_mono HX6.out hb7)
      have HB7 := hid (bl_trans HB6.out hb7)
      have HV7 := hid (HV6.out.mono hb7)
      clear HX6 HV6 hb7
      have t1 : decide (wv < 0) = false := by rw [decide_eq_false_iff_not]; omega
      have t2 : decide (ot < wv) = false := by rw [decide_eq_false_iff_not]; omega
      by_cases hab : ca = cb
      · have z1 : (ca != cb) = false := by simp [hab]
        by_cases hp0 : x.pass = 0
        · have z2 : (x.pass == 0) = true := by simp [hp0]
          clear HC2 hab hp0
          have sX0 : w7.cell? ⟨R, 0, none⟩ = some (.int .i64 (t : Int)) := cell_of_heap HX7.out
          have sX1 : w7.cell? ⟨R, 1, none⟩ = some (.slice (some ⟨b, off, none⟩) l.length c) := cell_of_heap HX7.out
          have slX := (Array.getElem?_eq_some_iff.1 HX7.out).1
          have q1 := (HC.out.mono HB7.out).c1
          have hbw : b < w7.heap.size := Nat.lt_of_lt_of_le hb HB7.out.size
          have hworks := works_any w7
          go_wp2_with fail
          refine hworks.mono ?_
          rintro e w8 ⟨rfl, hb8⟩
          clear hworks
          go_wp2
          go_ret
          exact ⟨rfl, bl_trans HB7.out hb8⟩
        · have z2 : (x.pass == 0) = false := by simp [hp0]
          have z3 : (wv == 0) = true := by rw [beq_iff_eq]; exact HC2.out hab hp0
          clear HC2 hab hp0
          have sX0 : w7.cell? ⟨R, 0, none⟩ = some (.int .i64 (t : Int)) := cell_of_heap HX7.out
          have sX1 : w7.cell? ⟨R, 1, none⟩ = some (.slice (some ⟨b, off, none⟩) l.length c) := cell_of_heap HX7.out
          have slX := (Array.getElem?_eq_some_iff.1 HX7.out).1
          have q1 := (HC.out.mono HB7.out).c1
          have hbw : b < w7.heap.size := Nat.lt_of_lt_of_le hb HB7.out.size
          have hworks := works_any w7
          go_wp2_with fail
          refine hworks.mono ?_
          rintro e w8 ⟨rfl, hb8⟩
          clear hworks
          go_wp2
          go_ret
          exact ⟨rfl, bl_trans HB7.out hb8⟩
      · have z1 : (ca != cb) = true := by simp [hab]
        clear HC2 hab
        have sX0 : w7.cell? ⟨R, 0, none⟩ = some (.int .i64 (t : Int)) := cell_of_heap HX7.out
        have sX1 : w7.cell? ⟨R, 1, none⟩ = some (.slice (some ⟨b, off, none⟩) l.length c) := cell_of_heap HX7.out
        have slX := (Array.getElem?_eq_some_iff.1 HX7.out).1
        have q1 := (HC.out.mono HB7.out).c1
        have hbw : b < w7.heap.size := Nat.lt_of_lt_of_le hb HB7.out.size
        have hworks := works_any w7
        go_wp2_with fail
        refine hworks.mono ?_
        rintro e w8 ⟨rfl, hb8⟩
        clear hworks
        go_wp2
        go_ret
        exact ⟨rfl, bl_trans HB7.out hb8⟩

end Go.Proofs.Ytbnmjbmlejifcaa
