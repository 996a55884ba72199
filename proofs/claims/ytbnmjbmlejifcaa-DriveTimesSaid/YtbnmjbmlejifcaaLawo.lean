/- DriveTimes: the walk. -/
import Derived.Test.YtbnmjbmlejifcaaLawi
import Derived.Test.YtbnmjbmlejifcaaLawn
set_option linter.all false
namespace Go.Proofs.Ytbnmjbmlejifcaa
open Go Go.RowKit Go.Proofs
attribute [local go_sem] cell_grow frozen_grow

theorem cc_bd {D : Nat} {l : List Rch} (h : riverE (D : Int) l = 0) {d : Int} (hd : 1 ≤ d ∧ d ≤ (D : Int)) {f : List Int} (hf : f.length = l.length) (hb : ∀ x ∈ f, 1 ≤ x ∧ x ≤ d + 1) : 0 ≤ ccVal (D : Int) l d f ∧ ccVal (D : Int) l d f ≤ 2000000 := by
  have F := fit_of h
  have hn2 := F.n2
  have hD2 := F.d2
  obtain ⟨t, rfl⟩ : ∃ t : Nat, d = t := ⟨d.toNat, by omega⟩
  unfold ccVal
  rw [cc_ok h hd hf hb, if_pos rfl, Int.toNat_natCast]
  have hcut : IsCut l.length (cutF f) t := fun j hj => by
    obtain ⟨y, hy⟩ := get_at (l := f) (k := j) (by omega)
    have := hb y (List.mem_of_getElem? hy)
    have e : cutF f j = y.toNat := by simp [cutF, List.getD, hy]
    rw [e]; omega
  have key : ∀ i, i < l.length → 0 ≤ cutAt (rivP l) (cutF f) t i ∧ cutAt (rivP l) (cutF f) t i ≤ 210000 := fun i hi => by
    have hr := reach_of h hi
    have hc := hcut i hi
    have hbl := before_le (riv_of F) hcut hi
    have ht := thr_bd (x := rivP l i) (by omega) (cutF f i) (before (rivP l) (cutF f) t i) (by omega) (by omega)
    unfold cutAt
    split <;> omega
  have h1 := sumN_nonneg (f := cutAt (rivP l) (cutF f) t) (n := l.length) fun i hi => (key i hi).1
  have h2 := sumN_bd (f := cutAt (rivP l) (cutF f) t) (n := l.length) (c := 210000) fun i hi => (key i hi).2
  unfold bound
  refine ⟨h1, ?_⟩
  have : (l.length : Int) * 210000 ≤ 8 * 210000 := Int.mul_le_mul_of_nonneg_right (by omega) (by decide)
  omega
theorem times_bd {t a m : Int} (h1 : 1 ≤ t ∧ t ≤ 5) (h2 : 0 ≤ a ∧ a ≤ m) : 0 ≤ t * a ∧ t * a ≤ 5 * m := by
  have h3 := Int.mul_nonneg (show 0 ≤ t by omega) h2.1
  have h4 : t * a ≤ 5 * a := Int.mul_le_mul_of_nonneg_right h1.2 h2.1
  omega

set_option maxRecDepth 100000 in
set_option maxHeartbeats 8000000 in
theorem driveTimes_any (days : Int) (l : List Rch) (sr : Value) (times day : Int) (ys : List Int) (sb : Value) (logs : Int) (w : World) (hs : Rchs w sr l) (b1 : 0 ≤ times ∧ times < 256) (b2 : 0 ≤ day ∧ day < 256) (hys : Bytes w sb ys) (b3 : 0 ≤ logs ∧ logs < 65536) :
    Calls Try.prog 13 #[.agg #[.int .i64 days, sr], .int .u8 times, .int .u8 day, sb, .int .u16 logs] w fun e w' => e = .returned (.bool true) ∧ Below w.heap.size w w' := by
  obtain ⟨i59, hi, hi0, hi1, hi2⟩ := info_parts info59
  obtain ⟨Ay, cy, rfl⟩ := hys.slice
  have HYS := hid hys
  clear hys
  obtain ⟨A, c, rfl⟩ := hs.slice
  have HX0 := hid (World.alloc_heap_new w (.cells #[.int .i64 days, .slice A l.length c] 24))
  have HB0 := hid (bl_alloc (bl_refl w) (.cells #[.int .i64 days, .slice A l.length c] 24))
  have HS := hid hs
  clear hs
  go_enter Try.func13, Try.ntmps13
  go_upto_region 1 with (fail)
  obtain ⟨R, hR⟩ : ∃ R, w.heap.size = R := ⟨_, rfl⟩
  obtain ⟨w0, hw0⟩ : ∃ w0, w.alloc (.cells #[.int .i64 days, .slice A l.length c] 24) = w0 := ⟨_, rfl⟩
  rw [hR] at HX0 ⊢
  rw [hw0] at HX0 HB0 ⊢
  clear hw0 hR
  by_cases h0 : ¬ riverE days l = 0
  · have hd0 : decide (riverE days l = 0) = false := by simpa using h0
    have sX0 : w0.cell? ⟨R, 0, none⟩ = some (.int .i64 days) := cell_of_heap HX0.out
    have sX1 : w0.cell? ⟨R, 1, none⟩ = some (.slice A l.length c) := cell_of_heap HX0.out
    have slX := (Array.getElem?_eq_some_iff.1 HX0.out).1
    have hcall := fine_any days l _ w0 (HS.out.mono HB0.out)
    rw [hd0] at hcall
    clear hd0 h0
    go_wp2_with fail
    refine hcall.mono ?_
    rintro e w1 ⟨rfl, hb1⟩
    clear hcall sX0 sX1 slX
    have HX1 := hid (heap_mono HX0.out hb1)
    have HB1 := hid (bl_trans HB0.out hb1)
    clear HX0  hb1
    have hworks := works_any w1
    go_wp2_with fail
    refine hworks.mono ?_
    rintro e w2 ⟨rfl, hb2⟩
    clear hworks
    go_wp2
    go_ret
    exact ⟨rfl, bl_trans HB1.out hb2⟩
  replace h0 := Decidable.not_not.1 h0
  have hd0 : decide (riverE days l = 0) = true := by simpa using h0
  have F0 := fit_of h0
  obtain ⟨D, rfl⟩ : ∃ D : Nat, days = D := ⟨days.toNat, by have := F0.d1; omega⟩
  have hD1 := F0.d1
  have hD2 := F0.d2
  have hl1 := F0.n1
  have hl8 := F0.n2
  have HR0 := hid h0
  have HF := hid F0
  clear F0
  have sX0 : w0.cell? ⟨R, 0, none⟩ = some (.int .i64 (D : Int)) := cell_of_heap HX0.out
  have sX1 : w0.cell? ⟨R, 1, none⟩ = some (.slice A l.length c) := cell_of_heap HX0.out
  have slX := (Array.getElem?_eq_some_iff.1 HX0.out).1
  have hcall := fine_any (D : Int) l _ w0 (HS.out.mono HB0.out)
  rw [hd0] at hcall
  clear hd0 h0
  go_wp2_with fail
  refine hcall.mono ?_
  rintro e w1 ⟨rfl, hb1⟩
  clear hcall sX0 sX1 slX
  have HX1 := hid (heap_mono HX0.out hb1)
  have HB1 := hid (bl_trans HB0.out hb1)
  clear HX0  hb1
  by_cases hyl : 20 < ys.length
  · have hy1 : decide ((20 : Int) < (ys.length : Int)) = true := by rw [decide_eq_true_eq]; omega
    have sX0 : w1.cell? ⟨R, 0, none⟩ = some (.int .i64 (D : Int)) := cell_of_heap HX1.out
    have sX1 : w1.cell? ⟨R, 1, none⟩ = some (.slice A l.length c) := cell_of_heap HX1.out
    have slX := (Array.getElem?_eq_some_iff.1 HX1.out).1
    have hworks := works_any w1
    go_wp2_with fail
    refine hworks.mono ?_
    rintro e w2 ⟨rfl, hb2⟩
    clear hworks
    go_wp2
    go_ret
    exact ⟨rfl, bl_trans HB1.out hb2⟩
  have hy1 : decide ((20 : Int) < (ys.length : Int)) = false := by rw [decide_eq_false_iff_not]; omega
  obtain ⟨m, hm, hmb⟩ : ∃ m, Int.tmod times 5 = m ∧ 0 ≤ m ∧ m < 5 := ⟨_, rfl, by rw [Int.tmod_eq_emod_of_nonneg (by omega)]; omega⟩
  obtain ⟨t, ht, htb⟩ : ∃ t, 1 + m = t ∧ 1 ≤ t ∧ t ≤ 5 := ⟨_, rfl, by omega⟩
  have v1 : IntKind.i64.wrap times = times := IntWalk.i64_in _ (by omega)
  have v2 : IntKind.i64.wrap m = m := IntWalk.i64_in _ (by omega)
  have v3 : IntKind.i64.wrap t = t := IntWalk.i64_in _ (by omega)
  obtain ⟨b, off, c', e5, hlc, hb, hcell⟩ := HS.out.some hl1
  simp only [Value.slice.injEq, true_and] at e5
  obtain ⟨rfl, rfl⟩ := e5
  have HC := hid hcell
  clear hcell
  have sX0 : w1.cell? ⟨R, 0, none⟩ = some (.int .i64 (D : Int)) := cell_of_heap HX1.out
  have sX1 : w1.cell? ⟨R, 1, none⟩ = some (.slice (some ⟨b, off, none⟩) l.length c) := cell_of_heap HX1.out
  have slX := (Array.getElem?_eq_some_iff.1 HX1.out).1
  go_upto_region 5 with (fail)
  clear sX0 sX1 slX hy1 hm v1 v2 v3
  have hq := World.alloc_heap_new w1 (.cells #[.int .i64 (D : Int), .slice none 0 0] 24)
  have hba := bl_alloc (bl_refl w1) (.cells #[.int .i64 (D : Int), .slice none 0 0] 24)
  obtain ⟨Q, hQ⟩ : ∃ Q, w1.heap.size = Q := ⟨_, rfl⟩
  obtain ⟨w2, hw2⟩ : ∃ w2, w1.alloc (.cells #[.int .i64 (D : Int), .slice none 0 0] 24) = w2 := ⟨_, rfl⟩
  have hsz : w2.heap.size = Q + 1 := by rw [← hw2, World.size_alloc, hQ]
  rw [hQ] at hq ⊢
  rw [hw2] at hq hba ⊢
  clear hw2
  have HQ0 := hid hq
  have HBA := hid hba
  have HQS := hid hQ
  clear hq hba hQ
  go_wp2
  go_loopw [13] (fun p wr => ∃ (j : Nat) (v : Value), j ≤ l.length ∧ p = .int .i64 (j : Int) ∧ wr.heap[Q]? = some (.cells #[.int .i64 (D : Int), v] 24 (0, 0)) ∧ wr.ownsRow (Q + 1) 59 8 v j (rcs ((l.take j).map (timesR t))) ∧ Below w1.heap.size w1 wr) (fun p _ => l.length - (intOf p).toNat)
  case atStart => exact ⟨0, _, Nat.zero_le _, rfl, HQ0.out, World.ownsRow_nil _ _ _ _, HBA.out⟩
  case round =>
    obtain ⟨j, v, hj, rfl, hq, hown, hB⟩ := hrel
    clear HQ0 HBA
    have hkb := heap_mono HX1.out hB
    have s0 : wr.cell? ⟨R, 1, none⟩ = some (.slice (some ⟨b, off, none⟩) l.length c) := cell_of_heap hkb
    have sl := (Array.getElem?_eq_some_iff.1 hkb).1
    clear hkb
    have hqs : Q < wr.heap.size := (Array.getElem?_eq_some_iff.1 hq).1
    by_cases hlt : j < l.length
    · obtain ⟨x, hx⟩ := get_at hlt
      have hB0 := bl_trans HB1.out hB
      obtain ⟨q0, q1, q2, q3, q4, q5, q6, q7⟩ := (HC.out j x hx).mono hB0
      have hjI : (j : Int) < (l.length : Int) := by omega
      have hbw : b < wr.heap.size := Nat.lt_of_lt_of_le hb hB0.size
      have hxp := times_bd htb (HF.out.pass j x hx)
      have hxl := times_bd htb (HF.out.logs j x hx)
      have u1 : IntKind.i64.wrap (t * x.pass) = t * x.pass := IntWalk.i64_in _ (by omega)
      have u2 : IntKind.i64.wrap (t * x.logs) = t * x.logs := IntWalk.i64_in _ (by omega)
      have HMT := hid (map_take_succ (timesR t) hx)
      have HOW := hid hown
      have HQQ := hid hq
      have HBB := hid hB
      clear hown hq hB hB0 hx
      go_upto_region 10 with (fail)
      have hp := World.alloc_heap_new wr (.cells #[.int .i64 x.down, .int .i64 (t * x.pass), .int .i64 x.takes, .int .i64 x.lo, .int .i64 x.hi, .int .i64 x.every, .int .i64 (t * x.logs), .int .i64 x.ready] 59)
      have ba := bl_alloc (bl_refl wr) (.cells #[.int .i64 x.down, .int .i64 (t * x.pass), .int .i64 x.takes, .int .i64 x.lo, .int .i64 x.hi, .int .i64 x.every, .int .i64 (t * x.logs), .int .i64 x.ready] 59)
      have ho9 := HOW.out.alloc (.cells #[.int .i64 x.down, .int .i64 (t * x.pass), .int .i64 x.takes, .int .i64 x.lo, .int .i64 x.hi, .int .i64 x.every, .int .i64 (t * x.logs), .int .i64 x.ready] 59)
      obtain ⟨PB, hPB⟩ : ∃ PB, wr.heap.size = PB := ⟨_, rfl⟩
      obtain ⟨w9, hw9⟩ : ∃ w9, wr.alloc (.cells #[.int .i64 x.down, .int .i64 (t * x.pass), .int .i64 x.takes, .int .i64 x.lo, .int .i64 x.hi, .int .i64 x.every, .int .i64 (t * x.logs), .int .i64 x.ready] 59) = w9 := ⟨_, rfl⟩
      rw [hPB] at hp ⊢
      rw [hw9] at hp ba ho9 ⊢
      have hq9 := heap_mono HQQ.out ba
      have HB9 := hid (bl_trans HBB.out ba)
      clear hw9 hPB q0 q1 q2 q3 q4 q5 q6 q7 s0 sl HOW HQQ HBB ba hbw hqs u1 u2
      have p0 := cell_of_heap (i := 0) hp
      have p1 := cell_of_heap (i := 1) hp
      have p2 := cell_of_heap (i := 2) hp
      have p3 := cell_of_heap (i := 3) hp
      have p4 := cell_of_heap (i := 4) hp
      have p5 := cell_of_heap (i := 5) hp
      have p6 := cell_of_heap (i := 6) hp
      have p7 := cell_of_heap (i := 7) hp
      have pl := (Array.getElem?_eq_some_iff.1 hp).1
      have z1 : w9.cell? ⟨Q, 1, none⟩ = some v := cell_of_heap hq9
      have zl := (Array.getElem?_eq_some_iff.1 hq9).1
      have own2 := ho9.alloc (.cells #[.int .i64 x.down, .int .i64 (t * x.pass), .int .i64 x.takes, .int .i64 x.lo, .int .i64 x.hi, .int .i64 x.every, .int .i64 (t * x.logs), .int .i64 x.ready] 59)
      have HQ9 := hid (heap_mono hq9 (bl_alloc (bl_refl w9) (.cells #[.int .i64 x.down, .int .i64 (t * x.pass), .int .i64 x.takes, .int .i64 x.lo, .int .i64 x.hi, .int .i64 x.every, .int .i64 (t * x.logs), .int .i64 x.ready] 59)))
      have hnews : ∀ jj u, (rc (timesR t x))[jj]? = some u → (w9.alloc (.cells #[.int .i64 x.down, .int .i64 (t * x.pass), .int .i64 x.takes, .int .i64 x.lo, .int .i64 x.hi, .int .i64 x.every, .int .i64 (t * x.logs), .int .i64 x.ready] 59)).cell? ((⟨w9.heap.size, 0, none⟩ : Addr).add jj) = some u := news_new w9 (rc (timesR t x)) 59
      clear hp hq9 ho9
      go_wp2_with (at_builtin; refine wpList_append_own _ rfl _ _ 22 rfl (Q + 1) 59 i59 _ 8 64 Try.underlying22 hi hi0 hi1 hi2 rfl (by decide) v j _ rfl own2 ⟨w9.heap.size, 0, none⟩ 1 1 (rc (timesR t x)) rfl rfl hnews (rc_one _) (by unfold maxLen; omega) (by omega) (by simp; omega) ?_; intro v2 w10 hown2 hgrow hnil; obtain ⟨g5, c5, rfl⟩ := own_some hown2; have hq10 := keep_other HQ9.out own2 (by decide) hgrow; have HB10 := hid (bl_grown (bl_alloc HB9.out _) own2 (by have := HQS.out; omega) hgrow); have y1 : w10.cell? ⟨Q, 1, none⟩ = some v := cell_of_heap hq10; have y2 : w10.frozen? ⟨Q, 1, none⟩ = false := frozen_of_heap hq10; have y3 : Q < w10.heap.size := (Array.getElem?_eq_some_iff.1 hq10).1; have HO10 := hid hown2; have HQ10 := hid hq10; clear hown2 hgrow hnil hq10 own2 hnews HQ9 p0 p1 p2 p3 p4 p5 p6 p7 pl z1 zl)
      have hown3 := HO10.out
      rw [← rcs_snoc, ← HMT.out] at hown3
      have HO3 := hid hown3
      clear hown3 HO10
      go_roundw
      case rel => exact ⟨j + 1, _, by omega, by go_num, by rw [heap_setCell_same _ _ _ _ _ _ HQ10.out]; rfl, own_set_other HQ10.out HO3.out (by decide) _ _, bl_set HB10.out _ (by have := HQS.out; omega)⟩
      case measure => simp [intOf]; omega
    · obtain rfl : j = l.length := by omega
      rw [List.take_length] at hown
      have hlen : (timesL t l).length = l.length := List.length_map ..
      have hrm := own_rchs (l := timesL t l) hlen hown
      clear hown hj hlt hqs
      obtain ⟨w2, hwn⟩ : ∃ w2, wr = w2 := ⟨_, rfl⟩
      rw [hwn] at hq hB hrm ⊢
      clear hwn s0 sl
      have hkb := hB
      clear hB
      have HX2 := hid (heap_mono HX1.out hkb)
      have HB2 := hid (bl_trans HB1.out hkb)
      clear HX1  hkb
      have HQ2 := hid hq
      have HM2 := hid hrm
      clear hq hrm
      by_cases h2 : ¬ riverE (D : Int) (timesL t l) = 0
      · have hd2 : decide (riverE (D : Int) (timesL t l) = 0) = false := by simpa using h2
        have sX0 : w2.cell? ⟨R, 0, none⟩ = some (.int .i64 (D : Int)) := cell_of_heap HX2.out
        have sX1 : w2.cell? ⟨R, 1, none⟩ = some (.slice (some ⟨b, off, none⟩) l.length c) := cell_of_heap HX2.out
        have slX := (Array.getElem?_eq_some_iff.1 HX2.out).1
        have sQ0 : w2.cell? ⟨Q, 0, none⟩ = some (.int .i64 (D : Int)) := cell_of_heap HQ2.out
        have sQ1 : w2.cell? ⟨Q, 1, none⟩ = some (v) := cell_of_heap HQ2.out
        have slQ := (Array.getElem?_eq_some_iff.1 HQ2.out).1
        have hcall := fine_any (D : Int) _ v w2 HM2.out
        rw [hd2] at hcall
        clear hd2 h2
        go_wp2_with fail
        refine hcall.mono ?_
        rintro e w3 ⟨rfl, hb3⟩
        clear hcall sX0 sX1 slX sQ0 sQ1 slQ
        have HX3 := hid (heap_mono HX2.out hb3)
        have HQ3 := hid (heap_mono HQ2.out hb3)
        have HB3 := hid (bl_trans HB2.out hb3)
        have HM3 := hid (HM2.out.mono hb3)
        clear HX2 HQ2 HM2 hb3
        have hworks := works_any w3
        go_wp2_with fail
        refine hworks.mono ?_
        rintro e w4 ⟨rfl, hb4⟩
        clear hworks
        go_wp2
        go_ret
        exact ⟨rfl, bl_trans HB3.out hb4⟩
      replace h2 := Decidable.not_not.1 h2
      have hd2 : decide (riverE (D : Int) (timesL t l) = 0) = true := by simpa using h2
      have HR2 := hid h2
      clear h2
      have sX0 : w2.cell? ⟨R, 0, none⟩ = some (.int .i64 (D : Int)) := cell_of_heap HX2.out
      have sX1 : w2.cell? ⟨R, 1, none⟩ = some (.slice (some ⟨b, off, none⟩) l.length c) := cell_of_heap HX2.out
      have slX := (Array.getElem?_eq_some_iff.1 HX2.out).1
      have sQ0 : w2.cell? ⟨Q, 0, none⟩ = some (.int .i64 (D : Int)) := cell_of_heap HQ2.out
      have sQ1 : w2.cell? ⟨Q, 1, none⟩ = some (v) := cell_of_heap HQ2.out
      have slQ := (Array.getElem?_eq_some_iff.1 HQ2.out).1
      have hcall := fine_any (D : Int) _ v w2 HM2.out
      rw [hd2] at hcall
      clear hd2
      go_wp2_with fail
      refine hcall.mono ?_
      rintro e w3 ⟨rfl, hb3⟩
      clear hcall sX0 sX1 slX sQ0 sQ1 slQ
      have HX3 := hid (heap_mono HX2.out hb3)
      have HQ3 := hid (heap_mono HQ2.out hb3)
      have HB3 := hid (bl_trans HB2.out hb3)
      have HM3 := hid (HM2.out.mono hb3)
      clear HX2 HQ2 HM2 hb3
      obtain ⟨p, hp, p1, p2⟩ : ∃ p, dayE (D : Int) day = p ∧ 1 ≤ p ∧ p ≤ (D : Int) := ⟨_, rfl, dayE_bd hD1⟩
      have HA1 := hid (day_asked HR0.out p1 p2)
      have HA2 := hid (day_asked HR2.out p1 p2)
      have HMM : Hid (mostE (D : Int) (timesL t l) p = t * mostE (D : Int) l p) := hid (times_most HR0.out HR2.out htb.1 p2)
      obtain ⟨hby1, hby2, hby3⟩ := times_by (n := logs) HR0.out HR2.out htb.1 b3.1
      have HY1 := hid hby1
      have HY2 := hid hby2
      have HY3 := hid hby3
      clear hby1 hby2 hby3
      have hmr : 0 ≤ mostE (D : Int) l p ∧ mostE (D : Int) l p ≤ 800000000 := by
        obtain ⟨s, rfl⟩ : ∃ s : Nat, p = s := ⟨p.toNat, by omega⟩
        exact most_nonneg HF.out (by omega)
      have hyl2 : ys.length ≤ 400 := by omega
      have sX0 : w3.cell? ⟨R, 0, none⟩ = some (.int .i64 (D : Int)) := cell_of_heap HX3.out
      have sX1 : w3.cell? ⟨R, 1, none⟩ = some (.slice (some ⟨b, off, none⟩) l.length c) := cell_of_heap HX3.out
      have slX := (Array.getElem?_eq_some_iff.1 HX3.out).1
      have sQ0 : w3.cell? ⟨Q, 0, none⟩ = some (.int .i64 (D : Int)) := cell_of_heap HQ3.out
      have sQ1 : w3.cell? ⟨Q, 1, none⟩ = some (v) := cell_of_heap HQ3.out
      have slQ := (Array.getElem?_eq_some_iff.1 HQ3.out).1
      have hcall := day_any (D : Int) l _ day w3 (HS.out.mono HB3.out) (by omega) b2
      rw [hp] at hcall
      go_wp2_with fail
      refine hcall.mono ?_
      rintro e w4 ⟨rfl, hb4⟩
      clear hcall sX0 sX1 slX sQ0 sQ1 slQ
      have HX4 := hid (heap_mono HX3.out hb4)
      have HQ4 := hid (heap_mono HQ3.out hb4)
      have HB4 := hid (bl_trans HB3.out hb4)
      have HM4 := hid (HM3.out.mono hb4)
      clear HX3 HQ3 HM3 hb4
      clear hp
      have sX0 : w4.cell? ⟨R, 0, none⟩ = some (.int .i64 (D : Int)) := cell_of_heap HX4.out
      have sX1 : w4.cell? ⟨R, 1, none⟩ = some (.slice (some ⟨b, off, none⟩) l.length c) := cell_of_heap HX4.out
      have slX := (Array.getElem?_eq_some_iff.1 HX4.out).1
      have sQ0 : w4.cell? ⟨Q, 0, none⟩ = some (.int .i64 (D : Int)) := cell_of_heap HQ4.out
      have sQ1 : w4.cell? ⟨Q, 1, none⟩ = some (v) := cell_of_heap HQ4.out
      have slQ := (Array.getElem?_eq_some_iff.1 HQ4.out).1
      have hcall := firstFn_any (D : Int) l _ p ys _ w4 (HS.out.mono HB4.out) hl8 (by omega) (HYS.out.mono HB4.out) hyl2
      go_wp2_with fail
      refine hcall.mono ?_
      rintro e w5 ⟨⟨vf, f, rfl, hvf, hfl, hfb⟩, hb5⟩
      clear hcall sX0 sX1 slX sQ0 sQ1 slQ
      have HX5 := hid (heap_mono HX4.out hb5)
      have HQ5 := hid (heap_mono HQ4.out hb5)
      have HB5 := hid (bl_trans HB4.out hb5)
      have HM5 := hid (HM4.out.mono hb5)
      clear HX4 HQ4 HM4 hb5
      have HV5 := hid hvf
      clear hvf
      have HCC1 := hid (cc_ok HR0.out ⟨p1, p2⟩ hfl hfb)
      have HCC2 := hid (cc_ok HR2.out ⟨p1, p2⟩ (hfl.trans hlen.symm) hfb)
      have HCV := hid (times_cut HR0.out HR2.out ⟨p1, p2⟩ hfl hfb)
      have hcr := cc_bd HR0.out ⟨p1, p2⟩ hfl hfb
      clear hfb
      have sX0 : w5.cell? ⟨R, 0, none⟩ = some (.int .i64 (D : Int)) := cell_of_heap HX5.out
      have sX1 : w5.cell? ⟨R, 1, none⟩ = some (.slice (some ⟨b, off, none⟩) l.length c) := cell_of_heap HX5.out
      have slX := (Array.getElem?_eq_some_iff.1 HX5.out).1
      have sQ0 : w5.cell? ⟨Q, 0, none⟩ = some (.int .i64 (D : Int)) := cell_of_heap HQ5.out
      have sQ1 : w5.cell? ⟨Q, 1, none⟩ = some (v) := cell_of_heap HQ5.out
      have slQ := (Array.getElem?_eq_some_iff.1 HQ5.out).1
      have hcall := most_any (D : Int) l _ p w5 (by omega) (HS.out.mono HB5.out)
      rw [HA1.out, if_pos rfl] at hcall
      go_wp2_with fail
      refine hcall.mono ?_
      rintro e w6 ⟨rfl, hb6⟩
      clear hcall sX0 sX1 slX sQ0 sQ1 slQ
      have HX6 := hid (heap_mono HX5.out hb6)
      have HQ6 := hid (heap_mono HQ5.out hb6)
      have HB6 := hid (bl_trans HB5.out hb6)
      have HM6 := hid (HM5.out.mono hb6)
      have HV6 := hid (HV5.out.mono hb6)
      clear HX5 HQ5 HM5 HV5 hb6
      have sX0 : w6.cell? ⟨R, 0, none⟩ = some (.int .i64 (D : Int)) := cell_of_heap HX6.out
      have sX1 : w6.cell? ⟨R, 1, none⟩ = some (.slice (some ⟨b, off, none⟩) l.length c) := cell_of_heap HX6.out
      have slX := (Array.getElem?_eq_some_iff.1 HX6.out).1
      have sQ0 : w6.cell? ⟨Q, 0, none⟩ = some (.int .i64 (D : Int)) := cell_of_heap HQ6.out
      have sQ1 : w6.cell? ⟨Q, 1, none⟩ = some (v) := cell_of_heap HQ6.out
      have slQ := (Array.getElem?_eq_some_iff.1 HQ6.out).1
      have hcall := most_any (D : Int) _ v p w6 (by omega) HM6.out
      rw [HA2.out, if_pos rfl, HMM.out] at hcall
      go_wp2_with fail
      refine hcall.mono ?_
      rintro e w7 ⟨rfl, hb7⟩
      clear hcall sX0 sX1 slX sQ0 sQ1 slQ
      have HX7 := hid (heap_mono HX6.out hb7)
      have HQ7 := hid (heap_mono HQ6.out hb7)
      have HB7 := hid (bl_trans HB6.out hb7)
      have HM7 := hid (HM6.out.mono hb7)
      have HV7 := hid (HV6.out.mono hb7)
      clear HX6 HQ6 HM6 HV6 hb7
      have sX0 : w7.cell? ⟨R, 0, none⟩ = some (.int .i64 (D : Int)) := cell_of_heap HX7.out
      have sX1 : w7.cell? ⟨R, 1, none⟩ = some (.slice (some ⟨b, off, none⟩) l.length c) := cell_of_heap HX7.out
      have slX := (Array.getElem?_eq_some_iff.1 HX7.out).1
      have sQ0 : w7.cell? ⟨Q, 0, none⟩ = some (.int .i64 (D : Int)) := cell_of_heap HQ7.out
      have sQ1 : w7.cell? ⟨Q, 1, none⟩ = some (v) := cell_of_heap HQ7.out
      have slQ := (Array.getElem?_eq_some_iff.1 HQ7.out).1
      have hcall := checkCut_any (D : Int) l _ p f vf w7 (by omega) (HS.out.mono HB7.out) (by omega) HV7.out
      rw [HCC1.out] at hcall
      go_wp2_with fail
      refine hcall.mono ?_
      rintro e w8 ⟨rfl, hb8⟩
      clear hcall sX0 sX1 slX sQ0 sQ1 slQ
      have HX8 := hid (heap_mono HX7.out hb8)
      have HQ8 := hid (heap_mono HQ7.out hb8)
      have HB8 := hid (bl_trans HB7.out hb8)
      have HM8 := hid (HM7.out.mono hb8)
      have HV8 := hid (HV7.out.mono hb8)
      clear HX7 HQ7 HM7 HV7 hb8
      have sX0 : w8.cell? ⟨R, 0, none⟩ = some (.int .i64 (D : Int)) := cell_of_heap HX8.out
      have sX1 : w8.cell? ⟨R, 1, none⟩ = some (.slice (some ⟨b, off, none⟩) l.length c) := cell_of_heap HX8.out
      have slX := (Array.getElem?_eq_some_iff.1 HX8.out).1
      have sQ0 : w8.cell? ⟨Q, 0, none⟩ = some (.int .i64 (D : Int)) := cell_of_heap HQ8.out
      have sQ1 : w8.cell? ⟨Q, 1, none⟩ = some (v) := cell_of_heap HQ8.out
      have slQ := (Array.getElem?_eq_some_iff.1 HQ8.out).1
      have hcall := checkCut_any (D : Int) _ v p f vf w8 (by omega) HM8.out (by omega) HV8.out
      rw [HCC2.out, HCV.out] at hcall
      go_wp2_with fail
      refine hcall.mono ?_
      rintro e w9 ⟨rfl, hb9⟩
      clear hcall sX0 sX1 slX sQ0 sQ1 slQ
      have HX9 := hid (heap_mono HX8.out hb9)
      have HQ9 := hid (heap_mono HQ8.out hb9)
      have HB9 := hid (bl_trans HB8.out hb9)
      have HM9 := hid (HM8.out.mono hb9)
      have HV9 := hid (HV8.out.mono hb9)
      clear HX8 HQ8 HM8 HV8 hb9
      have u4 : IntKind.i64.wrap logs = logs := IntWalk.i64_in _ (by omega)
      have sX0 : w9.cell? ⟨R, 0, none⟩ = some (.int .i64 (D : Int)) := cell_of_heap HX9.out
      have sX1 : w9.cell? ⟨R, 1, none⟩ = some (.slice (some ⟨b, off, none⟩) l.length c) := cell_of_heap HX9.out
      have slX := (Array.getElem?_eq_some_iff.1 HX9.out).1
      have sQ0 : w9.cell? ⟨Q, 0, none⟩ = some (.int .i64 (D : Int)) := cell_of_heap HQ9.out
      have sQ1 : w9.cell? ⟨Q, 1, none⟩ = some (v) := cell_of_heap HQ9.out
      have slQ := (Array.getElem?_eq_some_iff.1 HQ9.out).1
      have hcall := by_any (D : Int) l _ logs w9 (by omega) (HS.out.mono HB9.out)
      go_wp2_with fail
      refine hcall.mono ?_
      rintro e w10 ⟨rfl, hb10⟩
      clear hcall sX0 sX1 slX sQ0 sQ1 slQ
      have HX10 := hid (heap_mono HX9.out hb10)
      have HQ10 := hid (heap_mono HQ9.out hb10)
      have HB10 := hid (bl_trans HB9.out hb10)
      have HM10 := hid (HM9.out.mono hb10)
      have HV10 := hid (HV9.out.mono hb10)
      clear HX9 HQ9 HM9 HV9 hb10
      have htl := times_bd htb (a := logs) (m := 65536) (by omega)
      have u5 : IntKind.i64.wrap (t * logs) = t * logs := IntWalk.i64_in _ (by omega)
      have sX0 : w10.cell? ⟨R, 0, none⟩ = some (.int .i64 (D : Int)) := cell_of_heap HX10.out
      have sX1 : w10.cell? ⟨R, 1, none⟩ = some (.slice (some ⟨b, off, none⟩) l.length c) := cell_of_heap HX10.out
      have slX := (Array.getElem?_eq_some_iff.1 HX10.out).1
      have sQ0 : w10.cell? ⟨Q, 0, none⟩ = some (.int .i64 (D : Int)) := cell_of_heap HQ10.out
      have sQ1 : w10.cell? ⟨Q, 1, none⟩ = some (v) := cell_of_heap HQ10.out
      have slQ := (Array.getElem?_eq_some_iff.1 HQ10.out).1
      have hcall := by_any (D : Int) _ v (t * logs) w10 (by omega) HM10.out
      rw [HY1.out, HY2.out] at hcall
      go_wp2_with fail
      refine hcall.mono ?_
      rintro e w11 ⟨rfl, hb11⟩
      clear hcall sX0 sX1 slX sQ0 sQ1 slQ
      have HX11 := hid (heap_mono HX10.out hb11)
      have HQ11 := hid (heap_mono HQ10.out hb11)
      have HB11 := hid (bl_trans HB10.out hb11)
      have HM11 := hid (HM10.out.mono hb11)
      have HV11 := hid (HV10.out.mono hb11)
      clear HX10 HQ10 HM10 HV10 hb11
      clear u4 u5 htl
      obtain ⟨mo, hmo⟩ : ∃ mo, mostE (D : Int) l p = mo := ⟨_, rfl⟩
      obtain ⟨cv, hcv⟩ : ∃ cv, ccVal (D : Int) l p f = cv := ⟨_, rfl⟩
      obtain ⟨bv, hbv⟩ : ∃ bv, byE (D : Int) l logs = bv := ⟨_, rfl⟩
      obtain ⟨be, hbe⟩ : ∃ be, byErr (D : Int) l logs = be := ⟨_, rfl⟩
      have hbz := HY3.out
      rw [hbe] at hbz ⊢
      rw [hmo] at hmr ⊢
      rw [hcv] at hcr ⊢
      rw [hbv]
      clear hbe hmo hcv hbv HCV HMM HY1 HY2 HY3 HCC1 HCC2 HA1 HA2
      have u6 : IntKind.i64.wrap (t * mo) = t * mo := IntWalk.i64_in _ (by have := times_bd htb hmr; omega)
      have u7 : IntKind.i64.wrap (t * cv) = t * cv := IntWalk.i64_in _ (by have := times_bd htb hcr; omega)
      rcases hbz with rfl | rfl
      · have hworks := works_any w11
        go_wp2_with fail
        refine hworks.mono ?_
        rintro e w12 ⟨rfl, hb12⟩
        clear hworks
        go_wp2
        go_ret
        exact ⟨rfl, bl_trans HB11.out hb12⟩
      · have hworks := works_any w11
        go_wp2_with fail
        refine hworks.mono ?_
        rintro e w12 ⟨rfl, hb12⟩
        clear hworks
        go_wp2
        go_ret
        exact ⟨rfl, bl_trans HB11.out hb12⟩

end Go.Proofs.Ytbnmjbmlejifcaa
