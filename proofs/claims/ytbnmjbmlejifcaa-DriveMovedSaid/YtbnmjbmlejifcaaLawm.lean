/- DriveMoved: the walk. -/
import Derived.Test.YtbnmjbmlejifcaaLawi
set_option linter.all false
namespace Go.Proofs.Ytbnmjbmlejifcaa
open Go Go.RowKit Go.Proofs
attribute [local go_sem] cell_grow frozen_grow

set_option maxRecDepth 100000 in
set_option maxHeartbeats 8000000 in
theorem driveMoved_any (days : Int) (l : List Rch) (sr : Value) (by_ day : Int) (w : World) (hs : Rchs w sr l) (b1 : 0 ≤ by_ ∧ by_ < 256) (b2 : 0 ≤ day ∧ day < 256) :
    Calls Try.prog 14 #[.agg #[.int .i64 days, sr], .int .u8 by_, .int .u8 day] w fun e w' => e = .returned (.bool true) ∧ Below w.heap.size w w' := by
  obtain ⟨i59, hi, hi0, hi1, hi2⟩ := info_parts info59
  obtain ⟨A, c, rfl⟩ := hs.slice
  have HX0 := hid (World.alloc_heap_new w (.cells #[.int .i64 days, .slice A l.length c] 24))
  have HB0 := hid (bl_alloc (bl_refl w) (.cells #[.int .i64 days, .slice A l.length c] 24))
  have HS := hid hs
  clear hs
  go_enter Try.func14, Try.ntmps14
  go_upto_region 1 with (fail)
  obtain ⟨R, hR⟩ : ∃ R, w.heap.size = R := ⟨_, rfl⟩
  obtain ⟨w0, hw0⟩ : ∃ w0, w.alloc (.cells #[.int .i64 days, .slice A l.length c] 24) = w0 := ⟨_, rfl⟩
  rw [hR] at HX0 ⊢
  rw [hw0] at HX0 HB0 ⊢
  clear hw0 hR
  by_cases h0 : ¬ riverE days l = 0
  · have hd0 : decide (riverE days l = 0) = false := by simpa using h0
    have sX0 : w0.cell? ⟨R, 0, none⟩ = some (.int .i64 days) := cell_of_heap HX0.out
    have sX1 : w0.cell? ⟨R, 1, none⟩ = some (.slice A l.length c) := cell_of_heap HX0.out
    have slX := (Array.getElem?_eq_some_iff.1 HX0.out).1
    have hcall := fine_any days l _ w0 (HS.out.mono HB0.out)
    rw [hd0] at hcall
    clear hd0 h0
    go_wp2_with fail
    refine hcall.mono ?_
    rintro e w1 ⟨rfl, hb1⟩
    clear hcall sX0 sX1 slX
    have HX1 := hid (heap_mono HX0.out hb1)
    have HB1 := hid (bl_trans HB0.out hb1)
    clear HX0  hb1
    have hworks := works_any w1
    go_wp2_with fail
    refine hworks.mono ?_
    rintro e w2 ⟨rfl, hb2⟩
    clear hworks
    go_wp2
    go_ret
    exact ⟨rfl, bl_trans HB1.out hb2⟩
  replace h0 := Decidable.not_not.1 h0
  have hd0 : decide (riverE days l = 0) = true := by simpa using h0
  have F0 := fit_of h0
  obtain ⟨D, rfl⟩ : ∃ D : Nat, days = D := ⟨days.toNat, by have := F0.d1; omega⟩
  have hD1 := F0.d1
  have hD2 := F0.d2
  have hl1 := F0.n1
  have hl8 := F0.n2
  have HR0 := hid h0
  have HF := hid F0
  clear F0
  have sX0 : w0.cell? ⟨R, 0, none⟩ = some (.int .i64 (D : Int)) := cell_of_heap HX0.out
  have sX1 : w0.cell? ⟨R, 1, none⟩ = some (.slice A l.length c) := cell_of_heap HX0.out
  have slX := (Array.getElem?_eq_some_iff.1 HX0.out).1
  have hcall := fine_any (D : Int) l _ w0 (HS.out.mono HB0.out)
  rw [hd0] at hcall
  clear hd0 h0
  go_wp2_with fail
  refine hcall.mono ?_
  rintro e w1 ⟨rfl, hb1⟩
  clear hcall sX0 sX1 slX
  have HX1 := hid (heap_mono HX0.out hb1)
  have HB1 := hid (bl_trans HB0.out hb1)
  clear HX0  hb1
  obtain ⟨dv, hdv⟩ : ∃ dv, 40 - (D : Int) + 1 = dv := ⟨_, rfl⟩
  have hd1 : (dv == 0) = false := beq_eq_false_iff_ne.2 (by omega)
  have hd2 : ¬ dv = 0 := by omega
  obtain ⟨k, hkt, hk40⟩ : ∃ k : Nat, Int.tmod by_ dv = (k : Int) ∧ D + k ≤ 40 := by
    have h1 := Int.emod_nonneg by_ (b := dv) (by omega)
    have h2 := Int.emod_lt_of_pos by_ (b := dv) (by omega)
    exact ⟨(by_ % dv).toNat, by rw [Int.tmod_eq_emod_of_nonneg (by omega)]; omega, by omega⟩
  obtain ⟨E, hE⟩ : ∃ E : Nat, D + k = E := ⟨_, rfl⟩
  have hEI : (D : Int) + (k : Int) = (E : Int) := by omega
  have v1 : IntKind.i64.wrap by_ = by_ := IntWalk.i64_in _ (by omega)
  have v2 : IntKind.i64.wrap (40 - (D : Int)) = 40 - (D : Int) := IntWalk.i64_in _ (by omega)
  have v3 : IntKind.i64.wrap dv = dv := IntWalk.i64_in _ (by omega)
  have v4 : IntKind.i64.wrap (k : Int) = k := IntWalk.i64_in _ (by omega)
  have v5 : IntKind.i64.wrap (E : Int) = E := IntWalk.i64_in _ (by omega)
  obtain ⟨b, off, c', e5, hlc, hb, hcell⟩ := HS.out.some hl1
  simp only [Value.slice.injEq, true_and] at e5
  obtain ⟨rfl, rfl⟩ := e5
  have HC := hid hcell
  clear hcell
  have sX0 : w1.cell? ⟨R, 0, none⟩ = some (.int .i64 (D : Int)) := cell_of_heap HX1.out
  have sX1 : w1.cell? ⟨R, 1, none⟩ = some (.slice (some ⟨b, off, none⟩) l.length c) := cell_of_heap HX1.out
  have slX := (Array.getElem?_eq_some_iff.1 HX1.out).1
  go_upto_region 5 with (fail)
  clear sX0 sX1 slX hdv hd1 hd2 hkt v1 v2 v3 v4 v5 hEI
  have hq := World.alloc_heap_new w1 (.cells #[.int .i64 (E : Int), .slice none 0 0] 24)
  have hba := bl_alloc (bl_refl w1) (.cells #[.int .i64 (E : Int), .slice none 0 0] 24)
  obtain ⟨Q, hQ⟩ : ∃ Q, w1.heap.size = Q := ⟨_, rfl⟩
  obtain ⟨w2, hw2⟩ : ∃ w2, w1.alloc (.cells #[.int .i64 (E : Int), .slice none 0 0] 24) = w2 := ⟨_, rfl⟩
  have hsz : w2.heap.size = Q + 1 := by rw [← hw2, World.size_alloc, hQ]
  rw [hQ] at hq ⊢
  rw [hw2] at hq hba ⊢
  clear hw2
  have HQ0 := hid hq
  have HBA := hid hba
  have HQS := hid hQ
  clear hq hba hQ
  go_wp2
  go_loopw [9] (fun p wr => ∃ (j : Nat) (v : Value), j ≤ l.length ∧ p = .int .i64 (j : Int) ∧ wr.heap[Q]? = some (.cells #[.int .i64 (E : Int), v] 24 (0, 0)) ∧ wr.ownsRow (Q + 1) 59 8 v j (rcs ((l.take j).map (movedR (k : Int)))) ∧ Below w1.heap.size w1 wr) (fun p _ => l.length - (intOf p).toNat)
  case atStart => exact ⟨0, _, Nat.zero_le _, rfl, HQ0.out, World.ownsRow_nil _ _ _ _, HBA.out⟩
  case round =>
    obtain ⟨j, v, hj, rfl, hq, hown, hB⟩ := hrel
    clear HQ0 HBA
    have hkb := heap_mono HX1.out hB
    have s0 : wr.cell? ⟨R, 1, none⟩ = some (.slice (some ⟨b, off, none⟩) l.length c) := cell_of_heap hkb
    have sl := (Array.getElem?_eq_some_iff.1 hkb).1
    clear hkb
    have hqs : Q < wr.heap.size := (Array.getElem?_eq_some_iff.1 hq).1
    by_cases hlt : j < l.length
    · obtain ⟨x, hx⟩ := get_at hlt
      have hB0 := bl_trans HB1.out hB
      obtain ⟨q0, q1, q2, q3, q4, q5, q6, q7⟩ := (HC.out j x hx).mono hB0
      have hjI : (j : Int) < (l.length : Int) := by omega
      have hbw : b < wr.heap.size := Nat.lt_of_lt_of_le hb hB0.size
      have hxr := HF.out.ready j x hx
      have hxw := HF.out.water j x hx
      have u1 : IntKind.i64.wrap (x.ready + (k : Int)) = x.ready + (k : Int) := IntWalk.i64_in _ (by omega)
      have u2 : IntKind.i64.wrap (x.lo + (k : Int)) = x.lo + (k : Int) := IntWalk.i64_in _ (by omega)
      have u3 : IntKind.i64.wrap (x.hi + (k : Int)) = x.hi + (k : Int) := IntWalk.i64_in _ (by omega)
      have HMT := hid (map_take_succ (movedR (k : Int)) hx)
      have HOW := hid hown
      have HQQ := hid hq
      have HBB := hid hB
      clear hown hq hB hB0 hx
      go_upto_region 10 with (fail)
      have hp := World.alloc_heap_new wr (.cells #[.int .i64 x.down, .int .i64 x.pass, .int .i64 x.takes, .int .i64 (x.lo + (k : Int)), .int .i64 (x.hi + (k : Int)), .int .i64 x.every, .int .i64 x.logs, .int .i64 (x.ready + (k : Int))] 59)
      have ba := bl_alloc (bl_refl wr) (.cells #[.int .i64 x.down, .int .i64 x.pass, .int .i64 x.takes, .int .i64 (x.lo + (k : Int)), .int .i64 (x.hi + (k : Int)), .int .i64 x.every, .int .i64 x.logs, .int .i64 (x.ready + (k : Int))] 59)
      have ho9 := HOW.out.alloc (.cells #[.int .i64 x.down, .int .i64 x.pass, .int .i64 x.takes, .int .i64 (x.lo + (k : Int)), .int .i64 (x.hi + (k : Int)), .int .i64 x.every, .int .i64 x.logs, .int .i64 (x.ready + (k : Int))] 59)
      obtain ⟨PB, hPB⟩ : ∃ PB, wr.heap.size = PB := ⟨_, rfl⟩
      obtain ⟨w9, hw9⟩ : ∃ w9, wr.alloc (.cells #[.int .i64 x.down, .int .i64 x.pass, .int .i64 x.takes, .int .i64 (x.lo + (k : Int)), .int .i64 (x.hi + (k : Int)), .int .i64 x.every, .int .i64 x.logs, .int .i64 (x.ready + (k : Int))] 59) = w9 := ⟨_, rfl⟩
      rw [hPB] at hp ⊢
      rw [hw9] at hp ba ho9 ⊢
      have hq9 := heap_mono HQQ.out ba
      have HB9 := hid (bl_trans HBB.out ba)
      clear hw9 hPB q0 q1 q2 q3 q4 q5 q6 q7 s0 sl HOW HQQ HBB ba u1 u2 u3 hbw hqs
      have p0 := cell_of_heap (i := 0) hp
      have p1 := cell_of_heap (i := 1) hp
      have p2 := cell_of_heap (i := 2) hp
      have p3 := cell_of_heap (i := 3) hp
      have p4 := cell_of_heap (i := 4) hp
      have p5 := cell_of_heap (i := 5) hp
      have p6 := cell_of_heap (i := 6) hp
      have p7 := cell_of_heap (i := 7) hp
      have pl := (Array.getElem?_eq_some_iff.1 hp).1
      have z1 : w9.cell? ⟨Q, 1, none⟩ = some v := cell_of_heap hq9
      have zl := (Array.getElem?_eq_some_iff.1 hq9).1
      have own2 := ho9.alloc (.cells #[.int .i64 x.down, .int .i64 x.pass, .int .i64 x.takes, .int .i64 (x.lo + (k : Int)), .int .i64 (x.hi + (k : Int)), .int .i64 x.every, .int .i64 x.logs, .int .i64 (x.ready + (k : Int))] 59)
      have HQ9 := hid (heap_mono hq9 (bl_alloc (bl_refl w9) (.cells #[.int .i64 x.down, .int .i64 x.pass, .int .i64 x.takes, .int .i64 (x.lo + (k : Int)), .int .i64 (x.hi + (k : Int)), .int .i64 x.every, .int .i64 x.logs, .int .i64 (x.ready + (k : Int))] 59)))
      have hnews : ∀ jj u, (rc (movedR (k : Int) x))[jj]? = some u → (w9.alloc (.cells #[.int .i64 x.down, .int .i64 x.pass, .int .i64 x.takes, .int .i64 (x.lo + (k : Int)), .int .i64 (x.hi + (k : Int)), .int .i64 x.every, .int .i64 x.logs, .int .i64 (x.ready + (k : Int))] 59)).cell? ((⟨w9.heap.size, 0, none⟩ : Addr).add jj) = some u := news_new w9 (rc (movedR (k : Int) x)) 59
      clear hp hq9 ho9
      go_wp2_with (at_builtin; refine wpList_append_own _ rfl _ _ 22 rfl (Q + 1) 59 i59 _ 8 64 Try.underlying22 hi hi0 hi1 hi2 rfl (by decide) v j _ rfl own2 ⟨w9.heap.size, 0, none⟩ 1 1 (rc (movedR (k : Int) x)) rfl rfl hnews (rc_one _) (by unfold maxLen; omega) (by omega) (by simp; omega) ?_; intro v2 w10 hown2 hgrow hnil; obtain ⟨g5, c5, rfl⟩ := own_some hown2; have hq10 := keep_other HQ9.out own2 (by decide) hgrow; have HB10 := hid (bl_grown (bl_alloc HB9.out _) own2 (by have := HQS.out; omega) hgrow); have y1 : w10.cell? ⟨Q, 1, none⟩ = some v := cell_of_heap hq10; have y2 : w10.frozen? ⟨Q, 1, none⟩ = false := frozen_of_heap hq10; have y3 : Q < w10.heap.size := (Array.getElem?_eq_some_iff.1 hq10).1; have HO10 := hid hown2; have HQ10 := hid hq10; clear hown2 hgrow hnil hq10 own2 hnews HQ9 p0 p1 p2 p3 p4 p5 p6 p7 pl z1 zl)
      have hown3 := HO10.out
      rw [← rcs_snoc, ← HMT.out] at hown3
      have HO3 := hid hown3
      clear hown3 HO10
      go_roundw
      case rel => exact ⟨j + 1, _, by omega, by go_num, by rw [heap_setCell_same _ _ _ _ _ _ HQ10.out]; rfl, own_set_other HQ10.out HO3.out (by decide) _ _, bl_set HB10.out _ (by have := HQS.out; omega)⟩
      case measure => simp [intOf]; omega
    · obtain rfl : j = l.length := by omega
      rw [List.take_length] at hown
      have hR2 : riverE (E : Int) (movedL l k) = 0 := by rw [← hE]; exact moved_river HR0.out hk40
      have hlen : (movedL l k).length = l.length := List.length_map ..
      have hrm := own_rchs (l := movedL l k) hlen hown
      clear hown hj hlt hqs
      obtain ⟨w2, hwn⟩ : ∃ w2, wr = w2 := ⟨_, rfl⟩
      rw [hwn] at hq hB hrm ⊢
      clear hwn s0 sl
      have hkb := hB
      clear hB
      have HX2 := hid (heap_mono HX1.out hkb)
      have HB2 := hid (bl_trans HB1.out hkb)
      clear HX1  hkb
      have HQ2 := hid hq
      have HM2 := hid hrm
      clear hq hrm
      obtain ⟨p, hp, p1, p2⟩ : ∃ p, dayE (D : Int) day = p ∧ 1 ≤ p ∧ p ≤ (D : Int) := ⟨_, rfl, dayE_bd hD1⟩
      obtain ⟨q, hq, hqb⟩ : ∃ q, p + (k : Int) = q ∧ 1 ≤ q ∧ q ≤ (E : Int) := ⟨_, rfl, by omega⟩
      have hqw : IntKind.i64.wrap q = q := IntWalk.i64_in _ (by omega)
      have HA1 := hid (day_asked HR0.out p1 p2)
      have HA2 := hid (day_asked hR2 hqb.1 hqb.2)
      have HMM : Hid (mostE (E : Int) (movedL l k) q = mostE (D : Int) l p) := hid (by rw [← hE, ← hq]; exact moved_most HR0.out hk40 p2)
      have HMZ : Hid (mostE (E : Int) (movedL l k) (k : Int) = 0) := hid (by rw [← hE]; exact moved_none HR0.out hk40)
      have HML : Hid (leftL (E : Int) (movedL l k) = leftL (D : Int) l) := hid (by rw [← hE]; exact moved_left HR0.out hk40)
      have hll : (leftL (D : Int) l).length ≤ 1000 := by unfold leftL; split <;> simp; omega
      have HR2 := hid hR2
      clear hR2
      have sX0 : w2.cell? ⟨R, 0, none⟩ = some (.int .i64 (D : Int)) := cell_of_heap HX2.out
      have sX1 : w2.cell? ⟨R, 1, none⟩ = some (.slice (some ⟨b, off, none⟩) l.length c) := cell_of_heap HX2.out
      have slX := (Array.getElem?_eq_some_iff.1 HX2.out).1
      have sQ0 : w2.cell? ⟨Q, 0, none⟩ = some (.int .i64 (E : Int)) := cell_of_heap HQ2.out
      have sQ1 : w2.cell? ⟨Q, 1, none⟩ = some (v) := cell_of_heap HQ2.out
      have slQ := (Array.getElem?_eq_some_iff.1 HQ2.out).1
      have hcall := day_any (D : Int) l _ day w2 (HS.out.mono HB2.out) (by omega) b2
      rw [hp] at hcall
      go_wp2_with fail
      refine hcall.mono ?_
      rintro e w3 ⟨rfl, hb3⟩
      clear hcall sX0 sX1 slX sQ0 sQ1 slQ
      have HX3 := hid (heap_mono HX2.out hb3)
      have HQ3 := hid (heap_mono HQ2.out hb3)
      have HB3 := hid (bl_trans HB2.out hb3)
      have HM3 := hid (HM2.out.mono hb3)
      clear HX2 HQ2 HM2 hb3
      clear hp
      have sX0 : w3.cell? ⟨R, 0, none⟩ = some (.int .i64 (D : Int)) := cell_of_heap HX3.out
      have sX1 : w3.cell? ⟨R, 1, none⟩ = some (.slice (some ⟨b, off, none⟩) l.length c) := cell_of_heap HX3.out
      have slX := (Array.getElem?_eq_some_iff.1 HX3.out).1
      have sQ0 : w3.cell? ⟨Q, 0, none⟩ = some (.int .i64 (E : Int)) := cell_of_heap HQ3.out
      have sQ1 : w3.cell? ⟨Q, 1, none⟩ = some (v) := cell_of_heap HQ3.out
      have slQ := (Array.getElem?_eq_some_iff.1 HQ3.out).1
      have hcall := most_any (D : Int) l _ p w3 (by omega) (HS.out.mono HB3.out)
      rw [HA1.out, if_pos rfl] at hcall
      go_wp2_with fail
      refine hcall.mono ?_
      rintro e w4 ⟨rfl, hb4⟩
      clear hcall sX0 sX1 slX sQ0 sQ1 slQ
      have HX4 := hid (heap_mono HX3.out hb4)
      have HQ4 := hid (heap_mono HQ3.out hb4)
      have HB4 := hid (bl_trans HB3.out hb4)
      have HM4 := hid (HM3.out.mono hb4)
      clear HX3 HQ3 HM3 hb4
      have sX0 : w4.cell? ⟨R, 0, none⟩ = some (.int .i64 (D : Int)) := cell_of_heap HX4.out
      have sX1 : w4.cell? ⟨R, 1, none⟩ = some (.slice (some ⟨b, off, none⟩) l.length c) := cell_of_heap HX4.out
      have slX := (Array.getElem?_eq_some_iff.1 HX4.out).1
      have sQ0 : w4.cell? ⟨Q, 0, none⟩ = some (.int .i64 (E : Int)) := cell_of_heap HQ4.out
      have sQ1 : w4.cell? ⟨Q, 1, none⟩ = some (v) := cell_of_heap HQ4.out
      have slQ := (Array.getElem?_eq_some_iff.1 HQ4.out).1
      have hcall := most_any (E : Int) _ v q w4 (by omega) HM4.out
      rw [HA2.out, if_pos rfl, HMM.out] at hcall
      go_wp2_with fail
      refine hcall.mono ?_
      rintro e w5 ⟨rfl, hb5⟩
      clear hcall sX0 sX1 slX sQ0 sQ1 slQ
      have HX5 := hid (heap_mono HX4.out hb5)
      have HQ5 := hid (heap_mono HQ4.out hb5)
      have HB5 := hid (bl_trans HB4.out hb5)
      have HM5 := hid (HM4.out.mono hb5)
      clear HX4 HQ4 HM4 hb5
      clear hq hqw
      have sX0 : w5.cell? ⟨R, 0, none⟩ = some (.int .i64 (D : Int)) := cell_of_heap HX5.out
      have sX1 : w5.cell? ⟨R, 1, none⟩ = some (.slice (some ⟨b, off, none⟩) l.length c) := cell_of_heap HX5.out
      have slX := (Array.getElem?_eq_some_iff.1 HX5.out).1
      have sQ0 : w5.cell? ⟨Q, 0, none⟩ = some (.int .i64 (E : Int)) := cell_of_heap HQ5.out
      have sQ1 : w5.cell? ⟨Q, 1, none⟩ = some (v) := cell_of_heap HQ5.out
      have slQ := (Array.getElem?_eq_some_iff.1 HQ5.out).1
      have hcall := left_any (D : Int) l _ w5 (by omega) (HS.out.mono HB5.out)
      rw [HR0.out] at hcall
      go_wp2_with fail
      refine hcall.mono ?_
      rintro e w6 ⟨⟨vc, rfl, hvc⟩, hb6⟩
      clear hcall sX0 sX1 slX sQ0 sQ1 slQ
      have HX6 := hid (heap_mono HX5.out hb6)
      have HQ6 := hid (heap_mono HQ5.out hb6)
      have HB6 := hid (bl_trans HB5.out hb6)
      have HM6 := hid (HM5.out.mono hb6)
      clear HX5 HQ5 HM5 hb6
      have HC16 := hid hvc
      clear hvc
      have sX0 : w6.cell? ⟨R, 0, none⟩ = some (.int .i64 (D : Int)) := cell_of_heap HX6.out
      have sX1 : w6.cell? ⟨R, 1, none⟩ = some (.slice (some ⟨b, off, none⟩) l.length c) := cell_of_heap HX6.out
      have slX := (Array.getElem?_eq_some_iff.1 HX6.out).1
      have sQ0 : w6.cell? ⟨Q, 0, none⟩ = some (.int .i64 (E : Int)) := cell_of_heap HQ6.out
      have sQ1 : w6.cell? ⟨Q, 1, none⟩ = some (v) := cell_of_heap HQ6.out
      have slQ := (Array.getElem?_eq_some_iff.1 HQ6.out).1
      have hcall := left_any (E : Int) _ v w6 (by omega) HM6.out
      rw [HR2.out, HML.out] at hcall
      go_wp2_with fail
      refine hcall.mono ?_
      rintro e w7 ⟨⟨vd, rfl, hvd⟩, hb7⟩
      clear hcall sX0 sX1 slX sQ0 sQ1 slQ
      have HX7 := hid (heap_mono HX6.out hb7)
      have HQ7 := hid (heap_mono HQ6.out hb7)
      have HB7 := hid (bl_trans HB6.out hb7)
      have HM7 := hid (HM6.out.mono hb7)
      have HC17 := hid (HC16.out.mono hb7)
      clear HX6 HQ6 HM6 HC16 hb7
      have HD7 := hid hvd
      clear hvd
      generalize mostE (D : Int) l p = mo at *
      have sX0 : w7.cell? ⟨R, 0, none⟩ = some (.int .i64 (D : Int)) := cell_of_heap HX7.out
      have sX1 : w7.cell? ⟨R, 1, none⟩ = some (.slice (some ⟨b, off, none⟩) l.length c) := cell_of_heap HX7.out
      have slX := (Array.getElem?_eq_some_iff.1 HX7.out).1
      have sQ0 : w7.cell? ⟨Q, 0, none⟩ = some (.int .i64 (E : Int)) := cell_of_heap HQ7.out
      have sQ1 : w7.cell? ⟨Q, 1, none⟩ = some (v) := cell_of_heap HQ7.out
      have slQ := (Array.getElem?_eq_some_iff.1 HQ7.out).1
      have hcall := longs_any (leftL (D : Int) l) (leftL (D : Int) l) vc vd w7 hll HC17.out HD7.out
      rw [show decide (leftL (D : Int) l = leftL (D : Int) l) = true from decide_eq_true rfl] at hcall
      go_wp2_with fail
      refine hcall.mono ?_
      rintro e w8 ⟨rfl, hb8⟩
      clear hcall sX0 sX1 slX sQ0 sQ1 slQ
      have HX8 := hid (heap_mono HX7.out hb8)
      have HQ8 := hid (heap_mono HQ7.out hb8)
      have HB8 := hid (bl_trans HB7.out hb8)
      have HM8 := hid (HM7.out.mono hb8)
      have HC18 := hid (HC17.out.mono hb8)
      have HD8 := hid (HD7.out.mono hb8)
      clear HX7 HQ7 HM7 HC17 HD7 hb8
      by_cases hk0 : k = 0
      · have t1 : ((k : Int) == 0) = true := by simp [hk0]
        clear hk0
        have sQ0 : w8.cell? ⟨Q, 0, none⟩ = some (.int .i64 (E : Int)) := cell_of_heap HQ8.out
        have sQ1 : w8.cell? ⟨Q, 1, none⟩ = some (v) := cell_of_heap HQ8.out
        have slQ := (Array.getElem?_eq_some_iff.1 HQ8.out).1
        have hworks := works_any w8
        go_wp2_with fail
        refine hworks.mono ?_
        rintro e w9 ⟨rfl, hb9⟩
        clear hworks
        go_wp2
        go_ret
        exact ⟨rfl, bl_trans HB8.out hb9⟩
      have t1 : ((k : Int) == 0) = false := by rw [beq_eq_false_iff_ne]; omega
      have HA3 := hid (day_asked HR2.out (t := (k : Int)) (by omega) (by omega))
      clear hk0
      have sX0 : w8.cell? ⟨R, 0, none⟩ = some (.int .i64 (D : Int)) := cell_of_heap HX8.out
      have sX1 : w8.cell? ⟨R, 1, none⟩ = some (.slice (some ⟨b, off, none⟩) l.length c) := cell_of_heap HX8.out
      have slX := (Array.getElem?_eq_some_iff.1 HX8.out).1
      have sQ0 : w8.cell? ⟨Q, 0, none⟩ = some (.int .i64 (E : Int)) := cell_of_heap HQ8.out
      have sQ1 : w8.cell? ⟨Q, 1, none⟩ = some (v) := cell_of_heap HQ8.out
      have slQ := (Array.getElem?_eq_some_iff.1 HQ8.out).1
      have hcall := most_any (E : Int) _ v (k : Int) w8 (by omega) HM8.out
      rw [HA3.out, if_pos rfl, HMZ.out] at hcall
      go_wp2_with fail
      refine hcall.mono ?_
      rintro e w9 ⟨rfl, hb9⟩
      clear hcall sX0 sX1 slX sQ0 sQ1 slQ
      have HX9 := hid (heap_mono HX8.out hb9)
      have HQ9 := hid (heap_mono HQ8.out hb9)
      have HB9 := hid (bl_trans HB8.out hb9)
      have HM9 := hid (HM8.out.mono hb9)
      have HC19 := hid (HC18.out.mono hb9)
      have HD9 := hid (HD8.out.mono hb9)
      clear HX8 HQ8 HM8 HC18 HD8 hb9
      have hworks := works_any w9
      go_wp2_with fail
      refine hworks.mono ?_
      rintro e w10 ⟨rfl, hb10⟩
      clear hworks
      go_wp2
      go_ret
      exact ⟨rfl, bl_trans HB9.out hb10⟩

end Go.Proofs.Ytbnmjbmlejifcaa
