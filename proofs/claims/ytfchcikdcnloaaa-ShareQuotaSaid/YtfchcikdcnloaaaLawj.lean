/- ShareQuota: the walk through the law. -/
import Derived.Test.YtfchcikdcnloaaaLawi
import Derived.Test.YtfchcikdcnloaaaPlain5
import Derived.Test.YtfchcikdcnloaaaLawd
import Derived.Deep.Cut
namespace Go.Proofs.Ytfchcikdcnloaaa
open Go Go.RowKit Go.Proofs
attribute [local go_sem] cell_grow frozen_grow

/-- What lies there between two owners: the pool, and the sums. -/
structure QInv (w wr : World) (X : Nat) (cs : Array Value) (lo hi : Int) : Prop where
  pool : wr.heap[w.heap.size]? = some (.cells cs 24 (0, 0))
  sum : wr.heap[X]? = some (.cells #[.int .i64 lo, .int .i64 hi] 47 (0, 0))
  old : Below w.heap.size w wr
theorem QInv.mono {w wr W : World} {X : Nat} {cs : Array Value} {lo hi : Int} (h : QInv w wr X cs lo hi) (hb : Below wr.heap.size wr W) : QInv w W X cs lo hi :=
  ⟨heap_mono h.pool hb, heap_mono h.sum hb, bl_trans h.old hb⟩
theorem QInv.set {w wr : World} {X : Nat} {cs : Array Value} {lo hi : Int} (h : QInv w wr X cs lo hi) (hX : w.heap.size < X) (a b : Int) : QInv w ((wr.setCell ⟨X, 0, none⟩ (.int .i64 a)).setCell ⟨X, 1, none⟩ (.int .i64 b)) X cs a b :=
  ⟨set2_other h.pool (by omega) _ _, set2 h.sum _ _, bl_set (bl_set h.old _ (by omega)) _ (by omega)⟩

set_option maxRecDepth 100000 in
set_option maxHeartbeats 8000000 in
theorem shareQuota_any (had : List Int) (part prize : Int) (ow : Int) (s : Value) (w : World) (hs : Ints w s had) (how : 0 ≤ ow ∧ ow < 256) :
    Calls Try.prog 14 #[.agg #[s, .int .i64 part, .int .i64 prize], .int .u8 ow] w fun e w' => e = .returned (.bool true) ∧ Below w.heap.size w w' := by
  obtain ⟨A, c, rfl⟩ := hs.slice
  by_cases h0 : checkPool had part prize = 0
  case neg =>
    have HD := hid (decide_eq_false h0)
    clear h0
    go_enter Try.func14, Try.ntmps14
    go_wp2_with fail
    refine (fine_any had part prize _ _ (hs.mono (bl_alloc (bl_refl _) _))).mono ?_
    rintro e w1 ⟨rfl, hb1⟩
    rw [HD.out]
    have hB1 := bl_trans (bl_alloc (bl_refl w) _) hb1
    go_wp2_with fail
    refine (works_any _).mono ?_
    rintro e w2 ⟨rfl, hb2⟩
    go_wp2
    go_ret
    exact ⟨rfl, bl_trans hB1 hb2⟩
  have V := checkPool_ok.1 h0
  have HD := hid (decide_eq_true h0)
  have hv1 := V.l1
  have hv2 := V.l2
  have hz1 := V.z1
  have hz2 := V.z2
  have V2 : Val had 100 prize := ⟨V.l1, V.l2, V.h1, by omega, by omega, V.z1, V.z2⟩
  clear h0
  have hn0 : ((had.length : Int) == 0) = false := beq_eq_false_iff_ne.2 (by omega)
  obtain ⟨i, hi, hil⟩ : ∃ i : Nat, ow % (had.length : Int) = (i : Int) ∧ i < had.length := by
    have h1 := rem_nat how.1 (show 1 ≤ (had.length : Int) by omega)
    have key : ∀ r : Int, 0 ≤ r → r < (had.length : Int) → ∃ i : Nat, r = (i : Int) ∧ i < had.length := fun r a b => ⟨r.toNat, by omega, by omega⟩
    exact key _ h1.1 h1.2
  have HI := hid hi
  have HQ : Hid (∀ W (k : Nat), k < had.length → Below w.heap.size w W → Calls Try.prog 37 #[.agg #[.slice A had.length c, .int .i64 part, .int .i64 prize], .int .i64 k] W fun e w' => e = .returned (.tuple #[.agg #[.int .i64 (quotaLo had prize k), .int .i64 (quotaHi had prize k)], .int .i64 0]) ∧ Below W.heap.size W w') := fun W k hk hW => by
    have := quota_any had part prize k _ W (by omega) (hs.mono hW)
    rw [ownedE_ok.2 ⟨V, by omega, by omega⟩, quotaR, if_pos (ownedE_ok.2 ⟨V, by omega, by omega⟩), Int.toNat_natCast] at this
    exact this
  have HQ2 : Hid (∀ W, Below w.heap.size w W → Calls Try.prog 37 #[.agg #[.slice A had.length c, .int .i64 100, .int .i64 prize], .int .i64 i] W fun e w' => e = .returned (.tuple #[.agg #[.int .i64 (quotaLo had prize i), .int .i64 (quotaHi had prize i)], .int .i64 0]) ∧ Below W.heap.size W w') := fun W hW => by
    have := quota_any had 100 prize i _ W (by omega) (hs.mono hW)
    rw [ownedE_ok.2 ⟨V2, by omega, by omega⟩, quotaR, if_pos (ownedE_ok.2 ⟨V2, by omega, by omega⟩), Int.toNat_natCast] at this
    exact this
  have HSP : Hid (∀ W, Below w.heap.size w W → Calls Try.prog 35 #[.agg #[.slice A had.length c, .int .i64 100, .int .i64 prize], .int .i64 i] W fun e w' => e = .returned (.tuple #[.agg #[.int .i64 (spanLo had 100 prize i), .int .i64 (spanHi had 100 prize i)], .int .i64 0]) ∧ Below W.heap.size W w') := fun W hW => by
    have := span_any had 100 prize i _ W (by omega) (hs.mono hW)
    rw [ownedE_ok.2 ⟨V2, by omega, by omega⟩, spanR, if_pos (ownedE_ok.2 ⟨V2, by omega, by omega⟩), Int.toNat_natCast] at this
    exact this
  have hsq := span_quota V2 hil
  have hsum := quota_sum V
  have HF : Hid (∀ k, k < had.length → 0 ≤ quotaLo had prize k ∧ quotaLo had prize k ≤ quotaHi had prize k ∧ quotaHi had prize k ≤ quotaLo had prize k + 1 ∧ quotaHi had prize k ≤ prize ∧ sumLo had prize (k + 1) = sumLo had prize k + quotaLo had prize k ∧ sumHi had prize (k + 1) = sumHi had prize k + quotaHi had prize k) := fun k hk => by
    have q := quota_facts V hk
    exact ⟨q.1, q.2.1, q.2.2.1, q.2.2.2.1, rfl, rfl⟩
  have HB := Lib.hid (sumLo_bd V)
  have d1 : decide (quotaLo had prize i ≤ spanLo had 100 prize i) = true := by simpa using hsq
  have HSUM := Lib.hid hsum
  clear V V2 hi hsq hsum
  go_enter Try.func14, Try.ntmps14
  go_wp2_with fail
  refine (fine_any had part prize _ _ (hs.mono (bl_alloc (bl_refl _) _))).mono ?_
  rintro e w1 ⟨rfl, hb1⟩
  rw [HD.out]
  have k1 := heap_new hb1
  have hB1 := bl_trans (bl_alloc (bl_refl w) _) hb1
  have hl1 : w.heap.size < w1.heap.size := (Array.getElem?_eq_some_iff.1 k1).1
  go_wp2
  obtain ⟨w2, hw2⟩ : ∃ w2, w1.alloc (.cells #[.int .i64 0, .int .i64 0] 47) = w2 := ⟨_, rfl⟩
  have k2 := World.alloc_heap_new w1 (.cells #[.int .i64 0, .int .i64 0] 47)
  have hb2 : Below w1.heap.size w1 w2 := by rw [← hw2]; exact bl_alloc (bl_refl _) _
  rw [hw2] at k2 ⊢
  have D0 : QInv w w2 w1.heap.size #[.slice A had.length c, .int .i64 part, .int .i64 prize] (sumLo had prize 0) (sumHi had prize 0) := ⟨heap_mono k1 hb2, k2, bl_trans hB1 hb2⟩
  clear k1 k2 hw2 hb1 hb2
  go_loopw [6] (fun q wr => ∃ k : Nat, k ≤ had.length ∧ q = .int .i64 k ∧ QInv w wr w1.heap.size #[.slice A had.length c, .int .i64 part, .int .i64 prize] (sumLo had prize k) (sumHi had prize k)) (fun q _ => had.length - (intOf q).toNat)
  case atStart => exact ⟨0, Nat.zero_le _, rfl, D0⟩
  case round =>
    obtain ⟨k, hk, rfl, D⟩ := hrel
    have hr := fun i => cell_of_heap (i := i) D.pool
    have hrl : w.heap.size < wr.heap.size := (Array.getElem?_eq_some_iff.1 D.pool).1
    by_cases hlt : k < had.length
    · obtain ⟨f1, f2, f3, f4, f5, f6⟩ := HF.out k hlt
      obtain ⟨b1, b2, b3, b4⟩ := HB.out k (by omega)
      have F5 := hid f5
      have F6 := hid f6
      clear f5 f6
      generalize sumLo had prize k = sl at *
      generalize sumHi had prize k = sh at *
      have hcall := HQ.out wr k hlt D.old
      generalize quotaLo had prize k = ql at *
      generalize quotaHi had prize k = qh at *
      go_wp2_with fail
      refine hcall.mono ?_
      rintro e w3 ⟨rfl, hb3⟩
      have D3 := (D.mono hb3).mono (bl_alloc (bl_refl w3) (.cells #[.int .i64 ql, .int .i64 qh] 47))
      have k7 := World.alloc_heap_new w3 (.cells #[.int .i64 ql, .int .i64 qh] 47)
      have hX : w1.heap.size < w3.heap.size := (Array.getElem?_eq_some_iff.1 (D.mono hb3).sum).1
      have hP : w.heap.size < w3.heap.size := by omega
      clear hcall hr D hb3
      go_upto_region 8 with (fail)
      obtain ⟨w4, hw4⟩ : ∃ w4, w3.alloc (.cells #[.int .i64 ql, .int .i64 qh] 47) = w4 := ⟨_, rfl⟩
      rw [hw4] at D3 k7 ⊢
      have hq4 := fun i => cell_of_heap (i := i) k7
      have hp4 := fun i => cell_of_heap (i := i) D3.pool
      have hp42 : w4.cell? ⟨w.heap.size, 2, none⟩ = some (.int .i64 prize) := hp4 2
      have hs4 := fun i => cell_of_heap (i := i) D3.sum
      have hs40 : w4.cell? ⟨w1.heap.size, 0, none⟩ = some (.int .i64 sl) := hs4 0
      have hs41 : w4.cell? ⟨w1.heap.size, 1, none⟩ = some (.int .i64 sh) := hs4 1
      have hf4 : ∀ i, w4.frozen? ⟨w1.heap.size, i, none⟩ = false := fun i => frozen_of_heap D3.sum
      have hl43 : w3.heap.size < w4.heap.size := (Array.getElem?_eq_some_iff.1 k7).1
      have hl41 : w1.heap.size < w4.heap.size := by omega
      have hl40 : w.heap.size < w4.heap.size := by omega
      have g1 : decide (ql < 0) = false := by simp; omega
      have g2 : decide (prize < qh) = false := by simp; omega
      have g3 : decide (qh < ql) = false := by simp; omega
      have g4 : decide (ql + 1 < qh) = false := by simp; omega
      have hne : ¬ w3.heap.size = w1.heap.size := by omega
      have D5 := D3.set hl1 (sl + ql) (sh + qh)
      clear hw4 k7 D3 hs4
      go_wp2
      go_roundw
      case rel => exact ⟨k + 1, by omega, by go_num, by rw [F5.out, F6.out]; exact D5⟩
      case measure => simp [intOf]; omega
    · obtain rfl : k = had.length := by omega
      have hr1 : wr.cell? ⟨w.heap.size, 1, none⟩ = some (.int .i64 part) := hr 1
      have hrf : ∀ i, wr.frozen? ⟨w.heap.size, i, none⟩ = false := fun i => frozen_of_heap D.pool
      have K5 := hid (set_second D.pool (.int .i64 100))
      have S5 := hid (heap_grown D.sum (grown_set wr w.heap.size 1 (.int .i64 100)) (by omega))
      have hB5 := bl_set D.old (o := 1) (.int .i64 100) (Nat.le_refl w.heap.size)
      obtain ⟨s1, s2⟩ := HSUM.out
      generalize sumLo had prize had.length = sl at *
      generalize sumHi had prize had.length = sh at *
      have d2 : decide (sl ≤ prize) = true := by simpa using s1
      have d3 : decide (prize ≤ sh) = true := by simpa using s2
      have hx5 := fun i => cell_of_heap (i := i) K5.out
      clear D HF HB
      go_upto_region 13 with (fail)
      obtain ⟨w5, hw5⟩ : ∃ w5, wr.setCell ⟨w.heap.size, 1, none⟩ (.int .i64 100) = w5 := ⟨_, rfl⟩
      rw [hw5] at K5 S5 hB5 hx5 ⊢
      have hl5 : w.heap.size < w5.heap.size := (Array.getElem?_eq_some_iff.1 K5.out).1
      clear hw5 hr hr1 hrf
      go_upto_region 14 with (fail)
      rw [HI.out]
      go_wp2_with fail
      refine (HQ2.out w5 hB5).mono ?_
      rintro e w6 ⟨rfl, hb6⟩
      have k10 := World.alloc_heap_new w6 (.cells #[.int .i64 (quotaLo had prize i), .int .i64 (quotaHi had prize i)] 47)
      have hb7 := bl_alloc (bl_refl w6) (.cells #[.int .i64 (quotaLo had prize i), .int .i64 (quotaHi had prize i)] 47)
      have K6 := hid (heap_mono K5.out hb6)
      have S6 := hid (heap_mono S5.out hb6)
      have hx6 := fun i => cell_of_heap (i := i) K6.out
      have hl6 : w.heap.size < w6.heap.size := (Array.getElem?_eq_some_iff.1 K6.out).1
      clear hx5 K5 S5
      generalize quotaLo had prize i = ql at *
      generalize quotaHi had prize i = qh at *
      go_upto_region 15 with (fail)
      obtain ⟨w7, hw7⟩ : ∃ w7, w6.alloc (.cells #[.int .i64 ql, .int .i64 qh] 47) = w7 := ⟨_, rfl⟩
      rw [hw7] at k10 hb7 ⊢
      have K7 := hid (heap_mono K6.out hb7)
      have S7 := hid (heap_mono S6.out hb7)
      have hx7 := fun i => cell_of_heap (i := i) K7.out
      have hl7 : w.heap.size < w7.heap.size := (Array.getElem?_eq_some_iff.1 K7.out).1
      have hB7 := bl_trans hB5 (bl_trans hb6 hb7)
      have K10 := hid k10
      clear hw7 hx6 K6 S6 k10
      go_wp2_with fail
      refine (HSP.out w7 hB7).mono ?_
      rintro e w8 ⟨rfl, hb8⟩
      have k12 := World.alloc_heap_new w8 (.cells #[.int .i64 (spanLo had 100 prize i), .int .i64 (spanHi had 100 prize i)] 47)
      have hb9 := bl_alloc (bl_refl w8) (.cells #[.int .i64 (spanLo had 100 prize i), .int .i64 (spanHi had 100 prize i)] 47)
      have hb79 := bl_trans hb8 hb9
      generalize spanLo had 100 prize i = pl at *
      generalize spanHi had 100 prize i = ph at *
      clear hx7
      go_upto_region 16 with (fail)
      obtain ⟨w9, hw9⟩ : ∃ w9, w8.alloc (.cells #[.int .i64 pl, .int .i64 ph] 47) = w9 := ⟨_, rfl⟩
      rw [hw9] at k12 hb9 hb79 ⊢
      have hx9 := fun i => cell_of_heap (i := i) (heap_mono K7.out hb79)
      have hx92 : w9.cell? ⟨w.heap.size, 2, none⟩ = some (.int .i64 prize) := hx9 2
      have hs9 := fun i => cell_of_heap (i := i) (heap_mono S7.out hb79)
      have hs90 : w9.cell? ⟨w1.heap.size, 0, none⟩ = some (.int .i64 sl) := hs9 0
      have hs91 : w9.cell? ⟨w1.heap.size, 1, none⟩ = some (.int .i64 sh) := hs9 1
      have hq9 := fun i => cell_of_heap (i := i) (heap_mono K10.out hb79)
      have ht9 := fun i => cell_of_heap (i := i) k12
      have hB9 := bl_trans hB7 hb79
      clear hw9 K7 S7 K10 k12 hs9
      go_wp2_with fail
      refine (works_any _).mono ?_
      rintro e w10 ⟨rfl, hb10⟩
      go_wp2
      go_ret
      exact ⟨rfl, bl_trans hB9 hb10⟩

end Go.Proofs.Ytfchcikdcnloaaa
