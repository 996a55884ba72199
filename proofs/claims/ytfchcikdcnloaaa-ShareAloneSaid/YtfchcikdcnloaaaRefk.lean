/- The reference: Lasts. -/
import Derived.Test.YtfchcikdcnloaaaRefg
import Derived.Test.YtfchcikdcnloaaaRefe
import Derived.Test.YtfchcikdcnloaaaLastlaw
namespace Go.Proofs.Ytfchcikdcnloaaa
open Go Go.RowKit Go.Proofs
attribute [local go_sem] cell_grow frozen_grow

/-- Block g is a row of type t that holds the numbers. -/
def RowT (W : World) (g : Nat) (t : TypeId) (l : List Int) : Prop := W.heap[g]? = some (.cells (l.map (Value.int .i64)).toArray t (0, 0))
theorem RowT.ints {W : World} {g : Nat} {t : TypeId} {l : List Int} (h : RowT W g t l) : Ints W (.slice (some ⟨g, 0, none⟩) l.length l.length) l := by
  refine .inr ⟨g, 0, l.length, rfl, Nat.le_refl _, (Array.getElem?_eq_some_iff.1 h).1, fun i x hx => ?_⟩
  rw [cell_of_heap h]
  simp [hx]
theorem RowT.mono {W W' : World} {g : Nat} {t : TypeId} {l : List Int} (h : RowT W g t l) (hb : Below W.heap.size W W') : RowT W' g t l := heap_mono h hb
theorem RowT.set {W : World} {g : Nat} {t : TypeId} {l : List Int} (h : RowT W g t l) (i : Nat) (x : Int) : RowT (W.setCell ⟨g, i, none⟩ (.int .i64 x)) g t (l.set i x) := by
  unfold RowT at *
  simp only [World.setCell, Array.getElem?_modify, if_true, h]
  simp [List.map_set]
theorem RowT.cell {W : World} {g : Nat} {t : TypeId} {l : List Int} (h : RowT W g t l) {i : Nat} {x : Int} (hx : l[i]? = some x) : W.cell? ⟨g, i, none⟩ = some (.int .i64 x) := by
  rw [cell_of_heap h]; simp [hx]

/-- What lies there between two pairs. -/
structure PairInv (w wr : World) (cs : Array Value) (l : List Int) : Prop where
  pool : wr.heap[w.heap.size]? = some (.cells cs 24 (0, 0))
  row : RowT wr (w.heap.size + 1) 3 l
  old : Below w.heap.size w wr
theorem PairInv.mono {w wr W : World} {cs : Array Value} {l : List Int} (h : PairInv w wr cs l) (hb : Below wr.heap.size wr W) : PairInv w W cs l :=
  ⟨heap_mono h.pool hb, h.row.mono hb, bl_trans h.old hb⟩
theorem PairInv.set {w wr : World} {cs : Array Value} {l : List Int} (h : PairInv w wr cs l) (i : Nat) (x : Int) : PairInv w (wr.setCell ⟨w.heap.size + 1, i, none⟩ (.int .i64 x)) cs (l.set i x) :=
  ⟨heap_grown h.pool (grown_set _ _ _ _) (by omega), h.row.set i x, bl_set h.old _ (by omega)⟩

theorem lastCond_val {had sh : List Int} {part : Int} {i k : Nat} {x y a d : Int} (hx : sh[i]? = some x) (hy : sh[k]? = some y) (ha : had[i]? = some a) (hd : had[k]? = some d) : lastCond had part sh i k = (decide (i ≠ k) && decide (0 < x) && decide (a * (100 * y + part) = d * (100 * (x - 1) + part))) := by
  simp only [lastCond, List.getD, hx, hy, ha, hd, Option.getD_some]

set_option maxRecDepth 100000 in
set_option maxHeartbeats 8000000 in
theorem refLasts_any (had : List Int) (part prize : Int) (sh : List Int) (s s2 : Value) (w : World) (V : Val had part prize) (hlen : sh.length = had.length) (hsh : ∀ x ∈ sh, 0 ≤ x ∧ x ≤ 1000) (hs : Ints w s had) (hs2 : Ints w s2 sh) :
    Calls Try.prog 67 #[.agg #[s, .int .i64 part, .int .i64 prize], s2] w fun e w' => e = .returned (.slice (some ⟨w.heap.size + 1, 0, none⟩) had.length had.length) ∧ RowT w' (w.heap.size + 1) 3 (lastAll had part sh had.length had.length) ∧ Below w.heap.size w w' := by
  have hv1 := V.l1
  have hv2 := V.l2
  have hp1 := V.p1
  have hp2 := V.p2
  obtain ⟨b, off, c, rfl, _, hb, hcell⟩ := hs.some hv1
  obtain ⟨b2, off2, c2, rfl, _, hb2, hcell2⟩ := hs2.some (by omega)
  rw [hlen]
  have HC := Lib.hid hcell
  have HC2 := Lib.hid hcell2
  have HV : Hid (∀ (i : Nat) (x : Int), had[i]? = some x → 1 ≤ x ∧ x ≤ 1000000) := V.h1
  have HS : Hid (∀ (i : Nat) (x : Int), sh[i]? = some x → 0 ≤ x ∧ x ≤ 1000) := fun i x hx => hsh x (List.mem_of_getElem? hx)
  have HL := hid hlen
  have Hst := Lib.hid (step_r part hp1 hp2)
  have hzl : b < w.heap.size ∧ b2 < w.heap.size := ⟨hb, hb2⟩
  obtain ⟨i3, hi3, hj0, hj1, hj2⟩ := info_parts info3'
  obtain ⟨n, hn⟩ : ∃ n, n = had.length := ⟨_, rfl⟩
  have hn1 : 1 ≤ n := by omega
  have hn2 : n ≤ 12 := by omega
  have HN := hid hn
  rw [← hn]
  clear hcell hcell2 hlen hsh hs hs2 V hn
  go_enter Try.func67, Try.ntmps67
  have hmk := run_makeSlice (w.alloc (.cells #[.slice (some ⟨b, off, none⟩) n c, .int .i64 part, .int .i64 prize] 24)) 31 3 i3 (.int .i64 0) Try.underlying31 hi3 hj0 .i64 .i64 (n : Int) (n : Int) (by omega) (by omega) (by rw [hj1]; omega) (by rw [hj2]; omega) (by omega)
  rw [Int.toNat_natCast, hj1, Nat.mul_one, made_zero] at hmk
  simp only [World.size_alloc] at hmk
  go_wp2
  clear hmk
  obtain ⟨w2, hw2⟩ : ∃ w2, (w.alloc (.cells #[.slice (some ⟨b, off, none⟩) n c, .int .i64 part, .int .i64 prize] 24)).alloc (.cells (Array.replicate n (Value.int .i64 0)) 3) = w2 := ⟨_, rfl⟩
  have L0 : PairInv w w2 #[.slice (some ⟨b, off, none⟩) n c, .int .i64 part, .int .i64 prize] (lastAll had part sh n 0) := by
    refine ⟨?_, ?_, ?_⟩
    · rw [← hw2]; exact heap_mono (World.alloc_heap_new _ _) (bl_alloc (bl_refl _) _)
    · rw [← hw2]
      have := World.alloc_heap_new (w.alloc (.cells #[.slice (some ⟨b, off, none⟩) n c, .int .i64 part, .int .i64 prize] 24)) (.cells (Array.replicate n (Value.int .i64 0)) 3)
      rw [World.size_alloc] at this
      unfold RowT
      rw [show ((lastAll had part sh n 0).map (Value.int .i64)).toArray = Array.replicate n (Value.int .i64 0) by simp [lastAll]]
      exact this
    · rw [← hw2]; exact bl_alloc (bl_alloc (bl_refl _) _) _
  rw [hw2]
  clear hw2
  go_loopw [6] (fun i wr => ∃ k : Nat, k ≤ n ∧ i = .int .i64 k ∧ PairInv w wr #[.slice (some ⟨b, off, none⟩) n c, .int .i64 part, .int .i64 prize] (lastAll had part sh n k)) (fun i _ => n - (intOf i).toNat)
  case atStart => exact ⟨0, Nat.zero_le _, rfl, L0⟩
  case round =>
    obtain ⟨k, hk, rfl, D⟩ := hrel
    clear L0
    by_cases hlt : k < n
    · obtain ⟨wo, hwo⟩ : ∃ wo, wr = wo := ⟨_, rfl⟩
      rw [hwo] at D ⊢
      clear hwo
      go_wp2
      go_loopw [7] (fun j wr => ∃ m : Nat, m ≤ n ∧ j = .int .i64 m ∧ PairInv w wr #[.slice (some ⟨b, off, none⟩) n c, .int .i64 part, .int .i64 prize] (lastRow had part sh (lastAll had part sh n k) k m)) (fun j _ => n - (intOf j).toNat)
      case atStart => exact ⟨0, Nat.zero_le _, rfl, D⟩
      case round =>
        obtain ⟨m, hm, rfl, D2⟩ := hrel
        clear D
        by_cases hlt2 : m < n
        · obtain ⟨x, hx⟩ := get_at (l := sh) (k := k) (by have := HL.out; have := HN.out; omega)
          obtain ⟨y, hy⟩ := get_at (l := sh) (k := m) (by have := HL.out; have := HN.out; omega)
          obtain ⟨a, ha⟩ := get_at (l := had) (k := k) (by have := HN.out; omega)
          obtain ⟨d, hd⟩ := get_at (l := had) (k := m) (by have := HN.out; omega)
          have hxb := HS.out k x hx
          have hyb := HS.out m y hy
          have hab := HV.out k a ha
          have hdb := HV.out m d hd
          have hBw := D2.old
          have hcx := cell_mono (HC2.out k x hx) hBw
          have hcy := cell_mono (HC2.out m y hy) hBw
          have hca := cell_mono (HC.out k a ha) hBw
          have hcd := cell_mono (HC.out m d hd) hBw
          have hr := fun i => cell_of_heap (i := i) D2.pool
          have hrl1 : w.heap.size + 1 < wr.heap.size := (Array.getElem?_eq_some_iff.1 D2.row).1
          have hrl : w.heap.size < wr.heap.size := by omega
          have hbl1 : b < wr.heap.size := Nat.lt_of_lt_of_le hzl.1 hBw.size
          have hbl2 : b2 < wr.heap.size := Nat.lt_of_lt_of_le hzl.2 hBw.size
          have e1 : IntKind.i64.wrap (x - 1) = x - 1 := IntWalk.i64_in _ (by omega)
          have e2 := mul_in (x := a) (y := 100 * y + part) (by omega) (by omega) (by omega) (by omega)
          have e3 := mul_in (x := d) (y := 100 * (x - 1) + part) (by omega) (by omega) (by omega) (by omega)
          have HVl := hid (lastCond_val (part := part) hx hy ha hd)
          have hstep : Hid (lastRow had part sh (lastAll had part sh n k) k (m + 1) = if lastCond had part sh k m = true then ((lastRow had part sh (lastAll had part sh n k) k m).set k 1).set m 2 else lastRow had part sh (lastAll had part sh n k) k m) := rfl
          have hll : (lastRow had part sh (lastAll had part sh n k) k m).length = n := by rw [lastRow_len, lastAll_len]
          generalize lastRow had part sh (lastAll had part sh n k) k m = L at *
          clear hx hy ha hd
          by_cases q0 : k = m
          · have d0 : ((k : Int) != (m : Int)) = false := by simp [q0]
            have hgood := hid (hstep.out.trans (if_neg (by rw [HVl.out]; simp [q0])))
            clear q0 hstep
            go_wp2
            refine wp_region_below (by kernel_rfl) (by kernel_rfl) ?_
            repeat (first | go_big_quiet_step (exact Calls.regrown_of (Hst.out _ _ _ _ (by omega) (by omega))) | quiet_step (exact Calls.regrown_of (Hst.out _ _ _ _ (by omega) (by omega))))
            refine wpQuiet_nil ?_
            intro w5 hb5
            have D5 := D2.mono hb5
            clear hr hcx hcy hca hcd
            go_wp2
            go_roundw
            case rel => exact ⟨m + 1, by omega, by go_num, by rw [hgood.out]; exact D5⟩
            case measure => simp [intOf]; omega
          · have d0 : ((k : Int) != (m : Int)) = true := by simp; omega
            by_cases q1 : 0 < x
            · have d1 : decide (0 < x) = true := by simpa using q1
              by_cases q2 : a * (100 * y + part) = d * (100 * (x - 1) + part)
              · have d2 : (a * (100 * y + part) == d * (100 * (x - 1) + part)) = true := by simpa using q2
                have hgood := hid (hstep.out.trans (if_pos (by rw [HVl.out]; simp [q0, q1, q2])))
                have q0' : ¬ m = k := fun h => q0 h.symm
                clear q1 q2 hstep
                go_wp2
                refine wp_region_below (by kernel_rfl) (by kernel_rfl) ?_
                repeat (first | go_big_quiet_step (exact Calls.regrown_of (Hst.out _ _ _ _ (by omega) (by omega))) | quiet_step (exact Calls.regrown_of (Hst.out _ _ _ _ (by omega) (by omega))))
                refine wpQuiet_nil ?_
                intro w5 hb5
                have D5 := D2.mono hb5
                obtain ⟨u1, hu1⟩ := get_at (l := L) (k := k) (by omega)
                obtain ⟨u2, hu2⟩ := get_at (l := L) (k := m) (by omega)
                have q1 := D5.row.cell hu1
                have q2 := D5.row.cell hu2
                have q3 : ∀ i, w5.frozen? ⟨w.heap.size + 1, i, none⟩ = false := fun i => frozen_of_heap D5.row
                have q4 : w.heap.size + 1 < w5.heap.size := Nat.lt_of_lt_of_le hrl1 hb5.size
                have D6 := (D5.set k 1).set m 2
                clear hr hcx hcy hca hcd hu1 hu2 D5
                go_wp2
                go_roundw
                case rel => exact ⟨m + 1, by omega, by go_num, by rw [hgood.out]; exact D6⟩
                case measure => simp [intOf]; omega
              · have d2 : (a * (100 * y + part) == d * (100 * (x - 1) + part)) = false := by simpa using q2
                have hgood := hid (hstep.out.trans (if_neg (by rw [HVl.out]; simp [q2])))
                clear q0 q1 q2 hstep
                go_wp2
                refine wp_region_below (by kernel_rfl) (by kernel_rfl) ?_
                repeat (first | go_big_quiet_step (exact Calls.regrown_of (Hst.out _ _ _ _ (by omega) (by omega))) | quiet_step (exact Calls.regrown_of (Hst.out _ _ _ _ (by omega) (by omega))))
                refine wpQuiet_nil ?_
                intro w5 hb5
                have D5 := D2.mono hb5
                clear hr hcx hcy hca hcd
                go_wp2
                go_roundw
                case rel => exact ⟨m + 1, by omega, by go_num, by rw [hgood.out]; exact D5⟩
                case measure => simp [intOf]; omega
            · have d1 : decide (0 < x) = false := by simpa using q1
              have hgood := hid (hstep.out.trans (if_neg (by rw [HVl.out]; simp [q1])))
              clear q0 q1 hstep
              go_wp2
              refine wp_region_below (by kernel_rfl) (by kernel_rfl) ?_
              repeat (first | go_big_quiet_step (exact Calls.regrown_of (Hst.out _ _ _ _ (by omega) (by omega))) | quiet_step (exact Calls.regrown_of (Hst.out _ _ _ _ (by omega) (by omega))))
              refine wpQuiet_nil ?_
              intro w5 hb5
              have D5 := D2.mono hb5
              clear hr hcx hcy hca hcd
              go_wp2
              go_roundw
              case rel => exact ⟨m + 1, by omega, by go_num, by rw [hgood.out]; exact D5⟩
              case measure => simp [intOf]; omega
        · obtain rfl : m = n := by omega
          have D3 : PairInv w wr #[.slice (some ⟨b, off, none⟩) m c, .int .i64 part, .int .i64 prize] (lastAll had part sh m (k + 1)) := D2
          clear D2
          go_wp2
          go_roundw
          case rel => exact ⟨k + 1, by omega, by go_num, D3⟩
          case measure => simp [intOf]; omega
    · obtain rfl : k = n := by omega
      have hR := D.row
      have hO := D.old
      clear D
      go_wp2
      go_ret
      exact ⟨rfl, hR, hO⟩

end Go.Proofs.Ytfchcikdcnloaaa
