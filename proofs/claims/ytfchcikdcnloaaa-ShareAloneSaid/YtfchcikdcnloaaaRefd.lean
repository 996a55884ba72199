/- The reference: Next. -/
import Derived.Test.YtfchcikdcnloaaaFairlaw
namespace Go.Proofs.Ytfchcikdcnloaaa
open Go Go.RowKit Go.Proofs
attribute [local go_sem] cell_grow frozen_grow

/-- The first owner with the greatest quotient, among those up to k. -/
def refBest (had : List Int) (part : Int) (sh : List Int) : Nat → Nat
  | 0 => 0
  | k + 1 => if had.getD (refBest had part sh k) 0 * (100 * sh.getD (k + 1) 0 + part) < had.getD (k + 1) 0 * (100 * sh.getD (refBest had part sh k) 0 + part) then k + 1 else refBest had part sh k
theorem refBest_le (had : List Int) (part : Int) (sh : List Int) (k : Nat) : refBest had part sh k ≤ k := by
  induction k with
  | zero => exact Nat.le_refl _
  | succ k ih => unfold refBest; split <;> omega

set_option maxRecDepth 100000 in
set_option maxHeartbeats 8000000 in
theorem refNext_any (had : List Int) (part prize : Int) (sh : List Int) (s s2 : Value) (w : World) (V : Val had part prize) (hlen : sh.length = had.length) (hsh : ∀ x ∈ sh, 0 ≤ x ∧ x ≤ 1000) (hs : Ints w s had) (hs2 : Ints w s2 sh) :
    Calls Try.prog 57 #[.agg #[s, .int .i64 part, .int .i64 prize], s2] w fun e w' => e = .returned (.int .i64 (refBest had part sh (had.length - 1) : Nat)) ∧ Below w.heap.size w w' := by
  have hv1 := V.l1
  have hv2 := V.l2
  have hp1 := V.p1
  have hp2 := V.p2
  obtain ⟨b, off, c, rfl, _, hb, hcell⟩ := hs.some hv1
  obtain ⟨b2, off2, c2, rfl, _, hb2, hcell2⟩ := hs2.some (by omega)
  have HC := Lib.hid hcell
  have HC2 := Lib.hid hcell2
  have HV : Hid (∀ (i : Nat) (x : Int), had[i]? = some x → 1 ≤ x ∧ x ≤ 1000000) := V.h1
  have HS : Hid (∀ (i : Nat) (x : Int), sh[i]? = some x → 0 ≤ x ∧ x ≤ 1000) := fun i x hx => hsh x (List.mem_of_getElem? hx)
  have HL := hid hlen
  have Hst : Hid (∀ (s : Value) (prize k : Int) (W : World), -1000 ≤ k → k ≤ 100000 → Calls Try.prog 63 #[.agg #[s, .int .i64 part, .int .i64 prize], .int .i64 k] W fun e w' => e = .returned (.int .i64 (100 * k + part)) ∧ Below W.heap.size W w') := fun s prize k W h1 h2 => refStep_any s part prize k W h1 h2 hp1 hp2
  have hsl : sh.length ≤ 12 := by omega
  have hsl1 : 1 ≤ sh.length := by omega
  have hzl : b < w.heap.size ∧ b2 < w.heap.size := ⟨hb, hb2⟩
  have hend := hid (show sh.length - 1 = had.length - 1 by omega)
  clear hcell hcell2 hlen hsh hs hs2 V
  go_enter Try.func57, Try.ntmps57
  go_wp2
  obtain ⟨w1, hw1⟩ : ∃ w1, w.alloc (.cells #[.slice (some ⟨b, off, none⟩) had.length c, .int .i64 part, .int .i64 prize] 24) = w1 := ⟨_, rfl⟩
  have hB1 : Below w.heap.size w w1 := by rw [← hw1]; exact bl_alloc (bl_refl _) _
  have HR : Hid (∀ W, Below w1.heap.size w1 W → (∀ i, W.cell? ⟨w.heap.size, i, none⟩ = #[Value.slice (some ⟨b, off, none⟩) had.length c, .int .i64 part, .int .i64 prize][i]?) ∧ w.heap.size < W.heap.size) := fun W hW => by
    rw [← hw1] at hW
    refine ⟨(new_cells hW).1, ?_⟩
    have := hW.size
    simp at this
    omega
  rw [hw1]
  clear hw1
  go_loopw [5, 6] (fun bv i wr => ∃ k bb : Nat, k + 1 ≤ sh.length ∧ i = .int .i64 (k + 1) ∧ bv = .int .i64 bb ∧ bb ≤ k ∧ Hid (refBest had part sh k = bb) ∧ Below w1.heap.size w1 wr) (fun _ i _ => sh.length - (intOf i).toNat)
  case atStart => exact ⟨0, 0, hsl1, rfl, rfl, Nat.le_refl _, rfl, bl_refl _⟩
  case round =>
    obtain ⟨k, bb, hk, rfl, rfl, hbb, hB0, hB⟩ := hrel
    by_cases hlt : k + 1 < sh.length
    · have hlt' : (k : Int) + 1 < (sh.length : Int) := by omega
      obtain ⟨x, hx⟩ := get_at hlt
      obtain ⟨y, hy⟩ := get_at (l := sh) (k := bb) (by omega)
      obtain ⟨a, ha⟩ := get_at (l := had) (k := k + 1) (by have := HL.out; omega)
      obtain ⟨d, hd⟩ := get_at (l := had) (k := bb) (by have := HL.out; omega)
      have hxb := HS.out (k + 1) x hx
      have hyb := HS.out bb y hy
      have hab := HV.out (k + 1) a ha
      have hdb := HV.out bb d hd
      have hBw := bl_trans hB1 hB
      have hcx := cell_mono (HC2.out (k + 1) x hx) hBw
      have hcy := cell_mono (HC2.out bb y hy) hBw
      have hca := cell_mono (HC.out (k + 1) a ha) hBw
      have hcd := cell_mono (HC.out bb d hd) hBw
      obtain ⟨hr, hrl⟩ := HR.out wr hB
      have hkl : k + 1 < had.length := by have := HL.out; omega
      have hkl' : (k : Int) + 1 < (had.length : Int) := by omega
      have hml : bb < had.length := by omega
      have hml2 : bb < sh.length := by omega
      have hbl1 : b < wr.heap.size := Nat.lt_of_lt_of_le hzl.1 hBw.size
      have hbl2 : b2 < wr.heap.size := Nat.lt_of_lt_of_le hzl.2 hBw.size
      have e2 := mul_in (x := a) (y := 100 * y + part) (by omega) (by omega) (by omega) (by omega)
      have e3 := mul_in (x := d) (y := 100 * x + part) (by omega) (by omega) (by omega) (by omega)
      have hval := hid (show refBest had part sh (k + 1) = if d * (100 * x + part) < a * (100 * y + part) then k + 1 else bb by
        rw [refBest, hB0.out]
        simp only [List.getD, hx, hy, ha, hd, Option.getD_some])
      clear hx hy ha hd hB0
      by_cases q3 : d * (100 * x + part) < a * (100 * y + part)
      · have d3 : decide (d * (100 * x + part) < a * (100 * y + part)) = true := by simpa using q3
        have hgood := hid (show refBest had part sh (k + 1) = k + 1 by rw [hval.out, if_pos q3])
        clear q3
        go_wp2
        refine wp_region_below (by kernel_rfl) (by kernel_rfl) ?_
        repeat (first | go_big_quiet_step (exact Calls.regrown_of (Hst.out _ _ _ _ (by omega) (by omega))) | quiet_step (exact Calls.regrown_of (Hst.out _ _ _ _ (by omega) (by omega))))
        refine wpQuiet_nil ?_
        intro w5 hb5
        have hB5 := bl_trans hB hb5
        go_wp2
        go_roundw
        case rel => exact ⟨k + 1, k + 1, by omega, by go_num, by go_num, Nat.le_refl _, hgood, hB5⟩
        case measure => simp [intOf]; omega
      · have d3 : decide (d * (100 * x + part) < a * (100 * y + part)) = false := by simpa using q3
        have hgood := hid (show refBest had part sh (k + 1) = bb by rw [hval.out, if_neg q3])
        clear q3
        go_wp2
        refine wp_region_below (by kernel_rfl) (by kernel_rfl) ?_
        repeat (first | go_big_quiet_step (exact Calls.regrown_of (Hst.out _ _ _ _ (by omega) (by omega))) | quiet_step (exact Calls.regrown_of (Hst.out _ _ _ _ (by omega) (by omega))))
        refine wpQuiet_nil ?_
        intro w5 hb5
        have hB5 := bl_trans hB hb5
        go_wp2
        go_roundw
        case rel => exact ⟨k + 1, bb, by omega, by go_num, rfl, by omega, hgood, hB5⟩
        case measure => simp [intOf]; omega
    · have hk' : k = had.length - 1 := by have := hend.out; omega
      have hlt' : ¬ ((k : Int) + 1 < (sh.length : Int)) := by omega
      have hfin := hid (show refBest had part sh (had.length - 1) = bb by rw [← hk']; exact hB0.out)
      clear hk' hB0
      go_wp2
      go_ret
      exact ⟨by rw [hfin.out]; rfl, bl_trans hB1 hB⟩

end Go.Proofs.Ytfchcikdcnloaaa
