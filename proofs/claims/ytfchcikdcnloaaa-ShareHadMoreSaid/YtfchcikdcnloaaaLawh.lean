/- ShareHadMore: the walk through the law. -/
import Derived.Test.YtfchcikdcnloaaaLawf
import Derived.Test.YtfchcikdcnloaaaRows2
import Derived.Deep.Cut
namespace Go.Proofs.Ytfchcikdcnloaaa
open Go Go.RowKit Go.Proofs
attribute [local go_sem] cell_grow frozen_grow

theorem more_val {had : List Int} {part prize : Int} (V : Val had part prize) {i : Nat} {y M : Int} (hy : had[i]? = some y) (hm : y ≤ M) (hm2 : M ≤ 1000000) : Val (had.set i M) part prize := by
  have h1 := V.h1 i y hy
  refine ⟨by simpa using V.l1, by simpa using V.l2, fun k x hx => ?_, V.p1, V.p2, V.z1, V.z2⟩
  rw [List.getElem?_set] at hx
  split at hx
  · split at hx
    · injection hx with hx
      omega
    · cases hx
  · exact V.h1 k x hx

theorem set_first {W : World} {k : Nat} {a b c : Value} {t : TypeId} (h : W.heap[k]? = some (.cells #[a, b, c] t (0, 0))) (x : Value) : (W.setCell ⟨k, 0, none⟩ x).heap[k]? = some (.cells #[x, b, c] t (0, 0)) := by
  simp only [World.setCell, Array.getElem?_modify, if_true, h]
  rfl

set_option maxRecDepth 100000 in
set_option maxHeartbeats 8000000 in
theorem shareHadMore_any (had : List Int) (part prize : Int) (ow more : Int) (s : Value) (w : World) (hs : Ints w s had) (how : 0 ≤ ow ∧ ow < 256) (hmo : 0 ≤ more ∧ more < 4294967296) :
    Calls Try.prog 10 #[.agg #[s, .int .i64 part, .int .i64 prize], .int .u8 ow, .int .u32 more] w fun e w' => e = .returned (.bool true) ∧ Below w.heap.size w w' := by
  by_cases h0 : checkPool had part prize = 0
  case neg =>
    obtain ⟨A, c, rfl⟩ := hs.slice
    have HD := hid (decide_eq_false h0)
    clear h0
    go_enter Try.func10, Try.ntmps10
    go_wp2_with fail
    refine (fine_any had part prize _ _ (hs.mono (bl_alloc (bl_refl _) _))).mono ?_
    rintro e w1 ⟨rfl, hb1⟩
    rw [HD.out]
    have hB1 := bl_trans (bl_alloc (bl_refl w) _) hb1
    go_wp2_with fail
    refine (works_any _).mono ?_
    rintro e w2 ⟨rfl, hb2⟩
    go_wp2
    go_ret
    exact ⟨rfl, bl_trans hB1 hb2⟩
  have V := checkPool_ok.1 h0
  have HD := hid (decide_eq_true h0)
  have hv1 := V.l1
  have hv2 := V.l2
  clear h0
  obtain ⟨b, off, c, rfl, hlc, hb, hcell⟩ := hs.some hv1
  have hn0 : ((had.length : Int) == 0) = false := beq_eq_false_iff_ne.2 (by omega)
  obtain ⟨i, hi, hil⟩ : ∃ i : Nat, ow % (had.length : Int) = (i : Int) ∧ i < had.length := by
    have h1 : 0 ≤ ow % (had.length : Int) := Int.emod_nonneg ow (by omega)
    have h2 : ow % (had.length : Int) < (had.length : Int) := Int.emod_lt_of_pos ow (by omega)
    have key : ∀ r : Int, 0 ≤ r → r < (had.length : Int) → ∃ i : Nat, r = (i : Int) ∧ i < had.length := fun r a b => ⟨r.toNat, by omega, by omega⟩
    exact key _ h1 h2
  obtain ⟨y, hy⟩ := get_at hil
  have hyb := V.h1 i y hy
  obtain ⟨M, hM⟩ : ∃ M, (if y + more < 1000000 then y + more else 1000000) = M := ⟨_, rfl⟩
  have hM1 : y ≤ M ∧ M ≤ 1000000 := by rw [← hM]; split <;> omega
  have HMM := hid hM
  clear hM
  have V2 := more_val V hy hM1.1 hM1.2
  have hgy : had.getD i 0 = y := by simp [List.getD, hy]
  have hset : ∀ k, (had.set i (M)).getD k 0 = if i = k then M else had.getD k 0 := fun k => set_at had i k _ hil
  have hmore := had_more V V2 hil (by simp) (by rw [hset, if_pos rfl, hgy]; omega) (fun k _ hk => by rw [hset, if_neg (Ne.symm hk)])
  obtain ⟨hsl, hsb, _⟩ := shares_facts V
  obtain ⟨hsl2, hsb2, _⟩ := shares_facts V2
  rw [List.length_set] at hsl2
  have HR1 : Hid (∀ W, Ints W (.slice (some ⟨b, off, none⟩) had.length c) had → Calls Try.prog 40 #[.agg #[.slice (some ⟨b, off, none⟩) had.length c, .int .i64 part, .int .i64 prize]] W fun e w' => (∃ v, e = .returned (.tuple #[v, .bool true]) ∧ Ints w' v (sharesE had part prize)) ∧ Below W.heap.size W w') := fun W hW => right_any had part prize _ W V hW
  have HR2 : Hid (∀ W v, Ints W v (had.set i (M)) → Calls Try.prog 40 #[.agg #[v, .int .i64 part, .int .i64 prize]] W fun e w' => (∃ v, e = .returned (.tuple #[v, .bool true]) ∧ Ints w' v (sharesE (had.set i (M)) part prize)) ∧ Below W.heap.size W w') := fun W v hW => right_any _ part prize v W V2 hW
  generalize hH2 : had.set i (M) = had2 at *
  have HH2 := hid hH2
  generalize sharesE had part prize = sa at *
  generalize sharesE had2 part prize = sb at *
  have HM := Lib.hid hmore
  have HI := hid hi
  have HY := hid hy
  have HC := Lib.hid hcell
  have HSL := hid hsl
  have HSL2 := hid hsl2
  clear V V2 hgy hset hmore hsl hsl2 hsb hsb2 hH2 hi hy hcell
  go_enter Try.func10, Try.ntmps10
  go_wp2_with fail
  refine (fine_any had part prize _ _ (hs.mono (bl_alloc (bl_refl _) _))).mono ?_
  rintro e w1 ⟨rfl, hb1⟩
  rw [HD.out]
  have k1 := heap_new hb1
  have hr1 := fun i => cell_of_heap (i := i) k1
  have hB1 := bl_trans (bl_alloc (bl_refl w) _) hb1
  have hl1 : w.heap.size < w1.heap.size := (Array.getElem?_eq_some_iff.1 k1).1
  have K1 := hid k1
  clear k1
  go_upto_region 5 with (fail)
  rw [HI.out]
  obtain ⟨w2, hw2⟩ : ∃ w2, w1.alloc (.cells #[.slice (some ⟨b, off, none⟩) had.length c, .int .i64 part, .int .i64 prize] 24) = w2 := ⟨_, rfl⟩
  have k2 := World.alloc_heap_new w1 (.cells #[.slice (some ⟨b, off, none⟩) had.length c, .int .i64 part, .int .i64 prize] 24)
  have hb2 : Below w1.heap.size w1 w2 := by rw [← hw2]; exact bl_alloc (bl_refl _) _
  rw [hw2] at k2 ⊢
  have hB2 := bl_trans hB1 hb2
  have hr2 := fun i => cell_of_heap (i := i) (heap_mono K1.out hb2)
  have hl2 : w.heap.size < w2.heap.size := Nat.lt_of_lt_of_le hl1 hb2.size
  have hbe := bl_alloc (bl_refl w2) (.cells #[] 2)
  obtain ⟨cap, w4, hrun, hcap, hb4, hRow⟩ := append_row (W := w2.alloc (.cells #[] 2)) (b0 := w2.heap.size) (A := ⟨b, off, none⟩) (n := had.length) (c := c) (l := had) rfl (by omega) (by omega) (fun i x hx => by rw [Addr.add_lit]; exact cell_mono (HC.out i x hx) (bl_trans hB2 hbe))
  have hb24 := bl_trans hbe hb4
  have k4 := heap_mono k2 hb24
  have hx4 := fun i => cell_of_heap (i := i) k4
  have hf4 : ∀ i, w4.frozen? ⟨w1.heap.size, i, none⟩ = false := fun i => frozen_of_heap k4
  have hxl4 : w1.heap.size < w4.heap.size := (Array.getElem?_eq_some_iff.1 k4).1
  have hgl : (w2.alloc (.cells #[] 2)).heap.size = w2.heap.size + 1 := by simp
  rw [hgl] at hrun hRow
  have hwl : w1.heap.size < w2.heap.size := (Array.getElem?_eq_some_iff.1 k2).1
  have K5 := hid (set_first k4 (.slice (some ⟨w2.heap.size + 1, 0, none⟩) had.length cap))
  have R5 := hRow.other (k := w1.heap.size) (o := 0) (.slice (some ⟨w2.heap.size + 1, 0, none⟩) had.length cap) (by omega)
  have hB5 := bl_set (bl_trans hB2 hb24) (o := 0) (.slice (some ⟨w2.heap.size + 1, 0, none⟩) had.length cap) (show w.heap.size ≤ w1.heap.size by omega)
  have hP5 : (w4.setCell ⟨w1.heap.size, 0, none⟩ (.slice (some ⟨w2.heap.size + 1, 0, none⟩) had.length cap)).heap[w.heap.size]? = _ := heap_grown (heap_mono (heap_mono K1.out hb2) hb24) (grown_set _ _ _ _) (by omega)
  have P5 := hid hP5
  clear hw2 hb1 hb2 hr1 hRow k4 hP5
  go_upto_region 6 with ((at_builtin; refine wpList_append_run rfl _ _ 22 rfl _ _ _ _ rfl rfl hrun ?_))
  obtain ⟨w5, hw5⟩ : ∃ w5, w4.setCell ⟨w1.heap.size, 0, none⟩ (.slice (some ⟨w2.heap.size + 1, 0, none⟩) had.length cap) = w5 := ⟨_, rfl⟩
  rw [hw5] at K5 R5 hB5 P5 ⊢
  clear hw5 hx4 hf4 hxl4 hrun hb4 hb24 k2 hr2
  have hx5 := fun i => cell_of_heap (i := i) K5.out
  have hxl5 : w1.heap.size < w5.heap.size := (Array.getElem?_eq_some_iff.1 K5.out).1
  have hy5 := R5.cell HY.out
  have hyl5 := R5.lt
  have hiI : (i : Int) < (had.length : Int) := by omega
  have hwr : IntKind.i64.wrap (y + more) = y + more := IntWalk.i64_in _ (by omega)
  refine wp_region_below_tail 13 (by kernel_rfl) (by kernel_rfl) ?_
  simp only [List.take_succ_cons, List.take_zero, List.drop_succ_cons, List.drop_zero]
  repeat (first | go_big_quiet_step (fail) | quiet_step (fail))
  refine wpQuiet_nil ?_
  intro w6 hb6
  rw [HMM.out]
  have K6 := heap_mono K5.out hb6
  have P6 := heap_mono P5.out hb6
  have R6 := R5.mono hb6
  have hg6 := R6.cell HY.out
  have hf6 := R6.fr
  have hgl6 := R6.lt
  have R7 := R6.set hil M
  rw [HH2.out] at R7
  have K7 := hid (heap_grown K6 (grown_set w6 (w2.heap.size + 1) i (.int .i64 M)) (by omega))
  have P7 := hid (heap_grown P6 (grown_set w6 (w2.heap.size + 1) i (.int .i64 M)) (by omega))
  have hB7 := bl_set (bl_trans hB5 hb6) (o := i) (.int .i64 M) (show w.heap.size ≤ w2.heap.size + 1 by omega)
  have hpc := fun i => cell_of_heap (i := i) P7.out
  have hpl : w.heap.size < w6.heap.size := (Array.getElem?_eq_some_iff.1 P6).1
  clear K6 P6 R6 R5 K5 P5 hx5 hy5 hxl5
  go_wp2_with fail
  obtain ⟨w7, hw7⟩ : ∃ w7, w6.setCell ⟨w2.heap.size + 1, i, none⟩ (.int .i64 M) = w7 := ⟨_, rfl⟩
  rw [hw7] at R7 K7 P7 hB7 hpc ⊢
  clear hw7 hg6 hf6 hpc
  refine (HR1.out w7 (hs.mono hB7)).mono ?_
  rintro e w8 ⟨⟨v8, rfl, hI8⟩, hb8⟩
  have K8 := heap_mono K7.out hb8
  have hx8 := fun i => cell_of_heap (i := i) K8
  have hxl8 : w1.heap.size < w8.heap.size := (Array.getElem?_eq_some_iff.1 K8).1
  have R8 := R7.mono hb8
  clear K8
  go_wp2_with fail
  refine (HR2.out w8 _ (R8.ints (by rw [← HH2.out]; simp) hcap)).mono ?_
  rintro e w9 ⟨⟨v9, rfl, hI9⟩, hb9⟩
  have hI89 := hI8.mono hb9
  obtain ⟨b4, o4, c4, rfl, _, hbl4, hcell4⟩ := hI89.some (by rw [HSL.out]; omega)
  obtain ⟨b5, o5, c5, rfl, _, hbl5, hcell5⟩ := hI9.some (by rw [HSL2.out]; omega)
  rw [HSL.out, HSL2.out]
  have HC4 := Lib.hid hcell4
  have HC5 := Lib.hid hcell5
  have hB9 := bl_trans hB7 (bl_trans hb8 hb9)
  obtain ⟨x, hx⟩ := get_at (l := sa) (k := i) (by rw [HSL.out]; exact hil)
  obtain ⟨z, hz⟩ := get_at (l := sb) (k := i) (by rw [HSL2.out]; exact hil)
  have hxz := HM.out.1
  simp only [List.getD, hx, hz, Option.getD_some] at hxz
  have hcx := HC4.out i x hx
  have hcz := HC5.out i z hz
  have hxz' : decide (z < x) = false := by simp; omega
  clear hI8 hI89 hI9 hcell4 hcell5 hx hz hx8 hxz
  go_wp2
  go_quiet (fail)
  go_wp2
  go_loopw [13] (fun q wr => ∃ k n : Nat, k ≤ had.length ∧ q = .int .i64 k ∧ wr = w9.drewN n) (fun q _ => had.length - (intOf q).toNat)
  case atStart => exact ⟨0, nq, Nat.zero_le _, rfl, rfl⟩
  case round =>
    obtain ⟨k, n, hk, rfl, rfl⟩ := hrel
    by_cases hlt : k < had.length
    · obtain ⟨x2, hx2⟩ := get_at (l := sa) (k := k) (by rw [HSL.out]; exact hlt)
      obtain ⟨z2, hz2⟩ := get_at (l := sb) (k := k) (by rw [HSL2.out]; exact hlt)
      have hxz2 := HM.out.2 k hlt
      simp only [List.getD, hx2, hz2, Option.getD_some] at hxz2
      have hcx2 := HC4.out k x2 hx2
      have hcz2 := HC5.out k z2 hz2
      have HXZ := Lib.hid hxz2
      clear hx2 hz2 hxz2
      by_cases hki : k = i
      · have dk : ((k : Int) != (i : Int)) = false := by simp [hki]
        clear hki hcx2 hcz2
        go_wp2
        go_quiet (fail)
        go_wp2
        go_roundw
        case rel => exact ⟨k + 1, _, by omega, by go_num, rfl⟩
        case measure => simp [intOf]; omega
      · have dk : ((k : Int) != (i : Int)) = true := by simp; omega
        have dx : decide (x2 < z2) = false := by have := HXZ.out hki; simp; omega
        clear hki
        go_wp2
        go_quiet (fail)
        go_wp2
        go_roundw
        case rel => exact ⟨k + 1, _, by omega, by go_num, rfl⟩
        case measure => simp [intOf]; omega
    · obtain rfl : k = had.length := by omega
      go_wp2_with fail
      refine (works_any _).mono ?_
      rintro e w10 ⟨rfl, hb10⟩
      go_wp2
      go_ret
      exact ⟨rfl, bl_trans hB9 (bl_trans (bl_drewN (bl_refl _) _) hb10)⟩

end Go.Proofs.Ytfchcikdcnloaaa
