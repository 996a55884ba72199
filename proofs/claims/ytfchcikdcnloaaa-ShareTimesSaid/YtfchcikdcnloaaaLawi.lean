/- SharePart: the walk through the law. -/
import Derived.Test.YtfchcikdcnloaaaLawf
namespace Go.Proofs.Ytfchcikdcnloaaa
open Go Go.RowKit Go.Proofs
attribute [local go_sem] cell_grow frozen_grow

theorem rem_nat {x : Int} {n : Int} (_h : 0 ≤ x) (hn : 1 ≤ n) : 0 ≤ x % n ∧ x % n < n := ⟨Int.emod_nonneg x (by omega), Int.emod_lt_of_pos x (by omega)⟩
theorem set_second {W : World} {k : Nat} {a b c : Value} {t : TypeId} (h : W.heap[k]? = some (.cells #[a, b, c] t (0, 0))) (x : Value) : (W.setCell ⟨k, 1, none⟩ x).heap[k]? = some (.cells #[a, x, c] t (0, 0)) := by
  simp only [World.setCell, Array.getElem?_modify, if_true, h]
  rfl

set_option maxRecDepth 100000 in
set_option maxHeartbeats 8000000 in
theorem sharePart_out (had : List Int) (part prize : Int) (xs : List Int) (mo : Int) (s s2 : Value) (w : World) (hs : Ints w s had) (hs2 : Ints w s2 xs) (_hmo : 0 ≤ mo ∧ mo < 256) (hout : ¬ checkPool had part prize = 0 ∨ 20 < xs.length ∨ part = 100) :
    Calls Try.prog 13 #[.agg #[s, .int .i64 part, .int .i64 prize], s2, .int .u8 mo] w fun e w' => e = .returned (.bool true) ∧ Below w.heap.size w w' := by
  obtain ⟨A, c, rfl⟩ := hs.slice
  obtain ⟨A2, c2, rfl⟩ := hs2.slice
  by_cases h0 : checkPool had part prize = 0
  case neg =>
    have HD := hid (decide_eq_false h0)
    clear h0 hout
    go_enter Try.func13, Try.ntmps13
    go_wp2_with fail
    refine (fine_any had part prize _ _ (hs.mono (bl_alloc (bl_refl _) _))).mono ?_
    rintro e w1 ⟨rfl, hb1⟩
    rw [HD.out]
    have k1 := heap_new hb1
    have hr1 := fun i => cell_of_heap (i := i) k1
    have hB1 := bl_trans (bl_alloc (bl_refl w) _) hb1
    have hl1 : w.heap.size < w1.heap.size := (Array.getElem?_eq_some_iff.1 k1).1
    clear k1
    go_wp2_with fail
    refine (works_any _).mono ?_
    rintro e wz ⟨rfl, hbz⟩
    go_wp2
    go_ret
    exact ⟨rfl, bl_trans hB1 hbz⟩
  have HD := hid (decide_eq_true h0)
  by_cases h1 : 20 < xs.length
  · have d1 : decide ((20 : Int) < (xs.length : Int)) = true := by simp; omega
    clear h0 hout h1
    go_enter Try.func13, Try.ntmps13
    go_wp2_with fail
    refine (fine_any had part prize _ _ (hs.mono (bl_alloc (bl_refl _) _))).mono ?_
    rintro e w1 ⟨rfl, hb1⟩
    rw [HD.out]
    have k1 := heap_new hb1
    have hr1 := fun i => cell_of_heap (i := i) k1
    have hB1 := bl_trans (bl_alloc (bl_refl w) _) hb1
    have hl1 : w.heap.size < w1.heap.size := (Array.getElem?_eq_some_iff.1 k1).1
    clear k1
    go_wp2_with fail
    refine (works_any _).mono ?_
    rintro e wz ⟨rfl, hbz⟩
    go_wp2
    go_ret
    exact ⟨rfl, bl_trans hB1 hbz⟩
  · have d1 : decide ((20 : Int) < (xs.length : Int)) = false := by simp; omega
    have d2 : (part == 100) = true := by simp; omega
    clear h0 hout h1
    go_enter Try.func13, Try.ntmps13
    go_wp2_with fail
    refine (fine_any had part prize _ _ (hs.mono (bl_alloc (bl_refl _) _))).mono ?_
    rintro e w1 ⟨rfl, hb1⟩
    rw [HD.out]
    have k1 := heap_new hb1
    have hr1 := fun i => cell_of_heap (i := i) k1
    have hB1 := bl_trans (bl_alloc (bl_refl w) _) hb1
    have hl1 : w.heap.size < w1.heap.size := (Array.getElem?_eq_some_iff.1 k1).1
    clear k1
    have hr11 : w1.cell? ⟨w.heap.size, 1, none⟩ = some (.int .i64 part) := hr1 1
    go_wp2_with fail
    refine (works_any _).mono ?_
    rintro e wz ⟨rfl, hbz⟩
    go_wp2
    go_ret
    exact ⟨rfl, bl_trans hB1 hbz⟩
set_option maxRecDepth 100000 in
set_option maxHeartbeats 8000000 in
theorem sharePart_own (had : List Int) (part prize : Int) (xs : List Int) (mo : Int) (s s2 : Value) (w : World) (hs : Ints w s had) (hs2 : Ints w s2 xs) (hmo : 0 ≤ mo ∧ mo < 256) (h0 : checkPool had part prize = 0) (h1 : xs.length ≤ 20) (h2 : part ≠ 100) (hf : ¬ refSharesE had part prize xs = 0) :
    Calls Try.prog 13 #[.agg #[s, .int .i64 part, .int .i64 prize], s2, .int .u8 mo] w fun e w' => e = .returned (.bool true) ∧ Below w.heap.size w w' := by
  have V := checkPool_ok.1 h0
  have HD := hid (decide_eq_true h0)
  have hv1 := V.l1
  have hv2 := V.l2
  have hp1 := V.p1
  have hp2 := V.p2
  clear h0
  obtain ⟨b, off, c, rfl, hlc, hb, hcell⟩ := hs.some hv1
  obtain ⟨A2, c2, rfl⟩ := hs2.slice
  have d1 : decide ((20 : Int) < (xs.length : Int)) = false := by simp; omega
  have d2 : (part == 100) = false := by simp; omega
  have dz : ((100 - part) == 0) = false := by simp; omega
  obtain ⟨hm1, hm2⟩ := rem_nat (x := mo) (n := 100 - part) hmo.1 (by omega)
  obtain ⟨R, hR⟩ : ∃ R, mo % (100 - part) = R := ⟨_, rfl⟩
  rw [hR] at hm1 hm2
  have V2 : Val had (part + (1 + R)) prize := ⟨V.l1, V.l2, V.h1, by omega, by omega, V.z1, V.z2⟩
  have hwr1 : IntKind.i64.wrap (1 + mo % (100 - part)) = 1 + mo % (100 - part) := by rw [hR]; exact IntWalk.i64_in _ (by omega)
  have hwr2 : IntKind.i64.wrap (part + (1 + mo % (100 - part))) = part + (1 + mo % (100 - part)) := by rw [hR]; exact IntWalk.i64_in _ (by omega)
  obtain ⟨hsl, hsb, _⟩ := shares_facts V
  obtain ⟨hsl2, hsb2, _⟩ := shares_facts V2
  have HR1 : Hid (∀ W, Ints W (.slice (some ⟨b, off, none⟩) had.length c) had → Calls Try.prog 40 #[.agg #[.slice (some ⟨b, off, none⟩) had.length c, .int .i64 part, .int .i64 prize]] W fun e w' => (∃ v, e = .returned (.tuple #[v, .bool true]) ∧ Ints w' v (sharesE had part prize)) ∧ Below W.heap.size W w') := fun W hW => right_any had part prize _ W V hW
  have HR2 : Hid (∀ W, Ints W (.slice (some ⟨b, off, none⟩) had.length c) had → Calls Try.prog 40 #[.agg #[.slice (some ⟨b, off, none⟩) had.length c, .int .i64 (part + (1 + R)), .int .i64 prize]] W fun e w' => (∃ v, e = .returned (.tuple #[v, .bool true]) ∧ Ints w' v (sharesE had (part + (1 + R)) prize)) ∧ Below W.heap.size W w') := fun W hW => right_any had _ prize _ W V2 hW
  have H21 : Hid (∀ W, Below w.heap.size w W → Calls Try.prog 21 #[.agg #[.slice (some ⟨b, off, none⟩) had.length c, .int .i64 part, .int .i64 prize], .slice A2 xs.length c2] W fun e w' => e = .returned (.int .i64 (refSharesE had part prize xs)) ∧ Below W.heap.size W w') := fun W hW => by
    have := checkShares_any had part prize xs (.slice (some ⟨b, off, none⟩) had.length c) (.slice A2 xs.length c2) W (by omega) (by omega) (hs.mono hW) (hs2.mono hW)
    rwa [checkShares_law] at this
  have hne : (refSharesE had part prize xs == 0) = false := by simpa using hf
  have hlaw : Hid (∀ i k, i < had.length → k < had.length → had.getD k 0 < had.getD i 0 → (sharesE had (part + (1 + R)) prize).getD i 0 < (sharesE had part prize).getD i 0 → (sharesE had part prize).getD k 0 < (sharesE had (part + (1 + R)) prize).getD k 0 → False) := fun i k hi hk h1 h2 h3 =>
    part_law V V2 (by omega) (own_fairP V) (own_fairP V2) (own_nonneg V) (own_nonneg V2) hi hk h1 h2 h3
  have HC := Lib.hid hcell
  have HSL := hid hsl
  have HSL2 := hid hsl2
  generalize sharesE had part prize = sa at *
  generalize sharesE had (part + (1 + R)) prize = sb at *
  have HRR := hid hR
  have HMO := hid (show part + (1 + mo % (100 - part)) = part + (1 + R) by rw [hR])
  clear V V2 hsl hsl2 hsb hsb2 hcell hf hR 
  go_enter Try.func13, Try.ntmps13
  go_wp2_with fail
  refine (fine_any had part prize _ _ (hs.mono (bl_alloc (bl_refl _) _))).mono ?_
  rintro e w1 ⟨rfl, hb1⟩
  rw [HD.out]
  have k1 := heap_new hb1
  have hr1 := fun i => cell_of_heap (i := i) k1
  have hB1 := bl_trans (bl_alloc (bl_refl w) _) hb1
  have hl1 : w.heap.size < w1.heap.size := (Array.getElem?_eq_some_iff.1 k1).1
  have hr11 : w1.cell? ⟨w.heap.size, 1, none⟩ = some (.int .i64 part) := hr1 1
  have K1 := hid k1
  clear k1
  go_wp2
  obtain ⟨w2, hw2⟩ : ∃ w2, w1.alloc (.cells #[.slice (some ⟨b, off, none⟩) had.length c, .int .i64 part, .int .i64 prize] 24) = w2 := ⟨_, rfl⟩
  have k2 := World.alloc_heap_new w1 (.cells #[.slice (some ⟨b, off, none⟩) had.length c, .int .i64 part, .int .i64 prize] 24)
  have hb2 : Below w1.heap.size w1 w2 := by rw [← hw2]; exact bl_alloc (bl_refl _) _
  rw [hw2] at k2 ⊢
  have hB2 := bl_trans hB1 hb2
  have K12 := hid (heap_mono K1.out hb2)
  have hr2 := fun i => cell_of_heap (i := i) K12.out
  have hr21 : w2.cell? ⟨w.heap.size, 1, none⟩ = some (.int .i64 part) := hr2 1
  have hx2 := fun i => cell_of_heap (i := i) k2
  have hx21 : w2.cell? ⟨w1.heap.size, 1, none⟩ = some (.int .i64 part) := hx2 1
  have hl2 : w.heap.size < w2.heap.size := Nat.lt_of_lt_of_le hl1 hb2.size
  have hm2l : w1.heap.size < w2.heap.size := (Array.getElem?_eq_some_iff.1 k2).1
  have K2 := hid k2
  clear hw2 hb1 hr1 hr11 k2
  refine wp_region_below_tail 11 (by kernel_rfl) (by kernel_rfl) ?_
  simp only [List.take_succ_cons, List.take_zero, List.drop_succ_cons, List.drop_zero]
  repeat (first | go_big_quiet_step (fail) | quiet_step (fail))
  refine wpQuiet_nil ?_
  intro w3 hb3
  rw [HRR.out]
  have k3 := heap_mono K2.out hb3
  have hx3 := fun i => cell_of_heap (i := i) k3
  have hf3 : ∀ i, w3.frozen? ⟨w1.heap.size, i, none⟩ = false := fun i => frozen_of_heap k3
  have hm3 : w1.heap.size < w3.heap.size := (Array.getElem?_eq_some_iff.1 k3).1
  have K4 := hid (set_second k3 (.int .i64 (part + (1 + R))))
  have K14 := hid (heap_grown (heap_mono K12.out hb3) (grown_set w3 w1.heap.size 1 (.int .i64 (part + (1 + R)))) (by omega))
  have hB4 := bl_set (bl_trans hB2 hb3) (o := 1) (.int .i64 (part + (1 + R))) (show w.heap.size ≤ w1.heap.size by omega)
  have hr4 := fun i => cell_of_heap (i := i) K14.out
  have hl3 : w.heap.size < w3.heap.size := Nat.lt_of_lt_of_le hl2 hb3.size
  clear hr2 hr21 hx2 hx21 k3 K2 K12
  go_wp2_with fail
  obtain ⟨w4, hw4⟩ : ∃ w4, w3.setCell ⟨w1.heap.size, 1, none⟩ (.int .i64 (part + (1 + R))) = w4 := ⟨_, rfl⟩
  rw [hw4] at K4 K14 hB4 hr4 ⊢
  clear hw4 hx3 hf3 hr4
  refine (HR1.out w4 (hs.mono hB4)).mono ?_
  rintro e w5 ⟨⟨v5, rfl, hI5⟩, hb5⟩
  have hx5 := fun i => cell_of_heap (i := i) (heap_mono K4.out hb5)
  have hxl5 : w1.heap.size < w5.heap.size := (Array.getElem?_eq_some_iff.1 (heap_mono K4.out hb5)).1
  have hB5 := bl_trans hB4 hb5
  go_wp2_with fail
  refine (HR2.out w5 (hs.mono hB5)).mono ?_
  rintro e w6 ⟨⟨v6, rfl, hI6⟩, hb6⟩
  have hB6 := bl_trans hB5 hb6
  have hI56 := hI5.mono hb6
  have hr6 := fun i => cell_of_heap (i := i) (heap_mono K14.out (bl_trans hb5 hb6))
  have hl6 : w.heap.size < w6.heap.size := (Array.getElem?_eq_some_iff.1 (heap_mono K14.out (bl_trans hb5 hb6))).1
  have K16 := hid (heap_mono K14.out (bl_trans hb5 hb6))
  obtain ⟨b7, o7, c7, rfl, _, hbl7, hcell7⟩ := hI6.some (by rw [HSL2.out]; omega)
  obtain ⟨b5, o5, c5, rfl, _, hbl5, hcell5⟩ := hI56.some (by rw [HSL.out]; omega)
  rw [HSL.out, HSL2.out]
  have HC7 := Lib.hid hcell7
  have HC5 := Lib.hid hcell5
  clear hx5 hI5 hI6 hI56 hcell7 hcell5 K4 K14
  go_wp2_with fail
  refine (H21.out w6 hB6).mono ?_
  rintro e w7 ⟨rfl, hb7⟩
  have hr7 := fun i => cell_of_heap (i := i) (heap_mono K16.out hb7)
  have hl7 : w.heap.size < w7.heap.size := (Array.getElem?_eq_some_iff.1 (heap_mono K16.out hb7)).1
  have hB7 := bl_trans hB6 hb7
  have K17 := hid (heap_mono K16.out hb7)
  have HC77 : Hid (∀ i x, sb[i]? = some x → w7.cell? ⟨b7, o7 + i, none⟩ = some (.int .i64 x)) := fun i x hx => cell_mono (HC7.out i x hx) hb7
  have HC57 : Hid (∀ i x, sa[i]? = some x → w7.cell? ⟨b5, o5 + i, none⟩ = some (.int .i64 x)) := fun i x hx => cell_mono (HC5.out i x hx) hb7
  have hbl77 : b7 < w7.heap.size := Nat.lt_of_lt_of_le hbl7 hb7.size
  have hbl57 : b5 < w7.heap.size := Nat.lt_of_lt_of_le hbl5 hb7.size
  clear hr6 K16 HC7 HC5
  have HCT := HC77
  have HCS := HC57
  have hblt := hbl77
  have hbls := hbl57
  have HCH : Hid (∀ i x, had[i]? = some x → w7.cell? ⟨b, off + i, none⟩ = some (.int .i64 x)) := fun i x hx => cell_mono (HC.out i x hx) hB7
  have hblh : b < w7.heap.size := Nat.lt_of_lt_of_le hb hB7.size
  go_wp2
  go_loopw [12] (fun q wr => ∃ k n : Nat, k ≤ had.length ∧ q = .int .i64 k ∧ wr = w7.drewN n) (fun q _ => had.length - (intOf q).toNat)
  case atStart => exact ⟨0, 0, Nat.zero_le _, rfl, rfl⟩
  case round =>
    obtain ⟨i, n, hi, rfl, rfl⟩ := hrel
    by_cases hlt : i < had.length
    · go_wp2
      go_loopw [13] (fun q wr => ∃ k n : Nat, k ≤ had.length ∧ q = .int .i64 k ∧ wr = w7.drewN n) (fun q _ => had.length - (intOf q).toNat)
      case atStart => exact ⟨0, n, Nat.zero_le _, rfl, rfl⟩
      case round =>
        obtain ⟨k, n, hk, rfl, rfl⟩ := hrel
        by_cases hlt2 : k < had.length
        · obtain ⟨x, hx⟩ := get_at (l := sa) (k := i) (by rw [HSL.out]; exact hlt)
          obtain ⟨y, hy⟩ := get_at (l := sa) (k := k) (by rw [HSL.out]; exact hlt2)
          obtain ⟨u, hu⟩ := get_at (l := sb) (k := i) (by rw [HSL2.out]; exact hlt)
          obtain ⟨v, hv⟩ := get_at (l := sb) (k := k) (by rw [HSL2.out]; exact hlt2)
          obtain ⟨a, ha⟩ := get_at hlt
          obtain ⟨d, hd⟩ := get_at hlt2
          have hL := hlaw.out i k hlt hlt2
          simp only [List.getD, hx, hy, hu, hv, ha, hd, Option.getD_some] at hL
          have HL := Lib.hid hL
          have c1 := HCS.out i x hx
          have c2' := HCS.out k y hy
          have c3 := HCT.out i u hu
          have c4 := HCT.out k v hv
          have c5' := HCH.out i a ha
          have c6' := HCH.out k d hd
          clear hx hy hu hv ha hd hL
          by_cases g1 : d < a
          · have d3 : decide (d < a) = true := by simpa using g1
            by_cases g2 : u < x
            · have d4 : decide (u < x) = true := by simpa using g2
              have d5 : decide (y < v) = false := by
                simp only [decide_eq_false_iff_not]
                exact fun h => HL.out g1 g2 h
              clear g1 g2
              go_wp2
              go_quiet (fail)
              go_wp2
              go_roundw
              case rel => exact ⟨k + 1, _, by omega, by go_num, rfl⟩
              case measure => simp [intOf]; omega
            · have d4 : decide (u < x) = false := by simpa using g2
              clear g1 g2
              go_wp2
              go_quiet (fail)
              go_wp2
              go_roundw
              case rel => exact ⟨k + 1, _, by omega, by go_num, rfl⟩
              case measure => simp [intOf]; omega
          · have d3 : decide (d < a) = false := by simpa using g1
            clear g1
            go_wp2
            go_quiet (fail)
            go_wp2
            go_roundw
            case rel => exact ⟨k + 1, _, by omega, by go_num, rfl⟩
            case measure => simp [intOf]; omega
        · obtain rfl : k = had.length := by omega
          go_wp2
          go_roundw
          case rel => exact ⟨i + 1, n, by omega, by go_num, rfl⟩
          case measure => simp [intOf]; omega
    · obtain rfl : i = had.length := by omega
      go_wp2_with fail
      refine (works_any _).mono ?_
      rintro e wz ⟨rfl, hbz⟩
      go_wp2
      go_ret
      exact ⟨rfl, bl_trans hB7 (bl_trans (bl_drewN (bl_refl _) _) hbz)⟩

set_option maxRecDepth 100000 in
set_option maxHeartbeats 8000000 in
theorem sharePart_given (had : List Int) (part prize : Int) (xs : List Int) (mo : Int) (s s2 : Value) (w : World) (hs : Ints w s had) (hs2 : Ints w s2 xs) (hmo : 0 ≤ mo ∧ mo < 256) (h0 : checkPool had part prize = 0) (h1 : xs.length ≤ 20) (h2 : part ≠ 100) (hf : refSharesE had part prize xs = 0) :
    Calls Try.prog 13 #[.agg #[s, .int .i64 part, .int .i64 prize], s2, .int .u8 mo] w fun e w' => e = .returned (.bool true) ∧ Below w.heap.size w w' := by
  have V := checkPool_ok.1 h0
  have HD := hid (decide_eq_true h0)
  have hv1 := V.l1
  have hv2 := V.l2
  have hp1 := V.p1
  have hp2 := V.p2
  clear h0
  obtain ⟨b, off, c, rfl, hlc, hb, hcell⟩ := hs.some hv1
  obtain ⟨A2, c2, rfl⟩ := hs2.slice
  have d1 : decide ((20 : Int) < (xs.length : Int)) = false := by simp; omega
  have d2 : (part == 100) = false := by simp; omega
  have dz : ((100 - part) == 0) = false := by simp; omega
  obtain ⟨hm1, hm2⟩ := rem_nat (x := mo) (n := 100 - part) hmo.1 (by omega)
  obtain ⟨R, hR⟩ : ∃ R, mo % (100 - part) = R := ⟨_, rfl⟩
  rw [hR] at hm1 hm2
  have V2 : Val had (part + (1 + R)) prize := ⟨V.l1, V.l2, V.h1, by omega, by omega, V.z1, V.z2⟩
  have hwr1 : IntKind.i64.wrap (1 + mo % (100 - part)) = 1 + mo % (100 - part) := by rw [hR]; exact IntWalk.i64_in _ (by omega)
  have hwr2 : IntKind.i64.wrap (part + (1 + mo % (100 - part))) = part + (1 + mo % (100 - part)) := by rw [hR]; exact IntWalk.i64_in _ (by omega)
  obtain ⟨hsl, hsb, _⟩ := shares_facts V
  obtain ⟨hsl2, hsb2, _⟩ := shares_facts V2
  have HR1 : Hid (∀ W, Ints W (.slice (some ⟨b, off, none⟩) had.length c) had → Calls Try.prog 40 #[.agg #[.slice (some ⟨b, off, none⟩) had.length c, .int .i64 part, .int .i64 prize]] W fun e w' => (∃ v, e = .returned (.tuple #[v, .bool true]) ∧ Ints w' v (sharesE had part prize)) ∧ Below W.heap.size W w') := fun W hW => right_any had part prize _ W V hW
  have HR2 : Hid (∀ W, Ints W (.slice (some ⟨b, off, none⟩) had.length c) had → Calls Try.prog 40 #[.agg #[.slice (some ⟨b, off, none⟩) had.length c, .int .i64 (part + (1 + R)), .int .i64 prize]] W fun e w' => (∃ v, e = .returned (.tuple #[v, .bool true]) ∧ Ints w' v (sharesE had (part + (1 + R)) prize)) ∧ Below W.heap.size W w') := fun W hW => right_any had _ prize _ W V2 hW
  have H21 : Hid (∀ W, Below w.heap.size w W → Calls Try.prog 21 #[.agg #[.slice (some ⟨b, off, none⟩) had.length c, .int .i64 part, .int .i64 prize], .slice A2 xs.length c2] W fun e w' => e = .returned (.int .i64 (refSharesE had part prize xs)) ∧ Below W.heap.size W w') := fun W hW => by
    have := checkShares_any had part prize xs (.slice (some ⟨b, off, none⟩) had.length c) (.slice A2 xs.length c2) W (by omega) (by omega) (hs.mono hW) (hs2.mono hW)
    rwa [checkShares_law] at this
  have H22 : Hid (∀ W, Below w.heap.size w W → Calls Try.prog 22 #[.agg #[.slice (some ⟨b, off, none⟩) had.length c, .int .i64 part, .int .i64 prize], .slice A2 xs.length c2] W fun e w' => e = .returned (.int .i64 (refSharesE had part prize xs)) ∧ Below W.heap.size W w') := fun W hW => refCheckShares_any had part prize xs _ _ W (by omega) (by omega) (hs.mono hW) (hs2.mono hW)
  obtain ⟨O, F⟩ := refShares_ok'.1 hf
  have HF := hid hf
  have hxl := O.len
  have hlaw : Hid (∀ i k, i < had.length → k < had.length → had.getD k 0 < had.getD i 0 → (sharesE had (part + (1 + R)) prize).getD i 0 < xs.getD i 0 → xs.getD k 0 < (sharesE had (part + (1 + R)) prize).getD k 0 → False) := fun i k hi hk h1 h2 h3 =>
    part_law V V2 (by omega) F (own_fairP V2) (fun i => by
      by_cases h : i < xs.length
      · obtain ⟨x, hx⟩ := get_at h
        have := O.rng x (List.mem_of_getElem? hx)
        simp only [List.getD, hx, Option.getD_some]
        exact this.1
      · simp [List.getD, List.getElem?_eq_none (Nat.le_of_not_lt h)]) (own_nonneg V2) hi hk h1 h2 h3
  have HC := Lib.hid hcell
  have HSL := hid hsl
  have HSL2 := hid hsl2
  obtain ⟨b6, o6, c6, hes, _, hbl6, hcell6⟩ := hs2.some (by omega)
  injection hes with q1 q2 q3
  subst q1 q3
  clear q2
  have HC6 := Lib.hid hcell6
  have HXL := hid hxl
  generalize sharesE had part prize = sa at *
  generalize sharesE had (part + (1 + R)) prize = sb at *
  have HRR := hid hR
  have HMO := hid (show part + (1 + mo % (100 - part)) = part + (1 + R) by rw [hR])
  clear V V2 hsl hsl2 hsb hsb2 hcell hf hR hcell6 O F hxl
  go_enter Try.func13, Try.ntmps13
  go_wp2_with fail
  refine (fine_any had part prize _ _ (hs.mono (bl_alloc (bl_refl _) _))).mono ?_
  rintro e w1 ⟨rfl, hb1⟩
  rw [HD.out]
  have k1 := heap_new hb1
  have hr1 := fun i => cell_of_heap (i := i) k1
  have hB1 := bl_trans (bl_alloc (bl_refl w) _) hb1
  have hl1 : w.heap.size < w1.heap.size := (Array.getElem?_eq_some_iff.1 k1).1
  have hr11 : w1.cell? ⟨w.heap.size, 1, none⟩ = some (.int .i64 part) := hr1 1
  have K1 := hid k1
  clear k1
  go_wp2
  obtain ⟨w2, hw2⟩ : ∃ w2, w1.alloc (.cells #[.slice (some ⟨b, off, none⟩) had.length c, .int .i64 part, .int .i64 prize] 24) = w2 := ⟨_, rfl⟩
  have k2 := World.alloc_heap_new w1 (.cells #[.slice (some ⟨b, off, none⟩) had.length c, .int .i64 part, .int .i64 prize] 24)
  have hb2 : Below w1.heap.size w1 w2 := by rw [← hw2]; exact bl_alloc (bl_refl _) _
  rw [hw2] at k2 ⊢
  have hB2 := bl_trans hB1 hb2
  have K12 := hid (heap_mono K1.out hb2)
  have hr2 := fun i => cell_of_heap (i := i) K12.out
  have hr21 : w2.cell? ⟨w.heap.size, 1, none⟩ = some (.int .i64 part) := hr2 1
  have hx2 := fun i => cell_of_heap (i := i) k2
  have hx21 : w2.cell? ⟨w1.heap.size, 1, none⟩ = some (.int .i64 part) := hx2 1
  have hl2 : w.heap.size < w2.heap.size := Nat.lt_of_lt_of_le hl1 hb2.size
  have hm2l : w1.heap.size < w2.heap.size := (Array.getElem?_eq_some_iff.1 k2).1
  have K2 := hid k2
  clear hw2 hb1 hr1 hr11 k2
  refine wp_region_below_tail 11 (by kernel_rfl) (by kernel_rfl) ?_
  simp only [List.take_succ_cons, List.take_zero, List.drop_succ_cons, List.drop_zero]
  repeat (first | go_big_quiet_step (fail) | quiet_step (fail))
  refine wpQuiet_nil ?_
  intro w3 hb3
  rw [HRR.out]
  have k3 := heap_mono K2.out hb3
  have hx3 := fun i => cell_of_heap (i := i) k3
  have hf3 : ∀ i, w3.frozen? ⟨w1.heap.size, i, none⟩ = false := fun i => frozen_of_heap k3
  have hm3 : w1.heap.size < w3.heap.size := (Array.getElem?_eq_some_iff.1 k3).1
  have K4 := hid (set_second k3 (.int .i64 (part + (1 + R))))
  have K14 := hid (heap_grown (heap_mono K12.out hb3) (grown_set w3 w1.heap.size 1 (.int .i64 (part + (1 + R)))) (by omega))
  have hB4 := bl_set (bl_trans hB2 hb3) (o := 1) (.int .i64 (part + (1 + R))) (show w.heap.size ≤ w1.heap.size by omega)
  have hr4 := fun i => cell_of_heap (i := i) K14.out
  have hl3 : w.heap.size < w3.heap.size := Nat.lt_of_lt_of_le hl2 hb3.size
  clear hr2 hr21 hx2 hx21 k3 K2 K12
  go_wp2_with fail
  obtain ⟨w4, hw4⟩ : ∃ w4, w3.setCell ⟨w1.heap.size, 1, none⟩ (.int .i64 (part + (1 + R))) = w4 := ⟨_, rfl⟩
  rw [hw4] at K4 K14 hB4 hr4 ⊢
  clear hw4 hx3 hf3 hr4
  refine (HR1.out w4 (hs.mono hB4)).mono ?_
  rintro e w5 ⟨⟨v5, rfl, hI5⟩, hb5⟩
  have hx5 := fun i => cell_of_heap (i := i) (heap_mono K4.out hb5)
  have hxl5 : w1.heap.size < w5.heap.size := (Array.getElem?_eq_some_iff.1 (heap_mono K4.out hb5)).1
  have hB5 := bl_trans hB4 hb5
  go_wp2_with fail
  refine (HR2.out w5 (hs.mono hB5)).mono ?_
  rintro e w6 ⟨⟨v6, rfl, hI6⟩, hb6⟩
  have hB6 := bl_trans hB5 hb6
  have hI56 := hI5.mono hb6
  have hr6 := fun i => cell_of_heap (i := i) (heap_mono K14.out (bl_trans hb5 hb6))
  have hl6 : w.heap.size < w6.heap.size := (Array.getElem?_eq_some_iff.1 (heap_mono K14.out (bl_trans hb5 hb6))).1
  have K16 := hid (heap_mono K14.out (bl_trans hb5 hb6))
  obtain ⟨b7, o7, c7, rfl, _, hbl7, hcell7⟩ := hI6.some (by rw [HSL2.out]; omega)
  obtain ⟨b5, o5, c5, rfl, _, hbl5, hcell5⟩ := hI56.some (by rw [HSL.out]; omega)
  rw [HSL.out, HSL2.out]
  have HC7 := Lib.hid hcell7
  have HC5 := Lib.hid hcell5
  clear hx5 hI5 hI6 hI56 hcell7 hcell5 K4 K14
  go_wp2_with fail
  refine (H21.out w6 hB6).mono ?_
  rintro e w7 ⟨rfl, hb7⟩
  have hr7 := fun i => cell_of_heap (i := i) (heap_mono K16.out hb7)
  have hl7 : w.heap.size < w7.heap.size := (Array.getElem?_eq_some_iff.1 (heap_mono K16.out hb7)).1
  have hB7 := bl_trans hB6 hb7
  have K17 := hid (heap_mono K16.out hb7)
  have HC77 : Hid (∀ i x, sb[i]? = some x → w7.cell? ⟨b7, o7 + i, none⟩ = some (.int .i64 x)) := fun i x hx => cell_mono (HC7.out i x hx) hb7
  have HC57 : Hid (∀ i x, sa[i]? = some x → w7.cell? ⟨b5, o5 + i, none⟩ = some (.int .i64 x)) := fun i x hx => cell_mono (HC5.out i x hx) hb7
  have hbl77 : b7 < w7.heap.size := Nat.lt_of_lt_of_le hbl7 hb7.size
  have hbl57 : b5 < w7.heap.size := Nat.lt_of_lt_of_le hbl5 hb7.size
  clear hr6 K16 HC7 HC5
  rw [HF.out]
  go_wp2_with fail
  refine (H22.out w7 hB7).mono ?_
  rintro e w8 ⟨rfl, hb8⟩
  rw [HF.out]
  have hr8 := fun i => cell_of_heap (i := i) (heap_mono K17.out hb8)
  have hl8 : w.heap.size < w8.heap.size := (Array.getElem?_eq_some_iff.1 (heap_mono K17.out hb8)).1
  have hB8 := bl_trans hB7 hb8
  have HCT : Hid (∀ i x, sb[i]? = some x → w8.cell? ⟨b7, o7 + i, none⟩ = some (.int .i64 x)) := fun i x hx => cell_mono (HC77.out i x hx) hb8
  have HCS : Hid (∀ i x, xs[i]? = some x → w8.cell? ⟨b6, o6 + i, none⟩ = some (.int .i64 x)) := fun i x hx => cell_mono (HC6.out i x hx) hB8
  have hblt : b7 < w8.heap.size := Nat.lt_of_lt_of_le hbl77 hb8.size
  have hbls : b6 < w8.heap.size := Nat.lt_of_lt_of_le hbl6 hB8.size
  have hXN := HXL.out
  rw [hXN]
  clear hr7 hXN
  have HCH : Hid (∀ i x, had[i]? = some x → w8.cell? ⟨b, off + i, none⟩ = some (.int .i64 x)) := fun i x hx => cell_mono (HC.out i x hx) hB8
  have hblh : b < w8.heap.size := Nat.lt_of_lt_of_le hb hB8.size
  go_wp2
  go_loopw [12] (fun q wr => ∃ k n : Nat, k ≤ had.length ∧ q = .int .i64 k ∧ wr = w8.drewN n) (fun q _ => had.length - (intOf q).toNat)
  case atStart => exact ⟨0, 0, Nat.zero_le _, rfl, rfl⟩
  case round =>
    obtain ⟨i, n, hi, rfl, rfl⟩ := hrel
    by_cases hlt : i < had.length
    · go_wp2
      go_loopw [13] (fun q wr => ∃ k n : Nat, k ≤ had.length ∧ q = .int .i64 k ∧ wr = w8.drewN n) (fun q _ => had.length - (intOf q).toNat)
      case atStart => exact ⟨0, n, Nat.zero_le _, rfl, rfl⟩
      case round =>
        obtain ⟨k, n, hk, rfl, rfl⟩ := hrel
        by_cases hlt2 : k < had.length
        · obtain ⟨x, hx⟩ := get_at (l := xs) (k := i) (by rw [HXL.out]; exact hlt)
          obtain ⟨y, hy⟩ := get_at (l := xs) (k := k) (by rw [HXL.out]; exact hlt2)
          obtain ⟨u, hu⟩ := get_at (l := sb) (k := i) (by rw [HSL2.out]; exact hlt)
          obtain ⟨v, hv⟩ := get_at (l := sb) (k := k) (by rw [HSL2.out]; exact hlt2)
          obtain ⟨a, ha⟩ := get_at hlt
          obtain ⟨d, hd⟩ := get_at hlt2
          have hL := hlaw.out i k hlt hlt2
          simp only [List.getD, hx, hy, hu, hv, ha, hd, Option.getD_some] at hL
          have HL := Lib.hid hL
          have c1 := HCS.out i x hx
          have c2' := HCS.out k y hy
          have c3 := HCT.out i u hu
          have c4 := HCT.out k v hv
          have c5' := HCH.out i a ha
          have c6' := HCH.out k d hd
          clear hx hy hu hv ha hd hL
          by_cases g1 : d < a
          · have d3 : decide (d < a) = true := by simpa using g1
            by_cases g2 : u < x
            · have d4 : decide (u < x) = true := by simpa using g2
              have d5 : decide (y < v) = false := by
                simp only [decide_eq_false_iff_not]
                exact fun h => HL.out g1 g2 h
              clear g1 g2
              go_wp2
              go_quiet (fail)
              go_wp2
              go_roundw
              case rel => exact ⟨k + 1, _, by omega, by go_num, rfl⟩
              case measure => simp [intOf]; omega
            · have d4 : decide (u < x) = false := by simpa using g2
              clear g1 g2
              go_wp2
              go_quiet (fail)
              go_wp2
              go_roundw
              case rel => exact ⟨k + 1, _, by omega, by go_num, rfl⟩
              case measure => simp [intOf]; omega
          · have d3 : decide (d < a) = false := by simpa using g1
            clear g1
            go_wp2
            go_quiet (fail)
            go_wp2
            go_roundw
            case rel => exact ⟨k + 1, _, by omega, by go_num, rfl⟩
            case measure => simp [intOf]; omega
        · obtain rfl : k = had.length := by omega
          go_wp2
          go_roundw
          case rel => exact ⟨i + 1, n, by omega, by go_num, rfl⟩
          case measure => simp [intOf]; omega
    · obtain rfl : i = had.length := by omega
      go_wp2_with fail
      refine (works_any _).mono ?_
      rintro e wz ⟨rfl, hbz⟩
      go_wp2
      go_ret
      exact ⟨rfl, bl_trans hB8 (bl_trans (bl_drewN (bl_refl _) _) hbz)⟩

theorem sharePart_any (had : List Int) (part prize : Int) (xs : List Int) (mo : Int) (s s2 : Value) (w : World) (hs : Ints w s had) (hs2 : Ints w s2 xs) (hmo : 0 ≤ mo ∧ mo < 256) :
    Calls Try.prog 13 #[.agg #[s, .int .i64 part, .int .i64 prize], s2, .int .u8 mo] w fun e w' => e = .returned (.bool true) ∧ Below w.heap.size w w' := by
  by_cases h0 : checkPool had part prize = 0
  · by_cases h1 : xs.length ≤ 20
    · by_cases h2 : part = 100
      · exact sharePart_out had part prize xs mo s s2 w hs hs2 hmo (.inr (.inr h2))
      · by_cases hf : refSharesE had part prize xs = 0
        · exact sharePart_given had part prize xs mo s s2 w hs hs2 hmo h0 h1 h2 hf
        · exact sharePart_own had part prize xs mo s s2 w hs hs2 hmo h0 h1 h2 hf
    · exact sharePart_out had part prize xs mo s s2 w hs hs2 hmo (.inr (.inl (by omega)))
  · exact sharePart_out had part prize xs mo s s2 w hs hs2 hmo (.inl h0)

end Go.Proofs.Ytfchcikdcnloaaa
