/- ShareOneMore: the walk through the law. -/
import Derived.Test.YtfchcikdcnloaaaLawf
namespace Go.Proofs.Ytfchcikdcnloaaa
open Go Go.RowKit Go.Proofs
attribute [local go_sem] cell_grow frozen_grow

set_option maxRecDepth 100000 in
set_option maxHeartbeats 8000000 in
theorem shareOneMore_any (had : List Int) (part prize : Int) (s : Value) (w : World) (hs : Ints w s had) :
    Calls Try.prog 9 #[.agg #[s, .int .i64 part, .int .i64 prize]] w fun e w' => e = .returned (.bool true) ∧ Below w.heap.size w w' := by
  obtain ⟨A, c, rfl⟩ := hs.slice
  by_cases h0 : checkPool had part prize = 0
  case neg =>
    have hd : decide (checkPool had part prize = 0) = false := decide_eq_false h0
    have HD := hid hd
    clear h0 hd
    go_enter Try.func9, Try.ntmps9
    go_wp2_with fail
    refine (fine_any had part prize _ _ (hs.mono (bl_alloc (bl_refl _) _))).mono ?_
    rintro e w1 ⟨rfl, hb1⟩
    rw [HD.out]
    have hr1 := (new_cells hb1).1
    have hB1 := bl_trans (bl_alloc (bl_refl w) _) hb1
    go_wp2_with fail
    refine (works_any _).mono ?_
    rintro e w2 ⟨rfl, hb2⟩
    go_wp2
    go_ret
    exact ⟨rfl, bl_trans hB1 hb2⟩
  have V := checkPool_ok.1 h0
  have HD := hid (decide_eq_true h0)
  have hv1 := V.l1
  have hv2 := V.l2
  have hz1 := V.z1
  have H0 := hid h0
  clear h0
  by_cases hg : 1000 ≤ prize
  · have hg' : decide (1000 ≤ prize) = true := by simpa using hg
    clear hg
    go_enter Try.func9, Try.ntmps9
    go_wp2_with fail
    refine (fine_any had part prize _ _ (hs.mono (bl_alloc (bl_refl _) _))).mono ?_
    rintro e w1 ⟨rfl, hb1⟩
    rw [HD.out]
    have hr1 := (new_cells hb1).1
    have hr12 : w1.cell? ⟨w.heap.size, 2, none⟩ = some (.int .i64 prize) := hr1 2
    have hB1 := bl_trans (bl_alloc (bl_refl w) _) hb1
    go_wp2_with fail
    refine (works_any _).mono ?_
    rintro e w2 ⟨rfl, hb2⟩
    go_wp2
    go_ret
    exact ⟨rfl, bl_trans hB1 hb2⟩
  have hg' : decide (1000 ≤ prize) = false := by simpa using hg
  have V2 : Val had part (prize + 1) := ⟨V.l1, V.l2, V.h1, V.p1, V.p2, by omega, by omega⟩
  have hwr : IntKind.i64.wrap (prize + 1) = prize + 1 := IntWalk.i64_in _ (by omega)
  obtain ⟨j, hj, hO, hS⟩ := order_more V V2
  have hlen := order_len V
  have HS := Lib.hid hS
  have HO := hid hO
  obtain ⟨hsl, hsb, _⟩ := shares_facts V
  obtain ⟨hsl2, hsb2, _⟩ := shares_facts V2
  have H1 := hid (checkPool_ok.2 V2)
  have HSL := hid hsl
  have HSL2 := hid hsl2
  have HSB := Lib.hid hsb
  have hN : prize.toNat ≤ 1000 := by omega
  have hNp : ((prize.toNat : Nat) : Int) = prize := by omega
  have HOrd : Hid (∀ W, Ints W (.slice A had.length c) had → Calls Try.prog 23 #[.agg #[.slice A had.length c, .int .i64 part, .int .i64 prize]] W fun e w' => (∃ v, e = .returned (.tuple #[v, .int .i64 0]) ∧ Ints w' v (orderE had part prize)) ∧ Below W.heap.size W w') := fun W hW => by
    have := order_any had part prize _ W (by omega) hW; rwa [H0.out] at this
  have HOrd2 : Hid (∀ W, Ints W (.slice A had.length c) had → Calls Try.prog 23 #[.agg #[.slice A had.length c, .int .i64 part, .int .i64 (prize + 1)]] W fun e w' => (∃ v, e = .returned (.tuple #[v, .int .i64 0]) ∧ Ints w' v (orderE had part (prize + 1))) ∧ Below W.heap.size W w') := fun W hW => by
    have := order_any had part (prize + 1) _ W (by omega) hW; rwa [H1.out] at this
  have HR1 : Hid (∀ W, Ints W (.slice A had.length c) had → Calls Try.prog 40 #[.agg #[.slice A had.length c, .int .i64 part, .int .i64 prize]] W fun e w' => (∃ v, e = .returned (.tuple #[v, .bool true]) ∧ Ints w' v (sharesE had part prize)) ∧ Below W.heap.size W w') := fun W hW => right_any had part prize _ W V hW
  have HR2 : Hid (∀ W, Ints W (.slice A had.length c) had → Calls Try.prog 40 #[.agg #[.slice A had.length c, .int .i64 part, .int .i64 (prize + 1)]] W fun e w' => (∃ v, e = .returned (.tuple #[v, .bool true]) ∧ Ints w' v (sharesE had part (prize + 1))) ∧ Below W.heap.size W w') := fun W hW => right_any had part (prize + 1) _ W V2 hW
  have hcl : (orderE had part prize).length ≤ 100000 := orderE_len _ _ _
  generalize orderE had part prize = oa at *
  generalize orderE had part (prize + 1) = ob at *
  generalize sharesE had part prize = sa at *
  generalize sharesE had part (prize + 1) = sb at *
  have HLA := hid hlen
  have hobl : ob.length = prize.toNat + 1 := by rw [hO, List.length_append, hlen]; rfl
  have HLB := hid hobl
  clear hg hO hS hsl hsl2 hsb hsb2 V V2 hlen hobl
  go_enter Try.func9, Try.ntmps9
  go_wp2_with fail
  refine (fine_any had part prize _ _ (hs.mono (bl_alloc (bl_refl _) _))).mono ?_
  rintro e w1 ⟨rfl, hb1⟩
  rw [HD.out]
  have k1 := heap_new hb1
  have hr1 := fun i => cell_of_heap (i := i) k1
  have hr12 : w1.cell? ⟨w.heap.size, 2, none⟩ = some (.int .i64 prize) := hr1 2
  have hB1 := bl_trans (bl_alloc (bl_refl w) _) hb1
  have hl1 : w.heap.size < w1.heap.size := (Array.getElem?_eq_some_iff.1 k1).1
  have K1 := hid k1
  clear k1
  go_wp2_with fail
  obtain ⟨w2, hw2⟩ : ∃ w2, w1.alloc (.cells #[.slice A had.length c, .int .i64 part, .int .i64 (prize + 1)] 24) = w2 := ⟨_, rfl⟩
  have k2 := World.alloc_heap_new w1 (.cells #[.slice A had.length c, .int .i64 part, .int .i64 (prize + 1)] 24)
  have hb2 : Below w1.heap.size w1 w2 := by rw [← hw2]; exact bl_alloc (bl_refl _) _
  rw [hw2] at k2 ⊢
  have HP : Hid (∀ W, Below w2.heap.size w2 W → Ints W (.slice A had.length c) had ∧ (∀ i, W.cell? ⟨w.heap.size, i, none⟩ = #[Value.slice A had.length c, .int .i64 part, .int .i64 prize][i]?) ∧ (∀ i, W.cell? ⟨w1.heap.size, i, none⟩ = #[Value.slice A had.length c, .int .i64 part, .int .i64 (prize + 1)][i]?) ∧ w.heap.size < W.heap.size ∧ w1.heap.size < W.heap.size) := fun W hW =>
    ⟨hs.mono (bl_trans hB1 (bl_trans hb2 hW)), fun i => cell_of_heap (heap_mono K1.out (bl_trans hb2 hW)), fun i => cell_of_heap (heap_mono k2 hW), (Array.getElem?_eq_some_iff.1 (heap_mono K1.out (bl_trans hb2 hW))).1, (Array.getElem?_eq_some_iff.1 (heap_mono k2 hW)).1⟩
  have hB2 := bl_trans hB1 hb2
  clear hw2 k2 hr1 hr12 hb1 hb2
  obtain ⟨p2, _, _, _, _⟩ := HP.out w2 (bl_refl _)
  refine (HOrd.out w2 p2).mono ?_
  rintro e w3 ⟨⟨v3, rfl, hI3⟩, hb3⟩
  obtain ⟨p3, q3, r3, l3, m3⟩ := HP.out w3 hb3
  go_wp2_with fail
  refine (HOrd2.out w3 p3).mono ?_
  rintro e w4 ⟨⟨v4, rfl, hI4⟩, hb4⟩
  have hb24 := bl_trans hb3 hb4
  have hI34 := hI3.mono hb4
  obtain ⟨p4, q4, r4, l4, m4⟩ := HP.out w4 hb24
  clear p3 q3 r3 l3 m3 hI3
  go_wp2_with fail
  refine (HR1.out w4 p4).mono ?_
  rintro e w5 ⟨⟨v5, rfl, hI5⟩, hb5⟩
  have hb25 := bl_trans hb24 hb5
  have hI35 := hI34.mono hb5
  have hI45 := hI4.mono hb5
  obtain ⟨p5, q5, r5, l5, m5⟩ := HP.out w5 hb25
  clear p4 q4 r4 l4 m4 hI34 hI4
  go_wp2_with fail
  refine (HR2.out w5 p5).mono ?_
  rintro e w6 ⟨⟨v6, rfl, hI6⟩, hb6⟩
  have hb26 := bl_trans hb25 hb6
  have hI36 := hI35.mono hb6
  have hI46 := hI45.mono hb6
  have hI56 := hI5.mono hb6
  obtain ⟨p6, q6, r6, l6, m6⟩ := HP.out w6 hb26
  have q62 : w6.cell? ⟨w.heap.size, 2, none⟩ = some (.int .i64 prize) := q6 2
  clear p5 q5 r5 l5 m5 hI35 hI45 hI5
  obtain ⟨A3, c3, rfl⟩ := hI36.slice
  obtain ⟨b4, o4, c4, rfl, hc4, hbl4, hcell4⟩ := hI46.some (by rw [HLB.out]; omega)
  obtain ⟨b5, o5, c5, rfl, _, hbl5, hcell5⟩ := hI56.some (by rw [HSL.out]; exact hv1)
  obtain ⟨b6, o6, c6, rfl, _, hbl6, hcell6⟩ := hI6.some (by rw [HSL2.out]; exact hv1)
  have hpre := hI46.front (k := oa.length) (by rw [HLB.out, HLA.out]; omega) (by rw [HLB.out]; omega)
  have hpre' : Ints w6 (.slice (some ⟨b4, o4, none⟩) prize.toNat c4) oa := by
    rw [HO.out, List.take_append_of_le_length (Nat.le_refl _), List.take_length, HLA.out] at hpre
    exact hpre
  have hc4' : prize.toNat ≤ c4 := by rw [HLB.out] at hc4; omega
  have hcj := hcell4 prize.toNat j (by rw [HO.out, List.getElem?_append_right (by rw [HLA.out]; exact Nat.le_refl _), HLA.out, Nat.sub_self]; rfl)
  have HC5 := Lib.hid hcell5
  have HC6 := Lib.hid hcell6
  rw [HLA.out] at hI36 ⊢
  rw [HLB.out] at hI46 hc4 ⊢
  rw [HSL.out] at hI56 ⊢
  rw [HSL2.out] at hI6 ⊢
  have hsame := sameInts_any oa (.slice (some ⟨b4, o4, none⟩) prize.toNat c4) (.slice A3 prize.toNat c3) w6 hcl hpre' hI36
  have HSAME := hid hsame
  have hB6 := bl_trans hB2 hb26
  clear hcell4 hcell5 hcell6 hpre hpre' hI36 hI46 hI56 hI6 HOrd HOrd2 HR1 HR2 HP hsame q6 r6
  have hne1 : ((prize.toNat : Int) != prize) = false := by simp; omega
  go_wp2_with fail
  refine HSAME.out.mono ?_
  rintro e w7 ⟨rfl, hb7⟩
  have hB7 := bl_trans hB6 hb7
  have hcj7 := cell_mono hcj hb7
  have hb47 : b4 < w7.heap.size := Nat.lt_of_lt_of_le hbl4 hb7.size
  have hb57 : b5 < w7.heap.size := Nat.lt_of_lt_of_le hbl5 hb7.size
  have hb67 : b6 < w7.heap.size := Nat.lt_of_lt_of_le hbl6 hb7.size
  have hjb : (j : Int) = j := rfl
  clear hcj q62 l6 m6
  go_wp2
  go_loopw [12] (fun i wr => ∃ k n : Nat, k ≤ had.length ∧ i = .int .i64 k ∧ wr = w7.drewN n) (fun i _ => had.length - (intOf i).toNat)
  case atStart => exact ⟨0, 0, Nat.zero_le _, rfl, rfl⟩
  case round =>
    obtain ⟨k, n, hk, rfl, rfl⟩ := hrel
    by_cases hlt : k < had.length
    · obtain ⟨x, hx⟩ := get_at (l := sa) (k := k) (by rw [HSL.out]; exact hlt)
      obtain ⟨y, hy⟩ := get_at (l := sb) (k := k) (by rw [HSL2.out]; exact hlt)
      have hxy := HS.out k hlt
      simp only [List.getD, hx, hy, Option.getD_some] at hxy
      have hxb := HSB.out x (List.mem_of_getElem? hx)
      have hcx := cell_mono (HC5.out k x hx) hb7
      have hcy := cell_mono (HC6.out k y hy) hb7
      have HXY := hid hxy
      clear hx hy hxy
      by_cases hjk : j = k
      · have dj : ((j : Int) == (k : Int)) = true := by simp [hjk]
        obtain rfl : y = x + 1 := by rw [HXY.out, if_pos hjk]
        have dn : (x + 1 != x + 1) = false := by simp
        clear hjk
        go_wp2
        go_quiet (fail)
        go_wp2
        go_roundw
        case rel => exact ⟨k + 1, _, by omega, by go_num, rfl⟩
        case measure => simp [intOf]; omega
      · have dj : ((j : Int) == (k : Int)) = false := by simp; omega
        obtain rfl : y = x := by rw [HXY.out, if_neg hjk]; omega
        have dn : (y != y) = false := by simp
        clear hjk
        go_wp2
        go_quiet (fail)
        go_wp2
        go_roundw
        case rel => exact ⟨k + 1, _, by omega, by go_num, rfl⟩
        case measure => simp [intOf]; omega
    · obtain rfl : k = had.length := by omega
      go_wp2_with fail
      refine (works_any _).mono ?_
      rintro e w8 ⟨rfl, hb8⟩
      go_wp2
      go_ret
      exact ⟨rfl, bl_trans hB7 (bl_trans (bl_drewN (bl_refl _) _) hb8)⟩

end Go.Proofs.Ytfchcikdcnloaaa
