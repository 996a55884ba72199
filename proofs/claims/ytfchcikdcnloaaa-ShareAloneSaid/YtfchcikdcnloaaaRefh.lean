/- The references: Shares, Owned, Sum, Quota. -/
import Derived.Test.YtfchcikdcnloaaaRefe
import Derived.Test.YtfchcikdcnloaaaQuota
namespace Go.Proofs.Ytfchcikdcnloaaa
open Go Go.RowKit Go.Proofs
attribute [local go_sem] cell_grow frozen_grow

theorem take_one {l : List Nat} {k : Nat} {x : Nat} (h : l[k]? = some x) : l.take (k + 1) = l.take k ++ [x] := by
  rw [List.take_add_one, h]; rfl

/-- The row of counts, one count raised. -/
theorem cnt_step {n : Nat} {l : List Nat} {k x : Nat} {y : Int} (h : l[k]? = some x) (hy : (cntOf n (l.take k))[x]? = some y) : cntOf n (l.take (k + 1)) = (cntOf n (l.take k)).set x (y + 1) := by
  rw [take_one h, cntOf_snoc]
  simp [bump, List.getD, hy]

set_option maxRecDepth 100000 in
set_option maxHeartbeats 8000000 in
theorem refShares_ok (had : List Int) (part prize : Int) (s : Value) (w : World) (V : Val had part prize) (hlt0 : ∀ x ∈ ordR had part prize.toNat, x < had.length) (hs : Ints w s had) :
    Calls Try.prog 26 #[.agg #[s, .int .i64 part, .int .i64 prize]] w fun e w' => (∃ v, e = .returned (.tuple #[v, .int .i64 0]) ∧ Ints w' v (cntOf had.length (ordR had part prize.toNat))) ∧ Below w.heap.size w w' := by
  obtain ⟨A, c, rfl⟩ := hs.slice
  have hv1 := V.l1
  have hv2 := V.l2
  have hz1 := V.z1
  have hz2 := V.z2
  obtain ⟨i0, hi, hi0, hi1, hi2⟩ := info_parts info2'
  have hLl := ordR_len had part prize.toNat
  have hcall := fun (W : World) (hW : Ints W (.slice A had.length c) had) => refOrder_ok had part prize _ W V hW
  generalize ordR had part prize.toNat = L at *
  have HLT := Lib.hid hlt0
  have HL := hid hLl
  clear hlt0
  have hN : L.length ≤ 1000 := by omega
  clear hLl
  go_enter Try.func26, Try.ntmps26
  go_wp2_with fail
  refine (hcall _ (hs.mono (bl_alloc (bl_refl _) _))).mono ?_
  rintro e w1 ⟨⟨v, rfl, hI⟩, hb1⟩
  clear hcall
  obtain ⟨hr1, hrf1⟩ := new_cells hb1
  have hB1 := bl_trans (bl_alloc (bl_refl w) _) hb1
  have hl1 : w.heap.size < w1.heap.size := by have := hb1.size; simp at this; omega
  have hmk := run_makeSlice w1 22 2 i0 (.int .i64 0) Try.underlying22 hi hi0 .i64 .i64 (had.length : Int) (had.length : Int) (by omega) (by omega) (by rw [hi1]; omega) (by rw [hi2]; omega) (by omega)
  rw [Int.toNat_natCast, hi1, Nat.mul_one, made_zero] at hmk
  obtain ⟨w2, hw2⟩ : ∃ w2, w1.alloc (.cells ((List.replicate had.length (0 : Int)).map (Value.int .i64)).toArray 2) = w2 := ⟨_, rfl⟩
  rw [hw2] at hmk
  have hb2 : Below w1.heap.size w1 w2 := by rw [← hw2]; exact bl_alloc (bl_refl _) _
  have hR0 : RowIs w2 w1.heap.size (cntOf had.length (L.take 0)) := by rw [← hw2]; exact World.alloc_heap_new _ _
  clear hw2
  by_cases h0 : L.length = 0
  · obtain rfl : L = [] := List.eq_nil_of_length_eq_zero h0
    obtain ⟨A2, c2, rfl⟩ := hI.slice
    have hres := hR0.ints
    rw [cntOf_len] at hres
    go_wp2
    go_loopw [7] (fun i wr => i = .int .i64 0 ∧ wr = w2) (fun _ _ => 0)
    case atStart => exact ⟨rfl, rfl⟩
    case round =>
      obtain ⟨rfl, rfl⟩ := hrel
      go_wp2
      go_ret2
      exact ⟨⟨_, rfl, hres⟩, bl_trans hB1 hb2⟩
  · obtain ⟨b2, off2, c2, rfl, _, hbl2, hcell2⟩ := hI.some (by simp; omega)
    rw [List.length_map]
    have HC2 : Hid (∀ i x, L[i]? = some x → w1.cell? ⟨b2, off2 + i, none⟩ = some (.int .i64 (x : Nat))) := fun i x hx => hcell2 i x (by rw [List.getElem?_map, hx]; rfl)
    clear hcell2 hI
    go_wp2
    go_loopw [7] (fun i wr => ∃ k : Nat, k ≤ L.length ∧ i = .int .i64 k ∧ RowIs wr w1.heap.size (cntOf had.length (L.take k)) ∧ Below w1.heap.size w1 wr ∧ w1.heap.size < wr.heap.size) (fun i _ => L.length - (intOf i).toNat)
    case atStart => exact ⟨0, Nat.zero_le _, rfl, hR0, hb2, (Array.getElem?_eq_some_iff.1 hR0).1⟩
    case round =>
      obtain ⟨k, hk, rfl, hR, hB, hwl⟩ := hrel
      have hlen := cntOf_len had.length (L.take k)
      by_cases hlt : k < L.length
      · obtain ⟨x, hx⟩ := get_at hlt
        have hxl := HLT.out x (List.mem_of_getElem? hx)
        obtain ⟨y, hy⟩ := get_at (l := cntOf had.length (L.take k)) (k := x) (by omega)
        have hyb := cntOf_le had.length (L.take k) x
        simp only [List.getD, hy, Option.getD_some, List.length_take] at hyb
        have hcx := cell_mono (HC2.out k x hx) hB
        have hblr : b2 < wr.heap.size := Nat.lt_of_lt_of_le hbl2 hB.size
        have hcy : wr.cell? ⟨w1.heap.size, x, none⟩ = some (.int .i64 y) := by rw [cell_of_heap hR]; simp [hy]
        have hfy : ∀ i, wr.frozen? ⟨w1.heap.size, i, none⟩ = false := fun i => frozen_of_heap hR
        have hwrap : IntKind.i64.wrap (y + 1) = y + 1 := IntWalk.i64_in _ (by omega)
        have hR2 := hR.set x (y + 1)
        have hst := hid (cnt_step hx hy)
        have hB2 := bl_set hB (o := x) (.int .i64 (y + 1)) (Nat.le_refl w1.heap.size)
        have hz4 : (wr.setCell ⟨w1.heap.size, x, none⟩ (.int .i64 (y + 1))).heap.size = wr.heap.size := by simp [World.setCell]
        clear hx hy hR hlen
        go_wp2
        go_roundw
        case rel => exact ⟨k + 1, by omega, by go_num, by rw [hst.out]; exact hR2, hB2, by omega⟩
        case measure => simp [intOf]; omega
      · obtain rfl : k = L.length := by omega
        rw [List.take_length] at hR hlen
        have hres := hR.ints
        rw [hlen] at hres
        go_wp2
        go_ret2
        exact ⟨⟨_, rfl, hres⟩, bl_trans hB1 hB⟩

set_option maxHeartbeats 2000000 in
theorem refOwned_any (had : List Int) (part prize owner : Int) (s : Value) (w : World) (hl : had.length ≤ 1000) (hs : Ints w s had) :
    Calls Try.prog 70 #[.agg #[s, .int .i64 part, .int .i64 prize], .int .i64 owner] w fun e w' => e = .returned (.int .i64 (ownedE had part prize owner)) ∧ Below w.heap.size w w' := by
  obtain ⟨A, c, rfl⟩ := hs.slice
  by_cases h0 : checkPool had part prize = 0
  case neg =>
    have hE := hid (show ownedE had part prize owner = checkPool had part prize by unfold ownedE; rw [if_pos h0])
    have hcp : (checkPool had part prize != 0) = true := by simpa using h0
    clear h0
    go_enter Try.func70, Try.ntmps70
    go_wp2_with fail
    refine (refCheckPool_any had part prize _ _ hl (hs.mono (bl_alloc (bl_refl _) _))).mono ?_
    rintro e w1 ⟨rfl, hb1⟩
    obtain ⟨hr1, hrf1⟩ := new_cells hb1
    have hB1 := bl_trans (bl_alloc (bl_refl w) _) hb1
    have hl1 : w.heap.size < w1.heap.size := by have := hb1.size; simp at this; omega
    go_wp2_with fail
    refine (refCheckPool_any had part prize _ _ hl (hs.mono hB1)).mono ?_
    rintro e w2 ⟨rfl, hb2⟩
    go_wp2
    go_ret
    exact ⟨by rw [hE.out]; rfl, bl_trans hB1 hb2⟩
  have hcp := hid h0
  have hE1 : Hid (owner < 0 ∨ (had.length : Int) ≤ owner → ownedE had part prize owner = 2) := fun h => by unfold ownedE; rw [if_neg (by simpa using h0), if_pos h]
  have hE2 : Hid (¬ (owner < 0 ∨ (had.length : Int) ≤ owner) → ownedE had part prize owner = 0) := fun h => by unfold ownedE; rw [if_neg (by simpa using h0), if_neg h]
  clear h0
  by_cases h1 : owner < 0
  · have d1 : decide (owner < 0) = true := by simpa using h1
    have hE := hid (hE1.out (.inl h1))
    clear h1
    go_enter Try.func70, Try.ntmps70
    go_wp2_with fail
    refine (refCheckPool_any had part prize _ _ hl (hs.mono (bl_alloc (bl_refl _) _))).mono ?_
    rintro e w1 ⟨rfl, hb1⟩
    rw [hcp.out]
    obtain ⟨hr1, hrf1⟩ := new_cells hb1
    have hB1 := bl_trans (bl_alloc (bl_refl w) _) hb1
    have hl1 : w.heap.size < w1.heap.size := by have := hb1.size; simp at this; omega
    go_wp2
    go_ret
    exact ⟨by rw [hE.out]; rfl, hB1⟩
  · have d1 : decide (owner < 0) = false := by simpa using h1
    by_cases h2 : (had.length : Int) ≤ owner
    · have d2 : decide ((had.length : Int) ≤ owner) = true := by simpa using h2
      have hE := hid (hE1.out (.inr h2))
      clear h1 h2
      go_enter Try.func70, Try.ntmps70
      go_wp2_with fail
      refine (refCheckPool_any had part prize _ _ hl (hs.mono (bl_alloc (bl_refl _) _))).mono ?_
      rintro e w1 ⟨rfl, hb1⟩
      rw [hcp.out]
      obtain ⟨hr1, hrf1⟩ := new_cells hb1
      have hB1 := bl_trans (bl_alloc (bl_refl w) _) hb1
      have hl1 : w.heap.size < w1.heap.size := by have := hb1.size; simp at this; omega
      go_wp2
      go_ret
      exact ⟨by rw [hE.out]; rfl, hB1⟩
    · have d2 : decide ((had.length : Int) ≤ owner) = false := by simpa using h2
      have hE := hid (hE2.out (by omega))
      clear h1 h2
      go_enter Try.func70, Try.ntmps70
      go_wp2_with fail
      refine (refCheckPool_any had part prize _ _ hl (hs.mono (bl_alloc (bl_refl _) _))).mono ?_
      rintro e w1 ⟨rfl, hb1⟩
      rw [hcp.out]
      obtain ⟨hr1, hrf1⟩ := new_cells hb1
      have hB1 := bl_trans (bl_alloc (bl_refl w) _) hb1
      have hl1 : w.heap.size < w1.heap.size := by have := hb1.size; simp at this; omega
      go_wp2
      go_ret
      exact ⟨by rw [hE.out]; rfl, hB1⟩

set_option maxHeartbeats 2000000 in
theorem refSum_any (had : List Int) (part prize : Int) (s : Value) (w : World) (V : Val had part prize) (hs : Ints w s had) :
    Calls Try.prog 71 #[.agg #[s, .int .i64 part, .int .i64 prize]] w fun e w' => e = .returned (.int .i64 had.sum) ∧ Below w.heap.size w w' := by
  have hv1 := V.l1
  have hv2 := V.l2
  obtain ⟨b, off, c, rfl, _, hb, hcell⟩ := hs.some hv1
  have HC := Lib.hid hcell
  have HS : Hid (∀ k, 0 ≤ (had.take k).sum ∧ (had.take k).sum ≤ 12000000) := fun k => had_sum V.mem V.l2 k
  have HV : Hid (∀ (i : Nat) (x : Int), had[i]? = some x → 1 ≤ x ∧ x ≤ 1000000) := V.h1
  clear hcell V hs
  go_enter Try.func71, Try.ntmps71
  go_wp2
  go_loop [3, 4] (fun a i => ∃ k : Nat, k ≤ had.length ∧ i = .int .i64 k ∧ a = .int .i64 (had.take k).sum) (fun _ i => had.length - (intOf i).toNat)
  case atStart => exact ⟨0, Nat.zero_le _, rfl, by simp⟩
  case round =>
    obtain ⟨k, hk, rfl, rfl⟩ := hrel
    have hsb := HS.out k
    by_cases hlt : k < had.length
    · obtain ⟨x, hx⟩ := get_at hlt
      have hcx := HC.out k x hx
      have hxb := HV.out k x hx
      have hst := hid (sum_take hx)
      have hwrap : IntKind.i64.wrap ((had.take k).sum + x) = (had.take k).sum + x := IntWalk.i64_in _ (by omega)
      clear hx
      go_wp2
      go_round
      case rel => exact ⟨k + 1, by omega, by go_num, by rw [hst.out]⟩
      case measure => simp [intOf]; omega
    · obtain rfl : k = had.length := by omega
      rw [List.take_length]
      generalize hS0 : had.sum = S at *
      have HS0 := hid hS0
      clear hS0
      go_wp2
      go_ret
      exact ⟨by rw [HS0.out]; rfl, bl_alloc (bl_refl _) _⟩

theorem quotaHi_eq {n d : Int} (_hn : 0 ≤ n) (hd : 1 ≤ d) : (n + d - 1) / d = if 0 < n % d then n / d + 1 else n / d := by
  have e := Int.mul_ediv_add_emod n d
  have h1 := Int.emod_nonneg n (b := d) (by omega)
  have h2 := Int.emod_lt_of_pos n (b := d) (by omega)
  split
  · rw [show n + d - 1 = n % d - 1 + (n / d + 1) * d by rw [Int.add_mul, Int.mul_comm (n / d) d]; omega, Int.add_mul_ediv_right _ _ (by omega), Int.ediv_eq_zero_of_lt (by omega) (by omega)]
    omega
  · rw [show n + d - 1 = d - 1 + (n / d) * d by rw [Int.mul_comm (n / d) d]; omega, Int.add_mul_ediv_right _ _ (by omega), Int.ediv_eq_zero_of_lt (by omega) (by omega)]
    omega

set_option maxRecDepth 100000 in
set_option maxHeartbeats 4000000 in
theorem refQuota_any (had : List Int) (part prize owner : Int) (s : Value) (w : World) (hl : had.length ≤ 1000) (hs : Ints w s had) :
    Calls Try.prog 38 #[.agg #[s, .int .i64 part, .int .i64 prize], .int .i64 owner] w fun e w' => e = .returned (.tuple #[encQ (quotaR had part prize owner), .int .i64 (ownedE had part prize owner)]) ∧ Below w.heap.size w w' := by
  obtain ⟨A, c, rfl⟩ := hs.slice
  have hbb := bl_alloc (bl_alloc (bl_refl w) (.cells #[.slice A had.length c, .int .i64 part, .int .i64 prize] 24)) (.cells #[.int .i64 0, .int .i64 0] 47)
  by_cases h0 : ownedE had part prize owner = 0
  case neg =>
    have hE := hid (show quotaR had part prize owner = (0, 0) by unfold quotaR; rw [if_neg h0])
    have hcp : (ownedE had part prize owner != 0) = true := by simpa using h0
    clear h0
    go_enter Try.func38, Try.ntmps38
    go_wp2_with fail
    refine (refOwned_any had part prize owner _ _ hl (hs.mono hbb)).mono ?_
    rintro e w1 ⟨rfl, hb1⟩
    obtain ⟨hr1, hrf1⟩ := new_cells (w := w) (bl_trans (bl_alloc (bl_refl _) _) hb1)
    obtain ⟨hq1, hqf1⟩ := new_cells (w := w.alloc (.cells #[.slice A had.length c, .int .i64 part, .int .i64 prize] 24)) hb1
    simp only [World.size_alloc] at hq1 hqf1
    have hB1 := bl_trans hbb hb1
    have hl1 : w.heap.size + 1 < w1.heap.size := by have := hb1.size; simp at this; omega
    go_wp2_with fail
    refine (refOwned_any had part prize owner _ _ hl (hs.mono hB1)).mono ?_
    rintro e w2 ⟨rfl, hb2⟩
    have hq2 : ∀ i, w2.cell? ⟨w.heap.size + 1, i, none⟩ = #[Value.int .i64 0, .int .i64 0][i]? := fun i => (hb2.cell (p := ⟨w.heap.size + 1, i, none⟩) hl1).trans (hq1 i)
    have hqf2 : ∀ i, w2.frozen? ⟨w.heap.size + 1, i, none⟩ = false := fun i => (hb2.frozen (p := ⟨w.heap.size + 1, i, none⟩) hl1).trans (hqf1 i)
    have hl2 : w.heap.size + 1 < w2.heap.size := Nat.lt_of_lt_of_le hl1 hb2.size
    clear hr1 hrf1 hq1 hqf1
    go_wp2
    refine bodyPost_ret (v := .tuple #[.agg #[.int .i64 0, .int .i64 0], .int .i64 (ownedE had part prize owner)]) (by simp [results, Try.results38, go_sem, hq2]) rfl ⟨by rw [hE.out]; rfl, ?_⟩
    exact bl_set (bl_set (bl_trans hB1 hb2) _ (by omega)) _ (by omega)
  obtain ⟨V, ho1, ho2⟩ := ownedE_ok.1 h0
  have hv1 := V.l1
  have hv2 := V.l2
  have hz1 := V.z1
  have hz2 := V.z2
  obtain ⟨j, rfl⟩ : ∃ j : Nat, owner = j := ⟨owner.toNat, by omega⟩
  have hj : j < had.length := by omega
  obtain ⟨x, hx⟩ := get_at hj
  have hxb := V.h1 j x hx
  have hS := had_sum V.mem V.l2 had.length
  have hS1 := had_sum_pos V.mem V.l1
  rw [List.take_length] at hS
  have hp0 := Int.mul_nonneg (show 0 ≤ x by omega) hz1
  have hp1 : x * prize ≤ 1000000 * 1000 := Int.mul_le_mul hxb.2 hz2 hz1 (by omega)
  have hE := hid (show quotaR had part prize j = (x * prize / had.sum, (x * prize + had.sum - 1) / had.sum) by
    unfold quotaR quotaLo quotaHi
    rw [if_pos h0, quotaHi_eq hp0 hS1]
    simp only [Int.toNat_natCast, List.getD, hx, Option.getD_some])
  have H0 := hid h0
  obtain ⟨b, off, c', hes, _, hb, hcell⟩ := hs.some hv1
  injection hes with q1 q2 q3
  subst q1 q3
  clear q2
  have hcx := hcell j x hx
  have Hsum : Hid (∀ W, Below w.heap.size w W → Calls Try.prog 71 #[.agg #[.slice (some ⟨b, off, none⟩) had.length c, .int .i64 part, .int .i64 prize]] W fun e w' => e = .returned (.int .i64 had.sum) ∧ Below W.heap.size W w') := fun W hW => refSum_any had part prize _ W V (hs.mono hW)
  have hwr : IntKind.i64.wrap (x * prize) = x * prize := IntWalk.i64_in _ (by omega)
  have hjj : (j : Int) < (had.length : Int) := by omega
  have hcall := fun (W : World) (hW : Ints W (.slice (some ⟨b, off, none⟩) had.length c) had) => refOwned_any had part prize (j : Int) _ W hl hW
  generalize had.sum = S at *
  generalize hP : x * prize = Q at *
  have hSb : (S == 0) = false := by simp; omega
  clear hx hcell V h0
  go_enter Try.func38, Try.ntmps38
  go_wp2_with fail
  refine (hcall _ (hs.mono hbb)).mono ?_
  rintro e w1 ⟨rfl, hb1⟩
  rw [H0.out]
  obtain ⟨hr1, hrf1⟩ := new_cells (w := w) (bl_trans (bl_alloc (bl_refl _) _) hb1)
  obtain ⟨hq1, hqf1⟩ := new_cells (w := w.alloc (.cells #[.slice (some ⟨b, off, none⟩) had.length c, .int .i64 part, .int .i64 prize] 24)) hb1
  simp only [World.size_alloc] at hq1 hqf1
  have hB1 := bl_trans hbb hb1
  have hl1 : w.heap.size + 1 < w1.heap.size := by have := hb1.size; simp at this; omega
  have hcx1 := cell_mono hcx hB1
  have hbl1 : b < w1.heap.size := Nat.lt_of_lt_of_le hb hB1.size
  have hl0 : w.heap.size < w1.heap.size := by omega
  have hr12 : w1.cell? ⟨w.heap.size, 2, none⟩ = some (.int .i64 prize) := hr1 2
  have HQ : Hid (∀ W, Below w1.heap.size w1 W → (∀ i, W.cell? ⟨w.heap.size + 1, i, none⟩ = #[Value.int .i64 0, .int .i64 0][i]?) ∧ (∀ i, W.frozen? ⟨w.heap.size + 1, i, none⟩ = false)) := fun W hW =>
    ⟨fun i => (hW.cell (p := ⟨w.heap.size + 1, i, none⟩) hl1).trans (hq1 i), fun i => (hW.frozen (p := ⟨w.heap.size + 1, i, none⟩) hl1).trans (hqf1 i)⟩
  have Hsum1 : Hid (∀ W, Below w1.heap.size w1 W → Calls Try.prog 71 #[.agg #[.slice (some ⟨b, off, none⟩) had.length c, .int .i64 part, .int .i64 prize]] W fun e w' => e = .returned (.int .i64 S) ∧ Below W.heap.size W w') := fun W hW => Hsum.out W (bl_trans hB1 hW)
  clear hq1 hqf1 hcall hb1
  go_wp2
  refine wp_region_below (by kernel_rfl) (by kernel_rfl) ?_
  repeat (first | go_big_quiet_step (exact Calls.regrown_of (Hsum1.out _ (below_regrown _ _ _))) | quiet_step (exact Calls.regrown_of (Hsum1.out _ (below_regrown _ _ _))))
  refine wpQuiet_nil ?_
  intro w5 hb5
  obtain ⟨hq5, hqf5⟩ := HQ.out w5 hb5
  have hl5 : w.heap.size + 1 < w5.heap.size := Nat.lt_of_lt_of_le hl1 hb5.size
  have hB5 := bl_trans hB1 hb5
  clear hr1 hrf1 hcx1 hr12
  go_wp2
  go_region
  go_wp2
  refine bodyPost_ret (v := .tuple #[.agg #[.int .i64 (Q / S), .int .i64 ((Q + S - 1) / S)], .int .i64 0]) (by simp [results, Try.results38, go_sem, hq5]) rfl ⟨by rw [hE.out, H0.out]; rfl, ?_⟩
  exact bl_drew (bl_set (bl_set hB5 _ (by omega)) _ (by omega))

end Go.Proofs.Ytfchcikdcnloaaa
