/- The references: Shared. -/
import Derived.Test.YtfchcikdcnloaaaRefa
namespace Go.Proofs.Ytfchcikdcnloaaa
open Go Go.RowKit Go.Proofs
attribute [local go_sem] cell_grow frozen_grow

set_option maxHeartbeats 4000000 in
theorem refShared_any (had : List Int) (part prize : Int) (shares : List Int) (s s2 : Value) (w : World) (hl : had.length ≤ 1000) (hl2 : shares.length ≤ 1000) (hs : Ints w s had) (hs2 : Ints w s2 shares) :
    Calls Try.prog 53 #[.agg #[s, .int .i64 part, .int .i64 prize], s2] w fun e w' => e = .returned (.int .i64 (sharedE had part prize shares)) ∧ Below w.heap.size w w' := by
  obtain ⟨A, c, rfl⟩ := hs.slice
  obtain ⟨B, c2, rfl⟩ := hs2.slice
  by_cases h0 : checkPool had part prize = 0
  case neg =>
    have hE := hid (show sharedE had part prize shares = checkPool had part prize by unfold sharedE; rw [if_pos h0])
    have hcp : (checkPool had part prize != 0) = true := by simpa using h0
    clear h0
    go_enter Try.func53, Try.ntmps53
    go_wp2_with fail
    refine (refCheckPool_any had part prize _ _ hl (hs.mono (bl_alloc (bl_refl _) _))).mono ?_
    rintro e w1 ⟨rfl, hb1⟩
    obtain ⟨hr1, hrf1⟩ := new_cells hb1
    have hB1 := bl_trans (bl_alloc (bl_refl w) _) hb1
    go_wp2_with fail
    refine (refCheckPool_any had part prize _ _ hl (hs.mono hB1)).mono ?_
    rintro e w2 ⟨rfl, hb2⟩
    go_wp2
    go_ret
    exact ⟨by rw [hE.out]; rfl, bl_trans hB1 hb2⟩
  have V := checkPool_ok.1 h0
  have hv2 := V.l2
  have hz1 := V.z1
  have hz2 := V.z2
  have hcp := hid h0
  by_cases hlen : shares.length = had.length
  case neg =>
    have hE := hid (show sharedE had part prize shares = 15 by unfold sharedE; rw [if_neg (by simpa using h0), if_pos hlen])
    have hne : ((shares.length : Int) != (had.length : Int)) = true := by simp; omega
    clear h0
    go_enter Try.func53, Try.ntmps53
    go_wp2_with fail
    refine (refCheckPool_any had part prize _ _ hl (hs.mono (bl_alloc (bl_refl _) _))).mono ?_
    rintro e w1 ⟨rfl, hb1⟩
    rw [hcp.out]
    obtain ⟨hr1, hrf1⟩ := new_cells hb1
    have hB1 := bl_trans (bl_alloc (bl_refl w) _) hb1
    go_wp2
    go_ret
    exact ⟨by rw [hE.out]; rfl, hB1⟩
  obtain ⟨b, off, c3, hes, _, hb, hcell⟩ := hs2.some (show 1 ≤ shares.length by rw [hlen]; exact V.l1)
  injection hes with q1 q2 q3
  subst q1 q3
  clear q2
  have hne : ((shares.length : Int) != (had.length : Int)) = false := by simp [hlen]
  have H3 : Hid (∀ x ∈ shares, x < 0 ∨ prize < x → sharedE had part prize shares = 3) := fun x hx h => by
    unfold sharedE
    rw [if_neg (by simpa using h0), if_neg (by simpa using hlen), if_pos ((withinB_false _ _ _).2 ⟨x, hx, h⟩)]
  have H4 : Hid ((∀ x ∈ shares, 0 ≤ x ∧ x ≤ prize) → sharedE had part prize shares = if shares.sum ≠ prize then 14 else 0) := fun h => by
    unfold sharedE
    rw [if_neg (by simpa using h0), if_neg (by simpa using hlen), if_neg (by rw [Bool.not_eq_false]; exact (withinB_iff _ _ _).2 h)]
  have hsl : shares.length ≤ 12 := by omega
  have Hcell := Lib.hid hcell
  clear hlen h0 hcell
  go_enter Try.func53, Try.ntmps53
  go_wp2_with fail
  refine (refCheckPool_any had part prize _ _ hl (hs.mono (bl_alloc (bl_refl _) _))).mono ?_
  rintro e w1 ⟨rfl, hb1⟩
  rw [hcp.out]
  obtain ⟨hr1, hrf1⟩ := new_cells hb1
  have hB1 := bl_trans (bl_alloc (bl_refl w) _) hb1
  go_wp2
  go_loopw [5, 6] (fun a j wr => ∃ k n : Nat, k ≤ shares.length ∧ j = .int .i64 k ∧ a = .int .i64 (shares.take k).sum ∧ wr = w1.drewN n ∧ Hid (∀ j x, j < k → shares[j]? = some x → 0 ≤ x ∧ x ≤ prize) ∧ (0 ≤ (shares.take k).sum ∧ (shares.take k).sum ≤ 1000 * k)) (fun _ j _ => shares.length - (intOf j).toNat)
  case atStart => exact ⟨0, 0, Nat.zero_le _, rfl, by simp, rfl, fun j x h => by omega, by simp⟩
  case round =>
    obtain ⟨k, n, hk, rfl, rfl, rfl, hH, hsb⟩ := hrel
    by_cases hlt : k < shares.length
    · obtain ⟨x, hx⟩ := get_at hlt
      have hcx := cell_mono (Hcell.out k x hx) hB1
      have hmem := List.mem_of_getElem? hx
      by_cases hg : 0 ≤ x ∧ x ≤ prize
      · have hd3 : decide (x < 0) = false := by simp; omega
        have hd4 : decide (prize < x) = false := by simp; omega
        have hst : Hid (∀ j y, j < k + 1 → shares[j]? = some y → 0 ≤ y ∧ y ≤ prize) := fun j y hj hy => by
          by_cases e : j = k
          · subst e; rw [hx] at hy; injection hy with hy; rw [← hy]; exact hg
          · exact hH.out j y (by omega) hy
        have hsum := hid (sum_take hx)
        clear hx hmem hH
        go_wp2
        go_quiet (fail)
        go_wp2
        go_roundw
        case rel => exact ⟨k + 1, _, by omega, by go_num, by rw [hsum.out], rfl, hst, by rw [hsum.out]; omega⟩
        case measure => simp [intOf]; omega
      · have h3 := hid (H3.out x hmem (by omega))
        clear hx hmem hH
        by_cases hx0 : x < 0
        · have hd3 : decide (x < 0) = true := by simpa using hx0
          go_wp2
          go_quiet (fail)
          go_wp2
          go_ret
          exact ⟨by rw [h3.out]; rfl, bl_drewN (bl_drewN hB1 _) _⟩
        · have hd3 : decide (x < 0) = false := by simp; omega
          have hd4 : decide (prize < x) = true := by simp; omega
          go_wp2
          go_quiet (fail)
          go_wp2
          go_ret
          exact ⟨by rw [h3.out]; rfl, bl_drewN (bl_drewN hB1 _) _⟩
    · obtain rfl : k = shares.length := by omega
      rw [List.take_length] at hsb ⊢
      have h4 := hid (H4.out (fun x hx => by
        obtain ⟨i, hi, rfl⟩ := List.mem_iff_getElem.mp hx
        exact hH.out i _ hi (by simp [hi])))
      clear hH
      by_cases he : shares.sum = prize
      · have hne2 : (shares.sum != prize) = false := by simpa using he
        have h5 := hid (show sharedE had part prize shares = 0 by rw [h4.out, if_neg (by simpa using he)])
        clear he
        generalize shares.sum = S at *
        go_wp2
        go_ret
        exact ⟨by rw [h5.out]; rfl, bl_drewN hB1 _⟩
      · have hne2 : (shares.sum != prize) = true := by simpa using he
        have h5 := hid (show sharedE had part prize shares = 14 by rw [h4.out, if_pos he])
        clear he
        generalize shares.sum = S at *
        go_wp2
        go_ret
        exact ⟨by rw [h5.out]; rfl, bl_drewN hB1 _⟩

end Go.Proofs.Ytfchcikdcnloaaa
