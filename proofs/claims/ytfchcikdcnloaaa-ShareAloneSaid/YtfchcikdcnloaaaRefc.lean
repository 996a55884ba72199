/- The references: IsFair, CheckShares. -/
import Derived.Test.YtfchcikdcnloaaaRefb
import Derived.Test.YtfchcikdcnloaaaTail
namespace Go.Proofs.Ytfchcikdcnloaaa
open Go Go.RowKit Go.Proofs
attribute [local go_sem] cell_grow frozen_grow

/-- By right no log of the owner i goes to the owner k. -/
def fairAt (had : List Int) (part : Int) (shares : List Int) (i k : Nat) : Bool :=
  !(decide (0 < shares.getD i 0) && decide (k ≠ i) && decide (had.getD i 0 * (100 * shares.getD k 0 + part) < had.getD k 0 * (100 * (shares.getD i 0 - 1) + part)))
def isFairR (had : List Int) (part : Int) (shares : List Int) : Bool := (List.range shares.length).all fun i => (List.range shares.length).all fun k => fairAt had part shares i k
theorem isFairR_true {had shares : List Int} {part : Int} : isFairR had part shares = true ↔ ∀ i k, i < shares.length → k < shares.length → fairAt had part shares i k = true := by
  simp only [isFairR, List.all_eq_true, List.mem_range]
  exact ⟨fun h i k hi hk => h i hi k hk, fun h i hi k hk => h i k hi hk⟩
theorem isFairR_false {had shares : List Int} {part : Int} {i k : Nat} (hi : i < shares.length) (hk : k < shares.length) (h : fairAt had part shares i k = false) : isFairR had part shares = false := by
  rw [← Bool.not_eq_true, isFairR_true]
  intro h2
  rw [h2 i k hi hk] at h
  cases h

theorem mul_in {x y : Int} (hx : 0 ≤ x) (hx2 : x ≤ 1000000) (hy : -1000 ≤ y) (hy2 : y ≤ 200000) : IntKind.i64.wrap (x * y) = x * y := by
  have h1 : x * y ≤ 1000000 * 200000 := by
    rcases Int.le_total 0 y with h | h
    · exact Int.mul_le_mul hx2 hy2 h (by omega)
    · have := Int.mul_nonneg hx (show 0 ≤ -y by omega)
      have e : x * -y = -(x * y) := Int.mul_neg x y
      omega
  have h2 : -(1000000 * 1000) ≤ x * y := by
    rcases Int.le_total 0 y with h | h
    · have := Int.mul_nonneg hx h; omega
    · have := Int.mul_le_mul hx2 (show -y ≤ 1000 by omega) (by omega) (by omega)
      have e : x * -y = -(x * y) := Int.mul_neg x y
      omega
  exact IntWalk.i64_in _ (by omega)

set_option maxRecDepth 100000 in
set_option maxHeartbeats 8000000 in
theorem isFair_any (had : List Int) (part prize : Int) (shares : List Int) (s s2 : Value) (w : World) (V : Val had part prize) (hlen : shares.length = had.length) (hsh : ∀ x ∈ shares, 0 ≤ x ∧ x ≤ 1000) (hs : Ints w s had) (hs2 : Ints w s2 shares) :
    Calls Try.prog 54 #[.agg #[s, .int .i64 part, .int .i64 prize], s2] w fun e w' => e = .returned (.bool (isFairR had part shares)) ∧ Below w.heap.size w w' := by
  have hv1 := V.l1
  have hv2 := V.l2
  have hp1 := V.p1
  have hp2 := V.p2
  obtain ⟨b, off, c, rfl, _, hb, hcell⟩ := hs.some hv1
  obtain ⟨b2, off2, c2, rfl, _, hb2, hcell2⟩ := hs2.some (by omega)
  have HC := Lib.hid hcell
  have HC2 := Lib.hid hcell2
  have HV : Hid (∀ (i : Nat) (x : Int), had[i]? = some x → 1 ≤ x ∧ x ≤ 1000000) := V.h1
  have HS : Hid (∀ (i : Nat) (x : Int), shares[i]? = some x → 0 ≤ x ∧ x ≤ 1000) := fun i x hx => hsh x (List.mem_of_getElem? hx)
  have HL := hid hlen
  have Hst : Hid (∀ (s : Value) (prize k : Int) (W : World), -1000 ≤ k → k ≤ 100000 → Calls Try.prog 63 #[.agg #[s, .int .i64 part, .int .i64 prize], .int .i64 k] W fun e w' => e = .returned (.int .i64 (100 * k + part)) ∧ Below W.heap.size W w') := fun s prize k W h1 h2 => refStep_any s part prize k W h1 h2 hp1 hp2
  have hsl : shares.length ≤ 12 := by omega
  have hT : Hid ((∀ i k, i < shares.length → k < shares.length → fairAt had part shares i k = true) → isFairR had part shares = true) := isFairR_true.2
  have hF : Hid (∀ i k, i < shares.length → k < shares.length → fairAt had part shares i k = false → isFairR had part shares = false) := fun i k => isFairR_false
  have hzl : b < w.heap.size ∧ b2 < w.heap.size := ⟨hb, hb2⟩
  clear hcell hcell2 hlen hsh hs hs2 V
  go_enter Try.func54, Try.ntmps54
  go_wp2
  obtain ⟨w1, hw1⟩ : ∃ w1, w.alloc (.cells #[.slice (some ⟨b, off, none⟩) had.length c, .int .i64 part, .int .i64 prize] 24) = w1 := ⟨_, rfl⟩
  have hB1 : Below w.heap.size w w1 := by rw [← hw1]; exact bl_alloc (bl_refl _) _
  have HR : Hid (∀ W, Below w1.heap.size w1 W → (∀ i, W.cell? ⟨w.heap.size, i, none⟩ = #[Value.slice (some ⟨b, off, none⟩) had.length c, .int .i64 part, .int .i64 prize][i]?) ∧ w.heap.size < W.heap.size) := fun W hW => by
    rw [← hw1] at hW
    refine ⟨(new_cells hW).1, ?_⟩
    have := hW.size
    simp at this
    omega
  rw [hw1]
  clear hw1
  go_loopw [5] (fun i wr => ∃ k : Nat, k ≤ shares.length ∧ i = .int .i64 k ∧ Hid (∀ i' k', i' < k → k' < shares.length → fairAt had part shares i' k' = true) ∧ Below w1.heap.size w1 wr) (fun i _ => shares.length - (intOf i).toNat)
  case atStart => exact ⟨0, Nat.zero_le _, rfl, fun i' k' h => by omega, bl_refl _⟩
  case round =>
    obtain ⟨k, hk, rfl, hall, hB⟩ := hrel
    by_cases hlt : k < shares.length
    · obtain ⟨wo, hwo⟩ : ∃ wo, wr = wo := ⟨_, rfl⟩
      rw [hwo] at hB ⊢
      clear hwo
      go_wp2
      go_loopw [6] (fun j wr => ∃ m : Nat, m ≤ shares.length ∧ j = .int .i64 m ∧ Hid (∀ k', k' < m → fairAt had part shares k k' = true) ∧ Below w1.heap.size w1 wr) (fun j _ => shares.length - (intOf j).toNat)
      case atStart => exact ⟨0, Nat.zero_le _, rfl, fun k' h => by omega, hB⟩
      case round =>
        obtain ⟨m, hm, rfl, hall2, hB2⟩ := hrel
        by_cases hlt2 : m < shares.length
        · obtain ⟨x, hx⟩ := get_at hlt
          obtain ⟨y, hy⟩ := get_at hlt2
          obtain ⟨a, ha⟩ := get_at (l := had) (k := k) (by have := HL.out; omega)
          obtain ⟨d, hd⟩ := get_at (l := had) (k := m) (by have := HL.out; omega)
          have hxb := HS.out k x hx
          have hyb := HS.out m y hy
          have hab := HV.out k a ha
          have hdb := HV.out m d hd
          have hBw := bl_trans hB1 hB2
          have hcx := cell_mono (HC2.out k x hx) hBw
          have hcy := cell_mono (HC2.out m y hy) hBw
          have hca := cell_mono (HC.out k a ha) hBw
          have hcd := cell_mono (HC.out m d hd) hBw
          obtain ⟨hr, hrl⟩ := HR.out wr hB2
          have hbl1 : b < wr.heap.size := Nat.lt_of_lt_of_le hzl.1 hBw.size
          have hbl2 : b2 < wr.heap.size := Nat.lt_of_lt_of_le hzl.2 hBw.size
          have hkl : k < had.length := by have := HL.out; omega
          have hml : m < had.length := by have := HL.out; omega
          have e1 : IntKind.i64.wrap (x - 1) = x - 1 := IntWalk.i64_in _ (by omega)
          have e2 := mul_in (x := a) (y := 100 * y + part) (by omega) (by omega) (by omega) (by omega)
          have e3 := mul_in (x := d) (y := 100 * (x - 1) + part) (by omega) (by omega) (by omega) (by omega)
          have hval : fairAt had part shares k m = !(decide (0 < x) && decide (m ≠ k) && decide (a * (100 * y + part) < d * (100 * (x - 1) + part))) := by simp [fairAt, List.getD, hx, hy, ha, hd]
          have hst : Hid (fairAt had part shares k m = true → ∀ k', k' < m + 1 → fairAt had part shares k k' = true) := fun h k' hk' => by
            by_cases e : k' = m
            · subst e; exact h
            · exact hall2.out k' (by omega)
          have hbad : Hid (fairAt had part shares k m = false → isFairR had part shares = false) := hF.out k m hlt hlt2
          have HVl := hid hval
          clear hx hy ha hd hall2 hval
          by_cases q1 : 0 < x
          · have d1 : decide (0 < x) = true := by simpa using q1
            by_cases q2 : m = k
            · have hgood := Lib.hid (hst.out (by rw [HVl.out]; simp [q2]))
              have d2 : ((m : Int) != (k : Int)) = false := by simp [q2]
              clear hcy hcd
              subst q2
              go_wp2
              refine wp_region_below (by kernel_rfl) (by kernel_rfl) ?_
              repeat (first | go_big_quiet_step (exact Calls.regrown_of (Hst.out _ _ _ _ (by omega) (by omega))) | quiet_step (exact Calls.regrown_of (Hst.out _ _ _ _ (by omega) (by omega))))
              refine wpQuiet_nil ?_
              intro w5 hb5
              have hB5 := bl_trans hB2 hb5
              go_wp2
              go_roundw
              case rel => exact ⟨m + 1, by omega, by go_num, hgood, hB5⟩
              case measure => simp [intOf]; omega
            · have d2 : ((m : Int) != (k : Int)) = true := by simp; omega
              by_cases q3 : a * (100 * y + part) < d * (100 * (x - 1) + part)
              · have hB := hid (hbad.out (by rw [HVl.out]; simp [q1, q2, q3]))
                have d3 : decide (a * (100 * y + part) < d * (100 * (x - 1) + part)) = true := by simpa using q3
                clear q1 q2 q3
                go_wp2
                refine wp_region_below (by kernel_rfl) (by kernel_rfl) ?_
                repeat (first | go_big_quiet_step (exact Calls.regrown_of (Hst.out _ _ _ _ (by omega) (by omega))) | quiet_step (exact Calls.regrown_of (Hst.out _ _ _ _ (by omega) (by omega))))
                refine wpQuiet_nil ?_
                intro w5 hb5
                have hB5 := bl_trans hB2 hb5
                go_wp2
                go_ret
                exact ⟨by rw [hB.out]; rfl, bl_trans hB1 hB5⟩
              · have hgood := Lib.hid (hst.out (by rw [HVl.out]; simp [q3]))
                have d3 : decide (a * (100 * y + part) < d * (100 * (x - 1) + part)) = false := by simpa using q3
                clear q1 q2 q3
                go_wp2
                refine wp_region_below (by kernel_rfl) (by kernel_rfl) ?_
                repeat (first | go_big_quiet_step (exact Calls.regrown_of (Hst.out _ _ _ _ (by omega) (by omega))) | quiet_step (exact Calls.regrown_of (Hst.out _ _ _ _ (by omega) (by omega))))
                refine wpQuiet_nil ?_
                intro w5 hb5
                have hB5 := bl_trans hB2 hb5
                go_wp2
                go_roundw
                case rel => exact ⟨m + 1, by omega, by go_num, hgood, hB5⟩
                case measure => simp [intOf]; omega
          · have hgood := Lib.hid (hst.out (by rw [HVl.out]; simp [q1]))
            have d1 : decide (0 < x) = false := by simpa using q1
            clear q1
            go_wp2
            refine wp_region_below (by kernel_rfl) (by kernel_rfl) ?_
            repeat (first | go_big_quiet_step (exact Calls.regrown_of (Hst.out _ _ _ _ (by omega) (by omega))) | quiet_step (exact Calls.regrown_of (Hst.out _ _ _ _ (by omega) (by omega))))
            refine wpQuiet_nil ?_
            intro w5 hb5
            have hB5 := bl_trans hB2 hb5
            go_wp2
            go_roundw
            case rel => exact ⟨m + 1, by omega, by go_num, hgood, hB5⟩
            case measure => simp [intOf]; omega
        · obtain rfl : m = shares.length := by omega
          have hnext : Hid (∀ i' k', i' < k + 1 → k' < shares.length → fairAt had part shares i' k' = true) := fun i' k' hi hk' => by
            by_cases e : i' = k
            · subst e; exact hall2.out k' hk'
            · exact hall.out i' k' (by omega) hk'
          clear hall hall2
          go_wp2
          go_roundw
          case rel => exact ⟨k + 1, by omega, by go_num, hnext, hB2⟩
          case measure => simp [intOf]; omega
    · obtain rfl : k = shares.length := by omega
      have h := hid (hT.out fun i k' hi hk' => hall.out i k' hi hk')
      clear hall
      go_wp2
      go_ret
      exact ⟨by rw [h.out]; rfl, bl_trans hB1 hB⟩

def refSharesE (had : List Int) (part prize : Int) (shares : List Int) : Int :=
  if sharedE had part prize shares ≠ 0 then sharedE had part prize shares else if isFairR had part shares = true then 0 else 22

set_option maxHeartbeats 2000000 in
theorem refCheckShares_any (had : List Int) (part prize : Int) (shares : List Int) (s s2 : Value) (w : World) (hl : had.length ≤ 1000) (hl2 : shares.length ≤ 1000) (hs : Ints w s had) (hs2 : Ints w s2 shares) :
    Calls Try.prog 22 #[.agg #[s, .int .i64 part, .int .i64 prize], s2] w fun e w' => e = .returned (.int .i64 (refSharesE had part prize shares)) ∧ Below w.heap.size w w' := by
  obtain ⟨A, c, rfl⟩ := hs.slice
  by_cases h0 : sharedE had part prize shares = 0
  case neg =>
    have hE := hid (show refSharesE had part prize shares = sharedE had part prize shares by unfold refSharesE; rw [if_pos h0])
    have hcp : (sharedE had part prize shares != 0) = true := by simpa using h0
    clear h0
    go_enter Try.func22, Try.ntmps22
    go_wp2_with fail
    refine (refShared_any had part prize shares _ _ _ hl hl2 (hs.mono (bl_alloc (bl_refl _) _)) (hs2.mono (bl_alloc (bl_refl _) _))).mono ?_
    rintro e w1 ⟨rfl, hb1⟩
    obtain ⟨hr1, hrf1⟩ := new_cells hb1
    have hB1 := bl_trans (bl_alloc (bl_refl w) _) hb1
    go_wp2_with fail
    refine (refShared_any had part prize shares _ _ _ hl hl2 (hs.mono hB1) (hs2.mono hB1)).mono ?_
    rintro e w2 ⟨rfl, hb2⟩
    go_wp2
    go_ret
    exact ⟨by rw [hE.out]; rfl, bl_trans hB1 hb2⟩
  have O := sharedE_ok.1 h0
  have hcp := hid h0
  have hE := hid (show refSharesE had part prize shares = if isFairR had part shares = true then 0 else 22 by unfold refSharesE; rw [if_neg (by simpa using h0)])
  have V := O.V
  have hz2 := V.z2
  clear h0
  go_enter Try.func22, Try.ntmps22
  go_wp2_with fail
  refine (refShared_any had part prize shares _ _ _ hl hl2 (hs.mono (bl_alloc (bl_refl _) _)) (hs2.mono (bl_alloc (bl_refl _) _))).mono ?_
  rintro e w1 ⟨rfl, hb1⟩
  rw [hcp.out]
  obtain ⟨hr1, hrf1⟩ := new_cells hb1
  have hB1 := bl_trans (bl_alloc (bl_refl w) _) hb1
  go_wp2_with fail
  refine (isFair_any had part prize shares _ _ _ V O.len (fun x hx => by have := O.rng x hx; omega) (hs.mono hB1) (hs2.mono hB1)).mono ?_
  rintro e w2 ⟨rfl, hb2⟩
  cases hf : isFairR had part shares with
  | true =>
    have hE2 := hid (show refSharesE had part prize shares = 0 by rw [hE.out, if_pos hf])
    clear hf
    go_wp2
    go_ret
    exact ⟨by rw [hE2.out]; rfl, bl_trans hB1 hb2⟩
  | false =>
    have hE2 := hid (show refSharesE had part prize shares = 22 by rw [hE.out, if_neg (by rw [hf]; simp)])
    clear hf
    go_wp2
    go_ret
    exact ⟨by rw [hE2.out]; rfl, bl_trans hB1 hb2⟩

end Go.Proofs.Ytfchcikdcnloaaa
