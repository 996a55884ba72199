/- The references: Count, Span; what the references of Order and Shares return is what the program returns. -/
import Derived.Test.YtfchcikdcnloaaaRefh
import Derived.Test.YtfchcikdcnloaaaRefk
import Derived.Test.YtfchcikdcnloaaaOrdlaw
import Derived.Test.YtfchcikdcnloaaaRefj
namespace Go.Proofs.Ytfchcikdcnloaaa
open Go Go.RowKit Go.Proofs
attribute [local go_sem] cell_grow frozen_grow

theorem shares_law {had : List Int} {part prize : Int} (V : Val had part prize) : cntOf had.length (ordR had part prize.toNat) = (gotEnd had part prize).take had.length := by
  have hv2 := V.l2
  have hz2 := V.z2
  have hlt := ordR_lt part V.l1 prize.toNat
  have hg : gotEnd had part prize = gotOf (ordR had part prize.toNat) := by
    unfold gotEnd; rw [ord_law V prize.toNat (by omega)]
  have hlen : (gotOf (ordR had part prize.toNat)).length = 12 := gotOf_len _
  rw [hg]
  apply List.ext_getElem?
  intro i
  by_cases hi : i < had.length
  · have h := got_cnt had.length hv2 _ hlt i hi
    obtain ⟨x, hx⟩ := get_at (l := gotOf (ordR had part prize.toNat)) (k := i) (by omega)
    obtain ⟨y, hy⟩ := get_at (l := cntOf had.length (ordR had part prize.toNat)) (k := i) (by rw [cntOf_len]; exact hi)
    simp only [List.getD, hx, hy, Option.getD_some] at h
    rw [hy, List.getElem?_take, if_pos hi, hx, h]
  · rw [List.getElem?_eq_none (by rw [cntOf_len]; omega), List.getElem?_eq_none (by simp; omega)]

theorem refShares_any (had : List Int) (part prize : Int) (s : Value) (w : World) (hl : had.length ≤ 1000) (hs : Ints w s had) :
    Calls Try.prog 26 #[.agg #[s, .int .i64 part, .int .i64 prize]] w fun e w' => (∃ v, e = .returned (.tuple #[v, .int .i64 (checkPool had part prize)]) ∧ Ints w' v (sharesE had part prize)) ∧ Below w.heap.size w w' := by
  by_cases h0 : checkPool had part prize = 0
  · have V := checkPool_ok.1 h0
    rw [sharesE, if_pos h0, h0, ← shares_law V]
    exact refShares_ok had part prize s w V (ordR_lt part V.l1 _) hs
  · rw [sharesE, if_neg h0]
    obtain ⟨A, c, rfl⟩ := hs.slice
    have hcp : (checkPool had part prize != 0) = true := by simpa using h0
    have hord := refOrder_any had part prize (.slice A had.length c) (w.alloc (.cells #[.slice A had.length c, .int .i64 part, .int .i64 prize] 24)) hl (hs.mono (bl_alloc (bl_refl _) _))
    clear h0
    go_enter Try.func26, Try.ntmps26
    go_wp2_with fail
    refine hord.mono ?_
    rintro e w1 ⟨⟨v, rfl, _⟩, hb1⟩
    have hB1 := bl_trans (bl_alloc (bl_refl w) _) hb1
    clear hord
    go_wp2
    go_ret2
    exact ⟨⟨_, rfl, .inl ⟨rfl, rfl⟩⟩, hB1⟩

theorem refOrder_all (had : List Int) (part prize : Int) (s : Value) (w : World) (hl : had.length ≤ 1000) (hs : Ints w s had) :
    Calls Try.prog 24 #[.agg #[s, .int .i64 part, .int .i64 prize]] w fun e w' => (∃ v, e = .returned (.tuple #[v, .int .i64 (checkPool had part prize)]) ∧ Ints w' v (orderE had part prize)) ∧ Below w.heap.size w w' := by
  have e : orderE had part prize = if checkPool had part prize = 0 then (ordR had part prize.toNat).map Int.ofNat else [] := by
    unfold orderE
    split
    · rename_i h
      have V := checkPool_ok.1 h
      have := V.z2
      rw [ord_law V prize.toNat (by omega)]
    · rfl
  rw [e]
  exact refOrder_any had part prize s w hl hs

/-- The shares that are given out. -/
theorem shares_facts {had : List Int} {part prize : Int} (V : Val had part prize) : (sharesE had part prize).length = had.length ∧ (∀ x ∈ sharesE had part prize, 0 ≤ x ∧ x ≤ 1000) ∧ ∀ i, i < had.length → (sharesE had part prize).getD i 0 = (gotEnd had part prize).getD i 0 := by
  have G := gotEnd_ok V
  have hv2 := V.l2
  have e : sharesE had part prize = (gotEnd had part prize).take had.length := by rw [sharesE, if_pos (checkPool_ok.2 V)]
  rw [e]
  refine ⟨by simp [G.1]; omega, fun x hx => ?_, fun i hi => by simp [List.getD, hi]⟩
  obtain ⟨i, hi, rfl⟩ := List.mem_iff_getElem.mp (List.mem_of_mem_take hx)
  exact G.2 i _ (by simp [hi])

theorem cntB_succ (f : Nat → Bool) (k : Nat) : cntB f (k + 1) = cntB f k + if f k = true then 1 else 0 := rfl

set_option maxRecDepth 100000 in
set_option maxHeartbeats 8000000 in
theorem refCount_ok (had : List Int) (part prize : Int) (s : Value) (w : World) (V : Val had part prize) (hs : Ints w s had) :
    Calls Try.prog 34 #[.agg #[s, .int .i64 part, .int .i64 prize]] w fun e w' => e = .returned (.tuple #[.int .i64 (refWays (refAll had part (sharesE had part prize) had.length - refHas had part (sharesE had part prize) had.length) (refHas had part (sharesE had part prize) had.length).toNat), .int .i64 0]) ∧ Below w.heap.size w w' := by
  obtain ⟨A, c, rfl⟩ := hs.slice
  have hv1 := V.l1
  have hv2 := V.l2
  have h0 := checkPool_ok.2 V
  obtain ⟨hl, hsh, he⟩ := shares_facts V
  have hsc := refShares_any had part prize (.slice A had.length c) (w.alloc (.cells #[.slice A had.length c, .int .i64 part, .int .i64 prize] 24)) (by omega) (hs.mono (bl_alloc (bl_refl _) _))
  rw [h0] at hsc
  have hmk : Hid (∀ i, i < had.length → (lastAll had part (sharesE had part prize) had.length had.length).getD i 0 = 0 ∨ (lastAll had part (sharesE had part prize) had.length had.length).getD i 0 = 1 ∨ (lastAll had part (sharesE had part prize) had.length had.length).getD i 0 = 2) := fun i hi => (lasts_one V (gotEnd_ok V) (end_fair V) he hi).2.2
  generalize sharesE had part prize = sh at *
  have HL := hid hl
  have HSH := Lib.hid hsh
  clear h0 he hl hsh
  go_enter Try.func34, Try.ntmps34
  go_wp2_with fail
  refine hsc.mono ?_
  rintro e w1 ⟨⟨v, rfl, hI⟩, hb1⟩
  obtain ⟨b2, off2, c2, rfl, _, _, _⟩ := hI.some (by rw [HL.out]; exact hv1)
  have hB1 := bl_trans (bl_alloc (bl_refl w) _) hb1
  have hr1 := (new_cells hb1).1
  have hl1 : w.heap.size < w1.heap.size := by have := hb1.size; simp at this; omega
  clear hsc
  go_wp2_with fail
  refine (refLasts_any had part prize sh _ _ _ V HL.out HSH.out (hs.mono hB1) hI).mono ?_
  rintro e w2 ⟨rfl, hR, hb2⟩
  have hB2 := bl_trans hB1 hb2
  have hRl : w1.heap.size + 1 < w2.heap.size := (Array.getElem?_eq_some_iff.1 hR).1
  have HC : Hid (∀ i, i < had.length → ∃ z : Int, w2.cell? ⟨w1.heap.size + 1, i, none⟩ = some (.int .i64 z) ∧ (lastAll had part sh had.length had.length).getD i 0 = z ∧ (z = 0 ∨ z = 1 ∨ z = 2)) := fun i hi => by
    obtain ⟨z, hz⟩ := get_at (l := lastAll had part sh had.length had.length) (k := i) (by rw [lastAll_len]; exact hi)
    have e : (lastAll had part sh had.length had.length).getD i 0 = z := by simp only [List.getD, hz, Option.getD_some]
    refine ⟨z, hR.cell hz, e, ?_⟩
    rw [← e]
    exact hmk.out i hi
  have HB1 : Hid (∀ k, 0 ≤ refHas had part sh k ∧ refHas had part sh k ≤ k) := fun k => cntB_bd _ k
  have HB2 : Hid (∀ k, 0 ≤ refAll had part sh k ∧ refAll had part sh k ≤ k) := fun k => cntB_bd _ k
  have HS1 : Hid (∀ k, refHas had part sh (k + 1) = refHas had part sh k + if decide ((lastAll had part sh had.length had.length).getD k 0 = 1) = true then 1 else 0) := fun k => cntB_succ _ k
  have HS2 : Hid (∀ k, refAll had part sh (k + 1) = refAll had part sh k + if decide (0 < (lastAll had part sh had.length had.length).getD k 0) = true then 1 else 0) := fun k => cntB_succ _ k
  clear hmk hr1 hR hI hs
  go_wp2
  go_loop [7, 8, 9] (fun a m i => ∃ k : Nat, k ≤ had.length ∧ i = .int .i64 k ∧ a = .int .i64 (refHas had part sh k) ∧ m = .int .i64 (refAll had part sh k)) (fun _ _ i => had.length - (intOf i).toNat)
  case atStart => exact ⟨0, Nat.zero_le _, rfl, rfl, rfl⟩
  case round =>
    obtain ⟨k, hk, rfl, rfl, rfl⟩ := hrel
    have hb1 := HB1.out k
    have hb2 := HB2.out k
    by_cases hlt : k < had.length
    · obtain ⟨z, hcz, hz, hz3⟩ := HC.out k hlt
      have hs1 := HS1.out k
      have hs2 := HS2.out k
      rw [hz] at hs1 hs2
      clear hz
      generalize refHas had part sh k = a at *
      generalize refAll had part sh k = m at *
      rcases hz3 with rfl | rfl | rfl
      · have h1 := hid (show refHas had part sh (k + 1) = a by rw [hs1]; simp)
        have h2 := hid (show refAll had part sh (k + 1) = m by rw [hs2]; simp)
        clear hs1 hs2
        go_wp2
        go_round
        case rel => exact ⟨k + 1, by omega, by go_num, by rw [h1.out], by rw [h2.out]⟩
        case measure => simp [intOf]; omega
      · have h1 := hid (show refHas had part sh (k + 1) = a + 1 by rw [hs1]; simp)
        have h2 := hid (show refAll had part sh (k + 1) = m + 1 by rw [hs2]; simp)
        clear hs1 hs2
        go_wp2
        go_round
        case rel => exact ⟨k + 1, by omega, by go_num, by rw [h1.out], by rw [h2.out]⟩
        case measure => simp [intOf]; omega
      · have h1 := hid (show refHas had part sh (k + 1) = a by rw [hs1]; simp)
        have h2 := hid (show refAll had part sh (k + 1) = m + 1 by rw [hs2]; simp)
        clear hs1 hs2
        go_wp2
        go_round
        case rel => exact ⟨k + 1, by omega, by go_num, by rw [h1.out], by rw [h2.out]⟩
        case measure => simp [intOf]; omega
    · obtain rfl : k = had.length := by omega
      generalize hga : refHas had part sh had.length = a at *
      generalize hgm : refAll had part sh had.length = m at *
      have HGA := hid hga
      have HGM := hid hgm
      clear hga hgm HB1 HB2 HS1 HS2 HC
      go_wp2
      go_loop [10, 11] (fun v j => ∃ q : Nat, (q : Int) ≤ a ∧ j = .int .i64 (q + 1) ∧ v = .int .i64 (refWays (m - a) q)) (fun _ j => a.toNat + 1 - (intOf j).toNat)
      case atStart => exact ⟨0, by omega, rfl, rfl⟩
      case round =>
        obtain ⟨q, hq, rfl, rfl⟩ := hrel
        by_cases hlt2 : (q : Int) + 1 ≤ a
        · have hq0 : ((q : Int) + 1 == 0) = false := by simp; omega
          have hst := hid (show refWays (m - a) (q + 1) = wrap64 ((wrap64 (refWays (m - a) q * (m - a + (q + 1)))).tdiv (q + 1)) from rfl)
          generalize refWays (m - a) q = wk at *
          go_wp2
          go_round
          case rel => exact ⟨q + 1, by omega, by go_num, by rw [hst.out]⟩
          case measure => simp [intOf]; omega
        · obtain rfl : a = q := by omega
          go_wp2
          go_ret2
          refine ⟨?_, hB2⟩
          rw [HGA.out, HGM.out, Int.toNat_natCast]
          rfl

theorem refCount_any (had : List Int) (part prize : Int) (s : Value) (w : World) (hl : had.length ≤ 1000) (hs : Ints w s had) :
    Calls Try.prog 34 #[.agg #[s, .int .i64 part, .int .i64 prize]] w fun e w' => e = .returned (.tuple #[.int .i64 (countE had part prize), .int .i64 (checkPool had part prize)]) ∧ Below w.heap.size w w' := by
  by_cases h0 : checkPool had part prize = 0
  · have V := checkPool_ok.1 h0
    rw [countE, if_pos h0, h0, count_law V (shares_facts V).2.2]
    exact refCount_ok had part prize s w V hs
  · rw [countE, if_neg h0]
    obtain ⟨A, c, rfl⟩ := hs.slice
    have hcp : (checkPool had part prize != 0) = true := by simpa using h0
    have hord := refShares_any had part prize (.slice A had.length c) (w.alloc (.cells #[.slice A had.length c, .int .i64 part, .int .i64 prize] 24)) hl (hs.mono (bl_alloc (bl_refl _) _))
    clear h0
    go_enter Try.func34, Try.ntmps34
    go_wp2_with fail
    refine hord.mono ?_
    rintro e w1 ⟨⟨v, rfl, _⟩, hb1⟩
    have hB1 := bl_trans (bl_alloc (bl_refl w) _) hb1
    clear hord
    go_wp2
    go_ret2
    exact ⟨rfl, hB1⟩

end Go.Proofs.Ytfchcikdcnloaaa
