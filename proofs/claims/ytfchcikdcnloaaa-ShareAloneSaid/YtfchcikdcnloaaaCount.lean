/- share's Count. -/
import Derived.Test.YtfchcikdcnloaaaSpan
namespace Go.Proofs.Ytfchcikdcnloaaa
open Go Go.RowKit Go.Proofs
attribute [local go_sem] cell_grow frozen_grow

def hasN (had : List Int) (part prize : Int) : Int := ((runSt had part (ordN had part prize.toNat)).map (·.2)).getD 0
/-- Of the first k owners those that would get the next log. -/
def nextN (had : List Int) (part prize : Int) : Nat → Int
  | 0 => 0
  | k + 1 => nextN had part prize k + (if 0 < prize ∧ nextQ had part (gotEnd had part prize) k = leastQ had part (gotEnd had part prize) then 1 else 0)
def allN (had : List Int) (part prize : Int) : Int := hasN had part prize + nextN had part prize had.length
def waysW (all : Int) : Nat → Int
  | 0 => 1
  | k + 1 => wrap64 ((wrap64 (waysW all k * (all - k))).tdiv (k + 1))
theorem nextN_le (had : List Int) (part prize : Int) (k : Nat) : 0 ≤ nextN had part prize k ∧ nextN had part prize k ≤ k := by
  induction k with
  | zero => simp [nextN]
  | succ k ih =>
    unfold nextN
    split <;> omega
theorem hasN_le {had : List Int} {part prize : Int} (h : 0 ≤ prize) : 0 ≤ hasN had part prize ∧ hasN had part prize ≤ prize := by
  unfold hasN
  cases e : runSt had part (ordN had part prize.toNat) with
  | none => simpa using h
  | some p =>
    obtain ⟨q, n⟩ := p
    have := runSt_le e
    rw [ordN_len] at this
    simp only [Option.map_some, Option.getD_some]
    omega

set_option maxRecDepth 100000 in
set_option maxHeartbeats 2000000 in
theorem count_good (had : List Int) (part prize : Int) (s : Value) (w : World) (V : Val had part prize) (hs : Ints w s had) :
    Calls Try.prog 33 #[.agg #[s, .int .i64 part, .int .i64 prize]] w fun e w' => e = .returned (.tuple #[.int .i64 (waysW (allN had part prize) (hasN had part prize).toNat), .int .i64 0]) ∧ Below w.heap.size w w' := by
  have hv2 := V.l2
  have hz1 := V.z1
  have hz2 := V.z2
  obtain ⟨A, c, rfl⟩ := hs.slice
  go_enter Try.func33, Try.ntmps33
  go_wp2_with fail
  refine (open_ok had part prize _ _ V (hs.mono (bl_alloc (bl_refl _) _))).mono ?_
  rintro e w1 ⟨⟨g, b', off', c', rfl, hg, T⟩, hb1⟩
  have hB1 := bl_trans (bl_alloc (bl_refl w) _) hb1
  obtain ⟨hr1, hrf1⟩ := new_cells (w := w) hb1
  simp only [World.size_alloc] at hg
  have hgl := T.glt
  go_wp2_with fail
  refine (all_any T V).mono ?_
  rintro e w2 ⟨rfl, T2, hO⟩
  have hB2 := hO.since hB1 (by omega)
  have hk0 := hO.block w.heap.size (by omega) (by omega)
  have hr2 := fun i => (World.cell?_of_block hk0).trans (hr1 i)
  have G := gotEnd_ok V
  have hH := hasN_le (had := had) (part := part) hz1
  have hN := nextN_le had part prize
  change TabIs w2 g b' off' c' had part prize (gotEnd had part prize) at T2
  have hres := hid (show hasN had part prize = ((runSt had part (ordN had part prize.toNat)).map (·.2)).getD 0 from rfl)
  rw [← hres.out]
  generalize hhas : hasN had part prize = has at hH
  have HAS := hid hhas
  have HN := Lib.hid hN
  have hpl : w.heap.size < w2.heap.size := by have := T2.glt; omega
  have hr2' : w2.cell? ⟨w.heap.size, 0, none⟩ = some (.slice A had.length c) := hr2 0
  clear hhas hres hO hk0 hr1 hrf1 T hN hgl
  go_wp2
  go_loopw [7, 25] (fun a j wr => ∃ k : Nat, k ≤ had.length ∧ j = .int .i64 k ∧ a = .int .i64 (has + nextN had part prize k) ∧ Below w2.heap.size w2 wr) (fun _ j _ => had.length - (intOf j).toNat)
  case atStart => exact ⟨0, Nat.zero_le _, rfl, by simp [nextN], bl_refl _⟩
  case round =>
    obtain ⟨k, hk, rfl, rfl, hb⟩ := hrel
    have T3 := T2.mono hb
    have hr3 : ∀ i, wr.cell? ⟨w.heap.size, i, none⟩ = #[Value.slice A had.length c, .int .i64 part, .int .i64 prize][i]? := fun i => (hb.cell (p := ⟨w.heap.size, i, none⟩) hpl).trans (hr2 i)
    have hr32 : wr.cell? ⟨w.heap.size, 2, none⟩ = some (.int .i64 prize) := hr3 2
    have hnk := HN.out k
    clear hr3
    by_cases hlt : k < had.length
    · by_cases hp : 0 < prize
      · have hp' : decide (0 < prize) = true := by simpa using hp
        go_wp2_with fail
        refine (next_any T3 V G k hlt).mono ?_
        rintro e w4 ⟨rfl, hb4⟩
        have T4 := T3.mono hb4
        go_wp2_with fail
        refine (least_any T4 V G).mono ?_
        rintro e w5 ⟨rfl, hb5⟩
        have hB5 := bl_trans hb (bl_trans hb4 hb5)
        by_cases h1 : nextQ had part (gotEnd had part prize) k = leastQ had part (gotEnd had part prize)
        · have heq := eql86_run (nextQ had part (gotEnd had part prize) k) (leastQ had part (gotEnd had part prize)) true (by simpa using h1)
          have hst := hid (show nextN had part prize (k + 1) = nextN had part prize k + 1 by rw [nextN, if_pos ⟨hp, h1⟩])
          clear h1
          unfold encQ
          go_wp2
          go_roundw
          case rel => exact ⟨k + 1, by omega, by go_num, by rw [hst.out, Int.add_assoc], hB5⟩
          case measure => simp [intOf]; omega
        · have heq := eql86_run (nextQ had part (gotEnd had part prize) k) (leastQ had part (gotEnd had part prize)) false (by simpa using h1)
          have hst := hid (show nextN had part prize (k + 1) = nextN had part prize k by rw [nextN, if_neg (fun h => h1 h.2)]; omega)
          clear h1
          unfold encQ
          go_wp2
          go_roundw
          case rel => exact ⟨k + 1, by omega, by go_num, by rw [hst.out], hB5⟩
          case measure => simp [intOf]; omega
      · have hp' : decide (0 < prize) = false := by simpa using hp
        have hst := hid (show nextN had part prize (k + 1) = nextN had part prize k by rw [nextN, if_neg (fun h => hp h.1)]; omega)
        go_wp2
        go_roundw
        case rel => exact ⟨k + 1, by omega, by go_num, by rw [hst.out], hb⟩
        case measure => simp [intOf]; omega
    · obtain rfl : k = had.length := by omega
      have hall := hid (show allN had part prize = has + nextN had part prize had.length by rw [allN, HAS.out])
      generalize hall0 : has + nextN had part prize had.length = all at *
      have hab : 0 ≤ all ∧ all ≤ 1012 := by omega
      have HALL := hid hall.out
      clear hall hall0 hnk T3 hr32 hr2 hr2' T2 HN
      go_wp2
      go_loop [9, 43] (fun v j => ∃ k : Nat, (k : Int) ≤ has ∧ j = .int .i64 k ∧ v = .int .i64 (waysW all k)) (fun _ j => has.toNat - (intOf j).toNat)
      case atStart => exact ⟨0, hH.1, rfl, rfl⟩
      case round =>
        obtain ⟨k, hk, rfl, rfl⟩ := hrel
        by_cases hlt : (k : Int) < has
        · have hk0 : ((k : Int) + 1 == 0) = false := by simp; omega
          have hst := hid (show waysW all (k + 1) = wrap64 ((wrap64 (waysW all k * (all - k))).tdiv (k + 1)) from rfl)
          generalize waysW all k = wk at *
          go_wp2
          go_round
          case rel => exact ⟨k + 1, by omega, by go_num, by rw [hst.out]⟩
          case measure => simp [intOf]; omega
        · obtain rfl : has = k := by omega
          go_wp2
          go_ret2
          refine ⟨?_, bl_trans hB2 hb⟩
          rw [HALL.out, HAS.out, Int.toNat_natCast]
          rfl

def countE (had : List Int) (part prize : Int) : Int := if checkPool had part prize = 0 then waysW (allN had part prize) (hasN had part prize).toNat else 0

theorem count_any (had : List Int) (part prize : Int) (s : Value) (w : World) (hl : had.length ≤ 1000) (hs : Ints w s had) :
    Calls Try.prog 33 #[.agg #[s, .int .i64 part, .int .i64 prize]] w fun e w' => e = .returned (.tuple #[.int .i64 (countE had part prize), .int .i64 (checkPool had part prize)]) ∧ Below w.heap.size w w' := by
  by_cases h : checkPool had part prize = 0
  · have V := checkPool_ok.mp h
    rw [countE, if_pos h, h]
    exact count_good had part prize s w V hs
  · rw [countE, if_neg h]
    obtain ⟨A, c, rfl⟩ := hs.slice
    have hcp : (checkPool had part prize != 0) = true := by simpa using h
    go_enter Try.func33, Try.ntmps33
    go_wp2_with fail
    refine (open_err had part prize _ _ hl h (hs.mono (bl_alloc (bl_refl _) _))).mono ?_
    rintro e w1 ⟨rfl, hb1⟩
    clear h
    have hB1 := bl_trans (bl_alloc (bl_refl _) _) hb1
    go_wp2
    go_ret2
    exact ⟨rfl, hB1⟩

def sharesE (had : List Int) (part prize : Int) : List Int := if checkPool had part prize = 0 then (gotEnd had part prize).take had.length else []
theorem shares_any (had : List Int) (part prize : Int) (s : Value) (w : World) (hl : had.length ≤ 1000) (hs : Ints w s had) :
    Calls Try.prog 25 #[.agg #[s, .int .i64 part, .int .i64 prize]] w fun e w' => (∃ v, e = .returned (.tuple #[v, .int .i64 (checkPool had part prize)]) ∧ Ints w' v (sharesE had part prize)) ∧ Below w.heap.size w w' := by
  by_cases h : checkPool had part prize = 0
  · have V := checkPool_ok.mp h
    rw [sharesE, if_pos h, h]
    exact shares_ok had part prize s w V hs
  · rw [sharesE, if_neg h]
    refine (shares_err had part prize s w hl h hs).mono ?_
    rintro e w1 ⟨rfl, hb1⟩
    exact ⟨⟨_, rfl, .inl ⟨rfl, rfl⟩⟩, hb1⟩
def orderE (had : List Int) (part prize : Int) : List Int := if checkPool had part prize = 0 then (ordN had part prize.toNat).map Int.ofNat else []
theorem order_any (had : List Int) (part prize : Int) (s : Value) (w : World) (hl : had.length ≤ 1000) (hs : Ints w s had) :
    Calls Try.prog 23 #[.agg #[s, .int .i64 part, .int .i64 prize]] w fun e w' => (∃ v, e = .returned (.tuple #[v, .int .i64 (checkPool had part prize)]) ∧ Ints w' v (orderE had part prize)) ∧ Below w.heap.size w w' := by
  by_cases h : checkPool had part prize = 0
  · have V := checkPool_ok.mp h
    rw [orderE, if_pos h, h]
    exact order_ok had part prize s w V hs
  · rw [orderE, if_neg h]
    refine (order_err had part prize s w hl h hs).mono ?_
    rintro e w1 ⟨rfl, hb1⟩
    exact ⟨⟨_, rfl, .inl ⟨rfl, rfl⟩⟩, hb1⟩

end Go.Proofs.Ytfchcikdcnloaaa
