/- ShareAll: the walk through the law. -/
import Derived.Test.YtfchcikdcnloaaaLawo
namespace Go.Proofs.Ytfchcikdcnloaaa
open Go Go.RowKit Go.Proofs
attribute [local go_sem] cell_grow frozen_grow

theorem wpQuiet_app {P : Program} {ops : Array Oper} {C : World → Prop} {L : Act → Prop} (l1 l2 : List Oper) : wpQuiet P ops C L (l1.append l2) = wpQuiet P ops C (wpQuiet P ops C L l2) l1 := by
  induction l1 with
  | nil => rfl
  | cons o l ih =>
    funext a
    show (if Region.wanted o (yielded ops a.tmps) then o.quiet P a C (wpQuiet P ops C L (l.append l2)) else wpQuiet P ops C L (l.append l2) (a.put o.dst undef)) = _
    rw [ih]
    rfl

theorem one_box (w : World) (x : Array Value) (t : TypeId) : (w.alloc (.cells x t)).heap[w.heap.size]? = some (.cells x t (0, 0)) ∧ Below w.heap.size w (w.alloc (.cells x t)) := ⟨World.alloc_heap_new _ _, bl_alloc (bl_refl _) _⟩

theorem span_bounds {had : List Int} {part prize : Int} (V : Val had part prize) {i : Nat} (hi : i < had.length) : 0 ≤ spanLo had part prize i ∧ spanHi had part prize i ≤ prize ∧ spanLo had part prize i ≤ (sharesE had part prize).getD i 0 ∧ (sharesE had part prize).getD i 0 ≤ spanHi had part prize i ∧ spanHi had part prize i ≤ spanLo had part prize i + 1 := by
  obtain ⟨e1, e2⟩ := span_mark V hi
  have n := own_nonneg V i
  have O := own_ok V
  obtain ⟨x, hx⟩ := get_at (l := sharesE had part prize) (k := i) (by rw [O.len]; exact hi)
  have hr := O.rng x (List.mem_of_getElem? hx)
  have gx : (sharesE had part prize).getD i 0 = x := by simp only [List.getD, hx, Option.getD_some]
  rw [gx] at e1 e2 n ⊢
  rcases mark_three V hi with h | h | h
  · rw [e1, e2, h]; simp; omega
  · obtain ⟨k, hk, hc⟩ := mark_one V hi h
    have := (cond_parts.1 hc).2.1
    rw [gx] at this
    rw [e1, e2, h]; simp; omega
  · obtain ⟨k, hk, hc⟩ := mark_two V hi h
    have hm := (refShares_ok'.1 (moved_ok V hi hk hc)).1
    have hat := moved_at (sh := sharesE had part prize) (i := i) (k := k) (fun h => (cond_parts.1 hc).1 h.symm) (by rw [O.len]; exact hi) (by rw [O.len]; exact hk) i
    rw [if_neg (cond_parts.1 hc).1, if_pos rfl, gx] at hat
    obtain ⟨y, hy⟩ := get_at (l := moved (sharesE had part prize) i k) (k := i) (by rw [hm.len]; exact hi)
    have hry := hm.rng y (List.mem_of_getElem? hy)
    have gy : (moved (sharesE had part prize) i k).getD i 0 = y := by simp only [List.getD, hy, Option.getD_some]
    rw [gy] at hat
    rw [e1, e2, h]; simp; omega

set_option maxRecDepth 100000 in
set_option maxHeartbeats 16000000 in
theorem shareAll_out (had : List Int) (part prize : Int) (xs : List Int) (ow : Int) (s s2 : Value) (w : World) (hs : Ints w s had) (hs2 : Ints w s2 xs) (_how : 0 ≤ ow ∧ ow < 256) (hout : ¬ checkPool had part prize = 0 ∨ 20 < xs.length) :
    Calls Try.prog 8 #[.agg #[s, .int .i64 part, .int .i64 prize], s2, .int .u8 ow] w fun e w' => e = .returned (.bool true) ∧ Below w.heap.size w w' := by
  obtain ⟨A, c, rfl⟩ := hs.slice
  obtain ⟨A2, c2, rfl⟩ := hs2.slice
  by_cases h0 : checkPool had part prize = 0
  case neg =>
    have HD := hid (decide_eq_false h0)
    clear h0 hout
    go_enter Try.func8, Try.ntmps8
    go_wp2_with fail
    refine (fine_any had part prize _ _ (hs.mono (bl_alloc (bl_refl _) _))).mono ?_
    rintro e w1 ⟨rfl, hb1⟩
    rw [HD.out]
    have k1 := heap_new hb1
    have hr1 := fun i => cell_of_heap (i := i) k1
    have hB1 := bl_trans (bl_alloc (bl_refl w) _) hb1
    have hl1 : w.heap.size < w1.heap.size := (Array.getElem?_eq_some_iff.1 k1).1
    clear k1
    go_wp2_with fail
    refine (works_any _).mono ?_
    rintro e wz ⟨rfl, hbz⟩
    go_wp2
    go_ret
    exact ⟨rfl, bl_trans hB1 hbz⟩
  have HD := hid (decide_eq_true h0)
  have d1 : decide ((20 : Int) < (xs.length : Int)) = true := by
    rcases hout with h | h
    · exact absurd h0 h
    · simp; omega
  clear h0 hout
  go_enter Try.func8, Try.ntmps8
  go_wp2_with fail
  refine (fine_any had part prize _ _ (hs.mono (bl_alloc (bl_refl _) _))).mono ?_
  rintro e w1 ⟨rfl, hb1⟩
  rw [HD.out]
  have k1 := heap_new hb1
  have hr1 := fun i => cell_of_heap (i := i) k1
  have hB1 := bl_trans (bl_alloc (bl_refl w) _) hb1
  have hl1 : w.heap.size < w1.heap.size := (Array.getElem?_eq_some_iff.1 k1).1
  clear k1
  go_wp2_with fail
  refine (works_any _).mono ?_
  rintro e wz ⟨rfl, hbz⟩
  go_wp2
  go_ret
  exact ⟨rfl, bl_trans hB1 hbz⟩

set_option maxRecDepth 100000 in
set_option maxHeartbeats 16000000 in
theorem shareAll_own (had : List Int) (part prize : Int) (xs : List Int) (ow : Int) (s s2 : Value) (w : World) (hs : Ints w s had) (hs2 : Ints w s2 xs) (how : 0 ≤ ow ∧ ow < 256) (h0 : checkPool had part prize = 0) (h1 : xs.length ≤ 20) (hf : ¬ refSharesE had part prize xs = 0) :
    Calls Try.prog 8 #[.agg #[s, .int .i64 part, .int .i64 prize], s2, .int .u8 ow] w fun e w' => e = .returned (.bool true) ∧ Below w.heap.size w w' := by
  have V := checkPool_ok.1 h0
  have HD := hid (decide_eq_true h0)
  have H0 := hid h0
  have hv1 := V.l1
  have hv2 := V.l2
  have hz1 := V.z1
  have hz2 := V.z2
  clear h0
  obtain ⟨b, off, c, rfl, hlc, hb, hcell⟩ := hs.some hv1
  obtain ⟨A2, c2, rfl⟩ := hs2.slice
  have d1 : decide ((20 : Int) < (xs.length : Int)) = false := by simp; omega
  obtain ⟨hsl, hsb, _⟩ := shares_facts V
  have HR1 : Hid (∀ W, Ints W (.slice (some ⟨b, off, none⟩) had.length c) had → Calls Try.prog 40 #[.agg #[.slice (some ⟨b, off, none⟩) had.length c, .int .i64 part, .int .i64 prize]] W fun e w' => (∃ v, e = .returned (.tuple #[v, .bool true]) ∧ Ints w' v (sharesE had part prize)) ∧ Below W.heap.size W w') := fun W hW => right_any had part prize _ W V hW
  have H33 : Hid (∀ W, Below w.heap.size w W → Calls Try.prog 33 #[.agg #[.slice (some ⟨b, off, none⟩) had.length c, .int .i64 part, .int .i64 prize]] W fun e w' => e = .returned (.tuple #[.int .i64 (countE had part prize), .int .i64 0]) ∧ Below W.heap.size W w') := fun W hW => by
    have := count_any had part prize _ W (by omega) (hs.mono hW)
    rwa [H0.out] at this
  have H21 : Hid (∀ W, Below w.heap.size w W → Calls Try.prog 21 #[.agg #[.slice (some ⟨b, off, none⟩) had.length c, .int .i64 part, .int .i64 prize], .slice A2 xs.length c2] W fun e w' => e = .returned (.int .i64 (refSharesE had part prize xs)) ∧ Below W.heap.size W w') := fun W hW => by
    have := checkShares_any had part prize xs (.slice (some ⟨b, off, none⟩) had.length c) (.slice A2 xs.length c2) W (by omega) (by omega) (hs.mono hW) (hs2.mono hW)
    rwa [checkShares_law] at this
  have HSP : Hid (∀ W (k : Nat), k < had.length → Below w.heap.size w W → Calls Try.prog 35 #[.agg #[.slice (some ⟨b, off, none⟩) had.length c, .int .i64 part, .int .i64 prize], .int .i64 k] W fun e w' => e = .returned (.tuple #[.agg #[.int .i64 (spanLo had part prize k), .int .i64 (spanHi had part prize k)], .int .i64 0]) ∧ Below W.heap.size W w') := fun W k hk hW => by
    have := span_any had part prize k _ W (by omega) (hs.mono hW)
    rw [ownedE_ok.2 ⟨V, by omega, by omega⟩, spanR, if_pos (ownedE_ok.2 ⟨V, by omega, by omega⟩), Int.toNat_natCast] at this
    exact this
  have HRE : Hid (∀ W v, Ints W (.slice (some ⟨b, off, none⟩) had.length c) had → Ints W v (sharesE had part prize) → Calls Try.prog 45 #[.agg #[.slice (some ⟨b, off, none⟩) had.length c, .int .i64 part, .int .i64 prize], v, .int .i64 (ow % (had.length : Int))] W fun e w' => e = .returned (.bool true) ∧ Below W.heap.size W w') := fun W v hW hv => by
    obtain ⟨r1, r2⟩ := rem_nat how.1 (show 1 ≤ (had.length : Int) by omega)
    obtain ⟨i, hi, hil⟩ : ∃ i : Nat, ow % (had.length : Int) = (i : Int) ∧ i < had.length := by
      have key : ∀ r : Int, 0 ≤ r → r < (had.length : Int) → ∃ i : Nat, r = (i : Int) ∧ i < had.length := fun r a b => ⟨r.toNat, by omega, by omega⟩
      exact key _ r1 r2
    rw [hi]
    exact reached_any had part prize i _ v W V hil hW hv
  have hn0 : ((had.length : Int) == 0) = false := beq_eq_false_iff_ne.2 (by omega)
  have HB : Hid (∀ k, k < had.length → ∃ x : Int, (sharesE had part prize)[k]? = some x ∧ 0 ≤ spanLo had part prize k ∧ spanHi had part prize k ≤ prize ∧ spanLo had part prize k ≤ x ∧ x ≤ spanHi had part prize k ∧ spanHi had part prize k ≤ spanLo had part prize k + 1) := fun k hk => by
    obtain ⟨x, hx⟩ := get_at (l := sharesE had part prize) (k := k) (by omega)
    have gx : (sharesE had part prize).getD k 0 = x := by simp only [List.getD, hx, Option.getD_some]
    have sb := span_bounds V hk
    rw [gx] at sb
    exact ⟨x, hx, sb.1, sb.2.1, sb.2.2.1, sb.2.2.2.1, sb.2.2.2.2⟩
  obtain ⟨c1, c2', c3, c4, c5, c6, c7, c8⟩ := ways_facts V
  obtain ⟨sw1, sw2⟩ := spanW_all V had.length (Nat.le_refl _)
  rw [own_sumN V] at sw2
  have SW : Hid (∀ k, spanW had part prize (k + 1) = spanW had part prize k + (spanHi had part prize k - spanLo had part prize k) ∧ spanL had part prize (k + 1) = spanL had part prize k + spanLo had part prize k) := fun k => ⟨rfl, rfl⟩
  have SB : Hid (∀ k, k ≤ had.length → 0 ≤ spanW had part prize k ∧ spanW had part prize k ≤ k ∧ 0 ≤ spanL had part prize k ∧ spanL had part prize k ≤ 1000 * k) := fun k hk => by
    induction k with
    | zero => simp [spanW, spanL, sumN]
    | succ k ih =>
      have h := ih (by omega)
      have sb := span_bounds V (i := k) (by omega)
      have e := SW.out k
      rw [e.1, e.2]
      omega
  have CW1 := hid sw1
  have CW2 := hid sw2
  generalize refHas had part (sharesE had part prize) had.length = hs' at *
  generalize refAll had part (sharesE had part prize) had.length = al at *
  have C8 := hid c8
  have dn1 : decide (countE had part prize < 1) = false := by simp; omega
  have dn2 : decide (1000 < countE had part prize) = false := by simp; omega
  have de : (countE had part prize == 1) = (al == 0) := by
    rw [Bool.eq_iff_iff]; simp [c7]
  have dw : (al == 1) = false := by simpa using c6
  have dl : decide (hs' < 0) = false := by simp; omega
  have dg : decide (al < hs') = false := by simp; omega
  have DE := hid de
  generalize countE had part prize = n at *
  have HC := Lib.hid hcell
  have HSL := hid hsl
  have hne : (refSharesE had part prize xs == 0) = false := by simpa using hf
  generalize sharesE had part prize = sa at *
  clear V hsl hsb hcell hf c7 c8 sw1 sw2 de c6 
  go_enter Try.func8, Try.ntmps8
  go_wp2_with fail
  refine (fine_any had part prize _ _ (hs.mono (bl_alloc (bl_refl _) _))).mono ?_
  rintro e w1 ⟨rfl, hb1⟩
  rw [HD.out]
  have k1 := heap_new hb1
  have hr1 := fun i => cell_of_heap (i := i) k1
  have hB1 := bl_trans (bl_alloc (bl_refl w) _) hb1
  have hl1 : w.heap.size < w1.heap.size := (Array.getElem?_eq_some_iff.1 k1).1
  have K1 := hid k1
  have HP : Hid (∀ W, Below w1.heap.size w1 W → (∀ i, W.cell? ⟨w.heap.size, i, none⟩ = #[Value.slice (some ⟨b, off, none⟩) had.length c, .int .i64 part, .int .i64 prize][i]?) ∧ w.heap.size < W.heap.size) := fun W hW =>
    ⟨fun i => cell_of_heap (heap_mono K1.out hW), (Array.getElem?_eq_some_iff.1 (heap_mono K1.out hW)).1⟩
  clear k1
  go_wp2_with fail
  refine (HR1.out w1 (hs.mono hB1)).mono ?_
  rintro e w2 ⟨⟨v2, rfl, hI2⟩, hb2⟩
  obtain ⟨hp2, hpl2⟩ := HP.out w2 hb2
  have hB2 := bl_trans hB1 hb2
  clear hr1
  go_wp2_with fail
  refine (H33.out w2 hB2).mono ?_
  rintro e w3 ⟨rfl, hb3⟩
  have hb13 := bl_trans hb2 hb3
  obtain ⟨hp3, hpl3⟩ := HP.out w3 hb13
  have hB3 := bl_trans hB2 hb3
  have hI3 := hI2.mono hb3
  clear hp2 hpl2 hI2
  go_wp2_with fail
  refine (H21.out w3 hB3).mono ?_
  rintro e w4 ⟨rfl, hb4⟩
  have hb14 := bl_trans hb13 hb4
  obtain ⟨hp4, hpl4⟩ := HP.out w4 hb14
  have hB4 := bl_trans hB3 hb4
  have hI4 := hI3.mono hb4
  clear hp3 hpl3 hI3
  obtain ⟨b7, o7, c7, rfl, hlc7, hbl7, hcell7⟩ := hI4.some (by rw [HSL.out]; exact hv1)
  rw [HSL.out]
  have HC7 := Lib.hid hcell7
  have HI7 := Lib.hid hI4
  have hp42 : w4.cell? ⟨w.heap.size, 2, none⟩ = some (.int .i64 prize) := hp4 2
  clear hcell7 hI4
  go_upto_region 10 with (fail)
  go_quiet (fail)
  have hBq := bl_drewN (bl_refl w4) nq
  obtain ⟨wq, hwq⟩ : ∃ wq, w4.drewN nq = wq := ⟨_, rfl⟩
  rw [hwq] at hBq ⊢
  clear hwq hp4 hp42
  go_wp2
  go_loopw [12, 13, 14] (fun a l q wr => ∃ k : Nat, k ≤ had.length ∧ q = .int .i64 k ∧ a = .int .i64 (spanW had part prize k) ∧ l = .int .i64 (prize - spanL had part prize k) ∧ Below w4.heap.size w4 wr) (fun _ _ q _ => had.length - (intOf q).toNat)
  case atStart => exact ⟨0, Nat.zero_le _, rfl, rfl, by simp [spanL, sumN], hBq⟩
  case round =>
    obtain ⟨k, hk, rfl, rfl, rfl, hBr⟩ := hrel
    have hb1r := bl_trans hb14 hBr
    have hBw := bl_trans hB4 hBr
    obtain ⟨hp, hpl⟩ := HP.out wr hb1r
    have sb := SB.out k hk
    by_cases hlt : k < had.length
    · obtain ⟨x, hx, f1, f2, f3, f4, f5⟩ := HB.out k hlt
      obtain ⟨e1, e2⟩ := SW.out k
      have E1 := hid e1
      have E2 := hid e2
      have hcall := HSP.out wr k hlt hBw
      have hcx := cell_mono (HC7.out k x hx) hBr
      generalize spanW had part prize k = a at *
      generalize spanL had part prize k = l at *
      generalize spanLo had part prize k = ol at *
      generalize spanHi had part prize k = oh at *
      clear e1 e2 hx 
      go_wp2_with fail
      refine hcall.mono ?_
      rintro e w6 ⟨rfl, hb6⟩
      obtain ⟨m15, hb7⟩ := one_box w6 #[.int .i64 ol, .int .i64 oh] 47
      have hbr7 := bl_trans hb6 hb7
      have hBr7 := bl_trans hBr hbr7
      go_upto_region 15 with (fail)
      obtain ⟨w7, hw7⟩ : ∃ w7, w6.alloc (.cells #[.int .i64 ol, .int .i64 oh] 47) = w7 := ⟨_, rfl⟩
      rw [hw7] at m15 hb7 hbr7 hBr7 ⊢
      obtain ⟨hp7, hpl7⟩ := HP.out w7 (bl_trans hb14 hBr7)
      have hp72 : w7.cell? ⟨w.heap.size, 2, none⟩ = some (.int .i64 prize) := hp7 2
      have hcx7 := cell_mono hcx hbr7
      have hbx7 : b7 < w7.heap.size := Nat.lt_of_lt_of_le (Nat.lt_of_lt_of_le hbl7 hBr.size) hbr7.size


      have hl15 : w6.heap.size < w7.heap.size := (Array.getElem?_eq_some_iff.1 m15).1
      have hc15 := fun i => cell_of_heap (i := i) m15
      have M15 := hid m15
      have SB' := hid sb
      clear hw7 hcall hp hcx  HB SB SW CW1 CW2 HSP H21 H33 HR1 HRE C8 DE HP HC HI7 HC7 K1 H0 HD hb1r hBr hb6 hb7 hbr7 sb hBq m15 dn1 dn2 dw dl dg c1 c2' c3 c4 c5 hn0 d1
      have g1 : decide (ol < 0) = false := by simp; omega
      have g5 : decide (x < ol) = false := by simp; omega

      have g2 : decide (prize < oh) = false := decide_eq_false (by omega)
      have g3 : decide (oh < ol) = false := decide_eq_false (by omega)
      have g4 : decide (oh - ol < 0) = false := decide_eq_false (by omega)
      have g9 : decide (1 < oh - ol) = false := decide_eq_false (by omega)
      have g10 : decide (ol + 1 < oh) = false := decide_eq_false (by omega)
      have g11 : decide (1 + ol < oh) = false := decide_eq_false (by omega)
      have g6 : decide (oh < x) = false := decide_eq_false (by omega)

      refine wp_region_below (by kernel_rfl) (by kernel_rfl) ?_
      dsimp only [List.append]
      repeat (first | go_big_quiet_step (fail) | quiet_step (fail))
      refine wpQuiet_nil ?_
      intro we hbe
      have hle : w6.heap.size < we.heap.size := Nat.lt_of_lt_of_le hl15 hbe.size
      have hce := fun i => cell_of_heap (i := i) (heap_mono M15.out hbe)
      clear hc15 hl15 g2 g3 g4 g9 g10 g11 g6
      have sb := SB'.out
      go_wp2
      go_roundw
      case rel => exact ⟨k + 1, by omega, by go_num, by rw [E1.out], by rw [E2.out, ← Int.sub_sub], bl_trans hBr7 hbe⟩
      case measure => simp [intOf]; omega
    · obtain rfl : k = had.length := by omega
      rw [CW1.out, CW2.out, show prize - (prize - hs') = hs' by omega]
      have hp2' : wr.cell? ⟨w.heap.size, 2, none⟩ = some (.int .i64 prize) := hp 2
      have hIr := HI7.out.mono hBr
      rw [HSL.out] at hIr
      clear sb HB SW SB CW1 CW2 HSP H33 H21 HR1
      go_wp2
      go_loop [17, 18] (fun v j => ∃ q : Nat, (q : Int) ≤ hs' ∧ j = .int .i64 (q + 1) ∧ v = .int .i64 (refWays (al - hs') q)) (fun _ j => hs'.toNat + 1 - (intOf j).toNat)
      case atStart => exact ⟨0, by omega, rfl, rfl⟩
      case round =>
        obtain ⟨q, hq, rfl, rfl⟩ := hrel
        by_cases hlt2 : (q : Int) + 1 ≤ hs'
        · have hq0 : ((q : Int) + 1 == 0) = false := by simp; omega
          have hst := hid (show refWays (al - hs') (q + 1) = wrap64 ((wrap64 (refWays (al - hs') q * (al - hs' + (q + 1)))).tdiv (q + 1)) from rfl)
          generalize refWays (al - hs') q = wk at *
          go_wp2
          go_round
          case rel => exact ⟨q + 1, by omega, by go_num, by rw [hst.out]⟩
          case measure => simp [intOf]; omega
        · obtain rfl : hs' = q := by omega
          have hfin : n = refWays (al - (q : Int)) q := by have := C8.out; rw [Int.toNat_natCast] at this; exact this
          rw [← hfin]
          have dne : (n != n) = false := by simp
          have dde : ((n == 1) != (al == 0)) = false := by rw [DE.out]; simp
          have G45 : Hid (∀ W, Below wr.heap.size wr W → Calls Try.prog 45 #[.agg #[.slice (some ⟨b, off, none⟩) had.length c, .int .i64 part, .int .i64 prize], .slice (some ⟨b7, o7, none⟩) had.length c7, .int .i64 (ow % (had.length : Int))] W fun e w' => e = .returned (.bool true) ∧ Below W.heap.size W w') := fun W hW => HRE.out W _ (hs.mono (bl_trans hBw hW)) (hIr.mono hW)
          cases hal : (al == 0)
          all_goals
            rw [hal] at dde DE
            have dn := DE.out
            clear hfin hIr HRE C8 HI7 HC7 dde
            go_wp2
            refine wp_region_below (by kernel_rfl) (by kernel_rfl) ?_
            repeat (first | go_big_quiet_step (first | (go_at_call 45; exact Calls.regrown_of (G45.out _ (below_regrown _ _ _))) | (go_at_call 18; exact Calls.regrown_of (works_any _))) | quiet_step (first | (go_at_call 45; exact Calls.regrown_of (G45.out _ (below_regrown _ _ _))) | (go_at_call 18; exact Calls.regrown_of (works_any _))))
            refine wpQuiet_nil ?_
            intro we hbe
            go_wp2
            go_ret
            exact ⟨rfl, bl_trans hBw hbe⟩

set_option maxRecDepth 100000 in
set_option maxHeartbeats 16000000 in
theorem shareAll_given (had : List Int) (part prize : Int) (xs : List Int) (ow : Int) (s s2 : Value) (w : World) (hs : Ints w s had) (hs2 : Ints w s2 xs) (how : 0 ≤ ow ∧ ow < 256) (h0 : checkPool had part prize = 0) (h1 : xs.length ≤ 20) (hf : refSharesE had part prize xs = 0) :
    Calls Try.prog 8 #[.agg #[s, .int .i64 part, .int .i64 prize], s2, .int .u8 ow] w fun e w' => e = .returned (.bool true) ∧ Below w.heap.size w w' := by
  have V := checkPool_ok.1 h0
  have HD := hid (decide_eq_true h0)
  have H0 := hid h0
  have hv1 := V.l1
  have hv2 := V.l2
  have hz1 := V.z1
  have hz2 := V.z2
  clear h0
  obtain ⟨b, off, c, rfl, hlc, hb, hcell⟩ := hs.some hv1
  obtain ⟨A2, c2, rfl⟩ := hs2.slice
  have d1 : decide ((20 : Int) < (xs.length : Int)) = false := by simp; omega
  obtain ⟨hsl, hsb, _⟩ := shares_facts V
  have HR1 : Hid (∀ W, Ints W (.slice (some ⟨b, off, none⟩) had.length c) had → Calls Try.prog 40 #[.agg #[.slice (some ⟨b, off, none⟩) had.length c, .int .i64 part, .int .i64 prize]] W fun e w' => (∃ v, e = .returned (.tuple #[v, .bool true]) ∧ Ints w' v (sharesE had part prize)) ∧ Below W.heap.size W w') := fun W hW => right_any had part prize _ W V hW
  have H33 : Hid (∀ W, Below w.heap.size w W → Calls Try.prog 33 #[.agg #[.slice (some ⟨b, off, none⟩) had.length c, .int .i64 part, .int .i64 prize]] W fun e w' => e = .returned (.tuple #[.int .i64 (countE had part prize), .int .i64 0]) ∧ Below W.heap.size W w') := fun W hW => by
    have := count_any had part prize _ W (by omega) (hs.mono hW)
    rwa [H0.out] at this
  have H21 : Hid (∀ W, Below w.heap.size w W → Calls Try.prog 21 #[.agg #[.slice (some ⟨b, off, none⟩) had.length c, .int .i64 part, .int .i64 prize], .slice A2 xs.length c2] W fun e w' => e = .returned (.int .i64 (refSharesE had part prize xs)) ∧ Below W.heap.size W w') := fun W hW => by
    have := checkShares_any had part prize xs (.slice (some ⟨b, off, none⟩) had.length c) (.slice A2 xs.length c2) W (by omega) (by omega) (hs.mono hW) (hs2.mono hW)
    rwa [checkShares_law] at this
  have HSP : Hid (∀ W (k : Nat), k < had.length → Below w.heap.size w W → Calls Try.prog 35 #[.agg #[.slice (some ⟨b, off, none⟩) had.length c, .int .i64 part, .int .i64 prize], .int .i64 k] W fun e w' => e = .returned (.tuple #[.agg #[.int .i64 (spanLo had part prize k), .int .i64 (spanHi had part prize k)], .int .i64 0]) ∧ Below W.heap.size W w') := fun W k hk hW => by
    have := span_any had part prize k _ W (by omega) (hs.mono hW)
    rw [ownedE_ok.2 ⟨V, by omega, by omega⟩, spanR, if_pos (ownedE_ok.2 ⟨V, by omega, by omega⟩), Int.toNat_natCast] at this
    exact this
  have HRE : Hid (∀ W v, Ints W (.slice (some ⟨b, off, none⟩) had.length c) had → Ints W v (sharesE had part prize) → Calls Try.prog 45 #[.agg #[.slice (some ⟨b, off, none⟩) had.length c, .int .i64 part, .int .i64 prize], v, .int .i64 (ow % (had.length : Int))] W fun e w' => e = .returned (.bool true) ∧ Below W.heap.size W w') := fun W v hW hv => by
    obtain ⟨r1, r2⟩ := rem_nat how.1 (show 1 ≤ (had.length : Int) by omega)
    obtain ⟨i, hi, hil⟩ : ∃ i : Nat, ow % (had.length : Int) = (i : Int) ∧ i < had.length := by
      have key : ∀ r : Int, 0 ≤ r → r < (had.length : Int) → ∃ i : Nat, r = (i : Int) ∧ i < had.length := fun r a b => ⟨r.toNat, by omega, by omega⟩
      exact key _ r1 r2
    rw [hi]
    exact reached_any had part prize i _ v W V hil hW hv
  have hn0 : ((had.length : Int) == 0) = false := beq_eq_false_iff_ne.2 (by omega)
  have H22 : Hid (∀ W, Below w.heap.size w W → Calls Try.prog 22 #[.agg #[.slice (some ⟨b, off, none⟩) had.length c, .int .i64 part, .int .i64 prize], .slice A2 xs.length c2] W fun e w' => e = .returned (.int .i64 (refSharesE had part prize xs)) ∧ Below W.heap.size W w') := fun W hW => refCheckShares_any had part prize xs _ _ W (by omega) (by omega) (hs.mono hW) (hs2.mono hW)
  obtain ⟨O, F⟩ := refShares_ok'.1 hf
  have hxl := O.len
  have HB : Hid (∀ k, k < had.length → ∃ x y : Int, (sharesE had part prize)[k]? = some x ∧ xs[k]? = some y ∧ 0 ≤ spanLo had part prize k ∧ spanHi had part prize k ≤ prize ∧ spanLo had part prize k ≤ x ∧ x ≤ spanHi had part prize k ∧ spanHi had part prize k ≤ spanLo had part prize k + 1 ∧ spanLo had part prize k ≤ y ∧ y ≤ spanHi had part prize k) := fun k hk => by
    obtain ⟨x, hx⟩ := get_at (l := sharesE had part prize) (k := k) (by omega)
    have gx : (sharesE had part prize).getD k 0 = x := by simp only [List.getD, hx, Option.getD_some]
    have sb := span_bounds V hk
    rw [gx] at sb
    obtain ⟨y, hy⟩ := get_at (l := xs) (k := k) (by omega)
    have gy : xs.getD k 0 = y := by simp only [List.getD, hy, Option.getD_some]
    have sw := span_within V O F hk
    rw [gy] at sw
    exact ⟨x, y, hx, hy, sb.1, sb.2.1, sb.2.2.1, sb.2.2.2.1, sb.2.2.2.2, sw.1, sw.2⟩
  obtain ⟨c1, c2', c3, c4, c5, c6, c7, c8⟩ := ways_facts V
  obtain ⟨sw1, sw2⟩ := spanW_all V had.length (Nat.le_refl _)
  rw [own_sumN V] at sw2
  have SW : Hid (∀ k, spanW had part prize (k + 1) = spanW had part prize k + (spanHi had part prize k - spanLo had part prize k) ∧ spanL had part prize (k + 1) = spanL had part prize k + spanLo had part prize k) := fun k => ⟨rfl, rfl⟩
  have SB : Hid (∀ k, k ≤ had.length → 0 ≤ spanW had part prize k ∧ spanW had part prize k ≤ k ∧ 0 ≤ spanL had part prize k ∧ spanL had part prize k ≤ 1000 * k) := fun k hk => by
    induction k with
    | zero => simp [spanW, spanL, sumN]
    | succ k ih =>
      have h := ih (by omega)
      have sb := span_bounds V (i := k) (by omega)
      have e := SW.out k
      rw [e.1, e.2]
      omega
  have CW1 := hid sw1
  have CW2 := hid sw2
  generalize refHas had part (sharesE had part prize) had.length = hs' at *
  generalize refAll had part (sharesE had part prize) had.length = al at *
  have C8 := hid c8
  have dn1 : decide (countE had part prize < 1) = false := by simp; omega
  have dn2 : decide (1000 < countE had part prize) = false := by simp; omega
  have de : (countE had part prize == 1) = (al == 0) := by
    rw [Bool.eq_iff_iff]; simp [c7]
  have dw : (al == 1) = false := by simpa using c6
  have dl : decide (hs' < 0) = false := by simp; omega
  have dg : decide (al < hs') = false := by simp; omega
  have DE := hid de
  generalize countE had part prize = n at *
  have HC := Lib.hid hcell
  have HSL := hid hsl
  obtain ⟨b6, o6, c6', hes, _, hbl6, hcell6⟩ := hs2.some (by omega)
  injection hes with q1 q2 q3
  subst q1 q3
  clear q2
  have HC6 := Lib.hid hcell6
  have HXL := hid hxl
  have HF := hid hf
  generalize sharesE had part prize = sa at *
  clear V hsl hsb hcell hf c7 c8 sw1 sw2 de c6 hcell6 O F hxl
  go_enter Try.func8, Try.ntmps8
  go_wp2_with fail
  refine (fine_any had part prize _ _ (hs.mono (bl_alloc (bl_refl _) _))).mono ?_
  rintro e w1 ⟨rfl, hb1⟩
  rw [HD.out]
  have k1 := heap_new hb1
  have hr1 := fun i => cell_of_heap (i := i) k1
  have hB1 := bl_trans (bl_alloc (bl_refl w) _) hb1
  have hl1 : w.heap.size < w1.heap.size := (Array.getElem?_eq_some_iff.1 k1).1
  have K1 := hid k1
  have HP : Hid (∀ W, Below w1.heap.size w1 W → (∀ i, W.cell? ⟨w.heap.size, i, none⟩ = #[Value.slice (some ⟨b, off, none⟩) had.length c, .int .i64 part, .int .i64 prize][i]?) ∧ w.heap.size < W.heap.size) := fun W hW =>
    ⟨fun i => cell_of_heap (heap_mono K1.out hW), (Array.getElem?_eq_some_iff.1 (heap_mono K1.out hW)).1⟩
  clear k1
  go_wp2_with fail
  refine (HR1.out w1 (hs.mono hB1)).mono ?_
  rintro e w2 ⟨⟨v2, rfl, hI2⟩, hb2⟩
  obtain ⟨hp2, hpl2⟩ := HP.out w2 hb2
  have hB2 := bl_trans hB1 hb2
  clear hr1
  go_wp2_with fail
  refine (H33.out w2 hB2).mono ?_
  rintro e w3 ⟨rfl, hb3⟩
  have hb13 := bl_trans hb2 hb3
  obtain ⟨hp3, hpl3⟩ := HP.out w3 hb13
  have hB3 := bl_trans hB2 hb3
  have hI3 := hI2.mono hb3
  clear hp2 hpl2 hI2
  go_wp2_with fail
  refine (H21.out w3 hB3).mono ?_
  rintro e w4 ⟨rfl, hb4⟩
  have hb14 := bl_trans hb13 hb4
  obtain ⟨hp4, hpl4⟩ := HP.out w4 hb14
  have hB4 := bl_trans hB3 hb4
  have hI4 := hI3.mono hb4
  clear hp3 hpl3 hI3
  rw [HF.out]
  go_wp2_with fail
  refine (H22.out w4 hB4).mono ?_
  rintro e w5 ⟨rfl, hb5⟩
  rw [HF.out]
  have hb15 := bl_trans hb14 hb5
  obtain ⟨hp5, hpl5⟩ := HP.out w5 hb15
  have hB5 := bl_trans hB4 hb5
  have hI5 := hI4.mono hb5
  clear hp4 hpl4 hI4
  obtain ⟨b7, o7, c7, rfl, hlc7, hbl7, hcell7⟩ := hI5.some (by rw [HSL.out]; exact hv1)
  rw [HSL.out]
  have HC7 := Lib.hid hcell7
  have HI7 := Lib.hid hI5
  have hp52 : w5.cell? ⟨w.heap.size, 2, none⟩ = some (.int .i64 prize) := hp5 2
  clear hcell7 hI5
  go_upto_region 10 with (fail)
  go_quiet (fail)
  have hBq := bl_drewN (bl_refl w5) nq
  obtain ⟨wq, hwq⟩ : ∃ wq, w5.drewN nq = wq := ⟨_, rfl⟩
  rw [hwq] at hBq ⊢
  clear hwq hp5 hp52
  go_wp2
  go_loopw [12, 13, 14] (fun a l q wr => ∃ k : Nat, k ≤ had.length ∧ q = .int .i64 k ∧ a = .int .i64 (spanW had part prize k) ∧ l = .int .i64 (prize - spanL had part prize k) ∧ Below w5.heap.size w5 wr) (fun _ _ q _ => had.length - (intOf q).toNat)
  case atStart => exact ⟨0, Nat.zero_le _, rfl, rfl, by simp [spanL, sumN], hBq⟩
  case round =>
    obtain ⟨k, hk, rfl, rfl, rfl, hBr⟩ := hrel
    have hb1r := bl_trans hb15 hBr
    have hBw := bl_trans hB5 hBr
    obtain ⟨hp, hpl⟩ := HP.out wr hb1r
    have sb := SB.out k hk
    by_cases hlt : k < had.length
    · obtain ⟨x, y, hx, hy, f1, f2, f3, f4, f5, f6, f7⟩ := HB.out k hlt
      obtain ⟨e1, e2⟩ := SW.out k
      have E1 := hid e1
      have E2 := hid e2
      have hcall := HSP.out wr k hlt hBw
      have hcx := cell_mono (HC7.out k x hx) hBr
      have hcy := cell_mono (HC6.out k y hy) hBw
      have hkx : k < xs.length := by have := HXL.out; omega
      have hkx' : (k : Int) < (xs.length : Int) := by omega
      generalize spanW had part prize k = a at *
      generalize spanL had part prize k = l at *
      generalize spanLo had part prize k = ol at *
      generalize spanHi had part prize k = oh at *
      clear e1 e2 hx hy
      go_wp2_with fail
      refine hcall.mono ?_
      rintro e w6 ⟨rfl, hb6⟩
      obtain ⟨m15, hb7⟩ := one_box w6 #[.int .i64 ol, .int .i64 oh] 47
      have hbr7 := bl_trans hb6 hb7
      have hBr7 := bl_trans hBr hbr7
      go_upto_region 15 with (fail)
      obtain ⟨w7, hw7⟩ : ∃ w7, w6.alloc (.cells #[.int .i64 ol, .int .i64 oh] 47) = w7 := ⟨_, rfl⟩
      rw [hw7] at m15 hb7 hbr7 hBr7 ⊢
      obtain ⟨hp7, hpl7⟩ := HP.out w7 (bl_trans hb15 hBr7)
      have hp72 : w7.cell? ⟨w.heap.size, 2, none⟩ = some (.int .i64 prize) := hp7 2
      have hcx7 := cell_mono hcx hbr7
      have hbx7 : b7 < w7.heap.size := Nat.lt_of_lt_of_le (Nat.lt_of_lt_of_le hbl7 hBr.size) hbr7.size
      have hcy7 := cell_mono hcy hbr7
      have hby7 : b6 < w7.heap.size := Nat.lt_of_lt_of_le (Nat.lt_of_lt_of_le hbl6 hBw.size) hbr7.size
      have hl15 : w6.heap.size < w7.heap.size := (Array.getElem?_eq_some_iff.1 m15).1
      have hc15 := fun i => cell_of_heap (i := i) m15
      have M15 := hid m15
      have SB' := hid sb
      clear hw7 hcall hp hcx hcy HB SB SW CW1 CW2 HSP H21 H33 HR1 HRE C8 DE HP HC HI7 HC7 K1 H0 HD hb1r hBr hb6 hb7 hbr7 sb hBq m15 dn1 dn2 dw dl dg c1 c2' c3 c4 c5 hn0 d1
      have g1 : decide (ol < 0) = false := by simp; omega
      have g5 : decide (x < ol) = false := by simp; omega
      have g7 : decide (y < ol) = false := by simp; omega
      have g2 : decide (prize < oh) = false := decide_eq_false (by omega)
      have g3 : decide (oh < ol) = false := decide_eq_false (by omega)
      have g4 : decide (oh - ol < 0) = false := decide_eq_false (by omega)
      have g9 : decide (1 < oh - ol) = false := decide_eq_false (by omega)
      have g10 : decide (ol + 1 < oh) = false := decide_eq_false (by omega)
      have g11 : decide (1 + ol < oh) = false := decide_eq_false (by omega)
      have g6 : decide (oh < x) = false := decide_eq_false (by omega)
      have g8 : decide (oh < y) = false := decide_eq_false (by omega)
      refine wp_region_below (by kernel_rfl) (by kernel_rfl) ?_
      dsimp only [List.append]
      repeat (first | go_big_quiet_step (fail) | quiet_step (fail))
      refine wpQuiet_nil ?_
      intro we hbe
      have hle : w6.heap.size < we.heap.size := Nat.lt_of_lt_of_le hl15 hbe.size
      have hce := fun i => cell_of_heap (i := i) (heap_mono M15.out hbe)
      clear hc15 hl15 g2 g3 g4 g9 g10 g11 g6
      have sb := SB'.out
      go_wp2
      go_roundw
      case rel => exact ⟨k + 1, by omega, by go_num, by rw [E1.out], by rw [E2.out, ← Int.sub_sub], bl_trans hBr7 hbe⟩
      case measure => simp [intOf]; omega
    · obtain rfl : k = had.length := by omega
      rw [CW1.out, CW2.out, show prize - (prize - hs') = hs' by omega]
      have hp2' : wr.cell? ⟨w.heap.size, 2, none⟩ = some (.int .i64 prize) := hp 2
      have hIr := HI7.out.mono hBr
      rw [HSL.out] at hIr
      clear sb HB SW SB CW1 CW2 HSP H33 H21 HR1
      go_wp2
      go_loop [17, 18] (fun v j => ∃ q : Nat, (q : Int) ≤ hs' ∧ j = .int .i64 (q + 1) ∧ v = .int .i64 (refWays (al - hs') q)) (fun _ j => hs'.toNat + 1 - (intOf j).toNat)
      case atStart => exact ⟨0, by omega, rfl, rfl⟩
      case round =>
        obtain ⟨q, hq, rfl, rfl⟩ := hrel
        by_cases hlt2 : (q : Int) + 1 ≤ hs'
        · have hq0 : ((q : Int) + 1 == 0) = false := by simp; omega
          have hst := hid (show refWays (al - hs') (q + 1) = wrap64 ((wrap64 (refWays (al - hs') q * (al - hs' + (q + 1)))).tdiv (q + 1)) from rfl)
          generalize refWays (al - hs') q = wk at *
          go_wp2
          go_round
          case rel => exact ⟨q + 1, by omega, by go_num, by rw [hst.out]⟩
          case measure => simp [intOf]; omega
        · obtain rfl : hs' = q := by omega
          have hfin : n = refWays (al - (q : Int)) q := by have := C8.out; rw [Int.toNat_natCast] at this; exact this
          rw [← hfin]
          have dne : (n != n) = false := by simp
          have dde : ((n == 1) != (al == 0)) = false := by rw [DE.out]; simp
          have G45 : Hid (∀ W, Below wr.heap.size wr W → Calls Try.prog 45 #[.agg #[.slice (some ⟨b, off, none⟩) had.length c, .int .i64 part, .int .i64 prize], .slice (some ⟨b7, o7, none⟩) had.length c7, .int .i64 (ow % (had.length : Int))] W fun e w' => e = .returned (.bool true) ∧ Below W.heap.size W w') := fun W hW => HRE.out W _ (hs.mono (bl_trans hBw hW)) (hIr.mono hW)
          cases hal : (al == 0)
          all_goals
            rw [hal] at dde DE
            have dn := DE.out
            clear hfin hIr HRE C8 HI7 HC7 dde
            go_wp2
            refine wp_region_below (by kernel_rfl) (by kernel_rfl) ?_
            repeat (first | go_big_quiet_step (first | (go_at_call 45; exact Calls.regrown_of (G45.out _ (below_regrown _ _ _))) | (go_at_call 18; exact Calls.regrown_of (works_any _))) | quiet_step (first | (go_at_call 45; exact Calls.regrown_of (G45.out _ (below_regrown _ _ _))) | (go_at_call 18; exact Calls.regrown_of (works_any _))))
            refine wpQuiet_nil ?_
            intro we hbe
            go_wp2
            go_ret
            exact ⟨rfl, bl_trans hBw hbe⟩

theorem shareAll_any (had : List Int) (part prize : Int) (xs : List Int) (ow : Int) (s s2 : Value) (w : World) (hs : Ints w s had) (hs2 : Ints w s2 xs) (how : 0 ≤ ow ∧ ow < 256) :
    Calls Try.prog 8 #[.agg #[s, .int .i64 part, .int .i64 prize], s2, .int .u8 ow] w fun e w' => e = .returned (.bool true) ∧ Below w.heap.size w w' := by
  by_cases h0 : checkPool had part prize = 0
  · by_cases h1 : xs.length ≤ 20
    · by_cases hf : refSharesE had part prize xs = 0
      · exact shareAll_given had part prize xs ow s s2 w hs hs2 how h0 h1 hf
      · exact shareAll_own had part prize xs ow s s2 w hs hs2 how h0 h1 hf
    · exact shareAll_out had part prize xs ow s s2 w hs hs2 how (.inr (by omega))
  · exact shareAll_out had part prize xs ow s s2 w hs hs2 how (.inl h0)

end Go.Proofs.Ytfchcikdcnloaaa
