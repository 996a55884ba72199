/- The references: Less, Fraction, IsDivisor, Rounds, CheckDivisor. -/
import Derived.Test.YtfchcikdcnloaaaDivlaw
import Derived.Test.YtfchcikdcnloaaaChkdiv
namespace Go.Proofs.Ytfchcikdcnloaaa
open Go Go.RowKit Go.Proofs
attribute [local go_sem] cell_grow frozen_grow cell_grow_d

theorem refLess_any (x y : Int × Int) (w : World) (e1 : IntKind.i64.wrap (x.1 * y.2) = x.1 * y.2) (e2 : IntKind.i64.wrap (y.1 * x.2) = y.1 * x.2) :
    Calls Try.prog 42 #[encQ x, encQ y] w fun e w' => e = .returned (.bool (lessB x y)) ∧ Below w.heap.size w w' := by
  obtain ⟨a, b⟩ := x
  obtain ⟨c, d⟩ := y
  simp only at e1 e2
  unfold encQ
  go_enter Try.func42, Try.ntmps42
  go_wp2
  go_ret
  exact ⟨by simp [lessB], bl_alloc (bl_alloc (bl_refl _) _) _⟩

set_option maxHeartbeats 2000000 in
theorem refFraction_any (a b : Int) (w : World) (ha : 1 ≤ a) (ha2 : a ≤ 4000000000000000000) (hb : 1 ≤ b) (hb2 : b ≤ 4000000000000000000) :
    Calls Try.prog 46 #[.int .i64 a, .int .i64 b] w fun e w' => e = .returned (encQ (quo a b)) ∧ Below w.heap.size w w' := by
  obtain ⟨M, hM⟩ : ∃ M : Nat, 4000000000000000000 = M := ⟨_, rfl⟩
  have hM' : (M : Int) ≤ 4000000000000000000 := by omega
  go_enter Try.func46, Try.ntmps46
  go_wp2
  go_loopw [5, 6] (fun x y wr => ∃ X Y : Nat, x = .int .i64 X ∧ y = .int .i64 Y ∧ 0 < X ∧ X ≤ M ∧ Y ≤ M ∧ GcdIs X Y a b ∧ ∃ q, wr = (w.alloc (Obj.cells #[Value.int IntKind.i64 0, Value.int IntKind.i64 0] 39)).drewN q) (fun _ y _ => (intOf y).toNat)
  case atStart => 
    refine ⟨a.toNat, b.toNat, ?_, ?_, by omega, by omega, by omega, ?_, 0, rfl⟩
    · rw [Int.toNat_of_nonneg (by omega)]
    · rw [Int.toNat_of_nonneg (by omega)]
    · exact gcdIs_start (by omega) (by omega)
  case round =>
    obtain ⟨X, Y, rfl, rfl, hX, hX2, hY2, hG, q, rfl⟩ := hrel
    have hXm : (X : Int) ≤ 4000000000000000000 := by omega
    have hYm : (Y : Int) ≤ 4000000000000000000 := by omega
    by_cases hy : Y = 0
    · subst hy
      have hXb : ((X : Int) == 0) = false := by simp; omega
      go_wp2
      go_region
      go_wp2
      have hXG := gcdIs_end hG
      refine bodyPost_ret (v := .agg #[.int .i64 (a / (X : Int)), .int .i64 (b / (X : Int))]) (by simp [results, Try.results46, go_sem]) rfl ⟨by rw [hXG]; rfl, ?_⟩
      exact bl_set (bl_set (bl_drewN (bl_alloc (bl_refl _) _) _) _ (Nat.le_refl _)) _ (Nat.le_refl _)
    · have hyb : decide (0 < (Y : Int)) = true := by simp; omega
      have hyn : ((Y : Int) == 0) = false := by simp; omega
      have hY0 : 0 < Y := by omega
      clear hy
      go_wp2
      go_quiet (fail)
      go_wp2
      go_roundw
      case rel => 
        have hmod := Nat.mod_lt X hY0
        refine ⟨Y, X % Y, rfl, ?_, hY0, by omega, by omega, gcdIs_step hG, _, World.drewN_drewN _ _ _⟩
        rw [Int.natCast_emod]
      case measure => 
        have hmod := Nat.mod_lt X hY0
        simp only [intOf]; rw [← Int.natCast_emod, Int.toNat_natCast, Int.toNat_natCast]; exact hmod

def isDivB (num den : Int) : Bool := decide (1 ≤ num) && decide (num ≤ 1073741824) && decide (1 ≤ den) && decide (den ≤ 1073741824)
theorem isDivisor_any (num den : Int) (w : World) :
    Calls Try.prog 43 #[.agg #[.int .i64 num, .int .i64 den]] w fun e w' => e = .returned (.bool (isDivB num den)) ∧ Below w.heap.size w w' := by
  unfold isDivB
  by_cases h1 : 1 ≤ num
  · by_cases h2 : num ≤ 1073741824
    · by_cases h3 : 1 ≤ den
      · have d1 : decide (1 ≤ num) = true := by simpa using h1
        have d2 : decide (num ≤ 1073741824) = true := by simpa using h2
        have d3 : decide (1 ≤ den) = true := by simpa using h3
        rw [d1, d2, d3]
        go_enter Try.func43, Try.ntmps43
        go_wp2
        go_ret
        exact ⟨rfl, bl_alloc (bl_refl _) _⟩
      · have d1 : decide (1 ≤ num) = true := by simpa using h1
        have d2 : decide (num ≤ 1073741824) = true := by simpa using h2
        have d3 : decide (1 ≤ den) = false := by simpa using h3
        rw [d1, d2, d3]
        go_enter Try.func43, Try.ntmps43
        go_wp2
        go_ret
        exact ⟨rfl, bl_alloc (bl_refl _) _⟩
    · have d1 : decide (1 ≤ num) = true := by simpa using h1
      have d2 : decide (num ≤ 1073741824) = false := by simpa using h2
      rw [d1, d2]
      go_enter Try.func43, Try.ntmps43
      go_wp2
      go_ret
      exact ⟨rfl, bl_alloc (bl_refl _) _⟩
  · have d1 : decide (1 ≤ num) = false := by simpa using h1
    rw [d1]
    go_enter Try.func43, Try.ntmps43
    go_wp2
    go_ret
    exact ⟨rfl, bl_alloc (bl_refl _) _⟩

theorem step_r (part : Int) (hp1 : 1 ≤ part) (hp2 : part ≤ 100) : ∀ (s : Value) (prize k : Int) (W : World), -1000 ≤ k → k ≤ 100000 → Calls Try.prog 63 #[.agg #[s, .int .i64 part, .int .i64 prize], .int .i64 k] W fun e w' => e = .returned (.int .i64 (100 * k + part)) ∧ Below W.heap.size W w' :=
  fun s prize k W h1 h2 => refStep_any s part prize k W h1 h2 hp1 hp2

set_option maxRecDepth 100000 in
set_option maxHeartbeats 4000000 in
theorem rounds_any (had : List Int) (part prize : Int) (i : Nat) (sh num den : Int) (s : Value) (w : World) (V : Val had part prize) (hi : i < had.length) (hsh : 0 ≤ sh ∧ sh ≤ 1000) (hn1 : 1 ≤ num ∧ num ≤ 1073741824) (hd1 : 1 ≤ den ∧ den ≤ 1073741824) (hs : Ints w s had) :
    Calls Try.prog 65 #[.agg #[s, .int .i64 part, .int .i64 prize], .int .i64 i, .int .i64 sh, .agg #[.int .i64 num, .int .i64 den]] w fun e w' => e = .returned (.bool (roundsB (had.getD i 0) part sh num den)) ∧ Below w.heap.size w w' := by
  have hv1 := V.l1
  have hv2 := V.l2
  have hp1 := V.p1
  have hp2 := V.p2
  obtain ⟨b, off, c, rfl, _, hb, hcell⟩ := hs.some hv1
  obtain ⟨y, hy⟩ := get_at hi
  have hyb := V.h1 i y hy
  have hcy := hcell i y hy
  have hgy : had.getD i 0 = y := by simp [List.getD, hy]
  rw [hgy]
  have hii : (i : Int) < (had.length : Int) := by omega
  have e1 : IntKind.i64.wrap (100 * y) = 100 * y := IntWalk.i64_in _ (by omega)
  have e2 := (big_mul (a := 100 * y) (b := den) (by omega) (by omega) hd1.1 hd1.2).1
  have e3 := (big_mul (a := 100 * sh + part) (b := num) (by omega) (by omega) hn1.1 hn1.2).1
  have Hst := Lib.hid (step_r part hp1 hp2)
  clear hcell hs hy hgy V
  by_cases c1 : 100 * y * den ≤ (100 * sh + part) * num
  · have d1 : decide (100 * y * den ≤ (100 * sh + part) * num) = true := by simpa using c1
    by_cases c2 : sh = 0
    · have hgood := hid (show roundsB y part sh num den = true by subst c2; simpa [roundsB] using c1)
      have d2 : (sh == 0) = true := by simpa using c2
      clear c1 c2
      go_enter Try.func65, Try.ntmps65
      go_wp2
      go_quiet (fail)
      go_wp2
      refine wp_region_below (by kernel_rfl) (by kernel_rfl) ?_
      repeat (first | go_big_quiet_step (exact Calls.regrown_of (Hst.out _ _ _ _ (by omega) (by omega))) | quiet_step (exact Calls.regrown_of (Hst.out _ _ _ _ (by omega) (by omega))))
      refine wpQuiet_nil ?_
      intro w5 hb5
      go_wp2
      go_ret
      exact ⟨by rw [hgood.out]; rfl, bl_trans (bl_drewN (bl_alloc (bl_alloc (bl_refl _) _) _) _) hb5⟩
    · have d2 : (sh == 0) = false := by simpa using c2
      have e4 : IntKind.i64.wrap (sh - 1) = sh - 1 := IntWalk.i64_in _ (by omega)
      have e5 := (big_mul (a := 100 * (sh - 1) + part) (b := num) (by omega) (by omega) hn1.1 hn1.2).1
      by_cases c3 : (100 * (sh - 1) + part) * num ≤ 100 * y * den
      · have d3 : decide ((100 * (sh - 1) + part) * num ≤ 100 * y * den) = true := by simpa using c3
        have hgood := hid (show roundsB y part sh num den = true by simp [roundsB, c1, c3])
        clear c1 c2 c3
        go_enter Try.func65, Try.ntmps65
        go_wp2
        go_quiet (fail)
        go_wp2
        refine wp_region_below (by kernel_rfl) (by kernel_rfl) ?_
        repeat (first | go_big_quiet_step (exact Calls.regrown_of (Hst.out _ _ _ _ (by omega) (by omega))) | quiet_step (exact Calls.regrown_of (Hst.out _ _ _ _ (by omega) (by omega))))
        refine wpQuiet_nil ?_
        intro w5 hb5
        go_wp2
        go_ret
        exact ⟨by rw [hgood.out]; rfl, bl_trans (bl_drewN (bl_alloc (bl_alloc (bl_refl _) _) _) _) hb5⟩
      · have d3 : decide ((100 * (sh - 1) + part) * num ≤ 100 * y * den) = false := by simpa using c3
        have hgood := hid (show roundsB y part sh num den = false by simp [roundsB, c2]; omega)
        clear c1 c2 c3
        go_enter Try.func65, Try.ntmps65
        go_wp2
        go_quiet (fail)
        go_wp2
        refine wp_region_below (by kernel_rfl) (by kernel_rfl) ?_
        repeat (first | go_big_quiet_step (exact Calls.regrown_of (Hst.out _ _ _ _ (by omega) (by omega))) | quiet_step (exact Calls.regrown_of (Hst.out _ _ _ _ (by omega) (by omega))))
        refine wpQuiet_nil ?_
        intro w5 hb5
        go_wp2
        go_ret
        exact ⟨by rw [hgood.out]; rfl, bl_trans (bl_drewN (bl_alloc (bl_alloc (bl_refl _) _) _) _) hb5⟩
  · have d1 : decide (100 * y * den ≤ (100 * sh + part) * num) = false := by simpa using c1
    have hgood := hid (show roundsB y part sh num den = false by simp [roundsB]; omega)
    clear c1
    go_enter Try.func65, Try.ntmps65
    go_wp2
    go_quiet (fail)
    go_wp2
    refine wp_region_below (by kernel_rfl) (by kernel_rfl) ?_
    repeat (first | go_big_quiet_step (exact Calls.regrown_of (Hst.out _ _ _ _ (by omega) (by omega))) | quiet_step (exact Calls.regrown_of (Hst.out _ _ _ _ (by omega) (by omega))))
    refine wpQuiet_nil ?_
    intro w5 hb5
    go_wp2
    go_ret
    exact ⟨by rw [hgood.out]; rfl, bl_trans (bl_drewN (bl_alloc (bl_alloc (bl_refl _) _) _) _) hb5⟩

theorem isDiv_within (num den : Int) : isDivB num den = withinB 1 1073741824 [num, den] := by
  rw [Bool.eq_iff_iff, withinB_iff]
  simp [isDivB, and_assoc]

theorem checkDivisorE_bad {had shares : List Int} {part prize num den : Int} (h : sharedE had part prize shares ≠ 0) : checkDivisorE had part prize shares num den = sharedE had part prize shares := by
  unfold checkDivisorE
  rw [if_pos h]

set_option maxRecDepth 100000 in
set_option maxHeartbeats 4000000 in
theorem refCheckDivisor_any (had : List Int) (part prize : Int) (shares : List Int) (num den : Int) (s s2 : Value) (w : World) (hl : had.length ≤ 1000) (hl2 : shares.length ≤ 1000) (hs : Ints w s had) (hs2 : Ints w s2 shares) :
    Calls Try.prog 32 #[.agg #[s, .int .i64 part, .int .i64 prize], s2, .agg #[.int .i64 num, .int .i64 den]] w fun e w' => e = .returned (.int .i64 (checkDivisorE had part prize shares num den)) ∧ Below w.heap.size w w' := by
  obtain ⟨A, c, rfl⟩ := hs.slice
  obtain ⟨A2, c2, rfl⟩ := hs2.slice
  have hbb := bl_alloc (bl_alloc (bl_refl w) (.cells #[.slice A had.length c, .int .i64 part, .int .i64 prize] 24)) (.cells #[.int .i64 num, .int .i64 den] 39)
  by_cases h0 : sharedE had part prize shares = 0
  case neg =>
    have hE := hid (checkDivisorE_bad (num := num) (den := den) h0)
    have hne : (sharedE had part prize shares != 0) = true := by simpa using h0
    clear h0
    go_enter Try.func32, Try.ntmps32
    go_wp2_with fail
    refine (refShared_any had part prize shares _ _ _ hl hl2 (hs.mono hbb) (hs2.mono hbb)).mono ?_
    rintro e w1 ⟨rfl, hb1⟩
    obtain ⟨hr1, hrf1⟩ := new_cells (w := w) (bl_trans (bl_alloc (bl_refl _) _) hb1)
    have hB1 := bl_trans hbb hb1
    have hl1 : w.heap.size < w1.heap.size := by have := hb1.size; simp at this; omega
    go_wp2_with fail
    refine (refShared_any had part prize shares _ _ _ hl hl2 (hs.mono hB1) (hs2.mono hB1)).mono ?_
    rintro e w2 ⟨rfl, hb2⟩
    go_wp2
    go_ret
    exact ⟨by rw [hE.out]; rfl, bl_trans hB1 hb2⟩
  have O := sharedE_ok.1 h0
  have V := O.V
  have hv1 := V.l1
  have hv2 := V.l2
  have hz2 := V.z2
  have H0 := hid h0
  have hlen := O.len
  have hsl : shares.length ≤ 12 := by omega
  have hsl1 : 1 ≤ shares.length := by omega
  have hne : (sharedE had part prize shares != 0) = false := by simpa using h0
  cases hd : isDivB num den with
  | false =>
    have hE := hid (show checkDivisorE had part prize shares num den = 2 by
      unfold checkDivisorE
      rw [if_neg (by simpa using h0), if_pos (by rw [← isDiv_within]; exact hd)])
    have HD := hid hd
    clear h0 hne hlen hd
    go_enter Try.func32, Try.ntmps32
    go_wp2_with fail
    refine (refShared_any had part prize shares _ _ _ hl hl2 (hs.mono hbb) (hs2.mono hbb)).mono ?_
    rintro e w1 ⟨rfl, hb1⟩
    rw [H0.out]
    obtain ⟨hr1, hrf1⟩ := new_cells (w := w.alloc (.cells #[.slice A had.length c, .int .i64 part, .int .i64 prize] 24)) hb1
    simp only [World.size_alloc] at hr1 hrf1
    have hB1 := bl_trans hbb hb1
    have hl1 : w.heap.size + 1 < w1.heap.size := by have := hb1.size; simp at this; omega
    go_wp2_with fail
    refine (isDivisor_any num den _).mono ?_
    rintro e w2 ⟨rfl, hb2⟩
    rw [HD.out]
    go_wp2
    go_ret
    exact ⟨by rw [hE.out]; rfl, bl_trans hB1 hb2⟩
  | true =>
    have hE := hid (show checkDivisorE had part prize shares num den = if allRounds had part shares num den = true then 0 else 22 by
      unfold checkDivisorE
      rw [if_neg (by simpa using h0), if_neg (by rw [← isDiv_within, hd]; simp)])
    have HD := hid hd
    have hnd := (withinB_iff _ _ _).mp ((isDiv_within num den).symm.trans hd)
    have hn1 := hnd num (by simp)
    have hd1 := hnd den (by simp)
    have HLEN := hid hlen
    obtain ⟨b2, off2, c2', hes, _, hb2', hcell2⟩ := hs2.some hsl1
    injection hes with q1 q2 q3
    subst q1 q3
    clear q2
    have HC2 := Lib.hid hcell2
    have HRNG : Hid (∀ x ∈ shares, 0 ≤ x ∧ x ≤ 1000) := fun x hx => by have := O.rng x hx; omega
    clear h0 hne hlen hd hnd hcell2
    go_enter Try.func32, Try.ntmps32
    go_wp2_with fail
    refine (refShared_any had part prize shares _ _ _ hl hl2 (hs.mono hbb) (hs2.mono hbb)).mono ?_
    rintro e w1 ⟨rfl, hb1⟩
    rw [H0.out]
    obtain ⟨hr1, hrf1⟩ := new_cells (w := w.alloc (.cells #[.slice A had.length c, .int .i64 part, .int .i64 prize] 24)) hb1
    obtain ⟨hq1, hqf1⟩ := new_cells (w := w) (bl_trans (bl_alloc (bl_refl _) _) hb1)
    simp only [World.size_alloc] at hr1 hrf1
    have hB1 := bl_trans hbb hb1
    have hl1 : w.heap.size + 1 < w1.heap.size := by have := hb1.size; simp at this; omega
    go_wp2_with fail
    refine (isDivisor_any num den _).mono ?_
    rintro e w2 ⟨rfl, hb2⟩
    rw [HD.out]
    have hB2 := bl_trans hB1 hb2
    have hl2' : w.heap.size + 1 < w2.heap.size := Nat.lt_of_lt_of_le hl1 hb2.size
    have HR : Hid (∀ W, Below w2.heap.size w2 W → (∀ i, W.cell? ⟨w.heap.size, i, none⟩ = #[Value.slice A had.length c, .int .i64 part, .int .i64 prize][i]?) ∧ (∀ i, W.cell? ⟨w.heap.size + 1, i, none⟩ = #[Value.int .i64 num, .int .i64 den][i]?)) := fun W hW => by
      have hW1 := bl_trans hb2 hW
      exact ⟨fun i => (hW1.cell (p := ⟨w.heap.size, i, none⟩) (show w.heap.size < w1.heap.size by omega)).trans (hq1 i), fun i => (hW1.cell (p := ⟨w.heap.size + 1, i, none⟩) hl1).trans (hr1 i)⟩
    clear hr1 hrf1 hq1 hqf1 hb1 hB1
    go_wp2
    go_loopw [7] (fun i wr => ∃ k : Nat, k ≤ shares.length ∧ i = .int .i64 k ∧ Hid (∀ i, i < k → roundsB (had.getD i 0) part (shares.getD i 0) num den = true) ∧ Below w2.heap.size w2 wr) (fun i _ => shares.length - (intOf i).toNat)
    case atStart => exact ⟨0, Nat.zero_le _, rfl, Lib.hid (fun i h => by omega), bl_refl _⟩
    case round =>
      obtain ⟨k, hk, rfl, hall, hB⟩ := hrel
      have hBw := bl_trans hB2 hB
      by_cases hlt : k < shares.length
      · obtain ⟨x, hx⟩ := get_at hlt
        have hkh : k < had.length := by have := HLEN.out; omega
        obtain ⟨y, hy⟩ := get_at hkh
        have hcx := cell_mono (HC2.out k x hx) hBw
        have hxb := HRNG.out x (List.mem_of_getElem? hx)
        obtain ⟨hr, hq⟩ := HR.out wr hB
        have hlw : w.heap.size + 1 < wr.heap.size := Nat.lt_of_lt_of_le hl2' hB.size
        have hlw2 : w.heap.size < wr.heap.size := by omega
        have hb2w : b2 < wr.heap.size := Nat.lt_of_lt_of_le hb2' hBw.size
        have Hro : Hid (∀ W, Below wr.heap.size wr W → Calls Try.prog 65 #[.agg #[.slice A had.length c, .int .i64 part, .int .i64 prize], .int .i64 k, .int .i64 x, .agg #[.int .i64 num, .int .i64 den]] W fun e w' => e = .returned (.bool (roundsB (had.getD k 0) part x num den)) ∧ Below W.heap.size W w') := fun W hW => rounds_any had part prize k x num den _ W V hkh hxb hn1 hd1 (hs.mono (bl_trans hBw hW))
        have hgy : had.getD k 0 = y := by simp [List.getD, hy]
        have Hkr : Hid (∀ b, roundsB (had.getD k 0) part x num den = b → (b = false → Hid (allRounds had part shares num den = false)) ∧ (b = true → Hid (∀ i, i < k + 1 → roundsB (had.getD i 0) part (shares.getD i 0) num den = true))) :=
          fun b hb => by
            rw [hgy] at hb
            exact ⟨fun h => hid (run_bad hx hy (hb.trans h)), fun h => Lib.hid (run_good hall.out hx hy (hb.trans h))⟩
        clear hx hy hall hgy
        cases hro : roundsB (had.getD k 0) part x num den with
        | true =>
          have hgood := (Hkr.out true hro).2 rfl
          rw [hro] at Hro
          clear hro Hkr
          go_wp2
          refine wp_region_below (by kernel_rfl) (by kernel_rfl) ?_
          repeat (first | go_big_quiet_step (exact Calls.regrown_of (Hro.out _ (below_regrown _ _ _))) | quiet_step (exact Calls.regrown_of (Hro.out _ (below_regrown _ _ _))))
          refine wpQuiet_nil ?_
          intro w5 hb5
          go_wp2
          go_roundw
          case rel => exact ⟨k + 1, by omega, by go_num, Lib.hid hgood.out, bl_trans hB hb5⟩
          case measure => simp [intOf]; omega
        | false =>
          have hbad := (Hkr.out false hro).1 rfl
          rw [hro] at Hro
          clear hro Hkr
          go_wp2
          refine wp_region_below (by kernel_rfl) (by kernel_rfl) ?_
          repeat (first | go_big_quiet_step (exact Calls.regrown_of (Hro.out _ (below_regrown _ _ _))) | quiet_step (exact Calls.regrown_of (Hro.out _ (below_regrown _ _ _))))
          refine wpQuiet_nil ?_
          intro w5 hb5
          go_wp2
          go_ret
          exact ⟨by rw [hE.out, hbad.out]; rfl, bl_trans hBw hb5⟩
      · obtain rfl : k = shares.length := by omega
        have hfin := hid (run_all hall.out)
        clear hall
        go_wp2
        go_ret
        exact ⟨by rw [hE.out, hfin.out]; rfl, hBw⟩

end Go.Proofs.Ytfchcikdcnloaaa
