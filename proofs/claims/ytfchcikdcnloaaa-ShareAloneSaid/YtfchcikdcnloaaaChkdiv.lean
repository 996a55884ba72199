/- share's CheckDivisor. -/
import Derived.Test.YtfchcikdcnloaaaShared
import Derived.Test.YtfchcikdcnloaaaTail
namespace Go.Proofs.Ytfchcikdcnloaaa
open Go.RowKit Go.Proofs
attribute [local go_sem] cell_grow frozen_grow

theorem cell_grow_d (w : World) (n d : Nat) (os : Array Obj) (b o : Nat) (h : b < w.heap.size) : (Sort.grow (redrawn (w.drewN n) d) os).cell? ⟨b, o, none⟩ = w.cell? ⟨b, o, none⟩ := cell_grow w d os b o h
attribute [local go_sem] cell_grow_d

theorem ints_two {W : World} {n : Nat} (x y : Int) (t : TypeId) (hn : n = W.heap.size) : Ints (W.alloc (.cells #[.int .i64 x, .int .i64 y] t)) (.slice (Option.some ⟨n, 0, none⟩) 2 2) [x, y] := by
  subst hn
  refine .inr ⟨W.heap.size, 0, 2, rfl, Nat.le_refl _, by simp, fun i z hz => ?_⟩
  have hi : i < 2 := by
    have := (List.getElem?_eq_some_iff.mp hz).1; simpa using this
  match i, hi with
  | 0, _ => simp at hz; subst hz; simp [go_sem]
  | 1, _ => simp at hz; subst hz; simp [go_sem]

theorem step_b (g : Nat) (part : Int) (hp : 1 ≤ part) (hp2 : part ≤ 100) : ∀ (k : Int) (_hk : 0 ≤ k) (_hk2 : k ≤ 1000) (w : World) (_h1 : w.cell? ⟨g, 1, none⟩ = some (.int .i64 part)), Calls Try.prog 64 #[.pointer (some ⟨g, 0, none⟩), .int .i64 k] w fun e w' => e = .returned (.int .i64 (100 * k + part)) ∧ Below w.heap.size w w' :=
  fun k hk hk2 w h1 => (step_any g part k w h1 hk hk2 (by omega) hp2).mono fun e w' ⟨he, hw⟩ => ⟨he, by rw [hw]; exact bl_refl _⟩

def roundsB (h part s num den : Int) : Bool := decide (100 * h * den ≤ (100 * s + part) * num) && (decide (s = 0) || decide ((100 * (s - 1) + part) * num ≤ 100 * h * den))
def allRounds (had : List Int) (part : Int) (shares : List Int) (num den : Int) : Bool := (List.range shares.length).all fun i => roundsB (had.getD i 0) part (shares.getD i 0) num den
def checkDivisorE (had : List Int) (part prize : Int) (shares : List Int) (num den : Int) : Int :=
  if sharedE had part prize shares ≠ 0 then sharedE had part prize shares
  else if withinB 1 1073741824 [num, den] = false then 2
  else if allRounds had part shares num den = true then 0 else 22

theorem big_mul {a b : Int} (h1 : 0 ≤ a) (h2 : a ≤ 100000000) (h3 : 1 ≤ b) (h4 : b ≤ 1073741824) : IntKind.i64.wrap (a * b) = a * b ∧ 0 ≤ a * b := by
  have := Int.mul_le_mul h2 h4 (by omega) (by omega)
  have := Int.mul_nonneg h1 (show 0 ≤ b by omega)
  exact ⟨IntWalk.i64_in _ (by omega), by omega⟩

theorem run_good {had shares : List Int} {part num den : Int} {k : Nat} (h : ∀ i, i < k → roundsB (had.getD i 0) part (shares.getD i 0) num den = true) {x y : Int} (hx : shares[k]? = some x) (hy : had[k]? = some y) (hr : roundsB y part x num den = true) :
    ∀ i, i < k + 1 → roundsB (had.getD i 0) part (shares.getD i 0) num den = true := by
  intro i hi
  by_cases e : i = k
  · subst e; simpa [List.getD, hx, hy] using hr
  · exact h i (by omega)
theorem run_bad {had shares : List Int} {part num den : Int} {k : Nat} {x y : Int} (hx : shares[k]? = some x) (hy : had[k]? = some y) (hr : roundsB y part x num den = false) : allRounds had part shares num den = false := by
  unfold allRounds
  rw [List.all_eq_false]
  exact ⟨k, by simpa using (List.getElem?_eq_some_iff.mp hx).1, by simp [List.getD, hx, hy, hr]⟩
theorem run_all {had shares : List Int} {part num den : Int} (h : ∀ i, i < shares.length → roundsB (had.getD i 0) part (shares.getD i 0) num den = true) : allRounds had part shares num den = true := by
  unfold allRounds
  rw [List.all_eq_true]
  intro i hi
  exact h i (by simpa using hi)

set_option maxRecDepth 100000 in
set_option maxHeartbeats 4000000 in
theorem checkDivisor_good (had : List Int) (part prize : Int) (shares : List Int) (num den : Int) (s s2 : Value) (w : World) (hs : Ints w s had) (hs2 : Ints w s2 shares) (h0 : sharedE had part prize shares = 0) (h1 : withinB 1 1073741824 [num, den] = true) :
    Calls Try.prog 31 #[.agg #[s, .int .i64 part, .int .i64 prize], s2, .agg #[.int .i64 num, .int .i64 den]] w fun e w' => e = .returned (.int .i64 (if allRounds had part shares num den = true then 0 else 22)) ∧ Below w.heap.size w w' := by
  have O := sharedE_ok.mp h0
  have V := O.V
  have hv1 := V.l1
  have hv2 := V.l2
  have hp1 := V.p1
  have hp2 := V.p2
  have hz2 := V.z2
  have hlen := hid O.len
  have hll : shares.length ≤ 12 := by rw [O.len]; exact hv2
  have hll1 : 1 ≤ shares.length := by rw [O.len]; exact hv1
  obtain ⟨bh, offh, c, rfl, _, hbh, hch⟩ := hs.some hv1
  have Hch := Lib.hid hch
  clear hch
  obtain ⟨bs, offs, cs, rfl, _, hbs, hcs⟩ := hs2.some hll1
  have Hcs := Lib.hid hcs
  have hnd := (withinB_iff _ _ _).mp h1
  have hn1 := hnd num (by simp)
  have hd1 := hnd den (by simp)
  have H0 := hid h0
  have H1 := hid h1
  clear h0 h1 hcs hnd
  go_enter Try.func31, Try.ntmps31
  go_wp2_with fail
  go_step3
  go_wp2_with fail
  refine (shared_any had part prize shares _ _ _ (by omega) (by omega) (hs.mono (bl_alloc (bl_alloc (bl_refl _) _) _)) (hs2.mono (bl_alloc (bl_alloc (bl_refl _) _) _))).mono ?_
  rintro e w1 hp
  obtain ⟨g, b, off, c', rfl, hg, T, hb1⟩ := hp.inv_good H0.out
  clear hp
  simp only [World.size_alloc] at hg
  have hB1 := bl_trans (bl_alloc (bl_alloc (bl_refl w) _) _) hb1
  obtain ⟨hq1, hqf1⟩ := new_cells (w := w.alloc _) hb1
  simp only [World.size_alloc] at hq1 hqf1
  go_wp2_with fail
  refine (within_any 1 1073741824 [num, den] _ _ (by simp) (ints_two _ _ _ (by first | rfl | simp))).mono ?_
  rintro e w2 ⟨rfl, hb2⟩
  rw [H1.out]
  have hB2 := bl_trans (bl_alloc hB1 _) hb2
  have hbb := bl_trans (bl_trans hb1 (bl_alloc (bl_refl _) _)) hb2
  obtain ⟨hq2, hqf2⟩ := new_cells (w := w.alloc _) hbb
  simp only [World.size_alloc] at hq2 hqf2
  obtain ⟨hr2, hrf2⟩ := new_cells (w := w) (bl_trans (bl_alloc (bl_refl _) _) hbb)
  have T2 := T.mono (bl_trans (bl_alloc (bl_refl _) _) hb2)
  clear hq1 hqf1 T
  go_wp2
  clear hqf2 hrf2

  go_step3
  go_wp2

  go_loopw [32] (fun i wr => ∃ k : Nat, k ≤ shares.length ∧ i = .int .i64 k ∧ Hid (∀ i, i < k → roundsB (had.getD i 0) part (shares.getD i 0) num den = true) ∧ TabIs wr g b off c' had part prize (padTo shares) ∧ (∀ i, wr.cell? ⟨w.heap.size + 1, i, none⟩ = #[Value.int .i64 num, .int .i64 den][i]?) ∧ (∀ i, wr.cell? ⟨w.heap.size, i, none⟩ = #[Value.slice (some ⟨bh, offh, none⟩) had.length c, .int .i64 part, .int .i64 prize][i]?) ∧ Below w.heap.size w wr) (fun i _ => shares.length - (intOf i).toNat)
  case atStart => exact ⟨0, Nat.zero_le _, rfl, Lib.hid (fun i h => by omega), T2, hq2, hr2, hB2⟩
  case round =>
    obtain ⟨k, hk, rfl, hall, T, hq, hr, hB⟩ := hrel
    clear hq2 hr2 T2 hB2 hb1 hb2 hbb hB1
    by_cases hlt : k < shares.length
    · obtain ⟨x, hx⟩ := get_at hlt
      obtain ⟨y, hy⟩ := get_at (l := had) (k := k) (by rw [← O.len]; exact hlt)
      have hkh : k < had.length := (List.getElem?_eq_some_iff.mp hy).1
      have hcx := cell_mono (Hcs.out k x hx) hB
      have hch := cell_mono (Hch.out k y hy) hB
      have hyb := V.h1 k y hy
      have hxb := O.rng x (List.mem_of_getElem? hx)
      have hT1 := T.c1
      have hlt1 : w.heap.size + 1 < wr.heap.size := by have := T.glt; omega
      have hlt2 : w.heap.size < wr.heap.size := by omega
      have e1 : IntKind.i64.wrap (100 * y) = 100 * y := IntWalk.i64_in _ (by omega)
      have e2 := (big_mul (a := 100 * y) (b := den) (by omega) (by omega) hd1.1 hd1.2).1
      have e3 := (big_mul (a := 100 * x + part) (b := num) (by omega) (by omega) hn1.1 hn1.2).1
      have hkr : ∀ b, roundsB y part x num den = b → (b = false → Hid (allRounds had part shares num den = false)) ∧ (b = true → Hid (∀ i, i < k + 1 → roundsB (had.getD i 0) part (shares.getD i 0) num den = true)) :=
        fun b hb => ⟨fun h => hid (run_bad hx hy (hb.trans h)), fun h => Lib.hid (run_good hall.out hx hy (hb.trans h))⟩
      have Hkr := Lib.hid hkr
      clear hkr hx hy hall
      by_cases c1 : 100 * y * den ≤ (100 * x + part) * num
      · have d1 : decide (100 * y * den ≤ (100 * x + part) * num) = true := by simpa using c1
        by_cases c2 : x = 0
        · have hgood := (Hkr.out true (by subst c2; simpa [roundsB] using c1)).2 rfl
          have d2 : (x == 0) = true := by simpa using c2
          clear c1 c2
          go_wp2
          go_quiet (fail)
          have hT1n : (wr.drewN nq).cell? ⟨g, 1, none⟩ = some (.int .i64 part) := hT1
          go_wp2
          have Hst := Lib.hid (step_b g part hp1 hp2)
          refine wp_region_below (by kernel_rfl) (by kernel_rfl) ?_
          repeat (first | go_big_quiet_step (exact Calls.regrown_of (Hst.out _ (by omega) (by omega) _ (cell_regrown hT1n _ _))) | quiet_step (exact Calls.regrown_of (Hst.out _ (by omega) (by omega) _ (cell_regrown hT1n _ _))))
          refine wpQuiet_nil ?_
          intro w5 hb5
          have hB5 := bl_trans (bl_drewN hB nq) hb5
          have T5 := T.mono (bl_trans (bl_drewN (bl_refl _) nq) hb5)
          have hq5 : ∀ i, w5.cell? ⟨w.heap.size + 1, i, none⟩ = #[Value.int .i64 num, .int .i64 den][i]? := fun i => (hb5.cell (p := ⟨w.heap.size + 1, i, none⟩) hlt1).trans (hq i)
          have hr5 : ∀ i, w5.cell? ⟨w.heap.size, i, none⟩ = #[Value.slice (some ⟨bh, offh, none⟩) had.length c, .int .i64 part, .int .i64 prize][i]? := fun i => (hb5.cell (p := ⟨w.heap.size, i, none⟩) hlt2).trans (hr i)
          go_wp2
          go_roundw
          case rel => exact ⟨k + 1, by omega, by go_num, Lib.hid hgood.out, T5, hq5, hr5, hB5⟩
          case measure => simp [intOf]; omega
        · have d2 : (x == 0) = false := by simpa using c2
          have hx1 : 1 ≤ x := by omega
          have e4 : IntKind.i64.wrap (x - 1) = x - 1 := IntWalk.i64_in _ (by omega)
          have e5 := (big_mul (a := 100 * (x - 1) + part) (b := num) (by omega) (by omega) hn1.1 hn1.2).1
          by_cases c3 : (100 * (x - 1) + part) * num ≤ 100 * y * den
          · have d3 : decide ((100 * (x - 1) + part) * num ≤ 100 * y * den) = true := by simpa using c3
            have hgood := (Hkr.out true (by simp [roundsB, c1, c3])).2 rfl
            clear c1 c2 c3
            go_wp2
            go_quiet (fail)
            have hT1n : (wr.drewN nq).cell? ⟨g, 1, none⟩ = some (.int .i64 part) := hT1
            go_wp2
            have Hst := Lib.hid (step_b g part hp1 hp2)
            refine wp_region_below (by kernel_rfl) (by kernel_rfl) ?_
            repeat (first | go_big_quiet_step (exact Calls.regrown_of (Hst.out _ (by omega) (by omega) _ (cell_regrown hT1n _ _))) | quiet_step (exact Calls.regrown_of (Hst.out _ (by omega) (by omega) _ (cell_regrown hT1n _ _))))
            refine wpQuiet_nil ?_
            intro w5 hb5
            have hB5 := bl_trans (bl_drewN hB nq) hb5
            have T5 := T.mono (bl_trans (bl_drewN (bl_refl _) nq) hb5)
            have hq5 : ∀ i, w5.cell? ⟨w.heap.size + 1, i, none⟩ = #[Value.int .i64 num, .int .i64 den][i]? := fun i => (hb5.cell (p := ⟨w.heap.size + 1, i, none⟩) hlt1).trans (hq i)
            have hr5 : ∀ i, w5.cell? ⟨w.heap.size, i, none⟩ = #[Value.slice (some ⟨bh, offh, none⟩) had.length c, .int .i64 part, .int .i64 prize][i]? := fun i => (hb5.cell (p := ⟨w.heap.size, i, none⟩) hlt2).trans (hr i)
            go_wp2
            go_roundw
            case rel => exact ⟨k + 1, by omega, by go_num, Lib.hid hgood.out, T5, hq5, hr5, hB5⟩
            case measure => simp [intOf]; omega
          · have d3 : decide ((100 * (x - 1) + part) * num ≤ 100 * y * den) = false := by simpa using c3
            have hbad := (Hkr.out false (by simp [roundsB, c2]; omega)).1 rfl
            clear c1 c2 c3
            go_wp2
            go_quiet (fail)
            have hT1n : (wr.drewN nq).cell? ⟨g, 1, none⟩ = some (.int .i64 part) := hT1
            go_wp2
            have Hst := Lib.hid (step_b g part hp1 hp2)
            refine wp_region_below (by kernel_rfl) (by kernel_rfl) ?_
            repeat (first | go_big_quiet_step (exact Calls.regrown_of (Hst.out _ (by omega) (by omega) _ (cell_regrown hT1n _ _))) | quiet_step (exact Calls.regrown_of (Hst.out _ (by omega) (by omega) _ (cell_regrown hT1n _ _))))
            refine wpQuiet_nil ?_
            intro w5 hb5
            have hB5 := bl_trans (bl_drewN hB nq) hb5
            have T5 := T.mono (bl_trans (bl_drewN (bl_refl _) nq) hb5)
            have hq5 : ∀ i, w5.cell? ⟨w.heap.size + 1, i, none⟩ = #[Value.int .i64 num, .int .i64 den][i]? := fun i => (hb5.cell (p := ⟨w.heap.size + 1, i, none⟩) hlt1).trans (hq i)
            have hr5 : ∀ i, w5.cell? ⟨w.heap.size, i, none⟩ = #[Value.slice (some ⟨bh, offh, none⟩) had.length c, .int .i64 part, .int .i64 prize][i]? := fun i => (hb5.cell (p := ⟨w.heap.size, i, none⟩) hlt2).trans (hr i)
            go_wp2
            rw [Exit.noGoto_ret]
            go_ret
            exact ⟨by rw [hbad.out]; rfl, hB5⟩
      · have d1 : decide (100 * y * den ≤ (100 * x + part) * num) = false := by simpa using c1
        have hbad := (Hkr.out false (by simp [roundsB]; omega)).1 rfl
        clear c1
        go_wp2
        go_quiet (fail)
        have hT1n : (wr.drewN nq).cell? ⟨g, 1, none⟩ = some (.int .i64 part) := hT1
        go_wp2
        have Hst := Lib.hid (step_b g part hp1 hp2)
        refine wp_region_below (by kernel_rfl) (by kernel_rfl) ?_
        repeat (first | go_big_quiet_step (exact Calls.regrown_of (Hst.out _ (by omega) (by omega) _ (cell_regrown hT1n _ _))) | quiet_step (exact Calls.regrown_of (Hst.out _ (by omega) (by omega) _ (cell_regrown hT1n _ _))))
        refine wpQuiet_nil ?_
        intro w5 hb5
        have hB5 := bl_trans (bl_drewN hB nq) hb5
        have T5 := T.mono (bl_trans (bl_drewN (bl_refl _) nq) hb5)
        have hq5 : ∀ i, w5.cell? ⟨w.heap.size + 1, i, none⟩ = #[Value.int .i64 num, .int .i64 den][i]? := fun i => (hb5.cell (p := ⟨w.heap.size + 1, i, none⟩) hlt1).trans (hq i)
        have hr5 : ∀ i, w5.cell? ⟨w.heap.size, i, none⟩ = #[Value.slice (some ⟨bh, offh, none⟩) had.length c, .int .i64 part, .int .i64 prize][i]? := fun i => (hb5.cell (p := ⟨w.heap.size, i, none⟩) hlt2).trans (hr i)
        go_wp2
        rw [Exit.noGoto_ret]
        go_ret
        exact ⟨by rw [hbad.out]; rfl, hB5⟩
    · obtain rfl : k = shares.length := by omega
      have hfin := hid (run_all hall.out)
      go_wp2
      rw [Exit.noGoto_ret]
      go_ret
      exact ⟨by rw [hfin.out]; rfl, hB⟩

set_option maxRecDepth 100000 in
set_option maxHeartbeats 2000000 in
theorem checkDivisor_any (had : List Int) (part prize : Int) (shares : List Int) (num den : Int) (s s2 : Value) (w : World) (hl : had.length ≤ 1000) (hl2 : shares.length ≤ 1000) (hs : Ints w s had) (hs2 : Ints w s2 shares) :
    Calls Try.prog 31 #[.agg #[s, .int .i64 part, .int .i64 prize], s2, .agg #[.int .i64 num, .int .i64 den]] w fun e w' => e = .returned (.int .i64 (checkDivisorE had part prize shares num den)) ∧ Below w.heap.size w w' := by
  by_cases h0 : sharedE had part prize shares = 0
  case neg =>
    obtain ⟨A, c, rfl⟩ := hs.slice
    have hfin := hid (show checkDivisorE had part prize shares num den = sharedE had part prize shares by simp [checkDivisorE, h0])
    have hcp : (sharedE had part prize shares != 0) = true := by simpa using h0
    have H0 := hid h0
    clear h0
    go_enter Try.func31, Try.ntmps31
    go_wp2_with fail
    go_step3
    go_wp2_with fail
    refine (shared_any had part prize shares _ _ _ hl hl2 (hs.mono (bl_alloc (bl_alloc (bl_refl _) _) _)) (hs2.mono (bl_alloc (bl_alloc (bl_refl _) _) _))).mono ?_
    rintro e w1 hp
    obtain ⟨rfl, hb1⟩ := hp.inv_bad H0.out
    clear hp
    go_wp2
    rw [Exit.noGoto_ret]
    go_ret
    exact ⟨by rw [hfin.out]; rfl, bl_trans (bl_alloc (bl_alloc (bl_refl _) _) _) hb1⟩
  cases h1 : withinB 1 1073741824 [num, den]
  case true =>
    have e : checkDivisorE had part prize shares num den = if allRounds had part shares num den = true then 0 else 22 := by simp [checkDivisorE, h0, h1]
    rw [e]
    exact checkDivisor_good had part prize shares num den s s2 w hs hs2 h0 h1
  case false =>
    obtain ⟨A, c, rfl⟩ := hs.slice
    have hfin := hid (show checkDivisorE had part prize shares num den = 2 by simp [checkDivisorE, h0, h1])
    have H0 := hid h0
    have H1 := hid h1
    clear h0 h1
    go_enter Try.func31, Try.ntmps31
    go_wp2_with fail
    go_step3
    go_wp2_with fail
    refine (shared_any had part prize shares _ _ _ hl hl2 (hs.mono (bl_alloc (bl_alloc (bl_refl _) _) _)) (hs2.mono (bl_alloc (bl_alloc (bl_refl _) _) _))).mono ?_
    rintro e w1 hp
    obtain ⟨g, b, off, c', rfl, hg, T, hb1⟩ := hp.inv_good H0.out
    clear hp
    have hB1 := bl_trans (bl_alloc (bl_alloc (bl_refl w) _) _) hb1
    obtain ⟨hq1, hqf1⟩ := new_cells (w := w.alloc _) hb1
    simp only [World.size_alloc] at hq1 hqf1
    go_wp2_with fail
    refine (within_any 1 1073741824 [num, den] _ _ (by simp) (ints_two _ _ _ (by first | rfl | simp))).mono ?_
    rintro e w2 ⟨rfl, hb2⟩
    rw [H1.out]
    go_wp2
    rw [Exit.noGoto_ret]
    go_ret
    exact ⟨by rw [hfin.out]; rfl, bl_trans (bl_alloc hB1 _) hb2⟩

end Go.Proofs.Ytfchcikdcnloaaa
