/- reached, of ShareAll: both ends of a span are had. -/
import Derived.Test.YtfchcikdcnloaaaLawi
import Derived.Test.YtfchcikdcnloaaaPlain6
import Derived.Test.YtfchcikdcnloaaaRows2
import Derived.Deep.Cut
namespace Go.Proofs.Ytfchcikdcnloaaa
open Go Go.RowKit Go.Proofs
attribute [local go_sem] cell_grow frozen_grow

/-- The list with a log more for i, and one less for k (or the other way round). -/
def shift (sh : List Int) (i k : Nat) (x y : Int) : List Int := (sh.set i x).set k y
def GoodAt (had : List Int) (part prize : Int) (sh : List Int) (i k : Nat) (x y : Int) : Prop :=
  k ≠ i ∧ spanLo had part prize k < spanHi had part prize k ∧ spanLo had part prize k ≤ y ∧ y ≤ spanHi had part prize k ∧ refSharesE had part prize (shift sh i k x y) = 0

theorem good_two {had : List Int} {part prize : Int} (V : Val had part prize) {i : Nat} (hi : i < had.length) (hm : mark had part prize i = 2) : ∃ k, k < had.length ∧ GoodAt had part prize (sharesE had part prize) i k ((sharesE had part prize).getD i 0 + 1) ((sharesE had part prize).getD k 0 - 1) := by
  obtain ⟨k, hk, hc⟩ := mark_two V hi hm
  have hmk := (mark_cond V hk hi hc).1
  obtain ⟨e1, e2⟩ := span_mark V hk
  rw [if_pos hmk] at e1
  rw [if_neg (by omega)] at e2
  exact ⟨k, hk, (cond_parts.1 hc).1, by omega, by omega, by omega, moved_ok V hi hk hc⟩
theorem good_one {had : List Int} {part prize : Int} (V : Val had part prize) {i : Nat} (hi : i < had.length) (hm : mark had part prize i = 1) : ∃ k, k < had.length ∧ GoodAt had part prize (sharesE had part prize) i k ((sharesE had part prize).getD i 0 - 1) ((sharesE had part prize).getD k 0 + 1) := by
  obtain ⟨k, hk, hc⟩ := mark_one V hi hm
  have hmk := (mark_cond V hi hk hc).2
  obtain ⟨e1, e2⟩ := span_mark V hk
  rw [if_neg (by omega)] at e1
  rw [if_pos hmk] at e2
  have hne := (cond_parts.1 hc).1
  refine ⟨k, hk, Ne.symm hne, by omega, by omega, by omega, ?_⟩
  have := moved_ok V hk hi hc
  unfold moved at this
  unfold shift
  rwa [List.set_comm _ _ hne]

set_option maxRecDepth 100000 in
set_option maxHeartbeats 16000000 in
theorem reached_none (had : List Int) (part prize : Int) (i : Nat) (s s2 : Value) (w : World) (V : Val had part prize) (hil : i < had.length) (hs : Ints w s had) (hs2 : Ints w s2 (sharesE had part prize)) (hm : mark had part prize i = 0) :
    Calls Try.prog 45 #[.agg #[s, .int .i64 part, .int .i64 prize], s2, .int .i64 i] w fun e w' => e = .returned (.bool true) ∧ Below w.heap.size w w' := by
  have hv1 := V.l1
  have hv2 := V.l2
  obtain ⟨hsl, hsb, _⟩ := shares_facts V
  obtain ⟨b, off, c, rfl, hlc, hb, hcell⟩ := hs.some hv1
  obtain ⟨b2, off2, c2, rfl, hlc2, hb2, hcell2⟩ := hs2.some (by omega)
  rw [hsl]
  obtain ⟨si, hsi⟩ := get_at (l := sharesE had part prize) (k := i) (by omega)
  have gsi : (sharesE had part prize).getD i 0 = si := by simp only [List.getD, hsi, Option.getD_some]
  obtain ⟨e1, e2⟩ := span_mark V hil
  rw [gsi] at e1 e2
  have hsib := hsb si (List.mem_of_getElem? hsi)
  have HSP : Hid (∀ W (k : Nat), k < had.length → Below w.heap.size w W → Calls Try.prog 35 #[.agg #[.slice (some ⟨b, off, none⟩) had.length c, .int .i64 part, .int .i64 prize], .int .i64 k] W fun e w' => e = .returned (.tuple #[.agg #[.int .i64 (spanLo had part prize k), .int .i64 (spanHi had part prize k)], .int .i64 0]) ∧ Below W.heap.size W w') := fun W k hk hW => by
    have := span_any had part prize k _ W (by omega) (hs.mono hW)
    rw [ownedE_ok.2 ⟨V, by omega, by omega⟩, spanR, if_pos (ownedE_ok.2 ⟨V, by omega, by omega⟩), Int.toNat_natCast] at this
    exact this
  rw [hm, if_neg (by omega)] at e1 e2
  have E1 := hid e1
  have E2 := hid e2
  clear V hsl hsb hcell hcell2 gsi e1 e2 hm hsi
  go_enter Try.func45, Try.ntmps45
  go_wp2_with fail
  refine (HSP.out _ i hil (bl_alloc (bl_refl _) _)).mono ?_
  rintro e w1 ⟨rfl, hb1⟩
  rw [E1.out, E2.out]
  have k1 := heap_new hb1
  have hB1 := bl_trans (bl_alloc (bl_refl w) _) hb1
  clear k1
  go_wp2
  go_ret
  exact ⟨rfl, bl_alloc hB1 _⟩

set_option maxRecDepth 100000 in
set_option maxHeartbeats 16000000 in
theorem reached_two (had : List Int) (part prize : Int) (i : Nat) (s s2 : Value) (w : World) (V : Val had part prize) (hil : i < had.length) (hs : Ints w s had) (hs2 : Ints w s2 (sharesE had part prize)) (hm : mark had part prize i = 2) :
    Calls Try.prog 45 #[.agg #[s, .int .i64 part, .int .i64 prize], s2, .int .i64 i] w fun e w' => e = .returned (.bool true) ∧ Below w.heap.size w w' := by
  have hv1 := V.l1
  have hv2 := V.l2
  obtain ⟨hsl, hsb, _⟩ := shares_facts V
  obtain ⟨b, off, c, rfl, hlc, hb, hcell⟩ := hs.some hv1
  obtain ⟨b2, off2, c2, rfl, hlc2, hb2, hcell2⟩ := hs2.some (by omega)
  rw [hsl]
  obtain ⟨si, hsi⟩ := get_at (l := sharesE had part prize) (k := i) (by omega)
  have gsi : (sharesE had part prize).getD i 0 = si := by simp only [List.getD, hsi, Option.getD_some]
  obtain ⟨e1, e2⟩ := span_mark V hil
  rw [gsi] at e1 e2
  have hsib := hsb si (List.mem_of_getElem? hsi)
  have HSP : Hid (∀ W (k : Nat), k < had.length → Below w.heap.size w W → Calls Try.prog 35 #[.agg #[.slice (some ⟨b, off, none⟩) had.length c, .int .i64 part, .int .i64 prize], .int .i64 k] W fun e w' => e = .returned (.tuple #[.agg #[.int .i64 (spanLo had part prize k), .int .i64 (spanHi had part prize k)], .int .i64 0]) ∧ Below W.heap.size W w') := fun W k hk hW => by
    have := span_any had part prize k _ W (by omega) (hs.mono hW)
    rw [ownedE_ok.2 ⟨V, by omega, by omega⟩, spanR, if_pos (ownedE_ok.2 ⟨V, by omega, by omega⟩), Int.toNat_natCast] at this
    exact this
  have HEX := good_two V hil hm
  rw [gsi] at HEX
  have E1 := hid (show spanLo had part prize i = si by rw [e1, hm]; simp)
  have E2 := hid (show spanHi had part prize i = si + 1 by rw [e2, hm]; simp)
  have HEXX := Lib.hid HEX
  have H21 : Hid (∀ W v (l : List Int), l.length ≤ 20 → Ints W (.slice (some ⟨b, off, none⟩) had.length c) had → Ints W v l → Calls Try.prog 21 #[.agg #[.slice (some ⟨b, off, none⟩) had.length c, .int .i64 part, .int .i64 prize], v] W fun e w' => e = .returned (.int .i64 (refSharesE had part prize l)) ∧ Below W.heap.size W w') := fun W v l hl hW hv => by
    have := checkShares_any had part prize l (.slice (some ⟨b, off, none⟩) had.length c) v W (by omega) (by omega) hW hv
    rwa [checkShares_law] at this
  have H22 : Hid (∀ W v (l : List Int), l.length ≤ 20 → Ints W (.slice (some ⟨b, off, none⟩) had.length c) had → Ints W v l → Calls Try.prog 22 #[.agg #[.slice (some ⟨b, off, none⟩) had.length c, .int .i64 part, .int .i64 prize], v] W fun e w' => e = .returned (.int .i64 (refSharesE had part prize l)) ∧ Below W.heap.size W w') := fun W v l hl hW hv => refCheckShares_any had part prize l _ _ W (by omega) (by omega) hW hv
  have HC2 := Lib.hid hcell2
  have HSL := hid hsl
  have HSB := Lib.hid hsb
  have HSI := hid hsi
  have HBND : Hid (∀ k, k < had.length → 0 ≤ spanLo had part prize k ∧ spanHi had part prize k ≤ 2000) := fun k hk => by
    obtain ⟨f1, f2⟩ := span_mark V hk
    obtain ⟨z, hz⟩ := get_at (l := sharesE had part prize) (k := k) (by omega)
    have hzb := hsb z (List.mem_of_getElem? hz)
    have gz : (sharesE had part prize).getD k 0 = z := by simp only [List.getD, hz, Option.getD_some]
    rw [gz] at f1 f2
    rw [f1, f2]
    refine ⟨?_, by split <;> omega⟩
    split
    · rename_i h
      obtain ⟨j, hj, hc⟩ := mark_one V hk h
      have := (cond_parts.1 hc).2.1
      rw [gz] at this
      omega
    · omega
  generalize hsa : sharesE had part prize = sa at *
  have HSA := hid hsa
  have hneq : (si == si) = true := by simp
  have hne2 : (si == si + 1) = false := by simp; omega
  clear V hsl hsb hcell hcell2 gsi e1 e2 hm hsi HEX hsa
  go_enter Try.func45, Try.ntmps45
  go_wp2_with fail
  refine (HSP.out _ i hil (bl_alloc (bl_refl _) _)).mono ?_
  rintro e w1 ⟨rfl, hb1⟩
  rw [E1.out, E2.out]
  have k1 := heap_new hb1
  have hB1 := bl_trans (bl_alloc (bl_refl w) _) hb1
  have K1 := hid k1
  clear k1
  have hl1 : w.heap.size < w1.heap.size := (Array.getElem?_eq_some_iff.1 K1.out).1
  go_wp2
  obtain ⟨w2, hw2⟩ : ∃ w2, w1.alloc (.cells #[.int .i64 (si), .int .i64 (si + 1)] 47) = w2 := ⟨_, rfl⟩
  have k7 := World.alloc_heap_new w1 (.cells #[.int .i64 (si), .int .i64 (si + 1)] 47)
  have hb12 : Below w1.heap.size w1 w2 := by rw [← hw2]; exact bl_alloc (bl_refl _) _
  rw [hw2] at k7 ⊢
  have hB2 := bl_trans hB1 hb12
  have HP : Hid (∀ W, Below w2.heap.size w2 W → (∀ i, W.cell? ⟨w.heap.size, i, none⟩ = #[Value.slice (some ⟨b, off, none⟩) had.length c, .int .i64 part, .int .i64 prize][i]?) ∧ (∀ i, W.cell? ⟨w1.heap.size, i, none⟩ = #[Value.int .i64 (si), .int .i64 (si + 1)][i]?) ∧ w.heap.size < W.heap.size ∧ w1.heap.size < W.heap.size) := fun W hW =>
    ⟨fun i => cell_of_heap (heap_mono K1.out (bl_trans hb12 hW)), fun i => cell_of_heap (heap_mono k7 hW), (Array.getElem?_eq_some_iff.1 (heap_mono K1.out (bl_trans hb12 hW))).1, (Array.getElem?_eq_some_iff.1 (heap_mono k7 hW)).1⟩
  clear hw2 k7 hb1 K1
  go_loopw [9] (fun q wr => ∃ k : Nat, k ≤ had.length ∧ q = .int .i64 k ∧ Below w2.heap.size w2 wr ∧ Hid (∀ k', k' < k → ¬ GoodAt had part prize sa i k' (si + 1) (sa.getD k' 0 - 1))) (fun q _ => had.length - (intOf q).toNat)
  case atStart => exact ⟨0, Nat.zero_le _, rfl, bl_refl _, fun k' h => by omega⟩
  case round =>
    obtain ⟨k, hk, rfl, hBr, hNG⟩ := hrel
    by_cases hlt : k < had.length
    · have hBw := bl_trans hB2 hBr
      obtain ⟨hp, hr7, hpl, hrl⟩ := HP.out wr hBr
      obtain ⟨sk, hsk⟩ := get_at (l := sa) (k := k) (by rw [HSL.out]; exact hlt)
      have hskb := HSB.out sk (List.mem_of_getElem? hsk)
      have hgk : sa.getD k 0 = sk := by simp only [List.getD, hsk, Option.getD_some]
      have hstep : Hid (¬ GoodAt had part prize sa i k (si + 1) (sk - 1) → ∀ k', k' < k + 1 → ¬ GoodAt had part prize sa i k' (si + 1) (sa.getD k' 0 - 1)) := fun h k' hk' => by
        by_cases e : k' = k
        · subst e; rw [hgk]; exact h
        · exact hNG.out k' (by omega)
      have hcall := HSP.out wr k hlt hBw
      have hbnd := HBND.out k hlt
      have HG : Hid (GoodAt had part prize sa i k (si + 1) (sk - 1) ↔ k ≠ i ∧ spanLo had part prize k < spanHi had part prize k ∧ spanLo had part prize k ≤ sk - 1 ∧ sk - 1 ≤ spanHi had part prize k ∧ refSharesE had part prize (shift sa i k (si + 1) (sk - 1)) = 0) := Iff.rfl
      generalize spanLo had part prize k = ol at *
      generalize spanHi had part prize k = oh at *
      clear hgk hNG
      go_wp2_with fail
      refine hcall.mono ?_
      rintro e w3 ⟨rfl, hb3⟩
      clear hcall
      go_upto_region 12 with (fail)
      obtain ⟨w4, hw4⟩ : ∃ w4, w3.alloc (.cells #[.int .i64 ol, .int .i64 oh] 47) = w4 := ⟨_, rfl⟩
      have k10 := World.alloc_heap_new w3 (.cells #[.int .i64 ol, .int .i64 oh] 47)
      have hb34 : Below w3.heap.size w3 w4 := by rw [← hw4]; exact bl_alloc (bl_refl _) _
      rw [hw4] at k10 ⊢
      have hb4 := bl_trans hb3 hb34
      have hBr4 := bl_trans hBr hb4
      have hBw4 := bl_trans hBw hb4
      have hbe := bl_alloc (bl_refl w4) (.cells #[] 2)
      obtain ⟨cap, w5, hrun, hcap, hb5, hRow⟩ := append_row (W := w4.alloc (.cells #[] 2)) (b0 := w4.heap.size) (A := ⟨b2, off2, none⟩) (n := had.length) (c := c2) (l := sa) HSL.out (by omega) (by omega) (fun i x hx => by rw [Addr.add_lit]; exact cell_mono (HC2.out i x hx) (bl_trans hBw4 hbe))
      have hgl : (w4.alloc (.cells #[] 2)).heap.size = w4.heap.size + 1 := by simp
      rw [hgl] at hrun hRow
      have hb45 := bl_trans hbe hb5
      have hBr5 := bl_trans hBr4 hb45
      have hBw5 := bl_trans hBw4 hb45
      have K10 := hid (heap_mono k10 hb45)
      have hw34l : w3.heap.size < w4.heap.size := (Array.getElem?_eq_some_iff.1 k10).1
      obtain ⟨hp5, hr75, hpl5, hrl5⟩ := HP.out w5 hBr5
      have hr750 : w5.cell? ⟨w1.heap.size, 0, none⟩ = some (.int .i64 (si)) := hr75 0
      have hsi5 := cell_mono (HC2.out i si HSI.out) hBw5
      have hb25 : b2 < w5.heap.size := Nat.lt_of_lt_of_le hb2 hBw5.size
      have hw24 : w2.heap.size ≤ w4.heap.size := hBr4.size
      clear hw4 hb34 k10 hp hr7 hpl hrl hb3 hbe hb5
      go_upto_region 13 with ((at_builtin; refine wpList_append_run rfl _ _ 22 rfl _ _ _ _ rfl rfl hrun ?_))
      clear hrun
      go_quiet (fail)
      have hRn := hRow.mono (bl_drewN (bl_refl w5) nq)
      have hBrn := bl_drewN hBr5 nq
      have hBwn := bl_drewN hBw5 nq
      have K10n := hid (heap_mono K10.out (bl_drewN (bl_refl w5) nq))
      clear hr75 hr750 hsi5 hb25 hp5 hpl5 hrl5 hBr5 hBw5 hRow K10 hb45 hb4 hBr4 hBw4
      obtain ⟨wn, hwn⟩ : ∃ wn, w5.drewN nq = wn := ⟨_, rfl⟩
      rw [hwn] at hRn hBrn hBwn K10n ⊢
      clear hwn
      have hgi := hRn.cell HSI.out
      have hgf := hRn.fr
      have hgl2 := hRn.lt
      have hR1 := hRn.set (i := i) (by rw [HSL.out]; exact hil) (si + 1)
      have hxw : IntKind.i64.wrap (si + 1) = si + 1 := IntWalk.i64_in _ (by omega)
      by_cases hki : k = i
      · subst hki
        have hng := Lib.hid (hstep.out (fun h => (HG.out.1 h).1 rfl))
        have d0 : ((k : Int) != (k : Int)) = false := by simp
        obtain rfl : sk = si := by have := HSI.out; rw [hsk] at this; injection this
        have hw0 : IntKind.i64.wrap (sk + 1 - 1) = sk := by rw [show (sk + 1 - 1 : Int) = sk by omega]; exact IntWalk.i64_in _ (by omega)
        have hB3 := bl_set (bl_set hBrn (o := k) (.int .i64 (sk + 1)) (show w2.heap.size ≤ w4.heap.size + 1 by omega)) (o := k) (.int .i64 sk) (show w2.heap.size ≤ w4.heap.size + 1 by omega)
        have h3l : ((wn.setCell ⟨w4.heap.size + 1, k, none⟩ (.int .i64 (sk + 1))).setCell ⟨w4.heap.size + 1, k, none⟩ (.int .i64 sk)).heap.size = wn.heap.size := by simp [World.setCell]
        have hki' : (k : Int) < (had.length : Int) := by omega
        clear hR1 HG hstep hsk
        go_upto_region 18 with (fail)
        obtain ⟨w6, hw6⟩ : ∃ w6, (wn.setCell ⟨w4.heap.size + 1, k, none⟩ (.int .i64 (sk + 1))).setCell ⟨w4.heap.size + 1, k, none⟩ (.int .i64 sk) = w6 := ⟨_, rfl⟩
        rw [hw6] at hB3 ⊢
        clear hw6 h3l hgi hgf K10n hRn
        refine wp_region_below (by kernel_rfl) (by kernel_rfl) ?_
        repeat (first | go_big_quiet_step (fail) | quiet_step (fail))
        refine wpQuiet_nil ?_
        intro we hbe
        go_wp2
        go_roundw
        case rel => exact ⟨k + 1, by omega, by go_num, bl_trans hB3 hbe, hng⟩
        case measure => simp [intOf]; omega
      · have hik' : ¬ i = k := fun h => hki h.symm
        have hyw : IntKind.i64.wrap (sk - 1) = sk - 1 := IntWalk.i64_in _ (by omega)
        have hgk := hRn.cell hsk
        have hR2 := hR1.set (i := k) (by rw [List.length_set, HSL.out]; exact hlt) (sk - 1)
        have hBr6 := bl_set (bl_set hBrn (o := i) (.int .i64 (si + 1)) (show w2.heap.size ≤ w4.heap.size + 1 by omega)) (o := k) (.int .i64 (sk - 1)) (show w2.heap.size ≤ w4.heap.size + 1 by omega)
        have hBw6 := bl_set (bl_set hBwn (o := i) (.int .i64 (si + 1)) (show w.heap.size ≤ w4.heap.size + 1 by have := hB2.size; omega)) (o := k) (.int .i64 (sk - 1)) (show w.heap.size ≤ w4.heap.size + 1 by have := hB2.size; omega)
        have K6 := hid (heap_grown (heap_grown K10n.out (grown_set wn (w4.heap.size + 1) i (.int .i64 (si + 1))) (by have := hw34l; omega)) (grown_set _ (w4.heap.size + 1) k (.int .i64 (sk - 1))) (by have := hw34l; omega))
        go_upto_region 18 with (fail)
        obtain ⟨w6, hw6⟩ : ∃ w6, (wn.setCell ⟨w4.heap.size + 1, i, none⟩ (.int .i64 (si + 1))).setCell ⟨w4.heap.size + 1, k, none⟩ (.int .i64 (sk - 1)) = w6 := ⟨_, rfl⟩
        rw [hw6] at hR2 hBr6 hBw6 K6 ⊢
        clear hw6 hgi hgf hgk hR1
        obtain ⟨hp6, _, hpl6, _⟩ := HP.out w6 hBr6
        have c10 := fun i => cell_of_heap (i := i) K6.out
        have l10 := (Array.getElem?_eq_some_iff.1 K6.out).1
        have hxk : w6.cell? ⟨w4.heap.size + 1, k, none⟩ = some (.int .i64 (sk - 1)) := hR2.cell (by simp [HSL.out, hlt])
        have hgl6 := hR2.lt
        have hSH : Hid (RowR w6 (w4.heap.size + 1) (shift sa i k (si + 1) (sk - 1))) := hR2
        have hsl' : (shift sa i k (si + 1) (sk - 1)).length = had.length := by simp [shift, HSL.out]
        have G21 : Hid (∀ W, Below w6.heap.size w6 W → Calls Try.prog 21 #[.agg #[.slice (some ⟨b, off, none⟩) had.length c, .int .i64 part, .int .i64 prize], .slice (some ⟨w4.heap.size + 1, 0, none⟩) had.length cap] W fun e w' => e = .returned (.int .i64 (refSharesE had part prize (shift sa i k (si + 1) (sk - 1)))) ∧ Below W.heap.size W w') := fun W hW => H21.out W _ _ (by rw [hsl']; omega) (hs.mono (bl_trans hBw6 hW)) ((hSH.out.mono hW).ints hsl' hcap)
        have G22 : Hid (∀ W, Below w6.heap.size w6 W → Calls Try.prog 22 #[.agg #[.slice (some ⟨b, off, none⟩) had.length c, .int .i64 part, .int .i64 prize], .slice (some ⟨w4.heap.size + 1, 0, none⟩) had.length cap] W fun e w' => e = .returned (.int .i64 (refSharesE had part prize (shift sa i k (si + 1) (sk - 1)))) ∧ Below W.heap.size W w') := fun W hW => H22.out W _ _ (by rw [hsl']; omega) (hs.mono (bl_trans hBw6 hW)) ((hSH.out.mono hW).ints hsl' hcap)
        have d0 : ((k : Int) != (i : Int)) = true := by simp; omega
        have HSH := hid hsl'
        clear hR2 hsl' hsk K10n
        generalize hre : refSharesE had part prize (shift sa i k (si + 1) (sk - 1)) = re at *
        have HRE := hid hre
        clear hre
        by_cases g1 : ol < oh
        · have d1 : decide (ol < oh) = true := by simpa using g1
          by_cases g2 : ol ≤ sk - 1
          · have d2 : decide (ol ≤ sk - 1) = true := by simpa using g2
            by_cases g3 : sk - 1 ≤ oh
            · have d3 : decide (sk - 1 ≤ oh) = true := by simpa using g3
              by_cases g4 : re = 0
              · have d4 : (re == 0) = true := by simpa using g4
                clear g1 g2 g3 g4 HG hstep
                go_wp2
                refine wp_region_below (by kernel_rfl) (by kernel_rfl) ?_
                repeat (first | go_big_quiet_step (first | (go_at_call 21; exact Calls.regrown_of (G21.out _ (below_regrown _ _ _))) | (go_at_call 22; exact Calls.regrown_of (G22.out _ (below_regrown _ _ _)))) | quiet_step (first | (go_at_call 21; exact Calls.regrown_of (G21.out _ (below_regrown _ _ _))) | (go_at_call 22; exact Calls.regrown_of (G22.out _ (below_regrown _ _ _)))))
                refine wpQuiet_nil ?_
                intro we hbe
                clear c10 hxk hp6
                go_wp2
                go_ret
                exact ⟨rfl, bl_trans hBw6 hbe⟩
              · have d4 : (re == 0) = false := by simpa using g4
                have hng := Lib.hid (hstep.out (fun h => g4 ((HG.out.1 h).2.2.2.2)))
                clear g1 g2 g3 g4 HG hstep
                go_wp2
                refine wp_region_below (by kernel_rfl) (by kernel_rfl) ?_
                repeat (first | go_big_quiet_step (first | (go_at_call 21; exact Calls.regrown_of (G21.out _ (below_regrown _ _ _))) | (go_at_call 22; exact Calls.regrown_of (G22.out _ (below_regrown _ _ _)))) | quiet_step (first | (go_at_call 21; exact Calls.regrown_of (G21.out _ (below_regrown _ _ _))) | (go_at_call 22; exact Calls.regrown_of (G22.out _ (below_regrown _ _ _)))))
                refine wpQuiet_nil ?_
                intro we hbe
                clear c10 hxk hp6
                go_wp2
                go_roundw
                case rel => exact ⟨k + 1, by omega, by go_num, bl_trans hBr6 hbe, hng⟩
                case measure => simp [intOf]; omega
            · have d3 : decide (sk - 1 ≤ oh) = false := by simpa using g3
              have hng := Lib.hid (hstep.out (fun h => g3 ((HG.out.1 h).2.2.2.1)))
              clear g1 g2 g3 HG hstep
              go_wp2
              refine wp_region_below (by kernel_rfl) (by kernel_rfl) ?_
              repeat (first | go_big_quiet_step (first | (go_at_call 21; exact Calls.regrown_of (G21.out _ (below_regrown _ _ _))) | (go_at_call 22; exact Calls.regrown_of (G22.out _ (below_regrown _ _ _)))) | quiet_step (first | (go_at_call 21; exact Calls.regrown_of (G21.out _ (below_regrown _ _ _))) | (go_at_call 22; exact Calls.regrown_of (G22.out _ (below_regrown _ _ _)))))
              refine wpQuiet_nil ?_
              intro we hbe
              clear c10 hxk hp6
              go_wp2
              go_roundw
              case rel => exact ⟨k + 1, by omega, by go_num, bl_trans hBr6 hbe, hng⟩
              case measure => simp [intOf]; omega
          · have d2 : decide (ol ≤ sk - 1) = false := by simpa using g2
            have hng := Lib.hid (hstep.out (fun h => g2 ((HG.out.1 h).2.2.1)))
            clear g1 g2 HG hstep
            go_wp2
            refine wp_region_below (by kernel_rfl) (by kernel_rfl) ?_
            repeat (first | go_big_quiet_step (first | (go_at_call 21; exact Calls.regrown_of (G21.out _ (below_regrown _ _ _))) | (go_at_call 22; exact Calls.regrown_of (G22.out _ (below_regrown _ _ _)))) | quiet_step (first | (go_at_call 21; exact Calls.regrown_of (G21.out _ (below_regrown _ _ _))) | (go_at_call 22; exact Calls.regrown_of (G22.out _ (below_regrown _ _ _)))))
            refine wpQuiet_nil ?_
            intro we hbe
            clear c10 hxk hp6
            go_wp2
            go_roundw
            case rel => exact ⟨k + 1, by omega, by go_num, bl_trans hBr6 hbe, hng⟩
            case measure => simp [intOf]; omega
        · have d1 : decide (ol < oh) = false := by simpa using g1
          have hng := Lib.hid (hstep.out (fun h => g1 ((HG.out.1 h).2.1)))
          clear g1 HG hstep
          go_wp2
          refine wp_region_below (by kernel_rfl) (by kernel_rfl) ?_
          repeat (first | go_big_quiet_step (first | (go_at_call 21; exact Calls.regrown_of (G21.out _ (below_regrown _ _ _))) | (go_at_call 22; exact Calls.regrown_of (G22.out _ (below_regrown _ _ _)))) | quiet_step (first | (go_at_call 21; exact Calls.regrown_of (G21.out _ (below_regrown _ _ _))) | (go_at_call 22; exact Calls.regrown_of (G22.out _ (below_regrown _ _ _)))))
          refine wpQuiet_nil ?_
          intro we hbe
          clear c10 hxk hp6
          go_wp2
          go_roundw
          case rel => exact ⟨k + 1, by omega, by go_num, bl_trans hBr6 hbe, hng⟩
          case measure => simp [intOf]; omega
    · obtain rfl : k = had.length := by omega
      obtain ⟨k0, hk0, hg⟩ := HEXX.out
      exact absurd hg (hNG.out k0 hk0)

set_option maxRecDepth 100000 in
set_option maxHeartbeats 16000000 in
theorem reached_one (had : List Int) (part prize : Int) (i : Nat) (s s2 : Value) (w : World) (V : Val had part prize) (hil : i < had.length) (hs : Ints w s had) (hs2 : Ints w s2 (sharesE had part prize)) (hm : mark had part prize i = 1) :
    Calls Try.prog 45 #[.agg #[s, .int .i64 part, .int .i64 prize], s2, .int .i64 i] w fun e w' => e = .returned (.bool true) ∧ Below w.heap.size w w' := by
  have hv1 := V.l1
  have hv2 := V.l2
  obtain ⟨hsl, hsb, _⟩ := shares_facts V
  obtain ⟨b, off, c, rfl, hlc, hb, hcell⟩ := hs.some hv1
  obtain ⟨b2, off2, c2, rfl, hlc2, hb2, hcell2⟩ := hs2.some (by omega)
  rw [hsl]
  obtain ⟨si, hsi⟩ := get_at (l := sharesE had part prize) (k := i) (by omega)
  have gsi : (sharesE had part prize).getD i 0 = si := by simp only [List.getD, hsi, Option.getD_some]
  obtain ⟨e1, e2⟩ := span_mark V hil
  rw [gsi] at e1 e2
  have hsib := hsb si (List.mem_of_getElem? hsi)
  have HSP : Hid (∀ W (k : Nat), k < had.length → Below w.heap.size w W → Calls Try.prog 35 #[.agg #[.slice (some ⟨b, off, none⟩) had.length c, .int .i64 part, .int .i64 prize], .int .i64 k] W fun e w' => e = .returned (.tuple #[.agg #[.int .i64 (spanLo had part prize k), .int .i64 (spanHi had part prize k)], .int .i64 0]) ∧ Below W.heap.size W w') := fun W k hk hW => by
    have := span_any had part prize k _ W (by omega) (hs.mono hW)
    rw [ownedE_ok.2 ⟨V, by omega, by omega⟩, spanR, if_pos (ownedE_ok.2 ⟨V, by omega, by omega⟩), Int.toNat_natCast] at this
    exact this
  have HEX := good_one V hil hm
  rw [gsi] at HEX
  have E1 := hid (show spanLo had part prize i = si - 1 by rw [e1, hm]; simp)
  have E2 := hid (show spanHi had part prize i = si by rw [e2, hm]; simp)
  have HEXX := Lib.hid HEX
  have H21 : Hid (∀ W v (l : List Int), l.length ≤ 20 → Ints W (.slice (some ⟨b, off, none⟩) had.length c) had → Ints W v l → Calls Try.prog 21 #[.agg #[.slice (some ⟨b, off, none⟩) had.length c, .int .i64 part, .int .i64 prize], v] W fun e w' => e = .returned (.int .i64 (refSharesE had part prize l)) ∧ Below W.heap.size W w') := fun W v l hl hW hv => by
    have := checkShares_any had part prize l (.slice (some ⟨b, off, none⟩) had.length c) v W (by omega) (by omega) hW hv
    rwa [checkShares_law] at this
  have H22 : Hid (∀ W v (l : List Int), l.length ≤ 20 → Ints W (.slice (some ⟨b, off, none⟩) had.length c) had → Ints W v l → Calls Try.prog 22 #[.agg #[.slice (some ⟨b, off, none⟩) had.length c, .int .i64 part, .int .i64 prize], v] W fun e w' => e = .returned (.int .i64 (refSharesE had part prize l)) ∧ Below W.heap.size W w') := fun W v l hl hW hv => refCheckShares_any had part prize l _ _ W (by omega) (by omega) hW hv
  have HC2 := Lib.hid hcell2
  have HSL := hid hsl
  have HSB := Lib.hid hsb
  have HSI := hid hsi
  have HBND : Hid (∀ k, k < had.length → 0 ≤ spanLo had part prize k ∧ spanHi had part prize k ≤ 2000) := fun k hk => by
    obtain ⟨f1, f2⟩ := span_mark V hk
    obtain ⟨z, hz⟩ := get_at (l := sharesE had part prize) (k := k) (by omega)
    have hzb := hsb z (List.mem_of_getElem? hz)
    have gz : (sharesE had part prize).getD k 0 = z := by simp only [List.getD, hz, Option.getD_some]
    rw [gz] at f1 f2
    rw [f1, f2]
    refine ⟨?_, by split <;> omega⟩
    split
    · rename_i h
      obtain ⟨j, hj, hc⟩ := mark_one V hk h
      have := (cond_parts.1 hc).2.1
      rw [gz] at this
      omega
    · omega
  generalize hsa : sharesE had part prize = sa at *
  have HSA := hid hsa
  have hneq : (si == si - 1) = false := by simp; omega
  have hne2 : (si - 1 == si) = false := by simp; omega
  clear V hsl hsb hcell hcell2 gsi e1 e2 hm hsi HEX hsa
  go_enter Try.func45, Try.ntmps45
  go_wp2_with fail
  refine (HSP.out _ i hil (bl_alloc (bl_refl _) _)).mono ?_
  rintro e w1 ⟨rfl, hb1⟩
  rw [E1.out, E2.out]
  have k1 := heap_new hb1
  have hB1 := bl_trans (bl_alloc (bl_refl w) _) hb1
  have K1 := hid k1
  clear k1
  have hl1 : w.heap.size < w1.heap.size := (Array.getElem?_eq_some_iff.1 K1.out).1
  go_wp2
  obtain ⟨w2, hw2⟩ : ∃ w2, w1.alloc (.cells #[.int .i64 (si - 1), .int .i64 (si)] 47) = w2 := ⟨_, rfl⟩
  have k7 := World.alloc_heap_new w1 (.cells #[.int .i64 (si - 1), .int .i64 (si)] 47)
  have hb12 : Below w1.heap.size w1 w2 := by rw [← hw2]; exact bl_alloc (bl_refl _) _
  rw [hw2] at k7 ⊢
  have hB2 := bl_trans hB1 hb12
  have HP : Hid (∀ W, Below w2.heap.size w2 W → (∀ i, W.cell? ⟨w.heap.size, i, none⟩ = #[Value.slice (some ⟨b, off, none⟩) had.length c, .int .i64 part, .int .i64 prize][i]?) ∧ (∀ i, W.cell? ⟨w1.heap.size, i, none⟩ = #[Value.int .i64 (si - 1), .int .i64 (si)][i]?) ∧ w.heap.size < W.heap.size ∧ w1.heap.size < W.heap.size) := fun W hW =>
    ⟨fun i => cell_of_heap (heap_mono K1.out (bl_trans hb12 hW)), fun i => cell_of_heap (heap_mono k7 hW), (Array.getElem?_eq_some_iff.1 (heap_mono K1.out (bl_trans hb12 hW))).1, (Array.getElem?_eq_some_iff.1 (heap_mono k7 hW)).1⟩
  clear hw2 k7 hb1 K1
  go_loopw [9] (fun q wr => ∃ k : Nat, k ≤ had.length ∧ q = .int .i64 k ∧ Below w2.heap.size w2 wr ∧ Hid (∀ k', k' < k → ¬ GoodAt had part prize sa i k' (si - 1) (sa.getD k' 0 + 1))) (fun q _ => had.length - (intOf q).toNat)
  case atStart => exact ⟨0, Nat.zero_le _, rfl, bl_refl _, fun k' h => by omega⟩
  case round =>
    obtain ⟨k, hk, rfl, hBr, hNG⟩ := hrel
    by_cases hlt : k < had.length
    · have hBw := bl_trans hB2 hBr
      obtain ⟨hp, hr7, hpl, hrl⟩ := HP.out wr hBr
      obtain ⟨sk, hsk⟩ := get_at (l := sa) (k := k) (by rw [HSL.out]; exact hlt)
      have hskb := HSB.out sk (List.mem_of_getElem? hsk)
      have hgk : sa.getD k 0 = sk := by simp only [List.getD, hsk, Option.getD_some]
      have hstep : Hid (¬ GoodAt had part prize sa i k (si - 1) (sk + 1) → ∀ k', k' < k + 1 → ¬ GoodAt had part prize sa i k' (si - 1) (sa.getD k' 0 + 1)) := fun h k' hk' => by
        by_cases e : k' = k
        · subst e; rw [hgk]; exact h
        · exact hNG.out k' (by omega)
      have hcall := HSP.out wr k hlt hBw
      have hbnd := HBND.out k hlt
      have HG : Hid (GoodAt had part prize sa i k (si - 1) (sk + 1) ↔ k ≠ i ∧ spanLo had part prize k < spanHi had part prize k ∧ spanLo had part prize k ≤ sk + 1 ∧ sk + 1 ≤ spanHi had part prize k ∧ refSharesE had part prize (shift sa i k (si - 1) (sk + 1)) = 0) := Iff.rfl
      generalize spanLo had part prize k = ol at *
      generalize spanHi had part prize k = oh at *
      clear hgk hNG
      go_wp2_with fail
      refine hcall.mono ?_
      rintro e w3 ⟨rfl, hb3⟩
      clear hcall
      go_upto_region 12 with (fail)
      obtain ⟨w4, hw4⟩ : ∃ w4, w3.alloc (.cells #[.int .i64 ol, .int .i64 oh] 47) = w4 := ⟨_, rfl⟩
      have k10 := World.alloc_heap_new w3 (.cells #[.int .i64 ol, .int .i64 oh] 47)
      have hb34 : Below w3.heap.size w3 w4 := by rw [← hw4]; exact bl_alloc (bl_refl _) _
      rw [hw4] at k10 ⊢
      have hb4 := bl_trans hb3 hb34
      have hBr4 := bl_trans hBr hb4
      have hBw4 := bl_trans hBw hb4
      have hbe := bl_alloc (bl_refl w4) (.cells #[] 2)
      obtain ⟨cap, w5, hrun, hcap, hb5, hRow⟩ := append_row (W := w4.alloc (.cells #[] 2)) (b0 := w4.heap.size) (A := ⟨b2, off2, none⟩) (n := had.length) (c := c2) (l := sa) HSL.out (by omega) (by omega) (fun i x hx => by rw [Addr.add_lit]; exact cell_mono (HC2.out i x hx) (bl_trans hBw4 hbe))
      have hgl : (w4.alloc (.cells #[] 2)).heap.size = w4.heap.size + 1 := by simp
      rw [hgl] at hrun hRow
      have hb45 := bl_trans hbe hb5
      have hBr5 := bl_trans hBr4 hb45
      have hBw5 := bl_trans hBw4 hb45
      have K10 := hid (heap_mono k10 hb45)
      have hw34l : w3.heap.size < w4.heap.size := (Array.getElem?_eq_some_iff.1 k10).1
      obtain ⟨hp5, hr75, hpl5, hrl5⟩ := HP.out w5 hBr5
      have hr750 : w5.cell? ⟨w1.heap.size, 0, none⟩ = some (.int .i64 (si - 1)) := hr75 0
      have hsi5 := cell_mono (HC2.out i si HSI.out) hBw5
      have hb25 : b2 < w5.heap.size := Nat.lt_of_lt_of_le hb2 hBw5.size
      have hw24 : w2.heap.size ≤ w4.heap.size := hBr4.size
      clear hw4 hb34 k10 hp hr7 hpl hrl hb3 hbe hb5
      go_upto_region 13 with ((at_builtin; refine wpList_append_run rfl _ _ 22 rfl _ _ _ _ rfl rfl hrun ?_))
      clear hrun
      go_quiet (fail)
      have hRn := hRow.mono (bl_drewN (bl_refl w5) nq)
      have hBrn := bl_drewN hBr5 nq
      have hBwn := bl_drewN hBw5 nq
      have K10n := hid (heap_mono K10.out (bl_drewN (bl_refl w5) nq))
      clear hr75 hr750 hsi5 hb25 hp5 hpl5 hrl5 hBr5 hBw5 hRow K10 hb45 hb4 hBr4 hBw4
      obtain ⟨wn, hwn⟩ : ∃ wn, w5.drewN nq = wn := ⟨_, rfl⟩
      rw [hwn] at hRn hBrn hBwn K10n ⊢
      clear hwn
      have hgi := hRn.cell HSI.out
      have hgf := hRn.fr
      have hgl2 := hRn.lt
      have hR1 := hRn.set (i := i) (by rw [HSL.out]; exact hil) (si - 1)
      have hxw : IntKind.i64.wrap (si - 1) = si - 1 := IntWalk.i64_in _ (by omega)
      by_cases hki : k = i
      · subst hki
        have hng := Lib.hid (hstep.out (fun h => (HG.out.1 h).1 rfl))
        have d0 : ((k : Int) != (k : Int)) = false := by simp
        obtain rfl : sk = si := by have := HSI.out; rw [hsk] at this; injection this
        have hw0 : IntKind.i64.wrap (sk - 1 + 1) = sk := by rw [show (sk - 1 + 1 : Int) = sk by omega]; exact IntWalk.i64_in _ (by omega)
        have hB3 := bl_set (bl_set hBrn (o := k) (.int .i64 (sk - 1)) (show w2.heap.size ≤ w4.heap.size + 1 by omega)) (o := k) (.int .i64 sk) (show w2.heap.size ≤ w4.heap.size + 1 by omega)
        have h3l : ((wn.setCell ⟨w4.heap.size + 1, k, none⟩ (.int .i64 (sk - 1))).setCell ⟨w4.heap.size + 1, k, none⟩ (.int .i64 sk)).heap.size = wn.heap.size := by simp [World.setCell]
        have hki' : (k : Int) < (had.length : Int) := by omega
        clear hR1 HG hstep hsk
        go_upto_region 18 with (fail)
        obtain ⟨w6, hw6⟩ : ∃ w6, (wn.setCell ⟨w4.heap.size + 1, k, none⟩ (.int .i64 (sk - 1))).setCell ⟨w4.heap.size + 1, k, none⟩ (.int .i64 sk) = w6 := ⟨_, rfl⟩
        rw [hw6] at hB3 ⊢
        clear hw6 h3l hgi hgf K10n hRn
        refine wp_region_below (by kernel_rfl) (by kernel_rfl) ?_
        repeat (first | go_big_quiet_step (fail) | quiet_step (fail))
        refine wpQuiet_nil ?_
        intro we hbe
        go_wp2
        go_roundw
        case rel => exact ⟨k + 1, by omega, by go_num, bl_trans hB3 hbe, hng⟩
        case measure => simp [intOf]; omega
      · have hik' : ¬ i = k := fun h => hki h.symm
        have hyw : IntKind.i64.wrap (sk + 1) = sk + 1 := IntWalk.i64_in _ (by omega)
        have hgk := hRn.cell hsk
        have hR2 := hR1.set (i := k) (by rw [List.length_set, HSL.out]; exact hlt) (sk + 1)
        have hBr6 := bl_set (bl_set hBrn (o := i) (.int .i64 (si - 1)) (show w2.heap.size ≤ w4.heap.size + 1 by omega)) (o := k) (.int .i64 (sk + 1)) (show w2.heap.size ≤ w4.heap.size + 1 by omega)
        have hBw6 := bl_set (bl_set hBwn (o := i) (.int .i64 (si - 1)) (show w.heap.size ≤ w4.heap.size + 1 by have := hB2.size; omega)) (o := k) (.int .i64 (sk + 1)) (show w.heap.size ≤ w4.heap.size + 1 by have := hB2.size; omega)
        have K6 := hid (heap_grown (heap_grown K10n.out (grown_set wn (w4.heap.size + 1) i (.int .i64 (si - 1))) (by have := hw34l; omega)) (grown_set _ (w4.heap.size + 1) k (.int .i64 (sk + 1))) (by have := hw34l; omega))
        go_upto_region 18 with (fail)
        obtain ⟨w6, hw6⟩ : ∃ w6, (wn.setCell ⟨w4.heap.size + 1, i, none⟩ (.int .i64 (si - 1))).setCell ⟨w4.heap.size + 1, k, none⟩ (.int .i64 (sk + 1)) = w6 := ⟨_, rfl⟩
        rw [hw6] at hR2 hBr6 hBw6 K6 ⊢
        clear hw6 hgi hgf hgk hR1
        obtain ⟨hp6, _, hpl6, _⟩ := HP.out w6 hBr6
        have c10 := fun i => cell_of_heap (i := i) K6.out
        have l10 := (Array.getElem?_eq_some_iff.1 K6.out).1
        have hxk : w6.cell? ⟨w4.heap.size + 1, k, none⟩ = some (.int .i64 (sk + 1)) := hR2.cell (by simp [HSL.out, hlt])
        have hgl6 := hR2.lt
        have hSH : Hid (RowR w6 (w4.heap.size + 1) (shift sa i k (si - 1) (sk + 1))) := hR2
        have hsl' : (shift sa i k (si - 1) (sk + 1)).length = had.length := by simp [shift, HSL.out]
        have G21 : Hid (∀ W, Below w6.heap.size w6 W → Calls Try.prog 21 #[.agg #[.slice (some ⟨b, off, none⟩) had.length c, .int .i64 part, .int .i64 prize], .slice (some ⟨w4.heap.size + 1, 0, none⟩) had.length cap] W fun e w' => e = .returned (.int .i64 (refSharesE had part prize (shift sa i k (si - 1) (sk + 1)))) ∧ Below W.heap.size W w') := fun W hW => H21.out W _ _ (by rw [hsl']; omega) (hs.mono (bl_trans hBw6 hW)) ((hSH.out.mono hW).ints hsl' hcap)
        have G22 : Hid (∀ W, Below w6.heap.size w6 W → Calls Try.prog 22 #[.agg #[.slice (some ⟨b, off, none⟩) had.length c, .int .i64 part, .int .i64 prize], .slice (some ⟨w4.heap.size + 1, 0, none⟩) had.length cap] W fun e w' => e = .returned (.int .i64 (refSharesE had part prize (shift sa i k (si - 1) (sk + 1)))) ∧ Below W.heap.size W w') := fun W hW => H22.out W _ _ (by rw [hsl']; omega) (hs.mono (bl_trans hBw6 hW)) ((hSH.out.mono hW).ints hsl' hcap)
        have d0 : ((k : Int) != (i : Int)) = true := by simp; omega
        have HSH := hid hsl'
        clear hR2 hsl' hsk K10n
        generalize hre : refSharesE had part prize (shift sa i k (si - 1) (sk + 1)) = re at *
        have HRE := hid hre
        clear hre
        by_cases g1 : ol < oh
        · have d1 : decide (ol < oh) = true := by simpa using g1
          by_cases g2 : ol ≤ sk + 1
          · have d2 : decide (ol ≤ sk + 1) = true := by simpa using g2
            by_cases g3 : sk + 1 ≤ oh
            · have d3 : decide (sk + 1 ≤ oh) = true := by simpa using g3
              by_cases g4 : re = 0
              · have d4 : (re == 0) = true := by simpa using g4
                clear g1 g2 g3 g4 HG hstep
                go_wp2
                refine wp_region_below (by kernel_rfl) (by kernel_rfl) ?_
                repeat (first | go_big_quiet_step (first | (go_at_call 21; exact Calls.regrown_of (G21.out _ (below_regrown _ _ _))) | (go_at_call 22; exact Calls.regrown_of (G22.out _ (below_regrown _ _ _)))) | quiet_step (first | (go_at_call 21; exact Calls.regrown_of (G21.out _ (below_regrown _ _ _))) | (go_at_call 22; exact Calls.regrown_of (G22.out _ (below_regrown _ _ _)))))
                refine wpQuiet_nil ?_
                intro we hbe
                clear c10 hxk hp6
                go_wp2
                go_ret
                exact ⟨rfl, bl_trans hBw6 hbe⟩
              · have d4 : (re == 0) = false := by simpa using g4
                have hng := Lib.hid (hstep.out (fun h => g4 ((HG.out.1 h).2.2.2.2)))
                clear g1 g2 g3 g4 HG hstep
                go_wp2
                refine wp_region_below (by kernel_rfl) (by kernel_rfl) ?_
                repeat (first | go_big_quiet_step (first | (go_at_call 21; exact Calls.regrown_of (G21.out _ (below_regrown _ _ _))) | (go_at_call 22; exact Calls.regrown_of (G22.out _ (below_regrown _ _ _)))) | quiet_step (first | (go_at_call 21; exact Calls.regrown_of (G21.out _ (below_regrown _ _ _))) | (go_at_call 22; exact Calls.regrown_of (G22.out _ (below_regrown _ _ _)))))
                refine wpQuiet_nil ?_
                intro we hbe
                clear c10 hxk hp6
                go_wp2
                go_roundw
                case rel => exact ⟨k + 1, by omega, by go_num, bl_trans hBr6 hbe, hng⟩
                case measure => simp [intOf]; omega
            · have d3 : decide (sk + 1 ≤ oh) = false := by simpa using g3
              have hng := Lib.hid (hstep.out (fun h => g3 ((HG.out.1 h).2.2.2.1)))
              clear g1 g2 g3 HG hstep
              go_wp2
              refine wp_region_below (by kernel_rfl) (by kernel_rfl) ?_
              repeat (first | go_big_quiet_step (first | (go_at_call 21; exact Calls.regrown_of (G21.out _ (below_regrown _ _ _))) | (go_at_call 22; exact Calls.regrown_of (G22.out _ (below_regrown _ _ _)))) | quiet_step (first | (go_at_call 21; exact Calls.regrown_of (G21.out _ (below_regrown _ _ _))) | (go_at_call 22; exact Calls.regrown_of (G22.out _ (below_regrown _ _ _)))))
              refine wpQuiet_nil ?_
              intro we hbe
              clear c10 hxk hp6
              go_wp2
              go_roundw
              case rel => exact ⟨k + 1, by omega, by go_num, bl_trans hBr6 hbe, hng⟩
              case measure => simp [intOf]; omega
          · have d2 : decide (ol ≤ sk + 1) = false := by simpa using g2
            have hng := Lib.hid (hstep.out (fun h => g2 ((HG.out.1 h).2.2.1)))
            clear g1 g2 HG hstep
            go_wp2
            refine wp_region_below (by kernel_rfl) (by kernel_rfl) ?_
            repeat (first | go_big_quiet_step (first | (go_at_call 21; exact Calls.regrown_of (G21.out _ (below_regrown _ _ _))) | (go_at_call 22; exact Calls.regrown_of (G22.out _ (below_regrown _ _ _)))) | quiet_step (first | (go_at_call 21; exact Calls.regrown_of (G21.out _ (below_regrown _ _ _))) | (go_at_call 22; exact Calls.regrown_of (G22.out _ (below_regrown _ _ _)))))
            refine wpQuiet_nil ?_
            intro we hbe
            clear c10 hxk hp6
            go_wp2
            go_roundw
            case rel => exact ⟨k + 1, by omega, by go_num, bl_trans hBr6 hbe, hng⟩
            case measure => simp [intOf]; omega
        · have d1 : decide (ol < oh) = false := by simpa using g1
          have hng := Lib.hid (hstep.out (fun h => g1 ((HG.out.1 h).2.1)))
          clear g1 HG hstep
          go_wp2
          refine wp_region_below (by kernel_rfl) (by kernel_rfl) ?_
          repeat (first | go_big_quiet_step (first | (go_at_call 21; exact Calls.regrown_of (G21.out _ (below_regrown _ _ _))) | (go_at_call 22; exact Calls.regrown_of (G22.out _ (below_regrown _ _ _)))) | quiet_step (first | (go_at_call 21; exact Calls.regrown_of (G21.out _ (below_regrown _ _ _))) | (go_at_call 22; exact Calls.regrown_of (G22.out _ (below_regrown _ _ _)))))
          refine wpQuiet_nil ?_
          intro we hbe
          clear c10 hxk hp6
          go_wp2
          go_roundw
          case rel => exact ⟨k + 1, by omega, by go_num, bl_trans hBr6 hbe, hng⟩
          case measure => simp [intOf]; omega
    · obtain rfl : k = had.length := by omega
      obtain ⟨k0, hk0, hg⟩ := HEXX.out
      exact absurd hg (hNG.out k0 hk0)

theorem reached_any (had : List Int) (part prize : Int) (i : Nat) (s s2 : Value) (w : World) (V : Val had part prize) (hil : i < had.length) (hs : Ints w s had) (hs2 : Ints w s2 (sharesE had part prize)) :
    Calls Try.prog 45 #[.agg #[s, .int .i64 part, .int .i64 prize], s2, .int .i64 i] w fun e w' => e = .returned (.bool true) ∧ Below w.heap.size w w' := by
  rcases mark_three V hil with h | h | h
  · exact reached_none had part prize i s s2 w V hil hs hs2 h
  · exact reached_one had part prize i s s2 w V hil hs hs2 h
  · exact reached_two had part prize i s s2 w V hil hs hs2 h

end Go.Proofs.Ytfchcikdcnloaaa
