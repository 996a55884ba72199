/- ShareTimes: the walk through the law. -/
import Derived.Test.YtfchcikdcnloaaaLawn
import Derived.Test.YtfchcikdcnloaaaPlain4
import Derived.Test.YtfchcikdcnloaaaRefe
import Derived.Deep.RegionLaw
import Derived.Deep.Cut
namespace Go.Proofs.Ytfchcikdcnloaaa
open Go Go.RowKit Go.Proofs
attribute [local go_sem] cell_grow frozen_grow

/-- An append to a row of the call's own, as one step of a region that draws its order. -/
theorem step_append_own {P : Program} {ops : Array Oper} {o : Oper} {a : Act} {w : World} {K : Act → World → Prop} {Q : Exit → Act → World → Prop} {E : Prop} (hgd : o.guard = none) (s x : Operand) (t : TypeId)
    (ho : o.op = .call { callee := .builtin .append, args := #[s, x], argTypes := #[t, t] })
    (base : Nat) (e : TypeId) (i : TypeInfo) (z : Value) (size bytes : Nat) (ht : P.underlying t = some (.slice e)) (hi : P.info? e = some i) (hz : i.zero = some z)
    (hsize : i.size = size) (hby : i.bytes = bytes) (hzs : z.cells.size = size) (hsz : 0 < size)
    (v : Value) (n : Nat) (xs : List Value) (hs : a.eval s = v) (hown : w.ownsRow base e size v n xs)
    (ad : Addr) (m c : Nat) (news : List Value) (hx : a.eval x = .slice (some ad) m c) (hl : news.length = m * size) (hnews : ∀ j u, news[j]? = some u → w.cell? (ad.add j) = some u) (h1 : ∀ u ∈ news, u.oneCell' = true)
    (h63 : n + m ≤ maxLen) (hbytes : (n + m) * bytes ≤ 140737488355328) (hbase : base ≤ w.heap.size)
    (h : ∀ v' w', w'.ownsRow base e size v' (n + m) (xs ++ news) → w.grownBy w' v.ownBlock → (v' = .slice none 0 0 ↔ v = .slice none 0 0 ∧ m = 0) → K (a.put o.dst v') w') :
    if Region.wanted o (yielded ops a.tmps) = true then Oper.wp P o a w K Q else E := by
  have hw : Region.wanted o (yielded ops a.tmps) = true := by simp [Region.wanted, hgd]
  rw [if_pos hw]
  exact wp_append_own w s x t ho base e i z size bytes ht hi hz hsize hby hzs hsz v n xs hs hown ad m c news hx hl hnews h1 h63 hbytes hbase h

/-- A block below the row's base stays. -/
theorem keep_grown {W W' : World} {base e size n X : Nat} {v : Value} {xs : List Value} {o : Obj} (h : W.heap[X]? = some o) (ho : W.ownsRow base e size v n xs) (hX : X < base) (hg : W.grownBy W' v.ownBlock) : W'.heap[X]? = some o := by
  rw [hg.block X (Array.getElem?_eq_some_iff.1 h).1 (fun e => by have := (ho.lt X e.symm).1; omega)]
  exact h
/-- A row of the call's own reads as the list. -/
theorem ints_own {w : World} {base e n : Nat} {v : Value} {l : List Int} (hl : l.length = n) (h : w.ownsRow base e 1 v n (l.map (Value.int .i64))) : Ints w v l := by
  subst hl
  rcases h.2 with ⟨rfl, h0⟩ | ⟨g, cap, cur, rfl, _, hg, hc, _, _, ht⟩
  · exact .inl ⟨rfl, List.eq_nil_of_length_eq_zero h0⟩
  · refine .inr ⟨g, 0, cap, rfl, hc, (Array.getElem?_eq_some_iff.1 hg).1, fun i x hx => ?_⟩
    have h2 := h.cells (g := g) rfl i (.int .i64 x) (by rw [List.getElem?_map, hx]; rfl)
    rw [Addr.add_lit] at h2
    exact h2

/-- A row of the call's own is a slice. -/
theorem own_slice {w : World} {base e n : Nat} {v : Value} {l : List Value} (h : w.ownsRow base e 1 v n l) : ∃ A c, v = .slice A n c := by
  rcases h.2 with ⟨rfl, h0⟩ | ⟨g, cap, cur, rfl, _⟩
  · subst h0; exact ⟨none, 0, rfl⟩
  · exact ⟨_, _, rfl⟩

/-- What lies there between two owners: the pool, the box of the other pool, and its row. -/
structure BoxInv (w wr : World) (X : Nat) (cs : Array Value) (v a b : Value) (k : Nat) (xs : List Value) : Prop where
  pool : wr.heap[w.heap.size]? = some (.cells cs 24 (0, 0))
  box : wr.heap[X]? = some (.cells #[v, a, b] 24 (0, 0))
  own : wr.ownsRow (X + 1) 2 1 v k xs
  old : Below w.heap.size w wr
theorem set_head {W : World} {k : Nat} {a b c : Value} {t : TypeId} (h : W.heap[k]? = some (.cells #[a, b, c] t (0, 0))) (x : Value) : (W.setCell ⟨k, 0, none⟩ x).heap[k]? = some (.cells #[x, b, c] t (0, 0)) := by
  simp only [World.setCell, Array.getElem?_modify, if_true, h]
  rfl
/-- Behind the append and the store. -/
theorem BoxInv.grow {w wr w5 : World} {X k : Nat} {cs : Array Value} {v a b v' : Value} {xs : List Value} {z : Value} {o : Obj} (D : BoxInv w wr X cs v a b k xs) (hX : w.heap.size < X) (hg : (wr.drew.alloc o).grownBy w5 v.ownBlock) (hown' : w5.ownsRow (X + 1) 2 1 v' (k + 1) (xs ++ [z])) : BoxInv w (w5.setCell ⟨X, 0, none⟩ v') X cs v' a b (k + 1) (xs ++ [z]) := by
  have hb : Below wr.heap.size wr (wr.drew.alloc o) := bl_alloc (bl_drew (bl_refl _)) _
  have hown := own_mono D.own hb
  refine ⟨?_, set_head (keep_grown (heap_mono D.box hb) hown (Nat.lt_succ_self _) hg) v', own_set hown' 0 v' (Nat.lt_succ_self _), bl_set (bl_grown (bl_trans D.old hb) hown (by omega) hg) _ (by omega)⟩
  rw [Below.heap_setCell w5 _ _ _ (show w.heap.size ≠ X by omega)]
  exact keep_grown (heap_mono D.pool hb) hown (by omega) hg

set_option maxRecDepth 100000 in
set_option maxHeartbeats 16000000 in
theorem shareTimes_out (had : List Int) (part prize : Int) (xs : List Int) (mo : Int) (s s2 : Value) (w : World) (hs : Ints w s had) (hs2 : Ints w s2 xs) (_hmo : 0 ≤ mo ∧ mo < 256) (hout : ¬ checkPool had part prize = 0 ∨ 20 < xs.length) :
    Calls Try.prog 15 #[.agg #[s, .int .i64 part, .int .i64 prize], s2, .int .u8 mo] w fun e w' => e = .returned (.bool true) ∧ Below w.heap.size w w' := by
  obtain ⟨A, c, rfl⟩ := hs.slice
  obtain ⟨A2, c2, rfl⟩ := hs2.slice
  by_cases h0 : checkPool had part prize = 0
  case neg =>
    have HD := hid (decide_eq_false h0)
    clear h0 hout
    go_enter Try.func15, Try.ntmps15
    go_wp2_with fail
    refine (fine_any had part prize _ _ (hs.mono (bl_alloc (bl_refl _) _))).mono ?_
    rintro e w1 ⟨rfl, hb1⟩
    rw [HD.out]
    have k1 := heap_new hb1
    have hr1 := fun i => cell_of_heap (i := i) k1
    have hB1 := bl_trans (bl_alloc (bl_refl w) _) hb1
    have hl1 : w.heap.size < w1.heap.size := (Array.getElem?_eq_some_iff.1 k1).1
    clear k1
    go_wp2_with fail
    refine (works_any _).mono ?_
    rintro e wz ⟨rfl, hbz⟩
    go_wp2
    go_ret
    exact ⟨rfl, bl_trans hB1 hbz⟩
  have HD := hid (decide_eq_true h0)
  have d1 : decide ((20 : Int) < (xs.length : Int)) = true := by
    rcases hout with h | h
    · exact absurd h0 h
    · simp; omega
  clear h0 hout
  go_enter Try.func15, Try.ntmps15
  go_wp2_with fail
  refine (fine_any had part prize _ _ (hs.mono (bl_alloc (bl_refl _) _))).mono ?_
  rintro e w1 ⟨rfl, hb1⟩
  rw [HD.out]
  have k1 := heap_new hb1
  have hr1 := fun i => cell_of_heap (i := i) k1
  have hB1 := bl_trans (bl_alloc (bl_refl w) _) hb1
  have hl1 : w.heap.size < w1.heap.size := (Array.getElem?_eq_some_iff.1 k1).1
  clear k1
  go_wp2_with fail
  refine (works_any _).mono ?_
  rintro e wz ⟨rfl, hbz⟩
  go_wp2
  go_ret
  exact ⟨rfl, bl_trans hB1 hbz⟩

set_option maxRecDepth 100000 in
set_option maxHeartbeats 16000000 in
theorem shareTimes_in (had : List Int) (part prize : Int) (xs : List Int) (mo : Int) (s s2 : Value) (w : World) (hs : Ints w s had) (hs2 : Ints w s2 xs) (hmo : 0 ≤ mo ∧ mo < 256) (h0 : checkPool had part prize = 0) (h1 : xs.length ≤ 20) :
    Calls Try.prog 15 #[.agg #[s, .int .i64 part, .int .i64 prize], s2, .int .u8 mo] w fun e w' => e = .returned (.bool true) ∧ Below w.heap.size w w' := by
  have V := checkPool_ok.1 h0
  have HD := hid (decide_eq_true h0)
  have H0 := hid h0
  have hv1 := V.l1
  have hv2 := V.l2
  clear h0
  obtain ⟨b, off, c, rfl, hlc, hb, hcell⟩ := hs.some hv1
  obtain ⟨A2, c2, rfl⟩ := hs2.slice
  have d1 : decide ((20 : Int) < (xs.length : Int)) = false := by simp; omega
  obtain ⟨t, ht, ht1, ht9⟩ : ∃ t : Int, 1 + mo % 9 = t ∧ 1 ≤ t ∧ t ≤ 9 := ⟨_, rfl, by omega, by omega⟩
  have HT := hid ht
  clear ht
  obtain ⟨i0, hi0, hz0, hz1, hz2⟩ := info_parts info2'
  have HC := Lib.hid hcell
  have HV := Lib.hid V.h1
  have HVV := hid V
  clear hcell V
  go_enter Try.func15, Try.ntmps15
  go_wp2_with fail
  refine (fine_any had part prize _ _ (hs.mono (bl_alloc (bl_refl _) _))).mono ?_
  rintro e w1 ⟨rfl, hb1⟩
  rw [HD.out]
  have k1 := heap_new hb1
  have hr1 := fun i => cell_of_heap (i := i) k1
  have hB1 := bl_trans (bl_alloc (bl_refl w) _) hb1
  have hl1 : w.heap.size < w1.heap.size := (Array.getElem?_eq_some_iff.1 k1).1
  have K1 := hid k1
  clear k1
  have hr11 : w1.cell? ⟨w.heap.size, 1, none⟩ = some (.int .i64 part) := hr1 1
  have hr12 : w1.cell? ⟨w.heap.size, 2, none⟩ = some (.int .i64 prize) := hr1 2
  go_upto_region 4 with (fail)
  rw [HT.out]
  go_upto_region 5 with (fail)
  obtain ⟨w2, hw2⟩ : ∃ w2, w1.alloc (.cells #[.slice none 0 0, .int .i64 part, .int .i64 prize] 24) = w2 := ⟨_, rfl⟩
  have k2 := World.alloc_heap_new w1 (.cells #[.slice none 0 0, .int .i64 part, .int .i64 prize] 24)
  have hb12 : Below w1.heap.size w1 w2 := by rw [← hw2]; exact bl_alloc (bl_refl _) _
  rw [hw2] at k2 ⊢
  have D0 : BoxInv w w2 w1.heap.size #[.slice (some ⟨b, off, none⟩) had.length c, .int .i64 part, .int .i64 prize] (.slice none 0 0) (.int .i64 part) (.int .i64 prize) 0 (((timesL t had).take 0).map (Value.int .i64)) := ⟨heap_mono K1.out hb12, k2, World.ownsRow_nil _ _ _ _, bl_trans hB1 hb12⟩
  clear hw2 k2 hr1 hr11 hr12 hb1 hb12
  go_wp2
  go_loopw [9] (fun q wr => ∃ (k : Nat) (v : Value), k ≤ had.length ∧ q = .int .i64 k ∧ BoxInv w wr w1.heap.size #[.slice (some ⟨b, off, none⟩) had.length c, .int .i64 part, .int .i64 prize] v (.int .i64 part) (.int .i64 prize) k (((timesL t had).take k).map (Value.int .i64))) (fun q _ => had.length - (intOf q).toNat)
  case atStart => exact ⟨0, _, Nat.zero_le _, rfl, D0⟩
  case round =>
    obtain ⟨k, v, hk, rfl, D⟩ := hrel
    have hr := fun i => cell_of_heap (i := i) D.pool
    have hrl : w.heap.size < wr.heap.size := (Array.getElem?_eq_some_iff.1 D.pool).1
    have hx := fun i => cell_of_heap (i := i) D.box
    have hxl : w1.heap.size < wr.heap.size := (Array.getElem?_eq_some_iff.1 D.box).1
    by_cases hlt : k < had.length
    · obtain ⟨y, hy⟩ := get_at hlt
      have hyb := HV.out k y hy
      have hcy := cell_mono (HC.out k y hy) D.old
      have hbl : b < wr.heap.size := Nat.lt_of_lt_of_le hb D.old.size
      obtain ⟨hw1, hw2, hw3⟩ := mul_wrap (x := t) (y := y) (a := 9) (b := 1000000) (by omega) ht9 (by omega) hyb.2 (by decide)
      have hst := hid (show ((timesL t had).take (k + 1)).map (Value.int .i64) = ((timesL t had).take k).map (Value.int .i64) ++ [.int .i64 (t * y)] by
        rw [List.take_add_one]; simp [timesL, hy])
      have hown := (own_mono D.own (bl_drew (bl_refl wr))).alloc (.cells #[.int .i64 (t * y)] 2)
      have HD2 := hid D
      clear hy D hw2 hw3
      go_wp2
      go_region_law (refine step_append_own rfl _ _ 22 rfl (w1.heap.size + 1) 2 i0 (.int .i64 0) 1 8 Try.underlying22 hi0 hz0 hz1 hz2 rfl (by decide) v k _ rfl hown ⟨wr.heap.size, 0, none⟩ 1 1 [.int .i64 (t * y)] rfl rfl (cell_one_new wr.drew _ _) (fun x hx => by simp at hx; subst hx; rfl) (by unfold maxLen; omega) (by omega) (by simp; omega) ?_; intro v' w5 hown' hgrow5 hnil5; obtain ⟨A9, c9, rfl⟩ := own_slice hown'; have hk9 := keep_grown (heap_mono HD2.out.box (bl_alloc (bl_drew (bl_refl wr)) _)) hown (Nat.lt_succ_self _) hgrow5; have hx9 := fun i => cell_of_heap (i := i) hk9; have hz9 := fun i => frozen_of_heap (i := i) hk9)
      all_goals
        have D5 := HD2.out.grow hl1 hgrow5 hown'
        rw [← hst.out] at D5
        clear hown hown' hgrow5 hk9 hx9 hz9 hnil5 hr hx hcy
        obtain ⟨w6, hw6⟩ : ∃ w6, w5.setCell ⟨w1.heap.size, 0, none⟩ (.slice A9 (k + 1) c9) = w6 := ⟨_, rfl⟩
        rw [hw6] at D5 ⊢
        clear hw6
        go_wp2
        go_roundw
        case rel => exact ⟨k + 1, _, by omega, by go_num, D5⟩
        case measure => simp [intOf]; omega
    · obtain rfl : k = had.length := by omega
      have hfull : (timesL t had).take had.length = timesL t had := by rw [List.take_of_length_le (by simp [timesL])]
      rw [hfull] at D
      have hIx : Ints wr v (timesL t had) := ints_own (by simp [timesL]) D.own
      obtain ⟨A9, c9, rfl⟩ := own_slice D.own
      have HP : Hid (∀ W, Below wr.heap.size wr W → Ints W (.slice (some ⟨b, off, none⟩) had.length c) had ∧ Ints W (.slice A9 had.length c9) (timesL t had) ∧ Ints W (.slice A2 xs.length c2) xs ∧ (∀ i, W.cell? ⟨w.heap.size, i, none⟩ = #[Value.slice (some ⟨b, off, none⟩) had.length c, .int .i64 part, .int .i64 prize][i]?) ∧ (∀ i, W.cell? ⟨w1.heap.size, i, none⟩ = #[Value.slice A9 had.length c9, .int .i64 part, .int .i64 prize][i]?) ∧ w.heap.size < W.heap.size ∧ w1.heap.size < W.heap.size) := by
        have D' := D
        exact fun W hW => ⟨hs.mono (bl_trans D'.old hW), hIx.mono hW, hs2.mono (bl_trans D'.old hW), fun i => cell_of_heap (heap_mono D'.pool hW), fun i => cell_of_heap (heap_mono D'.box hW), (Array.getElem?_eq_some_iff.1 (heap_mono D'.pool hW)).1, (Array.getElem?_eq_some_iff.1 (heap_mono D'.box hW)).1⟩
      have HB := hid D.old
      clear D hfull hr hx
      obtain ⟨p0, px0, ps0, q0, r0, l0, m0⟩ := HP.out wr (bl_refl _)
      by_cases h2 : checkPool (timesL t had) part prize = 0
      case neg =>
        have HD2 := hid (decide_eq_false h2)
        clear h2
        go_wp2_with fail
        refine (fine_any (timesL t had) part prize _ _ px0).mono ?_
        rintro e w3 ⟨rfl, hb3⟩
        rw [HD2.out]
        clear p0 px0 ps0 q0 r0 l0 m0
        go_wp2_with fail
        refine (works_any _).mono ?_
        rintro e wz ⟨rfl, hbz⟩
        go_wp2
        go_ret
        exact ⟨rfl, bl_trans HB.out (bl_trans hb3 hbz)⟩
      have HD2 := hid (decide_eq_true h2)
      have V2 := checkPool_ok.1 h2
      have htl : (timesL t had).length ≤ 1000 := by rw [times_len]; omega
      have HO1 : Hid (∀ W, Below wr.heap.size wr W → Calls Try.prog 23 #[.agg #[.slice (some ⟨b, off, none⟩) had.length c, .int .i64 part, .int .i64 prize]] W fun e w' => (∃ v, e = .returned (.tuple #[v, .int .i64 0]) ∧ Ints w' v (orderE had part prize)) ∧ Below W.heap.size W w') := fun W hW => by
        have := order_any had part prize _ W (by omega) (HP.out W hW).1; rwa [H0.out] at this
      have HO2 : Hid (∀ W, Below wr.heap.size wr W → Calls Try.prog 23 #[.agg #[.slice A9 had.length c9, .int .i64 part, .int .i64 prize]] W fun e w' => (∃ v, e = .returned (.tuple #[v, .int .i64 0]) ∧ Ints w' v (orderE had part prize)) ∧ Below W.heap.size W w') := fun W hW => by
        have := order_any (timesL t had) part prize _ W htl (HP.out W hW).2.1; rwa [h2, times_order (by omega) HVV.out V2] at this
      have HC1 : Hid (∀ W, Below wr.heap.size wr W → Calls Try.prog 33 #[.agg #[.slice (some ⟨b, off, none⟩) had.length c, .int .i64 part, .int .i64 prize]] W fun e w' => e = .returned (.tuple #[.int .i64 (countE had part prize), .int .i64 0]) ∧ Below W.heap.size W w') := fun W hW => by
        have := count_any had part prize _ W (by omega) (HP.out W hW).1; rwa [H0.out] at this
      have HC2 : Hid (∀ W, Below wr.heap.size wr W → Calls Try.prog 33 #[.agg #[.slice A9 had.length c9, .int .i64 part, .int .i64 prize]] W fun e w' => e = .returned (.tuple #[.int .i64 (countE had part prize), .int .i64 0]) ∧ Below W.heap.size W w') := fun W hW => by
        have := count_any (timesL t had) part prize _ W htl (HP.out W hW).2.1; rwa [h2, times_count (by omega) HVV.out V2] at this
      have HS1 : Hid (∀ W, Below wr.heap.size wr W → Calls Try.prog 21 #[.agg #[.slice (some ⟨b, off, none⟩) had.length c, .int .i64 part, .int .i64 prize], .slice A2 xs.length c2] W fun e w' => e = .returned (.int .i64 (refSharesE had part prize xs)) ∧ Below W.heap.size W w') := fun W hW => by
        have := checkShares_any had part prize xs _ _ W (by omega) (by omega) (HP.out W hW).1 (HP.out W hW).2.2.1; rwa [checkShares_law] at this
      have HS2 : Hid (∀ W, Below wr.heap.size wr W → Calls Try.prog 21 #[.agg #[.slice A9 had.length c9, .int .i64 part, .int .i64 prize], .slice A2 xs.length c2] W fun e w' => e = .returned (.int .i64 (refSharesE had part prize xs)) ∧ Below W.heap.size W w') := fun W hW => by
        have := checkShares_any (timesL t had) part prize xs _ _ W htl (by omega) (HP.out W hW).2.1 (HP.out W hW).2.2.1; rwa [checkShares_law, times_check (by omega) HVV.out V2] at this
      have HV1 : Hid (∀ W, Below wr.heap.size wr W → Calls Try.prog 29 #[.agg #[.slice (some ⟨b, off, none⟩) had.length c, .int .i64 part, .int .i64 prize], .slice A2 xs.length c2] W fun e w' => e = .returned (.tuple #[encQ (divLo had part prize xs), encQ (divHi had part prize xs), .int .i64 (divisorsE had part prize xs)]) ∧ Below W.heap.size W w') := fun W hW =>
        divisors_any had part prize xs _ _ W (by omega) (by omega) (HP.out W hW).1 (HP.out W hW).2.2.1
      have HV2 : Hid (∀ W, Below wr.heap.size wr W → Calls Try.prog 29 #[.agg #[.slice A9 had.length c9, .int .i64 part, .int .i64 prize], .slice A2 xs.length c2] W fun e w' => e = .returned (.tuple #[encQ (divLo (timesL t had) part prize xs), encQ (divHi (timesL t had) part prize xs), .int .i64 (divisorsE had part prize xs)]) ∧ Below W.heap.size W w') := fun W hW => by
        have := divisors_any (timesL t had) part prize xs _ _ W htl (by omega) (HP.out W hW).2.1 (HP.out W hW).2.2.1; rwa [times_div (by omega) HVV.out V2] at this
      have HBD : Hid (divisorsE had part prize xs = 0 → divLo (timesL t had) part prize xs = quo (t * (divLo had part prize xs).1) (divLo had part prize xs).2 ∧ divHi (timesL t had) part prize xs = quo (t * (divHi had part prize xs).1) (divHi had part prize xs).2 ∧ Tiny (divLo had part prize xs) ∧ Tiny (divHi had part prize xs)) := times_bounds (by omega) HVV.out V2
      have hcl : (orderE had part prize).length ≤ 100000 := orderE_len _ _ _
      have HCL := hid hcl
      clear h2 V2 hcl htl
      generalize orderE had part prize = ol at *
      generalize countE had part prize = ct at *
      generalize refSharesE had part prize xs = rs at *
      generalize divisorsE had part prize xs = dv at *
      generalize divLo had part prize xs = lo at *
      generalize divHi had part prize xs = hi at *
      generalize divLo (timesL t had) part prize xs = low at *
      generalize divHi (timesL t had) part prize xs = high at *
      go_wp2_with fail
      refine (fine_any (timesL t had) part prize _ _ px0).mono ?_
      rintro e w3 ⟨rfl, hb3⟩
      rw [HD2.out]
      clear p0 px0 ps0 q0 r0 l0 m0
      obtain ⟨p3, px3, ps3, q3, r3, l3, m3⟩ := HP.out w3 hb3
      go_wp2_with fail
      refine (HO1.out w3 hb3).mono ?_
      rintro e w4 ⟨⟨v4, rfl, hI4⟩, hb4⟩
      have hB4 := bl_trans hb3 hb4
      clear p3 px3 ps3 q3 r3 l3 m3
      obtain ⟨p4, px4, ps4, q4, r4, l4, m4⟩ := HP.out w4 hB4
      go_wp2_with fail
      refine (HO2.out w4 hB4).mono ?_
      rintro e w5 ⟨⟨v5, rfl, hI5⟩, hb5⟩
      have hB5 := bl_trans hB4 hb5
      clear p4 px4 ps4 q4 r4 l4 m4
      obtain ⟨p5, px5, ps5, q5, r5, l5, m5⟩ := HP.out w5 hB5
      have hI45 := hI4.mono hb5
      clear hI4
      go_wp2_with fail
      refine (HC1.out w5 hB5).mono ?_
      rintro e w6 ⟨rfl, hb6⟩
      have hB6 := bl_trans hB5 hb6
      clear p5 px5 ps5 q5 r5 l5 m5
      obtain ⟨p6, px6, ps6, q6, r6, l6, m6⟩ := HP.out w6 hB6
      have hI46 := hI45.mono hb6
      have hI56 := hI5.mono hb6
      clear hI45 hI5
      go_wp2_with fail
      refine (HC2.out w6 hB6).mono ?_
      rintro e w7 ⟨rfl, hb7⟩
      have hB7 := bl_trans hB6 hb7
      clear p6 px6 ps6 q6 r6 l6 m6
      obtain ⟨p7, px7, ps7, q7, r7, l7, m7⟩ := HP.out w7 hB7
      have hI47 := hid (hI46.mono hb7)
      have hI57 := hid (hI56.mono hb7)
      clear hI46 hI56
      have dct : (ct != ct) = false := by simp
      have drs : (rs != rs) = false := by simp
      have G27 : Hid (∀ W, Below w7.heap.size w7 W → Calls Try.prog 27 #[v4, v5] W fun e w' => e = .returned (.bool true) ∧ Below W.heap.size W w') := fun W hW => sameInts_any ol _ _ W HCL.out (hI47.out.mono hW) (hI57.out.mono hW)
      have G21 : Hid (∀ W, Below w7.heap.size w7 W → ∀ s : Value, (s = .slice (some ⟨b, off, none⟩) had.length c ∨ s = .slice A9 had.length c9) → Calls Try.prog 21 #[.agg #[s, .int .i64 part, .int .i64 prize], .slice A2 xs.length c2] W fun e w' => e = .returned (.int .i64 rs) ∧ Below W.heap.size W w') := fun W hW s hs => by
        rcases hs with rfl | rfl
        · exact HS1.out W (bl_trans hB7 hW)
        · exact HS2.out W (bl_trans hB7 hW)
      go_upto_region 15 with (fail)
      refine wp_region_below (by kernel_rfl) (by kernel_rfl) ?_
      repeat (first | go_big_quiet_step (first | (go_at_call 27; exact Calls.regrown_of (G27.out _ (below_regrown _ _ _))) | (go_at_call 21; exact Calls.regrown_of (G21.out _ (below_regrown _ _ _) _ (by first | exact .inl rfl | exact .inr rfl)))) | quiet_step (first | (go_at_call 27; exact Calls.regrown_of (G27.out _ (below_regrown _ _ _))) | (go_at_call 21; exact Calls.regrown_of (G21.out _ (below_regrown _ _ _) _ (by first | exact .inl rfl | exact .inr rfl)))))
      refine wpQuiet_nil ?_
      intro w8 hb8
      have hB8 := bl_trans hB7 hb8
      clear p7 px7 ps7 q7 r7 l7 m7 G27 G21 dct drs
      obtain ⟨p8, px8, ps8, q8, r8, l8, m8⟩ := HP.out w8 hB8
      have ddv : (dv != dv) = false := by simp
      go_wp2_with fail
      refine (HV1.out w8 hB8).mono ?_
      rintro e w9 ⟨rfl, hb9⟩
      unfold encQ
      obtain ⟨k18, k19, hb10⟩ := two_new w9 #[.int .i64 lo.1, .int .i64 lo.2] #[.int .i64 hi.1, .int .i64 hi.2] 39
      have K18 := hid k18
      have K19 := hid k19
      clear k18 k19 p8 px8 ps8 q8 r8 l8 m8
      go_upto_region 18 with (fail)
      obtain ⟨w10, hw10⟩ : ∃ w10, (w9.alloc (.cells #[.int .i64 lo.1, .int .i64 lo.2] 39)).alloc (.cells #[.int .i64 hi.1, .int .i64 hi.2] 39) = w10 := ⟨_, rfl⟩
      rw [hw10] at K18 K19 hb10 ⊢
      have hB10 := bl_trans hB8 (bl_trans hb9 hb10)
      clear hw10 hb8 hb9 hb10
      obtain ⟨p10, px10, ps10, q10, r10, l10, m10⟩ := HP.out w10 hB10
      go_wp2_with fail
      refine (HV2.out w10 hB10).mono ?_
      rintro e w11 ⟨rfl, hb11⟩
      unfold encQ
      obtain ⟨k20, k21, hb12⟩ := two_new w11 #[.int .i64 low.1, .int .i64 low.2] #[.int .i64 high.1, .int .i64 high.2] 39
      have K20 := hid k20
      have K21 := hid k21
      have L18 := hid (heap_mono K18.out hb11)
      have L19 := hid (heap_mono K19.out hb11)
      clear k20 k21 K18 K19 p10 px10 ps10 q10 r10 l10 m10
      go_upto_region 21 with (fail)
      obtain ⟨w12, hw12⟩ : ∃ w12, (w11.alloc (.cells #[.int .i64 low.1, .int .i64 low.2] 39)).alloc (.cells #[.int .i64 high.1, .int .i64 high.2] 39) = w12 := ⟨_, rfl⟩
      rw [hw12] at K20 K21 hb12 ⊢
      have hB12 := bl_trans HB.out (bl_trans hB10 (bl_trans hb11 hb12))
      have c18 := fun i => cell_of_heap (i := i) (heap_mono L18.out hb12)
      have c19 := fun i => cell_of_heap (i := i) (heap_mono L19.out hb12)
      have c20 := fun i => cell_of_heap (i := i) K20.out
      have c21 := fun i => cell_of_heap (i := i) K21.out
      have z18 := (Array.getElem?_eq_some_iff.1 (heap_mono L18.out hb12)).1
      have z19 := (Array.getElem?_eq_some_iff.1 (heap_mono L19.out hb12)).1
      have z20 := (Array.getElem?_eq_some_iff.1 K20.out).1
      have z21 := (Array.getElem?_eq_some_iff.1 K21.out).1
      clear hw12 L18 L19 K20 K21 hb11 hb12
      by_cases hd0 : dv = 0
      · obtain ⟨elo, ehi, T1, T2⟩ := HBD.out hd0
        have f1 : IntKind.i64.wrap (t * lo.1) = t * lo.1 := (mul_wrap (x := t) (y := lo.1) (a := 9) (b := 100000000) (by omega) ht9 (by have := T1.1; omega) T1.2.1 (by decide)).1
        have f2 : IntKind.i64.wrap (t * hi.1) = t * hi.1 := (mul_wrap (x := t) (y := hi.1) (a := 9) (b := 100000000) (by omega) ht9 (by have := T2.1; omega) T2.2.1 (by decide)).1
        have G41 : Hid (∀ W a b, (a = lo.1 ∧ b = lo.2 ∨ a = hi.1 ∧ b = hi.2) → Calls Try.prog 41 #[.agg #[.int .i64 a, .int .i64 b]] W fun e w' => e = .returned (.bool true) ∧ Below W.heap.size W w') := fun W a b h => by
          rcases h with ⟨rfl, rfl⟩ | ⟨rfl, rfl⟩
          · exact small_any _ _ W T1
          · exact small_any _ _ W T2
        have g46 : ∀ q : Int × Int, Tiny q → ∀ W, Calls Try.prog 46 #[.int .i64 (t * q.1), .int .i64 q.2] W fun e w' => e = .returned (encQ (quo (t * q.1) q.2)) ∧ Below W.heap.size W w' := fun q T W => by
          obtain ⟨a1, a2, a3, a4⟩ := T
          have a5 := mul_wrap (x := t) (y := q.1) (a := 9) (b := 100000000) (by omega) ht9 (by omega) a2 (by decide)
          have a6 := Int.mul_le_mul (show (1 : Int) ≤ t from ht1) a1 (by decide) (by omega)
          exact refFraction_any _ _ W (by omega) (by omega) a3 (by omega)
        have g1 := g46 lo T1
        have g2 := g46 hi T2
        rw [← elo] at g1
        rw [← ehi] at g2
        have G46 : Hid (∀ W a b v, (a = t * lo.1 ∧ b = lo.2 ∧ v = low ∨ a = t * hi.1 ∧ b = hi.2 ∧ v = high) → Calls Try.prog 46 #[.int .i64 a, .int .i64 b] W fun e w' => e = .returned (.agg #[.int .i64 v.1, .int .i64 v.2]) ∧ Below W.heap.size W w') := fun W a b v h => by
          rcases h with ⟨rfl, rfl, rfl⟩ | ⟨rfl, rfl, rfl⟩
          · exact g1 W
          · exact g2 W
        have e1 := eql39_run low low true (by simp)
        have e2 := eql39_run high high true (by simp)
        subst hd0
        clear elo ehi T1 T2 g46 g1 g2 HBD
        refine wp_region_below (by kernel_rfl) (by kernel_rfl) ?_
        repeat (first | go_big_quiet_step (first | (go_at_call 41; exact Calls.regrown_of (G41.out _ _ _ (by first | exact .inl ⟨rfl, rfl⟩ | exact .inr ⟨rfl, rfl⟩))) | (go_at_call 46; first | exact Calls.regrown_of (G46.out _ _ _ _ (.inl ⟨rfl, rfl, rfl⟩)) | exact Calls.regrown_of (G46.out _ _ _ _ (.inr ⟨rfl, rfl, rfl⟩))) | (go_at_call 18; exact Calls.regrown_of (works_any _))) | quiet_step (first | (go_at_call 41; exact Calls.regrown_of (G41.out _ _ _ (by first | exact .inl ⟨rfl, rfl⟩ | exact .inr ⟨rfl, rfl⟩))) | (go_at_call 46; first | exact Calls.regrown_of (G46.out _ _ _ _ (.inl ⟨rfl, rfl, rfl⟩)) | exact Calls.regrown_of (G46.out _ _ _ _ (.inr ⟨rfl, rfl, rfl⟩))) | (go_at_call 18; exact Calls.regrown_of (works_any _))))
        refine wpQuiet_nil ?_
        intro w13 hb13
        go_wp2
        go_ret
        exact ⟨rfl, bl_trans hB12 hb13⟩
      · have hd1 : (dv != 0) = true := by simpa using hd0
        clear hd0
        refine wp_region_below (by kernel_rfl) (by kernel_rfl) ?_
        repeat (first | go_big_quiet_step (first | (go_at_call 18; exact Calls.regrown_of (works_any _))) | quiet_step (first | (go_at_call 18; exact Calls.regrown_of (works_any _))))
        refine wpQuiet_nil ?_
        intro w13 hb13
        go_wp2
        go_ret
        exact ⟨rfl, bl_trans hB12 hb13⟩

theorem shareTimes_any (had : List Int) (part prize : Int) (xs : List Int) (mo : Int) (s s2 : Value) (w : World) (hs : Ints w s had) (hs2 : Ints w s2 xs) (hmo : 0 ≤ mo ∧ mo < 256) :
    Calls Try.prog 15 #[.agg #[s, .int .i64 part, .int .i64 prize], s2, .int .u8 mo] w fun e w' => e = .returned (.bool true) ∧ Below w.heap.size w w' := by
  by_cases h0 : checkPool had part prize = 0
  · by_cases h1 : xs.length ≤ 20
    · exact shareTimes_in had part prize xs mo s s2 w hs hs2 hmo h0 h1
    · exact shareTimes_out had part prize xs mo s s2 w hs hs2 hmo (.inr (by omega))
  · exact shareTimes_out had part prize xs mo s s2 w hs hs2 hmo (.inl h0)

end Go.Proofs.Ytfchcikdcnloaaa
