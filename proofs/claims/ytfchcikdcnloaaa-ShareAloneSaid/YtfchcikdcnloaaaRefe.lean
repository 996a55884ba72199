/- The reference: Order. -/
import Derived.Test.YtfchcikdcnloaaaRefd
import Derived.Maps.AppendAt
namespace Go.Proofs.Ytfchcikdcnloaaa
open Go Go.RowKit Go.Proofs
attribute [local go_sem] cell_grow frozen_grow

/-- How many logs each of n owners has got. -/
def cntOf (n : Nat) (l : List Nat) : List Int := l.foldl bump (List.replicate n 0)
theorem cntOf_snoc (n : Nat) (l : List Nat) (x : Nat) : cntOf n (l ++ [x]) = bump (cntOf n l) x := by simp [cntOf]
theorem cntOf_len (n : Nat) (l : List Nat) : (cntOf n l).length = n := by
  unfold cntOf
  suffices ∀ s : List Int, s.length = n → (l.foldl bump s).length = n from this _ (by simp)
  induction l with
  | nil => intro s h; exact h
  | cons a p ih => intro s h; exact ih _ (by simp [bump, h])
theorem cntOf_le (n : Nat) (l : List Nat) : ∀ i, 0 ≤ (cntOf n l).getD i 0 ∧ (cntOf n l).getD i 0 ≤ l.length := by
  unfold cntOf
  suffices ∀ (s : List Int) (m : Nat), (∀ i, 0 ≤ s.getD i 0 ∧ s.getD i 0 ≤ m) → ∀ i, 0 ≤ (l.foldl bump s).getD i 0 ∧ (l.foldl bump s).getD i 0 ≤ (m + l.length : Nat) by
    intro i
    have := this (List.replicate n 0) 0 (fun i => by simp only [List.getD, List.getElem?_replicate]; split <;> simp) i
    simpa using this
  induction l with
  | nil => intro s m h i; simpa using h i
  | cons a p ih =>
    intro s m h i
    have := ih (bump s a) (m + 1) (fun j => by
      have ha := h a
      have hj := h j
      unfold bump
      by_cases e : j = a
      · subst e
        by_cases hl : j < s.length
        · simp [List.getD, hl] at ha ⊢; omega
        · simp [List.getD, hl] at ha ⊢; omega
      · simp [List.getD, Ne.symm e] at hj ⊢; omega) i
    simp only [List.foldl_cons, List.length_cons]
    rw [show m + (p.length + 1) = m + 1 + p.length by omega]
    exact this

def ordR (had : List Int) (part : Int) : Nat → List Nat
  | 0 => []
  | k + 1 => ordR had part k ++ [refBest had part (cntOf had.length (ordR had part k)) (had.length - 1)]
theorem ordR_len (had : List Int) (part : Int) (k : Nat) : (ordR had part k).length = k := by
  induction k with
  | zero => rfl
  | succ k ih => simp [ordR, ih]

/-- The row that holds the counts. -/
def RowIs (W : World) (g : Nat) (l : List Int) : Prop := W.heap[g]? = some (.cells (l.map (Value.int .i64)).toArray 2 (0, 0))
theorem RowIs.ints {W : World} {g : Nat} {l : List Int} (h : RowIs W g l) : Ints W (.slice (some ⟨g, 0, none⟩) l.length l.length) l := by
  refine .inr ⟨g, 0, l.length, rfl, Nat.le_refl _, (Array.getElem?_eq_some_iff.1 h).1, fun i x hx => ?_⟩
  rw [cell_of_heap h]
  simp [hx]
theorem RowIs.mono {W W' : World} {g : Nat} {l : List Int} (h : RowIs W g l) (hb : Below W.heap.size W W') : RowIs W' g l := heap_mono h hb
theorem RowIs.set {W : World} {g : Nat} {l : List Int} (h : RowIs W g l) (i : Nat) (x : Int) : RowIs (W.setCell ⟨g, i, none⟩ (.int .i64 x)) g (l.set i x) := by
  unfold RowIs at *
  simp only [World.setCell, Array.getElem?_modify, if_true, h]
  simp [List.map_set]

theorem made_zero (n : Nat) : madeCells (Value.int .i64 0).cells n = ((List.replicate n (0 : Int)).map (Value.int .i64)).toArray := by
  apply Array.ext
  · simp [madeCells]
  · intro i h1 h2
    simp [madeCells, Value.cells, Nat.mod_one]

theorem own_set {w : World} {base e size n : Nat} {s : Value} {xs : List Value} (h : w.ownsRow base e size s n xs) {g : Nat} (o : Nat) (u : Value) (hg : g < base) : (w.setCell ⟨g, o, none⟩ u).ownsRow base e size s n xs :=
  h.kept (grown_set w g o u) (by
    cases hob : s.ownBlock with
    | none => exact .inl rfl
    | some k => exact .inr (by have := (h.lt k hob).1; intro e; injection e with e; omega))

theorem RowIs.keep {W W1 W2 : World} {g : Nat} {l : List Int} {row : Option Nat} (h : RowIs W g l) (hb : Below W.heap.size W W1) (hg : W1.grownBy W2 row) {M : Nat} (hne : ∀ k, row = some k → g + 1 ≤ k ∧ k < M) : RowIs W2 g l := by
  have h1 := h.mono hb
  unfold RowIs at *
  rw [hg.block g (Array.getElem?_eq_some_iff.1 h1).1 (fun e => by have := (hne g e.symm).1; omega)]
  exact h1
/-- A row of the call's own reads as the list. -/
theorem ints_of_own {w : World} {base e n : Nat} {v : Value} {l : List Nat} (hl : l.length = n) (h : w.ownsRow base e 1 v n (l.map fun x : Nat => Value.int .i64 (x : Int))) : Ints w v (l.map Int.ofNat) := by
  subst hl
  rcases h.2 with ⟨rfl, h0⟩ | ⟨g, cap, cur, rfl, _, hg, hc, _, _, ht⟩
  · exact .inl ⟨rfl, by rw [List.eq_nil_of_length_eq_zero h0]; rfl⟩
  · refine .inr ⟨g, 0, cap, by simp, by simpa using hc, (Array.getElem?_eq_some_iff.1 hg).1, fun i x hi => ?_⟩
    have h2 := h.cells (g := g) rfl i (.int .i64 x) (by
      rw [List.getElem?_map] at hi ⊢
      cases hh : l[i]? with
      | none => rw [hh] at hi; cases hi
      | some y => rw [hh] at hi; injection hi with hi; rw [← hi]; rfl)
    rw [Addr.add_lit] at h2
    exact h2

set_option maxRecDepth 100000 in
set_option maxHeartbeats 8000000 in
theorem refOrder_ok (had : List Int) (part prize : Int) (s : Value) (w : World) (V : Val had part prize) (hs : Ints w s had) :
    Calls Try.prog 24 #[.agg #[s, .int .i64 part, .int .i64 prize]] w fun e w' => (∃ v, e = .returned (.tuple #[v, .int .i64 0]) ∧ Ints w' v ((ordR had part prize.toNat).map Int.ofNat)) ∧ Below w.heap.size w w' := by
  obtain ⟨A, c, rfl⟩ := hs.slice
  have hv1 := V.l1
  have hv2 := V.l2
  have hz1 := V.z1
  have hz2 := V.z2
  have h0 := hid (checkPool_ok.2 V)
  obtain ⟨i0, hi, hi0, hi1, hi2⟩ := info_parts info2'
  obtain ⟨i3, hi3, hj0, hj1, hj2⟩ := info_parts info3'
  go_enter Try.func24, Try.ntmps24
  go_wp2_with fail
  refine (refCheckPool_any had part prize _ _ (by omega) (hs.mono (bl_alloc (bl_refl _) _))).mono ?_
  rintro e w1 ⟨rfl, hb1⟩
  rw [h0.out]
  obtain ⟨hr1, hrf1⟩ := new_cells hb1
  have hB1 := bl_trans (bl_alloc (bl_refl w) _) hb1
  have hl1 : w.heap.size < w1.heap.size := by have := hb1.size; simp at this; omega
  have hmk := run_makeSlice w1 22 2 i0 (.int .i64 0) Try.underlying22 hi hi0 .i64 .i64 (had.length : Int) (had.length : Int) (by omega) (by omega) (by rw [hi1]; omega) (by rw [hi2]; omega) (by omega)
  rw [Int.toNat_natCast, hi1, Nat.mul_one, made_zero] at hmk
  have hr10 := hr1 0
  have hr12 : w1.cell? ⟨w.heap.size, 2, none⟩ = some (.int .i64 prize) := hr1 2
  obtain ⟨w2, hw2⟩ : ∃ w2, w1.alloc (.cells ((List.replicate had.length (0 : Int)).map (Value.int .i64)).toArray 2) = w2 := ⟨_, rfl⟩
  rw [hw2] at hmk
  have hb2 : Below w1.heap.size w1 w2 := by rw [← hw2]; exact bl_alloc (bl_refl _) _
  have hR0 : RowIs w2 w1.heap.size (cntOf had.length []) := by rw [← hw2]; exact World.alloc_heap_new _ _
  have hz3 : w2.heap.size = w1.heap.size + 1 := by rw [← hw2]; simp
  have hr2 : w2.cell? ⟨w.heap.size, 2, none⟩ = some (.int .i64 prize) := cell_mono hr12 hb2
  have hr20 : w2.cell? ⟨w.heap.size, 0, none⟩ = some (.slice A had.length c) := cell_mono (hr1 0) hb2
  have hr21 : w2.cell? ⟨w.heap.size, 1, none⟩ = some (.int .i64 part) := cell_mono (hr1 1) hb2
  have hB2 := bl_trans hB1 hb2
  have HR1 := Lib.hid hr1
  clear hw2 hr1 hrf1
  go_wp2
  clear hmk hr10 hr12
  go_loopw [5, 6] (fun v i wr => ∃ k : Nat, k ≤ prize.toNat ∧ i = .int .i64 k ∧ wr.ownsRow (w1.heap.size + 1) 3 1 v k ((ordR had part k).map fun x : Nat => Value.int .i64 (x : Int)) ∧ RowIs wr w1.heap.size (cntOf had.length (ordR had part k)) ∧ Below w1.heap.size w1 wr ∧ w1.heap.size < wr.heap.size) (fun _ i _ => prize.toNat - (intOf i).toNat)
  case atStart => exact ⟨0, Nat.zero_le _, rfl, World.ownsRow_nil _ _ _ _, hR0, hb2, by omega⟩
  case round =>
    obtain ⟨k, hk, rfl, hown, hR, hB, hwl⟩ := hrel
    have hq0 : wr.cell? ⟨w.heap.size, 0, none⟩ = some (.slice A had.length c) := (hB.cell (p := ⟨w.heap.size, 0, none⟩) hl1).trans (HR1.out 0)
    have hq1 : wr.cell? ⟨w.heap.size, 1, none⟩ = some (.int .i64 part) := (hB.cell (p := ⟨w.heap.size, 1, none⟩) hl1).trans (HR1.out 1)
    have hq2 : wr.cell? ⟨w.heap.size, 2, none⟩ = some (.int .i64 prize) := (hB.cell (p := ⟨w.heap.size, 2, none⟩) hl1).trans (HR1.out 2)
    have hlen := cntOf_len had.length (ordR had part k)
    by_cases hlt : k < prize.toNat
    · have hlt' : (k : Int) < prize := by omega
      have hcl := cntOf_le had.length (ordR had part k)
      rw [ordR_len] at hcl
      have hI := hR.ints
      rw [hlen] at hI
      have hnx := refNext_any had part prize (cntOf had.length (ordR had part k)) (.slice A had.length c) _ wr V hlen (fun x hx => by
        obtain ⟨i, hi, rfl⟩ := List.mem_iff_getElem.mp hx
        have := hcl i
        simp only [List.getD, List.getElem?_eq_getElem hi, Option.getD_some] at this
        omega) (hs.mono (bl_trans hB1 hB)) hI
      have hst : Hid (ordR had part (k + 1) = ordR had part k ++ [refBest had part (cntOf had.length (ordR had part k)) (had.length - 1)]) := rfl
      have hj : refBest had part (cntOf had.length (ordR had part k)) (had.length - 1) < had.length := by
        have := refBest_le had part (cntOf had.length (ordR had part k)) (had.length - 1)
        omega
      generalize refBest had part (cntOf had.length (ordR had part k)) (had.length - 1) = j at *
      have HNX := Lib.hid hnx
      have HST := hst
      obtain ⟨x, hx⟩ := get_at (l := cntOf had.length (ordR had part k)) (k := j) (by omega)
      have hxb := hcl j
      simp only [List.getD, hx, Option.getD_some] at hxb
      have hbm := hid (show cntOf had.length (ordR had part (k + 1)) = (cntOf had.length (ordR had part k)).set j (x + 1) by
        rw [hst.out, cntOf_snoc]
        simp [bump, List.getD, hx])
      have hmp := hid (show (ordR had part (k + 1)).map (fun x : Nat => Value.int .i64 (x : Int)) = (ordR had part k).map (fun x : Nat => Value.int .i64 (x : Int)) ++ [.int .i64 (j : Int)] by
        rw [hst.out]; simp)
      have hcx : ∀ W, Below wr.heap.size wr W → W.cell? ⟨w1.heap.size, j, none⟩ = some (.int .i64 x) ∧ (∀ i, W.frozen? ⟨w1.heap.size, i, none⟩ = false) := fun W hW => by
        have hRW := hR.mono hW
        exact ⟨by rw [cell_of_heap hRW]; simp [hx], fun i => frozen_of_heap hRW⟩
      have HCX := Lib.hid hcx
      have hwrap : IntKind.i64.wrap (x + 1) = x + 1 := IntWalk.i64_in _ (by omega)
      clear hnx hst hcl hx hcx
      go_wp2_with fail
      refine HNX.out.mono ?_
      rintro e w3 ⟨rfl, hb3⟩
      obtain ⟨hc3, hf3⟩ := HCX.out w3 hb3
      have hR3 := (hR.mono hb3).set j (x + 1)
      have hown3 := own_mono hown hb3
      have hown4 := own_set hown3 j (.int .i64 (x + 1)) (Nat.lt_succ_self w1.heap.size)
      have hB4 := bl_set (bl_trans hB hb3) (o := j) (.int .i64 (x + 1)) (Nat.le_refl w1.heap.size)
      have hz4 : (w3.setCell ⟨w1.heap.size, j, none⟩ (.int .i64 (x + 1))).heap.size = w3.heap.size := by simp [World.setCell]
      have hw3 : w1.heap.size < w3.heap.size := Nat.lt_of_lt_of_le hwl hb3.size
      have HLT := Lib.hid hown4.lt
      have HC1 : Hid (∀ i u, [Value.int .i64 (j : Int)][i]? = some u → ((w3.setCell ⟨w1.heap.size, j, none⟩ (.int .i64 (x + 1))).alloc (.cells #[.int .i64 (j : Int)] 3)).cell? ((⟨w3.heap.size, 0, none⟩ : Addr).add i) = some u) := by
        have := cell_one_new (w3.setCell ⟨w1.heap.size, j, none⟩ (.int .i64 (x + 1))) (.int .i64 (j : Int)) 3
        rw [hz4] at this
        exact this
      clear hown hR hown3 hb3 hI
      go_wp2_with (at_builtin; refine wpList_append_own _ rfl _ _ 31 rfl (w1.heap.size + 1) 3 i3 (.int .i64 0) 1 8 Try.underlying31 hi3 hj0 hj1 hj2 rfl (by decide) _ _ _ rfl (hown4.alloc _) ⟨w3.heap.size, 0, none⟩ 1 1 [.int .i64 (j : Int)] rfl rfl HC1.out (fun x hx => by simp at hx; subst hx; rfl) (by unfold maxLen; omega) (by omega) (by simp [World.setCell]; omega) ?_; intro v' w5 hown' hgrow5 hnil5; have hB5 := bl_grown (bl_alloc hB4 _) (hown4.alloc _) (Nat.le_succ _) hgrow5; have hR5 := hR3.keep (bl_alloc (bl_refl _) _) hgrow5 HLT.out; have hown5 := hid hown'; have hw5 := hgrow5.size; clear hown' hgrow5 hnil5 hown4 hB4 hR3)
      simp only [World.size_alloc, hz4] at hw5
      go_roundw
      case rel => exact ⟨k + 1, by omega, by go_num, by rw [hmp.out]; exact hown5.out, by rw [hbm.out]; exact hR5, hB5, by omega⟩
      case measure => simp [intOf]; omega
    · obtain rfl : k = prize.toNat := by omega
      have hlt' : ¬ ((prize.toNat : Nat) : Int) < prize := by omega
      have hres := ints_of_own (ordR_len had part prize.toNat) hown
      clear hown
      go_wp2
      go_ret2
      exact ⟨⟨_, rfl, hres⟩, bl_trans hB1 hB⟩

theorem refOrder_any (had : List Int) (part prize : Int) (s : Value) (w : World) (hl : had.length ≤ 1000) (hs : Ints w s had) :
    Calls Try.prog 24 #[.agg #[s, .int .i64 part, .int .i64 prize]] w fun e w' => (∃ v, e = .returned (.tuple #[v, .int .i64 (checkPool had part prize)]) ∧ Ints w' v (if checkPool had part prize = 0 then (ordR had part prize.toNat).map Int.ofNat else [])) ∧ Below w.heap.size w w' := by
  by_cases h0 : checkPool had part prize = 0
  · rw [if_pos h0, h0]
    exact refOrder_ok had part prize s w (checkPool_ok.1 h0) hs
  · rw [if_neg h0]
    obtain ⟨A, c, rfl⟩ := hs.slice
    have hcp : (checkPool had part prize != 0) = true := by simpa using h0
    clear h0
    go_enter Try.func24, Try.ntmps24
    go_wp2_with fail
    refine (refCheckPool_any had part prize _ _ hl (hs.mono (bl_alloc (bl_refl _) _))).mono ?_
    rintro e w1 ⟨rfl, hb1⟩
    obtain ⟨hr1, hrf1⟩ := new_cells hb1
    have hB1 := bl_trans (bl_alloc (bl_refl w) _) hb1
    have hl1 : w.heap.size < w1.heap.size := by have := hb1.size; simp at this; omega
    go_wp2_with fail
    refine (refCheckPool_any had part prize _ _ hl (hs.mono hB1)).mono ?_
    rintro e w2 ⟨rfl, hb2⟩
    go_wp2
    go_ret2
    exact ⟨⟨_, rfl, .inl ⟨rfl, rfl⟩⟩, bl_trans hB1 hb2⟩

end Go.Proofs.Ytfchcikdcnloaaa
