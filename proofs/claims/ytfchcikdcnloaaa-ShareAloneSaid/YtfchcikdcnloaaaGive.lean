/- share's give: the logs given out one after another. -/
import Derived.OwnWalkIn
import Derived.TacticsInMore
import Derived.LoopNIn
import Derived.LoopIn
import Derived.Test.YtfchcikdcnloaaaRange
import Derived.Test.YtfchcikdcnloaaaShared
namespace Go.Proofs.Ytfchcikdcnloaaa
open Go Go.RowKit Go.Proofs
attribute [local go_sem] Oper.semAt_some

/-- what owners have got when these logs are given -/
def bump (got : List Int) (i : Nat) : List Int := got.set i (got.getD i 0 + 1)
def gotOf (pre : List Nat) : List Int := pre.foldl bump zero12
theorem gotOf_snoc (pre : List Nat) (x : Nat) : gotOf (pre ++ [x]) = bump (gotOf pre) x := by simp [gotOf]
def nextOwner (had : List Int) (part : Int) (got : List Int) : Nat := (bestAt gtB (nextsQ had part got had.length) had.length).toNat
def ordN (had : List Int) (part : Int) : Nat → List Nat
  | 0 => []
  | n + 1 => ordN had part n ++ [nextOwner had part (gotOf (ordN had part n))]
theorem ordN_len (had : List Int) (part : Int) (n : Nat) : (ordN had part n).length = n := by
  induction n with
  | zero => rfl
  | succ n ih => simp [ordN, ih]
theorem nextOwner_lt {had : List Int} (part : Int) (got : List Int) (h : 1 ≤ had.length) : nextOwner had part got < had.length := by
  unfold nextOwner
  have := bestAt_range gtB (nextsQ had part got had.length) had.length
  omega
theorem nextOwner_eq {had : List Int} (part : Int) (got : List Int) (h : 1 ≤ had.length) : bestAt gtB (nextsQ had part got had.length) (nextsQ had part got had.length).length = (nextOwner had part got : Int) := by
  have hl : (nextsQ had part got had.length).length = had.length := by simp [nextsQ]
  unfold nextOwner
  rw [hl]
  obtain ⟨n, hn⟩ : ∃ n, had.length = n + 1 := ⟨had.length - 1, by omega⟩
  have := bestAt_nonneg gtB (nextsQ had part got had.length) n (by omega)
  rw [← hn] at this
  omega
theorem gotOf_len (pre : List Nat) : (gotOf pre).length = 12 := by
  unfold gotOf
  suffices ∀ l : List Int, l.length = 12 → (pre.foldl bump l).length = 12 from this _ rfl
  induction pre with
  | nil => intro l h; exact h
  | cons a p ih => intro l h; exact ih _ (by simp [bump, h])
theorem gotOf_le (pre : List Nat) (i : Nat) : 0 ≤ (gotOf pre).getD i 0 ∧ (gotOf pre).getD i 0 ≤ pre.length := by
  unfold gotOf
  suffices ∀ (l : List Int) (m : Nat), (∀ i, 0 ≤ l.getD i 0 ∧ l.getD i 0 ≤ m) → 0 ≤ (pre.foldl bump l).getD i 0 ∧ (pre.foldl bump l).getD i 0 ≤ (m + pre.length : Nat) by
    have h := this zero12 0 (fun i => by
      rcases Nat.lt_or_ge i 12 with h | h
      · have := zero12_ok.2 i ((zero12)[i]'(by simpa [zero12] using h)) (by simp)
        match i, h with
        | 0, _ | 1, _ | 2, _ | 3, _ | 4, _ | 5, _ | 6, _ | 7, _ | 8, _ | 9, _ | 10, _ | 11, _ => simp [zero12]
      · have : zero12[i]? = none := by rw [List.getElem?_eq_none]; simpa [zero12] using h
        simp [List.getD, this])
    simpa using h
  induction pre with
  | nil => intro l m h; simpa using h i
  | cons a p ih =>
    intro l m h
    have := ih (bump l a) (m + 1) (fun j => by
      have ha := h a
      have hj := h j
      unfold bump
      by_cases e : j = a
      · subst e
        by_cases hl : j < l.length
        · simp [List.getD, hl] at ha ⊢; omega
        · simp [List.getD, hl] at ha ⊢; omega
      · simp [List.getD, Ne.symm e] at hj ⊢; omega)
    simp only [List.foldl_cons, List.length_cons]
    rw [show m + (p.length + 1) = m + 1 + p.length by omega]
    exact this
theorem gotOf_ok {pre : List Nat} (h : pre.length ≤ 1000) : GotOk (gotOf pre) := by
  refine ⟨gotOf_len pre, fun i x hx => ?_⟩
  have := gotOf_le pre i
  simp only [List.getD, hx, Option.getD_some] at this
  omega

theorem less78_any (x y : Int × Int) (w : World) (hx : Small x) (hy : Small y) :
    Calls Try.prog 78 #[encQ x, encQ y] w fun e w' => e = .returned (.bool (gtB x y)) ∧ Below w.heap.size w w' := by
  unfold encQ
  go_enter Try.func78, Try.ntmps78
  go_wp2_with fail
  refine (less_any y x _ hy hx).mono ?_
  rintro e w1 ⟨rfl, hb1⟩
  go_wp2
  go_ret
  exact ⟨rfl, bl_trans (bl_alloc (bl_alloc (bl_refl _) _) _) hb1⟩
theorem enters78 : ∀ (args : Array Value) (w : World), (callFunc 78 args).run Try.prog w = .ok (.enter 78 args) w := Go.Proofs.enters_of Try.func78 (by kernel_rfl) rfl

theorem set_same {w : World} {g o : Nat} {cs : Array Value} {t : TypeId} {fr : Nat × Nat} {v : Value} (h : w.heap[g]? = some (.cells cs t fr)) (hv : cs[o]? = some v) : w.setCell ⟨g, o, none⟩ v = w := by
  obtain ⟨heap, tape, drawn, os, output⟩ := w
  simp only [World.setCell, World.mk.injEq, and_true]
  apply Array.ext_getElem?
  intro k
  simp only [Array.getElem?_modify]
  split
  · rename_i e
    subst e
    simp only at h
    rw [h]
    simp only [Option.map_some, Option.isSome_none, Bool.false_eq_true, if_false, Option.some.injEq, Obj.cells.injEq, and_true]
    apply Array.ext_getElem?
    intro j
    rw [Array.getElem?_setIfInBounds]
    split
    · rename_i e; subst e
      have := (Array.getElem?_eq_some_iff.mp hv).1
      rw [if_pos this, hv]
    · rfl
  · rfl

theorem run_clear {w : World} {g b off c : Nat} {had : List Int} {part prize : Int} (T : TabIs w g b off c had part prize zero12) (t ty : TypeId) (ht : Try.prog.underlying t = some (.slice 2)) :
    (Builtin.clear_ #[t] ty #[.slice (some ⟨g, 3, none⟩) 12 12]).run Try.prog w = .ok (.tuple #[]) w := by
  have hz : ∀ i, i < 12 → w.setCell ⟨g, 3 + i, none⟩ (.int .i64 0) = w := fun i hi => by
    refine set_same T.tab ?_
    match i, hi with
    | 0, _ | 1, _ | 2, _ | 3, _ | 4, _ | 5, _ | 6, _ | 7, _ | 8, _ | 9, _ | 10, _ | 11, _ => rfl
  have hz2 := Try.zeroValue2
  have hc : ∀ i, i < 12 → w.cell? ⟨g, 3 + i, none⟩ = some (.int .i64 0) := fun i hi => T.cg (by
    match i, hi with
    | 0, _ | 1, _ | 2, _ | 3, _ | 4, _ | 5, _ | 6, _ | 7, _ | 8, _ | 9, _ | 10, _ | 11, _ => rfl)
  have hf : ∀ i, w.frozen? ⟨g, i, none⟩ = false := fun i => T.fr i
  have c0 := hc 0 (by omega)
  have z0 := hz 0 (by omega)
  have c1 := hc 1 (by omega)
  have z1 := hz 1 (by omega)
  have c2 := hc 2 (by omega)
  have z2 := hz 2 (by omega)
  have c3 := hc 3 (by omega)
  have z3 := hz 3 (by omega)
  have c4 := hc 4 (by omega)
  have z4 := hz 4 (by omega)
  have c5 := hc 5 (by omega)
  have z5 := hz 5 (by omega)
  have c6 := hc 6 (by omega)
  have z6 := hz 6 (by omega)
  have c7 := hc 7 (by omega)
  have z7 := hz 7 (by omega)
  have c8 := hc 8 (by omega)
  have z8 := hz 8 (by omega)
  have c9 := hc 9 (by omega)
  have z9 := hz 9 (by omega)
  have c10 := hc 10 (by omega)
  have z10 := hz 10 (by omega)
  have c11 := hc 11 (by omega)
  have z11 := hz 11 (by omega)
  simp only [Nat.reduceAdd] at c0 z0 c1 z1 c2 z2 c3 z3 c4 z4 c5 z5 c6 z6 c7 z7 c8 z8 c9 z9 c10 z10 c11 z11
  clear hc hz
  unfold Builtin.clear_
  simp [run_underlying ht, Sem.run_bind, hz2, Builtin.zeroCells, storeCells, go_sem, hf, Value.cells, c0, z0, c1, z1, c2, z2, c3, z3, c4, z4, c5, z5, c6, z6, c7, z7, c8, z8, c9, z9, c10, z10, c11, z11]

/-- What the iterator needs of what holds between its rounds. -/
structure GiveInv (g b off c Bt : Nat) (had : List Int) (part prize : Int) (I I2 : List Nat → World → Prop) : Prop where
  below : ∀ pre W W', I pre W → Below W.heap.size W W' → I pre W'
  tab : ∀ pre W, I pre W → TabIs W g b off c had part prize (gotOf pre) ∧ W.cell? ⟨Bt, 0, none⟩ = some (.pointer (some ⟨g, 0, none⟩))
  tab2 : ∀ pre x W, I2 (pre ++ [x]) W → TabIs W g b off c had part prize (gotOf pre) ∧ W.cell? ⟨Bt, 0, none⟩ = some (.pointer (some ⟨g, 0, none⟩))
  step : ∀ pre x W, I2 (pre ++ [x]) W → x < 12 → I (pre ++ [x]) ((W.drew).setCell ⟨g, 3 + x, none⟩ (.int .i64 ((gotOf pre).getD x 0 + 1)))

set_option maxRecDepth 100000 in
set_option maxHeartbeats 2000000 in
theorem give_iter {g b off c Bt : Nat} {had : List Int} {part prize : Int} {I I2 : List Nat → World → Prop} (V : Val had part prize) (G : GiveInv g b off c Bt had part prize I I2) (w : World) :
    IterOk Try.prog 75 #[.pointer (some ⟨Bt, 0, none⟩)] (fun i : Nat => #[.int .i64 i]) I I2 (fun _ _ _ => False) (fun xs => xs = ordN had part prize.toNat) (fun pre x => pre.length < prize.toNat ∧ x < had.length) w := by
  intro l B Bx W1 hW1 hBb hBs hxb hxs hY hI0 hB0
  obtain ⟨T0, hbt0⟩ := G.tab _ _ hI0
  have hclr := run_clear T0 22 0 Try.underlying22
  have hg0 := T0.glt
  have hc2 := T0.c2
  have hz1 := V.z1
  have hz2 := V.z2
  have hl1 := V.l1
  have hl2 := V.l2
  refine callsIn_of_wp Try.func75 rfl trivial ?_ rfl
  simp only [Try.ntmps75, List.size_toArray, List.length_cons, List.length_nil, Nat.reduceAdd, Nat.reduceSub, Array.replicate_succ, Array.replicate_zero, List.push_toArray, List.append_toArray, List.nil_append, List.cons_append]
  gi_wp2
  clear hclr hc2 T0 hbt0 hg0
  gi_loopw [16] (fun i wr => ∃ k : Nat, k ≤ prize.toNat ∧ i = .int .i64 k ∧ I (ordN had part k) wr ∧ B wr) (fun i _ => prize.toNat - (intOf i).toNat)
  case atStart => exact ⟨0, Nat.zero_le _, rfl, hI0, hB0⟩
  case round =>
    obtain ⟨k, hk, rfl, hI, hB⟩ := hrel
    clear hI0 hB0 hW1
    obtain ⟨T, hbt⟩ := G.tab _ _ hI
    have hgo : GotOk (gotOf (ordN had part k)) := gotOf_ok (by rw [ordN_len]; omega)
    by_cases hlt : k < prize.toNat
    · have hlt' : (k : Int) < prize := by omega
      have hlen : (nextsQ had part (gotOf (ordN had part k)) had.length).length = had.length := by simp [nextsQ]
      have HL := hid hlen
      clear hlen
      gi_wp2_with fail
      refine ⟨trivial, ?_⟩
      refine (callsIn_wide.2 (nexts_any T V hgo)).mono ?_
      rintro e w1 ⟨⟨v, rfl, hown⟩, hb1⟩
      have hQ := Quos.of_own (by rw [HL.out]; exact hown)
      clear hown
      gi_wp2_with fail
      refine ⟨trivial, ?_⟩
      refine (callsIn_wide.2 (best_any 78 enters78 gtB (nextsQ had part (gotOf (ordN had part k)) had.length) _ _ (by rw [HL.out]; omega) (fun x y W hx hy => less78_any x y W (nexts_small V hgo hx) (nexts_small V hgo hy)) hQ)).mono ?_
      rintro e w2 ⟨rfl, hb2⟩
      rw [nextOwner_eq part _ hl1]
      have hx := nextOwner_lt part (gotOf (ordN had part k)) hl1
      have hB12 := bl_trans hb1 hb2
      have hI2 := G.below _ _ _ hI hB12
      have hB2 := hBb _ _ hB hB12
      obtain ⟨fn, tmps, assign, body, hy, hR⟩ := hY _ (nextOwner had part (gotOf (ordN had part k))) w2 hI2 hB2 ⟨by rw [ordN_len]; exact hlt, hx⟩
      have HBb := Lib.hid hBb
      clear hY hBb hxb hxs HL hQ hb1 hb2 hB12 hI hB T hbt hI2 hB2
      generalize hX : nextOwner had part (gotOf (ordN had part k)) = X at *
      have HX := hid hX
      clear hX
      gi_wp2
      refine hR.mono ?_
      rintro e W3 (⟨rfl, hI3, hB3⟩ | ⟨rfl, c, hf, _⟩)
      · obtain ⟨T3, hbt3⟩ := G.tab2 _ _ _ hI3
        clear hR hy
        obtain ⟨y, hy⟩ := get_at (l := gotOf (ordN had part k)) (k := X) (by rw [gotOf_len]; omega)
        have hgy := T3.cg hy
        have hyb := hgo.2 X y hy
        have hfr := T3.fr (3 + X)
        have hst := hid (G.step _ _ _ hI3 (by omega))
        have hyd : (gotOf (ordN had part k)).getD X 0 = y := by simp [List.getD, hy]
        rw [hyd] at hst
        have hBs3 := hid (hBs (W3.drew) ⟨g, 3 + X, none⟩ (.int .i64 (y + 1)) (HBb.out W3 W3.drew hB3 (bl_drew (bl_refl _))))
        clear hy hyd
        have hXl : X < 12 := by omega
        have HI3 := Lib.hid hI3
        have HB3 := Lib.hid hB3
        have HT3 := Lib.hid T3
        clear hI3 hB3 T3
        gi_wp2
        gi_region
        gi_wp2
        go_roundw
        case rel => exact ⟨k + 1, by omega, by go_num, by rw [ordN, HX.out]; exact hst.out, hBs3.out⟩
        case measure => simp [intOf]; omega
      · exact hf.elim
    · obtain rfl : k = prize.toNat := by omega
      have hlt' : ¬ ((prize.toNat : Int) < prize) := by omega
      gi_wp2
      refine bodyPost_end (results_none rfl _ _ _) rfl ?_
      exact ⟨⟨_, rfl⟩, hI, hB⟩

end Go.Proofs.Ytfchcikdcnloaaa
