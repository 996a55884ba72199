/- The cut with the least bound: the walk. -/
import Derived.Test.YtbnmjbmlejifcaaCutb
import Derived.ChangeKeysEq
set_option linter.all false
namespace Go.Proofs.Ytbnmjbmlejifcaa
open Go Go.RowKit Go.Proofs
attribute [local go_sem] cell_grow frozen_grow

theorem info2c : Try.prog.cellsOf 2 = 1 := by kernel_rfl
theorem eql86 (a b : Nat → Int) (w : World) : (Op.equal 86 (.agg #[.int .i64 (a 0), .int .i64 (a 1), .int .i64 (a 2), .int .i64 (a 3), .int .i64 (a 4), .int .i64 (a 5), .int .i64 (a 6), .int .i64 (a 7)]) (.agg #[.int .i64 (b 0), .int .i64 (b 1), .int .i64 (b 2), .int .i64 (b 3), .int .i64 (b 4), .int .i64 (b 5), .int .i64 (b 6), .int .i64 (b 7)])).run Try.prog w = .ok (decide (row8 a = row8 b)) w := by
  have u2 := Try.underlying2
  have a2' := Try.isAgg2
  have z2 := Try.sizeOf2
  obtain ⟨i2, hi, hj0, hj1, hj2⟩ := info_parts info2'
  have hS : Try.prog.underlying 86 = some (.array 8 2) := by kernel_rfl
  unfold Op.equal
  obtain ⟨d, hd0⟩ : ∃ d, Op.maxDepth = d + 1 + 1 := ⟨9998, rfl⟩
  rw [hd0, run_equalIn_array w (d + 1) _ _ hS hi, info2c]
  clear hd0
  have hr : List.range 8 = [0, 1, 2, 3, 4, 5, 6, 7] := rfl
  have hrow : (row8 a = row8 b) ↔ (a 0 = b 0 ∧ a 1 = b 1 ∧ a 2 = b 2 ∧ a 3 = b 3 ∧ a 4 = b 4 ∧ a 5 = b 5 ∧ a 6 = b 6 ∧ a 7 = b 7) := by
    simp [row8, hr]
  have hd : decide (row8 a = row8 b) = decide (a 0 = b 0 ∧ a 1 = b 1 ∧ a 2 = b 2 ∧ a 3 = b 3 ∧ a 4 = b 4 ∧ a 5 = b 5 ∧ a 6 = b 6 ∧ a 7 = b 7) := decide_eq_decide.2 hrow
  rw [hd]
  clear hd hrow
  rw [hr]
  generalize a 0 = a0
  generalize a 1 = a1
  generalize a 2 = a2
  generalize a 3 = a3
  generalize a 4 = a4
  generalize a 5 = a5
  generalize a 6 = a6
  generalize a 7 = a7
  generalize b 0 = b0
  generalize b 1 = b1
  generalize b 2 = b2
  generalize b 3 = b3
  generalize b 4 = b4
  generalize b 5 = b5
  generalize b 6 = b6
  generalize b 7 = b7
  have step : ∀ (x y : Int) (W : World), (Op.equalIn (d + 1) 2 (.int .i64 x) (.int .i64 y)).run Try.prog W = .ok (x == y) W := fun x y W => by
    simp only [Op.equalIn, Sem.run_bind, run_underlying u2, Result.andThen_ok, if_true, Sem.run_pure]
  have pt : ∀ (xs : Array Value) (i : Nat) (x : Int) (W : World), xs[i]? = some (.int .i64 x) → (part 2 xs i).run Try.prog W = .ok (.int .i64 x) W := fun xs i x W h => by
    unfold part
    rw [Sem.run_bind, a2']
    simp only [Result.andThen_ok, Bool.false_eq_true, if_false, h]
    rfl
  have cons : ∀ (xs ys : Array Value) (i : Nat) (is : List Nat) (x y : Int), xs[i]? = some (.int .i64 x) → ys[i]? = some (.int .i64 y) → (Op.eqItems (d + 1) 2 1 xs ys (i :: is)).run Try.prog w = if x = y then (Op.eqItems (d + 1) 2 1 xs ys is).run Try.prog w else .ok false w := fun xs ys i is x y hx hy => by
    simp only [Op.eqItems, Sem.run_bind, Nat.mul_one]
    rw [pt _ _ x _ hx, Result.andThen_ok, pt _ _ y _ hy, Result.andThen_ok, step, Result.andThen_ok]
    by_cases h : x = y
    · simp [h]
    · simp [h]
  rw [cons _ _ 0 _ a0 b0 rfl rfl, cons _ _ 1 _ a1 b1 rfl rfl, cons _ _ 2 _ a2 b2 rfl rfl, cons _ _ 3 _ a3 b3 rfl rfl, cons _ _ 4 _ a4 b4 rfl rfl, cons _ _ 5 _ a5 b5 rfl rfl, cons _ _ 6 _ a6 b6 rfl rfl, cons _ _ 7 _ a7 b7 rfl rfl]
  simp only [Op.eqItems, Sem.run_pure]
  by_cases h0 : a0 = b0
  · by_cases h1 : a1 = b1
    · by_cases h2 : a2 = b2
      · by_cases h3 : a3 = b3
        · by_cases h4 : a4 = b4
          · by_cases h5 : a5 = b5
            · by_cases h6 : a6 = b6
              · by_cases h7 : a7 = b7
                · simp [h0, h1, h2, h3, h4, h5, h6, h7]
                · simp [h7]
              · simp [h6]
            · simp [h5]
          · simp [h4]
        · simp [h3]
      · simp [h2]
    · simp [h1]
  · simp [h0]
theorem eql86_run (a b : Nat → Int) (r : Bool) (h : decide (row8 a = row8 b) = r) (w : World) : (binOp .eql 86 (.agg #[.int .i64 (a 0), .int .i64 (a 1), .int .i64 (a 2), .int .i64 (a 3), .int .i64 (a 4), .int .i64 (a 5), .int .i64 (a 6), .int .i64 (a 7)]) (.agg #[.int .i64 (b 0), .int .i64 (b 1), .int .i64 (b 2), .int .i64 (b 3), .int .i64 (b 4), .int .i64 (b 5), .int .i64 (b 6), .int .i64 (b 7)])).run Try.prog w = .ok (.bool r) w := by
  have := eql86 a b w
  simp [binOp, Sem.run_bind, this, Result.andThen, h]

/-- What has come, in memory. -/
theorem EarlyYear.come {D : Nat} {l : List Rch} {sr : Value} {W : World} {Y : Nat} (h : EarlyYear D l sr W Y) :
    ∃ gC cap, W.cell? ⟨Y, 3, none⟩ = some (.slice (some ⟨gC, 0, none⟩) (D + 1) cap) ∧ W.cell? ⟨Y, 1, none⟩ = some sr ∧ gC < W.heap.size ∧ Y < W.heap.size ∧ ∀ t, t ≤ D → ∀ j, j < 8 → W.cell? ⟨gC, t * 8 + j, none⟩ = some (.int .i64 (nowF l (planP (planE D l)) t 0 j)) := by
  obtain ⟨wb, vp, vc, vb, Bs, h⟩ := h
  have hl : (comeRows l (planP (planE D l)) (D + 1)).length = D + 1 := by simp [comeRows]
  have h4 := h.c3
  rcases h.come.2 with ⟨_, h2⟩ | ⟨g, cap, cur, h1, _, hg, hcap, _⟩
  · rw [hl] at h2; omega
  · refine ⟨g, cap, by rw [h4, h1, hl], h.c1, (Array.getElem?_eq_some_iff.1 hg).1, h.lt, fun t ht j hj => ?_⟩
    have h3 := h.come.cells (g := g) (by rw [h1]; rfl) (t * 8 + j) (.int .i64 (nowF l (planP (planE D l)) t 0 j)) (flat_at h.clen (t := t) (c := row8 (nowF l (planP (planE D l)) t 0)) (by simp [comeRows, show t < D + 1 by omega]) (row8_at hj))
    rw [Addr.add_lit, Nat.zero_add] at h3
    exact h3
/-- A reach's day is chosen well. -/
def WellAt (l : List Rch) (P : Nat → Nat → Int) (day : Nat) (o : List Int) (j : Nat) : Prop :=
  (∃ y : Int, o[j]? = some y ∧ 1 ≤ y ∧ y ≤ (day : Int) + 1) ∧ gone P j (before (rivP l) (cutF o) day j - (rivP l j).takes - 1) = come (rivP l) P j ((cutF o j - 1 : Nat) : Int) + thr (rivP l j) (cutF o j) (before (rivP l) (cutF o) day j)
/-- What holds while a reach's days are tried. -/
def Trying (l : List Rch) (P : Nat → Nat → Int) (i : Nat) (bv : Int) (d : Nat) (best : Int) (fi : Int) : Prop :=
  (best = -1 ∨ 0 ≤ best ∧ ∃ f : Nat, 1 ≤ f ∧ f < d ∧ fi = (f : Int) ∧ best = cost (rivP l) P i bv f) ∧
  ∀ e, 1 ≤ e → e < d → (0 ≤ best ∧ best ≤ cost (rivP l) P i bv e) ∨ (d ≤ lastDay (rivP l i) bv ∧ cost (rivP l) P i bv d ≤ cost (rivP l) P i bv e)
theorem trying_skip {l : List Rch} {P : Nat → Nat → Int} {i : Nat} {bv : Int} {d : Nat} {best fi : Int} (h : Trying l P i bv d best fi) (hp : 0 ≤ (rivP l i).pass) (hd : 1 ≤ d) (hdl : d < lastDay (rivP l i) bv) (hc : come (rivP l) P i (d : Int) = come (rivP l) P i ((d - 1 : Nat) : Int)) : Trying l P i bv (d + 1) best fi := by
  have hless : cost (rivP l) P i bv (d + 1) ≤ cost (rivP l) P i bv d := by
    unfold cost
    rw [show d + 1 - 1 = d by omega, hc]
    have := thr_less (rivP l i) hp hd bv hdl
    omega
  refine ⟨?_, fun e h1 h2 => ?_⟩
  · rcases h.1 with h | ⟨h1, f, h2, h3, h4⟩
    · exact .inl h
    · exact .inr ⟨h1, f, h2, by omega, h4⟩
  · by_cases he : e = d
    · subst he; exact .inr ⟨by omega, hless⟩
    · rcases h.2 e h1 (by omega) with h | ⟨h3, h4⟩
      · exact .inl h
      · exact .inr ⟨by omega, by omega⟩
theorem trying_new {l : List Rch} {P : Nat → Nat → Int} {i : Nat} {bv : Int} {d : Nat} {best fi : Int} (h : Trying l P i bv d best fi) (hd : 1 ≤ d) (hn : 0 ≤ cost (rivP l) P i bv d) (hb : best < 0 ∨ cost (rivP l) P i bv d < best) : Trying l P i bv (d + 1) (cost (rivP l) P i bv d) (d : Int) := by
  refine ⟨.inr ⟨hn, d, hd, by omega, rfl, rfl⟩, fun e h1 h2 => ?_⟩
  by_cases he : e = d
  · subst he; exact .inl ⟨hn, Int.le_refl _⟩
  · rcases h.2 e h1 (by omega) with ⟨h3, h4⟩ | ⟨h3, h4⟩
    · exact .inl ⟨hn, by omega⟩
    · exact .inl ⟨hn, h4⟩
theorem trying_old {l : List Rch} {P : Nat → Nat → Int} {i : Nat} {bv : Int} {d : Nat} {best fi : Int} (h : Trying l P i bv d best fi) (hb0 : 0 ≤ best) (hb : best ≤ cost (rivP l) P i bv d) : Trying l P i bv (d + 1) best fi := by
  refine ⟨?_, fun e h1 h2 => ?_⟩
  · rcases h.1 with h | ⟨h1, f, h2, h3, h4⟩
    · exact .inl h
    · exact .inr ⟨h1, f, h2, by omega, h4⟩
  · by_cases he : e = d
    · subst he; exact .inl ⟨hb0, hb⟩
    · rcases h.2 e h1 (by omega) with h | ⟨h3, h4⟩
      · exact .inl h
      · exact .inl ⟨hb0, by omega⟩
/-- All days tried: the reach's day is chosen well. -/
theorem trying_done {D : Nat} {l : List Rch} {P : Nat → Nat → Int} (F : Fit (D : Int) l) (E : IsEarly (rivP l) l.length D P) {i day : Nat} (hi : i < l.length) {bv : Int} (hbv : bv ≤ (day : Int) + 1) (hday : 1 ≤ day ∧ day ≤ D) {best fi : Int} {o : List Int} (ho : o[i]? = some fi) (hb : before (rivP l) (cutF o) day i = bv)
    (h : Trying l P i bv (lastDay (rivP l i) bv + 1) best fi) : WellAt l P day o i := by
  have V : Riv (rivP l) l.length D := by have := fit_riv F; rwa [Int.toNat_natCast] at this
  have ht := V.takes i hi
  have hl1 : 1 ≤ lastDay (rivP l i) bv := by unfold lastDay; omega
  have hl2 : (lastDay (rivP l i) bv : Int) ≤ (day : Int) + 1 := by unfold lastDay; omega
  rcases h.1 with h0 | ⟨h0, f, h1, h2, rfl, h4⟩
  · rcases h.2 1 (by omega) (by omega) with ⟨h5, _⟩ | ⟨h5, _⟩ <;> omega
  · have hf : cutF o i = f := by simp [cutF, List.getD, ho]
    refine ⟨⟨f, ho, by omega, by omega⟩, ?_⟩
    rw [hb, hf]
    refine best_of_least V E hi (by omega) h1 (by omega) (by omega) fun d hd1 hd2 => ?_
    rcases h.2 d hd1 (by omega) with ⟨_, h5⟩ | ⟨h5, _⟩
    · omega
    · omega
theorem wellAt_other {l : List Rch} {P : Nat → Nat → Int} {day : Nat} {o o' : List Int} {j k : Nat} (hj : k ≤ j) (hd : (rivP l j).down < 0 ∨ (j : Int) < (rivP l j).down) (h : ∀ m, k ≤ m → o'[m]? = o[m]?) (W : WellAt l P day o j) : WellAt l P day o' j := by
  have hc : ∀ m, k ≤ m → cutF o' m = cutF o m := fun m hm => by simp only [cutF, List.getD, h m hm]
  have hb : before (rivP l) (cutF o') day j = before (rivP l) (cutF o) day j := by
    unfold before
    split
    · rw [hc _ (by omega)]
    · rfl
  obtain ⟨h1, h2⟩ := W
  refine ⟨by rw [h j hj]; exact h1, ?_⟩
  rw [hb, hc j hj]
  exact h2
theorem set_heap {W : World} {O d : Nat} {o : List Int} {y : Int} (h : W.heap[O]? = some (.cells (ints o).toArray 2 (0, 0))) : (W.setCell ⟨O, d, none⟩ (.int .i64 y)).heap[O]? = some (.cells (ints (o.set d y)).toArray 2 (0, 0)) := by
  rw [heap_setCell_same _ _ _ _ _ _ h]
  congr 2
  rw [List.setIfInBounds_toArray]
  simp [ints, List.map_set]

set_option maxRecDepth 100000 in
set_option maxHeartbeats 8000000 in
theorem cut_any (D : Nat) (l : List Rch) (sr : Value) (Y : Nat) (day : Nat) (w : World) (F : Fit (D : Int) l) (hday : 1 ≤ day ∧ day ≤ D) (hs : Rchs w sr l) (hy : EarlyYear D l sr w Y) :
    Calls Try.prog 74 #[.pointer (some ⟨Y, 0, none⟩), .int .i64 (day : Int)] w fun e w' => (∃ v o, e = .returned v ∧ Ints w' v o ∧ o.length = l.length ∧ ∀ j, j < l.length → WellAt l (planP (planE D l)) day o j) ∧ Below w.heap.size w w' := by
  have f1 := F.d1
  have f2 := F.d2
  have f3 := F.n1
  have f4 := F.n2
  obtain ⟨b, off, c, rfl, hlc, hb, hcell⟩ := hs.some f3
  have HC := Lib.hid hcell
  obtain ⟨gC, capC, y3, y1, gl, yl, hcc⟩ := hy.come
  have HCC := Lib.hid hcc
  have HF := hid F
  have HSM := hid (planE_small F)
  have HE : Hid (IsEarly (rivP l) l.length D (planP (planE D l))) := by
    have := planE_early F; rwa [Int.toNat_natCast] at this
  obtain ⟨i2, hi', hj0, hj1, hj2⟩ := info_parts info2'
  have hmk := run_makeSlice w 36 2 i2 (.int .i64 0) Try.underlying36 hi' hj0 .i64 .i64 (l.length : Int) (l.length : Int) (by omega) (by omega) (by rw [hj1]; omega) (by rw [hj2]; omega) (by omega)
  rw [Int.toNat_natCast, hj1, Nat.mul_one, made_zero] at hmk
  have ba := bl_alloc (bl_refl w) (.cells (ints (List.replicate l.length (0 : Int))).toArray 2)
  have HB0 := hid ba
  have HO0 := hid (World.alloc_heap_new w (.cells (ints (List.replicate l.length (0 : Int))).toArray 2))
  have Y3 := hid y3
  have Y1 := hid y1
  clear F hcell hcc hy ba
  go_enter Try.func74, Try.ntmps74
  go_upto_region 2 with (fail)
  obtain ⟨O, hO⟩ : ∃ O, w.heap.size = O := ⟨_, rfl⟩
  obtain ⟨w0, hw0⟩ : ∃ w0, w.alloc (.cells (ints (List.replicate l.length (0 : Int))).toArray 2) = w0 := ⟨_, rfl⟩
  rw [hw0] at HB0 HO0 ⊢
  have HOB : Hid (w.heap.size ≤ O) := by show w.heap.size ≤ O; omega
  rw [hO] at HO0 ⊢
  clear hw0 hO hmk y3 y1
  have y1 := cell_mono Y1.out HB0.out
  have yl0 : Y < w0.heap.size := by have := HB0.out.size; omega
  have hwn : IntKind.i64.wrap ((l.length : Int) - 1) = (l.length : Int) - 1 := IntWalk.i64_in _ (by omega)
  go_wp2
  clear y1 yl0 hwn
  go_loopw [6] (fun p wr => ∃ (k : Nat) (o : List Int), k ≤ l.length ∧ p = .int .i64 ((k : Int) - 1) ∧ o.length = l.length ∧ wr.heap[O]? = some (.cells (ints o).toArray 2 (0, 0)) ∧ Below w.heap.size w wr ∧ ∀ j, k ≤ j → j < l.length → WellAt l (planP (planE D l)) day o j) (fun p _ => (intOf p + 1).toNat)
  case atStart => exact ⟨l.length, _, Nat.le_refl _, rfl, by simp, HO0.out, HB0.out, fun j h1 h2 => by omega⟩
  case round =>
    obtain ⟨k, o, hk, rfl, hol, hO, hB, hW⟩ := hrel
    clear HO0 HB0
    have HOL := hid hol
    have HWL := Lib.hid hW
    clear hol hW
    by_cases hk0 : 1 ≤ k
    · obtain ⟨i, rfl⟩ : ∃ i, k = i + 1 := ⟨k - 1, by omega⟩
      have hil : i < l.length := by omega
      obtain ⟨x, hx⟩ := get_at hil
      obtain ⟨q0, q1, q2, q3, q4, q5, q6, q7⟩ := (HC.out i x hx).mono hB
      have hki : ((i + 1 : Nat) : Int) - 1 = (i : Int) := by omega
      rw [hki]
      have hii : decide (0 ≤ (i : Int)) = true := by simp
      have hkI : (i : Int) < (l.length : Int) := by omega
      have y1 := cell_mono Y1.out hB
      have yl1 : Y < wr.heap.size := by have := hB.size; omega
      have hwd : IntKind.i64.wrap ((day : Int) + 1) = (day : Int) + 1 := IntWalk.i64_in _ (by omega)
      have ba := bl_alloc (bl_refl wr) (.cells #[.int .i64 x.down, .int .i64 x.pass, .int .i64 x.takes, .int .i64 x.lo, .int .i64 x.hi, .int .i64 x.every, .int .i64 x.logs, .int .i64 x.ready] 59)
      have HB3 := hid (bl_trans hB ba)
      have ho3 := heap_mono hO ba
      have HX3 := hid (World.alloc_heap_new wr (.cells #[.int .i64 x.down, .int .i64 x.pass, .int .i64 x.takes, .int .i64 x.lo, .int .i64 x.hi, .int .i64 x.every, .int .i64 x.logs, .int .i64 x.ready] 59))
      have g1 := HF.out.every i x hx
      have g2 := HF.out.water i x hx
      have g3 := HF.out.pass i x hx
      have g4 := HF.out.takes i x hx
      have g7 := HF.out.down i x hx
      have Hx := hid hx
      clear hx hB ba hO hki
      go_upto_region 7 with (fail)
      obtain ⟨X, hX⟩ : ∃ X, wr.heap.size = X := ⟨_, rfl⟩
      obtain ⟨w3, hw3⟩ : ∃ w3, wr.alloc (.cells #[.int .i64 x.down, .int .i64 x.pass, .int .i64 x.takes, .int .i64 x.lo, .int .i64 x.hi, .int .i64 x.every, .int .i64 x.logs, .int .i64 x.ready] 59) = w3 := ⟨_, rfl⟩
      rw [hX] at HX3 ⊢
      rw [hw3] at HB3 HX3 ho3 ⊢
      clear hw3 hX q0 q1 q2 q3 q4 q5 q6 q7 y1 yl1 hwd hii
      have c0 : w3.cell? ⟨X, 0, none⟩ = some (.int .i64 x.down) := cell_of_heap HX3.out
      have c2 : w3.cell? ⟨X, 2, none⟩ = some (.int .i64 x.takes) := cell_of_heap HX3.out
      have yl := (Array.getElem?_eq_some_iff.1 HX3.out).1
      by_cases hdn : 0 ≤ x.down
      · have dd : decide (0 ≤ x.down) = true := by simpa using hdn
        obtain ⟨u, hu⟩ : ∃ u : Nat, x.down = u := ⟨x.down.toNat, by omega⟩
        obtain ⟨⟨bv, hbv, hbv1, hbv2⟩, _⟩ := HWL.out u (by omega) (by omega)
        have huc : w3.cell? ⟨O, u, none⟩ = some (.int .i64 bv) := by rw [cell_of_heap ho3]; simp [ints, hbv]
        have huI : (u : Int) < (l.length : Int) := by omega
        have HBV : Hid (∀ o' : List Int, (∀ m, i + 1 ≤ m → o'[m]? = o[m]?) → before (rivP l) (cutF o') day i = bv) := by
          intro o' ho'
          unfold before
          rw [riv_at Hx.out, if_pos hdn, hu]
          have e : cutF o' ((u : Int)).toNat = bv.toNat := by
            simp only [cutF, List.getD, Int.toNat_natCast]
            rw [ho' u (by omega), hbv]; rfl
          rw [e]; omega
        have hol3 := (Array.getElem?_eq_some_iff.1 ho3).1
        have hui : i < u := by omega
        clear hdn hbv g7
        rw [hu] at c0 dd
        clear hu
        go_upto_region 9 with (fail)
        clear c0 dd huc huI hol3
        have HO3 := hid ho3
        obtain ⟨fi0, hfi0⟩ := get_at (l := o) (k := i) (by rw [HOL.out]; exact hil)
        have HTR0 : Hid (Trying l (planP (planE D l)) i bv 1 (-1) fi0) := ⟨.inl rfl, fun e h1 h2 => by omega⟩
        have HFI0 := hid hfi0
        have hll : ((lastDay x bv : Nat) : Int) = if 1 < bv - x.takes then bv - x.takes else 1 := by unfold lastDay; split <;> omega
        have hl1 : 1 ≤ lastDay x bv := by unfold lastDay; omega
        have hl2 : (lastDay x bv : Int) ≤ (D : Int) + 1 := by unfold lastDay; omega
        have hwt : IntKind.i64.wrap (bv - x.takes) = bv - x.takes := IntWalk.i64_in _ (by omega)
        have HLL := hid hll
        clear hfi0 ho3 hll
        refine wp_region_below (by kernel_rfl) (by kernel_rfl) ?_
        repeat (first | go_big_quiet_step (fail) | quiet_step (fail))
        refine wpQuiet_nil ?_
        intro w4 hb4
        rw [← HLL.out]
        obtain ⟨La, hLa⟩ : ∃ La, lastDay x bv = La := ⟨_, rfl⟩
        have HLA : Hid (lastDay (rivP l i) bv = La) := by show lastDay (rivP l i) bv = La; rw [riv_at Hx.out, hLa]
        rw [hLa] at hl1 hl2 ⊢
        have HO4 := hid (heap_mono HO3.out hb4)
        have HX4 := hid (heap_mono HX3.out hb4)
        have HB4 := hid (bl_trans HB3.out hb4)
        clear hLa HLL hwt c2 yl HO3 HX3 HB3 hb4
        go_wp2
        go_loopw [9, 11] (fun bs p wr => ∃ (t : Nat) (best : Int) (o' : List Int) (fi : Int), t ≤ La ∧ p = .int .i64 ((t : Int) + 1) ∧ bs = .int .i64 best ∧ best ≤ 2000000000 ∧ -1 ≤ best ∧ o'.length = l.length ∧ wr.heap[O]? = some (.cells (ints o').toArray 2 (0, 0)) ∧ wr.heap[X]? = some (.cells #[.int .i64 x.down, .int .i64 x.pass, .int .i64 x.takes, .int .i64 x.lo, .int .i64 x.hi, .int .i64 x.every, .int .i64 x.logs, .int .i64 x.ready] 59 (0, 0)) ∧ Below w.heap.size w wr ∧ (∀ m, m ≠ i → o'[m]? = o[m]?) ∧ o'[i]? = some fi ∧ Trying l (planP (planE D l)) i bv (t + 1) best fi) (fun _ p _ => La + 1 - (intOf p).toNat)
        case atStart => exact ⟨0, -1, o, fi0, Nat.zero_le _, rfl, rfl, by omega, by omega, HOL.out, HO4.out, HX4.out, HB4.out, fun _ _ => rfl, HFI0.out, HTR0.out⟩
        case round =>
          obtain ⟨t, best, o', fi, ht, rfl, rfl, hb1, hb2, hol', hO, hX, hB, hoth, hfi, htr⟩ := hrel
          clear HO4 HX4 HB4
          have HOL' := hid hol'
          have HO4 := hid hO
          have HX4 := hid hX
          have HB4 := hid hB
          have HOTH := Lib.hid hoth
          have HFI := hid hfi
          have HTR := hid htr
          clear hol' hO hX hB hoth hfi htr
          by_cases htl : t < La
          · have hdI : decide ((t : Int) + 1 ≤ (La : Int)) = true := by simp; omega
            by_cases hlt : t + 1 < La
            · have hdl : decide ((t : Int) + 1 < (La : Int)) = true := by simp; omega
              have y3 := cell_mono Y3.out HB4.out
              have ylw : Y < wr.heap.size := by have := HB4.out.size; omega
              have glw : gC < wr.heap.size := by have := HB4.out.size; omega
              have a0 := cell_mono (HCC.out t (by omega) 0 (by omega)) HB4.out
              have a1 := cell_mono (HCC.out t (by omega) 1 (by omega)) HB4.out
              have a2 := cell_mono (HCC.out t (by omega) 2 (by omega)) HB4.out
              have a3 := cell_mono (HCC.out t (by omega) 3 (by omega)) HB4.out
              have a4 := cell_mono (HCC.out t (by omega) 4 (by omega)) HB4.out
              have a5 := cell_mono (HCC.out t (by omega) 5 (by omega)) HB4.out
              have a6 := cell_mono (HCC.out t (by omega) 6 (by omega)) HB4.out
              have a7 := cell_mono (HCC.out t (by omega) 7 (by omega)) HB4.out
              have b0 := cell_mono (HCC.out (t + 1) (by omega) 0 (by omega)) HB4.out
              have b1 := cell_mono (HCC.out (t + 1) (by omega) 1 (by omega)) HB4.out
              have b2 := cell_mono (HCC.out (t + 1) (by omega) 2 (by omega)) HB4.out
              have b3 := cell_mono (HCC.out (t + 1) (by omega) 3 (by omega)) HB4.out
              have b4 := cell_mono (HCC.out (t + 1) (by omega) 4 (by omega)) HB4.out
              have b5 := cell_mono (HCC.out (t + 1) (by omega) 5 (by omega)) HB4.out
              have b6 := cell_mono (HCC.out (t + 1) (by omega) 6 (by omega)) HB4.out
              have b7 := cell_mono (HCC.out (t + 1) (by omega) 7 (by omega)) HB4.out
              simp only [Nat.add_zero] at a0 b0
              have htI : (t : Int) < ((D + 1 : Nat) : Int) := by omega
              have htI2 : (t : Int) + 1 < ((D + 1 : Nat) : Int) := by omega
              have hwd : IntKind.i64.wrap ((t : Int) + 1 - 1) = (t : Int) := by rw [IntWalk.i64_in _ (by omega)]; omega
              by_cases heq : row8 (nowF l (planP (planE D l)) (t + 1) 0) = row8 (nowF l (planP (planE D l)) t 0)
              · have hbin := eql86_run (nowF l (planP (planE D l)) (t + 1) 0) (nowF l (planP (planE D l)) t 0) true (by simp [heq])
                have hcome : come (rivP l) (planP (planE D l)) i ((t + 1 : Nat) : Int) = come (rivP l) (planP (planE D l)) i ((t + 1 - 1 : Nat) : Int) := by
                  have h1 := row8_at (f := nowF l (planP (planE D l)) (t + 1) 0) (i := i) (by omega)
                  rw [heq, row8_at (by omega)] at h1
                  injection h1 with h1
                  unfold nowF at h1
                  rw [if_pos hil, if_pos hil, if_neg (by omega), if_neg (by omega)] at h1
                  rw [show t + 1 - 1 = t by omega]
                  exact h1.symm
                have HT2 := hid (trying_skip HTR.out (by rw [riv_at Hx.out]; exact g3.1) (by omega) (by rw [HLA.out]; exact hlt) hcome)
                clear heq hcome
                go_upto_region 13 with (fail)
                refine wp_region_below (by kernel_rfl) (by kernel_rfl) ?_
                repeat (first | go_big_quiet_step (fail) | quiet_step (fail))
                refine wpQuiet_nil ?_
                intro w5 hb5
                have HO5 := hid (heap_mono HO4.out hb5)
                have HX5 := hid (heap_mono HX4.out hb5)
                have HB5 := hid (bl_trans HB4.out hb5)
                clear y3 ylw glw a0 a1 a2 a3 a4 a5 a6 a7 b0 b1 b2 b3 b4 b5 b6 b7 htI htI2 hwd hbin HO4 HX4 HB4 hb5
                go_wp2
                go_roundw
                case rel => exact ⟨t + 1, best, o', fi, by omega, by go_num, rfl, hb1, hb2, HOL'.out, HO5.out, HX5.out, HB5.out, HOTH.out, HFI.out, HT2.out⟩
                case measure => simp [intOf]; omega
              · have hbin := eql86_run (nowF l (planP (planE D l)) (t + 1) 0) (nowF l (planP (planE D l)) t 0) false (by simp [heq])
                clear heq
                go_upto_region 13 with (fail)
                refine wp_region_below (by kernel_rfl) (by kernel_rfl) ?_
                repeat (first | go_big_quiet_step (fail) | quiet_step (fail))
                refine wpQuiet_nil ?_
                intro w5 hb5
                have HO5 := hid (heap_mono HO4.out hb5)
                have HX5 := hid (heap_mono HX4.out hb5)
                have HB5 := hid (bl_trans HB4.out hb5)
                clear y3 ylw glw a0 a1 a2 a3 a4 a5 a6 a7 b0 b1 b2 b3 b4 b5 b6 b7 htI htI2 hwd hbin HO4 HX4 HB4 hb5
                go_upto_region 14 with (fail)
                have y3 := cell_mono Y3.out HB5.out
                have ylw : Y < w5.heap.size := by have := HB5.out.size; omega
                have glw : gC < w5.heap.size := by have := HB5.out.size; omega
                have cI := cell_mono (HCC.out t (by omega) i (by omega)) HB5.out
                have hnow : nowF l (planP (planE D l)) t 0 i = come (rivP l) (planP (planE D l)) i (t : Int) := by unfold nowF; rw [if_pos hil, if_neg (by omega)]
                rw [hnow] at cI
                have hcb := come_bd HF.out HSM.out hil (t : Int) (by omega)
                have htb := thr_bd g3 (t + 1) bv (by omega) (by omega)
                have HCOST : Hid (cost (rivP l) (planP (planE D l)) i bv (t + 1) = come (rivP l) (planP (planE D l)) i (t : Int) + thr x (t + 1) bv) := by
                  show cost _ _ _ _ _ = _
                  unfold cost
                  rw [riv_at Hx.out, show t + 1 - 1 = t by omega]
                obtain ⟨z0, z1, z2, z3, z4, z5, z6, z7⟩ : RchAt w5 X 0 x := ⟨cell_of_heap HX5.out, cell_of_heap HX5.out, cell_of_heap HX5.out, cell_of_heap HX5.out, cell_of_heap HX5.out, cell_of_heap HX5.out, cell_of_heap HX5.out, cell_of_heap HX5.out⟩
                have zl := (Array.getElem?_eq_some_iff.1 HX5.out).1
                simp only [Nat.zero_add] at z1 z2 z3 z4 z5 z6 z7
                have Gen : Hid (∀ W, Below w5.heap.size w5 W → Calls Try.prog 73 #[.agg #[.int .i64 x.down, .int .i64 x.pass, .int .i64 x.takes, .int .i64 x.lo, .int .i64 x.hi, .int .i64 x.every, .int .i64 x.logs, .int .i64 x.ready], .int .i64 ((t : Int) + 1), .int .i64 bv] W fun e w' => e = .returned (.int .i64 (thr x (t + 1) bv)) ∧ Below W.heap.size W w') := fun W hW => by
                  have h := through_any x ((t : Int) + 1) bv W ⟨g1.1, by omega⟩ (by omega) (by omega) ⟨g3.1, by omega⟩ ⟨g4.1, by omega⟩
                  have h2 := thrL_eq g1.1 g2.1 bv (t + 1) (by omega)
                  rw [show ((t + 1 : Nat) : Int) = (t : Int) + 1 by omega] at h2
                  rw [h2] at h
                  exact h
                generalize come (rivP l) (planP (planE D l)) i (t : Int) = cm at *
                generalize thr x (t + 1) bv = th at *
                have hwd : IntKind.i64.wrap ((t : Int) + 1 - 1) = (t : Int) := by rw [IntWalk.i64_in _ (by omega)]; omega
                have hws : IntKind.i64.wrap (cm + th) = cm + th := IntWalk.i64_in _ (by omega)
                have htI : (t : Int) < ((D + 1 : Nat) : Int) := by omega
                have hi8 : (i : Int) < 8 := by omega
                clear hnow
                refine wp_region_below (by kernel_rfl) (by kernel_rfl) ?_
                repeat (first | go_big_quiet_step (first | (go_at_call 73; exact Calls.regrown_of (Gen.out _ (below_regrown _ _ _)))) | quiet_step (first | (go_at_call 73; exact Calls.regrown_of (Gen.out _ (below_regrown _ _ _)))))
                refine wpQuiet_nil ?_
                intro w6 hb6
                have HO6 := hid (heap_mono HO5.out hb6)
                have HX6 := hid (heap_mono HX5.out hb6)
                have HB6 := hid (bl_trans HB5.out hb6)
                clear HO5 HX5 HB5 hb6 y3 ylw glw cI z0 z1 z2 z3 z4 z5 z6 z7 zl Gen hwd hws htI
                by_cases hbt : best < 0
                · have d1 : decide (best < 0) = true := by simpa using hbt
                  have HT2 := hid (trying_new HTR.out (by omega) (by rw [HCOST.out]; omega) (by rw [HCOST.out]; omega))
                  have cO : w6.cell? ⟨O, i, none⟩ = some (.int .i64 fi) := by rw [cell_of_heap HO6.out]; simp [ints, HFI.out]
                  have fO : w6.frozen? ⟨O, i, none⟩ = false := frozen_of_heap HO6.out
                  have lO := (Array.getElem?_eq_some_iff.1 HO6.out).1
                  have HO7 := hid (set_heap (d := i) (y := (t : Int) + 1) HO6.out)
                  have HX7 := hid (past_set (o := i) (u := .int .i64 ((t : Int) + 1)) (ne_type HX6.out HO6.out (by decide)) HX6.out)
                  have HB7 := hid (bl_set HB6.out (o := i) (.int .i64 ((t : Int) + 1)) HOB.out)
                  clear HO6 HX6 HB6 hbt
                  go_wp2
                  go_roundw
                  case rel => exact ⟨t + 1, _, o'.set i ((t : Int) + 1), (t : Int) + 1, by omega, by go_num, rfl, by omega, by omega, by rw [List.length_set]; exact HOL'.out, HO7.out, HX7.out, HB7.out, fun m hm => by rw [List.getElem?_set_ne (Ne.symm hm)]; exact HOTH.out m hm, by rw [List.getElem?_set_self (by rw [HOL'.out]; exact hil)], by rw [← HCOST.out]; exact HT2.out⟩
                  case measure => simp [intOf]; omega
                · have d1 : decide (best < 0) = false := by simpa using hbt
                  by_cases hbn : cm + th < best
                  · have d2 : decide (cm + th < best) = true := by simpa using hbn
                    have HT2 := hid (trying_new HTR.out (by omega) (by rw [HCOST.out]; omega) (by rw [HCOST.out]; omega))
                    have cO : w6.cell? ⟨O, i, none⟩ = some (.int .i64 fi) := by rw [cell_of_heap HO6.out]; simp [ints, HFI.out]
                    have fO : w6.frozen? ⟨O, i, none⟩ = false := frozen_of_heap HO6.out
                    have lO := (Array.getElem?_eq_some_iff.1 HO6.out).1
                    have HO7 := hid (set_heap (d := i) (y := (t : Int) + 1) HO6.out)
                    have HX7 := hid (past_set (o := i) (u := .int .i64 ((t : Int) + 1)) (ne_type HX6.out HO6.out (by decide)) HX6.out)
                    have HB7 := hid (bl_set HB6.out (o := i) (.int .i64 ((t : Int) + 1)) HOB.out)
                    clear HO6 HX6 HB6 hbt hbn
                    go_wp2
                    go_roundw
                    case rel => exact ⟨t + 1, _, o'.set i ((t : Int) + 1), (t : Int) + 1, by omega, by go_num, rfl, by omega, by omega, by rw [List.length_set]; exact HOL'.out, HO7.out, HX7.out, HB7.out, fun m hm => by rw [List.getElem?_set_ne (Ne.symm hm)]; exact HOTH.out m hm, by rw [List.getElem?_set_self (by rw [HOL'.out]; exact hil)], by rw [← HCOST.out]; exact HT2.out⟩
                    case measure => simp [intOf]; omega
                  · have d2 : decide (cm + th < best) = false := by simpa using hbn
                    have HT2 := hid (trying_old HTR.out (by omega) (by rw [HCOST.out]; omega))
                    clear hbt hbn
                    go_wp2
                    go_roundw
                    case rel => exact ⟨t + 1, best, o', fi, by omega, by go_num, rfl, by omega, by omega, HOL'.out, HO6.out, HX6.out, HB6.out, HOTH.out, HFI.out, HT2.out⟩
                    case measure => simp [intOf]; omega
            · have hdl : decide ((t : Int) + 1 < (La : Int)) = false := by simp; omega
              go_upto_region 13 with (fail)
              refine wp_region_below (by kernel_rfl) (by kernel_rfl) ?_
              repeat (first | go_big_quiet_step (fail) | quiet_step (fail))
              refine wpQuiet_nil ?_
              intro w5 hb5
              have HO5 := hid (heap_mono HO4.out hb5)
              have HX5 := hid (heap_mono HX4.out hb5)
              have HB5 := hid (bl_trans HB4.out hb5)
              clear hlt HO4 HX4 HB4 hb5
              go_upto_region 14 with (fail)
              have y3 := cell_mono Y3.out HB5.out
              have ylw : Y < w5.heap.size := by have := HB5.out.size; omega
              have glw : gC < w5.heap.size := by have := HB5.out.size; omega
              have cI := cell_mono (HCC.out t (by omega) i (by omega)) HB5.out
              have hnow : nowF l (planP (planE D l)) t 0 i = come (rivP l) (planP (planE D l)) i (t : Int) := by unfold nowF; rw [if_pos hil, if_neg (by omega)]
              rw [hnow] at cI
              have hcb := come_bd HF.out HSM.out hil (t : Int) (by omega)
              have htb := thr_bd g3 (t + 1) bv (by omega) (by omega)
              have HCOST : Hid (cost (rivP l) (planP (planE D l)) i bv (t + 1) = come (rivP l) (planP (planE D l)) i (t : Int) + thr x (t + 1) bv) := by
                show cost _ _ _ _ _ = _
                unfold cost
                rw [riv_at Hx.out, show t + 1 - 1 = t by omega]
              obtain ⟨z0, z1, z2, z3, z4, z5, z6, z7⟩ : RchAt w5 X 0 x := ⟨cell_of_heap HX5.out, cell_of_heap HX5.out, cell_of_heap HX5.out, cell_of_heap HX5.out, cell_of_heap HX5.out, cell_of_heap HX5.out, cell_of_heap HX5.out, cell_of_heap HX5.out⟩
              have zl := (Array.getElem?_eq_some_iff.1 HX5.out).1
              simp only [Nat.zero_add] at z1 z2 z3 z4 z5 z6 z7
              have Gen : Hid (∀ W, Below w5.heap.size w5 W → Calls Try.prog 73 #[.agg #[.int .i64 x.down, .int .i64 x.pass, .int .i64 x.takes, .int .i64 x.lo, .int .i64 x.hi, .int .i64 x.every, .int .i64 x.logs, .int .i64 x.ready], .int .i64 ((t : Int) + 1), .int .i64 bv] W fun e w' => e = .returned (.int .i64 (thr x (t + 1) bv)) ∧ Below W.heap.size W w') := fun W hW => by
                have h := through_any x ((t : Int) + 1) bv W ⟨g1.1, by omega⟩ (by omega) (by omega) ⟨g3.1, by omega⟩ ⟨g4.1, by omega⟩
                have h2 := thrL_eq g1.1 g2.1 bv (t + 1) (by omega)
                rw [show ((t + 1 : Nat) : Int) = (t : Int) + 1 by omega] at h2
                rw [h2] at h
                exact h
              generalize come (rivP l) (planP (planE D l)) i (t : Int) = cm at *
              generalize thr x (t + 1) bv = th at *
              have hwd : IntKind.i64.wrap ((t : Int) + 1 - 1) = (t : Int) := by rw [IntWalk.i64_in _ (by omega)]; omega
              have hws : IntKind.i64.wrap (cm + th) = cm + th := IntWalk.i64_in _ (by omega)
              have htI : (t : Int) < ((D + 1 : Nat) : Int) := by omega
              have hi8 : (i : Int) < 8 := by omega
              clear hnow
              refine wp_region_below (by kernel_rfl) (by kernel_rfl) ?_
              repeat (first | go_big_quiet_step (first | (go_at_call 73; exact Calls.regrown_of (Gen.out _ (below_regrown _ _ _)))) | quiet_step (first | (go_at_call 73; exact Calls.regrown_of (Gen.out _ (below_regrown _ _ _)))))
              refine wpQuiet_nil ?_
              intro w6 hb6
              have HO6 := hid (heap_mono HO5.out hb6)
              have HX6 := hid (heap_mono HX5.out hb6)
              have HB6 := hid (bl_trans HB5.out hb6)
              clear HO5 HX5 HB5 hb6 y3 ylw glw cI z0 z1 z2 z3 z4 z5 z6 z7 zl Gen hwd hws htI
              by_cases hbt : best < 0
              · have d1 : decide (best < 0) = true := by simpa using hbt
                have HT2 := hid (trying_new HTR.out (by omega) (by rw [HCOST.out]; omega) (by rw [HCOST.out]; omega))
                have cO : w6.cell? ⟨O, i, none⟩ = some (.int .i64 fi) := by rw [cell_of_heap HO6.out]; simp [ints, HFI.out]
                have fO : w6.frozen? ⟨O, i, none⟩ = false := frozen_of_heap HO6.out
                have lO := (Array.getElem?_eq_some_iff.1 HO6.out).1
                have HO7 := hid (set_heap (d := i) (y := (t : Int) + 1) HO6.out)
                have HX7 := hid (past_set (o := i) (u := .int .i64 ((t : Int) + 1)) (ne_type HX6.out HO6.out (by decide)) HX6.out)
                have HB7 := hid (bl_set HB6.out (o := i) (.int .i64 ((t : Int) + 1)) HOB.out)
                clear HO6 HX6 HB6 hbt
                go_wp2
                go_roundw
                case rel => exact ⟨t + 1, _, o'.set i ((t : Int) + 1), (t : Int) + 1, by omega, by go_num, rfl, by omega, by omega, by rw [List.length_set]; exact HOL'.out, HO7.out, HX7.out, HB7.out, fun m hm => by rw [List.getElem?_set_ne (Ne.symm hm)]; exact HOTH.out m hm, by rw [List.getElem?_set_self (by rw [HOL'.out]; exact hil)], by rw [← HCOST.out]; exact HT2.out⟩
                case measure => simp [intOf]; omega
              · have d1 : decide (best < 0) = false := by simpa using hbt
                by_cases hbn : cm + th < best
                · have d2 : decide (cm + th < best) = true := by simpa using hbn
                  have HT2 := hid (trying_new HTR.out (by omega) (by rw [HCOST.out]; omega) (by rw [HCOST.out]; omega))
                  have cO : w6.cell? ⟨O, i, none⟩ = some (.int .i64 fi) := by rw [cell_of_heap HO6.out]; simp [ints, HFI.out]
                  have fO : w6.frozen? ⟨O, i, none⟩ = false := frozen_of_heap HO6.out
                  have lO := (Array.getElem?_eq_some_iff.1 HO6.out).1
                  have HO7 := hid (set_heap (d := i) (y := (t : Int) + 1) HO6.out)
                  have HX7 := hid (past_set (o := i) (u := .int .i64 ((t : Int) + 1)) (ne_type HX6.out HO6.out (by decide)) HX6.out)
                  have HB7 := hid (bl_set HB6.out (o := i) (.int .i64 ((t : Int) + 1)) HOB.out)
                  clear HO6 HX6 HB6 hbt hbn
                  go_wp2
                  go_roundw
                  case rel => exact ⟨t + 1, _, o'.set i ((t : Int) + 1), (t : Int) + 1, by omega, by go_num, rfl, by omega, by omega, by rw [List.length_set]; exact HOL'.out, HO7.out, HX7.out, HB7.out, fun m hm => by rw [List.getElem?_set_ne (Ne.symm hm)]; exact HOTH.out m hm, by rw [List.getElem?_set_self (by rw [HOL'.out]; exact hil)], by rw [← HCOST.out]; exact HT2.out⟩
                  case measure => simp [intOf]; omega
                · have d2 : decide (cm + th < best) = false := by simpa using hbn
                  have HT2 := hid (trying_old HTR.out (by omega) (by rw [HCOST.out]; omega))
                  clear hbt hbn
                  go_wp2
                  go_roundw
                  case rel => exact ⟨t + 1, best, o', fi, by omega, by go_num, rfl, by omega, by omega, HOL'.out, HO6.out, HX6.out, HB6.out, HOTH.out, HFI.out, HT2.out⟩
                  case measure => simp [intOf]; omega
          · obtain rfl : t = La := by omega
            have hdI : decide ((t : Int) + 1 ≤ (t : Int)) = false := by rw [decide_eq_false_iff_not]; omega
            have hwi : IntKind.i64.wrap ((i : Int) - 1) = (i : Int) - 1 := IntWalk.i64_in _ (by omega)
            have HW2 : Hid (∀ j, i ≤ j → j < l.length → WellAt l (planP (planE D l)) day o' j) := by
              intro j h1 h2
              by_cases hj : j = i
              · subst hj
                exact trying_done HF.out HE.out hil hbv2 hday HFI.out (HBV.out o' fun m hm => HOTH.out m (by omega)) (by rw [HLA.out]; exact HTR.out)
              · obtain ⟨xj, hxj⟩ := get_at h2
                have hdj := HF.out.down j xj hxj
                refine wellAt_other (k := i + 1) (by omega) (by rw [riv_at hxj]; omega) (fun m hm => HOTH.out m (by omega)) (HWL.out j (by omega) h2)
            go_wp2
            go_roundw
            case rel => exact ⟨i, o', by omega, rfl, HOL'.out, HO4.out, HB4.out, HW2.out⟩
            case measure => simp [intOf]
      · have dd : decide (0 ≤ x.down) = false := by simpa using hdn
        go_upto_region 9 with (fail)
        obtain ⟨bv, hbv⟩ : ∃ bv : Int, (day : Int) + 1 = bv := ⟨_, rfl⟩
        have HBV : Hid (∀ o' : List Int, (∀ m, i + 1 ≤ m → o'[m]? = o[m]?) → before (rivP l) (cutF o') day i = bv) := by
          intro o' _
          unfold before
          rw [riv_at Hx.out, if_neg hdn, hbv]
        have hbv1 : 1 ≤ bv := by omega
        have hbv2 : bv ≤ (day : Int) + 1 := by omega
        rw [hbv]
        clear hdn c0 dd hbv g7
        have HO3 := hid ho3
        obtain ⟨fi0, hfi0⟩ := get_at (l := o) (k := i) (by rw [HOL.out]; exact hil)
        have HTR0 : Hid (Trying l (planP (planE D l)) i bv 1 (-1) fi0) := ⟨.inl rfl, fun e h1 h2 => by omega⟩
        have HFI0 := hid hfi0
        have hll : ((lastDay x bv : Nat) : Int) = if 1 < bv - x.takes then bv - x.takes else 1 := by unfold lastDay; split <;> omega
        have hl1 : 1 ≤ lastDay x bv := by unfold lastDay; omega
        have hl2 : (lastDay x bv : Int) ≤ (D : Int) + 1 := by unfold lastDay; omega
        have hwt : IntKind.i64.wrap (bv - x.takes) = bv - x.takes := IntWalk.i64_in _ (by omega)
        have HLL := hid hll
        clear hfi0 ho3 hll
        refine wp_region_below (by kernel_rfl) (by kernel_rfl) ?_
        repeat (first | go_big_quiet_step (fail) | quiet_step (fail))
        refine wpQuiet_nil ?_
        intro w4 hb4
        rw [← HLL.out]
        obtain ⟨La, hLa⟩ : ∃ La, lastDay x bv = La := ⟨_, rfl⟩
        have HLA : Hid (lastDay (rivP l i) bv = La) := by show lastDay (rivP l i) bv = La; rw [riv_at Hx.out, hLa]
        rw [hLa] at hl1 hl2 ⊢
        have HO4 := hid (heap_mono HO3.out hb4)
        have HX4 := hid (heap_mono HX3.out hb4)
        have HB4 := hid (bl_trans HB3.out hb4)
        clear hLa HLL hwt c2 yl HO3 HX3 HB3 hb4
        go_wp2
        go_loopw [9, 11] (fun bs p wr => ∃ (t : Nat) (best : Int) (o' : List Int) (fi : Int), t ≤ La ∧ p = .int .i64 ((t : Int) + 1) ∧ bs = .int .i64 best ∧ best ≤ 2000000000 ∧ -1 ≤ best ∧ o'.length = l.length ∧ wr.heap[O]? = some (.cells (ints o').toArray 2 (0, 0)) ∧ wr.heap[X]? = some (.cells #[.int .i64 x.down, .int .i64 x.pass, .int .i64 x.takes, .int .i64 x.lo, .int .i64 x.hi, .int .i64 x.every, .int .i64 x.logs, .int .i64 x.ready] 59 (0, 0)) ∧ Below w.heap.size w wr ∧ (∀ m, m ≠ i → o'[m]? = o[m]?) ∧ o'[i]? = some fi ∧ Trying l (planP (planE D l)) i bv (t + 1) best fi) (fun _ p _ => La + 1 - (intOf p).toNat)
        case atStart => exact ⟨0, -1, o, fi0, Nat.zero_le _, rfl, rfl, by omega, by omega, HOL.out, HO4.out, HX4.out, HB4.out, fun _ _ => rfl, HFI0.out, HTR0.out⟩
        case round =>
          obtain ⟨t, best, o', fi, ht, rfl, rfl, hb1, hb2, hol', hO, hX, hB, hoth, hfi, htr⟩ := hrel
          clear HO4 HX4 HB4
          have HOL' := hid hol'
          have HO4 := hid hO
          have HX4 := hid hX
          have HB4 := hid hB
          have HOTH := Lib.hid hoth
          have HFI := hid hfi
          have HTR := hid htr
          clear hol' hO hX hB hoth hfi htr
          by_cases htl : t < La
          · have hdI : decide ((t : Int) + 1 ≤ (La : Int)) = true := by simp; omega
            by_cases hlt : t + 1 < La
            · have hdl : decide ((t : Int) + 1 < (La : Int)) = true := by simp; omega
              have y3 := cell_mono Y3.out HB4.out
              have ylw : Y < wr.heap.size := by have := HB4.out.size; omega
              have glw : gC < wr.heap.size := by have := HB4.out.size; omega
              have a0 := cell_mono (HCC.out t (by omega) 0 (by omega)) HB4.out
              have a1 := cell_mono (HCC.out t (by omega) 1 (by omega)) HB4.out
              have a2 := cell_mono (HCC.out t (by omega) 2 (by omega)) HB4.out
              have a3 := cell_mono (HCC.out t (by omega) 3 (by omega)) HB4.out
              have a4 := cell_mono (HCC.out t (by omega) 4 (by omega)) HB4.out
              have a5 := cell_mono (HCC.out t (by omega) 5 (by omega)) HB4.out
              have a6 := cell_mono (HCC.out t (by omega) 6 (by omega)) HB4.out
              have a7 := cell_mono (HCC.out t (by omega) 7 (by omega)) HB4.out
              have b0 := cell_mono (HCC.out (t + 1) (by omega) 0 (by omega)) HB4.out
              have b1 := cell_mono (HCC.out (t + 1) (by omega) 1 (by omega)) HB4.out
              have b2 := cell_mono (HCC.out (t + 1) (by omega) 2 (by omega)) HB4.out
              have b3 := cell_mono (HCC.out (t + 1) (by omega) 3 (by omega)) HB4.out
              have b4 := cell_mono (HCC.out (t + 1) (by omega) 4 (by omega)) HB4.out
              have b5 := cell_mono (HCC.out (t + 1) (by omega) 5 (by omega)) HB4.out
              have b6 := cell_mono (HCC.out (t + 1) (by omega) 6 (by omega)) HB4.out
              have b7 := cell_mono (HCC.out (t + 1) (by omega) 7 (by omega)) HB4.out
              simp only [Nat.add_zero] at a0 b0
              have htI : (t : Int) < ((D + 1 : Nat) : Int) := by omega
              have htI2 : (t : Int) + 1 < ((D + 1 : Nat) : Int) := by omega
              have hwd : IntKind.i64.wrap ((t : Int) + 1 - 1) = (t : Int) := by rw [IntWalk.i64_in _ (by omega)]; omega
              by_cases heq : row8 (nowF l (planP (planE D l)) (t + 1) 0) = row8 (nowF l (planP (planE D l)) t 0)
              · have hbin := eql86_run (nowF l (planP (planE D l)) (t + 1) 0) (nowF l (planP (planE D l)) t 0) true (by simp [heq])
                have hcome : come (rivP l) (planP (planE D l)) i ((t + 1 : Nat) : Int) = come (rivP l) (planP (planE D l)) i ((t + 1 - 1 : Nat) : Int) := by
                  have h1 := row8_at (f := nowF l (planP (planE D l)) (t + 1) 0) (i := i) (by omega)
                  rw [heq, row8_at (by omega)] at h1
                  injection h1 with h1
                  unfold nowF at h1
                  rw [if_pos hil, if_pos hil, if_neg (by omega), if_neg (by omega)] at h1
                  rw [show t + 1 - 1 = t by omega]
                  exact h1.symm
                have HT2 := hid (trying_skip HTR.out (by rw [riv_at Hx.out]; exact g3.1) (by omega) (by rw [HLA.out]; exact hlt) hcome)
                clear heq hcome
                go_upto_region 13 with (fail)
                refine wp_region_below (by kernel_rfl) (by kernel_rfl) ?_
                repeat (first | go_big_quiet_step (fail) | quiet_step (fail))
                refine wpQuiet_nil ?_
                intro w5 hb5
                have HO5 := hid (heap_mono HO4.out hb5)
                have HX5 := hid (heap_mono HX4.out hb5)
                have HB5 := hid (bl_trans HB4.out hb5)
                clear y3 ylw glw a0 a1 a2 a3 a4 a5 a6 a7 b0 b1 b2 b3 b4 b5 b6 b7 htI htI2 hwd hbin HO4 HX4 HB4 hb5
                go_wp2
                go_roundw
                case rel => exact ⟨t + 1, best, o', fi, by omega, by go_num, rfl, hb1, hb2, HOL'.out, HO5.out, HX5.out, HB5.out, HOTH.out, HFI.out, HT2.out⟩
                case measure => simp [intOf]; omega
              · have hbin := eql86_run (nowF l (planP (planE D l)) (t + 1) 0) (nowF l (planP (planE D l)) t 0) false (by simp [heq])
                clear heq
                go_upto_region 13 with (fail)
                refine wp_region_below (by kernel_rfl) (by kernel_rfl) ?_
                repeat (first | go_big_quiet_step (fail) | quiet_step (fail))
                refine wpQuiet_nil ?_
                intro w5 hb5
                have HO5 := hid (heap_mono HO4.out hb5)
                have HX5 := hid (heap_mono HX4.out hb5)
                have HB5 := hid (bl_trans HB4.out hb5)
                clear y3 ylw glw a0 a1 a2 a3 a4 a5 a6 a7 b0 b1 b2 b3 b4 b5 b6 b7 htI htI2 hwd hbin HO4 HX4 HB4 hb5
                go_upto_region 14 with (fail)
                have y3 := cell_mono Y3.out HB5.out
                have ylw : Y < w5.heap.size := by have := HB5.out.size; omega
                have glw : gC < w5.heap.size := by have := HB5.out.size; omega
                have cI := cell_mono (HCC.out t (by omega) i (by omega)) HB5.out
                have hnow : nowF l (planP (planE D l)) t 0 i = come (rivP l) (planP (planE D l)) i (t : Int) := by unfold nowF; rw [if_pos hil, if_neg (by omega)]
                rw [hnow] at cI
                have hcb := come_bd HF.out HSM.out hil (t : Int) (by omega)
                have htb := thr_bd g3 (t + 1) bv (by omega) (by omega)
                have HCOST : Hid (cost (rivP l) (planP (planE D l)) i bv (t + 1) = come (rivP l) (planP (planE D l)) i (t : Int) + thr x (t + 1) bv) := by
                  show cost _ _ _ _ _ = _
                  unfold cost
                  rw [riv_at Hx.out, show t + 1 - 1 = t by omega]
                obtain ⟨z0, z1, z2, z3, z4, z5, z6, z7⟩ : RchAt w5 X 0 x := ⟨cell_of_heap HX5.out, cell_of_heap HX5.out, cell_of_heap HX5.out, cell_of_heap HX5.out, cell_of_heap HX5.out, cell_of_heap HX5.out, cell_of_heap HX5.out, cell_of_heap HX5.out⟩
                have zl := (Array.getElem?_eq_some_iff.1 HX5.out).1
                simp only [Nat.zero_add] at z1 z2 z3 z4 z5 z6 z7
                have Gen : Hid (∀ W, Below w5.heap.size w5 W → Calls Try.prog 73 #[.agg #[.int .i64 x.down, .int .i64 x.pass, .int .i64 x.takes, .int .i64 x.lo, .int .i64 x.hi, .int .i64 x.every, .int .i64 x.logs, .int .i64 x.ready], .int .i64 ((t : Int) + 1), .int .i64 bv] W fun e w' => e = .returned (.int .i64 (thr x (t + 1) bv)) ∧ Below W.heap.size W w') := fun W hW => by
                  have h := through_any x ((t : Int) + 1) bv W ⟨g1.1, by omega⟩ (by omega) (by omega) ⟨g3.1, by omega⟩ ⟨g4.1, by omega⟩
                  have h2 := thrL_eq g1.1 g2.1 bv (t + 1) (by omega)
                  rw [show ((t + 1 : Nat) : Int) = (t : Int) + 1 by omega] at h2
                  rw [h2] at h
                  exact h
                generalize come (rivP l) (planP (planE D l)) i (t : Int) = cm at *
                generalize thr x (t + 1) bv = th at *
                have hwd : IntKind.i64.wrap ((t : Int) + 1 - 1) = (t : Int) := by rw [IntWalk.i64_in _ (by omega)]; omega
                have hws : IntKind.i64.wrap (cm + th) = cm + th := IntWalk.i64_in _ (by omega)
                have htI : (t : Int) < ((D + 1 : Nat) : Int) := by omega
                have hi8 : (i : Int) < 8 := by omega
                clear hnow
                refine wp_region_below (by kernel_rfl) (by kernel_rfl) ?_
                repeat (first | go_big_quiet_step (first | (go_at_call 73; exact Calls.regrown_of (Gen.out _ (below_regrown _ _ _)))) | quiet_step (first | (go_at_call 73; exact Calls.regrown_of (Gen.out _ (below_regrown _ _ _)))))
                refine wpQuiet_nil ?_
                intro w6 hb6
                have HO6 := hid (heap_mono HO5.out hb6)
                have HX6 := hid (heap_mono HX5.out hb6)
                have HB6 := hid (bl_trans HB5.out hb6)
                clear HO5 HX5 HB5 hb6 y3 ylw glw cI z0 z1 z2 z3 z4 z5 z6 z7 zl Gen hwd hws htI
                by_cases hbt : best < 0
                · have d1 : decide (best < 0) = true := by simpa using hbt
                  have HT2 := hid (trying_new HTR.out (by omega) (by rw [HCOST.out]; omega) (by rw [HCOST.out]; omega))
                  have cO : w6.cell? ⟨O, i, none⟩ = some (.int .i64 fi) := by rw [cell_of_heap HO6.out]; simp [ints, HFI.out]
                  have fO : w6.frozen? ⟨O, i, none⟩ = false := frozen_of_heap HO6.out
                  have lO := (Array.getElem?_eq_some_iff.1 HO6.out).1
                  have HO7 := hid (set_heap (d := i) (y := (t : Int) + 1) HO6.out)
                  have HX7 := hid (past_set (o := i) (u := .int .i64 ((t : Int) + 1)) (ne_type HX6.out HO6.out (by decide)) HX6.out)
                  have HB7 := hid (bl_set HB6.out (o := i) (.int .i64 ((t : Int) + 1)) HOB.out)
                  clear HO6 HX6 HB6 hbt
                  go_wp2
                  go_roundw
                  case rel => exact ⟨t + 1, _, o'.set i ((t : Int) + 1), (t : Int) + 1, by omega, by go_num, rfl, by omega, by omega, by rw [List.length_set]; exact HOL'.out, HO7.out, HX7.out, HB7.out, fun m hm => by rw [List.getElem?_set_ne (Ne.symm hm)]; exact HOTH.out m hm, by rw [List.getElem?_set_self (by rw [HOL'.out]; exact hil)], by rw [← HCOST.out]; exact HT2.out⟩
                  case measure => simp [intOf]; omega
                · have d1 : decide (best < 0) = false := by simpa using hbt
                  by_cases hbn : cm + th < best
                  · have d2 : decide (cm + th < best) = true := by simpa using hbn
                    have HT2 := hid (trying_new HTR.out (by omega) (by rw [HCOST.out]; omega) (by rw [HCOST.out]; omega))
                    have cO : w6.cell? ⟨O, i, none⟩ = some (.int .i64 fi) := by rw [cell_of_heap HO6.out]; simp [ints, HFI.out]
                    have fO : w6.frozen? ⟨O, i, none⟩ = false := frozen_of_heap HO6.out
                    have lO := (Array.getElem?_eq_some_iff.1 HO6.out).1
                    have HO7 := hid (set_heap (d := i) (y := (t : Int) + 1) HO6.out)
                    have HX7 := hid (past_set (o := i) (u := .int .i64 ((t : Int) + 1)) (ne_type HX6.out HO6.out (by decide)) HX6.out)
                    have HB7 := hid (bl_set HB6.out (o := i) (.int .i64 ((t : Int) + 1)) HOB.out)
                    clear HO6 HX6 HB6 hbt hbn
                    go_wp2
                    go_roundw
                    case rel => exact ⟨t + 1, _, o'.set i ((t : Int) + 1), (t : Int) + 1, by omega, by go_num, rfl, by omega, by omega, by rw [List.length_set]; exact HOL'.out, HO7.out, HX7.out, HB7.out, fun m hm => by rw [List.getElem?_set_ne (Ne.symm hm)]; exact HOTH.out m hm, by rw [List.getElem?_set_self (by rw [HOL'.out]; exact hil)], by rw [← HCOST.out]; exact HT2.out⟩
                    case measure => simp [intOf]; omega
                  · have d2 : decide (cm + th < best) = false := by simpa using hbn
                    have HT2 := hid (trying_old HTR.out (by omega) (by rw [HCOST.out]; omega))
                    clear hbt hbn
                    go_wp2
                    go_roundw
                    case rel => exact ⟨t + 1, best, o', fi, by omega, by go_num, rfl, by omega, by omega, HOL'.out, HO6.out, HX6.out, HB6.out, HOTH.out, HFI.out, HT2.out⟩
                    case measure => simp [intOf]; omega
            · have hdl : decide ((t : Int) + 1 < (La : Int)) = false := by simp; omega
              go_upto_region 13 with (fail)
              refine wp_region_below (by kernel_rfl) (by kernel_rfl) ?_
              repeat (first | go_big_quiet_step (fail) | quiet_step (fail))
              refine wpQuiet_nil ?_
              intro w5 hb5
              have HO5 := hid (heap_mono HO4.out hb5)
              have HX5 := hid (heap_mono HX4.out hb5)
              have HB5 := hid (bl_trans HB4.out hb5)
              clear hlt HO4 HX4 HB4 hb5
              go_upto_region 14 with (fail)
              have y3 := cell_mono Y3.out HB5.out
              have ylw : Y < w5.heap.size := by have := HB5.out.size; omega
              have glw : gC < w5.heap.size := by have := HB5.out.size; omega
              have cI := cell_mono (HCC.out t (by omega) i (by omega)) HB5.out
              have hnow : nowF l (planP (planE D l)) t 0 i = come (rivP l) (planP (planE D l)) i (t : Int) := by unfold nowF; rw [if_pos hil, if_neg (by omega)]
              rw [hnow] at cI
              have hcb := come_bd HF.out HSM.out hil (t : Int) (by omega)
              have htb := thr_bd g3 (t + 1) bv (by omega) (by omega)
              have HCOST : Hid (cost (rivP l) (planP (planE D l)) i bv (t + 1) = come (rivP l) (planP (planE D l)) i (t : Int) + thr x (t + 1) bv) := by
                show cost _ _ _ _ _ = _
                unfold cost
                rw [riv_at Hx.out, show t + 1 - 1 = t by omega]
              obtain ⟨z0, z1, z2, z3, z4, z5, z6, z7⟩ : RchAt w5 X 0 x := ⟨cell_of_heap HX5.out, cell_of_heap HX5.out, cell_of_heap HX5.out, cell_of_heap HX5.out, cell_of_heap HX5.out, cell_of_heap HX5.out, cell_of_heap HX5.out, cell_of_heap HX5.out⟩
              have zl := (Array.getElem?_eq_some_iff.1 HX5.out).1
              simp only [Nat.zero_add] at z1 z2 z3 z4 z5 z6 z7
              have Gen : Hid (∀ W, Below w5.heap.size w5 W → Calls Try.prog 73 #[.agg #[.int .i64 x.down, .int .i64 x.pass, .int .i64 x.takes, .int .i64 x.lo, .int .i64 x.hi, .int .i64 x.every, .int .i64 x.logs, .int .i64 x.ready], .int .i64 ((t : Int) + 1), .int .i64 bv] W fun e w' => e = .returned (.int .i64 (thr x (t + 1) bv)) ∧ Below W.heap.size W w') := fun W hW => by
                have h := through_any x ((t : Int) + 1) bv W ⟨g1.1, by omega⟩ (by omega) (by omega) ⟨g3.1, by omega⟩ ⟨g4.1, by omega⟩
                have h2 := thrL_eq g1.1 g2.1 bv (t + 1) (by omega)
                rw [show ((t + 1 : Nat) : Int) = (t : Int) + 1 by omega] at h2
                rw [h2] at h
                exact h
              generalize come (rivP l) (planP (planE D l)) i (t : Int) = cm at *
              generalize thr x (t + 1) bv = th at *
              have hwd : IntKind.i64.wrap ((t : Int) + 1 - 1) = (t : Int) := by rw [IntWalk.i64_in _ (by omega)]; omega
              have hws : IntKind.i64.wrap (cm + th) = cm + th := IntWalk.i64_in _ (by omega)
              have htI : (t : Int) < ((D + 1 : Nat) : Int) := by omega
              have hi8 : (i : Int) < 8 := by omega
              clear hnow
              refine wp_region_below (by kernel_rfl) (by kernel_rfl) ?_
              repeat (first | go_big_quiet_step (first | (go_at_call 73; exact Calls.regrown_of (Gen.out _ (below_regrown _ _ _)))) | quiet_step (first | (go_at_call 73; exact Calls.regrown_of (Gen.out _ (below_regrown _ _ _)))))
              refine wpQuiet_nil ?_
              intro w6 hb6
              have HO6 := hid (heap_mono HO5.out hb6)
              have HX6 := hid (heap_mono HX5.out hb6)
              have HB6 := hid (bl_trans HB5.out hb6)
              clear HO5 HX5 HB5 hb6 y3 ylw glw cI z0 z1 z2 z3 z4 z5 z6 z7 zl Gen hwd hws htI
              by_cases hbt : best < 0
              · have d1 : decide (best < 0) = true := by simpa using hbt
                have HT2 := hid (trying_new HTR.out (by omega) (by rw [HCOST.out]; omega) (by rw [HCOST.out]; omega))
                have cO : w6.cell? ⟨O, i, none⟩ = some (.int .i64 fi) := by rw [cell_of_heap HO6.out]; simp [ints, HFI.out]
                have fO : w6.frozen? ⟨O, i, none⟩ = false := frozen_of_heap HO6.out
                have lO := (Array.getElem?_eq_some_iff.1 HO6.out).1
                have HO7 := hid (set_heap (d := i) (y := (t : Int) + 1) HO6.out)
                have HX7 := hid (past_set (o := i) (u := .int .i64 ((t : Int) + 1)) (ne_type HX6.out HO6.out (by decide)) HX6.out)
                have HB7 := hid (bl_set HB6.out (o := i) (.int .i64 ((t : Int) + 1)) HOB.out)
                clear HO6 HX6 HB6 hbt
                go_wp2
                go_roundw
                case rel => exact ⟨t + 1, _, o'.set i ((t : Int) + 1), (t : Int) + 1, by omega, by go_num, rfl, by omega, by omega, by rw [List.length_set]; exact HOL'.out, HO7.out, HX7.out, HB7.out, fun m hm => by rw [List.getElem?_set_ne (Ne.symm hm)]; exact HOTH.out m hm, by rw [List.getElem?_set_self (by rw [HOL'.out]; exact hil)], by rw [← HCOST.out]; exact HT2.out⟩
                case measure => simp [intOf]; omega
              · have d1 : decide (best < 0) = false := by simpa using hbt
                by_cases hbn : cm + th < best
                · have d2 : decide (cm + th < best) = true := by simpa using hbn
                  have HT2 := hid (trying_new HTR.out (by omega) (by rw [HCOST.out]; omega) (by rw [HCOST.out]; omega))
                  have cO : w6.cell? ⟨O, i, none⟩ = some (.int .i64 fi) := by rw [cell_of_heap HO6.out]; simp [ints, HFI.out]
                  have fO : w6.frozen? ⟨O, i, none⟩ = false := frozen_of_heap HO6.out
                  have lO := (Array.getElem?_eq_some_iff.1 HO6.out).1
                  have HO7 := hid (set_heap (d := i) (y := (t : Int) + 1) HO6.out)
                  have HX7 := hid (past_set (o := i) (u := .int .i64 ((t : Int) + 1)) (ne_type HX6.out HO6.out (by decide)) HX6.out)
                  have HB7 := hid (bl_set HB6.out (o := i) (.int .i64 ((t : Int) + 1)) HOB.out)
                  clear HO6 HX6 HB6 hbt hbn
                  go_wp2
                  go_roundw
                  case rel => exact ⟨t + 1, _, o'.set i ((t : Int) + 1), (t : Int) + 1, by omega, by go_num, rfl, by omega, by omega, by rw [List.length_set]; exact HOL'.out, HO7.out, HX7.out, HB7.out, fun m hm => by rw [List.getElem?_set_ne (Ne.symm hm)]; exact HOTH.out m hm, by rw [List.getElem?_set_self (by rw [HOL'.out]; exact hil)], by rw [← HCOST.out]; exact HT2.out⟩
                  case measure => simp [intOf]; omega
                · have d2 : decide (cm + th < best) = false := by simpa using hbn
                  have HT2 := hid (trying_old HTR.out (by omega) (by rw [HCOST.out]; omega))
                  clear hbt hbn
                  go_wp2
                  go_roundw
                  case rel => exact ⟨t + 1, best, o', fi, by omega, by go_num, rfl, by omega, by omega, HOL'.out, HO6.out, HX6.out, HB6.out, HOTH.out, HFI.out, HT2.out⟩
                  case measure => simp [intOf]; omega
          · obtain rfl : t = La := by omega
            have hdI : decide ((t : Int) + 1 ≤ (t : Int)) = false := by rw [decide_eq_false_iff_not]; omega
            have hwi : IntKind.i64.wrap ((i : Int) - 1) = (i : Int) - 1 := IntWalk.i64_in _ (by omega)
            have HW2 : Hid (∀ j, i ≤ j → j < l.length → WellAt l (planP (planE D l)) day o' j) := by
              intro j h1 h2
              by_cases hj : j = i
              · subst hj
                exact trying_done HF.out HE.out hil hbv2 hday HFI.out (HBV.out o' fun m hm => HOTH.out m (by omega)) (by rw [HLA.out]; exact HTR.out)
              · obtain ⟨xj, hxj⟩ := get_at h2
                have hdj := HF.out.down j xj hxj
                refine wellAt_other (k := i + 1) (by omega) (by rw [riv_at hxj]; omega) (fun m hm => HOTH.out m (by omega)) (HWL.out j (by omega) h2)
            go_wp2
            go_roundw
            case rel => exact ⟨i, o', by omega, rfl, HOL'.out, HO4.out, HB4.out, HW2.out⟩
            case measure => simp [intOf]
    · obtain rfl : k = 0 := by omega
      have hz : Ints wr (.slice (some ⟨O, 0, none⟩) l.length l.length) o := .inr ⟨O, 0, l.length, by rw [HOL.out], by rw [HOL.out]; exact Nat.le_refl _, (Array.getElem?_eq_some_iff.1 hO).1, fun i x hx => by rw [cell_of_heap hO, Nat.zero_add]; simp [ints, hx]⟩
      have HZ := hid hz
      have hd0 : decide (0 ≤ (((0 : Nat) : Int) - 1)) = false := by decide
      clear hz
      go_wp2
      go_ret
      exact ⟨⟨_, o, rfl, HZ.out, HOL.out, fun j hj => HWL.out j (by omega) hj⟩, hB⟩

end Go.Proofs.Ytbnmjbmlejifcaa
