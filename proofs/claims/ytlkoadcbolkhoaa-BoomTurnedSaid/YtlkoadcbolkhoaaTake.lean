/- A way is taken away: the walk. -/
import Derived.Test.YtlkoadcbolkhoaaChkw
import Derived.Test.YtlkoadcbolkhoaaKinds
set_option linter.all false
namespace Go.Proofs.Ytlkoadcbolkhoaa
open Go Go.RowKit Go.Proofs
attribute [local go_sem] Oper.semAt_some cell_grow frozen_grow

def agg4 (a b c d : Int) : Value := .agg #[.int .i64 a, .int .i64 b, .int .i64 c, .int .i64 d]
theorem eql140 (a0 a1 a2 a3 b0 b1 b2 b3 : Int) (w : World) : (Op.equal 140 (agg4 a0 a1 a2 a3) (agg4 b0 b1 b2 b3)).run Try.prog w = .ok (decide (a0 = b0 ∧ a1 = b1 ∧ a2 = b2 ∧ a3 = b3)) w := by
  have u2 := Try.underlying3
  have a2' := Try.isAgg3
  have z2 := Try.sizeOf3
  obtain ⟨i2, hi, hj0, hj1, hj2⟩ := info_parts info3
  have hS : Try.prog.underlying 140 = some (.array 4 3) := by kernel_rfl
  have hc3 : Try.prog.cellsOf 3 = 1 := by kernel_rfl
  unfold Op.equal agg4
  obtain ⟨d, hd0⟩ : ∃ d, Op.maxDepth = d + 1 + 1 := ⟨9998, rfl⟩
  rw [hd0, run_equalIn_array w (d + 1) _ _ hS hi, hc3]
  clear hd0
  have hr : List.range 4 = [0, 1, 2, 3] := rfl
  rw [hr]
  have step : ∀ (x y : Int) (W : World), (Op.equalIn (d + 1) 3 (.int .i64 x) (.int .i64 y)).run Try.prog W = .ok (x == y) W := fun x y W => by
    simp only [Op.equalIn, Sem.run_bind, run_underlying u2, Result.andThen_ok, if_true, Sem.run_pure]
  have pt : ∀ (xs : Array Value) (i : Nat) (x : Int) (W : World), xs[i]? = some (.int .i64 x) → (part 3 xs i).run Try.prog W = .ok (.int .i64 x) W := fun xs i x W h => by
    unfold part
    rw [Sem.run_bind, a2']
    simp only [Result.andThen_ok, Bool.false_eq_true, if_false, h]
    rfl
  have cons : ∀ (xs ys : Array Value) (i : Nat) (is : List Nat) (x y : Int), xs[i]? = some (.int .i64 x) → ys[i]? = some (.int .i64 y) → (Op.eqItems (d + 1) 3 1 xs ys (i :: is)).run Try.prog w = if x = y then (Op.eqItems (d + 1) 3 1 xs ys is).run Try.prog w else .ok false w := fun xs ys i is x y hx hy => by
    simp only [Op.eqItems, Sem.run_bind, Nat.mul_one]
    rw [pt _ _ x _ hx, Result.andThen_ok, pt _ _ y _ hy, Result.andThen_ok, step, Result.andThen_ok]
    by_cases h : x = y
    · simp [h]
    · simp [h]
  rw [cons _ _ 0 _ a0 b0 rfl rfl, cons _ _ 1 _ a1 b1 rfl rfl, cons _ _ 2 _ a2 b2 rfl rfl, cons _ _ 3 _ a3 b3 rfl rfl]
  simp only [Op.eqItems, Sem.run_pure]
  by_cases h0 : a0 = b0
  · by_cases h1 : a1 = b1
    · by_cases h2 : a2 = b2
      · by_cases h3 : a3 = b3
        · simp [h0, h1, h2, h3]
        · simp [h3]
      · simp [h2]
    · simp [h1]
  · simp [h0]
theorem eql140_run (a0 a1 a2 a3 : Int) (r : Bool) (h : decide (a0 = 0 ∧ a1 = 0 ∧ a2 = 0 ∧ a3 = 0) = r) (w : World) : (binOp .eql 140 (.agg #[.int .i64 a0, .int .i64 a1, .int .i64 a2, .int .i64 a3]) (.agg #[.int .i64 0, .int .i64 0, .int .i64 0, .int .i64 0])).run Try.prog w = .ok (.bool r) w := by
  have := eql140 a0 a1 a2 a3 0 0 0 0 w
  unfold agg4 at this
  simp [binOp, Sem.run_bind, this, Result.andThen, h]

/-! ### How many sides are used -/
def cntC (u : Used) (c : Nat) : Nat := (u ((c : Int), 0)).toNat + (u ((c : Int), 1)).toNat + (u ((c : Int), 2)).toNat + (u ((c : Int), 3)).toNat
def cntU (u : Used) : Nat → Nat
  | 0 => 0
  | n + 1 => cntU u n + cntC u n
/-- Nothing but 0 and 1. -/
def Bit (u : Used) : Prop := ∀ s, u s = 0 ∨ u s = 1
theorem Bit.put {u : Used} (h : Bit u) (s : Side) : Bit (putU u s 0) := fun q => by
  unfold putU
  split
  · exact .inl rfl
  · exact h q
theorem cntU_same {u u' : Used} : ∀ {n : Nat}, (∀ c : Nat, c < n → ∀ d, u' ((c : Int), d) = u ((c : Int), d)) → cntU u' n = cntU u n
  | 0, _ => rfl
  | n + 1, h => by
    have ih := cntU_same (n := n) fun c hc => h c (by omega)
    simp only [cntU, cntC]
    rw [ih, h n (by omega), h n (by omega), h n (by omega), h n (by omega)]
theorem cntU_put {u : Used} {c : Nat} {d : Int} : ∀ {n : Nat}, c < n → (0 ≤ d ∧ d ≤ 3) → u ((c : Int), d) = 1 → cntU (putU u ((c : Int), d) 0) n + 1 = cntU u n
  | 0, h, _, _ => by omega
  | n + 1, h, hd, hu => by
    by_cases hc : c = n
    · subst hc
      have h1 : cntU (putU u ((c : Int), d) 0) c = cntU u c := cntU_same fun k hk e => by
        unfold putU
        rw [if_neg]
        intro h
        injection h with h _
        omega
      simp only [cntU]
      rw [h1]
      have hp : ∀ e, putU u ((c : Int), d) 0 ((c : Int), e) = if e = d then 0 else u ((c : Int), e) := fun e => by
        unfold putU
        by_cases he : e = d
        · simp [he]
        · rw [if_neg (by simp [he]), if_neg he]
      unfold cntC
      rw [hp, hp, hp, hp]
      rcases dir_cases hd with rfl | rfl | rfl | rfl <;> simp [hu] <;> omega
    · have ih := cntU_put (n := n) (by omega) hd hu
      have h1 : cntC (putU u ((c : Int), d) 0) n = cntC u n := by
        have hp : ∀ e, putU u ((c : Int), d) 0 ((n : Int), e) = u ((n : Int), e) := fun e => by
          unfold putU
          rw [if_neg]
          intro h
          injection h with h _
          omega
        unfold cntC
        rw [hp, hp, hp, hp]
      simp only [cntU]
      rw [h1]
      omega
theorem cntU_le {u : Used} (h : Bit u) : ∀ n : Nat, cntU u n ≤ 4 * n
  | 0 => by simp [cntU]
  | n + 1 => by
    have ih := cntU_le h n
    have b : ∀ s, (u s).toNat ≤ 1 := fun s => by rcases h s with e | e <;> rw [e] <;> decide
    have := b ((n : Int), 0); have := b ((n : Int), 1); have := b ((n : Int), 2); have := b ((n : Int), 3)
    simp only [cntU, cntC]
    omega
theorem dirU_of {u : Used} {c : Int} (h : Bit u) (hn : noneU u c = false) : 0 ≤ dirU u c ∧ dirU u c ≤ 3 ∧ u (c, dirU u c) = 1 := by
  unfold dirU
  unfold noneU at hn
  rw [decide_eq_false_iff_not] at hn
  split
  · next h0 => exact ⟨by omega, by omega, h0⟩
  · split
    · next h1 => exact ⟨by omega, by omega, h1⟩
    · split
      · next h2 => exact ⟨by omega, by omega, h2⟩
      · split
        · next h3 => exact ⟨by omega, by omega, h3⟩
        · next h0 h1 h2 h3 =>
          exfalso
          apply hn
          have e0 := h (c, 0); have e1 := h (c, 1); have e2 := h (c, 2); have e3 := h (c, 3)
          exact ⟨by omega, by omega, by omega, by omega⟩
theorem idx_dirU (u : Used) (c : Int) : idxL 1 [u (c, 0), u (c, 1), u (c, 2), u (c, 3)] = dirU u c := by
  unfold dirU
  by_cases h0 : u (c, 0) = 1
  · simp [idxL, h0]
  · by_cases h1 : u (c, 1) = 1
    · simp [idxL, h0, h1]
    · by_cases h2 : u (c, 2) = 1
      · simp [idxL, h0, h1, h2]
      · by_cases h3 : u (c, 3) = 1
        · simp [idxL, h0, h1, h2, h3]
        · simp [idxL, h0, h1, h2, h3]
/-! ### The way's own row -/
theorem cutL_len (l : List Int) (c : Int) : cutL l c = if idxL c l < 0 then l else l.take (idxL c l).toNat := by
  unfold cutL
  induction l with
  | nil => simp [idxL]
  | cons x l ih =>
    rw [List.takeWhile_cons]
    by_cases hx : x = c
    · simp [hx, idxL]
    · simp only [hx, ne_eq, not_false_eq_true, decide_true, if_true]
      rw [ih]
      simp only [idxL, if_neg hx]
      have hb := idxL_bd c l
      by_cases hi : idxL c l < 0
      · simp [hi]
      · rw [if_neg hi, if_neg hi, if_neg (by omega)]
        rw [show (idxL c l + 1).toNat = (idxL c l).toNat + 1 by omega, List.take_succ_cons]
theorem own_cut {W : World} {base g n cap i : Nat} {l : List Int} (h : W.ownsRow base 3 1 (.slice (some ⟨g, 0, none⟩) n cap) n (ints l)) (hi : i ≤ n) : W.ownsRow base 3 1 (.slice (some ⟨g, 0, none⟩) i cap) i (ints (l.take i)) := by
  obtain ⟨h1, h2⟩ := h
  rcases h2 with ⟨h2, _⟩ | ⟨g', cap', cur, h3, h4, h5, h6, h7, h8, h9⟩
  · cases h2
  · injection h3 with e1 e2 e3
    injection e1 with e1
    injection e1 with e4 _
    subst e3 e4
    refine ⟨by simp [ints] at h1 ⊢; omega, .inr ⟨g, cap, cur, rfl, h4, h5, by omega, h7, h8, ?_⟩⟩
    rw [Nat.mul_one] at *
    have := congrArg (List.take i) h9
    rw [List.take_take, Nat.min_eq_left hi] at this
    rw [this]
    simp [ints, List.map_take]
theorem own_put {W : World} {base e size n MB : Nat} {v : Value} {xs : List Value} {x o : Obj} (h : W.ownsRow base e size v n xs) (hr : W.heap[MB]? = some x) (hx : x.isCells = false) : (W.putObj MB o).ownsRow base e size v n xs := by
  obtain ⟨h1, h2⟩ := h
  refine ⟨h1, ?_⟩
  rcases h2 with h2 | ⟨g, cap, cur, h3, h4, h5, h6⟩
  · exact .inl h2
  · exact .inr ⟨g, cap, cur, h3, h4, heap_put h5 rfl hr hx, h6⟩
theorem own_same {W W' : World} {base e size n : Nat} {v : Value} {xs : List Value} (h : W.ownsRow base e size v n xs) (hk : ∀ (k : Nat) (cs : Array Value) (p : Nat × Nat), W.heap[k]? = some (.cells cs e p) → v.ownBlock = some k → W'.heap[k]? = some (.cells cs e p)) : W'.ownsRow base e size v n xs := by
  obtain ⟨h1, h2⟩ := h
  refine ⟨h1, ?_⟩
  rcases h2 with h2 | ⟨g, cap, cur, h3, h4, h5, h6⟩
  · exact .inl h2
  · exact .inr ⟨g, cap, cur, h3, h4, hk g cur (0, 0) h5 (by rw [h3]; rfl), h6⟩

theorem RaftAt.turned {base : Nat} {W W' : World} {RP MB : Nat} {wd hg : Int} {sw sk : Value} {want keep : List Int} {m : Int} {u : Used} (h : RaftAt W RP MB wd hg sw sk want keep m u) (hT : Turned base W W') : RaftAt W' RP MB wd hg sw sk want keep m u := by
  refine ⟨hT.cells h.box, ?_, h.want.turned hT, h.keep.turned hT⟩
  obtain ⟨es, clk, h1, h2, h3⟩ := h.map
  exact ⟨es, clk, hT.keep h1 (fun z e => by cases e), h2, h3⟩
theorem MapOnly.turned {MB : Nat} {w W W' : World} (h : MapOnly MB w W) (hT : Turned w.heap.size W W') : MapOnly MB w W' := by
  induction hT with
  | refl => exact h
  | step ht hl hd ih =>
    refine ⟨by simpa using ih.size, fun k o hk ho => ?_, fun w0 h0 hb => below_put (ih.below w0 h0 hb) (by have := hb.size; omega)⟩
    have hlt := (Array.getElem?_eq_some_iff.1 ho).1
    exact (World.putObj_heap_other (by omega)).trans (ih.same k o hk ho)
/-- What lies there between two cells of a way. -/
structure TakeB (w : World) (RP MB RX CX RB WB B0 : Nat) (wd hg : Int) (sw sk : Value) (want keep : List Int) (m : Int) (us : Used) (c : Int) (cells : List Int) (v : Value) (W : World) : Prop where
  ra : RaftAt W RP MB wd hg sw sk want keep m us
  rx : W.heap[RX]? = some (.cells #[.pointer (some ⟨RP, 0, none⟩)] 87 (0, 0))
  cx : W.heap[CX]? = some (.cells #[.int .i64 c] 3 (0, 0))
  rb : W.heap[RB]? = some (.cells #[.slice none 0 0, .int .i64 0] 81 (0, 0))
  wb : W.heap[WB]? = some (.cells #[v, .int .i64 (-1)] 81 (0, 0))
  own : W.ownsRow B0 3 1 v cells.length (ints cells)
  mo : MapOnly MB w W
theorem TakeB.mono {w W W' : World} {RP MB RX CX RB WB B0 : Nat} {wd hg : Int} {sw sk : Value} {want keep : List Int} {m : Int} {us : Used} {c : Int} {cells : List Int} {v : Value} (h : TakeB w RP MB RX CX RB WB B0 wd hg sw sk want keep m us c cells v W) (hb : Below W.heap.size W W') : TakeB w RP MB RX CX RB WB B0 wd hg sw sk want keep m us c cells v W' :=
  ⟨h.ra.mono hb, heap_mono h.rx hb, heap_mono h.cx hb, heap_mono h.rb hb, heap_mono h.wb hb, own_mono h.own hb, h.mo.trans (.of hb)⟩
/-- A side is given free. -/
theorem TakeB.free {w W W' : World} {o : Obj} {RP MB RX CX RB WB B0 : Nat} {wd hg : Int} {sw sk : Value} {want keep : List Int} {m : Int} {us us' : Used} {c : Int} {cells : List Int} {v : Value} (h : TakeB w RP MB RX CX RB WB B0 wd hg sw sk want keep m us c cells v W) (hW : W' = W.putObj MB o) (hm : SpotMap W' MB us') : TakeB w RP MB RX CX RB WB B0 wd hg sw sk want keep m us' c cells v W' := by
  have hmo : MapOnly MB W W' := by rw [hW]; exact MapOnly.put MB W o
  obtain ⟨es, clk, h1, _⟩ := h.ra.map
  refine ⟨h.ra.turn hmo hm, hmo.cells h.ra.map h.rx, hmo.cells h.ra.map h.cx, hmo.cells h.ra.map h.rb, hmo.cells h.ra.map h.wb, ?_, h.mo.trans hmo⟩
  rw [hW]
  exact own_put h.own h1 rfl
theorem MapOnly.past {MB B o : Nat} {w W : World} (h : MapOnly MB w W) (hB : w.heap.size ≤ B) (u : Value) : MapOnly MB w (W.setCell ⟨B, o, none⟩ u) := by
  refine ⟨by simpa using h.size, fun k x hk hx => ?_, fun w0 h0 hb => bl_set (h.below w0 h0 hb) _ (by have := hb.size; omega)⟩
  have hlt := (Array.getElem?_eq_some_iff.1 hx).1
  exact past_set (by omega) (h.same k x hk hx)
theorem MapOnly.grown {MB base e size n : Nat} {w W W' : World} {v : Value} {xs : List Value} (h : MapOnly MB w W) (ho : W.ownsRow base e size v n xs) (hB : w.heap.size ≤ base) (hg : W.grownBy W' v.ownBlock) : MapOnly MB w W' := by
  refine ⟨Nat.le_trans h.size hg.size, fun k x hk hx => ?_, fun w0 h0 hb => bl_grown (h.below w0 h0 hb) ho (by have := hb.size; omega) hg⟩
  have hlt := (Array.getElem?_eq_some_iff.1 hx).1
  have hx2 := h.same k x hk hx
  exact (hg.block k (Array.getElem?_eq_some_iff.1 hx2).1 (fun e' => by have := (ho.lt k e'.symm).1; omega)).trans hx2
theorem RaftAt.build {w W : World} {RP MB : Nat} {wd hg : Int} {sw sk : Value} {want keep : List Int} {m m' : Int} {u us : Used} (h : RaftAt w RP MB wd hg sw sk want keep m u) (hmo : MapOnly MB w W) (hbox : W.heap[RP]? = some (.cells #[.int .i64 wd, .int .i64 hg, sw, sk, .map (some MB), .int .i64 m'] 90 (0, 0))) (hmap : SpotMap W MB us) : RaftAt W RP MB wd hg sw sk want keep m' us :=
  ⟨hbox, hmap, hmo.ints h.map h.want, hmo.ints h.map h.keep⟩
theorem SpotMap.past {W : World} {MB B o : Nat} {us : Used} {cs : Array Value} {t : TypeId} (h : SpotMap W MB us) (hB : W.heap[B]? = some (.cells cs t (0, 0))) (u : Value) : SpotMap (W.setCell ⟨B, o, none⟩ u) MB us := by
  refine h.keep fun x hx => past_set ?_ hx
  rintro rfl
  obtain ⟨es, clk, h1, _⟩ := h
  rw [hB] at h1
  cases h1
theorem SpotMap.grown {W W' : World} {MB base e size n : Nat} {us : Used} {v : Value} {xs : List Value} (h : SpotMap W MB us) (ho : W.ownsRow base e size v n xs) (hg : W.grownBy W' v.ownBlock) : SpotMap W' MB us := by
  refine h.keep fun x hx => (hg.block MB (Array.getElem?_eq_some_iff.1 hx).1 fun e' => ?_).trans hx
  obtain ⟨es, clk, h1, _⟩ := h
  rcases ho.2 with ⟨rfl, _⟩ | ⟨g, cap, cur, rfl, _, hc, _⟩
  · cases e'
  · have e2 : MB = g := by injection e' with e'
    rw [e2, hc] at h1
    cases h1
theorem MarksOk.grown {W W' : World} {base0 base e size n : Nat} {v : Value} {xs : List Value} {ds : List Deferred} (h : MarksOk base0 W ds) (ho : W.ownsRow base e size v n xs) (hg : W.grownBy W' v.ownBlock) : MarksOk base0 W' ds := by
  refine h.keep fun D hD => (hg.block D (Array.getElem?_eq_some_iff.1 hD).1 fun e' => ?_).trans hD
  rcases ho.2 with ⟨rfl, _⟩ | ⟨g, cap, cur, rfl, _, hc, _⟩
  · cases e'
  · have e2 : D = g := by injection e' with e'
    rw [e2, hc] at hD
    cases hD
section
variable {w W W' : World} {RP MB RX CX RB WB B0 : Nat} {wd hg : Int} {sw sk : Value} {want keep : List Int} {m m0 : Int} {us u0 : Used} {c : Int} {cells : List Int} {v : Value}
theorem own_free {W : World} {base e size n B o : Nat} {v u : Value} {xs : List Value} (h : W.ownsRow base e size v n xs) (hB : B < base ∨ W.heap.size ≤ B) : (W.setCell ⟨B, o, none⟩ u).ownsRow base e size v n xs :=
  h.kept (grown_set W B o u) (.inr fun e' => by have := h.lt B e'; omega)
theorem TakeB.setC (h : TakeB w RP MB RX CX RB WB B0 wd hg sw sk want keep m us c cells v W) (hR : RaftAt w RP MB wd hg sw sk want keep m0 u0) (hl : w.heap.size ≤ CX) (hB : CX < B0) (c' : Int) : TakeB w RP MB RX CX RB WB B0 wd hg sw sk want keep m us c' cells v (W.setCell ⟨CX, 0, none⟩ (.int .i64 c')) := by
  have hmo := h.mo.past (o := 0) hl (.int .i64 c')
  exact ⟨hR.build hmo (past_set (ne_type h.ra.box h.cx (by decide)) h.ra.box) (h.ra.map.past h.cx _), past_set (ne_type h.rx h.cx (by decide)) h.rx, set_one h.cx _, past_set (ne_type h.rb h.cx (by decide)) h.rb, past_set (ne_type h.wb h.cx (by decide)) h.wb, own_free h.own (.inl hB), hmo⟩
theorem TakeB.setW (h : TakeB w RP MB RX CX RB WB B0 wd hg sw sk want keep m us c cells v W) (hR : RaftAt w RP MB wd hg sw sk want keep m0 u0) (hl : w.heap.size ≤ WB) (hne : RB ≠ WB) {v' : Value} {cells' : List Int} (ho : W.ownsRow B0 3 1 v' cells'.length (ints cells')) : TakeB w RP MB RX CX RB WB B0 wd hg sw sk want keep m us c cells' v' (W.setCell ⟨WB, 0, none⟩ v') := by
  have hmo := h.mo.past (o := 0) hl v'
  exact ⟨hR.build hmo (past_set (ne_type h.ra.box h.wb (by decide)) h.ra.box) (h.ra.map.past h.wb _), past_set (ne_type h.rx h.wb (by decide)) h.rx, past_set (ne_type h.cx h.wb (by decide)) h.cx, past_set hne h.rb, by rw [heap_setCell_same _ _ _ _ _ _ h.wb]; rfl, own_set_other h.wb ho (by decide) 0 v', hmo⟩
theorem TakeB.grow (h : TakeB w RP MB RX CX RB WB B0 wd hg sw sk want keep m us c cells v W) (hR : RaftAt w RP MB wd hg sw sk want keep m0 u0) (hl : w.heap.size ≤ WB) (hne : RB ≠ WB) (hwB : w.heap.size ≤ B0) (hCB : CX < B0) {v' : Value} {cells' : List Int} (hg' : W.grownBy W' v.ownBlock) (ho : W'.ownsRow B0 3 1 v' cells'.length (ints cells')) : TakeB w RP MB RX CX RB WB B0 wd hg sw sk want keep m us c cells' v' (W'.setCell ⟨WB, 0, none⟩ v') := by
  have hmo1 := h.mo.grown h.own hwB hg'
  have hmo := hmo1.past (o := 0) hl v'
  have k : ∀ {X : Nat} {cs : Array Value} {t : TypeId}, W.heap[X]? = some (.cells cs t (0, 0)) → 3 ≠ t → W'.heap[X]? = some (.cells cs t (0, 0)) := fun hX ht => keep_other hX h.own ht hg'
  have kc : W'.heap[CX]? = some (.cells #[.int .i64 c] 3 (0, 0)) := (hg'.block CX (Array.getElem?_eq_some_iff.1 h.cx).1 (fun e' => by have := (h.own.lt CX e'.symm).1; omega)).trans h.cx
  have kw := k h.wb (by decide)
  exact ⟨hR.build hmo (past_set (ne_type (k h.ra.box (by decide)) kw (by decide)) (k h.ra.box (by decide))) ((h.ra.map.grown h.own hg').past kw _), past_set (ne_type (k h.rx (by decide)) kw (by decide)) (k h.rx (by decide)), past_set (ne_type kc kw (by decide)) kc, past_set hne (k h.rb (by decide)), by rw [heap_setCell_same _ _ _ _ _ _ kw]; rfl, own_set_other kw ho (by decide) 0 v', hmo⟩
end
/-- Between two directions, the first time: which sides are used. -/
def ownA (us : Used) (c : Int) (j : Nat) : Array Value := #[.int .i64 (if 0 < j then us (c, 0) else 0), .int .i64 (if 1 < j then us (c, 1) else 0), .int .i64 (if 2 < j then us (c, 2) else 0), .int .i64 (if 3 < j then us (c, 3) else 0)]
structure TakeR (w Wr : World) (OB : Nat) (us : Used) (c : Int) (j : Nat) (D : List Deferred) (W : World) : Prop where
  old : Below Wr.heap.size Wr W
  ob : W.heap[OB]? = some (.cells (ownA us c j) 140 (0, 0))
  mks : MarksOk w.heap.size W D
theorem TakeR.stable {base : Nat} {w Wr : World} {OB : Nat} {us : Used} {c : Int} {j : Nat} {D : List Deferred} (hb : Wr.heap.size ≤ base) : Stable base (TakeR w Wr OB us c j D) :=
  ⟨fun W W' h hb => ⟨bl_trans h.old hb, heap_mono h.ob hb, h.mks.mono hb⟩, fun W r x o h hr hx hx1 hx2 hl => ⟨below_put h.old (by omega), heap_put h.ob rfl hr hx, h.mks.put hr hx1⟩⟩
theorem own_cell {us : Used} {c : Int} {W : World} {OB j i : Nat} (hj : i < 4) (h : W.heap[OB]? = some (.cells (ownA us c j) 140 (0, 0))) : ∃ z, W.cell? ⟨OB, i, none⟩ = some z := by
  rw [cell_of_heap h]
  obtain rfl | rfl | rfl | rfl : i = 0 ∨ i = 1 ∨ i = 2 ∨ i = 3 := by omega
  all_goals exact ⟨_, rfl⟩
theorem ownA_set (us : Used) (c : Int) {W : World} {OB j : Nat} (hj : j < 4) (h : W.heap[OB]? = some (.cells (ownA us c j) 140 (0, 0))) : (W.setCell ⟨OB, j, none⟩ (.int .i64 (us (c, (j : Int))))).heap[OB]? = some (.cells (ownA us c (j + 1)) 140 (0, 0)) := by
  rw [heap_setCell_same _ _ _ _ _ _ h]
  obtain rfl | rfl | rfl | rfl : j = 0 ∨ j = 1 ∨ j = 2 ∨ j = 3 := by omega
  all_goals simp [ownA]
def nvT (wd hg q : Int) (d j : Nat) : Int := if d < j then nbr wd hg q (d : Int) else -1
/-- Between two directions, the second time: where it leads. -/
structure TakeN (w Wr : World) (TB : Nat) (n : Int) (D : List Deferred) (W : World) : Prop where
  old : Below Wr.heap.size Wr W
  tb : W.heap[TB]? = some (.cells #[.int .i64 n] 3 (0, 0))
  mks : MarksOk w.heap.size W D
theorem TakeN.stable {base : Nat} {w Wr : World} {TB : Nat} {n : Int} {D : List Deferred} (hb : Wr.heap.size ≤ base) : Stable base (TakeN w Wr TB n D) :=
  ⟨fun W W' h hb => ⟨bl_trans h.old hb, heap_mono h.tb hb, h.mks.mono hb⟩, fun W r x o h hr hx hx1 hx2 hl => ⟨below_put h.old (by omega), heap_put h.tb rfl hr hx, h.mks.put hr hx1⟩⟩

set_option maxRecDepth 100000 in
set_option maxHeartbeats 8000000 in
theorem take_any {RP MB : Nat} {wd hg : Int} {sw sk : Value} {want keep : List Int} {m : Int} {u0 : Used} (n : Nat) (c0 : Int) (w : World) (hR : RaftAt w RP MB wd hg sw sk want keep m u0) (hV : Valid wd hg want keep) (hn : wd * hg = (n : Int)) (hbit : Bit u0) (hc : inP wd hg c0) :
    Calls Try.prog 105 #[.pointer (some ⟨RP, 0, none⟩), .int .i64 c0] w fun e w' => (∃ s, e = .returned (.tuple #[.agg #[s, .int .i64 (takeC wd hg keep u0 c0).2.1.out], .bool (takeC wd hg keep u0 c0).2.2]) ∧ Ints w' s (takeC wd hg keep u0 c0).2.1.cells) ∧ RaftAt w' RP MB wd hg sw sk want keep m (takeC wd hg keep u0 c0).1 ∧ MapOnly MB w w' := by
  obtain ⟨i3, hi3, hi30, hi31, hi32⟩ := info_parts info3
  have hc64 := hV.cells
  rw [hn] at hc64
  have hkl := hV.klen
  have HC64 := hid hc64
  have HV := hid hV
  have HN := hid hn
  obtain ⟨TU, TW, TO, hT⟩ : ∃ TU TW TO, takeC wd hg keep u0 c0 = (TU, TW, TO) := ⟨_, _, _, rfl⟩
  rw [hT]
  have HT := hid (show takeU wd hg keep 257 u0 c0 [c0] = (TU, TW, TO) from hT)
  have b0 := bl_alloc (bl_refl w) (.cells #[.pointer (some ⟨RP, 0, none⟩)] 87)
  have b1 := bl_alloc (bl_refl (w.alloc (.cells #[.pointer (some ⟨RP, 0, none⟩)] 87))) (.cells #[.int .i64 c0] 3)
  have b2 := bl_alloc (bl_refl ((w.alloc (.cells #[.pointer (some ⟨RP, 0, none⟩)] 87)).alloc (.cells #[.int .i64 c0] 3))) (.cells #[.slice none 0 0, .int .i64 0] 81)
  have k0 := World.alloc_heap_new w (.cells #[.pointer (some ⟨RP, 0, none⟩)] 87)
  have k1 := World.alloc_heap_new (w.alloc (.cells #[.pointer (some ⟨RP, 0, none⟩)] 87)) (.cells #[.int .i64 c0] 3)
  have k2 := World.alloc_heap_new ((w.alloc (.cells #[.pointer (some ⟨RP, 0, none⟩)] 87)).alloc (.cells #[.int .i64 c0] 3)) (.cells #[.slice none 0 0, .int .i64 0] 81)
  simp only [World.size_alloc] at k1 k2
  have K0 := hid (heap_mono (heap_mono k0 b1) b2)
  have K1 := hid (heap_mono k1 b2)
  have K2 := hid k2
  have HB0 := hid (bl_trans (bl_trans b0 b1) b2)
  have HR := hid (hR.mono HB0.out)
  have HBIT := hid hbit
  have HCI := hid hc
  have HR0 := hid hR
  have hz0 : (((w.alloc (.cells #[.pointer (some ⟨RP, 0, none⟩)] 87)).alloc (.cells #[.int .i64 c0] 3)).alloc (.cells #[.slice none 0 0, .int .i64 0] 81)).heap.size = w.heap.size + 3 := by simp
  clear b0 b1 b2 k0 k1 k2 hR hV hn hbit hc hT
  simp only
  refine calls_marks Try.func105 rfl ?_
  simp only [Try.ntmps105, List.size_toArray, List.length_cons, List.length_nil, Nat.reduceAdd, Nat.reduceSub, Array.replicate_succ, Array.replicate_zero, List.push_toArray, List.append_toArray, List.nil_append, List.cons_append]
  go_upto_region 1 with (fail)
  obtain ⟨w0, hw0⟩ : ∃ w0, ((w.alloc (.cells #[.pointer (some ⟨RP, 0, none⟩)] 87)).alloc (.cells #[.int .i64 c0] 3)).alloc (.cells #[.slice none 0 0, .int .i64 0] 81) = w0 := ⟨_, rfl⟩
  rw [hw0] at K0 K1 K2 HB0 HR hz0 ⊢
  clear hw0
  have x0 : w0.cell? ⟨w.heap.size + 1, 0, none⟩ = some (.int .i64 c0) := cell_of_heap K1.out
  have xl := (Array.getElem?_eq_some_iff.1 K1.out).1
  have b3 := bl_alloc (bl_refl w0) (.cells #[.int .i64 c0] 3)
  have b4 := bl_alloc (bl_refl (w0.alloc (.cells #[.int .i64 c0] 3))) (.cells #[.slice (some ⟨w0.heap.size, 0, none⟩) 1 1, .int .i64 (-1)] 81)
  have k3 := heap_mono (World.alloc_heap_new w0 (.cells #[.int .i64 c0] 3)) b4
  have k4 := World.alloc_heap_new (w0.alloc (.cells #[.int .i64 c0] 3)) (.cells #[.slice (some ⟨w0.heap.size, 0, none⟩) 1 1, .int .i64 (-1)] 81)
  rw [World.size_alloc] at k4
  have b34 := bl_trans b3 b4
  have HTB := hid (show TakeB w RP MB w.heap.size (w.heap.size + 1) (w.heap.size + 1 + 1) (w0.heap.size + 1) w0.heap.size wd hg sw sk want keep m u0 c0 [c0] (.slice (some ⟨w0.heap.size, 0, none⟩) 1 1) _ from
    ⟨HR.out.mono b34, heap_mono K0.out b34, heap_mono K1.out b34, heap_mono K2.out b34, k4, ⟨rfl, .inr ⟨w0.heap.size, 1, _, rfl, Nat.le_refl _, k3, by simp, by decide, rfl, rfl⟩⟩, .of (bl_trans HB0.out b34)⟩)
  clear b3 b4 k3 k4 b34 K0 K1 K2 HB0 HR
  have HZ0 := hid hz0
  clear hz0
  go_wp2
  have hz0 := HZ0.out
  clear HZ0
  obtain ⟨w1, hw1⟩ : ∃ w1, (w0.alloc (.cells #[.int .i64 c0] 3)).alloc (.cells #[.slice (some ⟨w0.heap.size, 0, none⟩) 1 1, .int .i64 (-1)] 81) = w1 := ⟨_, rfl⟩
  rw [hw1] at HTB ⊢
  clear hw1 x0 xl
  obtain ⟨B0, hB0⟩ : ∃ B0, w0.heap.size = B0 := ⟨_, rfl⟩
  rw [hB0] at HTB hz0 ⊢
  clear hB0
  obtain ⟨CX, hCX⟩ : ∃ CX, w.heap.size + 1 = CX := ⟨_, rfl⟩
  obtain ⟨RB, hRB⟩ : ∃ RB, w.heap.size + 1 + 1 = RB := ⟨_, rfl⟩
  obtain ⟨WB, hWB⟩ : ∃ WB, B0 + 1 = WB := ⟨_, rfl⟩
  obtain ⟨RX, hRX⟩ : ∃ RX, w.heap.size = RX := ⟨_, rfl⟩
  have HNB := hid (show w.heap.size ≤ RX ∧ w.heap.size ≤ CX ∧ w.heap.size ≤ RB ∧ w.heap.size ≤ WB ∧ CX < B0 ∧ RB ≠ WB ∧ w.heap.size ≤ B0 ∧ B0 ≤ WB from by omega)
  rw [hRB, hCX, hWB] at HTB ⊢
  rw [hRX] at HTB ⊢
  clear hCX hRB hWB hz0
  refine wp_loop_marksz [7, 9, 10, 13, 17, 18, 19, 32, 33, 34, 43, 44, 45, 46, 47, 48, 49, 50, 51, 52, 53, 54, 61, 62, 66, 67, 68, 69, 70, 71, 72, 73, 74, 75, 76, 77, 78, 79, 80, 81, 82, 83] (fun k D W => ∃ (us : Used) (c : Int) (cells : List Int) (v : Value) (f : Nat), TakeB w RP MB RX CX RB WB B0 wd hg sw sk want keep m us c cells v W ∧ Bit us ∧ inP wd hg c ∧ takeU wd hg keep f us c cells = (TU, TW, TO) ∧ k = cntU us n ∧ cntU us n < f ∧ cells.length + f ≤ 258 ∧ MarksOk w.heap.size W D) (cntU u0 n) (by rfl) ⟨u0, c0, [c0], _, 257, HTB.out, HBIT.out, HCI.out, HT.out, rfl, by have := cntU_le HBIT.out n; have := HC64.out; omega, by simp, trivial⟩ ?_
  clear HTB HT HBIT HCI
  rintro k ux D Wr K ⟨us, c, cells, v, f, htb, hbit, hci, htu, rfl, hcf, hlf, hmk⟩ hK
  have HKC := hid hK
  have HTB := hid htb
  have HBIT := hid hbit
  have HCI := hid hci
  have HTU := hid htu
  have HMK := hid hmk
  obtain ⟨f, rfl⟩ : ∃ f', f = f' + 1 := ⟨f - 1, by omega⟩
  clear hK hbit htu hmk
  obtain ⟨q, rfl⟩ : ∃ q : Nat, c = (q : Int) := ⟨c.toNat, by have := hci.1; omega⟩
  have hq : q < n := by have := hci.2; rw [HN.out] at this; omega
  simp only [setAll, List.setIfInBounds_toArray, List.set_cons_zero, List.set_cons_succ]
  have x0 : Wr.cell? ⟨RX, 0, none⟩ = some (.pointer (some ⟨RP, 0, none⟩)) := cell_of_heap htb.rx
  have xl := (Array.getElem?_eq_some_iff.1 htb.rx).1
  have z0 : Wr.cell? ⟨CX, 0, none⟩ = some (.int .i64 (q : Int)) := cell_of_heap htb.cx
  have zl := (Array.getElem?_eq_some_iff.1 htb.cx).1
  clear htb hci
  have bO := bl_alloc (bl_refl Wr) (.cells #[.int .i64 0, .int .i64 0, .int .i64 0, .int .i64 0] 140)
  have HOB := hid (show (Wr.alloc (.cells #[.int .i64 0, .int .i64 0, .int .i64 0, .int .i64 0] 140)).heap[Wr.heap.size]? = some (.cells (ownA us (q : Int) 0) 140 (0, 0)) by simpa [ownA] using World.alloc_heap_new Wr (.cells #[.int .i64 0, .int .i64 0, .int .i64 0, .int .i64 0] 140))
  have HBO := hid bO
  have HTB1 := hid (HTB.out.mono bO)
  have HMK1 := hid (HMK.out.mono bO)
  clear bO
  go_upto_region 3 with (fail)
  obtain ⟨OB, hOB⟩ : ∃ OB, Wr.heap.size = OB := ⟨_, rfl⟩
  obtain ⟨W1, hW1⟩ : ∃ W1, Wr.alloc (.cells #[.int .i64 0, .int .i64 0, .int .i64 0, .int .i64 0] 140) = W1 := ⟨_, rfl⟩
  have HOBW := hid hOB
  rw [hOB] at HOB ⊢
  rw [hW1] at HOB HBO HTB1 HMK1 ⊢
  clear hW1 hOB x0 xl z0 zl
  have x0 : W1.cell? ⟨RX, 0, none⟩ = some (.pointer (some ⟨RP, 0, none⟩)) := cell_of_heap HTB1.out.rx
  have xl := (Array.getElem?_eq_some_iff.1 HTB1.out.rx).1
  have z0 : W1.cell? ⟨CX, 0, none⟩ = some (.int .i64 (q : Int)) := cell_of_heap HTB1.out.cx
  have zl := (Array.getElem?_eq_some_iff.1 HTB1.out.cx).1
  go_wp2_with fail
  refine (around_any RP (q : Int) W1).mono ?_
  rintro e W2 ⟨rfl, hw2⟩
  have bA := bl_alloc (bl_refl W1) (.cells #[.pointer (some ⟨RP, 0, none⟩)] 87)
  have bB := bl_alloc (bl_refl (W1.alloc (.cells #[.pointer (some ⟨RP, 0, none⟩)] 87))) (.cells #[.int .i64 (q : Int)] 3)
  have e1 := heap_mono (World.alloc_heap_new W1 (.cells #[.pointer (some ⟨RP, 0, none⟩)] 87)) bB
  have e2 := World.alloc_heap_new (W1.alloc (.cells #[.pointer (some ⟨RP, 0, none⟩)] 87)) (.cells #[.int .i64 (q : Int)] 3)
  rw [World.size_alloc] at e2
  have b3' := bl_trans bA bB
  rw [← hw2] at e1 e2 b3'
  have HRS := hid (show TakeR w Wr OB us (q : Int) 0 D W2 from ⟨bl_trans HBO.out b3', heap_mono HOB.out b3', HMK1.out.mono b3'⟩)
  have hOZ := (Array.getElem?_eq_some_iff.1 HOB.out).1
  have hW2s := b3'.size
  obtain ⟨Z, hZ⟩ : ∃ Z, W1.heap.size = Z := ⟨_, rfl⟩
  rw [hZ] at e1 e2 hOZ hW2s ⊢
  clear hw2 bA bB b3' HOB HBO HTB1 HMK1 hZ x0 xl z0 zl
  have HOZ := hid hOZ
  have HWS := hid hW2s
  have E1 := hid e1
  have E2 := hid e2
  have hwW : Hid (w.heap.size ≤ Wr.heap.size) := hid HTB.out.mo.size
  clear hOZ e1 e2 hW2s
  go_wp2
  refine wp_range_around (base := Wr.heap.size) (RP := RP) [OB] rfl rfl HV.out.B.w HV.out.B.h ⟨by omega, by rw [HN.out]; omega⟩ E2.out E1.out (by have := HOZ.out; simp; omega) (by have := HOZ.out; simp; omega)
    (fun j W3 => TakeR w Wr OB us (q : Int) j D W3)
    (fun _ => False)
    (fun j => TakeR.stable (Nat.le_refl _)) ⟨fun _ _ h _ => h, fun _ _ _ _ h _ _ _ _ _ => h⟩ HRS.out.old.size (fun j W3 h => ⟨(HTB.out.ra.mono h.old).c0, (HTB.out.ra.mono h.old).c1⟩) ?hbs HRS.out ?_ ?assign ?body ?done ?stop
  case hbs =>
    intro j W3 h bb hbb
    rw [List.mem_singleton] at hbb
    subst hbb
    exact ⟨_, h.ob, (fun cs e => by cases e), (fun r e => by cases e), (fun z e => by cases e)⟩
  case assign =>
    intro l d t Wr K hK
    gi_wp2
    exact hK
  case stop =>
    intro Wr h
    exact h.elim
  case body =>
    rintro l j W3 hj rfl hd ⟨r, hr⟩ hdd
    have HT3 := hid (HTB.out.mono hd.old)
    have HOLD := hid hd.old
    have HSM := hid HT3.out.ra.map
    have hob := hd.ob
    have hmks := hd.mks
    have hwO : Wr.heap.size ≤ OB := by rw [HOBW.out]; exact Nat.le_refl _
    have hsz : OB < W3.heap.size := (Array.getElem?_eq_some_iff.1 hd.ob).1
    clear hd hr hdd
    repeat gi_step
    refine wpIn_region_valsG (fun _ => trivial) Wr HOLD.out [22, 23, 24, 25, 26, 27, 28, 29, 30, 31] (fun seen u W => (seen 0 = true → u 22 = .int .i64 ((j : Int))) ∧
      (seen 1 = true → u 23 = .pointer (some ⟨RP, 0, none⟩)) ∧
      (seen 2 = true → u 24 = .pointer (some ⟨RP, 0, none⟩)) ∧
      (seen 3 = true → u 25 = .pointer (some ⟨RP, 4, none⟩)) ∧
      (seen 4 = true → u 26 = .map (some MB)) ∧
      (seen 5 = true → u 27 = .int .i64 ((q : Int))) ∧
      (seen 6 = true → u 28 = .int .i64 ((j : Int))) ∧
      (seen 7 = true → u 29 = .agg #[.int .i64 (q : Int), .int .i64 (j : Int)]) ∧
      (seen 8 = true → u 30 = .int .i64 (us ((q : Int), (j : Int)))) ∧
      (seen 9 = true → u 31 = .pointer (some ⟨OB, j, none⟩)) ∧
      (seen 10 = true → True) ∧
      (W.heap[OB]? = some (.cells (if seen 10 = true then ownA us (q : Int) (j + 1) else ownA us (q : Int) j) 140 (0, 0))) ∧
      (OnlyB [OB] W3 W) ∧
      (MarksOk w.heap.size W D) ∧
      (Below Wr.heap.size Wr W))
      (by kernel_rfl) (by kernel_rfl) (by kernel_rfl) (by simp) ⟨by simp [valsOf], by simp [valsOf], by simp [valsOf], by simp [valsOf], by simp [valsOf], by simp [valsOf], by simp [valsOf], by simp [valsOf], by simp [valsOf], by simp [valsOf], by simp [valsOf], by simpa using heap_mono hob (bl_drew (bl_refl W3)), OnlyB.below (bl_drew (bl_refl W3)), hmks.mono (bl_drew (bl_refl W3)), bl_trans HOLD.out (bl_drew (bl_refl W3))⟩ ?_ ?_
    · intro i o ho seen a' w9 hb9 ⟨F0, F1, F2, F3, F4, F5, F6, F7, F8, F9, F10, F11, F12, F13, F14⟩ hv hsi hdep
      have HT9 := HTB.out.mono F14
      have r4 := HT9.ra.c4
      have rl := HT9.ra.lt
      have x0 : w9.cell? ⟨RX, 0, none⟩ = some (.pointer (some ⟨RP, 0, none⟩)) := cell_of_heap HT9.rx
      have xl := (Array.getElem?_eq_some_iff.1 HT9.rx).1
      have z0 : w9.cell? ⟨CX, 0, none⟩ = some (.int .i64 (q : Int)) := cell_of_heap HT9.cx
      have zl := (Array.getElem?_eq_some_iff.1 HT9.cx).1
      have hlk := HT9.ra.map.lookup ((q : Int), (j : Int))
      simp only [encS] at hlk
      have hjI : (j : Int) < 4 := by omega
      rcases i with _ | _ | _ | _ | _ | _ | _ | _ | _ | _ | _ | i <;> simp only [List.getElem?_cons_zero, List.getElem?_cons_succ, List.getElem?_nil, Option.some.injEq, reduceCtorEq] at ho <;> subst ho
      · refine if_free rfl ?_
        have x8 := val_at (hv 8 (by simp))
        simp [valsOf] at x8
        refine wpIn_value (hfn := fun _ => trivial) (hd := fun _ e => by cases e) (.int .i64 ((j : Int))) (w' := w9) (by simp [execOp, x8, go_sem, r4, rl, x0, xl, z0, zl, hlk, hj, hjI]) ⟨_, rfl, hb9, ?_⟩
        exact ⟨by simp, by simpa using F1, by simpa using F2, by simpa using F3, by simpa using F4, by simpa using F5, by simpa using F6, by simpa using F7, by simpa using F8, by simpa using F9, by simpa using F10, by simpa using F11, by simpa using F12, by simpa using F13, by simpa using F14⟩
      · refine if_free rfl ?_
        have x2 := val_at (hv 2 (by simp))
        simp [valsOf] at x2
        refine wpIn_value (hfn := fun _ => trivial) (hd := fun _ e => by cases e) (.pointer (some ⟨RP, 0, none⟩)) (w' := w9) (by simp [execOp, x2, go_sem, r4, rl, x0, xl, z0, zl, hlk, hj, hjI]) ⟨_, rfl, hb9, ?_⟩
        exact ⟨by simpa using F0, by simp, by simpa using F2, by simpa using F3, by simpa using F4, by simpa using F5, by simpa using F6, by simpa using F7, by simpa using F8, by simpa using F9, by simpa using F10, by simpa using F11, by simpa using F12, by simpa using F13, by simpa using F14⟩
      · refine if_free rfl ?_
        have d1 := hdep ⟨1, .data⟩ (by simp) rfl
        have e1 := val_at (F1 d1)
        refine wpIn_value (hfn := fun _ => trivial) (hd := fun _ e => by cases e) (.pointer (some ⟨RP, 0, none⟩)) (w' := w9) (by simp [execOp, e1, go_sem, r4, rl, x0, xl, z0, zl, hlk, hj, hjI]) ⟨_, rfl, hb9, ?_⟩
        exact ⟨by simpa using F0, by simpa using F1, by simp, by simpa using F3, by simpa using F4, by simpa using F5, by simpa using F6, by simpa using F7, by simpa using F8, by simpa using F9, by simpa using F10, by simpa using F11, by simpa using F12, by simpa using F13, by simpa using F14⟩
      · refine if_free rfl ?_
        have d2 := hdep ⟨2, .data⟩ (by simp) rfl
        have e2 := val_at (F2 d2)
        refine wpIn_value (hfn := fun _ => trivial) (hd := fun _ e => by cases e) (.pointer (some ⟨RP, 4, none⟩)) (w' := w9) (by simp [execOp, e2, go_sem, r4, rl, x0, xl, z0, zl, hlk, hj, hjI]) ⟨_, rfl, hb9, ?_⟩
        exact ⟨by simpa using F0, by simpa using F1, by simpa using F2, by simp, by simpa using F4, by simpa using F5, by simpa using F6, by simpa using F7, by simpa using F8, by simpa using F9, by simpa using F10, by simpa using F11, by simpa using F12, by simpa using F13, by simpa using F14⟩
      · refine if_free rfl ?_
        have d3 := hdep ⟨3, .data⟩ (by simp) rfl
        have e3 := val_at (F3 d3)
        refine wpIn_value (hfn := fun _ => trivial) (hd := fun _ e => by cases e) (.map (some MB)) (w' := w9) (by simp [execOp, e3, go_sem, r4, rl, x0, xl, z0, zl, hlk, hj, hjI]) ⟨_, rfl, hb9, ?_⟩
        exact ⟨by simpa using F0, by simpa using F1, by simpa using F2, by simpa using F3, by simp, by simpa using F5, by simpa using F6, by simpa using F7, by simpa using F8, by simpa using F9, by simpa using F10, by simpa using F11, by simpa using F12, by simpa using F13, by simpa using F14⟩
      · refine if_free rfl ?_
        have x3 := val_at (hv 3 (by simp))
        simp [valsOf] at x3
        refine wpIn_value (hfn := fun _ => trivial) (hd := fun _ e => by cases e) (.int .i64 ((q : Int))) (w' := w9) (by simp [execOp, x3, go_sem, r4, rl, x0, xl, z0, zl, hlk, hj, hjI]) ⟨_, rfl, hb9, ?_⟩
        exact ⟨by simpa using F0, by simpa using F1, by simpa using F2, by simpa using F3, by simpa using F4, by simp, by simpa using F6, by simpa using F7, by simpa using F8, by simpa using F9, by simpa using F10, by simpa using F11, by simpa using F12, by simpa using F13, by simpa using F14⟩
      · refine if_free rfl ?_
        have x8 := val_at (hv 8 (by simp))
        simp [valsOf] at x8
        refine wpIn_value (hfn := fun _ => trivial) (hd := fun _ e => by cases e) (.int .i64 ((j : Int))) (w' := w9) (by simp [execOp, x8, go_sem, r4, rl, x0, xl, z0, zl, hlk, hj, hjI]) ⟨_, rfl, hb9, ?_⟩
        exact ⟨by simpa using F0, by simpa using F1, by simpa using F2, by simpa using F3, by simpa using F4, by simpa using F5, by simp, by simpa using F7, by simpa using F8, by simpa using F9, by simpa using F10, by simpa using F11, by simpa using F12, by simpa using F13, by simpa using F14⟩
      · refine if_free rfl ?_
        have d5 := hdep ⟨5, .data⟩ (by simp) rfl
        have e5 := val_at (F5 d5)
        have d6 := hdep ⟨6, .data⟩ (by simp) rfl
        have e6 := val_at (F6 d6)
        refine wpIn_value (hfn := fun _ => trivial) (hd := fun _ e => by cases e) (.agg #[.int .i64 (q : Int), .int .i64 (j : Int)]) (w' := w9) (by simp [execOp, e5, e6, go_sem, r4, rl, x0, xl, z0, zl, hlk, hj, hjI]) ⟨_, rfl, hb9, ?_⟩
        exact ⟨by simpa using F0, by simpa using F1, by simpa using F2, by simpa using F3, by simpa using F4, by simpa using F5, by simpa using F6, by simp, by simpa using F8, by simpa using F9, by simpa using F10, by simpa using F11, by simpa using F12, by simpa using F13, by simpa using F14⟩
      · refine if_free rfl ?_
        have d4 := hdep ⟨4, .data⟩ (by simp) rfl
        have e4 := val_at (F4 d4)
        have d7 := hdep ⟨7, .data⟩ (by simp) rfl
        have e7 := val_at (F7 d7)
        refine wpIn_value (hfn := fun _ => trivial) (hd := fun _ e => by cases e) (.int .i64 (us ((q : Int), (j : Int)))) (w' := w9) (by simp [execOp, e4, e7, go_sem, r4, rl, x0, xl, z0, zl, hlk, hj, hjI]) ⟨_, rfl, hb9, ?_⟩
        exact ⟨by simpa using F0, by simpa using F1, by simpa using F2, by simpa using F3, by simpa using F4, by simpa using F5, by simpa using F6, by simpa using F7, by simp, by simpa using F9, by simpa using F10, by simpa using F11, by simpa using F12, by simpa using F13, by simpa using F14⟩
      · refine if_free rfl ?_
        have x7 := val_at (hv 7 (by simp))
        simp [valsOf] at x7
        have d0 := hdep ⟨0, .data⟩ (by simp) rfl
        have e0 := val_at (F0 d0)
        refine wpIn_value (hfn := fun _ => trivial) (hd := fun _ e => by cases e) (.pointer (some ⟨OB, j, none⟩)) (w' := w9) (by simp [execOp, x7, e0, go_sem, r4, rl, x0, xl, z0, zl, hlk, hj, hjI]) ⟨_, rfl, hb9, ?_⟩
        exact ⟨by simpa using F0, by simpa using F1, by simpa using F2, by simpa using F3, by simpa using F4, by simpa using F5, by simpa using F6, by simpa using F7, by simpa using F8, by simp, by simpa using F10, by simpa using F11, by simpa using F12, by simpa using F13, by simpa using F14⟩
      · refine if_free rfl ?_
        have d9 := hdep ⟨9, .data⟩ (by simp) rfl
        have e9 := val_at (F9 d9)
        have d8 := hdep ⟨8, .data⟩ (by simp) rfl
        have e8 := val_at (F8 d8)
        have e1 := F11
        rw [hsi] at e1
        simp only [Bool.false_eq_true, if_false] at e1
        have e31 := val_at (F9 (hdep ⟨9, .data⟩ (by simp) rfl))
        have e30 := val_at (F8 (hdep ⟨8, .data⟩ (by simp) rfl))
        obtain ⟨z, cc0⟩ : ∃ z, w9.cell? ⟨OB, j, none⟩ = some z := own_cell hj e1
        have f0 := fun i => frozen_of_heap (i := i) e1
        have hBl := (Array.getElem?_eq_some_iff.1 e1).1
        have hnew := ownA_set us (q : Int) hj e1
        refine wpIn_effect (hfn := fun _ => trivial) (hd := fun _ e => by cases e) (w' := w9.setCell ⟨OB, j, none⟩ (.int .i64 (us ((q : Int), (j : Int))))) (by simp [execOp, e31, e30, go_sem, cc0, f0, hBl]) ⟨_, rfl, bl_set hb9 _ hwO, ?_⟩
        exact ⟨by simpa using F0, by simpa using F1, by simpa using F2, by simpa using F3, by simpa using F4, by simpa using F5, by simpa using F6, by simpa using F7, by simpa using F8, by simpa using F9, by simp, by simpa using hnew, by exact F12.trans (OnlyB.set (by simp)), by exact F13.set _ _, by exact bl_set F14 _ hwO⟩
    intro u w5 hb5 seen hall ⟨F0, F1, F2, F3, F4, F5, F6, F7, F8, F9, F10, F11, F12, F13, F14⟩
    replace F0 := F0 (hall 0 (by decide))
    replace F1 := F1 (hall 1 (by decide))
    replace F2 := F2 (hall 2 (by decide))
    replace F3 := F3 (hall 3 (by decide))
    replace F4 := F4 (hall 4 (by decide))
    replace F5 := F5 (hall 5 (by decide))
    replace F6 := F6 (hall 6 (by decide))
    replace F7 := F7 (hall 7 (by decide))
    replace F8 := F8 (hall 8 (by decide))
    replace F9 := F9 (hall 9 (by decide))
    replace F10 := F10 (hall 10 (by decide))
    have hs10 := hall 10 (by decide)
    rw [hs10, if_pos rfl] at F11
    simp only [setAll, List.setIfInBounds_toArray, List.set_cons_zero, List.set_cons_succ]
    have h11 := hid F11
    have h12 := hid F12
    have h13 := hid F13
    have h14 := hid F14
    clear F0 F1 F2 F3 F4 F5 F6 F7 F8 F9 F10 F11 F12 F13 F14 hall seen hs10
    gi_wp2
    exact ⟨h12.out, h14.out, h11.out, h13.out⟩
  case done =>
    rintro W3 hd hdd
    have hsz := HTB.out.mo.size
    have HM3 := hid (MarksOk.push HMK.out hd.mks (by have := HRS.out.old.size; omega) (by have := HRS.out.old.size; omega) hdd)
    have HOB3 := hid hd.ob
    have HT3 := hid (HTB.out.mono hd.old)
    clear hd hdd HRS
    obtain ⟨DD, hDD⟩ : ∃ DD, ({ target := .collected W2.heap.size, args := #[] } : Deferred) :: D = DD := ⟨_, rfl⟩
    rw [hDD] at HM3 ⊢
    clear hDD
    have hrow : ownA us (q : Int) 4 = #[.int .i64 (us ((q : Int), 0)), .int .i64 (us ((q : Int), 1)), .int .i64 (us ((q : Int), 2)), .int .i64 (us ((q : Int), 3))] := by simp [ownA]
    rw [hrow] at HOB3
    have o0 : W3.cell? ⟨OB, 0, none⟩ = some (.int .i64 (us ((q : Int), 0))) := cell_of_heap HOB3.out
    have o1 : W3.cell? ⟨OB, 1, none⟩ = some (.int .i64 (us ((q : Int), 1))) := cell_of_heap HOB3.out
    have o2 : W3.cell? ⟨OB, 2, none⟩ = some (.int .i64 (us ((q : Int), 2))) := cell_of_heap HOB3.out
    have o3 : W3.cell? ⟨OB, 3, none⟩ = some (.int .i64 (us ((q : Int), 3))) := cell_of_heap HOB3.out
    have ol := (Array.getElem?_eq_some_iff.1 HOB3.out).1
    obtain ⟨VA, vc, hvv⟩ := own_slice HTB.out.own
    subst hvv
    have HCF := hid hcf
    have HLF := hid hlf
    have hwle := HTB.out.mo.size
    clear hrow hcf hlf
    cases hno : noneU us (q : Int) with
    | true =>
      have hbin := eql140_run (us ((q : Int), 0)) (us ((q : Int), 1)) (us ((q : Int), 2)) (us ((q : Int), 3)) true hno
      have hT := HTU.out
      unfold takeU at hT
      rw [if_pos hno] at hT
      injection hT with hT1 hT2
      injection hT2 with hT2 hT3
      subst hT1 hT2 hT3
      clear hno
      go_upto_region 7 with (fail)
      clear o0 o1 o2 o3 ol hbin
      have x0 : W3.cell? ⟨RX, 0, none⟩ = some (.pointer (some ⟨RP, 0, none⟩)) := cell_of_heap HT3.out.rx
      have xl := (Array.getElem?_eq_some_iff.1 HT3.out.rx).1
      have z0 : W3.cell? ⟨CX, 0, none⟩ = some (.int .i64 (q : Int)) := cell_of_heap HT3.out.cx
      have zl := (Array.getElem?_eq_some_iff.1 HT3.out.cx).1
      have y0 : W3.cell? ⟨WB, 0, none⟩ = some (.slice VA cells.length vc) := cell_of_heap HT3.out.wb
      have y1 : W3.cell? ⟨WB, 1, none⟩ = some (.int .i64 (-1)) := cell_of_heap HT3.out.wb
      have yl := (Array.getElem?_eq_some_iff.1 HT3.out.wb).1
      have r3 := HT3.out.ra.c3
      have rl := HT3.out.ra.lt
      have Gen : Hid (∀ W', Below W3.heap.size W3 W' → Calls Try.prog 62 #[sk, .int .i64 (q : Int)] W' fun e w' => e = .returned (.bool (keep.contains (q : Int))) ∧ Below W'.heap.size W' w') := fun W' hW => (has_any keep sk (q : Int) W' (by omega) (HT3.out.ra.keep.mono hW)).mono fun e w' h => ⟨h.1, by rw [h.2]; exact bl_refl _⟩
      obtain ⟨kq, hkq⟩ : ∃ kq, keep.contains (q : Int) = kq := ⟨_, rfl⟩
      rw [hkq] at Gen
      have HKQ := hid hkq
      clear hkq
      refine wp_region_below_tail 8 (by kernel_rfl) (by kernel_rfl) ?_
      simp only [List.take_succ_cons, List.take_zero, List.drop_succ_cons, List.drop_zero]
      repeat (first | go_big_quiet_step (first | (go_at_call 62; exact Calls.regrown_of (Gen.out _ (below_regrown _ _ _)))) | quiet_step (first | (go_at_call 62; exact Calls.regrown_of (Gen.out _ (below_regrown _ _ _)))))
      refine wpQuiet_nil ?_
      intro W4 hb4
      have HT4 := hid (HT3.out.mono hb4)
      have HM4 := hid (HM3.out.mono hb4)
      have p0 : W4.cell? ⟨RB, 0, none⟩ = some (.slice none 0 0) := cell_of_heap HT4.out.rb
      have p1 : W4.cell? ⟨RB, 1, none⟩ = some (.int .i64 0) := cell_of_heap HT4.out.rb
      have pf : ∀ i, W4.frozen? ⟨RB, i, none⟩ = false := fun i => frozen_of_heap HT4.out.rb
      have pl := (Array.getElem?_eq_some_iff.1 HT4.out.rb).1
      clear x0 xl z0 zl y0 y1 yl r3 rl Gen hb4 HT3 HM3
      go_wp2
      clear p0 p1 pf pl
      have hst := set_two HT4.out.rb (.slice VA cells.length vc) (.int .i64 (-1))
      have hmo1 := HT4.out.mo.past (o := 0) HNB.out.2.2.1 (.slice VA cells.length vc)
      have hmo2 := hmo1.past (o := 1) HNB.out.2.2.1 (.int .i64 (-1))
      have hrb1 : (W4.setCell ⟨RB, 0, none⟩ (.slice VA cells.length vc)).heap[RB]? = some (.cells #[.slice VA cells.length vc, .int .i64 0] 81 (0, 0)) := by rw [heap_setCell_same _ _ _ _ _ _ HT4.out.rb]; rfl
      have hra := HR0.out.build hmo2 (past_set (ne_type HT4.out.ra.box HT4.out.rb (by decide)) (past_set (ne_type HT4.out.ra.box HT4.out.rb (by decide)) HT4.out.ra.box)) ((HT4.out.ra.map.past HT4.out.rb _).past hrb1 _)
      have hown := own_set_other hrb1 (own_set_other HT4.out.rb HT4.out.own (by decide) 0 (.slice VA cells.length vc)) (by decide) 1 (.int .i64 (-1))
      refine leave_many (v := .tuple #[.agg #[.slice VA cells.length vc, .int .i64 (-1)], .bool kq]) (base := w.heap.size) DD rfl ((HM4.out.set _ _).set _ _) (.refl _) fun W' hW' => ⟨?_, ⟨_, by rw [← HKQ.out, List.contains_eq_mem], (ints_own rfl hown).turned hW'⟩, hra.turned hW', hmo2.turned hW'⟩
      have c0' := cell_of_heap (i := 0) (hW'.cells hst)
      have c1' := cell_of_heap (i := 1) (hW'.cells hst)
      simp [results, Try.results105, go_sem, c0', c1']
    | false =>
      have hbin := eql140_run (us ((q : Int), 0)) (us ((q : Int), 1)) (us ((q : Int), 2)) (us ((q : Int), 3)) false hno
      obtain ⟨hd0, hd3, hud⟩ := dirU_of HBIT.out hno
      have hT := HTU.out
      unfold takeU at hT
      rw [if_neg (by rw [hno]; decide)] at hT
      have hidx := index_any [us ((q : Int), 0), us ((q : Int), 1), us ((q : Int), 2), us ((q : Int), 3)] (.slice (some ⟨OB, 0, none⟩) 4 4) 1 W3 (by simp) (.inr ⟨OB, 0, 4, rfl, by simp, ol, fun i x hx => by
        rw [cell_of_heap HOB3.out, Nat.zero_add]
        have hi4 : i < 4 := (List.getElem?_eq_some_iff.1 hx).1
        obtain rfl | rfl | rfl | rfl : i = 0 ∨ i = 1 ∨ i = 2 ∨ i = 3 := by omega
        all_goals (simp at hx; subst hx; rfl)⟩)
      rw [idx_dirU] at hidx
      obtain ⟨d, hd⟩ : ∃ d : Nat, dirU us (q : Int) = (d : Int) := ⟨(dirU us (q : Int)).toNat, by omega⟩
      rw [hd] at hidx hT hud hd0 hd3
      have hd4 : d < 4 := by omega
      have HT' := hid hT
      have HUD := hid hud
      clear hno hT hud hd
      go_wp2_with fail
      refine hidx.mono ?_
      rintro e W4 ⟨rfl, hW4⟩
      subst W4
      have bD := bl_alloc (bl_refl W3) (.cells #[.int .i64 (d : Int)] 3)
      have HDB := hid (World.alloc_heap_new W3 (.cells #[.int .i64 (d : Int)] 3))
      have HT5 := hid (HT3.out.mono bD)
      have HM5 := hid (HM3.out.mono bD)
      have HLD := hid (show ∀ k, (Value.slice VA cells.length vc).ownBlock = some k → k < W3.heap.size from fun k hk => (HT3.out.own.lt k hk).2)
      clear hidx bD o0 o1 o2 o3 ol hbin HT3 HM3 HOB3
      go_upto_region 9 with (fail)
      obtain ⟨DB, hDBs⟩ : ∃ DB, W3.heap.size = DB := ⟨_, rfl⟩
      obtain ⟨W5, hW5⟩ : ∃ W5, W3.alloc (.cells #[.int .i64 (d : Int)] 3) = W5 := ⟨_, rfl⟩
      rw [hDBs] at HDB HLD ⊢
      rw [hW5] at HDB HT5 HM5 ⊢
      clear hW5 hDBs
      have x0 : W5.cell? ⟨RX, 0, none⟩ = some (.pointer (some ⟨RP, 0, none⟩)) := cell_of_heap HT5.out.rx
      have xl := (Array.getElem?_eq_some_iff.1 HT5.out.rx).1
      have z0 : W5.cell? ⟨CX, 0, none⟩ = some (.int .i64 (q : Int)) := cell_of_heap HT5.out.cx
      have zl := (Array.getElem?_eq_some_iff.1 HT5.out.cx).1
      have d0 : W5.cell? ⟨DB, 0, none⟩ = some (.int .i64 (d : Int)) := cell_of_heap HDB.out
      have dl := (Array.getElem?_eq_some_iff.1 HDB.out).1
      have c4 := HT5.out.ra.c4
      have rl := HT5.out.ra.lt
      refine wp_region_below_tail 7 (by kernel_rfl) (by kernel_rfl) ?_
      simp only [List.take_succ_cons, List.take_zero, List.drop_succ_cons, List.drop_zero]
      repeat (first | go_big_quiet_step (fail) | quiet_step (fail))
      refine wpQuiet_nil ?_
      intro W6 hb6
      obtain ⟨W7, o7, hdel, hW7, hS7⟩ := (HT5.out.ra.map.mono hb6).delete ((q : Int), (d : Int)) 0
      simp only [encS] at hdel
      have HT7 := hid ((HT5.out.mono hb6).free (us' := putU us ((q : Int), (d : Int)) 0) hW7 hS7)
      obtain ⟨es7, clk7, hmp7, _⟩ := (HT5.out.ra.map.mono hb6)
      have HM7 := hid (show MarksOk w.heap.size W7 DD by rw [hW7]; exact (HM5.out.mono hb6).put hmp7 (fun z e => by cases e))
      have HD7 := hid (show W7.heap[DB]? = some (.cells #[.int .i64 (d : Int)] 3 (0, 0)) by rw [hW7]; exact heap_put (heap_mono HDB.out hb6) rfl hmp7 rfl)
      have hs67 : W5.heap.size ≤ W7.heap.size := by rw [hW7]; have := hb6.size; simpa using this
      clear x0 xl z0 zl d0 dl c4 rl hb6 hW7 hS7 hmp7 HT5 HM5 HDB
      have bT := bl_alloc (bl_refl W7) (.cells #[.int .i64 (-1)] 3)
      have HTBX := hid (World.alloc_heap_new W7 (.cells #[.int .i64 (-1)] 3))
      have HT8 := hid (HT7.out.mono bT)
      have HM8 := hid (HM7.out.mono bT)
      have HD8 := hid (heap_mono HD7.out bT)
      have HBT := hid bT
      clear bT
      go_upto_region 11 with (fail)
      obtain ⟨TB, hTBs⟩ : ∃ TB, W7.heap.size = TB := ⟨_, rfl⟩
      have HTBS := hid hTBs
      obtain ⟨W8, hW8⟩ : ∃ W8, W7.alloc (.cells #[.int .i64 (-1)] 3) = W8 := ⟨_, rfl⟩
      rw [hTBs] at HTBX ⊢
      rw [hW8] at HTBX HT8 HM8 HD8 HBT ⊢
      clear hW8 hTBs
      have x0 : W8.cell? ⟨RX, 0, none⟩ = some (.pointer (some ⟨RP, 0, none⟩)) := cell_of_heap HT8.out.rx
      have xl := (Array.getElem?_eq_some_iff.1 HT8.out.rx).1
      have z0 : W8.cell? ⟨CX, 0, none⟩ = some (.int .i64 (q : Int)) := cell_of_heap HT8.out.cx
      have zl := (Array.getElem?_eq_some_iff.1 HT8.out.cx).1
      go_wp2_with fail
      refine (around_any RP (q : Int) W8).mono ?_
      rintro e W9 ⟨rfl, hw9⟩
      have bA := bl_alloc (bl_refl W8) (.cells #[.pointer (some ⟨RP, 0, none⟩)] 87)
      have bB := bl_alloc (bl_refl (W8.alloc (.cells #[.pointer (some ⟨RP, 0, none⟩)] 87))) (.cells #[.int .i64 (q : Int)] 3)
      have e1 := heap_mono (World.alloc_heap_new W8 (.cells #[.pointer (some ⟨RP, 0, none⟩)] 87)) bB
      have e2 := World.alloc_heap_new (W8.alloc (.cells #[.pointer (some ⟨RP, 0, none⟩)] 87)) (.cells #[.int .i64 (q : Int)] 3)
      rw [World.size_alloc] at e2
      have b3' := bl_trans bA bB
      rw [← hw9] at e1 e2 b3'
      have HNS := hid (show TakeN w W7 TB (nvT wd hg (q : Int) d 0) DD W9 from ⟨bl_trans HBT.out b3', by simpa [nvT] using heap_mono HTBX.out b3', HM8.out.mono b3'⟩)
      have hTZ := (Array.getElem?_eq_some_iff.1 HTBX.out).1
      have hW9s := b3'.size
      obtain ⟨Z2, hZ2⟩ : ∃ Z, W8.heap.size = Z := ⟨_, rfl⟩
      rw [hZ2] at e1 e2 hTZ hW9s ⊢
      clear hw9 bA bB b3' HTBX HT8 HM8 HD8 HBT hZ2 x0 xl z0 zl
      have HTZ := hid hTZ
      have E3 := hid e1
      have E4 := hid e2
      clear hTZ e1 e2
      go_wp2
      refine wp_range_around (base := W7.heap.size) (RP := RP) [TB] rfl rfl HV.out.B.w HV.out.B.h ⟨by omega, by rw [HN.out]; omega⟩ E4.out E3.out (by have := HTZ.out; simp; omega) (by have := HTZ.out; simp; omega)
        (fun j W => TakeN w W7 TB (nvT wd hg (q : Int) d j) DD W)
        (fun _ => False)
        (fun j => TakeN.stable (Nat.le_refl _)) ⟨fun _ _ h _ => h, fun _ _ _ _ h _ _ _ _ _ => h⟩ HNS.out.old.size (fun j W h => ⟨(HT7.out.ra.mono h.old).c0, (HT7.out.ra.mono h.old).c1⟩) ?hbs HNS.out ?_ ?assign ?body ?done ?stop
      case hbs =>
        intro j W h bb hbb
        rw [List.mem_singleton] at hbb
        subst hbb
        exact ⟨_, h.tb, (fun cs e => by cases e), (fun r e => by cases e), (fun z e => by cases e)⟩
      case assign =>
        intro l d t W K hK
        gi_wp2
        exact hK
      case stop =>
        intro W h
        exact h.elim
      case body =>
        rintro l j W hj rfl hd ⟨r, hr⟩ hdd
        have t0 := cell_of_heap (i := 0) hd.tb
        have tf : W.frozen? ⟨TB, 0, none⟩ = false := frozen_of_heap hd.tb
        have tl := (Array.getElem?_eq_some_iff.1 hd.tb).1
        have hdb := heap_mono HD7.out hd.old
        have d0 : W.cell? ⟨DB, 0, none⟩ = some (.int .i64 (d : Int)) := cell_of_heap hdb
        have dl := (Array.getElem?_eq_some_iff.1 hdb).1
        have HD := hid hd
        obtain ⟨nb, hnb⟩ : ∃ nb, nbr wd hg (q : Int) (d : Int) = nb := ⟨_, rfl⟩
        clear hd hr hdd hdb
        by_cases hjd : j = d
        · subst hjd
          have HSET := hid (show TakeN w W7 TB (nvT wd hg (q : Int) j (j + 1)) DD (W.setCell ⟨TB, 0, none⟩ (.int .i64 (nbr wd hg (q : Int) (j : Int)))) from ⟨bl_set HD.out.old _ (by rw [HTBS.out]; exact Nat.le_refl _), by unfold nvT; rw [if_pos (by omega)]; exact set_one HD.out.tb _, HD.out.mks.set _ _⟩)
          rw [hnb] at HSET ⊢
          gi_wp2
          exact ⟨OnlyB.set (by rw [List.mem_singleton]), HSET.out⟩
        · have t1 : ((j : Int) == (d : Int)) = false := beq_eq_false_iff_ne.2 (by omega)
          have HSAME := hid (show TakeN w W7 TB (nvT wd hg (q : Int) d (j + 1)) DD W by
            have h := HD.out
            unfold nvT at h ⊢
            by_cases hlt : d < j
            · rw [if_pos hlt] at h; rw [if_pos (by omega)]; exact h
            · rw [if_neg hlt] at h; rw [if_neg (by omega)]; exact h)
          clear t0
          gi_wp2
          exact ⟨OnlyB.refl _ _, HSAME.out⟩
      case done =>
        rintro W hd hdd
        rw [show nvT wd hg (q : Int) d 4 = nbr wd hg (q : Int) (d : Int) from if_pos hd4] at hd
        have hsz7 := HT7.out.mo.size
        have HMD := hid (MarksOk.push HM7.out hd.mks (by have := HNS.out.old.size; omega) (by have := HNS.out.old.size; omega) hdd)
        have HTB9 := hid hd.tb
        have HT9 := hid (HT7.out.mono hd.old)
        have HD9 := hid (heap_mono HD7.out hd.old)
        clear hd hdd HNS HTB HD7 HM7
        obtain ⟨D3, hD3⟩ : ∃ D3, ({ target := .collected W9.heap.size, args := #[] } : Deferred) :: DD = D3 := ⟨_, rfl⟩
        rw [hD3] at HMD ⊢
        clear hD3
        obtain ⟨tq, htq⟩ : ∃ tq, nbr wd hg (q : Int) (d : Int) = tq := ⟨_, rfl⟩
        rw [htq] at HTB9 HT'
        have HTQ := hid htq
        clear htq
        have t0 : W.cell? ⟨TB, 0, none⟩ = some (.int .i64 tq) := cell_of_heap HTB9.out
        have tl := (Array.getElem?_eq_some_iff.1 HTB9.out).1
        by_cases hneg : tq < 0
        · have t1 : decide (tq < 0) = true := decide_eq_true hneg
          rw [if_pos hneg] at HT'
          have hT := HT'.out
          injection hT with hT1 hT2
          injection hT2 with hT2 hT3
          subst hT1 hT2 hT3
          have d0 : W.cell? ⟨DB, 0, none⟩ = some (.int .i64 (d : Int)) := cell_of_heap HD9.out
          have dl := (Array.getElem?_eq_some_iff.1 HD9.out).1
          have y0 : W.cell? ⟨WB, 0, none⟩ = some (.slice VA cells.length vc) := cell_of_heap HT9.out.wb
          have y1 : W.cell? ⟨WB, 1, none⟩ = some (.int .i64 (-1)) := cell_of_heap HT9.out.wb
          have yf : ∀ i, W.frozen? ⟨WB, i, none⟩ = false := fun i => frozen_of_heap HT9.out.wb
          have yl := (Array.getElem?_eq_some_iff.1 HT9.out.wb).1
          have p0 : W.cell? ⟨RB, 0, none⟩ = some (.slice none 0 0) := cell_of_heap HT9.out.rb
          have p1 : W.cell? ⟨RB, 1, none⟩ = some (.int .i64 0) := cell_of_heap HT9.out.rb
          have pf : ∀ i, W.frozen? ⟨RB, i, none⟩ = false := fun i => frozen_of_heap HT9.out.rb
          have pl := (Array.getElem?_eq_some_iff.1 HT9.out.rb).1
          have hne := HNB.out.2.2.2.2.2.1
          clear hneg
          go_wp2
          clear d0 dl y0 y1 yf yl p0 p1 pf pl t0 tl
          have hmo1 := HT9.out.mo.past (o := 1) HNB.out.2.2.2.1 (.int .i64 (d : Int))
          have hwb1 : (W.setCell ⟨WB, 1, none⟩ (.int .i64 (d : Int))).heap[WB]? = some (.cells #[.slice VA cells.length vc, .int .i64 (d : Int)] 81 (0, 0)) := by rw [heap_setCell_same _ _ _ _ _ _ HT9.out.wb]; rfl
          have hrb0 := past_set (o := 1) (u := .int .i64 (d : Int)) hne HT9.out.rb
          have hst := set_two hrb0 (.slice VA cells.length vc) (.int .i64 (d : Int))
          have hmo2 := hmo1.past (o := 0) HNB.out.2.2.1 (.slice VA cells.length vc)
          have hmo3 := hmo2.past (o := 1) HNB.out.2.2.1 (.int .i64 (d : Int))
          have hrb1 : ((W.setCell ⟨WB, 1, none⟩ (.int .i64 (d : Int))).setCell ⟨RB, 0, none⟩ (.slice VA cells.length vc)).heap[RB]? = some (.cells #[.slice VA cells.length vc, .int .i64 0] 81 (0, 0)) := by rw [heap_setCell_same _ _ _ _ _ _ hrb0]; rfl
          have hbx := past_set (o := 1) (u := .int .i64 (d : Int)) (ne_type HT9.out.ra.box HT9.out.wb (by decide)) HT9.out.ra.box
          have hra := HR0.out.build hmo3 (past_set (ne_type HT9.out.ra.box HT9.out.rb (by decide)) (past_set (ne_type HT9.out.ra.box HT9.out.rb (by decide)) hbx)) (((HT9.out.ra.map.past HT9.out.wb _).past hrb0 _).past hrb1 _)
          have hown := own_set_other hrb1 (own_set_other hrb0 (own_set_other HT9.out.wb HT9.out.own (by decide) 1 (.int .i64 (d : Int))) (by decide) 0 (.slice VA cells.length vc)) (by decide) 1 (.int .i64 (d : Int))
          refine leave_many (v := .tuple #[.agg #[.slice VA cells.length vc, .int .i64 (d : Int)], .bool true]) (base := w.heap.size) D3 rfl (((HMD.out.set _ _).set _ _).set _ _) (.refl _) fun W' hW' => ⟨?_, ⟨_, rfl, (ints_own rfl hown).turned hW'⟩, hra.turned hW', hmo3.turned hW'⟩
          have c0' := cell_of_heap (i := 0) (hW'.cells hst)
          have c1' := cell_of_heap (i := 1) (hW'.cells hst)
          simp [results, Try.results105, go_sem, c0', c1']
        · have t1 : decide (tq < 0) = false := decide_eq_false hneg
          rw [if_neg hneg] at HT'
          obtain ⟨tn, rfl⟩ : ∃ tn : Nat, tq = (tn : Int) := ⟨tq.toNat, by omega⟩
          have htin : inP wd hg (tn : Int) := by
            have := nbr_in (d := (d : Int)) HV.out.B HCI.out (by rw [HTQ.out]; omega)
            rw [HTQ.out] at this; exact this
          have HTIN := hid htin
          have x0 : W.cell? ⟨CX, 0, none⟩ = some (.int .i64 (q : Int)) := cell_of_heap HT9.out.cx
          have xf : W.frozen? ⟨CX, 0, none⟩ = false := frozen_of_heap HT9.out.cx
          have xl := (Array.getElem?_eq_some_iff.1 HT9.out.cx).1
          have HTC := hid (HT9.out.setC HR0.out HNB.out.2.1 HNB.out.2.2.2.2.1 (tn : Int))
          have HMC := hid (HMD.out.set ⟨CX, 0, none⟩ (.int .i64 (tn : Int)))
          clear hneg HT9 HMD HD9 HTB9 htin
          go_upto_region 20 with (fail)
          obtain ⟨W10, hW10⟩ : ∃ W10, W.setCell ⟨CX, 0, none⟩ (.int .i64 (tn : Int)) = W10 := ⟨_, rfl⟩
          rw [hW10] at HTC HMC ⊢
          clear hW10 x0 xf xl t0 tl
          have x0 : W10.cell? ⟨CX, 0, none⟩ = some (.int .i64 (tn : Int)) := cell_of_heap HTC.out.cx
          have xl := (Array.getElem?_eq_some_iff.1 HTC.out.cx).1
          have y0 : W10.cell? ⟨WB, 0, none⟩ = some (.slice VA cells.length vc) := cell_of_heap HTC.out.wb
          have yf : W10.frozen? ⟨WB, 0, none⟩ = false := frozen_of_heap HTC.out.wb
          have yl := (Array.getElem?_eq_some_iff.1 HTC.out.wb).1
          have hidx := index_any cells (.slice VA cells.length vc) (tn : Int) W10 (by have := HLF.out; omega) (ints_own rfl HTC.out.own)
          have hcut := cutL_len cells (tn : Int)
          have hbd := idxL_bd (tn : Int) cells
          obtain ⟨ix, hix⟩ : ∃ ix, idxL (tn : Int) cells = ix := ⟨_, rfl⟩
          rw [hix] at hidx hcut hbd
          have hixn : cells = [] → ix < 0 := fun h => by rw [← hix, h]; simp [idxL]
          clear hix
          go_wp2_with fail
          refine hidx.mono ?_
          rintro e W11 ⟨rfl, hW11⟩
          subst W11
          clear hidx
          have hcnt := cntU_put (u := us) (c := q) (d := (d : Int)) hq ⟨hd0, hd3⟩ HUD.out
          have hlf2 := HLF.out
          have hcf2 := HCF.out
          by_cases hneg : ix < 0
          have t2 : decide (0 ≤ ix) = false := decide_eq_false (by omega)
          rw [if_pos hneg] at hcut
          have HTn := HTC
          have HMn := HMC
          have HCU := hid (show takeU wd hg keep f (putU us ((q : Int), (d : Int)) 0) (tn : Int) (cells ++ [(tn : Int)]) = (TU, TW, TO) by rw [← HT'.out, hcut])
          obtain ⟨cn, hcn⟩ : ∃ cn, cells = cn := ⟨_, rfl⟩
          obtain ⟨L, hL⟩ : ∃ L, cells.length = L := ⟨_, rfl⟩
          have hLL : L ≤ cells.length := by omega
          have HLN := hid (show cn.length = L by rw [← hcn]; exact hL)
          rw [hL] at HTn y0 ⊢
          rw [hcn] at HTn HCU
          clear hneg hcut hbd hcn HTC HMC hL HLD hixn
          focus (go_upto_region 23 with (fail))
          rotate_left
          have t2 : decide (0 ≤ ix) = true := decide_eq_true (by omega)
          rw [if_neg (show ¬ ix < 0 by omega)] at hcut
          obtain ⟨i, rfl⟩ : ∃ i : Nat, ix = (i : Int) := ⟨ix.toNat, by omega⟩
          rw [Int.toNat_natCast] at hcut
          have hil : i ≤ cells.length := by omega
          have hiI : (i : Int) ≤ (cells.length : Int) := by omega
          obtain ⟨g, hgA, hvc⟩ : ∃ g, VA = some ⟨g, 0, none⟩ ∧ cells.length ≤ vc := by
            rcases HTC.out.own.2 with ⟨hv, h0⟩ | ⟨g, cap, cur, hv, _, _, h6, _⟩
            · exfalso
              have h0' : cells = [] := List.eq_nil_of_length_eq_zero h0
              have := hixn h0'
              omega
            · injection hv with e1 e2 e3
              exact ⟨g, e1, by omega⟩
          subst hgA
          have hlt : (cells.take i).length = i := by rw [List.length_take]; omega
          have HTn := hid (HTC.out.setW HR0.out HNB.out.2.2.2.1 HNB.out.2.2.2.2.2.1 (v' := .slice (some ⟨g, 0, none⟩) i vc) (cells' := cells.take i) (by rw [hlt]; exact own_cut HTC.out.own hil))
          have HMn := hid (HMC.out.set ⟨WB, 0, none⟩ (.slice (some ⟨g, 0, none⟩) i vc))
          have HCU := hid (show takeU wd hg keep f (putU us ((q : Int), (d : Int)) 0) (tn : Int) (cells.take i ++ [(tn : Int)]) = (TU, TW, TO) by rw [← HT'.out, hcut])
          have HXC := hid (past_set (B := WB) (o := 0) (u := .slice (some ⟨g, 0, none⟩) i vc) (ne_type HTC.out.cx HTC.out.wb (by decide)) HTC.out.cx)
          have HLN := hid hlt
          have hLL : i ≤ cells.length := hil
          have hti : (i : Int).toNat = i := Int.toNat_natCast i
          have hiv : (i : Int) ≤ (vc : Int) := by omega
          clear hneg hcut hbd hlt HLD hixn
          focus (go_upto_region 23 with (fail))
          obtain ⟨cn, hcn⟩ : ∃ cn, cells.take i = cn := ⟨_, rfl⟩
          rw [hcn] at HTn HCU HLN
          obtain ⟨Wn, hWn⟩ : ∃ Wn, W10.setCell ⟨WB, 0, none⟩ (.slice (some ⟨g, 0, none⟩) i vc) = Wn := ⟨_, rfl⟩
          rw [hWn] at HTn HMn ⊢
          obtain ⟨VA, hVA⟩ : ∃ VA, (some ⟨g, 0, none⟩ : Option Addr) = VA := ⟨_, rfl⟩
          rw [hVA] at HTn ⊢
          obtain ⟨L, hL⟩ : ∃ L, i = L := ⟨_, rfl⟩
          rw [hL] at HTn HLN hLL ⊢
          clear y0 yf yl x0 xl HXC hWn hcn hti hiv HTC HMC
          rotate_left
          obtain ⟨Wn, hWn⟩ : ∃ Wn, W10 = Wn := ⟨_, rfl⟩
          rw [hWn] at HTn HMn ⊢
          clear y0 yf yl x0 xl hWn
          all_goals (
          have bN := bl_alloc (bl_refl Wn) (.cells #[.int .i64 (tn : Int)] 3)
          have HTa := hid (HTn.out.mono bN)
          have HMa := hid (HMn.out.mono bN)
          have oN : (Wn.alloc (.cells #[.int .i64 (tn : Int)] 3)).ownsRow B0 3 1 (.slice VA L vc) L (ints cn) := by have h := HTa.out.own; rw [HLN.out] at h; exact h
          have x0 : Wn.cell? ⟨CX, 0, none⟩ = some (.int .i64 (tn : Int)) := cell_of_heap HTn.out.cx
          have xl := (Array.getElem?_eq_some_iff.1 HTn.out.cx).1
          have y0 : Wn.cell? ⟨WB, 0, none⟩ = some (.slice VA L vc) := cell_of_heap HTn.out.wb
          have yl := (Array.getElem?_eq_some_iff.1 HTn.out.wb).1
          have hB0 : B0 ≤ Wn.heap.size := by have := HNB.out; omega
          clear bN HTn HMn
          go_wp2_with (at_builtin; refine wpList_append_own _ rfl _ _ 22 rfl B0 3 i3 (.int .i64 0) 1 8 Try.underlying22 hi3 hi30 hi31 hi32 rfl (by decide) (.slice VA L vc) L _ rfl oN ⟨Wn.heap.size, 0, none⟩ 1 1 [.int .i64 (tn : Int)] rfl rfl (cell_one_new Wn (.int .i64 (tn : Int)) 3) (fun x hx => by simp at hx; subst hx; rfl) (by unfold maxLen; omega) (by omega) (by simp; omega) ?_; intro v' w12 hown' hgrow hnil; (obtain ⟨A2, c2, hv2⟩ := own_slice hown'); subst hv2; have HT12 := hid (HTa.out.grow (cells' := cn ++ [(tn : Int)]) HR0.out HNB.out.2.2.2.1 HNB.out.2.2.2.2.2.1 HNB.out.2.2.2.2.2.2.1 HNB.out.2.2.2.2.1 hgrow (by rw [List.length_append, HLN.out]; simpa [ints] using hown')); have HM12 := hid ((HMa.out.grown oN hgrow).set ⟨WB, 0, none⟩ (.slice A2 (L + 1) c2)); have hwb := keep_other HTa.out.wb oN (by decide) hgrow; have y0 := cell_of_heap (i := 0) hwb; have yf : w12.frozen? ⟨WB, 0, none⟩ = false := frozen_of_heap hwb; have yl2 := (Array.getElem?_eq_some_iff.1 hwb).1; clear hown' hgrow hnil hwb)
          skip)
          · refine HKC.out (cntU (putU us ((q : Int), (d : Int)) 0) n) (fun s => Array.getD ?ttA s undef) ?ttA _ _ ?_ ?JA (by omega)
            case JA => exact ⟨putU us ((q : Int), (d : Int)) 0, (tn : Int), cn ++ [(tn : Int)], _, f, HT12.out, HBIT.out.put _, HTIN.out, HCU.out, rfl, by omega, by rw [List.length_append, HLN.out]; simp; omega, HM12.out⟩
            simp only [setAll, List.setIfInBounds_toArray, List.set_cons_zero, List.set_cons_succ]
            rfl
          · refine HKC.out (cntU (putU us ((q : Int), (d : Int)) 0) n) (fun s => Array.getD ?ttB s undef) ?ttB _ _ ?_ ?JB (by omega)
            case JB => exact ⟨putU us ((q : Int), (d : Int)) 0, (tn : Int), cn ++ [(tn : Int)], _, f, HT12.out, HBIT.out.put _, HTIN.out, HCU.out, rfl, by omega, by rw [List.length_append, HLN.out]; simp; omega, HM12.out⟩
            simp only [setAll, List.setIfInBounds_toArray, List.set_cons_zero, List.set_cons_succ]
            rfl
end Go.Proofs.Ytlkoadcbolkhoaa
