/- The cells from which nothing is reached that is kept out, or beyond an edge: the walk. -/
import Derived.Lib.SliceRun
import Derived.Test.YtlkoadcbolkhoaaSticks
import Derived.Test.YtlkoadcbolkhoaaSmall
set_option linter.all false
namespace Go.Proofs.Ytlkoadcbolkhoaa
open Go Go.RowKit Go.Proofs
attribute [local go_sem] Oper.semAt_some cell_grow frozen_grow

/-- A row of zeros just made. -/
def MadeZ (base : Nat) (W : World) (v : Value) (n : Nat) : Prop := ∃ g, v = .slice (some ⟨g, 0, none⟩) n n ∧ base ≤ g ∧ W.heap[g]? = some (.cells (ints (List.replicate n 0)).toArray 3 (0, 0))
theorem MadeZ.mono {base n : Nat} {W W' : World} {v : Value} (h : MadeZ base W v n) (hb : Below W.heap.size W W') : MadeZ base W' v n := by
  obtain ⟨g, h1, h2, h3⟩ := h
  exact ⟨g, h1, h2, heap_mono h3 hb⟩
/-- A row of numbers. -/
def RowI (W : World) (G : Nat) (l : List Int) : Prop := W.heap[G]? = some (.cells (ints l).toArray 3 (0, 0))
section
variable {W W' : World} {G : Nat} {l : List Int}
theorem RowI.mono (h : RowI W G l) (hb : Below W.heap.size W W') : RowI W' G l := heap_mono h hb
theorem RowI.lt (h : RowI W G l) : G < W.heap.size := (Array.getElem?_eq_some_iff.1 h).1
theorem RowI.cell (h : RowI W G l) {i : Nat} {x : Int} (hx : l[i]? = some x) : W.cell? ⟨G, i, none⟩ = some (.int .i64 x) := (cell_of_heap h).trans (by simp [ints, hx])
theorem RowI.frozen (h : RowI W G l) (o : Nat) : W.frozen? ⟨G, o, none⟩ = false := frozen_of_heap h
theorem RowI.set (h : RowI W G l) (i : Nat) (x : Int) : RowI (W.setCell ⟨G, i, none⟩ (.int .i64 x)) G (l.set i x) := by
  unfold RowI
  rw [heap_setCell_same _ _ _ _ _ _ h]
  congr 2
  apply Array.ext'
  simp [ints, List.map_set]
end
theorem clear_zero {W : World} {g n : Nat} (ty : TypeId) (h : RowI W g (List.replicate n 0)) (hn : 0 < n) : (Builtin.clear_ #[22] ty #[.slice (some ⟨g, 0, none⟩) n n]).run Try.prog W = .ok (.tuple #[]) W := by
  have hz := Try.zeroValue3
  have h1 := run_storeCells_at (P := Try.prog) g 0 3 (List.replicate n (.int .i64 0)) 0 (ints (List.replicate n 0)).toArray W h (by simp [ints]) (fun v hv => by rw [List.eq_of_mem_replicate hv]; rfl)
  have e1 : ((ints (List.replicate n 0)).toArray.toList.take (0 + 0) ++ List.replicate n (Value.int .i64 0) ++ (ints (List.replicate n 0)).toArray.toList.drop (0 + 0 + (List.replicate n (Value.int .i64 0)).length)).toArray = (ints (List.replicate n 0)).toArray := by
    congr 1
    simp [ints]
  rw [e1, setRow_self W g _ 3 (0, 0) h] at h1
  have hzc : (Builtin.zeroCells (Value.int .i64 0).cells n).toList = List.replicate n (.int .i64 0) := by
    apply List.ext_getElem
    · simp [Builtin.zeroCells, Value.cells]
    · intro i h1 h2
      simp [Builtin.zeroCells, Value.cells, Nat.mod_one]
  obtain ⟨m, rfl⟩ : ∃ m, n = m + 1 := ⟨n - 1, by omega⟩
  simp [Builtin.clear_, run_underlying Try.underlying22, hz, hzc, h1]

/-! ### What is lost -/
def zeros : List Int → Nat
  | [] => 0
  | x :: l => (if x = 0 then 1 else 0) + zeros l
theorem zeros_set : ∀ {l : List Int} {i : Nat} {x : Int}, l[i]? = some 0 → x ≠ 0 → zeros (l.set i x) + 1 = zeros l
  | [], i, x, h, _ => by simp at h
  | y :: l, 0, x, h, hx => by
    simp at h; subst h
    simp [zeros, hx]; omega
  | y :: l, i + 1, x, h, hx => by
    have := zeros_set (l := l) (i := i) (x := x) (by simpa using h) hx
    simp only [List.set_cons_succ, zeros]
    omega
theorem zeros_le : ∀ l : List Int, zeros l ≤ l.length
  | [] => by simp [zeros]
  | x :: l => by
    have := zeros_le l
    simp only [zeros, List.length_cons]
    split <;> omega
section
variable (u : Used) (wd hg : Int)
def loseDs (c : Int) : Nat → List Int × Bool → List Int × Bool
  | 0, st => st
  | j + 1, st => loseD u wd hg c (j : Int) (loseDs c j st)
theorem loseC_ds (c : Int) (st : List Int × Bool) : loseC u wd hg c st = loseDs u wd hg c 4 st := rfl
theorem loseD_len (c d : Int) (st : List Int × Bool) : (loseD u wd hg c d st).1.length = st.1.length := by unfold loseD; split <;> simp
theorem loseDs_len (c : Int) : ∀ (j : Nat) (st : List Int × Bool), (loseDs u wd hg c j st).1.length = st.1.length
  | 0, _ => rfl
  | j + 1, st => by unfold loseDs; rw [loseD_len, loseDs_len c j st]
theorem losePass_len : ∀ (k c : Nat) (st : List Int × Bool), (losePass u wd hg k c st).1.length = st.1.length
  | 0, _, _ => rfl
  | k + 1, c, st => by unfold losePass; rw [losePass_len k, loseC_ds, loseDs_len]
/-- Fewer are left, if there was more. -/
def Fewer (st st' : List Int × Bool) : Prop := zeros st'.1 ≤ zeros st.1 ∧ (st'.2 = true → st.2 = true ∨ zeros st'.1 < zeros st.1)
theorem Fewer.refl (st : List Int × Bool) : Fewer st st := ⟨Nat.le_refl _, fun h => .inl h⟩
theorem Fewer.trans {a b c : List Int × Bool} (h : Fewer a b) (k : Fewer b c) : Fewer a c := by
  refine ⟨Nat.le_trans k.1 h.1, fun hc => ?_⟩
  have h1 := h.1; have k1 := k.1
  rcases k.2 hc with hb | hb
  · rcases h.2 hb with ha | ha
    · exact .inl ha
    · exact .inr (by omega)
  · exact .inr (by omega)
theorem loseD_fewer (c d : Int) (st : List Int × Bool) (hc : c.toNat < st.1.length) : Fewer st (loseD u wd hg c d st) := by
  unfold loseD
  split
  · next h =>
    have h0 : st.1[c.toNat]? = some 0 := by
      have := h.1
      rw [List.getD_eq_getElem?_getD, List.getElem?_eq_getElem hc] at this
      rw [List.getElem?_eq_getElem hc]
      simpa using this
    have := zeros_set (x := 1) h0 (by decide)
    exact ⟨by simp only; omega, fun _ => .inr (by simp only; omega)⟩
  · exact Fewer.refl _
theorem loseDs_fewer (c : Int) : ∀ (j : Nat) (st : List Int × Bool), c.toNat < st.1.length → Fewer st (loseDs u wd hg c j st)
  | 0, st, _ => Fewer.refl _
  | j + 1, st, h => (loseDs_fewer c j st h).trans (loseD_fewer u wd hg c (j : Int) _ (by rw [loseDs_len]; exact h))
theorem losePass_fewer : ∀ (k c : Nat) (st : List Int × Bool), c + k ≤ st.1.length → Fewer st (losePass u wd hg k c st)
  | 0, _, st, _ => Fewer.refl _
  | k + 1, c, st, h => by
    unfold losePass
    refine (loseDs_fewer u wd hg (c : Int) 4 st (by simp; omega)).trans ?_
    exact losePass_fewer k (c + 1) _ (by rw [loseDs_len]; omega)
end
theorem Turned.le {base : Nat} {W W' : World} (h : Turned base W W') : W.heap.size ≤ W'.heap.size := by
  induction h with
  | refl => exact Nat.le_refl _
  | step _ _ _ ih => simpa using ih
theorem Ints.turned {base : Nat} {W W' : World} {s : Value} {l : List Int} (h : Ints W s l) (hT : Turned base W W') : Ints W' s l := by
  rcases h with h | ⟨b, off, c, h1, h2, h3, h4⟩
  · exact .inl h
  · obtain ⟨o, ho⟩ : ∃ o, W.heap[b]? = some o := ⟨W.heap[b], by simp [h3]⟩
    by_cases hl : l = []
    · subst hl
      have hsz := hT.le
      exact .inr ⟨b, off, c, h1, h2, Nat.lt_of_lt_of_le h3 hsz, fun i x hx => by simp at hx⟩
    · obtain ⟨x, hx⟩ := get_at (l := l) (k := 0) (by cases l with | nil => exact absurd rfl hl | cons _ _ => simp)
      obtain ⟨o', ho', hc⟩ := cells_of_cell (h4 0 x hx)
      simp only at ho'
      have hk := hT.keep ho' fun z e => by rw [e] at hc; cases hc
      exact .inr ⟨b, off, c, h1, h2, (Array.getElem?_eq_some_iff.1 hk).1, fun i y hy => (World.cell?_of_block (hk.trans ho'.symm)).trans (h4 i y hy)⟩
/-- What lies there. -/
structure LoseB (w : World) (RX LB G RP n : Nat) (l : List Int) (W : World) : Prop where
  rx : W.heap[RX]? = some (.cells #[.pointer (some ⟨RP, 0, none⟩)] 87 (0, 0))
  lb : W.heap[LB]? = some (.cells #[.slice (some ⟨G, 0, none⟩) n n] 22 (0, 0))
  row : RowI W G l
  old : Below w.heap.size w W
section
variable {w W W' : World} {RX LB G RP n : Nat} {l : List Int}
theorem LoseB.mono (h : LoseB w RX LB G RP n l W) (hb : Below W.heap.size W W') : LoseB w RX LB G RP n l W' := ⟨heap_mono h.rx hb, heap_mono h.lb hb, h.row.mono hb, bl_trans h.old hb⟩
theorem LoseB.put {r : Nat} {x o : Obj} (h : LoseB w RX LB G RP n l W) (hr : W.heap[r]? = some x) (hx : x.isCells = false) (hl : w.heap.size ≤ r) : LoseB w RX LB G RP n l (W.putObj r o) := ⟨heap_put h.rx rfl hr hx, heap_put h.lb rfl hr hx, heap_put h.row rfl hr hx, below_put h.old hl⟩
theorem LoseB.set (h : LoseB w RX LB G RP n l W) (hG : w.heap.size ≤ G) (i : Nat) (x : Int) : LoseB w RX LB G RP n (l.set i x) (W.setCell ⟨G, i, none⟩ (.int .i64 x)) :=
  ⟨past_set (ne_type h.rx h.row (by decide)) h.rx, past_set (ne_type h.lb h.row (by decide)) h.lb, h.row.set i x, bl_set h.old _ hG⟩
theorem LoseB.past {B o : Nat} {cs : Array Value} (h : LoseB w RX LB G RP n l W) (hB : W.heap[B]? = some (.cells cs 4 (0, 0))) (hw : w.heap.size ≤ B) (u : Value) : LoseB w RX LB G RP n l (W.setCell ⟨B, o, none⟩ u) :=
  ⟨past_set (ne_type h.rx hB (by decide)) h.rx, past_set (ne_type h.lb hB (by decide)) h.lb, past_set (ne_type h.row hB (by decide)) h.row, bl_set h.old _ hw⟩
end
/-- What lies there between two directions. -/
structure LoseSt (w : World) (RX LB G NB CX RP n : Nat) (c : Int) (D : List Deferred) (st : List Int × Bool) (W : World) : Prop where
  b : LoseB w RX LB G RP n st.1 W
  nb : W.heap[NB]? = some (.cells #[.bool st.2] 4 (0, 0))
  cx : W.heap[CX]? = some (.cells #[.int .i64 c] 3 (0, 0))
  mks : MarksOk w.heap.size W D
theorem LoseSt.stable {w : World} {RX LB G NB CX RP n : Nat} {c : Int} {D : List Deferred} {st : List Int × Bool} : Stable w.heap.size (LoseSt w RX LB G NB CX RP n c D st) :=
  ⟨fun W W' h hb => ⟨h.b.mono hb, heap_mono h.nb hb, heap_mono h.cx hb, h.mks.mono hb⟩, fun W r x o h hr hx hx1 hx2 hl => ⟨h.b.put hr hx hl, heap_put h.nb rfl hr hx, heap_put h.cx rfl hr hx, h.mks.put hr hx1⟩⟩
theorem LoseSt.more {w W : World} {RX LB G NB CX RP n : Nat} {c : Int} {D : List Deferred} {l : List Int} {b : Bool} (h : LoseSt w RX LB G NB CX RP n c D (l, b) W) (hG : w.heap.size ≤ G) (hN : w.heap.size ≤ NB) (hCG : CX ≠ G) (i : Nat) :
    LoseSt w RX LB G NB CX RP n c D (l.set i 1, true) ((W.setCell ⟨G, i, none⟩ (.int .i64 1)).setCell ⟨NB, 0, none⟩ (.bool true)) := by
  have hnb : (W.setCell ⟨G, i, none⟩ (.int .i64 1)).heap[NB]? = some (.cells #[.bool b] 4 (0, 0)) := past_set (ne_type h.nb h.b.row (by decide)) h.nb
  exact ⟨(h.b.set hG i 1).past hnb hN _, set_one hnb _, past_set (ne_type h.cx h.nb (by decide)) (past_set hCG h.cx), (h.mks.set _ _).set _ _⟩

set_option maxRecDepth 100000 in
set_option maxHeartbeats 8000000 in
theorem large_any {RP MB : Nat} {wd hg : Int} {sw sk : Value} {want keep : List Int} {m : Int} {us : Used} (n : Nat) (w : World) (hR : RaftAt w RP MB wd hg sw sk want keep m us) (hV : Valid wd hg want keep) (hn : wd * hg = (n : Int)) :
    Calls Try.prog 75 #[.pointer (some ⟨RP, 0, none⟩)] w fun e w' => (∃ s, e = .returned s ∧ Ints w' s (pickC (fun c => decide ((lostL us wd hg keep).getD c.toNat 0 = 0)) n)) ∧ Below w.heap.size w w' := by
  obtain ⟨i3, hi, hj0, hj1, hj2⟩ := info_parts info3
  have hc64 := hV.cells
  rw [hn] at hc64
  have HC := hid hc64
  have HR := hid hR
  have HV := hid hV
  have HN := hid hn
  obtain ⟨LF, hLF⟩ : ∃ LF, lostL us wd hg keep = LF := ⟨_, rfl⟩
  have HLF := hid hLF
  rw [hLF]
  clear hLF
  have hmul : IntKind.i64.wrap (wd * hg) = (n : Int) := by rw [hn]; exact IntWalk.i64_in _ (by omega)
  have hwn : IntKind.i64.wrap (n : Int) = n := IntWalk.i64_in _ (by omega)
  have b0 := hid (bl_alloc (bl_refl w) (.cells #[.pointer (some ⟨RP, 0, none⟩)] 87))
  have k0 := hid (World.alloc_heap_new w (.cells #[.pointer (some ⟨RP, 0, none⟩)] 87))
  clear hR hV hn
  refine calls_marks Try.func75 rfl ?_
  simp only [Try.ntmps75, List.size_toArray, List.length_cons, List.length_nil, Nat.reduceAdd, Nat.reduceSub, Array.replicate_succ, Array.replicate_zero, List.push_toArray, List.append_toArray, List.nil_append, List.cons_append]
  go_upto_region 1 with (fail)
  obtain ⟨w0, hw0⟩ : ∃ w0, w.alloc (.cells #[.pointer (some ⟨RP, 0, none⟩)] 87) = w0 := ⟨_, rfl⟩
  obtain ⟨RX, hRX⟩ : ∃ RX, w.heap.size = RX := ⟨_, rfl⟩
  rw [hRX] at k0 ⊢
  rw [hw0] at k0 b0 ⊢
  clear hw0
  have HRX := hid hRX
  have c0 := (HR.out.mono b0.out).c0
  have c1 := (HR.out.mono b0.out).c1
  have c2 : w0.cell? ⟨RX, 0, none⟩ = some (.pointer (some ⟨RP, 0, none⟩)) := cell_of_heap k0.out
  refine wp_region_valsG w0 (bl_refl _) [13, 14, 15, 16, 17, 18, 19, 20, 21, 22, 23, 24, 3] (fun seen u W => (seen 0 = true → u 13 = .pointer (some ⟨RP, 0, none⟩)) ∧
    (seen 1 = true → u 14 = .pointer (some ⟨RP, 0, none⟩)) ∧
    (seen 2 = true → u 15 = .pointer (some ⟨RP, 0, none⟩)) ∧
    (seen 3 = true → u 16 = .pointer (some ⟨RP, 0, none⟩)) ∧
    (seen 4 = true → u 17 = .int .i64 (wd)) ∧
    (seen 5 = true → u 18 = .pointer (some ⟨RP, 0, none⟩)) ∧
    (seen 6 = true → u 19 = .pointer (some ⟨RP, 0, none⟩)) ∧
    (seen 7 = true → u 20 = .pointer (some ⟨RP, 0, none⟩)) ∧
    (seen 8 = true → u 21 = .pointer (some ⟨RP, 1, none⟩)) ∧
    (seen 9 = true → u 22 = .int .i64 (hg)) ∧
    (seen 10 = true → u 23 = .int .i64 ((n : Int))) ∧
    (seen 11 = true → MadeZ w0.heap.size W (u 24) n) ∧
    (seen 12 = true → BoxAt w0.heap.size W (u 3) 22 (if seen 13 = true then #[u 24] else #[.slice none 0 0])) ∧
    (seen 13 = true → True) ∧
    (seen 13 = true → seen 11 = true) ∧
    (seen 13 = true → seen 12 = true))
    (by kernel_rfl) (by kernel_rfl) (by kernel_rfl) (by simp) (by simp) ?_ ?_
  · intro i o ho seen a' w9 hb9 ⟨F0, F1, F2, F3, F4, F5, F6, F7, F8, F9, F10, F11, F12, F13, F14, F15⟩ hv hsi hdep
    have r0 : w9.cell? ⟨RP, 0, none⟩ = some (.int .i64 wd) := cell_mono c0 hb9
    have r1 : w9.cell? ⟨RP, 1, none⟩ = some (.int .i64 hg) := cell_mono c1 hb9
    have r2 : w9.cell? ⟨RX, 0, none⟩ = some (.pointer (some ⟨RP, 0, none⟩)) := cell_mono c2 hb9
    have rl2 : RX < w9.heap.size := World.block_lt_of_cell? _ _ r2
    have rl : RP < w9.heap.size := World.block_lt_of_cell? _ _ r0
    rcases i with _ | _ | _ | _ | _ | _ | _ | _ | _ | _ | _ | _ | _ | _ | i <;> simp only [List.getElem?_cons_zero, List.getElem?_cons_succ, List.getElem?_nil, Option.some.injEq, reduceCtorEq] at ho <;> subst ho
    · refine if_free rfl ?_
      have x1 := val_at (hv 1 (by simp))
      simp [valsOf] at x1
      refine wp_value (.pointer (some ⟨RP, 0, none⟩)) (w' := w9) (by simp [execOp, x1, go_sem, r0, r1, r2, rl, rl2, hmul, hwn]) ⟨_, rfl, hb9, ?_⟩
      exact ⟨by simp, by simpa using F1, by simpa using F2, by simpa using F3, by simpa using F4, by simpa using F5, by simpa using F6, by simpa using F7, by simpa using F8, by simpa using F9, by simpa using F10, by simpa using F11, by simpa using F12, by simpa using F13, by simpa using F14, by simpa using F15⟩
    · refine if_free rfl ?_
      have d0 := hdep ⟨0, .data⟩ (by simp) rfl
      have e0 := val_at (F0 d0)
      refine wp_value (.pointer (some ⟨RP, 0, none⟩)) (w' := w9) (by simp [execOp, e0, go_sem, r0, r1, r2, rl, rl2, hmul, hwn]) ⟨_, rfl, hb9, ?_⟩
      exact ⟨by simpa using F0, by simp, by simpa using F2, by simpa using F3, by simpa using F4, by simpa using F5, by simpa using F6, by simpa using F7, by simpa using F8, by simpa using F9, by simpa using F10, by simpa using F11, by simpa using F12, by simpa using F13, by simpa using F14, by simpa using F15⟩
    · refine if_free rfl ?_
      have d1 := hdep ⟨1, .data⟩ (by simp) rfl
      have e1 := val_at (F1 d1)
      refine wp_value (.pointer (some ⟨RP, 0, none⟩)) (w' := w9) (by simp [execOp, e1, go_sem, r0, r1, r2, rl, rl2, hmul, hwn]) ⟨_, rfl, hb9, ?_⟩
      exact ⟨by simpa using F0, by simpa using F1, by simp, by simpa using F3, by simpa using F4, by simpa using F5, by simpa using F6, by simpa using F7, by simpa using F8, by simpa using F9, by simpa using F10, by simpa using F11, by simpa using F12, by simpa using F13, by simpa using F14, by simpa using F15⟩
    · refine if_free rfl ?_
      have d2 := hdep ⟨2, .data⟩ (by simp) rfl
      have e2 := val_at (F2 d2)
      refine wp_value (.pointer (some ⟨RP, 0, none⟩)) (w' := w9) (by simp [execOp, e2, go_sem, r0, r1, r2, rl, rl2, hmul, hwn]) ⟨_, rfl, hb9, ?_⟩
      exact ⟨by simpa using F0, by simpa using F1, by simpa using F2, by simp, by simpa using F4, by simpa using F5, by simpa using F6, by simpa using F7, by simpa using F8, by simpa using F9, by simpa using F10, by simpa using F11, by simpa using F12, by simpa using F13, by simpa using F14, by simpa using F15⟩
    · refine if_free rfl ?_
      have d3 := hdep ⟨3, .data⟩ (by simp) rfl
      have e3 := val_at (F3 d3)
      refine wp_value (.int .i64 (wd)) (w' := w9) (by simp [execOp, e3, go_sem, r0, r1, r2, rl, rl2, hmul, hwn]) ⟨_, rfl, hb9, ?_⟩
      exact ⟨by simpa using F0, by simpa using F1, by simpa using F2, by simpa using F3, by simp, by simpa using F5, by simpa using F6, by simpa using F7, by simpa using F8, by simpa using F9, by simpa using F10, by simpa using F11, by simpa using F12, by simpa using F13, by simpa using F14, by simpa using F15⟩
    · refine if_free rfl ?_
      have x1 := val_at (hv 1 (by simp))
      simp [valsOf] at x1
      refine wp_value (.pointer (some ⟨RP, 0, none⟩)) (w' := w9) (by simp [execOp, x1, go_sem, r0, r1, r2, rl, rl2, hmul, hwn]) ⟨_, rfl, hb9, ?_⟩
      exact ⟨by simpa using F0, by simpa using F1, by simpa using F2, by simpa using F3, by simpa using F4, by simp, by simpa using F6, by simpa using F7, by simpa using F8, by simpa using F9, by simpa using F10, by simpa using F11, by simpa using F12, by simpa using F13, by simpa using F14, by simpa using F15⟩
    · refine if_free rfl ?_
      have d5 := hdep ⟨5, .data⟩ (by simp) rfl
      have e5 := val_at (F5 d5)
      refine wp_value (.pointer (some ⟨RP, 0, none⟩)) (w' := w9) (by simp [execOp, e5, go_sem, r0, r1, r2, rl, rl2, hmul, hwn]) ⟨_, rfl, hb9, ?_⟩
      exact ⟨by simpa using F0, by simpa using F1, by simpa using F2, by simpa using F3, by simpa using F4, by simpa using F5, by simp, by simpa using F7, by simpa using F8, by simpa using F9, by simpa using F10, by simpa using F11, by simpa using F12, by simpa using F13, by simpa using F14, by simpa using F15⟩
    · refine if_free rfl ?_
      have d6 := hdep ⟨6, .data⟩ (by simp) rfl
      have e6 := val_at (F6 d6)
      refine wp_value (.pointer (some ⟨RP, 0, none⟩)) (w' := w9) (by simp [execOp, e6, go_sem, r0, r1, r2, rl, rl2, hmul, hwn]) ⟨_, rfl, hb9, ?_⟩
      exact ⟨by simpa using F0, by simpa using F1, by simpa using F2, by simpa using F3, by simpa using F4, by simpa using F5, by simpa using F6, by simp, by simpa using F8, by simpa using F9, by simpa using F10, by simpa using F11, by simpa using F12, by simpa using F13, by simpa using F14, by simpa using F15⟩
    · refine if_free rfl ?_
      have d7 := hdep ⟨7, .data⟩ (by simp) rfl
      have e7 := val_at (F7 d7)
      refine wp_value (.pointer (some ⟨RP, 1, none⟩)) (w' := w9) (by simp [execOp, e7, go_sem, r0, r1, r2, rl, rl2, hmul, hwn]) ⟨_, rfl, hb9, ?_⟩
      exact ⟨by simpa using F0, by simpa using F1, by simpa using F2, by simpa using F3, by simpa using F4, by simpa using F5, by simpa using F6, by simpa using F7, by simp, by simpa using F9, by simpa using F10, by simpa using F11, by simpa using F12, by simpa using F13, by simpa using F14, by simpa using F15⟩
    · refine if_free rfl ?_
      have d8 := hdep ⟨8, .data⟩ (by simp) rfl
      have e8 := val_at (F8 d8)
      refine wp_value (.int .i64 (hg)) (w' := w9) (by simp [execOp, e8, go_sem, r0, r1, r2, rl, rl2, hmul, hwn]) ⟨_, rfl, hb9, ?_⟩
      exact ⟨by simpa using F0, by simpa using F1, by simpa using F2, by simpa using F3, by simpa using F4, by simpa using F5, by simpa using F6, by simpa using F7, by simpa using F8, by simp, by simpa using F10, by simpa using F11, by simpa using F12, by simpa using F13, by simpa using F14, by simpa using F15⟩
    · refine if_free rfl ?_
      have d4 := hdep ⟨4, .data⟩ (by simp) rfl
      have e4 := val_at (F4 d4)
      have d9 := hdep ⟨9, .data⟩ (by simp) rfl
      have e9 := val_at (F9 d9)
      refine wp_value (.int .i64 ((n : Int))) (w' := w9) (by simp [execOp, e4, e9, go_sem, r0, r1, r2, rl, rl2, hmul, hwn]) ⟨_, rfl, hb9, ?_⟩
      exact ⟨by simpa using F0, by simpa using F1, by simpa using F2, by simpa using F3, by simpa using F4, by simpa using F5, by simpa using F6, by simpa using F7, by simpa using F8, by simpa using F9, by simp, by simpa using F11, by simpa using F12, by simpa using F13, by simpa using F14, by simpa using F15⟩
    · refine if_free rfl ?_
      have d10 := hdep ⟨10, .data⟩ (by simp) rfl
      have e10 := val_at (F10 d10)
      have hmk := run_makeSlice w9 22 3 i3 (.int .i64 0) Try.underlying22 hi hj0 .i64 .i64 (n : Int) (n : Int) (by omega) (by omega) (by rw [hj1]; omega) (by rw [hj2]; omega) (by omega)
      rw [Int.toNat_natCast, hj1, Nat.mul_one, made_zero] at hmk
      have hg : Below w9.heap.size w9 (w9.alloc (.cells (ints (List.replicate n 0)).toArray 3)) := bl_alloc (bl_refl _) _
      have hs13 : seen 13 = false := by { cases hq : seen 13 with | false => rfl | true => exact absurd (F14 hq) (by rw [hsi]; decide) }
      have hn : MadeZ w0.heap.size (w9.alloc (.cells (ints (List.replicate n 0)).toArray 3)) (.slice (some ⟨w9.heap.size, 0, none⟩) n n) n := ⟨_, rfl, by have := hb9.size; omega, World.alloc_heap_new _ _⟩
      refine wp_value (.slice (some ⟨w9.heap.size, 0, none⟩) n n) (w' := w9.alloc (.cells (ints (List.replicate n 0)).toArray 3)) (by simp [execOp, e10, go_sem, hmk]) ⟨_, rfl, bl_trans hb9 hg, ?_⟩
      exact ⟨by simpa using F0, by simpa using F1, by simpa using F2, by simpa using F3, by simpa using F4, by simpa using F5, by simpa using F6, by simpa using F7, by simpa using F8, by simpa using F9, by simpa using F10, by simpa using hn, by simpa [hs13] using fun h => by have q := (F12 h).mono hg; simpa [hs13] using q, by simpa using F13, by simp, by simpa using F15⟩
    · refine if_free rfl ?_
      have hg : Below w9.heap.size w9 (w9.alloc (.cells #[.slice none 0 0] 22)) := bl_alloc (bl_refl _) _
      have hs13 : seen 13 = false := by { cases hq : seen 13 with | false => rfl | true => exact absurd (F15 hq) (by rw [hsi]; decide) }
      refine wp_value (.pointer (some ⟨w9.heap.size, 0, none⟩)) (w' := w9.alloc (.cells #[.slice none 0 0] 22)) (by simp [execOp, go_sem]) ⟨_, rfl, bl_trans hb9 hg, ?_⟩
      exact ⟨by simpa using F0, by simpa using F1, by simpa using F2, by simpa using F3, by simpa using F4, by simpa using F5, by simpa using F6, by simpa using F7, by simpa using F8, by simpa using F9, by simpa using F10, by simpa using fun h => (F11 h).mono hg, by simpa [hs13] using BoxAt.new (by have := hb9.size; omega), by simpa using F13, by simpa using F14, by simp⟩
    · refine if_free rfl ?_
      have d12 := hdep ⟨12, .data⟩ (by simp) rfl
      have d11 := hdep ⟨11, .data⟩ (by simp) rfl
      obtain ⟨g, hg24, hgb, hgh⟩ := F11 d11
      have e24 := val_at hg24
      have e1 := F12 d12
      rw [hsi] at e1
      simp only [Bool.false_eq_true, if_false] at e1
      obtain ⟨Bx, hB, hB2, hB3⟩ := e1
      have ep := val_at hB
      have cc0 := cell_of_heap (i := 0) hB3
      have f0 := fun i => frozen_of_heap (i := i) hB3
      have hBl := (Array.getElem?_eq_some_iff.1 hB3).1
      have hx3 : BoxAt w0.heap.size (w9.setCell ⟨Bx, 0, none⟩ (.slice (some ⟨g, 0, none⟩) n n)) (valsOf a' 3) 22 #[valsOf a' 24] := ⟨Bx, hB, hB2, by rw [heap_setCell_same _ _ _ _ _ _ hB3, hg24]; rfl⟩
      have hx24 : MadeZ w0.heap.size (w9.setCell ⟨Bx, 0, none⟩ (.slice (some ⟨g, 0, none⟩) n n)) (valsOf a' 24) n := ⟨g, hg24, hgb, past_set (ne_type hgh hB3 (by decide)) hgh⟩
      refine wp_effect (w' := w9.setCell ⟨Bx, 0, none⟩ (.slice (some ⟨g, 0, none⟩) n n)) (by simp [execOp, ep, e24, go_sem, cc0, f0, hBl]) ⟨_, rfl, bl_set hb9 _ hB2, ?_⟩
      exact ⟨by simpa using F0, by simpa using F1, by simpa using F2, by simpa using F3, by simpa using F4, by simpa using F5, by simpa using F6, by simpa using F7, by simpa using F8, by simpa using F9, by simpa using F10, by simpa using fun _ => hx24, by simpa using fun _ => hx3, by simp, by simpa using d11, by simpa using d12⟩
  intro u w5 hb5 seen hall ⟨F0, F1, F2, F3, F4, F5, F6, F7, F8, F9, F10, F11, F12, F13, F14, F15⟩
  replace F0 := F0 (hall 0 (by decide))
  replace F1 := F1 (hall 1 (by decide))
  replace F2 := F2 (hall 2 (by decide))
  replace F3 := F3 (hall 3 (by decide))
  replace F4 := F4 (hall 4 (by decide))
  replace F5 := F5 (hall 5 (by decide))
  replace F6 := F6 (hall 6 (by decide))
  replace F7 := F7 (hall 7 (by decide))
  replace F8 := F8 (hall 8 (by decide))
  replace F9 := F9 (hall 9 (by decide))
  replace F10 := F10 (hall 10 (by decide))
  replace F11 := F11 (hall 11 (by decide))
  replace F12 := F12 (hall 12 (by decide))
  replace F13 := F13 (hall 13 (by decide))
  obtain ⟨G, hG, hGb, hGs⟩ := F11
  have hs13 := hall 13 (by decide)
  rw [hs13, if_pos rfl] at F12
  obtain ⟨LB, hY, hYb, hYs⟩ := F12
  rw [hG] at hYs
  have hsz0 := b0.out.size
  have HGw := hid (show w.heap.size ≤ G by omega)
  have HST := hid (show LoseB w RX LB G RP n (List.replicate n 0) w5 from ⟨heap_mono k0.out hb5, hYs, hGs, bl_trans b0.out hb5⟩)
  simp only [setAll, hG, hY, List.setIfInBounds_toArray, List.set_cons_zero, List.set_cons_succ]
  clear F0 F1 F2 F3 F4 F5 F6 F7 F8 F9 F10 F13 F14 F15 hall hs13 seen hG hY hYs hGs c0 c1 c2 hb5 b0 k0 hsz0 hGb hYb hmul hwn hRX
  go_step
  go_step
  obtain ⟨KA, kc, hsk⟩ : ∃ A c, sk = .slice A keep.length c := by
    rcases HR.out.keep with ⟨rfl, rfl⟩ | ⟨b, off, c, rfl, _⟩
    · exact ⟨none, 0, rfl⟩
    · exact ⟨_, _, rfl⟩
  subst hsk
  have hkl := HV.out.klen.2
  have HKR := hid (show ∀ c ∈ keep, inP wd hg c from fun c hc => ⟨(listB_in HV.out.k c hc).1, (listB_in HV.out.k c hc).2⟩)
  have y0 : w5.cell? ⟨LB, 0, none⟩ = some (.slice (some ⟨G, 0, none⟩) n n) := cell_of_heap HST.out.lb
  have yl := (Array.getElem?_eq_some_iff.1 HST.out.lb).1
  have x0 : w5.cell? ⟨RX, 0, none⟩ = some (.pointer (some ⟨RP, 0, none⟩)) := cell_of_heap HST.out.rx
  have xl := (Array.getElem?_eq_some_iff.1 HST.out.rx).1
  have r3 := (HR.out.mono HST.out.old).c3
  have rl := (HR.out.mono HST.out.old).lt
  have hcl := clear_zero 0 HST.out.row (by omega)
  go_wp2
  clear y0 yl x0 xl r3 rl hcl
  have HST0 := hid (show (keep.drop 0).foldl (fun s c => s.set c.toNat 1) (List.replicate n 0) = lost0 n keep from rfl)
  go_loopw [32] (fun p wr => ∃ (k : Nat) (l : List Int), k ≤ keep.length ∧ p = .int .i64 (k : Int) ∧ l.length = n ∧ (keep.drop k).foldl (fun s c => s.set c.toNat 1) l = lost0 n keep ∧ LoseB w RX LB G RP n l wr) (fun p _ => keep.length - (intOf p).toNat)
  case atStart => exact ⟨0, _, Nat.zero_le _, rfl, by simp, HST0.out, HST.out⟩
  case round =>
  obtain ⟨k, l, hk, rfl, hll, hfo, hst⟩ := hrel
  clear HST HST0
  have HST := hid hst
  have y0 : wr.cell? ⟨LB, 0, none⟩ = some (.slice (some ⟨G, 0, none⟩) n n) := cell_of_heap hst.lb
  have yl := (Array.getElem?_eq_some_iff.1 hst.lb).1
  by_cases hlt : k < keep.length
  · obtain ⟨c, hc⟩ := get_at hlt
    have hcr := HKR.out c (List.mem_of_getElem? hc)
    obtain ⟨q, rfl⟩ : ∃ q : Nat, c = (q : Int) := ⟨c.toNat, by have := hcr.1; omega⟩
    have hqn : q < n := by have h1 := hcr.2; rw [HN.out] at h1; omega
    have hqI : (q : Int) < (n : Int) := by omega
    have hdr : keep.drop k = (q : Int) :: keep.drop (k + 1) := List.drop_eq_getElem_cons hlt ▸ by rw [(List.getElem?_eq_some_iff.1 hc).2]
    rw [hdr] at hfo
    have HFO := hid (show (keep.drop (k + 1)).foldl (fun s c => s.set c.toNat 1) (l.set q 1) = lost0 n keep from hfo)
    obtain ⟨x, hx⟩ := get_at (show q < l.length by omega)
    have g0 := hst.row.cell hx
    have gf := hst.row.frozen q
    have gl := hst.row.lt
    have NST := hid (hst.set HGw.out q 1)
    obtain ⟨b, off, hA, hcc, hbl, hcell⟩ : ∃ b off, KA = some ⟨b, off, none⟩ ∧ keep.length ≤ kc ∧ b < wr.heap.size ∧ wr.cell? ⟨b, off + k, none⟩ = some (.int .i64 (q : Int)) := by
      rcases (HR.out.mono hst.old).keep with ⟨hv, h0⟩ | ⟨b, off, cc, hv, h4, h5, h6⟩
      · rw [h0] at hlt; simp at hlt
      · injection hv with hv1 hv2 hv3
        subst hv3
        exact ⟨b, off, hv1, h4, h5, h6 k q hc⟩
    subst hA
    clear hst hc hcr hdr hfo hx
    go_wp2
    go_roundw
    case rel => exact ⟨k + 1, l.set q 1, by omega, by go_num, by simpa using hll, HFO.out, NST.out⟩
    case measure => simp [intOf]; omega
  · obtain rfl : k = keep.length := by omega
    have hl0 : l = lost0 n keep := by simpa using hfo
    have bN := bl_alloc (bl_refl wr) (.cells #[.bool true] 4)
    have HNB := hid (World.alloc_heap_new wr (.cells #[.bool true] 4))
    have HST2 := hid (hst.mono bN)
    have hwle := hst.old.size
    clear hfo hst bN HST y0 yl hlt hk
    go_wp2
    obtain ⟨NB, hNB⟩ : ∃ NB, wr.heap.size = NB := ⟨_, rfl⟩
    obtain ⟨w7, hw7⟩ : ∃ w7, wr.alloc (.cells #[.bool true] 4) = w7 := ⟨_, rfl⟩
    rw [hNB] at HNB hwle ⊢
    rw [hw7] at HNB HST2 ⊢
    clear hw7 hNB
    have HF := hid (show ∃ f, loseF us wd hg f l = LF ∧ zeros l < f from ⟨n + 1, by rw [← HLF.out, hl0]; unfold lostL; rw [HN.out, Int.toNat_natCast], by have := zeros_le l; omega⟩)
    clear hl0
    refine wp_loop_marksu [6, 7, 40, 41, 42, 43, 44, 45, 46, 47, 48, 77, 78] (fun m u D W => ∃ (NB : Nat) (l : List Int) (b : Bool), u 6 = .pointer (some ⟨NB, 0, none⟩) ∧ (b = true → ∃ f, loseF us wd hg f l = LF ∧ zeros l < f) ∧ (b = false → l = LF) ∧ m = (if b = true then zeros l + 1 else 0) ∧ l.length = n ∧ LoseB w RX LB G RP n l W ∧ W.heap[NB]? = some (.cells #[.bool b] 4 (0, 0)) ∧ MarksOk w.heap.size W D ∧ w.heap.size ≤ NB) (zeros l + 1) (by simp) ⟨NB, l, true, rfl, (fun _ => HF.out), (fun h => by cases h), rfl, hll, HST2.out, HNB.out, trivial, hwle⟩ ?_
    clear HST2 HNB HF hwle hll
    rintro m ux D W K ⟨NC, l2, b, hu, hbt, hbf, rfl, hll, hst, hnb, hmk, hwle⟩ hK
    have HKC := hid hK
    have HST := hid hst
    have HNB := hid hnb
    have HMK := hid hmk
    have HLL := hid hll
    have n0 : W.cell? ⟨NC, 0, none⟩ = some (.bool b) := cell_of_heap hnb
    have nf : W.frozen? ⟨NC, 0, none⟩ = false := frozen_of_heap hnb
    have nl := (Array.getElem?_eq_some_iff.1 hnb).1
    clear hK hst hnb hmk hll
    simp only [setAll, List.setIfInBounds_toArray, List.set_cons_zero, List.set_cons_succ]
    rw [hu]
    cases b with
    | false =>
      have hl0 := hbf rfl
      subst hl0
      clear hbt hbf
      obtain ⟨p, hp⟩ : ∃ p : Int → Bool, (fun c => decide (l2.getD c.toNat 0 = 0)) = p := ⟨_, rfl⟩
      have HP := hid (show ∀ c, p c = decide (l2.getD c.toNat 0 = 0) from fun c => by rw [← hp])
      have HPF := hid hp
      clear hp
      have y0 : W.cell? ⟨LB, 0, none⟩ = some (.slice (some ⟨G, 0, none⟩) n n) := cell_of_heap HST.out.lb
      have yl := (Array.getElem?_eq_some_iff.1 HST.out.lb).1
      go_wp2
      clear y0 yl n0 nf nl
      go_loopw [10, 81] (fun s q wr => ∃ (k : Nat) (v : Value), k ≤ n ∧ q = .int .i64 (k : Int) ∧ s = v ∧ wr.ownsRow W.heap.size 3 1 v (pickC p k).length ((pickC p k).map (Value.int .i64)) ∧ Below W.heap.size W wr) (fun _ q _ => n - (intOf q).toNat)
      case atStart => exact ⟨0, _, Nat.zero_le _, rfl, rfl, World.ownsRow_nil _ _ _ _, bl_refl _⟩
      case round =>
        obtain ⟨k, v, hk, rfl, hsv, hown, hB⟩ := hrel
        obtain rfl := hsv.symm
        have hrow := HST.out.row.mono hB
        have gl := hrow.lt
        by_cases hlt : k < n
        · obtain ⟨x, hx⟩ := get_at (show k < l2.length by rw [HLL.out]; exact hlt)
          have g0 := hrow.cell hx
          have hpx := HP.out (k : Int)
          rw [Int.toNat_natCast, List.getD_eq_getElem?_getD, hx] at hpx
          simp only [Option.getD_some] at hpx
          have hkI : (k : Int) < (n : Int) := by omega
          have hbs := hB.size
          clear hrow hx
          by_cases hx0 : x = 0
          · subst hx0
            have hst := hid (pickC_yes (p := p) (by rw [hpx]; rfl))
            have hln := pickC_len p k
            have hown2 := hown.alloc (.cells #[.int .i64 (k : Int)] 3)
            have HBB := hid (bl_alloc hB (.cells #[.int .i64 (k : Int)] 3))
            clear hpx hown
            go_wp2_with (at_builtin; refine wpList_append_own _ rfl _ _ 22 rfl W.heap.size 3 i3 (.int .i64 0) 1 8 Try.underlying22 hi hj0 hj1 hj2 rfl (by decide) v _ _ rfl hown2 ⟨wr.heap.size, 0, none⟩ 1 1 [.int .i64 (k : Int)] rfl rfl (cell_one_new wr (.int .i64 (k : Int)) 3) (fun x hx => by simp at hx; subst hx; rfl) (by unfold maxLen; omega) (by omega) (by simp; omega) ?_; intro v' w5 hown' hgrow5 hnil5; have HB5 := hid (bl_grown HBB.out hown2 (by omega) hgrow5); have HOW := hid hown'; clear hown' hgrow5 hnil5)
            go_roundw
            case rel => exact ⟨k + 1, _, by omega, by go_num, rfl, by rw [hst.out, List.length_append, List.map_append]; exact HOW.out, HB5.out⟩
            case measure => simp [intOf]; omega
          · have t1 : (x == 0) = false := beq_eq_false_iff_ne.2 hx0
            have hst := hid (pickC_no (p := p) (by rw [hpx]; exact decide_eq_false hx0))
            have HOW := hid hown
            clear hpx hx0 hown
            go_wp2
            go_roundw
            case rel => exact ⟨k + 1, _, by omega, by go_num, rfl, by rw [hst.out]; exact HOW.out, hB⟩
            case measure => simp [intOf]; omega
        · obtain rfl : k = n := by omega
          have HOW := hid hown
          have HB2 := hid (bl_trans HST.out.old hB)
          have HM2 := hid (HMK.out.mono hB)
          clear hrow gl hown hB hlt
          go_wp2
          refine leave_many (v := v) (base := w.heap.size) D rfl HM2.out (.refl _) fun W' hW' => ⟨?_, ⟨_, rfl, ?_⟩, hW'.bl HB2.out (Nat.le_refl _)⟩
          · simp [results, Try.results75, go_sem]
          · rw [show (fun c : Int => decide (l2[c.toNat]?.getD 0 = 0)) = p by rw [← HPF.out]; funext c; rw [List.getD_eq_getElem?_getD]]
            exact (ints_own rfl HOW.out).turned hW'
    | true =>
      obtain ⟨f, hlf, hzf⟩ := hbt rfl
      have HLF2 := hid hlf
      clear hbt hbf hlf
      have y0 : W.cell? ⟨LB, 0, none⟩ = some (.slice (some ⟨G, 0, none⟩) n n) := cell_of_heap HST.out.lb
      have yl := (Array.getElem?_eq_some_iff.1 HST.out.lb).1
      have hne : LB ≠ NC := ne_type HST.out.lb HNB.out (by decide)
      have HNB2 := hid (set_one HNB.out (.bool false))
      have HST2 := hid (HST.out.past HNB.out hwle (o := 0) (.bool false))
      have HMK2 := hid (HMK.out.set ⟨NC, 0, none⟩ (.bool false))
      go_wp2
      obtain ⟨W1, hW1⟩ : ∃ W1, W.setCell ⟨NC, 0, none⟩ (.bool false) = W1 := ⟨_, rfl⟩
      rw [hW1] at HNB2 HST2 HMK2 ⊢
      clear hW1 y0 yl n0 nf nl HST HNB HMK
      obtain ⟨PR, hPR⟩ : ∃ PR, losePass us wd hg n 0 (l2, false) = PR := ⟨_, rfl⟩
      have HPR := hid hPR
      clear hPR
      refine wp_loop_marksu [7, 43, 44, 45, 46, 47, 48, 77] (fun m u D W => ∃ (k : Nat) (st : List Int × Bool), k ≤ n ∧ m = n - k ∧ u 43 = .int .i64 (k : Int) ∧ losePass us wd hg (n - k) k st = PR ∧ st.1.length = n ∧ LoseB w RX LB G RP n st.1 W ∧ W.heap[NC]? = some (.cells #[.bool st.2] 4 (0, 0)) ∧ MarksOk w.heap.size W D) n (by simp) ⟨0, (l2, false), Nat.zero_le _, rfl, rfl, HPR.out, HLL.out, HST2.out, HNB2.out, HMK2.out⟩ ?_
      clear HST2 HNB2 HMK2
      rintro m3 ux3 D3 W3 K3 ⟨k, ⟨l3, b3⟩, hk, rfl, hu3, hpr, hl3, hst, hnb, hmk⟩ hK3
      simp only at hl3 hst hnb
      have HKC3 := hid hK3
      have HST := hid hst
      have HNB := hid hnb
      have HMK := hid hmk
      have HPR2 := hid hpr
      have HL3 := hid hl3
      clear hK3 hst hnb hmk hpr hl3
      simp only [setAll, List.setIfInBounds_toArray, List.set_cons_zero, List.set_cons_succ]
      rw [hu3]
      by_cases hlt : k < n
      · have hkI : (k : Int) < (n : Int) := by omega
        have bC := bl_alloc (bl_refl W3) (.cells #[.int .i64 (k : Int)] 3)
        have HCX := hid (World.alloc_heap_new W3 (.cells #[.int .i64 (k : Int)] 3))
        have HST1 := hid (HST.out.mono bC)
        have HNB1 := hid (heap_mono HNB.out bC)
        have HMK1 := hid (HMK.out.mono bC)
        have hGl := HST.out.row.lt
        clear bC HST HNB HMK
        go_upto_region 14 with (fail)
        obtain ⟨CX, hCX⟩ : ∃ CX, W3.heap.size = CX := ⟨_, rfl⟩
        obtain ⟨W4, hW4⟩ : ∃ W4, W3.alloc (.cells #[.int .i64 (k : Int)] 3) = W4 := ⟨_, rfl⟩
        rw [hCX] at HCX hGl ⊢
        rw [hW4] at HCX HST1 HNB1 HMK1 ⊢
        clear hW4 hCX
        have hCG : CX ≠ G := by omega
        have x0 : W4.cell? ⟨RX, 0, none⟩ = some (.pointer (some ⟨RP, 0, none⟩)) := cell_of_heap HST1.out.rx
        have xl := (Array.getElem?_eq_some_iff.1 HST1.out.rx).1
        have z0 : W4.cell? ⟨CX, 0, none⟩ = some (.int .i64 (k : Int)) := cell_of_heap HCX.out
        have zl := (Array.getElem?_eq_some_iff.1 HCX.out).1
        go_wp2_with fail
        refine (around_any RP (k : Int) W4).mono ?_
        rintro e W5 ⟨rfl, hw2⟩
        have bA := bl_alloc (bl_refl W4) (.cells #[.pointer (some ⟨RP, 0, none⟩)] 87)
        have bB := bl_alloc (bl_refl (W4.alloc (.cells #[.pointer (some ⟨RP, 0, none⟩)] 87))) (.cells #[.int .i64 (k : Int)] 3)
        have e1 := heap_mono (World.alloc_heap_new W4 (.cells #[.pointer (some ⟨RP, 0, none⟩)] 87)) bB
        have e2 := World.alloc_heap_new (W4.alloc (.cells #[.pointer (some ⟨RP, 0, none⟩)] 87)) (.cells #[.int .i64 (k : Int)] 3)
        rw [World.size_alloc] at e2
        have b3' := bl_trans bA bB
        rw [← hw2] at e1 e2 b3'
        have HDR := hid (LoseSt.stable.mono W4 W5 (show LoseSt w RX LB G NC CX RP n (k : Int) D3 (l3, b3) W4 from ⟨HST1.out, HNB1.out, HCX.out, HMK1.out⟩) b3')
        have hGZ := HST1.out.row.lt
        have hNZ := (Array.getElem?_eq_some_iff.1 HNB1.out).1
        obtain ⟨Z, hZ⟩ : ∃ Z, W4.heap.size = Z := ⟨_, rfl⟩
        rw [hZ] at e1 e2 hGZ hNZ ⊢
        clear hw2 bA bB b3' HST1 HNB1 HMK1 HCX hZ x0 xl z0 zl
        have HNZ := hid hNZ
        have HGZ := hid hGZ
        have E1 := hid e1
        have E2 := hid e2
        clear hNZ hGZ e1 e2
        go_wp2
        refine wp_range_around (base := w.heap.size) (RP := RP) [G, NC] rfl rfl HV.out.B.w HV.out.B.h ⟨by omega, by rw [HN.out]; exact hkI⟩ E2.out E1.out (by have := HNZ.out; have := HGZ.out; simp; omega) (by have := HNZ.out; have := HGZ.out; simp; omega)
          (fun j W => LoseSt w RX LB G NC CX RP n (k : Int) D3 (loseDs us wd hg (k : Int) j (l3, b3)) W)
          (fun _ => False)
          (fun j => LoseSt.stable) ⟨fun _ _ h _ => h, fun _ _ _ _ h _ _ _ _ _ => h⟩ HDR.out.b.old.size (fun j W h => ⟨(HR.out.mono h.b.old).c0, (HR.out.mono h.b.old).c1⟩) ?hbs HDR.out ?_ ?assign ?body ?done ?stop
        case hbs =>
          intro j W h bb hbb
          rcases List.mem_cons.1 hbb with rfl | hbb
          · exact ⟨_, h.b.row, (fun cs e => by cases e), (fun r e => by cases e), (fun z e => by cases e)⟩
          · rw [List.mem_singleton] at hbb
            subst hbb
            exact ⟨_, h.nb, (fun cs e => by cases e), (fun r e => by cases e), (fun z e => by cases e)⟩
        case assign =>
          intro l d t W K hK
          gi_wp2
          exact hK
        case stop =>
          intro W h
          exact h.elim
        case body =>
          rintro l j W hj rfl hd ⟨r, hr⟩ hdd
          have hDs : loseDs us wd hg (k : Int) (j + 1) (l3, b3) = loseD us wd hg (k : Int) (j : Int) (loseDs us wd hg (k : Int) j (l3, b3)) := rfl
          have hlen := loseDs_len us wd hg (k : Int) j (l3, b3)
          rw [hDs]
          obtain ⟨st, hst⟩ : ∃ st, loseDs us wd hg (k : Int) j (l3, b3) = st := ⟨_, rfl⟩
          rw [hst] at hd hlen ⊢
          clear hst hDs hr hdd
          obtain ⟨lj, bj⟩ := st
          have hlj : lj.length = n := by rw [show lj.length = (lj, bj).1.length from rfl, hlen]; exact HL3.out
          obtain ⟨tq, htq⟩ : ∃ tq, nbr wd hg (k : Int) (j : Int) = tq := ⟨_, rfl⟩
          have hrng := nbr_rng (c := (k : Int)) HV.out.B.w.1 (by omega) HV.out.B.h.1 (by rw [HN.out]; exact hkI) hj
          rw [htq, HN.out] at hrng
          rw [htq]
          have HTQ := hid htq
          obtain ⟨x, hx⟩ := get_at (show k < lj.length by omega)
          have hxd : lj.getD k 0 = x := by rw [List.getD_eq_getElem?_getD, hx]; rfl
          have HXD := hid hxd
          have HX := hid hx
          have HD := hid hd
          have HLJ := hid hlj
          have HRG := hid hrng
          have hnc : w.heap.size ≤ NC := hwle
          obtain ⟨RS, hRS⟩ : ∃ RS, loseD us wd hg (k : Int) (j : Int) (lj, bj) = RS := ⟨_, rfl⟩
          rw [hRS]
          have HDN := hid (show ¬ (x = 0 ∧ us ((k : Int), (j : Int)) < 1 ∧ (tq < 0 ∨ lj.getD tq.toNat 0 = 1)) → RS = (lj, bj) from fun h => by
            rw [← hRS]; unfold loseD; rw [if_neg]; simp only [Int.toNat_natCast]; rw [HXD.out, HTQ.out]; exact h)
          have HDY := hid (show (x = 0 ∧ us ((k : Int), (j : Int)) < 1 ∧ (tq < 0 ∨ lj.getD tq.toNat 0 = 1)) → RS = (lj.set k 1, true) from fun h => by
            rw [← hRS]; unfold loseD; rw [if_pos]; rfl; simp only [Int.toNat_natCast]; rw [HXD.out, HTQ.out]; exact h)
          have y0 : W.cell? ⟨LB, 0, none⟩ = some (.slice (some ⟨G, 0, none⟩) n n) := cell_of_heap hd.b.lb
          have yl := (Array.getElem?_eq_some_iff.1 hd.b.lb).1
          have z0 : W.cell? ⟨CX, 0, none⟩ = some (.int .i64 (k : Int)) := cell_of_heap hd.cx
          have zl := (Array.getElem?_eq_some_iff.1 hd.cx).1
          have x0 : W.cell? ⟨RX, 0, none⟩ = some (.pointer (some ⟨RP, 0, none⟩)) := cell_of_heap hd.b.rx
          have xl := (Array.getElem?_eq_some_iff.1 hd.b.rx).1
          have g0 := hd.b.row.cell hx
          have gl := hd.b.row.lt
          have hcall := free_any (k : Int) (j : Int) W (HR.out.mono hd.b.old)
          clear hd hlen hlj htq hrng hx hxd hRS
          by_cases hx0 : x = 0
          · subst hx0
            by_cases hu : us ((k : Int), (j : Int)) < 1
            · rw [decide_eq_true hu] at hcall
              gi_wp2_with fail
              refine ⟨trivial, ?_⟩
              refine (CallsIn.inRound _ (callsIn_wide.2 hcall)).mono ?_
              rintro e W6 ⟨rfl, hb6⟩
              have HD6 := hid (LoseSt.stable.mono W W6 HD.out hb6)
              have HOB := hid (OnlyB.below (bs := [G, NC]) hb6)
              clear hcall y0 yl z0 zl x0 xl g0 gl
              have y0 : W6.cell? ⟨LB, 0, none⟩ = some (.slice (some ⟨G, 0, none⟩) n n) := cell_of_heap HD6.out.b.lb
              have yl := (Array.getElem?_eq_some_iff.1 HD6.out.b.lb).1
              have z0 : W6.cell? ⟨CX, 0, none⟩ = some (.int .i64 (k : Int)) := cell_of_heap HD6.out.cx
              have zl := (Array.getElem?_eq_some_iff.1 HD6.out.cx).1
              have g0 := HD6.out.b.row.cell HX.out
              have gf := HD6.out.b.row.frozen k
              have gl := HD6.out.b.row.lt
              have n0 : W6.cell? ⟨NC, 0, none⟩ = some (.bool bj) := cell_of_heap HD6.out.nb
              have nf : W6.frozen? ⟨NC, 0, none⟩ = false := frozen_of_heap HD6.out.nb
              have nl := (Array.getElem?_eq_some_iff.1 HD6.out.nb).1
              have hGN : G ≠ NC := (ne_type HD6.out.nb HD6.out.b.row (by decide)).symm
              have HST7 := hid (HD6.out.more HGw.out hnc hCG k)
              have HOB7 := hid (HOB.out.trans ((OnlyB.set (bs := [G, NC]) (B := G) (o := k) (u := .int .i64 1) (by simp)).trans (OnlyB.set (bs := [G, NC]) (B := NC) (o := 0) (u := .bool true) (by simp))))
              clear hb6 HD
              by_cases hneg : tq < 0
              · have t1 : decide (tq < 0) = true := decide_eq_true hneg
                have hres := HDY.out ⟨by trivial, hu, .inl hneg⟩
                subst hres
                clear hneg hu HDN HDY
                gi_wp2
                exact ⟨HOB7.out, HST7.out⟩
              · have t1 : decide (tq < 0) = false := decide_eq_false hneg
                obtain ⟨tn, rfl⟩ : ∃ tn : Nat, tq = (tn : Int) := ⟨tq.toNat, by omega⟩
                have htn : tn < n := by have := HRG.out; omega
                obtain ⟨y, hy⟩ := get_at (show tn < lj.length by have := HLJ.out; omega)
                have hyd : lj.getD ((tn : Int)).toNat 0 = y := by rw [Int.toNat_natCast, List.getD_eq_getElem?_getD, hy]; rfl
                have h0 := HD6.out.b.row.cell hy
                have htI : (tn : Int) < (n : Int) := by omega
                by_cases hy1 : y = 1
                · subst hy1
                  have hres := HDY.out ⟨by trivial, hu, .inr hyd⟩
                  subst hres
                  clear hneg hu HDN HDY hyd hy
                  gi_wp2
                  exact ⟨HOB7.out, HST7.out⟩
                · have t2 : (y == 1) = false := beq_eq_false_iff_ne.2 hy1
                  have hres := HDN.out fun h => by
                    rcases h.2.2 with h | h
                    · exact hneg h
                    · exact hy1 (hyd.symm.trans h)
                  subst hres
                  clear hneg hu HDN HDY hyd hy hy1
                  gi_wp2
                  exact ⟨HOB.out, HD6.out⟩
            · rw [decide_eq_false hu] at hcall
              have hres := HDN.out fun h => hu h.2.1
              subst hres
              clear HDN HDY hu
              gi_wp2_with fail
              refine ⟨trivial, ?_⟩
              refine (CallsIn.inRound _ (callsIn_wide.2 hcall)).mono ?_
              rintro e W6 ⟨rfl, hb6⟩
              have HD6 := hid (LoseSt.stable.mono W W6 HD.out hb6)
              have HOB := hid (OnlyB.below (bs := [G, NC]) hb6)
              clear hcall hb6
              gi_wp2
              exact ⟨HOB.out, HD6.out⟩
          · have t0 : (x == 0) = false := beq_eq_false_iff_ne.2 hx0
            have hres := HDN.out fun h => hx0 h.1
            subst hres
            clear hcall hx0 HDN HDY
            gi_wp2_with fail
            refine ⟨trivial, ?_⟩
            gi_wp2
            exact ⟨OnlyB.refl _ _, HD.out⟩
        case done =>
          rintro W hd hdd
          rw [← loseC_ds] at hd
          have hsz := HDR.out.b.old.size
          have HM := hid (MarksOk.push HDR.out.mks hd.mks (Nat.le_refl _) hsz hdd)
          have HD := hid hd
          have HP2 := hid (show losePass us wd hg (n - (k + 1)) (k + 1) (loseC us wd hg (k : Int) (l3, b3)) = PR by
            rw [← HPR2.out, show n - k = (n - (k + 1)) + 1 by omega]; rfl)
          have HL4 := hid (show (loseC us wd hg (k : Int) (l3, b3)).1.length = n by rw [loseC_ds, loseDs_len]; exact HL3.out)
          have hk1 : IntKind.i64.wrap ((k : Int) + 1) = ((k + 1 : Nat) : Int) := IntWalk.i64_in _ (by omega)
          clear hd hdd
          go_wp2
          refine HKC3.out (n - (k + 1)) (fun s => Array.getD ?tt3 s undef) ?tt3 _ _ ?_ ?J (by omega)
          case J => exact ⟨k + 1, _, hlt, rfl, rfl, HP2.out, HL4.out, HD.out.b, HD.out.nb, HM.out⟩
          simp only [setAll, List.setIfInBounds_toArray, List.set_cons_zero, List.set_cons_succ]
          rfl
      · obtain rfl : k = n := by omega
        rw [Nat.sub_self] at HPR2
        have hst3 : (l3, b3) = PR := HPR2.out
        have n0 : W3.cell? ⟨NC, 0, none⟩ = some (.bool b3) := cell_of_heap HNB.out
        have nl := (Array.getElem?_eq_some_iff.1 HNB.out).1
        have bN := bl_alloc (bl_refl W3) (.cells #[.bool b3] 4)
        have HNB3 := hid (World.alloc_heap_new W3 (.cells #[.bool b3] 4))
        have HST3 := hid (HST.out.mono bN)
        have HMK3 := hid (HMK.out.mono bN)
        have hw3 := HST.out.old.size
        have HE := hid (show losePass us wd hg k 0 (l2, false) = (l3, b3) by rw [hst3]; exact HPR.out)
        clear bN HST HNB HMK hst3 HPR HPR2 hlt
        go_wp2
        have hfw := losePass_fewer us wd hg k 0 (l2, false) (by have := HLL.out; simp; omega)
        rw [HE.out] at hfw
        obtain ⟨f', rfl⟩ : ∃ f', f = f' + 1 := ⟨f - 1, by omega⟩
        have hLF := HLF2.out
        unfold loseF at hLF
        rw [HN.out, Int.toNat_natCast, HE.out] at hLF
        have HJ := hid (show (b3 = true → ∃ f, loseF us wd hg f l3 = LF ∧ zeros l3 < f) ∧ (b3 = false → l3 = LF) ∧ (if b3 = true then zeros l3 + 1 else 0) < zeros l2 + 1 by
          cases b3 with
          | true =>
            have h2 := hfw.2 rfl
            simp only [Bool.false_eq_true, false_or] at h2
            refine ⟨fun _ => ⟨f', by simpa using hLF, by omega⟩, (fun h => by cases h), ?_⟩
            simp only [if_true]; omega
          | false => exact ⟨(fun h => by cases h), (fun _ => by simpa using hLF), by simp⟩)
        refine HKC.out (if b3 = true then zeros l3 + 1 else 0) (fun s => Array.getD ?tt s undef) ?tt _ _ ?_ ?J ?lt
        case J => exact ⟨W3.heap.size, l3, b3, rfl, HJ.out.1, HJ.out.2.1, rfl, HL3.out, HST3.out, HNB3.out, HMK3.out, hw3⟩
        case lt => simpa using HJ.out.2.2
        simp only [setAll, List.setIfInBounds_toArray, List.set_cons_zero, List.set_cons_succ]
        rfl
end Go.Proofs.Ytlkoadcbolkhoaa
