/- A range over a function at the outermost place, where the iterator may write memory between two rounds: what holds at a round's head and what holds behind it are said apart. -/
import Derived.OwnWalkIn
import Derived.RangeFuncNested
import Derived.RangeFuncBound
import Derived.RangeFuncCalls
import Derived.RangeFuncLeaves
import Derived.Test.YtfchcikdcnloaaaTail
namespace Go.Proofs.Ytfchcikdcnloaaa
open Go Go.RowKit Go.Proofs

variable {P : Program}

/-- How the body of a round may be left: the loop's own two blocks lie as they lay. -/
def rfPost {α : Type} (l : Nat) (I2 : List α → World → Prop) (Ix : Code → List α → World → Prop) (xs : List α) (W : World) : Exit → Act → World → Prop
  | .normal, _, W' => W'.heap[l]? = W.heap[l]? ∧ W'.heap[l - 1]? = W.heap[l - 1]? ∧ I2 xs W'
  | .ret, _, W' => W'.heap[l]? = W.heap[l]? ∧ W'.heap[l - 1]? = W.heap[l - 1]? ∧ Ix .ret xs W'
  | .exit id, _, W' => W'.heap[l]? = W.heap[l]? ∧ W'.heap[l - 1]? = W.heap[l - 1]? ∧ Ix (.exit id) xs W'
  | .goto t, _, W' => W'.heap[l]? = W.heap[l]? ∧ W'.heap[l - 1]? = W.heap[l - 1]? ∧ Ix (.goto t) xs W'
  | .panic _, _, _ => False
  | .outgrown, _, _ => False

/-- A turn of a loop's record is nothing to it. -/
def RecFree {β : Type} (l : Nat) (I : β → World → Prop) : Prop := ∀ s W o, I s W → (∃ r, W.heap[l]? = some (.loop r)) → (∃ r, o = Obj.loop r) → I s (W.putObj l o)

/-- What the iterator owes: whatever B is that new blocks and stores into cells leave alone. -/
def IterOk {α : Type} (P : Program) (gf : Nat) (lb : Array Value) (encs : α → Array Value) (I I2 : List α → World → Prop) (Ix : Code → List α → World → Prop) (S : List α → Prop) (Adm : List α → α → Prop) (w : World) : Prop :=
  ∀ (l : Nat) (B : World → Prop) (Bx : Code → World → Prop) (W1 : World), Below w.heap.size w W1 →
    (∀ W W', B W → Below W.heap.size W W' → B W') → (∀ W a v, B W → B (W.setCell a v)) →
    (∀ c W W', Bx c W → Below W.heap.size W W' → Bx c W') → (∀ c W a v, Bx c W → Bx c (W.setCell a v)) →
    (∀ pre x W, I pre W → B W → Adm pre x → YieldAt Fence.wide 1 P l (encs x) W fun e W' =>
      (e = .returned (.bool true) ∧ I2 (pre ++ [x]) W' ∧ B W') ∨ (e = .returned (.bool false) ∧ ∃ c, Ix c (pre ++ [x]) W' ∧ Bx c W')) →
    I [] W1 → B W1 →
    CallsIn Fence.wide 2 P gf (#[.func (.yield l) #[] #[]] ++ lb) W1 fun e W' => (∃ v, e = .returned v) ∧ ((∃ xs, S xs ∧ I xs W' ∧ B W') ∨ (∃ c pre, Ix c pre W' ∧ Bx c W'))

theorem book_set {W : World} {k : Nat} {o : Obj} (h : W.heap[k]? = some o) (ho : o.isCells = false) (a : Addr) (v : Value) : (W.setCell a v).heap[k]? = some o := by
  rw [World.setCell]
  simp only [Array.getElem?_modify]
  split
  · rw [h]; cases o <;> simp_all [Obj.isCells]
  · exact h

theorem wp_rangeFunc_mine {α : Type} {g : Operand} {ps : Array Tmp} {assign body : Code} {Q : Exit → Act → World → Prop} {a : Act} {w : World}
    {gf : Nat} {lb : Array Value} (hg : a.eval g = .func (.func gf) #[] lb) (eg : ∀ args w, (callFunc gf args).run P w = .ok (.enter gf args) w)
    {encs : α → Array Value} (hps : ∀ x, (encs x).size = ps.size)
    (I I2 : List α → World → Prop) (Ix : Code → List α → World → Prop) (S : List α → Prop) (Adm : List α → α → Prop)
    (hseq : IterOk P gf lb encs I I2 Ix S Adm w)
    (hI : ∀ l, w.heap.size < l → RecFree l I) (hI2 : ∀ l, w.heap.size < l → RecFree l I2) (hIx : ∀ l c, w.heap.size < l → RecFree l (Ix c))
    (h0 : ∀ W, Below w.heap.size w W → W.heap.size = w.heap.size + 2 → I [] W) (a₁ : α → Act)
    (hassign : ∀ (l : Nat) (x : α) (W : World) (K : Act → World → Prop), K (a₁ x) W →
      assign.wpIn (Fence.wide.inRound l) 1 P (Exit.then K (fun _ _ _ => False)) { tmps := (ps.zip (encs x)).foldl (fun t (p, v) => t.setIfInBounds p v) a.tmps, defers := [] } W)
    (hbody : ∀ (l : Nat) (pre : List α) (x : α) (W : World), l = w.heap.size + 1 → I pre W → Adm pre x → (∃ r, W.heap[l]? = some (.loop r)) → W.heap[l - 1]? = some (.deferred (some [])) → body.wpIn (Fence.wide.inRound l) 1 P (rfPost l I2 Ix (pre ++ [x]) W) (a₁ x) W)
    (hdone : ∀ (D : Nat) (xs : List α) (W : World), D = w.heap.size → S xs → I xs W → W.heap[D]? = some (.deferred (some [])) → Q .normal { a with defers := { target := .collected D, args := #[] } :: a.defers } W)
    (hstop : ∀ (D : Nat) (c : Code) (pre : List α) (W : World), D = w.heap.size → Ix c pre W → W.heap[D]? = some (.deferred (some [])) → c.wp P Q { a with defers := { target := .collected D, args := #[] } :: a.defers } W) :
    (Code.rangeFunc g ps assign body).wp P Q a w := by
  refine (wpIn_wide (n := 3)).1 (wpIn_rangeFunc ?_)
  intro fn hfn
  obtain ⟨rec, hrec⟩ : ∃ rec : LoopState → Option Code → Loop, rec = fun st pe => { state := st, pending := pe, fn, tmps := a.tmps, params := ps, assign, body, defers := w.heap.size } := ⟨_, rfl⟩
  obtain ⟨W1, hW1⟩ : ∃ W1, (w.alloc (.deferred (some []))).alloc (.loop (rec .ready none)) = W1 := ⟨_, rfl⟩
  have hL1 : W1.heap[w.heap.size + 1]? = some (.loop (rec .ready none)) := by
    rw [← hW1]; have := World.alloc_heap_new (w.alloc (.deferred (some []))) (.loop (rec .ready none)); rwa [World.size_alloc] at this
  have hK1 : W1.heap[w.heap.size]? = some (.deferred (some [])) := by
    rw [← hW1]; exact (Below.heap_alloc _ _ _ (by simp)).trans (World.alloc_heap_new w _)
  have hb1 : Below w.heap.size w W1 := by
    rw [← hW1]; exact ((Below.refl _ w).alloc (Nat.le_refl _) _).alloc (by simp) _
  refine ⟨w.heap.size + 1, [{ target := .collected w.heap.size, args := #[] }], W1, { target := .fn (.func gf) lb, args := #[.func (.yield (w.heap.size + 1)) #[] #[]] }, W1, gf,
    #[.func (.yield (w.heap.size + 1)) #[] #[]] ++ lb, W1, ?_, ?_, ?_, ?_, fun _ => (by omega), ?_⟩
  · rw [← hW1, hrec]; exact run_enterLoop_outer _ _ _ _ _
  · simp only [resolve, hg]
    simp [go_sem]
  · intro f' hf'; trivial
  · simp [invoke, go_sem, eg]
  · have hBb : ∀ (o : Obj) (k : Nat) (W W' : World), W.heap[k]? = some o → Below W.heap.size W W' → W'.heap[k]? = some o := fun o k W W' h hb => by
      rw [hb.block k (Array.getElem?_eq_some_iff.1 h).1]; exact h
    have hlt0 : w.heap.size < w.heap.size + 1 := by omega
    refine (hseq (w.heap.size + 1)
      (fun W => W.heap[w.heap.size + 1]? = some (.loop (rec .ready none)) ∧ W.heap[w.heap.size]? = some (.deferred (some [])))
      (fun c W => W.heap[w.heap.size + 1]? = some (.loop (rec .done (some c))) ∧ W.heap[w.heap.size]? = some (.deferred (some [])))
      W1 hb1
      (fun W W' h hb => ⟨hBb _ _ _ _ h.1 hb, hBb _ _ _ _ h.2 hb⟩)
      (fun W a v h => ⟨book_set h.1 rfl a v, book_set h.2 rfl a v⟩)
      (fun c W W' h hb => ⟨hBb _ _ _ _ h.1 hb, hBb _ _ _ _ h.2 hb⟩)
      (fun c W a v h => ⟨book_set h.1 rfl a v, book_set h.2 rfl a v⟩)
      ?_ (h0 W1 hb1 (by rw [← hW1]; simp)) ⟨hL1, hK1⟩).mono ?_
    · rintro pre x W hi ⟨hl, hk⟩ hlen
      have hlt : w.heap.size + 1 < W.heap.size := (Array.getElem?_eq_some_iff.1 hl).1
      have hy := run_yield (P := P) (args := encs x) hl (by rw [hrec]; exact hps x)
      rw [hrec] at hy
      refine ⟨fn, _, assign, body, hy, roundIn_of_wpIn hfn (hassign _ x W _ ⟨_, run_beginRound hl (by rw [hrec]), ?_⟩)⟩
      have hl2 : (W.putObj (w.heap.size + 1) (.loop { rec .ready none with state := .busy })).heap[w.heap.size + 1]? = some (.loop { rec .ready none with state := .busy }) := World.putObj_heap_same hlt
      have hk2 : (W.putObj (w.heap.size + 1) (.loop { rec .ready none with state := .busy })).heap[w.heap.size]? = some (.deferred (some [])) := (World.putObj_heap_other (by omega)).trans hk
      refine wpIn_mono (hbody _ pre x _ rfl (hI _ hlt0 _ _ _ hi ⟨_, hl⟩ ⟨_, rfl⟩) hlen ⟨_, hl2⟩ hk2) ?_
      have fin : ∀ (jump : Option Code) (W3 : World), W3.heap[w.heap.size + 1]? = (W.putObj (w.heap.size + 1) (.loop { rec .ready none with state := .busy })).heap[w.heap.size + 1]? → W3.heap[w.heap.size + 1 - 1]? = (W.putObj (w.heap.size + 1) (.loop { rec .ready none with state := .busy })).heap[w.heap.size + 1 - 1]? →
          (Instr.endRound (w.heap.size + 1) jump).run P W3 = .ok (.bool jump.isNone) (W3.putObj (w.heap.size + 1) (.loop (rec (if jump.isNone then .ready else .done) jump))) ∧
          W3.heap[w.heap.size + 1]? = some (.loop { rec .ready none with state := .busy }) ∧
          (W3.putObj (w.heap.size + 1) (.loop (rec (if jump.isNone then .ready else .done) jump))).heap[w.heap.size + 1]? = some (.loop (rec (if jump.isNone then .ready else .done) jump)) ∧
          (W3.putObj (w.heap.size + 1) (.loop (rec (if jump.isNone then .ready else .done) jump))).heap[w.heap.size]? = some (.deferred (some [])) := fun jump W3 h1 h2 => by
        have hl3 := h1.trans hl2
        have hk3 : W3.heap[w.heap.size]? = some (.deferred (some [])) := h2.trans hk2
        have := run_endRound (P := P) jump hl3
        rw [hrec] at this ⊢
        exact ⟨this, by rw [hrec] at hl3; exact hl3, World.putObj_heap_same (Array.getElem?_eq_some_iff.1 hl3).1, (World.putObj_heap_other (by omega)).trans hk3⟩
      rintro e a3 W3 hp
      cases e with
      | normal =>
        obtain ⟨h1, h2, hi3⟩ := hp
        obtain ⟨hr, hl3, hl4, hk4⟩ := fin none W3 h1 h2
        exact ⟨_, _, hr, .inl ⟨rfl, hI2 _ hlt0 _ _ _ hi3 ⟨_, hl3⟩ ⟨_, rfl⟩, hl4, hk4⟩⟩
      | ret =>
        obtain ⟨h1, h2, hi3⟩ := hp
        obtain ⟨hr, hl3, hl4, hk4⟩ := fin (some .ret) W3 h1 h2
        exact ⟨_, _, hr, .inr ⟨rfl, .ret, hIx _ _ hlt0 _ _ _ hi3 ⟨_, hl3⟩ ⟨_, rfl⟩, hl4, hk4⟩⟩
      | exit id =>
        obtain ⟨h1, h2, hi3⟩ := hp
        obtain ⟨hr, hl3, hl4, hk4⟩ := fin (some (.exit id)) W3 h1 h2
        exact ⟨_, _, hr, .inr ⟨rfl, .exit id, hIx _ _ hlt0 _ _ _ hi3 ⟨_, hl3⟩ ⟨_, rfl⟩, hl4, hk4⟩⟩
      | goto t =>
        obtain ⟨h1, h2, hi3⟩ := hp
        obtain ⟨hr, hl3, hl4, hk4⟩ := fin (some (.goto t)) W3 h1 h2
        exact ⟨_, _, hr, .inr ⟨rfl, .goto t, hIx _ _ hlt0 _ _ _ hi3 ⟨_, hl3⟩ ⟨_, rfl⟩, hl4, hk4⟩⟩
      | panic ch => exact hp.elim
      | outgrown => exact hp.elim
    · rintro e W2 ⟨⟨v, rfl⟩, (⟨xs, hS, hi, hl, hk⟩ | ⟨c, pre, hi, hl, hk⟩)⟩
      · exact ⟨none, _, by have := run_endLoop (P := P) hl (by rw [hrec]; simp); rw [hrec] at this; exact this, hdone _ xs _ rfl hS (hI _ hlt0 _ _ _ hi ⟨_, hl⟩ ⟨_, rfl⟩) ((World.putObj_heap_other (by omega)).trans hk)⟩
      · exact ⟨some c, _, by have := run_endLoop (P := P) hl (by rw [hrec]; simp); rw [hrec] at this; exact this, wpIn_wide.2 (hstop _ c pre _ rfl (hIx _ _ hlt0 _ _ _ hi ⟨_, hl⟩ ⟨_, rfl⟩) ((World.putObj_heap_other (by omega)).trans hk))⟩

/-- A function that holds such a loop. -/
theorem calls_marks {f : FuncId} {fn : Func} {c : Code} {args : Array Value} {w : World} {R : Ending → World → Prop} (hf : P.funcs[f]? = some fn) (hb : fn.body = some c)
    (h : c.wp P (bodyPostM Fence.wide 3 P fn R) { tmps := args ++ Array.replicate (fn.ntmps - args.size) undef, defers := [] } w) : Calls P f args w R :=
  (callsIn_wide (n := 3)).1 (callsIn_of_wp_marks hf hb trivial (wpIn_wide.2 h) rfl)

theorem leave_nil {fn : Func} {R : Ending → World → Prop} {a : Act} {w : World} {v : Value} (hr : (results fn a.tmps).run P w = .ok v w) (hd : a.defers = []) (hR : R (.returned v) w) : bodyPostM Fence.wide 3 P fn R .ret a w := by
  show LeavesInM _ _ _ _ _ _ a.defers _ _
  rw [hd]
  exact ⟨v, hr, hR⟩
theorem leave_one {fn : Func} {R : Ending → World → Prop} {a : Act} {w : World} {v : Value} {D : Nat} (hd : a.defers = [{ target := .collected D, args := #[] }]) (hK : w.heap[D]? = some (.deferred (some [])))
    (hr : (results fn a.tmps).run P (w.putObj D (.deferred none)) = .ok v (w.putObj D (.deferred none))) (hR : R (.returned v) (w.putObj D (.deferred none))) : bodyPostM Fence.wide 3 P fn R .ret a w := by
  show LeavesInM _ _ _ _ _ _ a.defers _ _
  rw [hd]
  exact ⟨by simp, .inl ⟨_, _, rfl, run_takeDeferred hK, v, hr, hR⟩⟩

/-- A turn of a block that holds no cells leaves cells as they were. -/
theorem cell_put {W : World} {a : Addr} {v : Value} {l : Nat} {o o' : Obj} (h : W.cell? a = some v) (hl : W.heap[l]? = some o) (ho : o.isCells = false) : (W.putObj l o').cell? a = some v := by
  obtain ⟨x, hx, hc⟩ := cells_of_cell h
  have hne : l ≠ a.block := by intro e; subst e; rw [hl] at hx; cases hx; rw [ho] at hc; cases hc
  exact (World.cell?_of_block (World.putObj_heap_other hne.symm)).trans h
theorem heap_put {W : World} {k l : Nat} {o o' : Obj} {x : Obj} (h : W.heap[k]? = some x) (hx : x.isCells = true) (hl : W.heap[l]? = some o) (ho : o.isCells = false) : (W.putObj l o').heap[k]? = some x := by
  have hne : l ≠ k := by intro e; subst e; rw [hl] at h; cases h; rw [ho] at hx; cases hx
  exact (World.putObj_heap_other hne.symm).trans h
theorem below_put {w W : World} {l : Nat} {o : Obj} (h : Below w.heap.size w W) (hl : w.heap.size ≤ l) : Below w.heap.size w (W.putObj l o) :=
  h.grown (grownBy_putObj' W l o) h.size (fun k e => by cases e; exact hl)
theorem size_put {W : World} {l : Nat} {o : Obj} : (W.putObj l o).heap.size = W.heap.size := by simp [World.putObj]

/-- An append whose run is told by an equation. -/
theorem wpList_append_run {w : World} {ops : Array Oper} {rest : List Oper} {o : Oper} {a : Act} {Q : Exit → Act → World → Prop} (hgd : o.guard = none) (s x : Operand) (t : TypeId)
    (ho : o.op = .call { callee := .builtin .append, args := #[s, x], argTypes := #[t, t] }) (v v2 v' : Value) (w' : World) (hs : a.eval s = v) (hx : a.eval x = v2)
    (hr : (Builtin.append_ #[t, t] o.type #[v, v2]).run P w = .ok v' w') (h : wpList P ops Q rest (a.put o.dst v') w') : wpList P ops Q (o :: rest) a w :=
  wpList_plain hgd fun K hK => by
    unfold Oper.wp execOp
    simp only [ho, resolve, invoke, builtin, Sem.run_bind, Sem.run_pure, Result.andThen_ok, List.map_toArray, List.map_cons, List.map_nil, hs, hx, hr]
    exact hK _ _ h
theorem wpListIn_append_run {F : Fence} {n : Nat} {w : World} {ops : Array Oper} {rest : List Oper} {o : Oper} {a : Act} {Q : Exit → Act → World → Prop} (hgd : o.guard = none) (s x : Operand) (t : TypeId)
    (ho : o.op = .call { callee := .builtin .append, args := #[s, x], argTypes := #[t, t] }) (v v2 v' : Value) (w' : World) (hs : a.eval s = v) (hx : a.eval x = v2)
    (hr : (Builtin.append_ #[t, t] o.type #[v, v2]).run P w = .ok v' w') (h : wpListIn F n P ops Q rest (a.put o.dst v') w') : wpListIn F n P ops Q (o :: rest) a w :=
  wpListIn_plain hgd fun K hK => by
    unfold Oper.wpIn
    refine ⟨?_, ?_⟩
    · simp [Oper.about, ho, resolve, Target.leads, Sem.run_pure]
    · rw [Oper.semAt_plain F _ _ (by rw [ho]; intro c hc'; cases hc')]
      simp [execOp, ho, resolve, invoke, builtin, hs, hx, hr, Result.andThen]
      exact hK _ _ h

end Go.Proofs.Ytfchcikdcnloaaa
