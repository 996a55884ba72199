/- What a loop over a function's body keeps for the iterator; the neighbours of a cell, one after another. -/
import Derived.OwnWalkIn
import Derived.TacticsInMore
import Derived.LoopNIn
import Derived.LoopIn
import Derived.Shelf.Abstract
import Derived.OneCell
import Derived.Test.YtlkoadcbolkhoaaMarks
import Derived.Test.YtlkoadcbolkhoaaLists
set_option linter.all false
namespace Go.Proofs.Ytlkoadcbolkhoaa
open Go Go.RowKit Go.Proofs
attribute [local go_sem] Oper.semAt_some cell_grow frozen_grow

section
variable {P : Program}
/-- Blocks of a type lie as they lay. -/
def KeepT (T : TypeId) (W W' : World) : Prop := ∀ (k : Nat) (cs : Array Value), W.heap[k]? = some (.cells cs T (0, 0)) → W'.heap[k]? = some (.cells cs T (0, 0))
theorem KeepT.refl (T : TypeId) (W : World) : KeepT T W W := fun _ _ h => h
theorem KeepT.trans {T : TypeId} {A B C : World} (h : KeepT T A B) (k : KeepT T B C) : KeepT T A C := fun i cs hi => k i cs (h i cs hi)
theorem KeepT.below {T : TypeId} {W W' : World} (h : Below W.heap.size W W') : KeepT T W W' := fun _ _ hk => heap_mono hk h
theorem KeepT.set {T t : TypeId} {W : World} {B o : Nat} {cs : Array Value} (h : W.heap[B]? = some (.cells cs t (0, 0))) (ht : t ≠ T) (u : Value) : KeepT T W (W.setCell ⟨B, o, none⟩ u) := fun k c hk => by
  refine past_set ?_ hk
  rintro rfl
  rw [h] at hk
  injection hk with hk
  injection hk with _ hk
  exact ht hk
theorem KeepT.own {T e : TypeId} {W W' : World} {base size n : Nat} {v : Value} {xs : List Value} (ho : W.ownsRow base e size v n xs) (hg : W.grownBy W' v.ownBlock) (ht : e ≠ T) : KeepT T W W' := fun k c hk => keep_other hk ho ht hg
theorem KeepT.put {T : TypeId} {W : World} {r : Nat} {x o : Obj} (h : W.heap[r]? = some x) (hx : x.isCells = false) : KeepT T W (W.putObj r o) := fun k c hk => heap_put hk rfl h hx
/-- How the body of a round may be left. -/
def rfPostT (T : TypeId) {α : Type} (l : Nat) (I2 : List α → World → Prop) (Ix : Code → List α → World → Prop) (xs : List α) (W : World) : Exit → Act → World → Prop
  | .normal, _, W' => W'.heap[l]? = W.heap[l]? ∧ W'.heap[l - 1]? = W.heap[l - 1]? ∧ I2 xs W' ∧ KeepT T W W'
  | .ret, _, W' => W'.heap[l]? = W.heap[l]? ∧ W'.heap[l - 1]? = W.heap[l - 1]? ∧ Ix .ret xs W'
  | .exit id, _, W' => W'.heap[l]? = W.heap[l]? ∧ W'.heap[l - 1]? = W.heap[l - 1]? ∧ Ix (.exit id) xs W'
  | .goto t, _, W' => W'.heap[l]? = W.heap[l]? ∧ W'.heap[l - 1]? = W.heap[l - 1]? ∧ Ix (.goto t) xs W'
  | .panic _, _, _ => False
  | .outgrown, _, _ => False
/-- What the iterator owes. -/
def IterOkT {α : Type} (P : Program) (T : TypeId) (gf : Nat) (lb : Array Value) (encs : α → Array Value) (I I2 : List α → World → Prop) (Ix : Code → List α → World → Prop) (S : List α → Prop) (Adm : List α → α → Prop) (w : World) : Prop :=
  ∀ (l : Nat) (B : World → Prop) (Bx : Code → World → Prop) (W1 : World), Below w.heap.size w W1 →
    (∀ W W', B W → Below W.heap.size W W' → B W') → (∀ W a v, B W → B (W.setCell a v)) →
    (∀ c W W', Bx c W → Below W.heap.size W W' → Bx c W') → (∀ c W a v, Bx c W → Bx c (W.setCell a v)) →
    (∀ pre x W, I pre W → B W → Adm pre x → YieldAt Fence.wide 1 P l (encs x) W fun e W' =>
      (e = .returned (.bool true) ∧ I2 (pre ++ [x]) W' ∧ B W' ∧ KeepT T W W') ∨ (e = .returned (.bool false) ∧ ∃ c, Ix c (pre ++ [x]) W' ∧ Bx c W')) →
    I [] W1 → B W1 →
    CallsIn Fence.wide 2 P gf (#[.func (.yield l) #[] #[]] ++ lb) W1 fun e W' => (∃ v, e = .returned v) ∧ ((∃ xs, S xs ∧ I xs W' ∧ B W') ∨ (∃ c pre, Ix c pre W' ∧ Bx c W'))
theorem wp_rangeFunc_T (T : TypeId) {α : Type} {g : Operand} {ps : Array Tmp} {assign body : Code} {Q : Exit → Act → World → Prop} {a : Act} {w : World}
    {gf : Nat} {lb : Array Value} (hg : a.eval g = .func (.func gf) #[] lb) (eg : ∀ args w, (callFunc gf args).run P w = .ok (.enter gf args) w)
    {encs : α → Array Value} (hps : ∀ x, (encs x).size = ps.size)
    (I I2 : List α → World → Prop) (Ix : Code → List α → World → Prop) (S : List α → Prop) (Adm : List α → α → Prop)
    (hseq : IterOkT P T gf lb encs I I2 Ix S Adm w)
    (hI : ∀ l, w.heap.size < l → RecFree l I) (hI2 : ∀ l, w.heap.size < l → RecFree l I2) (hIx : ∀ l c, w.heap.size < l → RecFree l (Ix c))
    (h0 : ∀ W, Below w.heap.size w W → W.heap.size = w.heap.size + 2 → I [] W) (a₁ : α → Act)
    (hassign : ∀ (l : Nat) (x : α) (W : World) (K : Act → World → Prop), K (a₁ x) W →
      assign.wpIn (Fence.wide.inRound l) 1 P (Exit.then K (fun _ _ _ => False)) { tmps := (ps.zip (encs x)).foldl (fun t (p, v) => t.setIfInBounds p v) a.tmps, defers := [] } W)
    (hbody : ∀ (l : Nat) (pre : List α) (x : α) (W : World), l = w.heap.size + 1 → I pre W → Adm pre x → (∃ r, W.heap[l]? = some (.loop r)) → W.heap[l - 1]? = some (.deferred (some [])) → body.wpIn (Fence.wide.inRound l) 1 P (rfPostT T l I2 Ix (pre ++ [x]) W) (a₁ x) W)
    (hdone : ∀ (D : Nat) (xs : List α) (W : World), D = w.heap.size → S xs → I xs W → W.heap[D]? = some (.deferred (some [])) → Q .normal { a with defers := { target := .collected D, args := #[] } :: a.defers } W)
    (hstop : ∀ (D : Nat) (c : Code) (pre : List α) (W : World), D = w.heap.size → Ix c pre W → W.heap[D]? = some (.deferred (some [])) → c.wp P Q { a with defers := { target := .collected D, args := #[] } :: a.defers } W) :
    (Code.rangeFunc g ps assign body).wp P Q a w := by
  refine (wpIn_wide (n := 3)).1 (wpIn_rangeFunc ?_)
  intro fn hfn
  obtain ⟨rec, hrec⟩ : ∃ rec : LoopState → Option Code → Loop, rec = fun st pe => { state := st, pending := pe, fn, tmps := a.tmps, params := ps, assign, body, defers := w.heap.size } := ⟨_, rfl⟩
  obtain ⟨W1, hW1⟩ : ∃ W1, (w.alloc (.deferred (some []))).alloc (.loop (rec .ready none)) = W1 := ⟨_, rfl⟩
  have hL1 : W1.heap[w.heap.size + 1]? = some (.loop (rec .ready none)) := by
    rw [← hW1]; have := World.alloc_heap_new (w.alloc (.deferred (some []))) (.loop (rec .ready none)); rwa [World.size_alloc] at this
  have hK1 : W1.heap[w.heap.size]? = some (.deferred (some [])) := by
    rw [← hW1]; exact (Below.heap_alloc _ _ _ (by simp)).trans (World.alloc_heap_new w _)
  have hb1 : Below w.heap.size w W1 := by
    rw [← hW1]; exact ((Below.refl _ w).alloc (Nat.le_refl _) _).alloc (by simp) _
  refine ⟨w.heap.size + 1, [{ target := .collected w.heap.size, args := #[] }], W1, { target := .fn (.func gf) lb, args := #[.func (.yield (w.heap.size + 1)) #[] #[]] }, W1, gf,
    #[.func (.yield (w.heap.size + 1)) #[] #[]] ++ lb, W1, ?_, ?_, ?_, ?_, fun _ => (by omega), ?_⟩
  · rw [← hW1, hrec]; exact run_enterLoop_outer _ _ _ _ _
  · simp only [resolve, hg]
    simp [go_sem]
  · intro f' hf'; trivial
  · simp [invoke, go_sem, eg]
  · have hBb : ∀ (o : Obj) (k : Nat) (W W' : World), W.heap[k]? = some o → Below W.heap.size W W' → W'.heap[k]? = some o := fun o k W W' h hb => by
      rw [hb.block k (Array.getElem?_eq_some_iff.1 h).1]; exact h
    have hlt0 : w.heap.size < w.heap.size + 1 := by omega
    refine (hseq (w.heap.size + 1)
      (fun W => W.heap[w.heap.size + 1]? = some (.loop (rec .ready none)) ∧ W.heap[w.heap.size]? = some (.deferred (some [])))
      (fun c W => W.heap[w.heap.size + 1]? = some (.loop (rec .done (some c))) ∧ W.heap[w.heap.size]? = some (.deferred (some [])))
      W1 hb1
      (fun W W' h hb => ⟨hBb _ _ _ _ h.1 hb, hBb _ _ _ _ h.2 hb⟩)
      (fun W a v h => ⟨book_set h.1 rfl a v, book_set h.2 rfl a v⟩)
      (fun c W W' h hb => ⟨hBb _ _ _ _ h.1 hb, hBb _ _ _ _ h.2 hb⟩)
      (fun c W a v h => ⟨book_set h.1 rfl a v, book_set h.2 rfl a v⟩)
      ?_ (h0 W1 hb1 (by rw [← hW1]; simp)) ⟨hL1, hK1⟩).mono ?_
    · rintro pre x W hi ⟨hl, hk⟩ hlen
      have hlt : w.heap.size + 1 < W.heap.size := (Array.getElem?_eq_some_iff.1 hl).1
      have hy := run_yield (P := P) (args := encs x) hl (by rw [hrec]; exact hps x)
      rw [hrec] at hy
      refine ⟨fn, _, assign, body, hy, roundIn_of_wpIn hfn (hassign _ x W _ ⟨_, run_beginRound hl (by rw [hrec]), ?_⟩)⟩
      have hl2 : (W.putObj (w.heap.size + 1) (.loop { rec .ready none with state := .busy })).heap[w.heap.size + 1]? = some (.loop { rec .ready none with state := .busy }) := World.putObj_heap_same hlt
      have hk2 : (W.putObj (w.heap.size + 1) (.loop { rec .ready none with state := .busy })).heap[w.heap.size]? = some (.deferred (some [])) := (World.putObj_heap_other (by omega)).trans hk
      refine wpIn_mono (hbody _ pre x _ rfl (hI _ hlt0 _ _ _ hi ⟨_, hl⟩ ⟨_, rfl⟩) hlen ⟨_, hl2⟩ hk2) ?_
      have fin : ∀ (jump : Option Code) (W3 : World), W3.heap[w.heap.size + 1]? = (W.putObj (w.heap.size + 1) (.loop { rec .ready none with state := .busy })).heap[w.heap.size + 1]? → W3.heap[w.heap.size + 1 - 1]? = (W.putObj (w.heap.size + 1) (.loop { rec .ready none with state := .busy })).heap[w.heap.size + 1 - 1]? →
          (Instr.endRound (w.heap.size + 1) jump).run P W3 = .ok (.bool jump.isNone) (W3.putObj (w.heap.size + 1) (.loop (rec (if jump.isNone then .ready else .done) jump))) ∧
          W3.heap[w.heap.size + 1]? = some (.loop { rec .ready none with state := .busy }) ∧
          (W3.putObj (w.heap.size + 1) (.loop (rec (if jump.isNone then .ready else .done) jump))).heap[w.heap.size + 1]? = some (.loop (rec (if jump.isNone then .ready else .done) jump)) ∧
          (W3.putObj (w.heap.size + 1) (.loop (rec (if jump.isNone then .ready else .done) jump))).heap[w.heap.size]? = some (.deferred (some [])) := fun jump W3 h1 h2 => by
        have hl3 := h1.trans hl2
        have hk3 : W3.heap[w.heap.size]? = some (.deferred (some [])) := h2.trans hk2
        have := run_endRound (P := P) jump hl3
        rw [hrec] at this ⊢
        exact ⟨this, by rw [hrec] at hl3; exact hl3, World.putObj_heap_same (Array.getElem?_eq_some_iff.1 hl3).1, (World.putObj_heap_other (by omega)).trans hk3⟩
      rintro e a3 W3 hp
      cases e with
      | normal =>
        obtain ⟨h1, h2, hi3, hkt⟩ := hp
        obtain ⟨hr, hl3, hl4, hk4⟩ := fin none W3 h1 h2
        refine ⟨_, _, hr, .inl ⟨rfl, hI2 _ hlt0 _ _ _ hi3 ⟨_, hl3⟩ ⟨_, rfl⟩, ⟨hl4, hk4⟩, fun k cs hk0 => ?_⟩⟩
        have hne : k ≠ w.heap.size + 1 := by
          rintro rfl
          rw [hl] at hk0
          cases hk0
        exact (World.putObj_heap_other hne).trans (hkt k cs ((World.putObj_heap_other hne).trans hk0))
      | ret =>
        obtain ⟨h1, h2, hi3⟩ := hp
        obtain ⟨hr, hl3, hl4, hk4⟩ := fin (some .ret) W3 h1 h2
        exact ⟨_, _, hr, .inr ⟨rfl, .ret, hIx _ _ hlt0 _ _ _ hi3 ⟨_, hl3⟩ ⟨_, rfl⟩, hl4, hk4⟩⟩
      | exit id =>
        obtain ⟨h1, h2, hi3⟩ := hp
        obtain ⟨hr, hl3, hl4, hk4⟩ := fin (some (.exit id)) W3 h1 h2
        exact ⟨_, _, hr, .inr ⟨rfl, .exit id, hIx _ _ hlt0 _ _ _ hi3 ⟨_, hl3⟩ ⟨_, rfl⟩, hl4, hk4⟩⟩
      | goto t =>
        obtain ⟨h1, h2, hi3⟩ := hp
        obtain ⟨hr, hl3, hl4, hk4⟩ := fin (some (.goto t)) W3 h1 h2
        exact ⟨_, _, hr, .inr ⟨rfl, .goto t, hIx _ _ hlt0 _ _ _ hi3 ⟨_, hl3⟩ ⟨_, rfl⟩, hl4, hk4⟩⟩
      | panic ch => exact hp.elim
      | outgrown => exact hp.elim
    · rintro e W2 ⟨⟨v, rfl⟩, (⟨xs, hS, hi, hl, hk⟩ | ⟨c, pre, hi, hl, hk⟩)⟩
      · exact ⟨none, _, by have := run_endLoop (P := P) hl (by rw [hrec]; simp); rw [hrec] at this; exact this, hdone _ xs _ rfl hS (hI _ hlt0 _ _ _ hi ⟨_, hl⟩ ⟨_, rfl⟩) ((World.putObj_heap_other (by omega)).trans hk)⟩
      · exact ⟨some c, _, by have := run_endLoop (P := P) hl (by rw [hrec]; simp); rw [hrec] at this; exact this, wpIn_wide.2 (hstop _ c pre _ rfl (hIx _ _ hlt0 _ _ _ hi ⟨_, hl⟩ ⟨_, rfl⟩) ((World.putObj_heap_other (by omega)).trans hk))⟩
end

/-! ### Guards, as steps -/
theorem if_free {o : Oper} {y : Nat → Option Bool} {A B : Prop} (hg : o.guard = none) (h : A) : if Region.wanted o y = true then A else B := by
  rw [if_pos (wanted_none hg)]; exact h
theorem if_wanted {l : List Oper} {o : Oper} {a' : Act} {A B : Prop} (j d : Nat) (b : Bool) (oj : Oper) (hg : o.guard = some (j, b)) (hj : l[j]? = some oj) (hd : oj.dst = some d) (hv : valsOf a' d = .bool b) (h : A) : if Region.wanted o (yielded l.toArray a'.tmps) = true then A else B := by
  rw [if_pos (by rw [wanted_at hg hj hd hv]; cases b <;> rfl)]; exact h
theorem if_skip {l : List Oper} {o : Oper} {a' : Act} {A B : Prop} (j d : Nat) (b : Bool) (oj : Oper) (hg : o.guard = some (j, b)) (hj : l[j]? = some oj) (hd : oj.dst = some d) (hv : valsOf a' d = .bool (!b)) (h : B) : if Region.wanted o (yielded l.toArray a'.tmps) = true then A else B := by
  rw [if_neg (by rw [wanted_at hg hj hd hv]; cases b <;> decide)]; exact h

/-! ### The neighbours of a cell -/
def aroundL (wd hg c : Int) : List (Int × Int) := [(0, nbr wd hg c 0), (1, nbr wd hg c 1), (2, nbr wd hg c 2), (3, nbr wd hg c 3)]
def cornX (x : Int) (k : Nat) : Int := if k = 0 then x + 1 else if k = 2 then x - 1 else x
def cornY (y : Int) (k : Nat) : Int := if k = 1 then y + 1 else if k = 3 then y - 1 else y
theorem corn_nbr {wd hg c : Int} (h1 : 1 ≤ wd) (hc : 0 ≤ c) (h2 : 1 ≤ hg) (hlt : c < wd * hg) {k : Nat} (hk : k < 4) :
    nbr wd hg c (k : Int) = if (0 ≤ cornX (c % wd) k ∧ cornX (c % wd) k ≤ wd - 1) ∧ (0 ≤ cornY (c / wd) k ∧ cornY (c / wd) k ≤ hg - 1) then cornY (c / wd) k * wd + cornX (c % wd) k else -1 := by
  have hx0 := Int.emod_nonneg c (b := wd) (by omega)
  have hx1 := Int.emod_lt_of_pos c (b := wd) (by omega)
  have hy0 := Int.ediv_nonneg hc (show 0 ≤ wd by omega)
  have hy1 : c / wd < hg := Int.ediv_lt_of_lt_mul (by omega) (by rw [Int.mul_comm]; exact hlt)
  unfold nbr
  obtain ⟨x, hx⟩ : ∃ x, c % wd = x := ⟨_, rfl⟩
  obtain ⟨y, hy⟩ : ∃ y, c / wd = y := ⟨_, rfl⟩
  have he : c = y * wd + x := by
    have := Int.emod_def c wd
    rw [hx, hy, Int.mul_comm wd y] at this
    omega
  rw [hx] at hx0 hx1 ⊢
  rw [hy] at hy0 hy1 ⊢
  have hp : (y + 1) * wd = y * wd + wd := by rw [Int.add_mul, Int.one_mul]
  have hm : (y - 1) * wd = y * wd - wd := by rw [Int.sub_mul, Int.one_mul]
  unfold cornX cornY
  rcases (show k = 0 ∨ k = 1 ∨ k = 2 ∨ k = 3 by omega) with rfl | rfl | rfl | rfl
  · have : (0 : Nat) ≠ 1 := by decide
    simp only [show ((0 : Nat) : Int) = 0 from rfl, if_true, show ¬ (0 : Nat) = 1 by decide, show ¬ (0 : Nat) = 3 by decide, if_false]
    split <;> split <;> omega
  · simp only [show ((1 : Nat) : Int) = 1 from rfl, show ¬ (1 : Int) = 0 by decide, if_true, show ¬ (1 : Nat) = 0 by decide, show ¬ (1 : Nat) = 2 by decide, if_false, hp]
    split <;> split <;> omega
  · simp only [show ((2 : Nat) : Int) = 2 from rfl, show ¬ (2 : Int) = 0 by decide, show ¬ (2 : Int) = 1 by decide, if_true, show ¬ (2 : Nat) = 0 by decide, show ¬ (2 : Nat) = 1 by decide, show ¬ (2 : Nat) = 3 by decide, if_false]
    split <;> split <;> omega
  · simp only [show ((3 : Nat) : Int) = 3 from rfl, show ¬ (3 : Int) = 0 by decide, show ¬ (3 : Int) = 1 by decide, show ¬ (3 : Int) = 2 by decide, if_true, show ¬ (3 : Nat) = 0 by decide, show ¬ (3 : Nat) = 1 by decide, show ¬ (3 : Nat) = 2 by decide, if_false, hm]
    split <;> split <;> omega
theorem corn_cells (x y : Int) {k : Nat} (hk : k < 4) : (#[.int .i64 (x + 1), .int .i64 y, .int .i64 x, .int .i64 (y + 1), .int .i64 (x - 1), .int .i64 y, .int .i64 x, .int .i64 (y - 1)] : Array Value)[k * 2]? = some (.int .i64 (cornX x k)) ∧ (#[.int .i64 (x + 1), .int .i64 y, .int .i64 x, .int .i64 (y + 1), .int .i64 (x - 1), .int .i64 y, .int .i64 x, .int .i64 (y - 1)] : Array Value)[k * 2 + 1]? = some (.int .i64 (cornY y k)) := by
  rcases (show k = 0 ∨ k = 1 ∨ k = 2 ∨ k = 3 by omega) with rfl | rfl | rfl | rfl <;> exact ⟨rfl, rfl⟩
theorem corn_rng {x y wd hg : Int} (hx : 0 ≤ x ∧ x < wd) (hy : 0 ≤ y ∧ y < hg) (k : Nat) : (-1 ≤ cornX x k ∧ cornX x k ≤ wd) ∧ (-1 ≤ cornY y k ∧ cornY y k ≤ hg) := by
  unfold cornX cornY
  refine ⟨?_, ?_⟩ <;> split <;> (try split) <;> omega
theorem around_at {wd hg c : Int} {k : Nat} (hk : k < 4) : (aroundL wd hg c)[k]? = some ((k : Int), nbr wd hg c (k : Int)) := by
  rcases (show k = 0 ∨ k = 1 ∨ k = 2 ∨ k = 3 by omega) with rfl | rfl | rfl | rfl <;> rfl
theorem around_pre {wd hg c : Int} {k : Nat} (hk : k < 4) : (aroundL wd hg c).take (k + 1) = (aroundL wd hg c).take k ++ [((k : Int), nbr wd hg c (k : Int))] := by
  rw [List.take_add_one, around_at hk]; rfl
/-- What the iterator needs of what holds between its rounds. -/
structure AroundInv (wd hg c : Int) (CB RB RP : Nat) (I : List (Int × Int) → World → Prop) : Prop where
  box : ∀ pre W, I pre W → W.heap[CB]? = some (.cells #[.int .i64 c] 3 (0, 0)) ∧ W.heap[RB]? = some (.cells #[.pointer (some ⟨RP, 0, none⟩)] 87 (0, 0)) ∧ W.cell? ⟨RP, 0, none⟩ = some (.int .i64 wd) ∧ W.cell? ⟨RP, 1, none⟩ = some (.int .i64 hg)
  mono : ∀ pre W W', I pre W → Below W.heap.size W W' → I pre W'
theorem enters95 : ∀ (args : Array Value) (w : World), (callFunc 95 args).run Try.prog w = .ok (.enter 95 args) w := Go.Proofs.enters_of Try.func95 (by kernel_rfl) rfl
set_option maxHeartbeats 4000000 in
theorem around_any (RP : Nat) (c : Int) (w : World) : Calls Try.prog 66 #[.pointer (some ⟨RP, 0, none⟩), .int .i64 c] w fun e w' => e = .returned (.func (.func 95) #[] #[.pointer (some ⟨w.heap.size + 1, 0, none⟩), .pointer (some ⟨w.heap.size, 0, none⟩)]) ∧
    w' = (w.alloc (.cells #[.pointer (some ⟨RP, 0, none⟩)] 87)).alloc (.cells #[.int .i64 c] 3) := by
  go_enter Try.func66, Try.ntmps66
  go_wp2
  go_ret
  exact ⟨rfl, rfl⟩
theorem corn_bd {wd hg c : Int} (h1 : 1 ≤ wd ∧ wd ≤ 8) (h2 : 1 ≤ hg ∧ hg ≤ 8) (hc : 0 ≤ c ∧ c < wd * hg) : (0 ≤ c % wd ∧ c % wd < wd) ∧ (0 ≤ c / wd ∧ c / wd < hg) :=
  ⟨⟨Int.emod_nonneg c (by omega), Int.emod_lt_of_pos c (by omega)⟩, Int.ediv_nonneg hc.1 (by omega), Int.ediv_lt_of_lt_mul (by omega) (by rw [Int.mul_comm]; exact hc.2)⟩

set_option maxRecDepth 100000 in
set_option maxHeartbeats 8000000 in
theorem around_iter {wd hg c : Int} {CB RB RP : Nat} {I : List (Int × Int) → World → Prop} {Ix : Code → List (Int × Int) → World → Prop} (h1 : 1 ≤ wd ∧ wd ≤ 8) (h2 : 1 ≤ hg ∧ hg ≤ 8) (hc : 0 ≤ c ∧ c < wd * hg) (G : AroundInv wd hg c CB RB RP I) (w : World) :
    IterOkT Try.prog 111 95 #[.pointer (some ⟨CB, 0, none⟩), .pointer (some ⟨RB, 0, none⟩)] (fun p : Int × Int => #[.int .i64 p.1, .int .i64 p.2]) I I Ix (fun xs => xs = aroundL wd hg c) (fun pre p => pre ++ [p] <+: aroundL wd hg c) w := by
  intro l B Bx W1 hW1 hBb hBs hxb hxs hY hI0 hB0
  have HG := hid G
  have HBb := hid hBb
  have HY := hid hY
  have HI0 := hid hI0
  have HB0 := hid hB0
  obtain ⟨⟨hx0, hx1⟩, hy0, hy1⟩ := corn_bd h1 h2 hc
  have hcn := fun k (hk : k < 4) => corn_nbr h1.1 hc.1 h2.1 hc.2 hk
  have HCN := hid hcn
  have hm1 := Int.mul_le_mul h1.2 h2.2 (by omega) (by omega)
  have t1 : Int.tmod c wd = c % wd := Int.tmod_eq_emod_of_nonneg hc.1
  have t2 : Int.tdiv c wd = c / wd := Int.tdiv_eq_ediv_of_nonneg hc.1
  have n0 : (wd == 0) = false := beq_eq_false_iff_ne.2 (by omega)
  have n1 : ¬ wd = 0 := by omega
  generalize c % wd = x at *
  generalize c / wd = y at *
  have v1 : IntKind.i64.wrap x = x := IntWalk.i64_in _ (by omega)
  have v2 : IntKind.i64.wrap y = y := IntWalk.i64_in _ (by omega)
  have v3 : IntKind.i64.wrap (x + 1) = x + 1 := IntWalk.i64_in _ (by omega)
  have v4 : IntKind.i64.wrap (y + 1) = y + 1 := IntWalk.i64_in _ (by omega)
  have v5 : IntKind.i64.wrap (x - 1) = x - 1 := IntWalk.i64_in _ (by omega)
  have v6 : IntKind.i64.wrap (y - 1) = y - 1 := IntWalk.i64_in _ (by omega)
  obtain ⟨hCB, hRB, hR0, hR1⟩ := G.box _ _ hI0
  have c0 : W1.cell? ⟨CB, 0, none⟩ = some (.int .i64 c) := cell_of_heap hCB
  have g0 : W1.cell? ⟨RB, 0, none⟩ = some (.pointer (some ⟨RP, 0, none⟩)) := cell_of_heap hRB
  have lc := (Array.getElem?_eq_some_iff.1 hCB).1
  have lr := (Array.getElem?_eq_some_iff.1 hRB).1
  have lp : RP < W1.heap.size := World.block_lt_of_cell? _ _ hR0
  clear hcn G hBb hBs hxb hxs hY hI0 hB0 hW1 hCB hRB hR1 hc
  refine callsIn_of_wp Try.func95 rfl trivial ?_ rfl
  simp only [Try.ntmps95, List.size_toArray, List.length_cons, List.length_nil, Nat.reduceAdd, Nat.reduceSub, Array.replicate_succ, Array.replicate_zero, List.push_toArray, List.append_toArray, List.nil_append, List.cons_append]
  gi_wp2
  refine wpIn_wide.2 ?_
  refine wp_region_below (by kernel_rfl) (by kernel_rfl) ?_
  repeat (first | go_big_quiet_step (fail) | quiet_step (fail))
  refine wpQuiet_nil ?_
  intro W2 hb2
  have HI2 := hid (HG.out.mono _ _ _ HI0.out hb2)
  have HB2 := hid (HBb.out _ _ HB0.out hb2)
  clear hb2 c0 g0 lc lr lp hR0 HI0 HB0 t1 t2 n0 n1 v1 v2
  gi_wp2
  have kr := World.alloc_heap_new W2 (.cells #[.int .i64 (x + 1), .int .i64 y, .int .i64 x, .int .i64 (y + 1), .int .i64 (x - 1), .int .i64 y, .int .i64 x, .int .i64 (y - 1)] 111)
  have HI3 := hid (HG.out.mono _ _ _ HI2.out (bl_alloc (bl_refl W2) (.cells #[.int .i64 (x + 1), .int .i64 y, .int .i64 x, .int .i64 (y + 1), .int .i64 (x - 1), .int .i64 y, .int .i64 x, .int .i64 (y - 1)] 111)))
  have HB3 := hid (HBb.out _ _ HB2.out (bl_alloc (bl_refl W2) (.cells #[.int .i64 (x + 1), .int .i64 y, .int .i64 x, .int .i64 (y + 1), .int .i64 (x - 1), .int .i64 y, .int .i64 x, .int .i64 (y - 1)] 111)))
  obtain ⟨KB, hKB⟩ : ∃ KB, W2.heap.size = KB := ⟨_, rfl⟩
  obtain ⟨W3, hW3⟩ : ∃ W3, W2.alloc (.cells #[.int .i64 (x + 1), .int .i64 y, .int .i64 x, .int .i64 (y + 1), .int .i64 (x - 1), .int .i64 y, .int .i64 x, .int .i64 (y - 1)] 111) = W3 := ⟨_, rfl⟩
  rw [hKB] at kr ⊢
  rw [hW3] at kr HI3 HB3 ⊢
  have HK3 := hid kr
  clear kr hKB hW3 HI2 HB2 v3 v4 v5 v6
  gi_loopw [41] (fun p wr => ∃ k : Nat, k ≤ 4 ∧ p = .int .i64 (k : Int) ∧ I ((aroundL wd hg c).take k) wr ∧ B wr ∧ wr.heap[KB]? = some (.cells #[.int .i64 (x + 1), .int .i64 y, .int .i64 x, .int .i64 (y + 1), .int .i64 (x - 1), .int .i64 y, .int .i64 x, .int .i64 (y - 1)] 111 (0, 0))) (fun p _ => 4 - (intOf p).toNat)
  case atStart => exact ⟨0, by omega, rfl, HI3.out, HB3.out, HK3.out⟩
  case round =>
    obtain ⟨k, hk, rfl, hI, hB, hrow⟩ := hrel
    clear HI3 HB3 HK3
    by_cases hlt : k < 4
    · have hcell := corn_cells x y hlt
      have HPN := hid (show (aroundL wd hg c).take k ++ [((k : Int), nbr wd hg c (k : Int))] <+: aroundL wd hg c by rw [← around_pre hlt]; exact List.take_prefix _ _)
      have HPR := hid (around_pre (wd := wd) (hg := hg) (c := c) hlt)
      have hnb := HCN.out k hlt
      have hrng := corn_rng ⟨hx0, hx1⟩ ⟨hy0, hy1⟩ k
      generalize cornX x k = ax at *
      generalize cornY y k = ay at *
      have q0 : wr.cell? ⟨KB, k * 2, none⟩ = some (.int .i64 ax) := (cell_of_heap hrow).trans hcell.1
      have q1 : wr.cell? ⟨KB, k * 2 + 1, none⟩ = some (.int .i64 ay) := (cell_of_heap hrow).trans hcell.2
      have ql := (Array.getElem?_eq_some_iff.1 hrow).1
      have hk4 : (k : Int) < 4 := by omega
      have HI4 := hid (HG.out.mono _ _ _ hI (bl_alloc (bl_refl wr) (.cells #[.int .i64 ax, .int .i64 ay] 111)))
      have HB4 := hid (HBb.out _ _ hB (bl_alloc (bl_refl wr) (.cells #[.int .i64 ax, .int .i64 ay] 111)))
      have HR4 := hid (heap_mono hrow (bl_alloc (bl_refl wr) (.cells #[.int .i64 ax, .int .i64 ay] 111)))
      have HA4 := hid (World.alloc_heap_new wr (.cells #[.int .i64 ax, .int .i64 ay] 111))
      clear hcell hrow hI hB
      gi_wp2
      obtain ⟨AB, hAB⟩ : ∃ AB, wr.heap.size = AB := ⟨_, rfl⟩
      obtain ⟨W4, hW4⟩ : ∃ W4, wr.alloc (.cells #[.int .i64 ax, .int .i64 ay] 111) = W4 := ⟨_, rfl⟩
      rw [hAB] at HA4 ⊢
      rw [hW4] at HA4 HI4 HB4 HR4 ⊢
      clear hAB hW4 q0 q1 ql
      obtain ⟨_, hRB, hR0, hR1⟩ := HG.out.box _ _ HI4.out
      have g0 : W4.cell? ⟨RB, 0, none⟩ = some (.pointer (some ⟨RP, 0, none⟩)) := cell_of_heap hRB
      have g3 : W4.cell? ⟨AB, 0, none⟩ = some (.int .i64 ax) := cell_of_heap HA4.out
      have g4 : W4.cell? ⟨AB, 1, none⟩ = some (.int .i64 ay) := cell_of_heap HA4.out
      have l0 := (Array.getElem?_eq_some_iff.1 hRB).1
      have l1 : RP < W4.heap.size := World.block_lt_of_cell? _ _ hR0
      have l2 := (Array.getElem?_eq_some_iff.1 HA4.out).1
      have hmul : -8 ≤ ay * wd ∧ ay * wd ≤ 64 := by
        constructor
        · have : (-1) * wd ≤ ay * wd := Int.mul_le_mul_of_nonneg_right hrng.2.1 (by omega)
          omega
        · have := Int.mul_le_mul_of_nonneg_right (show ay ≤ 8 by omega) (show 0 ≤ wd by omega)
          omega
      have u3 : IntKind.i64.wrap (ay * wd) = ay * wd := IntWalk.i64_in _ (by omega)
      have u4 : IntKind.i64.wrap (ay * wd + ax) = ay * wd + ax := IntWalk.i64_in _ (by omega)
      clear hRB
      refine wpIn_wide.2 ?_
      refine wp_region_below (by kernel_rfl) (by kernel_rfl) ?_
      repeat (first | go_big_quiet_step (fail) | quiet_step (fail))
      refine wpQuiet_nil ?_
      intro W5 hb5
      have HI5 := hid (HG.out.mono _ _ _ HI4.out hb5)
      have HB5 := hid (HBb.out _ _ HB4.out hb5)
      have HR5 := hid (heap_mono HR4.out hb5)
      have HA5 := hid (heap_mono HA4.out hb5)
      clear g0 g3 g4 l0 l1 l2 u3 u4 hR0 hR1 hb5 HI4 HB4 HR4 HA4
      obtain ⟨to, hto⟩ : ∃ to, ay * wd + ax = to := ⟨_, rfl⟩
      rw [hto] at hnb ⊢
      clear hto hmul
      obtain ⟨_, hRB, hR0, hR1⟩ := HG.out.box _ _ HI5.out
      have g0 : W5.cell? ⟨RB, 0, none⟩ = some (.pointer (some ⟨RP, 0, none⟩)) := cell_of_heap hRB
      have g1 : W5.cell? ⟨RP, 0, none⟩ = some (.int .i64 wd) := hR0
      have g2 : W5.cell? ⟨RP, 1, none⟩ = some (.int .i64 hg) := hR1
      have g3 : W5.cell? ⟨AB, 0, none⟩ = some (.int .i64 ax) := cell_of_heap HA5.out
      have g4 : W5.cell? ⟨AB, 1, none⟩ = some (.int .i64 ay) := cell_of_heap HA5.out
      have u1 : IntKind.i64.wrap (wd - 1) = wd - 1 := IntWalk.i64_in _ (by omega)
      have u2 : IntKind.i64.wrap (hg - 1) = hg - 1 := IntWalk.i64_in _ (by omega)
      have hw1 := fun s W (h : Ints W s [ax]) => within_any 0 (wd - 1) [ax] s W (by simp) h
      have hw2 := fun s W (h : Ints W s [ay]) => within_any 0 (hg - 1) [ay] s W (by simp) h
      simp only [within_one] at hw1 hw2
      clear hRB hR0 hR1
      by_cases e1 : 0 ≤ ax ∧ ax ≤ wd - 1
      · rw [show (decide (0 ≤ ax) && decide (ax ≤ wd - 1)) = true by simp; omega] at hw1
        by_cases e2 : 0 ≤ ay ∧ ay ≤ hg - 1
        · rw [show (decide (0 ≤ ay) && decide (ay ≤ hg - 1)) = true by simp; omega] at hw2
          rw [if_pos ⟨e1, e2⟩] at hnb
          have HW1 := hid hw1
          have HW2 := hid hw2
          clear hw1 hw2 e2
          have HNB := hid hnb
          clear hnb e1
          repeat gi_step
          refine wpIn_wide.2 ?_
          refine wp_region_valsG W5 (bl_refl _) [57, 58, 59, 60, 61, 62, 63, 64, 65, 66, 67, 68, 69, 70, 71, 72, 73, 74, 75, 76, 77, 78, 79, 80] (fun seen u W => (seen 0 = true → u 57 = .pointer (some ⟨RP, 0, none⟩)) ∧
            (seen 1 = true → u 58 = .pointer (some ⟨RP, 0, none⟩)) ∧
            (seen 2 = true → u 59 = .pointer (some ⟨RP, 0, none⟩)) ∧
            (seen 3 = true → u 60 = .pointer (some ⟨RP, 0, none⟩)) ∧
            (seen 4 = true → u 61 = .int .i64 (wd)) ∧
            (seen 5 = true → u 62 = .int .i64 (wd - 1)) ∧
            (seen 6 = true → u 63 = .pointer (some ⟨AB, 0, none⟩)) ∧
            (seen 7 = true → u 64 = .int .i64 (ax)) ∧
            (seen 8 = true → RowAt W5.heap.size W (u 65) 3 #[.int .i64 (ax)]) ∧
            (seen 9 = true → u 66 = .bool true) ∧
            (seen 10 = true → u 67 = .bool false) ∧
            (seen 11 = true → u 68 = .bool false) ∧
            (seen 12 = true → u 69 = .pointer (some ⟨RP, 0, none⟩)) ∧
            (seen 13 = true → u 70 = .pointer (some ⟨RP, 0, none⟩)) ∧
            (seen 14 = true → u 71 = .pointer (some ⟨RP, 0, none⟩)) ∧
            (seen 15 = true → u 72 = .pointer (some ⟨RP, 1, none⟩)) ∧
            (seen 16 = true → u 73 = .int .i64 (hg)) ∧
            (seen 17 = true → u 74 = .int .i64 (hg - 1)) ∧
            (seen 18 = true → u 75 = .pointer (some ⟨AB, 1, none⟩)) ∧
            (seen 19 = true → u 76 = .int .i64 (ay)) ∧
            (seen 20 = true → RowAt W5.heap.size W (u 77) 3 #[.int .i64 (ay)]) ∧
            (seen 21 = true → u 78 = .bool true) ∧
            (seen 22 = true → u 79 = .bool false) ∧
            (seen 23 = true → u 80 = .bool false))
            (by kernel_rfl) (by kernel_rfl) (by kernel_rfl) (by simp) (by simp) ?_ ?_
          · intro i o ho seen a' w9 hb9 ⟨F0, F1, F2, F3, F4, F5, F6, F7, F8, F9, F10, F11, F12, F13, F14, F15, F16, F17, F18, F19, F20, F21, F22, F23⟩ hv hsi hdep
            have h0 : w9.cell? ⟨RB, 0, none⟩ = some (.pointer (some ⟨RP, 0, none⟩)) := cell_mono g0 hb9
            have h1 : w9.cell? ⟨RP, 0, none⟩ = some (.int .i64 wd) := cell_mono g1 hb9
            have h2 : w9.cell? ⟨RP, 1, none⟩ = some (.int .i64 hg) := cell_mono g2 hb9
            have h3 : w9.cell? ⟨AB, 0, none⟩ = some (.int .i64 ax) := cell_mono g3 hb9
            have h4 : w9.cell? ⟨AB, 1, none⟩ = some (.int .i64 ay) := cell_mono g4 hb9
            have l0 : RB < w9.heap.size := World.block_lt_of_cell? _ _ h0
            have l1 : RP < w9.heap.size := World.block_lt_of_cell? _ _ h1
            have l2 : AB < w9.heap.size := World.block_lt_of_cell? _ _ h3
            rcases i with _ | _ | _ | _ | _ | _ | _ | _ | _ | _ | _ | _ | _ | _ | _ | _ | _ | _ | _ | _ | _ | _ | _ | _ | i <;> simp only [List.getElem?_cons_zero, List.getElem?_cons_succ, List.getElem?_nil, Option.some.injEq, reduceCtorEq] at ho <;> subst ho
            · refine if_free rfl ?_
              have x2 := val_at (hv 2 (by simp))
              simp [valsOf] at x2
              refine wp_value (.pointer (some ⟨RP, 0, none⟩)) (w' := w9) (by simp [execOp, x2, go_sem, h0, h1, h2, h3, h4, l0, l1, l2, u1, u2]) ⟨_, rfl, hb9, ?_⟩
              exact ⟨by simp, by simpa using F1, by simpa using F2, by simpa using F3, by simpa using F4, by simpa using F5, by simpa using F6, by simpa using F7, by simpa using F8, by simpa using F9, by simpa using F10, by simpa using F11, by simpa using F12, by simpa using F13, by simpa using F14, by simpa using F15, by simpa using F16, by simpa using F17, by simpa using F18, by simpa using F19, by simpa using F20, by simpa using F21, by simpa using F22, by simpa using F23⟩
            · refine if_free rfl ?_
              have d0 := hdep ⟨0, .data⟩ (by simp) rfl
              have e0 := val_at (F0 d0)
              refine wp_value (.pointer (some ⟨RP, 0, none⟩)) (w' := w9) (by simp [execOp, e0, go_sem, h0, h1, h2, h3, h4, l0, l1, l2, u1, u2]) ⟨_, rfl, hb9, ?_⟩
              exact ⟨by simpa using F0, by simp, by simpa using F2, by simpa using F3, by simpa using F4, by simpa using F5, by simpa using F6, by simpa using F7, by simpa using F8, by simpa using F9, by simpa using F10, by simpa using F11, by simpa using F12, by simpa using F13, by simpa using F14, by simpa using F15, by simpa using F16, by simpa using F17, by simpa using F18, by simpa using F19, by simpa using F20, by simpa using F21, by simpa using F22, by simpa using F23⟩
            · refine if_free rfl ?_
              have d1 := hdep ⟨1, .data⟩ (by simp) rfl
              have e1 := val_at (F1 d1)
              refine wp_value (.pointer (some ⟨RP, 0, none⟩)) (w' := w9) (by simp [execOp, e1, go_sem, h0, h1, h2, h3, h4, l0, l1, l2, u1, u2]) ⟨_, rfl, hb9, ?_⟩
              exact ⟨by simpa using F0, by simpa using F1, by simp, by simpa using F3, by simpa using F4, by simpa using F5, by simpa using F6, by simpa using F7, by simpa using F8, by simpa using F9, by simpa using F10, by simpa using F11, by simpa using F12, by simpa using F13, by simpa using F14, by simpa using F15, by simpa using F16, by simpa using F17, by simpa using F18, by simpa using F19, by simpa using F20, by simpa using F21, by simpa using F22, by simpa using F23⟩
            · refine if_free rfl ?_
              have d2 := hdep ⟨2, .data⟩ (by simp) rfl
              have e2 := val_at (F2 d2)
              refine wp_value (.pointer (some ⟨RP, 0, none⟩)) (w' := w9) (by simp [execOp, e2, go_sem, h0, h1, h2, h3, h4, l0, l1, l2, u1, u2]) ⟨_, rfl, hb9, ?_⟩
              exact ⟨by simpa using F0, by simpa using F1, by simpa using F2, by simp, by simpa using F4, by simpa using F5, by simpa using F6, by simpa using F7, by simpa using F8, by simpa using F9, by simpa using F10, by simpa using F11, by simpa using F12, by simpa using F13, by simpa using F14, by simpa using F15, by simpa using F16, by simpa using F17, by simpa using F18, by simpa using F19, by simpa using F20, by simpa using F21, by simpa using F22, by simpa using F23⟩
            · refine if_free rfl ?_
              have d3 := hdep ⟨3, .data⟩ (by simp) rfl
              have e3 := val_at (F3 d3)
              refine wp_value (.int .i64 (wd)) (w' := w9) (by simp [execOp, e3, go_sem, h0, h1, h2, h3, h4, l0, l1, l2, u1, u2]) ⟨_, rfl, hb9, ?_⟩
              exact ⟨by simpa using F0, by simpa using F1, by simpa using F2, by simpa using F3, by simp, by simpa using F5, by simpa using F6, by simpa using F7, by simpa using F8, by simpa using F9, by simpa using F10, by simpa using F11, by simpa using F12, by simpa using F13, by simpa using F14, by simpa using F15, by simpa using F16, by simpa using F17, by simpa using F18, by simpa using F19, by simpa using F20, by simpa using F21, by simpa using F22, by simpa using F23⟩
            · refine if_free rfl ?_
              have d4 := hdep ⟨4, .data⟩ (by simp) rfl
              have e4 := val_at (F4 d4)
              refine wp_value (.int .i64 (wd - 1)) (w' := w9) (by simp [execOp, e4, go_sem, h0, h1, h2, h3, h4, l0, l1, l2, u1, u2]) ⟨_, rfl, hb9, ?_⟩
              exact ⟨by simpa using F0, by simpa using F1, by simpa using F2, by simpa using F3, by simpa using F4, by simp, by simpa using F6, by simpa using F7, by simpa using F8, by simpa using F9, by simpa using F10, by simpa using F11, by simpa using F12, by simpa using F13, by simpa using F14, by simpa using F15, by simpa using F16, by simpa using F17, by simpa using F18, by simpa using F19, by simpa using F20, by simpa using F21, by simpa using F22, by simpa using F23⟩
            · refine if_free rfl ?_
              have x7 := val_at (hv 7 (by simp))
              simp [valsOf] at x7
              refine wp_value (.pointer (some ⟨AB, 0, none⟩)) (w' := w9) (by simp [execOp, x7, go_sem, h0, h1, h2, h3, h4, l0, l1, l2, u1, u2]) ⟨_, rfl, hb9, ?_⟩
              exact ⟨by simpa using F0, by simpa using F1, by simpa using F2, by simpa using F3, by simpa using F4, by simpa using F5, by simp, by simpa using F7, by simpa using F8, by simpa using F9, by simpa using F10, by simpa using F11, by simpa using F12, by simpa using F13, by simpa using F14, by simpa using F15, by simpa using F16, by simpa using F17, by simpa using F18, by simpa using F19, by simpa using F20, by simpa using F21, by simpa using F22, by simpa using F23⟩
            · refine if_free rfl ?_
              have d6 := hdep ⟨6, .data⟩ (by simp) rfl
              have e6 := val_at (F6 d6)
              refine wp_value (.int .i64 (ax)) (w' := w9) (by simp [execOp, e6, go_sem, h0, h1, h2, h3, h4, l0, l1, l2, u1, u2]) ⟨_, rfl, hb9, ?_⟩
              exact ⟨by simpa using F0, by simpa using F1, by simpa using F2, by simpa using F3, by simpa using F4, by simpa using F5, by simpa using F6, by simp, by simpa using F8, by simpa using F9, by simpa using F10, by simpa using F11, by simpa using F12, by simpa using F13, by simpa using F14, by simpa using F15, by simpa using F16, by simpa using F17, by simpa using F18, by simpa using F19, by simpa using F20, by simpa using F21, by simpa using F22, by simpa using F23⟩
            · refine if_free rfl ?_
              have d7 := hdep ⟨7, .data⟩ (by simp) rfl
              have e7 := val_at (F7 d7)
              have hg : Below w9.heap.size w9 (w9.alloc (.cells #[.int .i64 (ax)] 3)) := bl_alloc (bl_refl _) _
              refine wp_value (.slice (some ⟨w9.heap.size, 0, none⟩) 1 1) (w' := w9.alloc (.cells #[.int .i64 (ax)] 3)) (by simp [execOp, e7, go_sem, h0, h1, h2, h3, h4, l0, l1, l2, u1, u2]) ⟨_, rfl, bl_trans hb9 hg, ?_⟩
              have hn : RowAt W5.heap.size (w9.alloc (.cells #[.int .i64 (ax)] 3)) (.slice (some ⟨w9.heap.size, 0, none⟩) 1 1) 3 #[.int .i64 (ax)] := RowAt.new (by have := hb9.size; omega)
              exact ⟨by simpa using F0, by simpa using F1, by simpa using F2, by simpa using F3, by simpa using F4, by simpa using F5, by simpa using F6, by simpa using F7, by simpa using hn, by simpa using F9, by simpa using F10, by simpa using F11, by simpa using F12, by simpa using F13, by simpa using F14, by simpa using F15, by simpa using F16, by simpa using F17, by simpa using F18, by simpa using F19, by simpa using fun h => (F20 h).mono hg, by simpa using F21, by simpa using F22, by simpa using F23⟩
            · refine if_free rfl ?_
              have d5 := hdep ⟨5, .data⟩ (by simp) rfl
              have e5 := val_at (F5 d5)
              have d8 := hdep ⟨8, .data⟩ (by simp) rfl
              obtain ⟨g8, r8, _, _⟩ := F8 d8
              have e8 := val_at r8
              obtain ⟨s65, hs65, hi65⟩ : ∃ s, valsOf a' 65 = s ∧ Ints w9 s [ax] := ⟨_, rfl, (F8 d8).ints⟩
              have e65 := val_at hs65
              refine wp_calls (f := 69) (args := #[.int .i64 0, .int .i64 (wd - 1), s65]) (w' := w9) (by simp [execOp, e5, e65, go_sem, valsOf]) (HW1.out s65 w9 hi65) ?_
              rintro e w10 ⟨rfl, hg⟩
              refine ⟨_, rfl, _, rfl, bl_trans hb9 hg, ?_⟩
              exact ⟨by simpa using F0, by simpa using F1, by simpa using F2, by simpa using F3, by simpa using F4, by simpa using F5, by simpa using F6, by simpa using F7, by simpa using fun h => (F8 h).mono hg, by simp, by simpa using F10, by simpa using F11, by simpa using F12, by simpa using F13, by simpa using F14, by simpa using F15, by simpa using F16, by simpa using F17, by simpa using F18, by simpa using F19, by simpa using fun h => (F20 h).mono hg, by simpa using F21, by simpa using F22, by simpa using F23⟩
            · refine if_free rfl ?_
              have d9 := hdep ⟨9, .data⟩ (by simp) rfl
              have e9 := val_at (F9 d9)
              refine wp_value (.bool false) (w' := w9) (by simp [execOp, e9, go_sem, h0, h1, h2, h3, h4, l0, l1, l2, u1, u2]) ⟨_, rfl, hb9, ?_⟩
              exact ⟨by simpa using F0, by simpa using F1, by simpa using F2, by simpa using F3, by simpa using F4, by simpa using F5, by simpa using F6, by simpa using F7, by simpa using F8, by simpa using F9, by simp, by simpa using F11, by simpa using F12, by simpa using F13, by simpa using F14, by simpa using F15, by simpa using F16, by simpa using F17, by simpa using F18, by simpa using F19, by simpa using F20, by simpa using F21, by simpa using F22, by simpa using F23⟩
            · refine if_free rfl ?_
              have d10 := hdep ⟨10, .data⟩ (by simp) rfl
              have e10 := val_at (F10 d10)
              refine wp_value (.bool false) (w' := w9) (by simp [execOp, e10, go_sem, h0, h1, h2, h3, h4, l0, l1, l2, u1, u2]) ⟨_, rfl, hb9, ?_⟩
              exact ⟨by simpa using F0, by simpa using F1, by simpa using F2, by simpa using F3, by simpa using F4, by simpa using F5, by simpa using F6, by simpa using F7, by simpa using F8, by simpa using F9, by simpa using F10, by simp, by simpa using F12, by simpa using F13, by simpa using F14, by simpa using F15, by simpa using F16, by simpa using F17, by simpa using F18, by simpa using F19, by simpa using F20, by simpa using F21, by simpa using F22, by simpa using F23⟩
            · have dg := hdep ⟨11, .guard⟩ (by simp) rfl
              refine if_wanted 11 68 false _ rfl rfl rfl (F11 dg) ?_
              have x2 := val_at (hv 2 (by simp))
              simp [valsOf] at x2
              refine wp_value (.pointer (some ⟨RP, 0, none⟩)) (w' := w9) (by simp [execOp, x2, go_sem, h0, h1, h2, h3, h4, l0, l1, l2, u1, u2]) ⟨_, rfl, hb9, ?_⟩
              exact ⟨by simpa using F0, by simpa using F1, by simpa using F2, by simpa using F3, by simpa using F4, by simpa using F5, by simpa using F6, by simpa using F7, by simpa using F8, by simpa using F9, by simpa using F10, by simpa using F11, by simp, by simpa using F13, by simpa using F14, by simpa using F15, by simpa using F16, by simpa using F17, by simpa using F18, by simpa using F19, by simpa using F20, by simpa using F21, by simpa using F22, by simpa using F23⟩
            · have dg := hdep ⟨11, .guard⟩ (by simp) rfl
              refine if_wanted 11 68 false _ rfl rfl rfl (F11 dg) ?_
              have d12 := hdep ⟨12, .data⟩ (by simp) rfl
              have e12 := val_at (F12 d12)
              refine wp_value (.pointer (some ⟨RP, 0, none⟩)) (w' := w9) (by simp [execOp, e12, go_sem, h0, h1, h2, h3, h4, l0, l1, l2, u1, u2]) ⟨_, rfl, hb9, ?_⟩
              exact ⟨by simpa using F0, by simpa using F1, by simpa using F2, by simpa using F3, by simpa using F4, by simpa using F5, by simpa using F6, by simpa using F7, by simpa using F8, by simpa using F9, by simpa using F10, by simpa using F11, by simpa using F12, by simp, by simpa using F14, by simpa using F15, by simpa using F16, by simpa using F17, by simpa using F18, by simpa using F19, by simpa using F20, by simpa using F21, by simpa using F22, by simpa using F23⟩
            · have dg := hdep ⟨11, .guard⟩ (by simp) rfl
              refine if_wanted 11 68 false _ rfl rfl rfl (F11 dg) ?_
              have d13 := hdep ⟨13, .data⟩ (by simp) rfl
              have e13 := val_at (F13 d13)
              refine wp_value (.pointer (some ⟨RP, 0, none⟩)) (w' := w9) (by simp [execOp, e13, go_sem, h0, h1, h2, h3, h4, l0, l1, l2, u1, u2]) ⟨_, rfl, hb9, ?_⟩
              exact ⟨by simpa using F0, by simpa using F1, by simpa using F2, by simpa using F3, by simpa using F4, by simpa using F5, by simpa using F6, by simpa using F7, by simpa using F8, by simpa using F9, by simpa using F10, by simpa using F11, by simpa using F12, by simpa using F13, by simp, by simpa using F15, by simpa using F16, by simpa using F17, by simpa using F18, by simpa using F19, by simpa using F20, by simpa using F21, by simpa using F22, by simpa using F23⟩
            · have dg := hdep ⟨11, .guard⟩ (by simp) rfl
              refine if_wanted 11 68 false _ rfl rfl rfl (F11 dg) ?_
              have d14 := hdep ⟨14, .data⟩ (by simp) rfl
              have e14 := val_at (F14 d14)
              refine wp_value (.pointer (some ⟨RP, 1, none⟩)) (w' := w9) (by simp [execOp, e14, go_sem, h0, h1, h2, h3, h4, l0, l1, l2, u1, u2]) ⟨_, rfl, hb9, ?_⟩
              exact ⟨by simpa using F0, by simpa using F1, by simpa using F2, by simpa using F3, by simpa using F4, by simpa using F5, by simpa using F6, by simpa using F7, by simpa using F8, by simpa using F9, by simpa using F10, by simpa using F11, by simpa using F12, by simpa using F13, by simpa using F14, by simp, by simpa using F16, by simpa using F17, by simpa using F18, by simpa using F19, by simpa using F20, by simpa using F21, by simpa using F22, by simpa using F23⟩
            · have dg := hdep ⟨11, .guard⟩ (by simp) rfl
              refine if_wanted 11 68 false _ rfl rfl rfl (F11 dg) ?_
              have d15 := hdep ⟨15, .data⟩ (by simp) rfl
              have e15 := val_at (F15 d15)
              refine wp_value (.int .i64 (hg)) (w' := w9) (by simp [execOp, e15, go_sem, h0, h1, h2, h3, h4, l0, l1, l2, u1, u2]) ⟨_, rfl, hb9, ?_⟩
              exact ⟨by simpa using F0, by simpa using F1, by simpa using F2, by simpa using F3, by simpa using F4, by simpa using F5, by simpa using F6, by simpa using F7, by simpa using F8, by simpa using F9, by simpa using F10, by simpa using F11, by simpa using F12, by simpa using F13, by simpa using F14, by simpa using F15, by simp, by simpa using F17, by simpa using F18, by simpa using F19, by simpa using F20, by simpa using F21, by simpa using F22, by simpa using F23⟩
            · have dg := hdep ⟨11, .guard⟩ (by simp) rfl
              refine if_wanted 11 68 false _ rfl rfl rfl (F11 dg) ?_
              have d16 := hdep ⟨16, .data⟩ (by simp) rfl
              have e16 := val_at (F16 d16)
              refine wp_value (.int .i64 (hg - 1)) (w' := w9) (by simp [execOp, e16, go_sem, h0, h1, h2, h3, h4, l0, l1, l2, u1, u2]) ⟨_, rfl, hb9, ?_⟩
              exact ⟨by simpa using F0, by simpa using F1, by simpa using F2, by simpa using F3, by simpa using F4, by simpa using F5, by simpa using F6, by simpa using F7, by simpa using F8, by simpa using F9, by simpa using F10, by simpa using F11, by simpa using F12, by simpa using F13, by simpa using F14, by simpa using F15, by simpa using F16, by simp, by simpa using F18, by simpa using F19, by simpa using F20, by simpa using F21, by simpa using F22, by simpa using F23⟩
            · have dg := hdep ⟨11, .guard⟩ (by simp) rfl
              refine if_wanted 11 68 false _ rfl rfl rfl (F11 dg) ?_
              have x7 := val_at (hv 7 (by simp))
              simp [valsOf] at x7
              refine wp_value (.pointer (some ⟨AB, 1, none⟩)) (w' := w9) (by simp [execOp, x7, go_sem, h0, h1, h2, h3, h4, l0, l1, l2, u1, u2]) ⟨_, rfl, hb9, ?_⟩
              exact ⟨by simpa using F0, by simpa using F1, by simpa using F2, by simpa using F3, by simpa using F4, by simpa using F5, by simpa using F6, by simpa using F7, by simpa using F8, by simpa using F9, by simpa using F10, by simpa using F11, by simpa using F12, by simpa using F13, by simpa using F14, by simpa using F15, by simpa using F16, by simpa using F17, by simp, by simpa using F19, by simpa using F20, by simpa using F21, by simpa using F22, by simpa using F23⟩
            · have dg := hdep ⟨11, .guard⟩ (by simp) rfl
              refine if_wanted 11 68 false _ rfl rfl rfl (F11 dg) ?_
              have d18 := hdep ⟨18, .data⟩ (by simp) rfl
              have e18 := val_at (F18 d18)
              refine wp_value (.int .i64 (ay)) (w' := w9) (by simp [execOp, e18, go_sem, h0, h1, h2, h3, h4, l0, l1, l2, u1, u2]) ⟨_, rfl, hb9, ?_⟩
              exact ⟨by simpa using F0, by simpa using F1, by simpa using F2, by simpa using F3, by simpa using F4, by simpa using F5, by simpa using F6, by simpa using F7, by simpa using F8, by simpa using F9, by simpa using F10, by simpa using F11, by simpa using F12, by simpa using F13, by simpa using F14, by simpa using F15, by simpa using F16, by simpa using F17, by simpa using F18, by simp, by simpa using F20, by simpa using F21, by simpa using F22, by simpa using F23⟩
            · have dg := hdep ⟨11, .guard⟩ (by simp) rfl
              refine if_wanted 11 68 false _ rfl rfl rfl (F11 dg) ?_
              have d19 := hdep ⟨19, .data⟩ (by simp) rfl
              have e19 := val_at (F19 d19)
              have hg : Below w9.heap.size w9 (w9.alloc (.cells #[.int .i64 (ay)] 3)) := bl_alloc (bl_refl _) _
              refine wp_value (.slice (some ⟨w9.heap.size, 0, none⟩) 1 1) (w' := w9.alloc (.cells #[.int .i64 (ay)] 3)) (by simp [execOp, e19, go_sem, h0, h1, h2, h3, h4, l0, l1, l2, u1, u2]) ⟨_, rfl, bl_trans hb9 hg, ?_⟩
              have hn : RowAt W5.heap.size (w9.alloc (.cells #[.int .i64 (ay)] 3)) (.slice (some ⟨w9.heap.size, 0, none⟩) 1 1) 3 #[.int .i64 (ay)] := RowAt.new (by have := hb9.size; omega)
              exact ⟨by simpa using F0, by simpa using F1, by simpa using F2, by simpa using F3, by simpa using F4, by simpa using F5, by simpa using F6, by simpa using F7, by simpa using fun h => (F8 h).mono hg, by simpa using F9, by simpa using F10, by simpa using F11, by simpa using F12, by simpa using F13, by simpa using F14, by simpa using F15, by simpa using F16, by simpa using F17, by simpa using F18, by simpa using F19, by simpa using hn, by simpa using F21, by simpa using F22, by simpa using F23⟩
            · have dg := hdep ⟨11, .guard⟩ (by simp) rfl
              refine if_wanted 11 68 false _ rfl rfl rfl (F11 dg) ?_
              have d17 := hdep ⟨17, .data⟩ (by simp) rfl
              have e17 := val_at (F17 d17)
              have d20 := hdep ⟨20, .data⟩ (by simp) rfl
              obtain ⟨g20, r20, _, _⟩ := F20 d20
              have e20 := val_at r20
              obtain ⟨s77, hs77, hi77⟩ : ∃ s, valsOf a' 77 = s ∧ Ints w9 s [ay] := ⟨_, rfl, (F20 d20).ints⟩
              have e77 := val_at hs77
              refine wp_calls (f := 69) (args := #[.int .i64 0, .int .i64 (hg - 1), s77]) (w' := w9) (by simp [execOp, e17, e77, go_sem, valsOf]) (HW2.out s77 w9 hi77) ?_
              rintro e w10 ⟨rfl, hg⟩
              refine ⟨_, rfl, _, rfl, bl_trans hb9 hg, ?_⟩
              exact ⟨by simpa using F0, by simpa using F1, by simpa using F2, by simpa using F3, by simpa using F4, by simpa using F5, by simpa using F6, by simpa using F7, by simpa using fun h => (F8 h).mono hg, by simpa using F9, by simpa using F10, by simpa using F11, by simpa using F12, by simpa using F13, by simpa using F14, by simpa using F15, by simpa using F16, by simpa using F17, by simpa using F18, by simpa using F19, by simpa using fun h => (F20 h).mono hg, by simp, by simpa using F22, by simpa using F23⟩
            · have dg := hdep ⟨11, .guard⟩ (by simp) rfl
              refine if_wanted 11 68 false _ rfl rfl rfl (F11 dg) ?_
              have d21 := hdep ⟨21, .data⟩ (by simp) rfl
              have e21 := val_at (F21 d21)
              refine wp_value (.bool false) (w' := w9) (by simp [execOp, e21, go_sem, h0, h1, h2, h3, h4, l0, l1, l2, u1, u2]) ⟨_, rfl, hb9, ?_⟩
              exact ⟨by simpa using F0, by simpa using F1, by simpa using F2, by simpa using F3, by simpa using F4, by simpa using F5, by simpa using F6, by simpa using F7, by simpa using F8, by simpa using F9, by simpa using F10, by simpa using F11, by simpa using F12, by simpa using F13, by simpa using F14, by simpa using F15, by simpa using F16, by simpa using F17, by simpa using F18, by simpa using F19, by simpa using F20, by simpa using F21, by simp, by simpa using F23⟩
            · refine if_free rfl ?_
              have d11 := hdep ⟨11, .data⟩ (by simp) rfl
              have e11 := val_at (F11 d11)
              have d22 := hdep ⟨22, .data⟩ (by simp) rfl
              have e22 := val_at (F22 d22)
              refine wp_value (.bool false) (w' := w9) (by simp [execOp, e11, e22, go_sem, h0, h1, h2, h3, h4, l0, l1, l2, u1, u2]) ⟨_, rfl, hb9, ?_⟩
              exact ⟨by simpa using F0, by simpa using F1, by simpa using F2, by simpa using F3, by simpa using F4, by simpa using F5, by simpa using F6, by simpa using F7, by simpa using F8, by simpa using F9, by simpa using F10, by simpa using F11, by simpa using F12, by simpa using F13, by simpa using F14, by simpa using F15, by simpa using F16, by simpa using F17, by simpa using F18, by simpa using F19, by simpa using F20, by simpa using F21, by simpa using F22, by simp⟩
          intro u w5 hb5 seen hall ⟨F0, F1, F2, F3, F4, F5, F6, F7, F8, F9, F10, F11, F12, F13, F14, F15, F16, F17, F18, F19, F20, F21, F22, F23⟩
          replace F0 := F0 (hall 0 (by decide))
          replace F1 := F1 (hall 1 (by decide))
          replace F2 := F2 (hall 2 (by decide))
          replace F3 := F3 (hall 3 (by decide))
          replace F4 := F4 (hall 4 (by decide))
          replace F5 := F5 (hall 5 (by decide))
          replace F6 := F6 (hall 6 (by decide))
          replace F7 := F7 (hall 7 (by decide))
          replace F8 := F8 (hall 8 (by decide))
          replace F9 := F9 (hall 9 (by decide))
          replace F10 := F10 (hall 10 (by decide))
          replace F11 := F11 (hall 11 (by decide))
          replace F12 := F12 (hall 12 (by decide))
          replace F13 := F13 (hall 13 (by decide))
          replace F14 := F14 (hall 14 (by decide))
          replace F15 := F15 (hall 15 (by decide))
          replace F16 := F16 (hall 16 (by decide))
          replace F17 := F17 (hall 17 (by decide))
          replace F18 := F18 (hall 18 (by decide))
          replace F19 := F19 (hall 19 (by decide))
          replace F20 := F20 (hall 20 (by decide))
          replace F21 := F21 (hall 21 (by decide))
          replace F22 := F22 (hall 22 (by decide))
          replace F23 := F23 (hall 23 (by decide))
          have HI6 := hid (HG.out.mono _ _ _ HI5.out hb5)
          have HB6 := hid (HBb.out _ _ HB5.out hb5)
          have HR6 := hid (heap_mono HR5.out hb5)
          simp only [setAll, F23, List.setIfInBounds_toArray, List.set_cons_zero, List.set_cons_succ]
          clear F0 F1 F2 F3 F4 F5 F6 F7 F8 F9 F10 F11 F12 F13 F14 F15 F16 F17 F18 F19 F20 F21 F22 F23 hall seen hb5 g0 g1 g2 g3 g4 u1 u2 HI5 HB5 HR5 HA5
          rw [HNB.out] at HPN HPR
          obtain ⟨fn, tmps, assign, body, hy, hR⟩ := HY.out _ ((k : Int), to) w5 HI6.out HB6.out HPN.out
          dsimp only at hy
          clear HNB
          gi_wp2
          refine hR.mono ?_
          rintro e W7 (⟨rfl, hI7, hB7, hK7⟩ | ⟨rfl, cc, hx7, hbx7⟩)
          · have hrow7 := hK7 KB _ HR6.out
            rw [← HPR.out] at hI7
            have HI7 := hid hI7
            clear hI7 hK7 hR hy HI6 HB6 HR6
            gi_wp2
            go_roundw
            case rel => exact ⟨k + 1, by omega, by go_num, HI7.out, hB7, hrow7⟩
            case measure => simp [intOf]; omega
          · clear hR hy HI6 HB6 HR6
            gi_wp2
            refine bodyPost_ret (results_none rfl _ _ _) rfl ?_
            exact ⟨⟨_, rfl⟩, .inr ⟨cc, _, hx7, hbx7⟩⟩
        · rw [show (decide (0 ≤ ay) && decide (ay ≤ hg - 1)) = false by rw [Bool.eq_false_iff]; intro h; simp at h; exact e2 h] at hw2
          rw [if_neg (fun h => e2 h.2)] at hnb
          have HW1 := hid hw1
          have HW2 := hid hw2
          clear hw1 hw2 e2
          have HNB := hid hnb
          clear hnb e1
          repeat gi_step
          refine wpIn_wide.2 ?_
          refine wp_region_valsG W5 (bl_refl _) [57, 58, 59, 60, 61, 62, 63, 64, 65, 66, 67, 68, 69, 70, 71, 72, 73, 74, 75, 76, 77, 78, 79, 80] (fun seen u W => (seen 0 = true → u 57 = .pointer (some ⟨RP, 0, none⟩)) ∧
            (seen 1 = true → u 58 = .pointer (some ⟨RP, 0, none⟩)) ∧
            (seen 2 = true → u 59 = .pointer (some ⟨RP, 0, none⟩)) ∧
            (seen 3 = true → u 60 = .pointer (some ⟨RP, 0, none⟩)) ∧
            (seen 4 = true → u 61 = .int .i64 (wd)) ∧
            (seen 5 = true → u 62 = .int .i64 (wd - 1)) ∧
            (seen 6 = true → u 63 = .pointer (some ⟨AB, 0, none⟩)) ∧
            (seen 7 = true → u 64 = .int .i64 (ax)) ∧
            (seen 8 = true → RowAt W5.heap.size W (u 65) 3 #[.int .i64 (ax)]) ∧
            (seen 9 = true → u 66 = .bool true) ∧
            (seen 10 = true → u 67 = .bool false) ∧
            (seen 11 = true → u 68 = .bool false) ∧
            (seen 12 = true → u 69 = .pointer (some ⟨RP, 0, none⟩)) ∧
            (seen 13 = true → u 70 = .pointer (some ⟨RP, 0, none⟩)) ∧
            (seen 14 = true → u 71 = .pointer (some ⟨RP, 0, none⟩)) ∧
            (seen 15 = true → u 72 = .pointer (some ⟨RP, 1, none⟩)) ∧
            (seen 16 = true → u 73 = .int .i64 (hg)) ∧
            (seen 17 = true → u 74 = .int .i64 (hg - 1)) ∧
            (seen 18 = true → u 75 = .pointer (some ⟨AB, 1, none⟩)) ∧
            (seen 19 = true → u 76 = .int .i64 (ay)) ∧
            (seen 20 = true → RowAt W5.heap.size W (u 77) 3 #[.int .i64 (ay)]) ∧
            (seen 21 = true → u 78 = .bool false) ∧
            (seen 22 = true → u 79 = .bool true) ∧
            (seen 23 = true → u 80 = .bool true))
            (by kernel_rfl) (by kernel_rfl) (by kernel_rfl) (by simp) (by simp) ?_ ?_
          · intro i o ho seen a' w9 hb9 ⟨F0, F1, F2, F3, F4, F5, F6, F7, F8, F9, F10, F11, F12, F13, F14, F15, F16, F17, F18, F19, F20, F21, F22, F23⟩ hv hsi hdep
            have h0 : w9.cell? ⟨RB, 0, none⟩ = some (.pointer (some ⟨RP, 0, none⟩)) := cell_mono g0 hb9
            have h1 : w9.cell? ⟨RP, 0, none⟩ = some (.int .i64 wd) := cell_mono g1 hb9
            have h2 : w9.cell? ⟨RP, 1, none⟩ = some (.int .i64 hg) := cell_mono g2 hb9
            have h3 : w9.cell? ⟨AB, 0, none⟩ = some (.int .i64 ax) := cell_mono g3 hb9
            have h4 : w9.cell? ⟨AB, 1, none⟩ = some (.int .i64 ay) := cell_mono g4 hb9
            have l0 : RB < w9.heap.size := World.block_lt_of_cell? _ _ h0
            have l1 : RP < w9.heap.size := World.block_lt_of_cell? _ _ h1
            have l2 : AB < w9.heap.size := World.block_lt_of_cell? _ _ h3
            rcases i with _ | _ | _ | _ | _ | _ | _ | _ | _ | _ | _ | _ | _ | _ | _ | _ | _ | _ | _ | _ | _ | _ | _ | _ | i <;> simp only [List.getElem?_cons_zero, List.getElem?_cons_succ, List.getElem?_nil, Option.some.injEq, reduceCtorEq] at ho <;> subst ho
            · refine if_free rfl ?_
              have x2 := val_at (hv 2 (by simp))
              simp [valsOf] at x2
              refine wp_value (.pointer (some ⟨RP, 0, none⟩)) (w' := w9) (by simp [execOp, x2, go_sem, h0, h1, h2, h3, h4, l0, l1, l2, u1, u2]) ⟨_, rfl, hb9, ?_⟩
              exact ⟨by simp, by simpa using F1, by simpa using F2, by simpa using F3, by simpa using F4, by simpa using F5, by simpa using F6, by simpa using F7, by simpa using F8, by simpa using F9, by simpa using F10, by simpa using F11, by simpa using F12, by simpa using F13, by simpa using F14, by simpa using F15, by simpa using F16, by simpa using F17, by simpa using F18, by simpa using F19, by simpa using F20, by simpa using F21, by simpa using F22, by simpa using F23⟩
            · refine if_free rfl ?_
              have d0 := hdep ⟨0, .data⟩ (by simp) rfl
              have e0 := val_at (F0 d0)
              refine wp_value (.pointer (some ⟨RP, 0, none⟩)) (w' := w9) (by simp [execOp, e0, go_sem, h0, h1, h2, h3, h4, l0, l1, l2, u1, u2]) ⟨_, rfl, hb9, ?_⟩
              exact ⟨by simpa using F0, by simp, by simpa using F2, by simpa using F3, by simpa using F4, by simpa using F5, by simpa using F6, by simpa using F7, by simpa using F8, by simpa using F9, by simpa using F10, by simpa using F11, by simpa using F12, by simpa using F13, by simpa using F14, by simpa using F15, by simpa using F16, by simpa using F17, by simpa using F18, by simpa using F19, by simpa using F20, by simpa using F21, by simpa using F22, by simpa using F23⟩
            · refine if_free rfl ?_
              have d1 := hdep ⟨1, .data⟩ (by simp) rfl
              have e1 := val_at (F1 d1)
              refine wp_value (.pointer (some ⟨RP, 0, none⟩)) (w' := w9) (by simp [execOp, e1, go_sem, h0, h1, h2, h3, h4, l0, l1, l2, u1, u2]) ⟨_, rfl, hb9, ?_⟩
              exact ⟨by simpa using F0, by simpa using F1, by simp, by simpa using F3, by simpa using F4, by simpa using F5, by simpa using F6, by simpa using F7, by simpa using F8, by simpa using F9, by simpa using F10, by simpa using F11, by simpa using F12, by simpa using F13, by simpa using F14, by simpa using F15, by simpa using F16, by simpa using F17, by simpa using F18, by simpa using F19, by simpa using F20, by simpa using F21, by simpa using F22, by simpa using F23⟩
            · refine if_free rfl ?_
              have d2 := hdep ⟨2, .data⟩ (by simp) rfl
              have e2 := val_at (F2 d2)
              refine wp_value (.pointer (some ⟨RP, 0, none⟩)) (w' := w9) (by simp [execOp, e2, go_sem, h0, h1, h2, h3, h4, l0, l1, l2, u1, u2]) ⟨_, rfl, hb9, ?_⟩
              exact ⟨by simpa using F0, by simpa using F1, by simpa using F2, by simp, by simpa using F4, by simpa using F5, by simpa using F6, by simpa using F7, by simpa using F8, by simpa using F9, by simpa using F10, by simpa using F11, by simpa using F12, by simpa using F13, by simpa using F14, by simpa using F15, by simpa using F16, by simpa using F17, by simpa using F18, by simpa using F19, by simpa using F20, by simpa using F21, by simpa using F22, by simpa using F23⟩
            · refine if_free rfl ?_
              have d3 := hdep ⟨3, .data⟩ (by simp) rfl
              have e3 := val_at (F3 d3)
              refine wp_value (.int .i64 (wd)) (w' := w9) (by simp [execOp, e3, go_sem, h0, h1, h2, h3, h4, l0, l1, l2, u1, u2]) ⟨_, rfl, hb9, ?_⟩
              exact ⟨by simpa using F0, by simpa using F1, by simpa using F2, by simpa using F3, by simp, by simpa using F5, by simpa using F6, by simpa using F7, by simpa using F8, by simpa using F9, by simpa using F10, by simpa using F11, by simpa using F12, by simpa using F13, by simpa using F14, by simpa using F15, by simpa using F16, by simpa using F17, by simpa using F18, by simpa using F19, by simpa using F20, by simpa using F21, by simpa using F22, by simpa using F23⟩
            · refine if_free rfl ?_
              have d4 := hdep ⟨4, .data⟩ (by simp) rfl
              have e4 := val_at (F4 d4)
              refine wp_value (.int .i64 (wd - 1)) (w' := w9) (by simp [execOp, e4, go_sem, h0, h1, h2, h3, h4, l0, l1, l2, u1, u2]) ⟨_, rfl, hb9, ?_⟩
              exact ⟨by simpa using F0, by simpa using F1, by simpa using F2, by simpa using F3, by simpa using F4, by simp, by simpa using F6, by simpa using F7, by simpa using F8, by simpa using F9, by simpa using F10, by simpa using F11, by simpa using F12, by simpa using F13, by simpa using F14, by simpa using F15, by simpa using F16, by simpa using F17, by simpa using F18, by simpa using F19, by simpa using F20, by simpa using F21, by simpa using F22, by simpa using F23⟩
            · refine if_free rfl ?_
              have x7 := val_at (hv 7 (by simp))
              simp [valsOf] at x7
              refine wp_value (.pointer (some ⟨AB, 0, none⟩)) (w' := w9) (by simp [execOp, x7, go_sem, h0, h1, h2, h3, h4, l0, l1, l2, u1, u2]) ⟨_, rfl, hb9, ?_⟩
              exact ⟨by simpa using F0, by simpa using F1, by simpa using F2, by simpa using F3, by simpa using F4, by simpa using F5, by simp, by simpa using F7, by simpa using F8, by simpa using F9, by simpa using F10, by simpa using F11, by simpa using F12, by simpa using F13, by simpa using F14, by simpa using F15, by simpa using F16, by simpa using F17, by simpa using F18, by simpa using F19, by simpa using F20, by simpa using F21, by simpa using F22, by simpa using F23⟩
            · refine if_free rfl ?_
              have d6 := hdep ⟨6, .data⟩ (by simp) rfl
              have e6 := val_at (F6 d6)
              refine wp_value (.int .i64 (ax)) (w' := w9) (by simp [execOp, e6, go_sem, h0, h1, h2, h3, h4, l0, l1, l2, u1, u2]) ⟨_, rfl, hb9, ?_⟩
              exact ⟨by simpa using F0, by simpa using F1, by simpa using F2, by simpa using F3, by simpa using F4, by simpa using F5, by simpa using F6, by simp, by simpa using F8, by simpa using F9, by simpa using F10, by simpa using F11, by simpa using F12, by simpa using F13, by simpa using F14, by simpa using F15, by simpa using F16, by simpa using F17, by simpa using F18, by simpa using F19, by simpa using F20, by simpa using F21, by simpa using F22, by simpa using F23⟩
            · refine if_free rfl ?_
              have d7 := hdep ⟨7, .data⟩ (by simp) rfl
              have e7 := val_at (F7 d7)
              have hg : Below w9.heap.size w9 (w9.alloc (.cells #[.int .i64 (ax)] 3)) := bl_alloc (bl_refl _) _
              refine wp_value (.slice (some ⟨w9.heap.size, 0, none⟩) 1 1) (w' := w9.alloc (.cells #[.int .i64 (ax)] 3)) (by simp [execOp, e7, go_sem, h0, h1, h2, h3, h4, l0, l1, l2, u1, u2]) ⟨_, rfl, bl_trans hb9 hg, ?_⟩
              have hn : RowAt W5.heap.size (w9.alloc (.cells #[.int .i64 (ax)] 3)) (.slice (some ⟨w9.heap.size, 0, none⟩) 1 1) 3 #[.int .i64 (ax)] := RowAt.new (by have := hb9.size; omega)
              exact ⟨by simpa using F0, by simpa using F1, by simpa using F2, by simpa using F3, by simpa using F4, by simpa using F5, by simpa using F6, by simpa using F7, by simpa using hn, by simpa using F9, by simpa using F10, by simpa using F11, by simpa using F12, by simpa using F13, by simpa using F14, by simpa using F15, by simpa using F16, by simpa using F17, by simpa using F18, by simpa using F19, by simpa using fun h => (F20 h).mono hg, by simpa using F21, by simpa using F22, by simpa using F23⟩
            · refine if_free rfl ?_
              have d5 := hdep ⟨5, .data⟩ (by simp) rfl
              have e5 := val_at (F5 d5)
              have d8 := hdep ⟨8, .data⟩ (by simp) rfl
              obtain ⟨g8, r8, _, _⟩ := F8 d8
              have e8 := val_at r8
              obtain ⟨s65, hs65, hi65⟩ : ∃ s, valsOf a' 65 = s ∧ Ints w9 s [ax] := ⟨_, rfl, (F8 d8).ints⟩
              have e65 := val_at hs65
              refine wp_calls (f := 69) (args := #[.int .i64 0, .int .i64 (wd - 1), s65]) (w' := w9) (by simp [execOp, e5, e65, go_sem, valsOf]) (HW1.out s65 w9 hi65) ?_
              rintro e w10 ⟨rfl, hg⟩
              refine ⟨_, rfl, _, rfl, bl_trans hb9 hg, ?_⟩
              exact ⟨by simpa using F0, by simpa using F1, by simpa using F2, by simpa using F3, by simpa using F4, by simpa using F5, by simpa using F6, by simpa using F7, by simpa using fun h => (F8 h).mono hg, by simp, by simpa using F10, by simpa using F11, by simpa using F12, by simpa using F13, by simpa using F14, by simpa using F15, by simpa using F16, by simpa using F17, by simpa using F18, by simpa using F19, by simpa using fun h => (F20 h).mono hg, by simpa using F21, by simpa using F22, by simpa using F23⟩
            · refine if_free rfl ?_
              have d9 := hdep ⟨9, .data⟩ (by simp) rfl
              have e9 := val_at (F9 d9)
              refine wp_value (.bool false) (w' := w9) (by simp [execOp, e9, go_sem, h0, h1, h2, h3, h4, l0, l1, l2, u1, u2]) ⟨_, rfl, hb9, ?_⟩
              exact ⟨by simpa using F0, by simpa using F1, by simpa using F2, by simpa using F3, by simpa using F4, by simpa using F5, by simpa using F6, by simpa using F7, by simpa using F8, by simpa using F9, by simp, by simpa using F11, by simpa using F12, by simpa using F13, by simpa using F14, by simpa using F15, by simpa using F16, by simpa using F17, by simpa using F18, by simpa using F19, by simpa using F20, by simpa using F21, by simpa using F22, by simpa using F23⟩
            · refine if_free rfl ?_
              have d10 := hdep ⟨10, .data⟩ (by simp) rfl
              have e10 := val_at (F10 d10)
              refine wp_value (.bool false) (w' := w9) (by simp [execOp, e10, go_sem, h0, h1, h2, h3, h4, l0, l1, l2, u1, u2]) ⟨_, rfl, hb9, ?_⟩
              exact ⟨by simpa using F0, by simpa using F1, by simpa using F2, by simpa using F3, by simpa using F4, by simpa using F5, by simpa using F6, by simpa using F7, by simpa using F8, by simpa using F9, by simpa using F10, by simp, by simpa using F12, by simpa using F13, by simpa using F14, by simpa using F15, by simpa using F16, by simpa using F17, by simpa using F18, by simpa using F19, by simpa using F20, by simpa using F21, by simpa using F22, by simpa using F23⟩
            · have dg := hdep ⟨11, .guard⟩ (by simp) rfl
              refine if_wanted 11 68 false _ rfl rfl rfl (F11 dg) ?_
              have x2 := val_at (hv 2 (by simp))
              simp [valsOf] at x2
              refine wp_value (.pointer (some ⟨RP, 0, none⟩)) (w' := w9) (by simp [execOp, x2, go_sem, h0, h1, h2, h3, h4, l0, l1, l2, u1, u2]) ⟨_, rfl, hb9, ?_⟩
              exact ⟨by simpa using F0, by simpa using F1, by simpa using F2, by simpa using F3, by simpa using F4, by simpa using F5, by simpa using F6, by simpa using F7, by simpa using F8, by simpa using F9, by simpa using F10, by simpa using F11, by simp, by simpa using F13, by simpa using F14, by simpa using F15, by simpa using F16, by simpa using F17, by simpa using F18, by simpa using F19, by simpa using F20, by simpa using F21, by simpa using F22, by simpa using F23⟩
            · have dg := hdep ⟨11, .guard⟩ (by simp) rfl
              refine if_wanted 11 68 false _ rfl rfl rfl (F11 dg) ?_
              have d12 := hdep ⟨12, .data⟩ (by simp) rfl
              have e12 := val_at (F12 d12)
              refine wp_value (.pointer (some ⟨RP, 0, none⟩)) (w' := w9) (by simp [execOp, e12, go_sem, h0, h1, h2, h3, h4, l0, l1, l2, u1, u2]) ⟨_, rfl, hb9, ?_⟩
              exact ⟨by simpa using F0, by simpa using F1, by simpa using F2, by simpa using F3, by simpa using F4, by simpa using F5, by simpa using F6, by simpa using F7, by simpa using F8, by simpa using F9, by simpa using F10, by simpa using F11, by simpa using F12, by simp, by simpa using F14, by simpa using F15, by simpa using F16, by simpa using F17, by simpa using F18, by simpa using F19, by simpa using F20, by simpa using F21, by simpa using F22, by simpa using F23⟩
            · have dg := hdep ⟨11, .guard⟩ (by simp) rfl
              refine if_wanted 11 68 false _ rfl rfl rfl (F11 dg) ?_
              have d13 := hdep ⟨13, .data⟩ (by simp) rfl
              have e13 := val_at (F13 d13)
              refine wp_value (.pointer (some ⟨RP, 0, none⟩)) (w' := w9) (by simp [execOp, e13, go_sem, h0, h1, h2, h3, h4, l0, l1, l2, u1, u2]) ⟨_, rfl, hb9, ?_⟩
              exact ⟨by simpa using F0, by simpa using F1, by simpa using F2, by simpa using F3, by simpa using F4, by simpa using F5, by simpa using F6, by simpa using F7, by simpa using F8, by simpa using F9, by simpa using F10, by simpa using F11, by simpa using F12, by simpa using F13, by simp, by simpa using F15, by simpa using F16, by simpa using F17, by simpa using F18, by simpa using F19, by simpa using F20, by simpa using F21, by simpa using F22, by simpa using F23⟩
            · have dg := hdep ⟨11, .guard⟩ (by simp) rfl
              refine if_wanted 11 68 false _ rfl rfl rfl (F11 dg) ?_
              have d14 := hdep ⟨14, .data⟩ (by simp) rfl
              have e14 := val_at (F14 d14)
              refine wp_value (.pointer (some ⟨RP, 1, none⟩)) (w' := w9) (by simp [execOp, e14, go_sem, h0, h1, h2, h3, h4, l0, l1, l2, u1, u2]) ⟨_, rfl, hb9, ?_⟩
              exact ⟨by simpa using F0, by simpa using F1, by simpa using F2, by simpa using F3, by simpa using F4, by simpa using F5, by simpa using F6, by simpa using F7, by simpa using F8, by simpa using F9, by simpa using F10, by simpa using F11, by simpa using F12, by simpa using F13, by simpa using F14, by simp, by simpa using F16, by simpa using F17, by simpa using F18, by simpa using F19, by simpa using F20, by simpa using F21, by simpa using F22, by simpa using F23⟩
            · have dg := hdep ⟨11, .guard⟩ (by simp) rfl
              refine if_wanted 11 68 false _ rfl rfl rfl (F11 dg) ?_
              have d15 := hdep ⟨15, .data⟩ (by simp) rfl
              have e15 := val_at (F15 d15)
              refine wp_value (.int .i64 (hg)) (w' := w9) (by simp [execOp, e15, go_sem, h0, h1, h2, h3, h4, l0, l1, l2, u1, u2]) ⟨_, rfl, hb9, ?_⟩
              exact ⟨by simpa using F0, by simpa using F1, by simpa using F2, by simpa using F3, by simpa using F4, by simpa using F5, by simpa using F6, by simpa using F7, by simpa using F8, by simpa using F9, by simpa using F10, by simpa using F11, by simpa using F12, by simpa using F13, by simpa using F14, by simpa using F15, by simp, by simpa using F17, by simpa using F18, by simpa using F19, by simpa using F20, by simpa using F21, by simpa using F22, by simpa using F23⟩
            · have dg := hdep ⟨11, .guard⟩ (by simp) rfl
              refine if_wanted 11 68 false _ rfl rfl rfl (F11 dg) ?_
              have d16 := hdep ⟨16, .data⟩ (by simp) rfl
              have e16 := val_at (F16 d16)
              refine wp_value (.int .i64 (hg - 1)) (w' := w9) (by simp [execOp, e16, go_sem, h0, h1, h2, h3, h4, l0, l1, l2, u1, u2]) ⟨_, rfl, hb9, ?_⟩
              exact ⟨by simpa using F0, by simpa using F1, by simpa using F2, by simpa using F3, by simpa using F4, by simpa using F5, by simpa using F6, by simpa using F7, by simpa using F8, by simpa using F9, by simpa using F10, by simpa using F11, by simpa using F12, by simpa using F13, by simpa using F14, by simpa using F15, by simpa using F16, by simp, by simpa using F18, by simpa using F19, by simpa using F20, by simpa using F21, by simpa using F22, by simpa using F23⟩
            · have dg := hdep ⟨11, .guard⟩ (by simp) rfl
              refine if_wanted 11 68 false _ rfl rfl rfl (F11 dg) ?_
              have x7 := val_at (hv 7 (by simp))
              simp [valsOf] at x7
              refine wp_value (.pointer (some ⟨AB, 1, none⟩)) (w' := w9) (by simp [execOp, x7, go_sem, h0, h1, h2, h3, h4, l0, l1, l2, u1, u2]) ⟨_, rfl, hb9, ?_⟩
              exact ⟨by simpa using F0, by simpa using F1, by simpa using F2, by simpa using F3, by simpa using F4, by simpa using F5, by simpa using F6, by simpa using F7, by simpa using F8, by simpa using F9, by simpa using F10, by simpa using F11, by simpa using F12, by simpa using F13, by simpa using F14, by simpa using F15, by simpa using F16, by simpa using F17, by simp, by simpa using F19, by simpa using F20, by simpa using F21, by simpa using F22, by simpa using F23⟩
            · have dg := hdep ⟨11, .guard⟩ (by simp) rfl
              refine if_wanted 11 68 false _ rfl rfl rfl (F11 dg) ?_
              have d18 := hdep ⟨18, .data⟩ (by simp) rfl
              have e18 := val_at (F18 d18)
              refine wp_value (.int .i64 (ay)) (w' := w9) (by simp [execOp, e18, go_sem, h0, h1, h2, h3, h4, l0, l1, l2, u1, u2]) ⟨_, rfl, hb9, ?_⟩
              exact ⟨by simpa using F0, by simpa using F1, by simpa using F2, by simpa using F3, by simpa using F4, by simpa using F5, by simpa using F6, by simpa using F7, by simpa using F8, by simpa using F9, by simpa using F10, by simpa using F11, by simpa using F12, by simpa using F13, by simpa using F14, by simpa using F15, by simpa using F16, by simpa using F17, by simpa using F18, by simp, by simpa using F20, by simpa using F21, by simpa using F22, by simpa using F23⟩
            · have dg := hdep ⟨11, .guard⟩ (by simp) rfl
              refine if_wanted 11 68 false _ rfl rfl rfl (F11 dg) ?_
              have d19 := hdep ⟨19, .data⟩ (by simp) rfl
              have e19 := val_at (F19 d19)
              have hg : Below w9.heap.size w9 (w9.alloc (.cells #[.int .i64 (ay)] 3)) := bl_alloc (bl_refl _) _
              refine wp_value (.slice (some ⟨w9.heap.size, 0, none⟩) 1 1) (w' := w9.alloc (.cells #[.int .i64 (ay)] 3)) (by simp [execOp, e19, go_sem, h0, h1, h2, h3, h4, l0, l1, l2, u1, u2]) ⟨_, rfl, bl_trans hb9 hg, ?_⟩
              have hn : RowAt W5.heap.size (w9.alloc (.cells #[.int .i64 (ay)] 3)) (.slice (some ⟨w9.heap.size, 0, none⟩) 1 1) 3 #[.int .i64 (ay)] := RowAt.new (by have := hb9.size; omega)
              exact ⟨by simpa using F0, by simpa using F1, by simpa using F2, by simpa using F3, by simpa using F4, by simpa using F5, by simpa using F6, by simpa using F7, by simpa using fun h => (F8 h).mono hg, by simpa using F9, by simpa using F10, by simpa using F11, by simpa using F12, by simpa using F13, by simpa using F14, by simpa using F15, by simpa using F16, by simpa using F17, by simpa using F18, by simpa using F19, by simpa using hn, by simpa using F21, by simpa using F22, by simpa using F23⟩
            · have dg := hdep ⟨11, .guard⟩ (by simp) rfl
              refine if_wanted 11 68 false _ rfl rfl rfl (F11 dg) ?_
              have d17 := hdep ⟨17, .data⟩ (by simp) rfl
              have e17 := val_at (F17 d17)
              have d20 := hdep ⟨20, .data⟩ (by simp) rfl
              obtain ⟨g20, r20, _, _⟩ := F20 d20
              have e20 := val_at r20
              obtain ⟨s77, hs77, hi77⟩ : ∃ s, valsOf a' 77 = s ∧ Ints w9 s [ay] := ⟨_, rfl, (F20 d20).ints⟩
              have e77 := val_at hs77
              refine wp_calls (f := 69) (args := #[.int .i64 0, .int .i64 (hg - 1), s77]) (w' := w9) (by simp [execOp, e17, e77, go_sem, valsOf]) (HW2.out s77 w9 hi77) ?_
              rintro e w10 ⟨rfl, hg⟩
              refine ⟨_, rfl, _, rfl, bl_trans hb9 hg, ?_⟩
              exact ⟨by simpa using F0, by simpa using F1, by simpa using F2, by simpa using F3, by simpa using F4, by simpa using F5, by simpa using F6, by simpa using F7, by simpa using fun h => (F8 h).mono hg, by simpa using F9, by simpa using F10, by simpa using F11, by simpa using F12, by simpa using F13, by simpa using F14, by simpa using F15, by simpa using F16, by simpa using F17, by simpa using F18, by simpa using F19, by simpa using fun h => (F20 h).mono hg, by simp, by simpa using F22, by simpa using F23⟩
            · have dg := hdep ⟨11, .guard⟩ (by simp) rfl
              refine if_wanted 11 68 false _ rfl rfl rfl (F11 dg) ?_
              have d21 := hdep ⟨21, .data⟩ (by simp) rfl
              have e21 := val_at (F21 d21)
              refine wp_value (.bool true) (w' := w9) (by simp [execOp, e21, go_sem, h0, h1, h2, h3, h4, l0, l1, l2, u1, u2]) ⟨_, rfl, hb9, ?_⟩
              exact ⟨by simpa using F0, by simpa using F1, by simpa using F2, by simpa using F3, by simpa using F4, by simpa using F5, by simpa using F6, by simpa using F7, by simpa using F8, by simpa using F9, by simpa using F10, by simpa using F11, by simpa using F12, by simpa using F13, by simpa using F14, by simpa using F15, by simpa using F16, by simpa using F17, by simpa using F18, by simpa using F19, by simpa using F20, by simpa using F21, by simp, by simpa using F23⟩
            · refine if_free rfl ?_
              have d11 := hdep ⟨11, .data⟩ (by simp) rfl
              have e11 := val_at (F11 d11)
              have d22 := hdep ⟨22, .data⟩ (by simp) rfl
              have e22 := val_at (F22 d22)
              refine wp_value (.bool true) (w' := w9) (by simp [execOp, e11, e22, go_sem, h0, h1, h2, h3, h4, l0, l1, l2, u1, u2]) ⟨_, rfl, hb9, ?_⟩
              exact ⟨by simpa using F0, by simpa using F1, by simpa using F2, by simpa using F3, by simpa using F4, by simpa using F5, by simpa using F6, by simpa using F7, by simpa using F8, by simpa using F9, by simpa using F10, by simpa using F11, by simpa using F12, by simpa using F13, by simpa using F14, by simpa using F15, by simpa using F16, by simpa using F17, by simpa using F18, by simpa using F19, by simpa using F20, by simpa using F21, by simpa using F22, by simp⟩
          intro u w5 hb5 seen hall ⟨F0, F1, F2, F3, F4, F5, F6, F7, F8, F9, F10, F11, F12, F13, F14, F15, F16, F17, F18, F19, F20, F21, F22, F23⟩
          replace F0 := F0 (hall 0 (by decide))
          replace F1 := F1 (hall 1 (by decide))
          replace F2 := F2 (hall 2 (by decide))
          replace F3 := F3 (hall 3 (by decide))
          replace F4 := F4 (hall 4 (by decide))
          replace F5 := F5 (hall 5 (by decide))
          replace F6 := F6 (hall 6 (by decide))
          replace F7 := F7 (hall 7 (by decide))
          replace F8 := F8 (hall 8 (by decide))
          replace F9 := F9 (hall 9 (by decide))
          replace F10 := F10 (hall 10 (by decide))
          replace F11 := F11 (hall 11 (by decide))
          replace F12 := F12 (hall 12 (by decide))
          replace F13 := F13 (hall 13 (by decide))
          replace F14 := F14 (hall 14 (by decide))
          replace F15 := F15 (hall 15 (by decide))
          replace F16 := F16 (hall 16 (by decide))
          replace F17 := F17 (hall 17 (by decide))
          replace F18 := F18 (hall 18 (by decide))
          replace F19 := F19 (hall 19 (by decide))
          replace F20 := F20 (hall 20 (by decide))
          replace F21 := F21 (hall 21 (by decide))
          replace F22 := F22 (hall 22 (by decide))
          replace F23 := F23 (hall 23 (by decide))
          have HI6 := hid (HG.out.mono _ _ _ HI5.out hb5)
          have HB6 := hid (HBb.out _ _ HB5.out hb5)
          have HR6 := hid (heap_mono HR5.out hb5)
          simp only [setAll, F23, List.setIfInBounds_toArray, List.set_cons_zero, List.set_cons_succ]
          clear F0 F1 F2 F3 F4 F5 F6 F7 F8 F9 F10 F11 F12 F13 F14 F15 F16 F17 F18 F19 F20 F21 F22 F23 hall seen hb5 g0 g1 g2 g3 g4 u1 u2 HI5 HB5 HR5 HA5
          rw [HNB.out] at HPN HPR
          obtain ⟨fn, tmps, assign, body, hy, hR⟩ := HY.out _ ((k : Int), (-1)) w5 HI6.out HB6.out HPN.out
          dsimp only at hy
          clear HNB
          gi_wp2
          refine hR.mono ?_
          rintro e W7 (⟨rfl, hI7, hB7, hK7⟩ | ⟨rfl, cc, hx7, hbx7⟩)
          · have hrow7 := hK7 KB _ HR6.out
            rw [← HPR.out] at hI7
            have HI7 := hid hI7
            clear hI7 hK7 hR hy HI6 HB6 HR6
            gi_wp2
            go_roundw
            case rel => exact ⟨k + 1, by omega, by go_num, HI7.out, hB7, hrow7⟩
            case measure => simp [intOf]; omega
          · clear hR hy HI6 HB6 HR6
            gi_wp2
            refine bodyPost_ret (results_none rfl _ _ _) rfl ?_
            exact ⟨⟨_, rfl⟩, .inr ⟨cc, _, hx7, hbx7⟩⟩
      · rw [show (decide (0 ≤ ax) && decide (ax ≤ wd - 1)) = false by rw [Bool.eq_false_iff]; intro h; simp at h; exact e1 h] at hw1
        rw [if_neg (fun h => e1 h.1)] at hnb
        have HW1 := hid hw1
        clear hw1 hw2
        have HNB := hid hnb
        clear hnb e1
        repeat gi_step
        refine wpIn_wide.2 ?_
        refine wp_region_valsG W5 (bl_refl _) [57, 58, 59, 60, 61, 62, 63, 64, 65, 66, 67, 68, 69, 70, 71, 72, 73, 74, 75, 76, 77, 78, 79, 80] (fun seen u W => (seen 0 = true → u 57 = .pointer (some ⟨RP, 0, none⟩)) ∧
          (seen 1 = true → u 58 = .pointer (some ⟨RP, 0, none⟩)) ∧
          (seen 2 = true → u 59 = .pointer (some ⟨RP, 0, none⟩)) ∧
          (seen 3 = true → u 60 = .pointer (some ⟨RP, 0, none⟩)) ∧
          (seen 4 = true → u 61 = .int .i64 (wd)) ∧
          (seen 5 = true → u 62 = .int .i64 (wd - 1)) ∧
          (seen 6 = true → u 63 = .pointer (some ⟨AB, 0, none⟩)) ∧
          (seen 7 = true → u 64 = .int .i64 (ax)) ∧
          (seen 8 = true → RowAt W5.heap.size W (u 65) 3 #[.int .i64 (ax)]) ∧
          (seen 9 = true → u 66 = .bool false) ∧
          (seen 10 = true → u 67 = .bool true) ∧
          (seen 11 = true → u 68 = .bool true) ∧
          (seen 12 = true → True) ∧
          (seen 13 = true → True) ∧
          (seen 14 = true → True) ∧
          (seen 15 = true → True) ∧
          (seen 16 = true → True) ∧
          (seen 17 = true → True) ∧
          (seen 18 = true → True) ∧
          (seen 19 = true → True) ∧
          (seen 20 = true → True) ∧
          (seen 21 = true → True) ∧
          (seen 22 = true → True) ∧
          (seen 23 = true → u 80 = .bool true))
          (by kernel_rfl) (by kernel_rfl) (by kernel_rfl) (by simp) (by simp) ?_ ?_
        · intro i o ho seen a' w9 hb9 ⟨F0, F1, F2, F3, F4, F5, F6, F7, F8, F9, F10, F11, F12, F13, F14, F15, F16, F17, F18, F19, F20, F21, F22, F23⟩ hv hsi hdep
          have h0 : w9.cell? ⟨RB, 0, none⟩ = some (.pointer (some ⟨RP, 0, none⟩)) := cell_mono g0 hb9
          have h1 : w9.cell? ⟨RP, 0, none⟩ = some (.int .i64 wd) := cell_mono g1 hb9
          have h2 : w9.cell? ⟨RP, 1, none⟩ = some (.int .i64 hg) := cell_mono g2 hb9
          have h3 : w9.cell? ⟨AB, 0, none⟩ = some (.int .i64 ax) := cell_mono g3 hb9
          have h4 : w9.cell? ⟨AB, 1, none⟩ = some (.int .i64 ay) := cell_mono g4 hb9
          have l0 : RB < w9.heap.size := World.block_lt_of_cell? _ _ h0
          have l1 : RP < w9.heap.size := World.block_lt_of_cell? _ _ h1
          have l2 : AB < w9.heap.size := World.block_lt_of_cell? _ _ h3
          rcases i with _ | _ | _ | _ | _ | _ | _ | _ | _ | _ | _ | _ | _ | _ | _ | _ | _ | _ | _ | _ | _ | _ | _ | _ | i <;> simp only [List.getElem?_cons_zero, List.getElem?_cons_succ, List.getElem?_nil, Option.some.injEq, reduceCtorEq] at ho <;> subst ho
          · refine if_free rfl ?_
            have x2 := val_at (hv 2 (by simp))
            simp [valsOf] at x2
            refine wp_value (.pointer (some ⟨RP, 0, none⟩)) (w' := w9) (by simp [execOp, x2, go_sem, h0, h1, h2, h3, h4, l0, l1, l2, u1, u2]) ⟨_, rfl, hb9, ?_⟩
            exact ⟨by simp, by simpa using F1, by simpa using F2, by simpa using F3, by simpa using F4, by simpa using F5, by simpa using F6, by simpa using F7, by simpa using F8, by simpa using F9, by simpa using F10, by simpa using F11, by simpa using F12, by simpa using F13, by simpa using F14, by simpa using F15, by simpa using F16, by simpa using F17, by simpa using F18, by simpa using F19, by simpa using F20, by simpa using F21, by simpa using F22, by simpa using F23⟩
          · refine if_free rfl ?_
            have d0 := hdep ⟨0, .data⟩ (by simp) rfl
            have e0 := val_at (F0 d0)
            refine wp_value (.pointer (some ⟨RP, 0, none⟩)) (w' := w9) (by simp [execOp, e0, go_sem, h0, h1, h2, h3, h4, l0, l1, l2, u1, u2]) ⟨_, rfl, hb9, ?_⟩
            exact ⟨by simpa using F0, by simp, by simpa using F2, by simpa using F3, by simpa using F4, by simpa using F5, by simpa using F6, by simpa using F7, by simpa using F8, by simpa using F9, by simpa using F10, by simpa using F11, by simpa using F12, by simpa using F13, by simpa using F14, by simpa using F15, by simpa using F16, by simpa using F17, by simpa using F18, by simpa using F19, by simpa using F20, by simpa using F21, by simpa using F22, by simpa using F23⟩
          · refine if_free rfl ?_
            have d1 := hdep ⟨1, .data⟩ (by simp) rfl
            have e1 := val_at (F1 d1)
            refine wp_value (.pointer (some ⟨RP, 0, none⟩)) (w' := w9) (by simp [execOp, e1, go_sem, h0, h1, h2, h3, h4, l0, l1, l2, u1, u2]) ⟨_, rfl, hb9, ?_⟩
            exact ⟨by simpa using F0, by simpa using F1, by simp, by simpa using F3, by simpa using F4, by simpa using F5, by simpa using F6, by simpa using F7, by simpa using F8, by simpa using F9, by simpa using F10, by simpa using F11, by simpa using F12, by simpa using F13, by simpa using F14, by simpa using F15, by simpa using F16, by simpa using F17, by simpa using F18, by simpa using F19, by simpa using F20, by simpa using F21, by simpa using F22, by simpa using F23⟩
          · refine if_free rfl ?_
            have d2 := hdep ⟨2, .data⟩ (by simp) rfl
            have e2 := val_at (F2 d2)
            refine wp_value (.pointer (some ⟨RP, 0, none⟩)) (w' := w9) (by simp [execOp, e2, go_sem, h0, h1, h2, h3, h4, l0, l1, l2, u1, u2]) ⟨_, rfl, hb9, ?_⟩
            exact ⟨by simpa using F0, by simpa using F1, by simpa using F2, by simp, by simpa using F4, by simpa using F5, by simpa using F6, by simpa using F7, by simpa using F8, by simpa using F9, by simpa using F10, by simpa using F11, by simpa using F12, by simpa using F13, by simpa using F14, by simpa using F15, by simpa using F16, by simpa using F17, by simpa using F18, by simpa using F19, by simpa using F20, by simpa using F21, by simpa using F22, by simpa using F23⟩
          · refine if_free rfl ?_
            have d3 := hdep ⟨3, .data⟩ (by simp) rfl
            have e3 := val_at (F3 d3)
            refine wp_value (.int .i64 (wd)) (w' := w9) (by simp [execOp, e3, go_sem, h0, h1, h2, h3, h4, l0, l1, l2, u1, u2]) ⟨_, rfl, hb9, ?_⟩
            exact ⟨by simpa using F0, by simpa using F1, by simpa using F2, by simpa using F3, by simp, by simpa using F5, by simpa using F6, by simpa using F7, by simpa using F8, by simpa using F9, by simpa using F10, by simpa using F11, by simpa using F12, by simpa using F13, by simpa using F14, by simpa using F15, by simpa using F16, by simpa using F17, by simpa using F18, by simpa using F19, by simpa using F20, by simpa using F21, by simpa using F22, by simpa using F23⟩
          · refine if_free rfl ?_
            have d4 := hdep ⟨4, .data⟩ (by simp) rfl
            have e4 := val_at (F4 d4)
            refine wp_value (.int .i64 (wd - 1)) (w' := w9) (by simp [execOp, e4, go_sem, h0, h1, h2, h3, h4, l0, l1, l2, u1, u2]) ⟨_, rfl, hb9, ?_⟩
            exact ⟨by simpa using F0, by simpa using F1, by simpa using F2, by simpa using F3, by simpa using F4, by simp, by simpa using F6, by simpa using F7, by simpa using F8, by simpa using F9, by simpa using F10, by simpa using F11, by simpa using F12, by simpa using F13, by simpa using F14, by simpa using F15, by simpa using F16, by simpa using F17, by simpa using F18, by simpa using F19, by simpa using F20, by simpa using F21, by simpa using F22, by simpa using F23⟩
          · refine if_free rfl ?_
            have x7 := val_at (hv 7 (by simp))
            simp [valsOf] at x7
            refine wp_value (.pointer (some ⟨AB, 0, none⟩)) (w' := w9) (by simp [execOp, x7, go_sem, h0, h1, h2, h3, h4, l0, l1, l2, u1, u2]) ⟨_, rfl, hb9, ?_⟩
            exact ⟨by simpa using F0, by simpa using F1, by simpa using F2, by simpa using F3, by simpa using F4, by simpa using F5, by simp, by simpa using F7, by simpa using F8, by simpa using F9, by simpa using F10, by simpa using F11, by simpa using F12, by simpa using F13, by simpa using F14, by simpa using F15, by simpa using F16, by simpa using F17, by simpa using F18, by simpa using F19, by simpa using F20, by simpa using F21, by simpa using F22, by simpa using F23⟩
          · refine if_free rfl ?_
            have d6 := hdep ⟨6, .data⟩ (by simp) rfl
            have e6 := val_at (F6 d6)
            refine wp_value (.int .i64 (ax)) (w' := w9) (by simp [execOp, e6, go_sem, h0, h1, h2, h3, h4, l0, l1, l2, u1, u2]) ⟨_, rfl, hb9, ?_⟩
            exact ⟨by simpa using F0, by simpa using F1, by simpa using F2, by simpa using F3, by simpa using F4, by simpa using F5, by simpa using F6, by simp, by simpa using F8, by simpa using F9, by simpa using F10, by simpa using F11, by simpa using F12, by simpa using F13, by simpa using F14, by simpa using F15, by simpa using F16, by simpa using F17, by simpa using F18, by simpa using F19, by simpa using F20, by simpa using F21, by simpa using F22, by simpa using F23⟩
          · refine if_free rfl ?_
            have d7 := hdep ⟨7, .data⟩ (by simp) rfl
            have e7 := val_at (F7 d7)
            have hg : Below w9.heap.size w9 (w9.alloc (.cells #[.int .i64 (ax)] 3)) := bl_alloc (bl_refl _) _
            refine wp_value (.slice (some ⟨w9.heap.size, 0, none⟩) 1 1) (w' := w9.alloc (.cells #[.int .i64 (ax)] 3)) (by simp [execOp, e7, go_sem, h0, h1, h2, h3, h4, l0, l1, l2, u1, u2]) ⟨_, rfl, bl_trans hb9 hg, ?_⟩
            have hn : RowAt W5.heap.size (w9.alloc (.cells #[.int .i64 (ax)] 3)) (.slice (some ⟨w9.heap.size, 0, none⟩) 1 1) 3 #[.int .i64 (ax)] := RowAt.new (by have := hb9.size; omega)
            exact ⟨by simpa using F0, by simpa using F1, by simpa using F2, by simpa using F3, by simpa using F4, by simpa using F5, by simpa using F6, by simpa using F7, by simpa using hn, by simpa using F9, by simpa using F10, by simpa using F11, by simpa using F12, by simpa using F13, by simpa using F14, by simpa using F15, by simpa using F16, by simpa using F17, by simpa using F18, by simpa using F19, by simpa using F20, by simpa using F21, by simpa using F22, by simpa using F23⟩
          · refine if_free rfl ?_
            have d5 := hdep ⟨5, .data⟩ (by simp) rfl
            have e5 := val_at (F5 d5)
            have d8 := hdep ⟨8, .data⟩ (by simp) rfl
            obtain ⟨g8, r8, _, _⟩ := F8 d8
            have e8 := val_at r8
            obtain ⟨s65, hs65, hi65⟩ : ∃ s, valsOf a' 65 = s ∧ Ints w9 s [ax] := ⟨_, rfl, (F8 d8).ints⟩
            have e65 := val_at hs65
            refine wp_calls (f := 69) (args := #[.int .i64 0, .int .i64 (wd - 1), s65]) (w' := w9) (by simp [execOp, e5, e65, go_sem, valsOf]) (HW1.out s65 w9 hi65) ?_
            rintro e w10 ⟨rfl, hg⟩
            refine ⟨_, rfl, _, rfl, bl_trans hb9 hg, ?_⟩
            exact ⟨by simpa using F0, by simpa using F1, by simpa using F2, by simpa using F3, by simpa using F4, by simpa using F5, by simpa using F6, by simpa using F7, by simpa using fun h => (F8 h).mono hg, by simp, by simpa using F10, by simpa using F11, by simpa using F12, by simpa using F13, by simpa using F14, by simpa using F15, by simpa using F16, by simpa using F17, by simpa using F18, by simpa using F19, by simpa using F20, by simpa using F21, by simpa using F22, by simpa using F23⟩
          · refine if_free rfl ?_
            have d9 := hdep ⟨9, .data⟩ (by simp) rfl
            have e9 := val_at (F9 d9)
            refine wp_value (.bool true) (w' := w9) (by simp [execOp, e9, go_sem, h0, h1, h2, h3, h4, l0, l1, l2, u1, u2]) ⟨_, rfl, hb9, ?_⟩
            exact ⟨by simpa using F0, by simpa using F1, by simpa using F2, by simpa using F3, by simpa using F4, by simpa using F5, by simpa using F6, by simpa using F7, by simpa using F8, by simpa using F9, by simp, by simpa using F11, by simpa using F12, by simpa using F13, by simpa using F14, by simpa using F15, by simpa using F16, by simpa using F17, by simpa using F18, by simpa using F19, by simpa using F20, by simpa using F21, by simpa using F22, by simpa using F23⟩
          · refine if_free rfl ?_
            have d10 := hdep ⟨10, .data⟩ (by simp) rfl
            have e10 := val_at (F10 d10)
            refine wp_value (.bool true) (w' := w9) (by simp [execOp, e10, go_sem, h0, h1, h2, h3, h4, l0, l1, l2, u1, u2]) ⟨_, rfl, hb9, ?_⟩
            exact ⟨by simpa using F0, by simpa using F1, by simpa using F2, by simpa using F3, by simpa using F4, by simpa using F5, by simpa using F6, by simpa using F7, by simpa using F8, by simpa using F9, by simpa using F10, by simp, by simpa using F12, by simpa using F13, by simpa using F14, by simpa using F15, by simpa using F16, by simpa using F17, by simpa using F18, by simpa using F19, by simpa using F20, by simpa using F21, by simpa using F22, by simpa using F23⟩
          · have dg := hdep ⟨11, .guard⟩ (by simp) rfl
            refine if_skip 11 68 false _ rfl rfl rfl (F11 dg) ?_
            exact ⟨by simpa using F0, by simpa using F1, by simpa using F2, by simpa using F3, by simpa using F4, by simpa using F5, by simpa using F6, by simpa using F7, by simpa using F8, by simpa using F9, by simpa using F10, by simpa using F11, by simp, by simpa using F13, by simpa using F14, by simpa using F15, by simpa using F16, by simpa using F17, by simpa using F18, by simpa using F19, by simpa using F20, by simpa using F21, by simpa using F22, by simpa using F23⟩
          · have dg := hdep ⟨11, .guard⟩ (by simp) rfl
            refine if_skip 11 68 false _ rfl rfl rfl (F11 dg) ?_
            exact ⟨by simpa using F0, by simpa using F1, by simpa using F2, by simpa using F3, by simpa using F4, by simpa using F5, by simpa using F6, by simpa using F7, by simpa using F8, by simpa using F9, by simpa using F10, by simpa using F11, by simpa using F12, by simp, by simpa using F14, by simpa using F15, by simpa using F16, by simpa using F17, by simpa using F18, by simpa using F19, by simpa using F20, by simpa using F21, by simpa using F22, by simpa using F23⟩
          · have dg := hdep ⟨11, .guard⟩ (by simp) rfl
            refine if_skip 11 68 false _ rfl rfl rfl (F11 dg) ?_
            exact ⟨by simpa using F0, by simpa using F1, by simpa using F2, by simpa using F3, by simpa using F4, by simpa using F5, by simpa using F6, by simpa using F7, by simpa using F8, by simpa using F9, by simpa using F10, by simpa using F11, by simpa using F12, by simpa using F13, by simp, by simpa using F15, by simpa using F16, by simpa using F17, by simpa using F18, by simpa using F19, by simpa using F20, by simpa using F21, by simpa using F22, by simpa using F23⟩
          · have dg := hdep ⟨11, .guard⟩ (by simp) rfl
            refine if_skip 11 68 false _ rfl rfl rfl (F11 dg) ?_
            exact ⟨by simpa using F0, by simpa using F1, by simpa using F2, by simpa using F3, by simpa using F4, by simpa using F5, by simpa using F6, by simpa using F7, by simpa using F8, by simpa using F9, by simpa using F10, by simpa using F11, by simpa using F12, by simpa using F13, by simpa using F14, by simp, by simpa using F16, by simpa using F17, by simpa using F18, by simpa using F19, by simpa using F20, by simpa using F21, by simpa using F22, by simpa using F23⟩
          · have dg := hdep ⟨11, .guard⟩ (by simp) rfl
            refine if_skip 11 68 false _ rfl rfl rfl (F11 dg) ?_
            exact ⟨by simpa using F0, by simpa using F1, by simpa using F2, by simpa using F3, by simpa using F4, by simpa using F5, by simpa using F6, by simpa using F7, by simpa using F8, by simpa using F9, by simpa using F10, by simpa using F11, by simpa using F12, by simpa using F13, by simpa using F14, by simpa using F15, by simp, by simpa using F17, by simpa using F18, by simpa using F19, by simpa using F20, by simpa using F21, by simpa using F22, by simpa using F23⟩
          · have dg := hdep ⟨11, .guard⟩ (by simp) rfl
            refine if_skip 11 68 false _ rfl rfl rfl (F11 dg) ?_
            exact ⟨by simpa using F0, by simpa using F1, by simpa using F2, by simpa using F3, by simpa using F4, by simpa using F5, by simpa using F6, by simpa using F7, by simpa using F8, by simpa using F9, by simpa using F10, by simpa using F11, by simpa using F12, by simpa using F13, by simpa using F14, by simpa using F15, by simpa using F16, by simp, by simpa using F18, by simpa using F19, by simpa using F20, by simpa using F21, by simpa using F22, by simpa using F23⟩
          · have dg := hdep ⟨11, .guard⟩ (by simp) rfl
            refine if_skip 11 68 false _ rfl rfl rfl (F11 dg) ?_
            exact ⟨by simpa using F0, by simpa using F1, by simpa using F2, by simpa using F3, by simpa using F4, by simpa using F5, by simpa using F6, by simpa using F7, by simpa using F8, by simpa using F9, by simpa using F10, by simpa using F11, by simpa using F12, by simpa using F13, by simpa using F14, by simpa using F15, by simpa using F16, by simpa using F17, by simp, by simpa using F19, by simpa using F20, by simpa using F21, by simpa using F22, by simpa using F23⟩
          · have dg := hdep ⟨11, .guard⟩ (by simp) rfl
            refine if_skip 11 68 false _ rfl rfl rfl (F11 dg) ?_
            exact ⟨by simpa using F0, by simpa using F1, by simpa using F2, by simpa using F3, by simpa using F4, by simpa using F5, by simpa using F6, by simpa using F7, by simpa using F8, by simpa using F9, by simpa using F10, by simpa using F11, by simpa using F12, by simpa using F13, by simpa using F14, by simpa using F15, by simpa using F16, by simpa using F17, by simpa using F18, by simp, by simpa using F20, by simpa using F21, by simpa using F22, by simpa using F23⟩
          · have dg := hdep ⟨11, .guard⟩ (by simp) rfl
            refine if_skip 11 68 false _ rfl rfl rfl (F11 dg) ?_
            exact ⟨by simpa using F0, by simpa using F1, by simpa using F2, by simpa using F3, by simpa using F4, by simpa using F5, by simpa using F6, by simpa using F7, by simpa using F8, by simpa using F9, by simpa using F10, by simpa using F11, by simpa using F12, by simpa using F13, by simpa using F14, by simpa using F15, by simpa using F16, by simpa using F17, by simpa using F18, by simpa using F19, by simp, by simpa using F21, by simpa using F22, by simpa using F23⟩
          · have dg := hdep ⟨11, .guard⟩ (by simp) rfl
            refine if_skip 11 68 false _ rfl rfl rfl (F11 dg) ?_
            exact ⟨by simpa using F0, by simpa using F1, by simpa using F2, by simpa using F3, by simpa using F4, by simpa using F5, by simpa using F6, by simpa using F7, by simpa using F8, by simpa using F9, by simpa using F10, by simpa using F11, by simpa using F12, by simpa using F13, by simpa using F14, by simpa using F15, by simpa using F16, by simpa using F17, by simpa using F18, by simpa using F19, by simpa using F20, by simp, by simpa using F22, by simpa using F23⟩
          · have dg := hdep ⟨11, .guard⟩ (by simp) rfl
            refine if_skip 11 68 false _ rfl rfl rfl (F11 dg) ?_
            exact ⟨by simpa using F0, by simpa using F1, by simpa using F2, by simpa using F3, by simpa using F4, by simpa using F5, by simpa using F6, by simpa using F7, by simpa using F8, by simpa using F9, by simpa using F10, by simpa using F11, by simpa using F12, by simpa using F13, by simpa using F14, by simpa using F15, by simpa using F16, by simpa using F17, by simpa using F18, by simpa using F19, by simpa using F20, by simpa using F21, by simp, by simpa using F23⟩
          · refine if_free rfl ?_
            have d11 := hdep ⟨11, .data⟩ (by simp) rfl
            have e11 := val_at (F11 d11)
            have d22 := hdep ⟨22, .data⟩ (by simp) rfl
            refine wp_value (.bool true) (w' := w9) (by simp [execOp, e11, go_sem, h0, h1, h2, h3, h4, l0, l1, l2, u1, u2]) ⟨_, rfl, hb9, ?_⟩
            exact ⟨by simpa using F0, by simpa using F1, by simpa using F2, by simpa using F3, by simpa using F4, by simpa using F5, by simpa using F6, by simpa using F7, by simpa using F8, by simpa using F9, by simpa using F10, by simpa using F11, by simpa using F12, by simpa using F13, by simpa using F14, by simpa using F15, by simpa using F16, by simpa using F17, by simpa using F18, by simpa using F19, by simpa using F20, by simpa using F21, by simpa using F22, by simp⟩
        intro u w5 hb5 seen hall ⟨F0, F1, F2, F3, F4, F5, F6, F7, F8, F9, F10, F11, F12, F13, F14, F15, F16, F17, F18, F19, F20, F21, F22, F23⟩
        replace F0 := F0 (hall 0 (by decide))
        replace F1 := F1 (hall 1 (by decide))
        replace F2 := F2 (hall 2 (by decide))
        replace F3 := F3 (hall 3 (by decide))
        replace F4 := F4 (hall 4 (by decide))
        replace F5 := F5 (hall 5 (by decide))
        replace F6 := F6 (hall 6 (by decide))
        replace F7 := F7 (hall 7 (by decide))
        replace F8 := F8 (hall 8 (by decide))
        replace F9 := F9 (hall 9 (by decide))
        replace F10 := F10 (hall 10 (by decide))
        replace F11 := F11 (hall 11 (by decide))
        replace F12 := F12 (hall 12 (by decide))
        replace F13 := F13 (hall 13 (by decide))
        replace F14 := F14 (hall 14 (by decide))
        replace F15 := F15 (hall 15 (by decide))
        replace F16 := F16 (hall 16 (by decide))
        replace F17 := F17 (hall 17 (by decide))
        replace F18 := F18 (hall 18 (by decide))
        replace F19 := F19 (hall 19 (by decide))
        replace F20 := F20 (hall 20 (by decide))
        replace F21 := F21 (hall 21 (by decide))
        replace F22 := F22 (hall 22 (by decide))
        replace F23 := F23 (hall 23 (by decide))
        have HI6 := hid (HG.out.mono _ _ _ HI5.out hb5)
        have HB6 := hid (HBb.out _ _ HB5.out hb5)
        have HR6 := hid (heap_mono HR5.out hb5)
        simp only [setAll, F23, List.setIfInBounds_toArray, List.set_cons_zero, List.set_cons_succ]
        clear F0 F1 F2 F3 F4 F5 F6 F7 F8 F9 F10 F11 F12 F13 F14 F15 F16 F17 F18 F19 F20 F21 F22 F23 hall seen hb5 g0 g1 g2 g3 g4 u1 u2 HI5 HB5 HR5 HA5
        rw [HNB.out] at HPN HPR
        obtain ⟨fn, tmps, assign, body, hy, hR⟩ := HY.out _ ((k : Int), (-1)) w5 HI6.out HB6.out HPN.out
        dsimp only at hy
        clear HNB
        gi_wp2
        refine hR.mono ?_
        rintro e W7 (⟨rfl, hI7, hB7, hK7⟩ | ⟨rfl, cc, hx7, hbx7⟩)
        · have hrow7 := hK7 KB _ HR6.out
          rw [← HPR.out] at hI7
          have HI7 := hid hI7
          clear hI7 hK7 hR hy HI6 HB6 HR6
          gi_wp2
          go_roundw
          case rel => exact ⟨k + 1, by omega, by go_num, HI7.out, hB7, hrow7⟩
          case measure => simp [intOf]; omega
        · clear hR hy HI6 HB6 HR6
          gi_wp2
          refine bodyPost_ret (results_none rfl _ _ _) rfl ?_
          exact ⟨⟨_, rfl⟩, .inr ⟨cc, _, hx7, hbx7⟩⟩
    · obtain rfl : k = 4 := by omega
      rw [show (aroundL wd hg c).take 4 = aroundL wd hg c from rfl] at hI
      gi_wp2
      refine bodyPost_end (results_none rfl _ _ _) rfl ?_
      exact ⟨⟨_, rfl⟩, .inl ⟨_, rfl, hI, hB⟩⟩

end Go.Proofs.Ytlkoadcbolkhoaa
