/- What lies in memory while cells are reached. -/
import Derived.Test.YtlkoadcbolkhoaaRaft
import Derived.Test.YtlkoadcbolkhoaaLoopm
set_option linter.all false
namespace Go.Proofs.Ytlkoadcbolkhoaa
open Go Go.RowKit Go.Proofs
attribute [local go_sem] cell_grow frozen_grow

/-- A row of sides just made. -/
def MadeAt (base : Nat) (W : World) (v : Value) (n : Nat) : Prop := ∃ g, v = .slice (some ⟨g, 0, none⟩) n n ∧ base ≤ g ∧ SidesAt W g (List.replicate n (0, 0))
theorem MadeAt.mono {base n : Nat} {W W' : World} {v : Value} (h : MadeAt base W v n) (hb : Below W.heap.size W W') : MadeAt base W' v n := by
  obtain ⟨g, h1, h2, h3⟩ := h
  exact ⟨g, h1, h2, h3.mono hb⟩
/-- What lies there while cells are reached. -/
structure ReachSt (w : World) (G YB n : Nat) (W : World) : Prop where
  r0 : W.heap[w.heap.size]? = some (.cells #[.slice none 0 0] 101 (0, 0))
  r1 : W.heap[w.heap.size + 1]? = some (.cells #[.int .i64 0, .int .i64 0] 104 (0, 0))
  r2 : W.heap[w.heap.size + 1 + 1]? = some (.cells #[.bool false] 4 (0, 0))
  yb : W.heap[YB]? = some (.cells #[.slice (some ⟨G, 0, none⟩) n n] 101 (0, 0))
  old : Below w.heap.size w W
  hg : w.heap.size + 3 ≤ G
  hy : w.heap.size + 3 ≤ YB
theorem ReachSt.mono {w W W' : World} {G YB n : Nat} (h : ReachSt w G YB n W) (hb : Below W.heap.size W W') : ReachSt w G YB n W' :=
  ⟨heap_mono h.r0 hb, heap_mono h.r1 hb, heap_mono h.r2 hb, heap_mono h.yb hb, bl_trans h.old hb, h.hg, h.hy⟩
theorem ReachSt.set {w W : World} {G YB n B o : Nat} (h : ReachSt w G YB n W) (hB : w.heap.size + 3 ≤ B) (hne : B ≠ YB) (u : Value) : ReachSt w G YB n (W.setCell ⟨B, o, none⟩ u) :=
  ⟨past_set (by omega) h.r0, past_set (by omega) h.r1, past_set (by omega) h.r2, past_set (Ne.symm hne) h.yb, bl_set h.old _ (by omega), h.hg, h.hy⟩

theorem QueueAt.base {W : World} {b b' : Nat} {v : Value} {l : List Int} (h : QueueAt W b v l) (hb : b' ≤ b) : QueueAt W b' v l := by
  rcases h with h | ⟨g, off, cap, cur, h1, h2, h3⟩
  · exact .inl h
  · exact .inr ⟨g, off, cap, cur, h1, by omega, h3⟩


theorem ReachSt.put {w W : World} {G YB n r : Nat} {x o : Obj} (h : ReachSt w G YB n W) (hr : W.heap[r]? = some x) (hx : x.isCells = false) (hl : w.heap.size ≤ r) : ReachSt w G YB n (W.putObj r o) :=
  ⟨heap_put h.r0 rfl hr hx, heap_put h.r1 rfl hr hx, heap_put h.r2 rfl hr hx, heap_put h.yb rfl hr hx, below_put h.old hl, h.hg, h.hy⟩
/-- How many cells are not reached. -/
def unr : List Side → Nat
  | [] => 0
  | s :: l => (if s.1 < 0 then 1 else 0) + unr l
theorem unr_set : ∀ {l : List Side} {i : Nat} {s t : Side}, l[i]? = some s → s.1 < 0 → ¬ t.1 < 0 → unr (l.set i t) + 1 = unr l
  | a :: l, 0, s, t, h, hs, ht => by
    simp at h; subst h
    simp [unr, hs, ht]; omega
  | a :: l, i + 1, s, t, h, hs, ht => by
    have := unr_set (l := l) (i := i) (by simpa using h) hs ht
    simp only [List.set_cons_succ, unr]; omega
/-- Between two directions. -/
structure Rd (w : World) (G YB WB FB RP n : Nat) (cur : List Side) (wait : List Int) (sv : Value) (D : List Deferred) (W : World) : Prop where
  st : ReachSt w G YB n W
  sd : SidesAt W G cur
  wb : W.heap[WB]? = some (.cells #[sv] 22 (0, 0))
  q : QueueAt W w.heap.size sv wait
  fb : W.heap[FB]? = some (.cells #[.func (.func 100) #[.pointer (some ⟨RP, 0, none⟩)] #[]] 131 (0, 0))
  mks : MarksOk w.heap.size W D
  len : cur.length = n
  rng : ∀ x ∈ wait, 0 ≤ x ∧ x < (n : Int)
  hw : w.heap.size + 3 ≤ WB
section
variable {w W W' : World} {G YB WB FB RP n : Nat} {cur : List Side} {wait : List Int} {sv : Value} {D : List Deferred}
theorem Rd.mono (h : Rd w G YB WB FB RP n cur wait sv D W) (hb : Below W.heap.size W W') : Rd w G YB WB FB RP n cur wait sv D W' :=
  ⟨h.st.mono hb, h.sd.mono hb, heap_mono h.wb hb, h.q.mono hb, heap_mono h.fb hb, h.mks.mono hb, h.len, h.rng, h.hw⟩
theorem Rd.put {r : Nat} {x o : Obj} (h : Rd w G YB WB FB RP n cur wait sv D W) (hr : W.heap[r]? = some x) (hx : x.isCells = false) (hx' : ∀ z, x ≠ .deferred z) (hl : w.heap.size ≤ r) : Rd w G YB WB FB RP n cur wait sv D (W.putObj r o) :=
  ⟨h.st.put hr hx hl, heap_put h.sd rfl hr hx, heap_put h.wb rfl hr hx, h.q.keep fun g o hg ho => heap_put ho (by obtain ⟨_, _, cur, hc⟩ := h.q.lt hg; rw [hc] at ho; injection ho with ho; subst ho; rfl) hr hx, heap_put h.fb rfl hr hx, h.mks.put hr hx', h.len, h.rng, h.hw⟩
/-- One more cell is reached. -/
theorem Rd.reach (h : Rd w G YB WB FB RP n cur wait sv D W) {i : Nat} (hi : i < n) (a b : Int) : Rd w G YB WB FB RP n (cur.set i (a, b)) wait sv D ((W.setCell ⟨G, i * 2, none⟩ (.int .i64 a)).setCell ⟨G, i * 2 + 1, none⟩ (.int .i64 b)) := by
  have hGY : G ≠ YB := ne_type h.sd h.st.yb (by decide)
  have hGW : WB ≠ G := ne_type h.wb h.sd (by decide)
  have hGF : FB ≠ G := ne_type h.fb h.sd (by decide)
  have hG := h.st.hg
  refine ⟨(h.st.set (by omega) hGY _).set (by omega) hGY _, h.sd.set (by rw [h.len]; exact hi) a b, past_set hGW (past_set hGW h.wb), h.q.keep fun g o hg ho => ?_, past_set hGF (past_set hGF h.fb), (h.mks.set _ _).set _ _, by rw [List.length_set]; exact h.len, h.rng, h.hw⟩
  have hne : g ≠ G := by
    obtain ⟨_, _, cu, hc⟩ := h.q.lt hg
    exact ne_type hc h.sd (by decide)
  exact past_set hne (past_set hne ho)
/-- What is no block of the queue's is not a block of its. -/
theorem qb_ne {base : Nat} {k : Nat} {cs : Array Value} {t : TypeId} {p : Nat × Nat} (h : QueueAt W base sv wait) (hk : W.heap[k]? = some (.cells cs t p)) (ht : t ≠ 3) : qb sv ≠ some k := fun e => by
  obtain ⟨_, _, cu, hc⟩ := h.lt e
  rw [hk] at hc
  injection hc with hc
  injection hc with _ hc
  exact ht hc
/-- One more waits. -/
theorem Rd.push (h : Rd w G YB WB FB RP n cur wait sv D W) {x : Int} (hx : 0 ≤ x ∧ x < (n : Int)) {v' : Value} (hq : QueueAt W' w.heap.size v' (wait ++ [x])) (hk : ∀ (k : Nat) (o : Obj), qb sv ≠ some k → W.heap[k]? = some o → W'.heap[k]? = some o) (hold : Below w.heap.size w W') :
    Rd w G YB WB FB RP n cur (wait ++ [x]) v' D (W'.setCell ⟨WB, 0, none⟩ v') := by
  have hGY : G ≠ WB := ne_type h.sd h.wb (by decide)
  have hYW : YB ≠ WB := ne_type h.st.yb h.wb (by decide)
  have hFW : FB ≠ WB := ne_type h.fb h.wb (by decide)
  have hw := h.hw
  have kc : ∀ {k : Nat} {cs : Array Value} {t : TypeId}, W.heap[k]? = some (.cells cs t (0, 0)) → t ≠ 3 → W'.heap[k]? = some (.cells cs t (0, 0)) := fun hh ht => hk _ _ (qb_ne h.q hh ht) hh
  have hst : ReachSt w G YB n W' := ⟨kc h.st.r0 (by decide), kc h.st.r1 (by decide), kc h.st.r2 (by decide), kc h.st.yb (by decide), hold, h.st.hg, h.st.hy⟩
  refine ⟨hst.set hw hYW.symm _, past_set hGY (kc h.sd (by decide)), ?_, hq.keep fun g o hg ho => past_set ?_ ho, past_set hFW (kc h.fb (by decide)), (h.mks.keep fun D hD => hk _ _ (fun e => ?_) hD).set _ _, h.len, fun y hy => ?_, hw⟩
  · rw [heap_setCell_same _ _ _ _ _ _ (kc h.wb (by decide))]; rfl
  · obtain ⟨_, _, cu, hc⟩ := hq.lt hg
    exact ne_type hc (kc h.wb (by decide)) (by decide)
  · obtain ⟨_, _, cu, hc⟩ := h.q.lt e
    rw [hD] at hc
    cases hc
  · rcases List.mem_append.1 hy with hy | hy
    · exact h.rng y hy
    · simp at hy; subst hy; exact hx
/-- The head is taken. -/
theorem Rd.pop {x : Int} (h : Rd w G YB WB FB RP n cur (x :: wait) sv D W) {v' : Value} (hq : QueueAt W w.heap.size v' wait) : Rd w G YB WB FB RP n cur wait v' D (W.setCell ⟨WB, 0, none⟩ v') := by
  have hGY : G ≠ WB := ne_type h.sd h.wb (by decide)
  have hYW : YB ≠ WB := ne_type h.st.yb h.wb (by decide)
  have hFW : FB ≠ WB := ne_type h.fb h.wb (by decide)
  refine ⟨h.st.set h.hw hYW.symm _, past_set hGY h.sd, ?_, hq.keep fun g o hg ho => past_set ?_ ho, past_set hFW h.fb, h.mks.set _ _, h.len, fun y hy => h.rng y (List.mem_cons_of_mem _ hy), h.hw⟩
  · rw [heap_setCell_same _ _ _ _ _ _ h.wb]; rfl
  · obtain ⟨_, _, cu, hc⟩ := hq.lt hg
    exact ne_type hc h.wb (by decide)
end

theorem set_one {W : World} {k : Nat} {x : Value} {t : TypeId} (h : W.heap[k]? = some (.cells #[x] t (0, 0))) (u : Value) : (W.setCell ⟨k, 0, none⟩ u).heap[k]? = some (.cells #[u] t (0, 0)) := by
  rw [heap_setCell_same _ _ _ _ _ _ h]; rfl
theorem set_two {W : World} {k : Nat} {x y : Value} {t : TypeId} (h : W.heap[k]? = some (.cells #[x, y] t (0, 0))) (u v : Value) : ((W.setCell ⟨k, 0, none⟩ u).setCell ⟨k, 1, none⟩ v).heap[k]? = some (.cells #[u, v] t (0, 0)) := by
  rw [heap_setCell_same _ _ _ _ _ _ (heap_setCell_same _ _ _ _ _ _ h)]; rfl
/-- What is kept while results are laid. -/
structure EndSt (w : World) (G YB XB n : Nat) (c : Int) (cur : List Side) (D : List Deferred) (W : World) : Prop where
  sd : SidesAt W G cur
  yb : W.heap[YB]? = some (.cells #[.slice (some ⟨G, 0, none⟩) n n] 101 (0, 0))
  xb : W.heap[XB]? = some (.cells #[.int .i64 c] 3 (0, 0))
  mks : MarksOk w.heap.size W D
  hg : w.heap.size + 3 ≤ G
  hy : w.heap.size + 3 ≤ YB
  hx : w.heap.size + 3 ≤ XB
theorem EndSt.set {w W : World} {G YB XB n B o : Nat} {c : Int} {cur : List Side} {D : List Deferred} (h : EndSt w G YB XB n c cur D W) (hB : B < w.heap.size + 3) (u : Value) : EndSt w G YB XB n c cur D (W.setCell ⟨B, o, none⟩ u) :=
  ⟨h.sd.past (by have := h.hg; omega), past_set (by have := h.hy; omega) h.yb, past_set (by have := h.hx; omega) h.xb, h.mks.set _ _, h.hg, h.hy, h.hx⟩
theorem EndSt.mono {w W W' : World} {G YB XB n : Nat} {c : Int} {cur : List Side} {D : List Deferred} (h : EndSt w G YB XB n c cur D W) (hb : Below W.heap.size W W') : EndSt w G YB XB n c cur D W' :=
  ⟨h.sd.mono hb, heap_mono h.yb hb, heap_mono h.xb hb, h.mks.mono hb, h.hg, h.hy, h.hx⟩

/-- What is neither a box of numbers, nor of a list, nor a row of sides, stays. -/
def KeepO (W W' : World) : Prop := ∀ (k : Nat) (o : Obj), W.heap[k]? = some o → (∀ cs t p, o = .cells cs t p → t ≠ 3 ∧ t ≠ 22 ∧ t ≠ 104) → W'.heap[k]? = some o
theorem KeepO.refl (W : World) : KeepO W W := fun _ _ h _ => h
theorem KeepO.trans {A B C : World} (h : KeepO A B) (k : KeepO B C) : KeepO A C := fun i o hi ht => k i o (h i o hi ht) ht
theorem KeepO.below {W W' : World} (h : Below W.heap.size W W') : KeepO W W' := fun _ _ hk _ => heap_mono hk h
theorem KeepO.set {W : World} {B o : Nat} {cs : Array Value} {t : TypeId} {p : Nat × Nat} (h : W.heap[B]? = some (.cells cs t p)) (ht : t = 3 ∨ t = 22 ∨ t = 104) (u : Value) : KeepO W (W.setCell ⟨B, o, none⟩ u) := fun k x hk hx => by
  refine past_set ?_ hk
  rintro rfl
  rw [h] at hk
  injection hk with hk
  have := hx _ _ _ hk.symm
  rcases ht with rfl | rfl | rfl
  · exact this.1 rfl
  · exact this.2.1 rfl
  · exact this.2.2 rfl
theorem KeepO.queue {W W' : World} {base : Nat} {v : Value} {l : List Int} (h : QueueAt W base v l) (hk : ∀ (k : Nat) (o : Obj), qb v ≠ some k → W.heap[k]? = some o → W'.heap[k]? = some o) : KeepO W W' := fun k o ho ht => by
  refine hk k o (fun e => ?_) ho
  obtain ⟨_, _, cu, hc⟩ := h.lt e
  rw [ho] at hc
  injection hc with hc
  exact (ht _ _ _ hc).1 rfl
theorem KeepO.type {W W' : World} (h : KeepO W W') {T : TypeId} (ht : T ≠ 3 ∧ T ≠ 22 ∧ T ≠ 104) : KeepT T W W' := fun k cs hk => h k _ hk fun cs' t p e => by cases e; exact ht
theorem KeepO.loop {W W' : World} (h : KeepO W W') {k : Nat} {r : Loop} (hk : W.heap[k]? = some (.loop r)) : W'.heap[k]? = some (.loop r) := h k _ hk fun _ _ _ e => by cases e
theorem KeepO.deferred {W W' : World} (h : KeepO W W') {k : Nat} {r : Option (List Deferred)} (hk : W.heap[k]? = some (.deferred r)) : W'.heap[k]? = some (.deferred r) := h k _ hk fun _ _ _ e => by cases e

/-- Between two directions of a cell. -/
structure RI (w : World) (G YB WB FB RP n CB RB XB : Nat) (q : Int) (cur : List Side) (wait : List Int) (sv : Value) (D : List Deferred) (W : World) : Prop where
  rd : Rd w G YB WB FB RP n cur wait sv D W
  nx : qb sv ≠ some XB
  nc : qb sv ≠ some CB
  xb : W.heap[XB]? = some (.cells #[.int .i64 q] 3 (0, 0))
  cb : W.heap[CB]? = some (.cells #[.int .i64 q] 3 (0, 0))
  rb : W.heap[RB]? = some (.cells #[.pointer (some ⟨RP, 0, none⟩)] 87 (0, 0))
section
variable {w W W' : World} {G YB WB FB RP n CB RB XB : Nat} {q : Int} {cur : List Side} {wait : List Int} {sv : Value} {D : List Deferred}
theorem RI.mono (h : RI w G YB WB FB RP n CB RB XB q cur wait sv D W) (hb : Below W.heap.size W W') : RI w G YB WB FB RP n CB RB XB q cur wait sv D W' :=
  ⟨h.rd.mono hb, h.nx, h.nc, heap_mono h.xb hb, heap_mono h.cb hb, heap_mono h.rb hb⟩
theorem RI.put {r : Nat} {x o : Obj} (h : RI w G YB WB FB RP n CB RB XB q cur wait sv D W) (hr : W.heap[r]? = some x) (hx : x.isCells = false) (hx' : ∀ z, x ≠ .deferred z) (hl : w.heap.size ≤ r) : RI w G YB WB FB RP n CB RB XB q cur wait sv D (W.putObj r o) :=
  ⟨h.rd.put hr hx hx' hl, h.nx, h.nc, heap_put h.xb rfl hr hx, heap_put h.cb rfl hr hx, heap_put h.rb rfl hr hx⟩
theorem RI.reach (h : RI w G YB WB FB RP n CB RB XB q cur wait sv D W) {i : Nat} (hi : i < n) (a b : Int) : RI w G YB WB FB RP n CB RB XB q (cur.set i (a, b)) wait sv D ((W.setCell ⟨G, i * 2, none⟩ (.int .i64 a)).setCell ⟨G, i * 2 + 1, none⟩ (.int .i64 b)) := by
  have n1 : XB ≠ G := ne_type h.xb h.rd.sd (by decide)
  have n2 : CB ≠ G := ne_type h.cb h.rd.sd (by decide)
  have n3 : RB ≠ G := ne_type h.rb h.rd.sd (by decide)
  exact ⟨h.rd.reach hi a b, h.nx, h.nc, past_set n1 (past_set n1 h.xb), past_set n2 (past_set n2 h.cb), past_set n3 (past_set n3 h.rb)⟩
theorem RI.push (h : RI w G YB WB FB RP n CB RB XB q cur wait sv D W) {x : Int} (hx : 0 ≤ x ∧ x < (n : Int)) {v' : Value} (hq : QueueAt W' w.heap.size v' (wait ++ [x])) (hk : ∀ (k : Nat) (o : Obj), qb sv ≠ some k → W.heap[k]? = some o → W'.heap[k]? = some o) (hold : Below w.heap.size w W') (hqb : qb v' = qb sv ∨ ∃ g, qb v' = some g ∧ W.heap.size ≤ g) :
    RI w G YB WB FB RP n CB RB XB q cur (wait ++ [x]) v' D (W'.setCell ⟨WB, 0, none⟩ v') := by
  have n1 : XB ≠ WB := ne_type h.xb h.rd.wb (by decide)
  have n2 : CB ≠ WB := ne_type h.cb h.rd.wb (by decide)
  have n3 : RB ≠ WB := ne_type h.rb h.rd.wb (by decide)
  have l1 := (Array.getElem?_eq_some_iff.1 h.xb).1
  have l2 := (Array.getElem?_eq_some_iff.1 h.cb).1
  refine ⟨h.rd.push hx hq hk hold, fun e => ?_, fun e => ?_, past_set n1 (hk _ _ h.nx h.xb), past_set n2 (hk _ _ h.nc h.cb), past_set n3 (hk _ _ (qb_ne h.rd.q h.rb (by decide)) h.rb)⟩
  · rcases hqb with hqb | ⟨g, hqb, hg⟩
    · exact h.nx (hqb ▸ e)
    · rw [hqb] at e; injection e with e; omega
  · rcases hqb with hqb | ⟨g, hqb, hg⟩
    · exact h.nc (hqb ▸ e)
    · rw [hqb] at e; injection e with e; omega
end
/-- What holds between the rounds over a cell's directions. -/
def RInv (w : World) (G YB WB FB RP n CB RB XB : Nat) (q : Int) (u0 : Used) (wd hg : Int) (cur : List Side) (rest : List Int) (D : List Deferred) (pre : List (Int × Int)) (W : World) : Prop :=
  ∃ (k : Nat) (cur' : List Side) (wait' : List Int) (A : Option Addr) (c : Nat), k ≤ 4 ∧ pre = (aroundL wd hg q).take k ∧ dirsF u0 wd hg q (4 - k) (k : Int) cur' wait' = dirsF u0 wd hg q 4 0 cur rest ∧ wait'.length + unr cur' = rest.length + unr cur ∧ RI w G YB WB FB RP n CB RB XB q cur' wait' (.slice A wait'.length c) D W
def RStop (w : World) (G n : Nat) (q : Int) (u0 : Used) (wd hg : Int) (cur : List Side) (rest : List Int) (D : List Deferred) (co : Code) (pre : List (Int × Int)) (W : World) : Prop :=
  co = .ret ∧ ∃ (cur' : List Side) (x y : Int), dirsF u0 wd hg q 4 0 cur rest = .stop cur' (x, y) ∧ W.heap[w.heap.size]? = some (.cells #[.slice (some ⟨G, 0, none⟩) n n] 101 (0, 0)) ∧ W.heap[w.heap.size + 1]? = some (.cells #[.int .i64 x, .int .i64 y] 104 (0, 0)) ∧ W.heap[w.heap.size + 1 + 1]? = some (.cells #[.bool true] 4 (0, 0)) ∧ SidesAt W G cur' ∧ MarksOk w.heap.size W D ∧ Below w.heap.size w W
theorem RStop.put {w W : World} {G n : Nat} {q : Int} {u0 : Used} {wd hg : Int} {cur : List Side} {rest : List Int} {D : List Deferred} {co : Code} {pre : List (Int × Int)} {r : Nat} {x o : Obj} (h : RStop w G n q u0 wd hg cur rest D co pre W) (hr : W.heap[r]? = some x) (hx : x.isCells = false) (hx' : ∀ z, x ≠ .deferred z) (hl : w.heap.size ≤ r) : RStop w G n q u0 wd hg cur rest D co pre (W.putObj r o) := by
  obtain ⟨h0, cur', a, b, h1, h2, h3, h4, h5, h6, h7⟩ := h
  exact ⟨h0, cur', a, b, h1, heap_put h2 rfl hr hx, heap_put h3 rfl hr hx, heap_put h4 rfl hr hx, heap_put h5 rfl hr hx, h6.put hr hx', below_put h7 hl⟩
theorem around_adm {wd hg c a b : Int} {k : Nat} (hk : k ≤ 4) (h : (aroundL wd hg c).take k ++ [(a, b)] <+: aroundL wd hg c) : k < 4 ∧ a = (k : Int) ∧ b = nbr wd hg c (k : Int) := by
  have hl : ((aroundL wd hg c).take k).length = k := by rw [List.length_take]; simp [aroundL]; omega
  have h1 : ((aroundL wd hg c).take k ++ [(a, b)])[k]? = some (a, b) := by
    rw [List.getElem?_append_right (by omega), hl]; simp
  have hk4 : k < 4 := by
    have := h.length_le
    rw [List.length_append, hl] at this
    simp [aroundL] at this
    omega
  have h2 : (aroundL wd hg c)[k]? = some (a, b) := by
    obtain ⟨t, ht⟩ := h
    rw [← ht, List.getElem?_append_left (by rw [List.length_append, hl]; simp)]
    exact h1
  rw [around_at hk4] at h2
  injection h2 with h2
  injection h2 with e1 e2
  exact ⟨hk4, e1.symm, e2.symm⟩
section
variable {u : Used} {wd hg c : Int} {k : Nat} {cur : List Side} {wait : List Int} {R : Out}
theorem dirs_skip (hk : k < 4) (h : dirsF u wd hg c (4 - k) (k : Int) cur wait = R) (hu : ¬ u (c, (k : Int)) < 1) : dirsF u wd hg c (4 - (k + 1)) ((k + 1 : Nat) : Int) cur wait = R := by
  rw [← h, show 4 - k = (4 - (k + 1)) + 1 by omega]
  conv => rhs; unfold dirsF
  rw [if_pos hu]; rfl
theorem dirs_old (hk : k < 4) (h : dirsF u wd hg c (4 - k) (k : Int) cur wait = R) (hu : u (c, (k : Int)) < 1) (ht : ¬ nbr wd hg c (k : Int) < 0) (hb : ¬ (cur.getD (nbr wd hg c (k : Int)).toNat (0, 0)).1 < 0) : dirsF u wd hg c (4 - (k + 1)) ((k + 1 : Nat) : Int) cur wait = R := by
  rw [← h, show 4 - k = (4 - (k + 1)) + 1 by omega]
  conv => rhs; unfold dirsF
  rw [if_neg (by simpa using hu), if_neg ht, if_neg hb]; rfl
theorem dirs_new (hk : k < 4) (h : dirsF u wd hg c (4 - k) (k : Int) cur wait = R) (hu : u (c, (k : Int)) < 1) (ht : ¬ nbr wd hg c (k : Int) < 0) (hb : (cur.getD (nbr wd hg c (k : Int)).toNat (0, 0)).1 < 0) : dirsF u wd hg c (4 - (k + 1)) ((k + 1 : Nat) : Int) (cur.set (nbr wd hg c (k : Int)).toNat (c, (k : Int))) (wait ++ [nbr wd hg c (k : Int)]) = R := by
  rw [← h, show 4 - k = (4 - (k + 1)) + 1 by omega]
  conv => rhs; unfold dirsF
  rw [if_neg (by simpa using hu), if_neg ht, if_pos hb]; rfl
end
theorem nbr_rng {wd hg c : Int} (h1 : 1 ≤ wd) (hc : 0 ≤ c) (h2 : 1 ≤ hg) (hlt : c < wd * hg) {k : Nat} (hk : k < 4) : -1 ≤ nbr wd hg c (k : Int) ∧ nbr wd hg c (k : Int) < wd * hg := by
  rw [corn_nbr h1 hc h2 hlt hk]
  split
  · next h =>
    obtain ⟨⟨a1, a2⟩, b1, b2⟩ := h
    generalize cornX (c % wd) k = x at *
    generalize cornY (c / wd) k = y at *
    have e1 : 0 ≤ y * wd := Int.mul_nonneg b1 (by omega)
    have e2 : y * wd ≤ (hg - 1) * wd := Int.mul_le_mul_of_nonneg_right b2 (by omega)
    rw [Int.sub_mul, Int.one_mul, Int.mul_comm hg wd] at e2
    omega
  · have : 0 ≤ wd * hg := Int.mul_nonneg (by omega) (by omega)
    omega

end Go.Proofs.Ytlkoadcbolkhoaa
