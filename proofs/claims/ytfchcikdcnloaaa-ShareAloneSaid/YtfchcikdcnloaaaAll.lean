/- share's all: all logs given out; how many went by the last quotient. -/
import Derived.Test.YtfchcikdcnloaaaMaps
namespace Go.Proofs.Ytfchcikdcnloaaa
open Go Go.RowKit Go.Proofs
attribute [local go_sem] Oper.semAt_some

/-- The last quotient, and how many logs went by it. -/
def stepRun (s : Option ((Int × Int) × Int)) (q : Int × Int) : (Int × Int) × Int :=
  match s with
  | none => (q, 1)
  | some (p, n) => if p = q then (p, n + 1) else (q, 1)
def runGo (had : List Int) (part : Int) : List Nat → List Int → Option ((Int × Int) × Int) → Option ((Int × Int) × Int)
  | [], _, s => s
  | x :: r, got, s => runGo had part r (bump got x) (some (stepRun s (nextQ had part got x)))
def runSt (had : List Int) (part : Int) (xs : List Nat) : Option ((Int × Int) × Int) := runGo had part xs zero12 none
theorem runGo_snoc (had : List Int) (part : Int) (xs : List Nat) (x : Nat) : ∀ got s, runGo had part (xs ++ [x]) got s = some (stepRun (runGo had part xs got s) (nextQ had part (xs.foldl bump got) x)) := by
  induction xs with
  | nil => intro got s; rfl
  | cons a l ih => intro got s; exact ih _ _
theorem runSt_snoc (had : List Int) (part : Int) (xs : List Nat) (x : Nat) : runSt had part (xs ++ [x]) = some (stepRun (runSt had part xs) (nextQ had part (gotOf xs) x)) := runGo_snoc had part xs x _ _

/-- The map holds the last quotient with its count. -/
def MapIs (W : World) (r : Nat) (s : Option ((Int × Int) × Int)) : Prop :=
  match s with
  | none => ∃ clk, W.heap[r]? = some (.map #[] clk)
  | some (q, n) => ∃ clk b, b < clk ∧ W.heap[r]? = some (.map #[⟨encQ q, .int .i64 n, b⟩] clk)

/-- Of what lay there nothing but block g has turned. -/
structure Old (g : Nat) (w W : World) : Prop where
  os : W.os = w.os
  tape : W.tape = w.tape
  output : W.output = w.output
  size : w.heap.size ≤ W.heap.size
  block : ∀ k, k < w.heap.size → k ≠ g → W.heap[k]? = w.heap[k]?
theorem Old.below {g : Nat} {w W W' : World} (h : Old g w W) (hb : Below W.heap.size W W') : Old g w W' :=
  ⟨hb.os.trans h.os, hb.tape.trans h.tape, hb.output.trans h.output, Nat.le_trans h.size hb.size, fun k hk hg => (hb.block k (Nat.lt_of_lt_of_le hk h.size)).trans (h.block k hk hg)⟩
theorem Old.grown {g r : Nat} {w W W' : World} (h : Old g w W) (hb : W.grownBy W' (some r)) (hr : w.heap.size ≤ r ∨ r = g) : Old g w W' :=
  ⟨hb.os.trans h.os, hb.tape.trans h.tape, hb.output.trans h.output, Nat.le_trans h.size hb.size, fun k hk hg => (hb.block k (Nat.lt_of_lt_of_le hk h.size) (by intro e; injection e with e; omega)).trans (h.block k hk hg)⟩

/-- All but the map. -/
structure AMid (w : World) (g b off c : Nat) (had : List Int) (part prize : Int) (got : List Nat) (q : Int × Int) (W : World) : Prop where
  tab : TabIs W g b off c had part prize (gotOf got)
  bs : W.heap[w.heap.size]? = some (.cells #[.pointer (some ⟨g, 0, none⟩)] 71 (0, 0))
  bm : W.heap[w.heap.size + 2]? = some (.cells #[.map (some (w.heap.size + 1))] 104 (0, 0))
  bn : W.heap[w.heap.size + 3]? = some (.cells #[.int .i64 q.1, .int .i64 q.2] 86 (0, 0))
  bt : W.heap[w.heap.size + 4]? = some (.cells #[.pointer (some ⟨g, 0, none⟩)] 71 (0, 0))
  old : Old g w W
/-- What holds between two logs. -/
def AInv (w : World) (g b off c : Nat) (had : List Int) (part prize : Int) (xs got : List Nat) (W : World) : Prop :=
  MapIs W (w.heap.size + 1) (runSt had part xs) ∧ ∃ q, AMid w g b off c had part prize got q W ∧ ∀ p, runSt had part xs = some p → q = p.1

theorem heap_mono {w W : World} {k : Nat} {o : Obj} (h : w.heap[k]? = some o) (hb : Below w.heap.size w W) : W.heap[k]? = some o := by
  rw [hb.block k (Array.getElem?_eq_some_iff.1 h).1]; exact h
theorem heap_grown {w W : World} {k r : Nat} {o : Obj} (h : w.heap[k]? = some o) (hb : w.grownBy W (some r)) (hr : k ≠ r) : W.heap[k]? = some o := by
  rw [hb.block k (Array.getElem?_eq_some_iff.1 h).1 (by intro e; injection e with e; exact hr e)]; exact h
theorem MapIs.mono {w W : World} {r : Nat} {s : Option ((Int × Int) × Int)} (h : MapIs w r s) (hb : Below w.heap.size w W) : MapIs W r s := by
  match s, h with
  | none, ⟨clk, h⟩ => exact ⟨clk, heap_mono h hb⟩
  | some (q, n), ⟨clk, b, hlt, h⟩ => exact ⟨clk, b, hlt, heap_mono h hb⟩
theorem MapIs.grown {w W : World} {r k : Nat} {s : Option ((Int × Int) × Int)} (h : MapIs w r s) (hb : w.grownBy W (some k)) (hr : r ≠ k) : MapIs W r s := by
  match s, h with
  | none, ⟨clk, h⟩ => exact ⟨clk, heap_grown h hb hr⟩
  | some (q, n), ⟨clk, b, hlt, h⟩ => exact ⟨clk, b, hlt, heap_grown h hb hr⟩
theorem TabIs.grown {g b off c k : Nat} {had got : List Int} {part prize : Int} {w W : World} (h : TabIs w g b off c had part prize got) (hb : w.grownBy W (some k)) (h1 : k ≠ g) (h2 : k ≠ b) : TabIs W g b off c had part prize got :=
  ⟨heap_grown h.tab hb (Ne.symm h1), fun i x hx => hb.cell (h.cells i x hx) (by intro e; injection e with e; exact h2 e.symm), Nat.lt_of_lt_of_le h.lt hb.size, h.ne⟩

section
variable {w W W' : World} {g b off c : Nat} {had : List Int} {part prize : Int} {xs got : List Nat} {q : Int × Int}
theorem AMid.mono (h : AMid w g b off c had part prize got q W) (hb : Below W.heap.size W W') : AMid w g b off c had part prize got q W' :=
  ⟨h.tab.mono hb, heap_mono h.bs hb, heap_mono h.bm hb, heap_mono h.bn hb, heap_mono h.bt hb, h.old.below hb⟩
theorem AMid.grown {k : Nat} (h : AMid w g b off c had part prize got q W) (hb : W.grownBy W' (some k)) (hk : w.heap.size + 5 ≤ k ∨ k = w.heap.size + 1) (hg : g < w.heap.size) (hbl : b < w.heap.size) : AMid w g b off c had part prize got q W' :=
  ⟨h.tab.grown hb (by omega) (by omega), heap_grown h.bs hb (by omega), heap_grown h.bm hb (by omega), heap_grown h.bn hb (by omega), heap_grown h.bt hb (by omega), h.old.grown hb (.inl (by omega))⟩
theorem AInv.mono (h : AInv w g b off c had part prize xs got W) (hb : Below W.heap.size W W') : AInv w g b off c had part prize xs got W' := by
  obtain ⟨hm, q, hq, hp⟩ := h
  exact ⟨hm.mono hb, q, hq.mono hb, hp⟩
theorem AInv.grown {k : Nat} (h : AInv w g b off c had part prize xs got W) (hb : W.grownBy W' (some k)) (hk : w.heap.size + 5 ≤ k) (hg : g < w.heap.size) (hbl : b < w.heap.size) : AInv w g b off c had part prize xs got W' := by
  obtain ⟨hm, q, hq, hp⟩ := h
  exact ⟨hm.grown hb (by omega), q, hq.grown hb (.inl hk) hg hbl, hp⟩
end

theorem grown_set (W : World) (k o : Nat) (u : Value) : W.grownBy (W.setCell ⟨k, o, none⟩ u) (some k) :=
  ⟨rfl, rfl, rfl, by simp [World.setCell], fun j hj hne => Below.heap_setCell _ _ _ _ (by intro e; exact hne (congrArg some e))⟩
theorem grown_two {W W' W'' : World} {k : Nat} (h1 : W.grownBy W' (some k)) (h2 : W'.grownBy W'' (some k)) : W.grownBy W'' (some k) :=
  ⟨h2.os.trans h1.os, h2.tape.trans h1.tape, h2.output.trans h1.output, Nat.le_trans h1.size h2.size, fun j hj hne => (h2.block j (Nat.lt_of_lt_of_le hj h1.size) hne).trans (h1.block j hj hne)⟩
theorem cell_of_heap {W : World} {k i : Nat} {cs : Array Value} {t : TypeId} (h : W.heap[k]? = some (.cells cs t (0, 0))) : W.cell? ⟨k, i, none⟩ = cs[i]? := by simp [World.cell?, h]
theorem frozen_of_heap {W : World} {k i : Nat} {cs : Array Value} {t : TypeId} (h : W.heap[k]? = some (.cells cs t (0, 0))) : W.frozen? ⟨k, i, none⟩ = false := by simp [World.frozen?, h]

theorem AMid.now {w W : World} {g b off c : Nat} {had : List Int} {part prize : Int} {got : List Nat} {q : Int × Int} (h : AMid w g b off c had part prize got q W) (hg : g < w.heap.size) (hbl : b < w.heap.size) (q' : Int × Int) :
    AMid w g b off c had part prize got q' ((W.setCell ⟨w.heap.size + 3, 0, none⟩ (.int .i64 q'.1)).setCell ⟨w.heap.size + 3, 1, none⟩ (.int .i64 q'.2)) := by
  have hb := grown_two (grown_set W (w.heap.size + 3) 0 (.int .i64 q'.1)) (grown_set _ (w.heap.size + 3) 1 (.int .i64 q'.2))
  refine ⟨h.tab.grown hb (by omega) (by omega), heap_grown h.bs hb (by omega), heap_grown h.bm hb (by omega), ?_, heap_grown h.bt hb (by omega), h.old.grown hb (.inl (by omega))⟩
  simp only [World.setCell, Array.getElem?_modify, if_true, h.bn]
  rfl

theorem AInv.give {w : World} {g b off c : Nat} {had : List Int} {part prize : Int} (hg : g < w.heap.size) :
    GiveInv g b off c (w.heap.size + 4) had part prize (fun xs W => AInv w g b off c had part prize xs xs W) (fun xs W => AInv w g b off c had part prize xs xs.dropLast W) := by
  refine ⟨fun pre W W' h hb => h.mono hb, fun pre W ⟨_, q, h, _⟩ => ⟨h.tab, by rw [cell_of_heap h.bt]; rfl⟩, fun pre x W ⟨_, q, h, _⟩ => ⟨?_, by rw [cell_of_heap h.bt]; rfl⟩, fun pre x W h hx => ?_⟩
  · have := h.tab
    rwa [show (pre ++ [x]).dropLast = pre by simp] at this
  · obtain ⟨hm, q, h', hp⟩ := h.mono (bl_drew (bl_refl W))
    have hgr := grown_set W.drew g (3 + x) (.int .i64 ((gotOf pre).getD x 0 + 1))
    refine ⟨hm.grown hgr (by omega), q, ⟨?_, heap_grown h'.bs hgr (by omega), heap_grown h'.bm hgr (by omega), heap_grown h'.bn hgr (by omega), heap_grown h'.bt hgr (by omega), h'.old.grown hgr (.inr rfl)⟩, hp⟩
    have T := h'.tab
    rw [show (pre ++ [x]).dropLast = pre by simp] at T
    rw [gotOf_snoc]
    exact T.set (by rw [gotOf_len]; exact hx)

theorem AInv.free {w : World} {g b off c : Nat} {had : List Int} {part prize : Int} {f : List Nat → List Nat} (hg : g < w.heap.size) (hb : b < w.heap.size) {l : Nat} (hl : w.heap.size + 5 ≤ l) :
    RecFree l (fun xs W => AInv w g b off c had part prize xs (f xs) W) := by
  rintro xs W o h _ _
  exact h.grown (grownBy_putObj' W l o) hl hg hb

theorem runGo_le (had : List Int) (part : Int) (xs : List Nat) : ∀ (got : List Int) (s : Option ((Int × Int) × Int)) (m : Nat), (∀ p n, s = some (p, n) → 0 ≤ n ∧ n ≤ m) → ∀ p n, runGo had part xs got s = some (p, n) → 0 ≤ n ∧ n ≤ ((m + xs.length : Nat) : Int) := by
  induction xs with
  | nil => intro got s m h p n e; have := h p n e; simpa using this
  | cons x l ih =>
    intro got s m h p n e
    have := ih _ _ (m + 1) (fun p n e => by
      injection e with e
      unfold stepRun at e
      match s, h with
      | none, _ => injection e with e1 e2; omega
      | some (p0, n0), h =>
        have := h p0 n0 rfl
        simp only at e
        split at e <;> (injection e with e1 e2; omega)) p n e
    simp only [List.length_cons]
    omega
theorem runSt_le {had : List Int} {part : Int} {xs : List Nat} {p : Int × Int} {n : Int} (h : runSt had part xs = some (p, n)) : 0 ≤ n ∧ n ≤ (xs.length : Int) := by
  have := runGo_le had part xs zero12 none 0 (fun p n e => by cases e) p n h
  omega

section
variable {W : World} {r clk : Nat}
theorem lookup_two (p q : Int × Int) (v v2 : Value) (b b2 : Nat) (hne : q ≠ p) (h : W.heap[r]? = some (.map #[⟨encQ p, v, b⟩, ⟨encQ q, v2, b2⟩] clk)) : (Instr.lookup 104 (.map (some r)) (encQ q) false).run Try.prog W = .ok v2 W := by
  have u := Try.underlying104
  have z := Try.zeroValue2
  unfold Instr.lookup
  simp [Sem.run_bind, run_underlying u, run_getObj_at h rfl, check86, find86_cons, Instr.findAsking, eq86, hne, Result.andThen]

/-- One more by the quotient q: the look-up, the entry, the store. -/
theorem put_step {s : Option ((Int × Int) × Int)} (hM : MapIs W r s) (q : Int × Int) (hs : ∀ p n, s = some (p, n) → 0 ≤ n ∧ n ≤ 1000) :
    ∃ (n : Int) (b clk : Nat) (es0 es : Array MapEntry), stepRun s q = (q, n + 1) ∧ 0 ≤ n ∧ n ≤ 1000 ∧ b < clk ∧
      (Instr.lookup 104 (.map (some r)) (encQ q) false).run Try.prog W = .ok (.int .i64 n) W ∧
      (Instr.mapEntry 104 (.map (some r)) (encQ q)).run Try.prog W = .ok (.tuple #[.int .i64 n, .int .i64 b]) (W.putObj r (.map es0 clk)) ∧
      (Instr.lookup 104 (.map (some r)) (encQ q) false).run Try.prog (W.putObj r (.map es0 clk)) = .ok (.int .i64 n) (W.putObj r (.map es0 clk)) ∧
      (Instr.entryStore 104 (.map (some r)) (.int .i64 b) (.int .i64 (n + 1))).run Try.prog (W.putObj r (.map es0 clk)) = .ok () ((W.putObj r (.map es0 clk)).putObj r (.map es clk)) ∧
      (es = #[⟨encQ q, .int .i64 (n + 1), b⟩] ∨ ∃ p v b1, p ≠ q ∧ b1 < b ∧ es = #[⟨encQ p, v, b1⟩, ⟨encQ q, .int .i64 (n + 1), b⟩]) := by
  match s, hM, hs with
  | none, ⟨clk, h⟩, _ =>
    have hlt : r < W.heap.size := (Array.getElem?_eq_some_iff.1 h).1
    have h1 : (W.putObj r (.map #[⟨encQ q, .int .i64 0, clk⟩] (clk + 1))).heap[r]? = some (.map #[⟨encQ q, .int .i64 0, clk⟩] (clk + 1)) := World.putObj_heap_same hlt
    exact ⟨0, clk, clk + 1, _, _, rfl, by omega, by omega, by omega, lookup_none q h, entry_none q h, by rw [lookup_one q q 0 clk h1]; simp, store_first _ _ _ clk h1, .inl rfl⟩
  | some (p, n), ⟨clk, b, hb, h⟩, hs =>
    have hn := hs p n rfl
    have hlt : r < W.heap.size := (Array.getElem?_eq_some_iff.1 h).1
    by_cases e : p = q
    · subst e
      have h1 : (W.putObj r (.map #[⟨encQ p, .int .i64 n, b⟩] clk)).heap[r]? = some (.map #[⟨encQ p, .int .i64 n, b⟩] clk) := World.putObj_heap_same hlt
      exact ⟨n, b, clk, _, _, by simp [stepRun], hn.1, hn.2, hb, by rw [lookup_one p p n b h]; simp, entry_same p n b h, by rw [lookup_one p p n b h1]; simp, store_first _ _ _ b h1, .inl rfl⟩
    · have hne : q ≠ p := fun h => e h.symm
      have h1 : (W.putObj r (.map #[⟨encQ p, .int .i64 n, b⟩, ⟨encQ q, .int .i64 0, clk⟩] (clk + 1))).heap[r]? = some (.map #[⟨encQ p, .int .i64 n, b⟩, ⟨encQ q, .int .i64 0, clk⟩] (clk + 1)) := World.putObj_heap_same hlt
      refine ⟨0, clk, clk + 1, _, _, by simp [stepRun, e], by omega, by omega, by omega, by rw [lookup_one p q n b h]; simp [hne], entry_other p q hne n b h, lookup_two p q _ _ _ _ hne h1, store_second _ _ _ _ _ b clk (by omega) h1, .inr ⟨p, _, b, e, hb, rfl⟩⟩
end

/-- How many entries are left to come. -/
def unseen (r it : Nat) (W : World) : Nat :=
  match W.heap[it]?, W.heap[r]? with
  | some (.mapIter _ _ sn _), some (.map es _) => (es.toList.filter fun e => !(sn.contains e.born)).length
  | _, _ => 0
theorem unseen_eq {r it : Nat} {W : World} {m : Option Nat} {k k2 clk : Nat} {sn : Array Nat} {es : Array MapEntry} (hi : W.heap[it]? = some (.mapIter m k sn k2)) (h : W.heap[r]? = some (.map es clk)) : unseen r it W = (es.toList.filter fun e => !(sn.contains e.born)).length := by
  simp [unseen, hi, h]

/-- What holds between two rounds of the inner loop. -/
def LInv (w : World) (g b off c : Nat) (had : List Int) (part prize : Int) (got : List Nat) (q : Int × Int) (n : Int) (b2 clk it : Nat) (o1 o2 : Nat × Obj) (W : World) : Prop :=
  AMid w g b off c had part prize got q W ∧ W.heap[o1.1]? = some o1.2 ∧ W.heap[o2.1]? = some o2.2 ∧ ∃ sn, W.heap[it]? = some (.mapIter (some (w.heap.size + 1)) clk sn clk) ∧
  (W.heap[w.heap.size + 1]? = some (.map #[⟨encQ q, .int .i64 n, b2⟩] clk) ∨
   ∃ p v b1, p ≠ q ∧ b1 < b2 ∧ W.heap[w.heap.size + 1]? = some (.map #[⟨encQ p, v, b1⟩, ⟨encQ q, .int .i64 n, b2⟩] clk) ∧ (sn = #[] ∨ sn = #[b2]))

section
variable {w : World} {g b off c : Nat} {had : List Int} {part prize : Int} {got : List Nat} {q : Int × Int} {n : Int} {b2 clk it : Nat} {o1 o2 : Nat × Obj} {W W' : World}
theorem LInv.mono (h : LInv w g b off c had part prize got q n b2 clk it o1 o2 W) (hb : Below W.heap.size W W') : LInv w g b off c had part prize got q n b2 clk it o1 o2 W' ∧ unseen (w.heap.size + 1) it W' = unseen (w.heap.size + 1) it W := by
  obtain ⟨hA, h1, h2, sn, hi, hm⟩ := h
  have hi' := heap_mono hi hb
  rcases hm with hm | ⟨p, v, b1, hne, hlt, hm, hsn⟩
  · have hm' := heap_mono hm hb
    exact ⟨⟨hA.mono hb, heap_mono h1 hb, heap_mono h2 hb, sn, hi', .inl hm'⟩, by rw [unseen_eq hi hm, unseen_eq hi' hm']⟩
  · have hm' := heap_mono hm hb
    exact ⟨⟨hA.mono hb, heap_mono h1 hb, heap_mono h2 hb, sn, hi', .inr ⟨p, v, b1, hne, hlt, hm', hsn⟩⟩, by rw [unseen_eq hi hm, unseen_eq hi' hm']⟩

/-- Before an old key is struck. -/
def LOld (w : World) (g b off c : Nat) (had : List Int) (part prize : Int) (got : List Nat) (q : Int × Int) (n : Int) (b2 clk it : Nat) (o1 o2 : Nat × Obj) (k : Int × Int) (v : Value) (m : Nat) (W : World) : Prop :=
  AMid w g b off c had part prize got q W ∧ W.heap[o1.1]? = some o1.2 ∧ W.heap[o2.1]? = some o2.2 ∧ ∃ sn b1, W.heap[it]? = some (.mapIter (some (w.heap.size + 1)) clk sn clk) ∧
  W.heap[w.heap.size + 1]? = some (.map #[⟨encQ k, v, b1⟩, ⟨encQ q, .int .i64 n, b2⟩] clk) ∧ ([b2].filter fun e => !(sn.contains e)).length < m

theorem LOld.strike {k : Int × Int} {v : Value} {m : Nat} (h : LOld w g b off c had part prize got q n b2 clk it o1 o2 k v m W) (hk : k ≠ q) (hg : g < w.heap.size) (hbl : b < w.heap.size) (ht : w.heap.size + 5 ≤ it) (h1 : o1.1 ≠ w.heap.size + 1) (h2 : o2.1 ≠ w.heap.size + 1) (X : Obj) :
    (∀ ty, (Builtin.delete_ #[104, 86] ty #[.map (some (w.heap.size + 1)), encQ k]).run Try.prog (W.alloc X) = .ok (.tuple #[]) ((W.alloc X).putObj (w.heap.size + 1) (.map #[⟨encQ q, .int .i64 n, b2⟩] clk))) ∧
    LInv w g b off c had part prize got q n b2 clk it o1 o2 ((W.alloc X).putObj (w.heap.size + 1) (.map #[⟨encQ q, .int .i64 n, b2⟩] clk)) ∧
    unseen (w.heap.size + 1) it ((W.alloc X).putObj (w.heap.size + 1) (.map #[⟨encQ q, .int .i64 n, b2⟩] clk)) < m := by
  obtain ⟨hA, hr, hd, sn, b1, hi, hm, hu⟩ := h
  have hb := bl_alloc (bl_refl W) X
  have hm1 := heap_mono hm hb
  have hi1 := (World.putObj_heap_other (o := .map #[⟨encQ q, .int .i64 n, b2⟩] clk) (show it ≠ w.heap.size + 1 by omega)).trans (heap_mono hi hb)
  have hm2 : ((W.alloc X).putObj (w.heap.size + 1) (.map #[⟨encQ q, .int .i64 n, b2⟩] clk)).heap[w.heap.size + 1]? = some (.map #[⟨encQ q, .int .i64 n, b2⟩] clk) := World.putObj_heap_same (Array.getElem?_eq_some_iff.1 hm1).1
  refine ⟨fun ty => delete_first k q hk v _ b1 b2 ty hm1, ⟨(hA.mono hb).grown (grownBy_putObj' _ _ _) (.inr rfl) hg hbl, (World.putObj_heap_other h1).trans (heap_mono hr hb), (World.putObj_heap_other h2).trans (heap_mono hd hb), sn, hi1, .inl hm2⟩, ?_⟩
  rw [unseen_eq hi1 hm2]
  refine Nat.lt_of_le_of_lt ?_ hu
  by_cases hs : b2 ∈ sn <;> simp [hs]

theorem LInv.next (h : LInv w g b off c had part prize got q n b2 clk it o1 o2 W) (hb2 : b2 < clk) (hg : g < w.heap.size) (hbl : b < w.heap.size) (ht : w.heap.size + 5 ≤ it) (h1 : o1.1 ≠ it) (h2 : o2.1 ≠ it) :
    ((∀ ty, (Instr.next (.pointer (some ⟨it, 0, none⟩)) false ty).run Try.prog W = .ok (.tuple #[.bool false]) W) ∧ W.heap[w.heap.size + 1]? = some (.map #[⟨encQ q, .int .i64 n, b2⟩] clk)) ∨
    ∃ w5 k v, (∀ ty, (Instr.next (.pointer (some ⟨it, 0, none⟩)) false ty).run Try.prog W = .ok (.tuple #[.bool true, encQ k, v]) w5) ∧ (Instr.entry (.pointer (some ⟨it, 0, none⟩))).run Try.prog w5 = .ok (.tuple #[encQ k, v]) w5 ∧
      ((k = q ∧ LInv w g b off c had part prize got q n b2 clk it o1 o2 w5 ∧ unseen (w.heap.size + 1) it w5 < unseen (w.heap.size + 1) it W) ∨
       (k ≠ q ∧ LOld w g b off c had part prize got q n b2 clk it o1 o2 k v (unseen (w.heap.size + 1) it W) w5)) := by
  obtain ⟨hA, hr, hd, sn, hi, hm⟩ := h
  have hput : ∀ (W : World) (sn' : Array Nat), AMid w g b off c had part prize got q W → W.heap[o1.1]? = some o1.2 → W.heap[o2.1]? = some o2.2 → it < W.heap.size →
      AMid w g b off c had part prize got q (W.putObj it (.mapIter (some (w.heap.size + 1)) clk sn' clk)) ∧ (W.putObj it (.mapIter (some (w.heap.size + 1)) clk sn' clk)).heap[o1.1]? = some o1.2 ∧ (W.putObj it (.mapIter (some (w.heap.size + 1)) clk sn' clk)).heap[o2.1]? = some o2.2 ∧ (W.putObj it (.mapIter (some (w.heap.size + 1)) clk sn' clk)).heap[it]? = some (.mapIter (some (w.heap.size + 1)) clk sn' clk) ∧ (W.putObj it (.mapIter (some (w.heap.size + 1)) clk sn' clk)).heap[w.heap.size + 1]? = W.heap[w.heap.size + 1]? :=
    fun W sn' hA hr hd hlt => ⟨hA.grown (grownBy_putObj' _ _ _) (.inl ht) hg hbl, (World.putObj_heap_other h1).trans hr, (World.putObj_heap_other h2).trans hd, World.putObj_heap_same hlt, World.putObj_heap_other (by omega)⟩
  have hlt := (Array.getElem?_eq_some_iff.1 hi).1
  rcases hm with hm | ⟨p, v, b1, hne, hb1, hm, hsn⟩
  · by_cases hs : b2 ∈ sn
    · exact .inl ⟨fun ty => next_over _ _ b2 sn ty hb2 hs hi hm, hm⟩
    · obtain ⟨a1, a2, a3, a4, a5⟩ := hput W (sn.push b2) hA hr hd hlt
      refine .inr ⟨_, q, .int .i64 n, fun ty => next_one _ _ b2 sn ty hb2 hs hi hm, entry_run _ ⟨encQ q, .int .i64 n, b2⟩ _ a4 (by simp) (a5.trans hm) (by simp), .inl ⟨rfl, ⟨a1, a2, a3, _, a4, .inl (a5.trans hm)⟩, ?_⟩⟩
      rw [unseen_eq a4 (a5.trans hm), unseen_eq hi hm]
      simp [hs]
  · have hbb : b1 < clk := by omega
    have hd1 : Below W.heap.size W W.drew := bl_drew (bl_refl W)
    obtain rfl | rfl := hsn
    · obtain ⟨a1, a2, a3, a4, a5⟩ := hput W.drew #[b1] (hA.mono hd1) hr hd hlt
      obtain ⟨c1, c2, c3, c4, c5⟩ := hput W.drew #[b2] (hA.mono hd1) hr hd hlt
      have hch : (∀ ty, (Instr.next (.pointer (some ⟨it, 0, none⟩)) false ty).run Try.prog W = .ok (.tuple #[.bool true, encQ p, v]) (W.drew.putObj it (.mapIter (some (w.heap.size + 1)) clk #[b1] clk))) ∨
          (∀ ty, (Instr.next (.pointer (some ⟨it, 0, none⟩)) false ty).run Try.prog W = .ok (.tuple #[.bool true, encQ q, .int .i64 n]) (W.drew.putObj it (.mapIter (some (w.heap.size + 1)) clk #[b2] clk))) := by
        rcases next_two (encQ p) v (encQ q) (.int .i64 n) b1 b2 0 (by omega) hbb hb2 hi hm with h | h
        · exact .inl fun ty => h
        · exact .inr fun ty => h
      have hmd : W.drew.heap[w.heap.size + 1]? = some (.map #[⟨encQ p, v, b1⟩, ⟨encQ q, .int .i64 n, b2⟩] clk) := hm
      have e12 : b1 ≠ b2 := by omega
      rcases hch with hch | hch
      · refine .inr ⟨_, p, v, hch, entry_run _ ⟨encQ p, v, b1⟩ _ a4 (by simp) (a5.trans hmd) (by simp), .inr ⟨hne, a1, a2, a3, _, b1, a4, a5.trans hmd, ?_⟩⟩
        rw [unseen_eq hi hm]
        simp [e12.symm]
      · refine .inr ⟨_, q, .int .i64 n, hch, entry_run _ ⟨encQ q, .int .i64 n, b2⟩ _ c4 (by simp) (c5.trans hmd) (by simp [e12]), .inl ⟨rfl, ⟨c1, c2, c3, _, c4, .inr ⟨p, v, b1, hne, hb1, c5.trans hmd, .inr rfl⟩⟩, ?_⟩⟩
        rw [unseen_eq c4 (c5.trans hmd), unseen_eq hi hm]
        simp [e12]
    · obtain ⟨a1, a2, a3, a4, a5⟩ := hput W #[b2, b1] hA hr hd hlt
      have e12 : b1 ≠ b2 := by omega
      refine .inr ⟨_, p, v, fun ty => next_second _ _ _ _ b1 b2 ty (by omega) hbb hb2 hi hm, entry_run _ ⟨encQ p, v, b1⟩ _ a4 (by simp) (a5.trans hm) (by simp), .inr ⟨hne, a1, a2, a3, _, b1, a4, a5.trans hm, ?_⟩⟩
      rw [unseen_eq hi hm]
      simp [e12]
end

set_option maxRecDepth 100000 in
set_option maxHeartbeats 2000000 in
theorem all_any {g b off c : Nat} {had : List Int} {part prize : Int} {w : World} (T : TabIs w g b off c had part prize zero12) (V : Val had part prize) :
    Calls Try.prog 58 #[.pointer (some ⟨g, 0, none⟩)] w fun e w' => e = .returned (.int .i64 (((runSt had part (ordN had part prize.toNat)).map (·.2)).getD 0)) ∧ TabIs w' g b off c had part prize (gotOf (ordN had part prize.toNat)) ∧ Old g w w' := by
  have hmm := @run_makeMap Try.prog
  have hg := T.glt
  have hbl := T.lt
  refine calls_marks Try.func58 rfl ?_
  simp only [Try.ntmps58, List.size_toArray, List.length_cons, List.length_nil, Nat.reduceAdd, Nat.reduceSub, Array.replicate_succ, Array.replicate_zero, List.push_toArray, List.append_toArray, List.nil_append, List.cons_append]
  go_wp2_with fail
  refine (give_any g _).mono ?_
  rintro e w2 ⟨rfl, rfl⟩
  go_wp2
  obtain ⟨W2, hW2⟩ : ∃ W2, ((((w.alloc (.cells #[.pointer (some ⟨g, 0, none⟩)] 71)).alloc (.map #[] 0)).alloc (.cells #[.map (some (w.heap.size + 1))] 104)).alloc (.cells #[.int .i64 0, .int .i64 0] 86)).alloc (.cells #[.pointer (some ⟨g, 0, none⟩)] 71) = W2 := ⟨_, rfl⟩
  have hz2 : W2.heap.size = w.heap.size + 5 := by rw [← hW2]; simp
  have H0 : AInv w g b off c had part prize [] [] W2 := by
    have hB : Below w.heap.size w W2 := by rw [← hW2]; exact bl_alloc (bl_alloc (bl_alloc (bl_alloc (bl_alloc (bl_refl _) _) _) _) _) _
    have hh : W2.heap = ((((w.heap.push (.cells #[.pointer (some ⟨g, 0, none⟩)] 71 (0, 0))).push (.map #[] 0)).push (.cells #[.map (some (w.heap.size + 1))] 104 (0, 0))).push (.cells #[.int .i64 0, .int .i64 0] 86 (0, 0))).push (.cells #[.pointer (some ⟨g, 0, none⟩)] 71 (0, 0)) := by rw [← hW2]; rfl
    refine ⟨⟨0, ?_⟩, (0, 0), ⟨T.mono hB, ?_, ?_, ?_, ?_, ⟨hB.os, hB.tape, hB.output, hB.size, fun k hk _ => hB.block k hk⟩⟩, fun p hp => by simp [runSt, runGo] at hp⟩
    all_goals (rw [hh]; simp only [Array.getElem?_push, Array.size_push])
    all_goals (repeat (first | rw [if_neg (by omega)] | rw [if_pos (by omega)]))
    all_goals rfl
  rw [hW2]
  clear hW2 hmm
  refine wp_rangeFunc_mine (gf := 75) (lb := #[.pointer (some ⟨w.heap.size + 1 + 1 + 1 + 1, 0, none⟩)]) rfl enters75 (encs := fun i : Nat => #[.int .i64 i]) (fun _ => rfl)
    (fun xs W => AInv w g b off c had part prize xs xs W) (fun xs W => AInv w g b off c had part prize xs xs.dropLast W) (fun _ _ _ => False)
    (fun xs => xs = ordN had part prize.toNat) (fun pre x => pre.length < prize.toNat ∧ x < had.length) (give_iter V (AInv.give hg) W2)
    (fun l hl => AInv.free (f := id) hg hbl (by omega)) (fun l hl => AInv.free (f := List.dropLast) hg hbl (by omega)) (fun _ _ _ _ _ _ h _ _ => h.elim)
    (fun W hW _ => H0.mono hW)
    (fun x => { tmps := #[.pointer (some ⟨g, 0, none⟩), .pointer (some ⟨w.heap.size, 0, none⟩), .int .i64 0, .pointer (some ⟨w.heap.size + 2, 0, none⟩), .pointer (some ⟨w.heap.size + 3, 0, none⟩), .int .i64 x, undef, .map (some (w.heap.size + 1)), .pointer (some ⟨g, 0, none⟩), .func (.func 75) #[] #[.pointer (some ⟨w.heap.size + 4, 0, none⟩)], .int .i64 x, undef, undef, undef, undef, undef, undef, undef, undef, undef, undef, undef, undef, undef, undef, undef, undef, undef, undef, undef, undef, undef, undef, undef], defers := [] }) ?assign ?body ?done ?stop
  case assign =>
    intro l x W K hK
    gi_wp2
    exact hK
  case body =>
    rintro l pre x W rfl ⟨hM, q0, hA, hq0⟩ ⟨hlen, hx⟩ ⟨r, hr⟩ hd
    have T := hA.tab
    have hz := V.z2
    have G : GotOk (gotOf pre) := gotOf_ok (by omega)
    have hcs : W.cell? ⟨w.heap.size, 0, none⟩ = some (.pointer (some ⟨g, 0, none⟩)) := by rw [cell_of_heap hA.bs]; rfl
    have hfs : W.frozen? ⟨w.heap.size, 0, none⟩ = false := frozen_of_heap hA.bs
    gi_wp2_with fail
    refine ⟨trivial, ?_⟩
    refine (CallsIn.inRound _ (callsIn_wide.2 (next_any T V G x hx))).mono ?_
    rintro e w1 ⟨rfl, hb1⟩
    have hA1 := hA.mono hb1
    have hM1 := hM.mono hb1
    have hr1 := heap_mono hr hb1
    have hd1 := heap_mono hd hb1
    have hA2 := hA1.now hg hbl (nextQ had part (gotOf pre) x)
    have hM2 := (hM1.grown (grown_set w1 (w.heap.size + 3) 0 (.int .i64 (nextQ had part (gotOf pre) x).1)) (by omega)).grown (grown_set _ (w.heap.size + 3) 1 (.int .i64 (nextQ had part (gotOf pre) x).2)) (by omega)
    have hr2 := book_set (book_set hr1 rfl ⟨w.heap.size + 3, 0, none⟩ (.int .i64 (nextQ had part (gotOf pre) x).1)) rfl ⟨w.heap.size + 3, 1, none⟩ (.int .i64 (nextQ had part (gotOf pre) x).2)
    have hd2 := book_set (book_set hd1 rfl ⟨w.heap.size + 3, 0, none⟩ (.int .i64 (nextQ had part (gotOf pre) x).1)) rfl ⟨w.heap.size + 3, 1, none⟩ (.int .i64 (nextQ had part (gotOf pre) x).2)
    have hcn : w1.cell? ⟨w.heap.size + 3, 0, none⟩ = some (.int .i64 q0.1) := by rw [cell_of_heap hA1.bn]; rfl
    have hcn1 : w1.cell? ⟨w.heap.size + 3, 1, none⟩ = some (.int .i64 q0.2) := by rw [cell_of_heap hA1.bn]; rfl
    have hfn : ∀ i, w1.frozen? ⟨w.heap.size + 3, i, none⟩ = false := fun i => frozen_of_heap hA1.bn
    have hst := runSt_snoc had part pre x
    have hsl : ∀ p n, runSt had part pre = some (p, n) → 0 ≤ n ∧ n ≤ 1000 := fun p n e => by have := runSt_le e; omega
    generalize nextQ had part (gotOf pre) x = q at *
    unfold encQ
    have HR := Lib.hid hr
    have HD := Lib.hid hd
    clear hM hA T G hcs hfs hr hd hb1 hM1 hr1 hd1
    gi_wp2_with fail
    generalize (w1.setCell ⟨w.heap.size + 3, 0, none⟩ (.int .i64 q.1)).setCell ⟨w.heap.size + 3, 1, none⟩ (.int .i64 q.2) = w2 at *
    clear hA1 hcn hcn1 hfn
    have hA3 := hA2.mono (bl_drew (bl_refl w2))
    have hM3 := hM2.mono (bl_drew (bl_refl w2))
    have hr3 := heap_mono hr2 (bl_drew (bl_refl w2))
    have hd3 := heap_mono hd2 (bl_drew (bl_refl w2))
    obtain ⟨n, b2, clk, es0, es, hstep, hn0, hn1, hb2, hlk, hme, hlk2, hes, hE⟩ := put_step hM3 q hsl
    rw [hstep] at hst
    obtain ⟨qn, qd⟩ := q
    unfold encQ at hlk hme hlk2
    have hcm : w2.cell? ⟨w.heap.size + 2, 0, none⟩ = some (.map (some (w.heap.size + 1))) := by rw [cell_of_heap hA2.bm]; rfl
    have hcn : w2.cell? ⟨w.heap.size + 3, 0, none⟩ = some (.int .i64 qn) := by rw [cell_of_heap hA2.bn]; rfl
    have hcn1 : w2.cell? ⟨w.heap.size + 3, 1, none⟩ = some (.int .i64 qd) := by rw [cell_of_heap hA2.bn]; rfl
    have hcm' : (w2.drew.putObj (w.heap.size + 1) (.map es0 clk)).cell? ⟨w.heap.size + 2, 0, none⟩ = some (.map (some (w.heap.size + 1))) := by rw [World.cell?_of_block (World.putObj_heap_other (by simp))]; exact hcm
    have hcn' : (w2.drew.putObj (w.heap.size + 1) (.map es0 clk)).cell? ⟨w.heap.size + 3, 0, none⟩ = some (.int .i64 qn) := by rw [World.cell?_of_block (World.putObj_heap_other (by simp))]; exact hcn
    have hcn1' : (w2.drew.putObj (w.heap.size + 1) (.map es0 clk)).cell? ⟨w.heap.size + 3, 1, none⟩ = some (.int .i64 qd) := by rw [World.cell?_of_block (World.putObj_heap_other (by simp))]; exact hcn1
    have hadd : IntKind.i64.wrap (n + 1) = n + 1 := IntWalk.i64_in _ (by omega)
    have HE := Lib.hid hE
    have HA := Lib.hid hA3
    clear hE hA3 hA2 hM3 hM2 hr2 hd2 hsl hstep
    simp only at hlk hme hlk2
    refine wpIn_mono (Q := fun e a' w' => e = .normal ∧ a' = { tmps := #[.pointer (some ⟨g, 0, none⟩), .pointer (some ⟨w.heap.size, 0, none⟩), .int .i64 0, .pointer (some ⟨w.heap.size + 2, 0, none⟩), .pointer (some ⟨w.heap.size + 3, 0, none⟩), .int .i64 x, undef, .map (some (w.heap.size + 1)), .pointer (some ⟨g, 0, none⟩), .func (.func 75) #[] #[.pointer (some ⟨w.heap.size + 4, 0, none⟩)], .int .i64 x, .pointer (some ⟨g, 0, none⟩), .int .i64 x, .agg #[.int .i64 qn, .int .i64 qd], .map (some (w.heap.size + 1)), .agg #[.int .i64 qn, .int .i64 qd], .int .i64 n, .int .i64 (n + 1), .tuple #[.int .i64 n, .int .i64 b2], .int .i64 b2, undef, undef, undef, undef, undef, undef, undef, undef, undef, undef, undef, undef, undef, undef], defers := [] } ∧ w' = ((w2.drew.putObj (w.heap.size + 1) (.map es0 clk)).putObj (w.heap.size + 1) (.map es clk))) (by gi_region; all_goals exact ⟨rfl, rfl, rfl⟩) ?_
    rintro e a' w' ⟨rfl, rfl, rfl⟩
    have hA4 := (HA.out.grown (grownBy_putObj' _ (w.heap.size + 1) (.map es0 clk)) (.inr rfl) hg hbl).grown (grownBy_putObj' _ (w.heap.size + 1) (.map es clk)) (.inr rfl) hg hbl
    have hm4 : ((w2.drew.putObj (w.heap.size + 1) (.map es0 clk)).putObj (w.heap.size + 1) (.map es clk)).heap[w.heap.size + 1]? = some (.map es clk) := World.putObj_heap_same (by rw [size_put]; have := (Array.getElem?_eq_some_iff.1 HA.out.bm).1; omega)
    have hr4 : ((w2.drew.putObj (w.heap.size + 1) (.map es0 clk)).putObj (w.heap.size + 1) (.map es clk)).heap[W2.heap.size + 1]? = some (.loop r) := (World.putObj_heap_other (by omega)).trans ((World.putObj_heap_other (by omega)).trans hr3)
    have hd4 : ((w2.drew.putObj (w.heap.size + 1) (.map es0 clk)).putObj (w.heap.size + 1) (.map es clk)).heap[W2.heap.size + 1 - 1]? = some (.deferred (some [])) := (World.putObj_heap_other (by omega)).trans ((World.putObj_heap_other (by omega)).trans hd3)
    clear hlk hme hlk2 hes HA hr3 hd3 hcm' hcn' hcn1' hcm hcn hcn1
    dsimp only
    generalize (w2.drew.putObj (w.heap.size + 1) (.map es0 clk)).putObj (w.heap.size + 1) (.map es clk) = w3 at *
    have hbm : w3.cell? ⟨w.heap.size + 2, 0, none⟩ = some (.map (some (w.heap.size + 1))) := by rw [cell_of_heap hA4.bm]; rfl
    have hrg := range_run es hm4
    have hA5 := hA4.mono (bl_alloc (bl_refl w3) (.mapIter (some (w.heap.size + 1)) clk #[] clk))
    have hm5 := heap_mono hm4 (bl_alloc (bl_refl w3) (.mapIter (some (w.heap.size + 1)) clk #[] clk))
    have hr5 := heap_mono hr4 (bl_alloc (bl_refl w3) (.mapIter (some (w.heap.size + 1)) clk #[] clk))
    have hd5 := heap_mono hd4 (bl_alloc (bl_refl w3) (.mapIter (some (w.heap.size + 1)) clk #[] clk))
    have hit := World.alloc_heap_new w3 (.mapIter (some (w.heap.size + 1)) clk #[] clk)
    have hitl := (Array.getElem?_eq_some_iff.1 hA4.bt).1
    have hitr := (Array.getElem?_eq_some_iff.1 hr4).1
    have hL0 : LInv w g b off c had part prize pre (qn, qd) (n + 1) b2 clk w3.heap.size (W2.heap.size + 1, .loop r) (W2.heap.size + 1 - 1, .deferred (some [])) (w3.alloc (.mapIter (some (w.heap.size + 1)) clk #[] clk)) := by
      refine ⟨hA5, hr5, hd5, #[], hit, ?_⟩
      rcases HE.out with rfl | ⟨p, v, b1, h1, h2, rfl⟩
      · exact .inl hm5
      · exact .inr ⟨p, v, b1, h1, h2, hm5, .inl rfl⟩
    have HA5 := Lib.hid hL0
    clear hA4 hm4 hr4 hd4 hA5 hm5 hr5 hd5 hit hL0 HE
    gi_wp2_with fail
    gi_loopw [22] (fun _ wr => LInv w g b off c had part prize pre (qn, qd) (n + 1) b2 clk w3.heap.size (W2.heap.size + 1, .loop r) (W2.heap.size + 1 - 1, .deferred (some [])) wr) (fun _ wr => unseen (w.heap.size + 1) w3.heap.size wr)
    case atStart => exact HA5.out
    case round =>
      clear HA5 hbm hrg
      have HL := Lib.hid hrel
      rcases hrel.next hb2 hg hbl (by omega) (by simp; omega) (by simp; omega) with ⟨hnx, hm⟩ | ⟨w5, ⟨kn, kd⟩, v, hnx, hen, (⟨hk, hL, hu⟩ | ⟨hk, hO⟩)⟩
      · have HM := Lib.hid hm
        clear hm hrel
        gi_wp2
        refine ⟨HL.out.2.1.trans HR.out.symm, HL.out.2.2.1.trans HD.out.symm, ?_, (qn, qd), ?_, ?_⟩
        · rw [hst]
          exact ⟨clk, b2, hb2, HM.out⟩
        · rw [show (pre ++ [x]).dropLast = pre by simp]
          exact HL.out.1
        · rw [hst]
          rintro p hp
          injection hp with hp
          rw [← hp]
      · injection hk with hk1 hk2
        subst hk1 hk2
        have hcn : w5.cell? ⟨w.heap.size + 3, 0, none⟩ = some (.int .i64 kn) := by rw [cell_of_heap hL.1.bn]; rfl
        have hcn1 : w5.cell? ⟨w.heap.size + 3, 1, none⟩ = some (.int .i64 kd) := by rw [cell_of_heap hL.1.bn]; rfl
        have hz5 := (Array.getElem?_eq_some_iff.1 hL.1.bn).1
        have heq : ∀ W, (Op.equal 86 (.agg #[.int .i64 kn, .int .i64 kd]) (.agg #[.int .i64 kn, .int .i64 kd])).run Try.prog W = .ok true W := fun W => by have := eq86 (kn, kd) (kn, kd) W; simpa [encQ] using this
        unfold encQ at hnx hen
        have HL5 := Lib.hid hL
        have HU := Lib.hid hu
        clear hL hu hrel
        gi_wp2
        have := HL5.out.mono (bl_alloc (bl_refl w5) (.cells #[.int .i64 kn, .int .i64 kd] 86))
        exact ⟨this.1, by rw [this.2]; exact HU.out⟩
      · have hcn : w5.cell? ⟨w.heap.size + 3, 0, none⟩ = some (.int .i64 qn) := by rw [cell_of_heap hO.1.bn]; rfl
        have hcn1 : w5.cell? ⟨w.heap.size + 3, 1, none⟩ = some (.int .i64 qd) := by rw [cell_of_heap hO.1.bn]; rfl
        have hz5 := (Array.getElem?_eq_some_iff.1 hO.1.bn).1
        have hz6 := (Array.getElem?_eq_some_iff.1 hO.1.bm).1
        have heq : ∀ W, (Op.equal 86 (.agg #[.int .i64 kn, .int .i64 kd]) (.agg #[.int .i64 qn, .int .i64 qd])).run Try.prog W = .ok false W := fun W => by have := eq86 (kn, kd) (qn, qd) W; rw [decide_eq_false hk] at this; simpa [encQ] using this
        have hcm : w5.cell? ⟨w.heap.size + 2, 0, none⟩ = some (.map (some (w.heap.size + 1))) := by rw [cell_of_heap hO.1.bm]; rfl
        obtain ⟨hdl, hL, hu⟩ := hO.strike hk hg hbl (by omega) (by simp; omega) (by simp; omega) (.cells #[.int .i64 kn, .int .i64 kd] 86)
        unfold encQ at hnx hen hdl
        have HL5 := Lib.hid hL
        have HU := Lib.hid hu
        clear hL hu hrel hO
        simp only at hdl hnx hen
        by_cases h1 : kn = qn
        · subst h1
          have h2 : kd ≠ qd := fun e => hk (by rw [e])
          have h2' : (kd == qd) = false := by simpa using h2
          have h2'' : decide (kd = qd) = false := by simpa using h2
          gi_wp2
          exact ⟨HL5.out, HU.out⟩
        · have h2' : (kn == qn) = false := by simpa using h1
          have h2'' : decide (kn = qn) = false := by simpa using h1
          gi_wp2
          exact ⟨HL5.out, HU.out⟩
  case done =>
    rintro D xs W rfl rfl ⟨hM, ⟨qn, qd⟩, hA, hq⟩ hK
    have hcm : W.cell? ⟨w.heap.size + 2, 0, none⟩ = some (.map (some (w.heap.size + 1))) := by rw [cell_of_heap hA.bm]; rfl
    have hcn : W.cell? ⟨w.heap.size + 3, 0, none⟩ = some (.int .i64 qn) := by rw [cell_of_heap hA.bn]; rfl
    have hcn1 : W.cell? ⟨w.heap.size + 3, 1, none⟩ = some (.int .i64 qd) := by rw [cell_of_heap hA.bn]; rfl
    have hlk : (Instr.lookup 104 (.map (some (w.heap.size + 1))) (.agg #[.int .i64 qn, .int .i64 qd]) false).run Try.prog W = .ok (.int .i64 (((runSt had part (ordN had part prize.toNat)).map (·.2)).getD 0)) W := by
      generalize hs : runSt had part (ordN had part prize.toNat) = s at *
      match s, hM, hq with
      | none, ⟨clk, h⟩, _ => exact lookup_none (qn, qd) h
      | some (p, n), ⟨clk, b, _, h⟩, hq =>
        have e := hq _ rfl
        simp only at e
        subst e
        have := lookup_one (qn, qd) (qn, qd) n b h
        simpa [encQ] using this
    have hT := Lib.hid (hA.tab.put (.deferred none) hK rfl)
    have hO := Lib.hid (hA.old.grown (grownBy_putObj' W W2.heap.size (.deferred none)) (.inl (by omega)))
    have HK := Lib.hid hK
    clear hM hA hq hK H0
    generalize hres : ((runSt had part (ordN had part prize.toNat)).map (·.2)).getD 0 = res at hlk
    have HRS := Lib.hid hres
    clear hres
    simp only
    go_wp2
    refine leave_one rfl HK.out (results_tmp rfl _ _ _) ?_
    refine ⟨?_, hT.out, hO.out⟩
    rw [HRS.out]
    simp
  case stop =>
    rintro D cc pre W _ h _
    exact h.elim

end Go.Proofs.Ytfchcikdcnloaaa
