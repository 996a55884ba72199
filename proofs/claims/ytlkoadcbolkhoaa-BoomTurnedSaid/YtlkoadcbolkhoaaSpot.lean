/- A map by reaches and days (a struct key), told by a function: what each operation on it does. -/
import Derived.Test.YtlkoadcbolkhoaaKit
set_option linter.all false
namespace Go.Proofs.Ytlkoadcbolkhoaa
open Go Go.RowKit Go.Proofs

def encS (k : Int × Int) : Value := .agg #[.int .i64 k.1, .int .i64 k.2]

theorem eq104 (a b : Int × Int) (w : World) : (Op.equal 104 (encS a) (encS b)).run Try.prog w = .ok (decide (a = b)) w := by
  obtain ⟨a1, a2⟩ := a
  obtain ⟨b1, b2⟩ := b
  unfold encS
  have u3 := Try.underlying3
  have a3' := Try.isAgg3
  have z3 := Try.sizeOf3
  have hS : Try.prog.underlying 104 = some (.struct (Try.prog.fieldsOf 104)) := by kernel_rfl
  have hp : Try.prog.stoodInHeld 104 = false := by kernel_rfl
  unfold Op.equal
  rw [show Op.maxDepth = 9999 + 1 from rfl, run_equalIn_struct w 9999 104 _ _ hS hp]
  simp only [Program.fieldsOf, Try.underlying104]
  go_simp
  by_cases h1 : a1 = b1 <;> by_cases h2 : a2 = b2 <;> simp [h1, h2]
theorem check104 (empty : Bool) (q : Int × Int) (w : World) : (Instr.checkKey empty 10000 104 (encS q)).run Try.prog w = .ok () w := by
  unfold encS
  kernel_rfl

theorem run_getObj_at {W : World} {r : Nat} {o : Obj} (h : W.heap[r]? = some o) (ho : o.isCells = false) : (getObj r).run Try.prog W = .ok o W := by
  unfold getObj
  simp only [Sem.run, h]
  cases o <;> simp_all [Obj.isCells]
theorem run_setObj_at {W : World} {r : Nat} {o o' : Obj} (h : W.heap[r]? = some o) (ho : o.isCells = false) : (setObj r o').run Try.prog W = .ok () (W.putObj r o') := by
  unfold setObj
  simp only [Sem.run, h]
  cases o <;> simp_all [Obj.isCells, World.putObj]

/-- An entry. -/
structure Ent where
  key : Int × Int
  val : Int
  born : Nat
def mkE (e : Ent) : MapEntry := ⟨encS e.key, .int .i64 e.val, e.born⟩
def findS (k : Int × Int) : List Ent → Nat → Option (Nat × Int)
  | [], _ => none
  | e :: es, i => if k = e.key then some (i, e.val) else findS k es (i + 1)
theorem findS_some {k : Int × Int} {es : List Ent} {i j : Nat} {v : Int} (h : findS k es i = some (j, v)) : i ≤ j ∧ ∃ e, es[j - i]? = some e ∧ e.key = k ∧ e.val = v := by
  induction es generalizing i with
  | nil => simp [findS] at h
  | cons e es ih =>
    unfold findS at h
    split at h
    · rename_i hk
      injection h with h
      injection h with h1 h2
      subst h1 h2
      exact ⟨Nat.le_refl _, e, by simp, hk.symm, rfl⟩
    · obtain ⟨h1, e', h2, h3, h4⟩ := ih h
      refine ⟨by omega, e', ?_, h3, h4⟩
      rw [show j - i = (j - (i + 1)) + 1 by omega, List.getElem?_cons_succ]
      exact h2
theorem findS_none {k : Int × Int} {es : List Ent} {i : Nat} (h : findS k es i = none) : ∀ e ∈ es, e.key ≠ k := by
  induction es generalizing i with
  | nil => intro e he; simp at he
  | cons e es ih =>
    unfold findS at h
    split at h
    · simp at h
    · rename_i hk
      intro e' he
      rcases List.mem_cons.1 he with rfl | he
      · exact fun q => hk q.symm
      · exact ih h e' he

theorem findAsk (k : Int × Int) (es : List Ent) (i : Nat) (w : World) : (Instr.findAsking 104 (encS k) (es.map mkE) i).run Try.prog w = .ok ((findS k es i).map fun p => (p.1, .int .i64 p.2)) w := by
  induction es generalizing i with
  | nil => rfl
  | cons e es ih =>
    simp only [List.map_cons, Instr.findAsking, findS]
    have h := eq104 k e.key w
    simp only [Sem.run_bind, mkE, h, Result.andThen_ok]
    by_cases hk : k = e.key
    · simp [hk]
    · simp only [hk, decide_false, Bool.false_eq_true, if_false]
      exact ih (i + 1)
theorem findKey104 (k : Int × Int) (es : List Ent) (w : World) : (Instr.findKey 104 (encS k) (es.map mkE)).run Try.prog w = .ok ((findS k es 0).map fun p => (p.1, .int .i64 p.2)) w := by
  have u := Try.underlying104
  cases es with
  | nil =>
    show (Instr.findKey 104 (encS k) []).run Try.prog w = .ok none w
    unfold encS
    kernel_rfl
  | cons e es =>
    rw [← findAsk k (e :: es) 0 w]
    unfold Instr.findKey
    simp only [Sem.run_bind, run_underlying u, Result.andThen_ok, List.map_cons, Instr.findNow, Instr.sameNow]

/-- Keys differ, and so do the times at which entries were laid. -/
structure Good (es : List Ent) (clk : Nat) : Prop where
  keys : ∀ (i j : Nat) (a b : Ent), es[i]? = some a → es[j]? = some b → a.key = b.key → i = j
  born : ∀ (i j : Nat) (a b : Ent), es[i]? = some a → es[j]? = some b → a.born = b.born → i = j
  lt : ∀ e ∈ es, e.born < clk
def valS (k : Int × Int) (es : List Ent) : Int := match findS k es 0 with
  | some p => p.2
  | none => 0
theorem valS_at {es : List Ent} {clk i : Nat} {e : Ent} (G : Good es clk) (h : es[i]? = some e) : valS e.key es = e.val := by
  unfold valS
  cases hf : findS e.key es 0 with
  | none => exact absurd rfl (findS_none hf e (List.mem_of_getElem? h))
  | some p =>
    obtain ⟨j, v⟩ := p
    obtain ⟨_, e', h1, h2, h3⟩ := findS_some hf
    rw [Nat.sub_zero] at h1
    have := G.keys j i e' e h1 h h2
    subst this
    rw [h] at h1
    injection h1 with h1
    subst h1
    exact h3.symm
theorem valS_no {es : List Ent} {k : Int × Int} (h : ∀ e ∈ es, e.key ≠ k) : valS k es = 0 := by
  unfold valS
  cases hf : findS k es 0 with
  | none => rfl
  | some p =>
    obtain ⟨j, v⟩ := p
    obtain ⟨_, e', h1, h2, _⟩ := findS_some hf
    exact absurd h2 (h e' (List.mem_of_getElem? h1))

/-- Block r is a map that reads as f. -/
def SpotMap (W : World) (r : Nat) (f : Int × Int → Int) : Prop := ∃ (es : List Ent) (clk : Nat), W.heap[r]? = some (.map (es.map mkE).toArray clk) ∧ Good es clk ∧ ∀ k, valS k es = f k
/-- .. and its entry of that time has this key. -/
def SpotEnt (W : World) (r : Nat) (f : Int × Int → Int) (b : Nat) (k : Int × Int) : Prop := ∃ (es : List Ent) (clk i : Nat) (e : Ent), W.heap[r]? = some (.map (es.map mkE).toArray clk) ∧ Good es clk ∧ (∀ k, valS k es = f k) ∧ es[i]? = some e ∧ e.born = b ∧ e.key = k
theorem SpotEnt.map {W : World} {r b : Nat} {f : Int × Int → Int} {k : Int × Int} (h : SpotEnt W r f b k) : SpotMap W r f := by
  obtain ⟨es, clk, i, e, h1, h2, h3, _⟩ := h
  exact ⟨es, clk, h1, h2, h3⟩
theorem SpotMap.keep {W W' : World} {r : Nat} {f : Int × Int → Int} (h : SpotMap W r f) (hk : ∀ o, W.heap[r]? = some o → W'.heap[r]? = some o) : SpotMap W' r f := by
  obtain ⟨es, clk, h1, h2, h3⟩ := h
  exact ⟨es, clk, hk _ h1, h2, h3⟩
theorem SpotEnt.keep {W W' : World} {r b : Nat} {f : Int × Int → Int} {k : Int × Int} (h : SpotEnt W r f b k) (hk : ∀ o, W.heap[r]? = some o → W'.heap[r]? = some o) : SpotEnt W' r f b k := by
  obtain ⟨es, clk, i, e, h1, h2⟩ := h
  exact ⟨es, clk, i, e, hk _ h1, h2⟩
theorem SpotMap.lt {W : World} {r : Nat} {f : Int × Int → Int} (h : SpotMap W r f) : r < W.heap.size := by
  obtain ⟨es, clk, h1, _⟩ := h
  exact (Array.getElem?_eq_some_iff.1 h1).1
theorem SpotMap.made (W : World) : SpotMap (W.alloc (.map #[] 0)) W.heap.size fun _ => 0 :=
  ⟨[], 0, World.alloc_heap_new W _, ⟨fun i j a b h => by simp at h, fun i j a b h => by simp at h, fun e h => by simp at h⟩, fun k => rfl⟩
def updS (f : Int × Int → Int) (k : Int × Int) (v : Int) : Int × Int → Int := fun q => if q = k then v else f q

theorem SpotMap.lookup {W : World} {r : Nat} {f : Int × Int → Int} (h : SpotMap W r f) (k : Int × Int) : (Instr.lookup 88 (.map (some r)) (encS k) false).run Try.prog W = .ok (.int .i64 (f k)) W := by
  obtain ⟨es, clk, h1, h2, h3⟩ := h
  have u := Try.underlying88
  have z := Try.zeroValue3
  have hf := findKey104 k es W
  have hv := h3 k
  unfold valS at hv
  unfold Instr.lookup
  cases hk : findS k es 0 with
  | none =>
    rw [hk] at hf hv
    simp only at hv
    simp [Sem.run_bind, run_underlying u, run_getObj_at h1 rfl, check104, hf, z, Result.andThen, ← hv]
  | some p =>
    rw [hk] at hf hv
    simp only at hv
    simp [Sem.run_bind, run_underlying u, run_getObj_at h1 rfl, check104, hf, Result.andThen, ← hv]

theorem ent_list {es : List Ent} {i : Nat} {e : Ent} (h : es[i]? = some e) : (es.map mkE).toArray[i]? = some (mkE e) := by simp [h]
theorem stays104 (q : Int × Int) (W : World) : (Instr.keyThatStays (encS q) (encS q)).run Try.prog W = .ok (encS q) W := by
  have : Instr.sameBits 10000 (encS q) (encS q) = true := by
    unfold encS
    simp [Instr.sameBits]
  unfold Instr.keyThatStays
  simp [this]
theorem modify_same {es : List Ent} {i : Nat} {e : Ent} (h : es[i]? = some e) : (es.map mkE).toArray.modify i (fun x => { x with key := encS e.key }) = (es.map mkE).toArray := by
  apply Array.ext_getElem?
  intro j
  rw [Array.getElem?_modify]
  split
  · rename_i he
    subst he
    rw [ent_list h]
    rfl
  · rfl

theorem findS_append (q : Int × Int) (es : List Ent) (k : Int × Int) (clk : Nat) : ∀ i, findS q (es ++ [(⟨k, 0, clk⟩ : Ent)]) i = match findS q es i with
    | some p => some p
    | none => if q = k then some (i + es.length, 0) else none := by
  induction es with
  | nil => intro i; simp [findS]
  | cons e es ih =>
    intro i
    simp only [List.cons_append, findS]
    split
    · rfl
    · rw [ih (i + 1)]
      simp only [List.length_cons]
      rw [show i + 1 + es.length = i + (es.length + 1) by omega]

/-- The entry that is asked for is laid if it isn't there: the map reads as before. -/
theorem SpotMap.entry {W : World} {r : Nat} {f : Int × Int → Int} (h : SpotMap W r f) (k : Int × Int) : ∃ (W' : World) (b : Nat) (o : Obj), (Instr.mapEntry 88 (.map (some r)) (encS k)).run Try.prog W = .ok (.tuple #[.int .i64 (f k), goInt b]) W' ∧ W' = W.putObj r o ∧ SpotEnt W' r f b k := by
  obtain ⟨es, clk, h1, h2, h3⟩ := h
  have u := Try.underlying88
  have z := Try.zeroValue3
  have hf := findKey104 k es W
  have hv := h3 k
  have hlt := (Array.getElem?_eq_some_iff.1 h1).1
  unfold valS at hv
  cases hk : findS k es 0 with
  | none =>
    rw [hk] at hf hv
    simp only at hv
    have hno := findS_none hk
    refine ⟨W.putObj r (.map ((es ++ [(⟨k, 0, clk⟩ : Ent)]).map mkE).toArray (clk + 1)), clk, _, ?_, rfl, es ++ [(⟨k, 0, clk⟩ : Ent)], clk + 1, es.length, ⟨k, 0, clk⟩, World.putObj_heap_same hlt, ?_, fun q => ?_, by simp, rfl, rfl⟩
    · unfold Instr.mapEntry
      simp [Sem.run_bind, run_underlying u, run_getObj_at h1 rfl, run_setObj_at h1 rfl, check104, hf, z, Result.andThen, ← hv, mkE]
    · have key : ∀ (i : Nat) (a : Ent), (es ++ [(⟨k, 0, clk⟩ : Ent)])[i]? = some a → (i < es.length ∧ es[i]? = some a) ∨ (i = es.length ∧ a = ⟨k, 0, clk⟩) := fun i a ha => by
        by_cases hi : i < es.length
        · rw [List.getElem?_append_left hi] at ha; exact .inl ⟨hi, ha⟩
        · have hi2 := (List.getElem?_eq_some_iff.1 ha).1
          simp at hi2
          obtain rfl : i = es.length := by omega
          rw [List.getElem?_append_right (Nat.le_refl _), Nat.sub_self] at ha
          exact .inr ⟨rfl, by simpa using ha.symm⟩
      refine ⟨fun i j a b ha hb e => ?_, fun i j a b ha hb e => ?_, fun a ha => ?_⟩
      · rcases key i a ha with ⟨_, ha⟩ | ⟨rfl, rfl⟩ <;> rcases key j b hb with ⟨_, hb⟩ | ⟨rfl, rfl⟩
        · exact h2.keys i j a b ha hb e
        · exact absurd e (hno a (List.mem_of_getElem? ha))
        · exact absurd e.symm (hno b (List.mem_of_getElem? hb))
        · rfl
      · rcases key i a ha with ⟨_, ha⟩ | ⟨rfl, rfl⟩ <;> rcases key j b hb with ⟨_, hb⟩ | ⟨rfl, rfl⟩
        · exact h2.born i j a b ha hb e
        · have := h2.lt a (List.mem_of_getElem? ha); simp only at e; omega
        · have := h2.lt b (List.mem_of_getElem? hb); simp only at e; omega
        · rfl
      · rcases List.mem_append.1 ha with ha | ha
        · have := h2.lt a ha; omega
        · obtain rfl := List.mem_singleton.1 ha; exact Nat.lt_succ_self _
    · rw [← h3 q]
      unfold valS
      have this := findS_append q es k clk
      rw [this 0]
      cases findS q es 0 with
      | some p => rfl
      | none => by_cases hq : q = k <;> simp [hq]
  | some p =>
    obtain ⟨i, v⟩ := p
    obtain ⟨_, e, e1, e2, e3⟩ := findS_some hk
    rw [Nat.sub_zero] at e1
    rw [hk] at hf hv
    simp only at hv
    subst e2
    refine ⟨W.putObj r (.map (es.map mkE).toArray clk), e.born, _, ?_, rfl, es, clk, i, e, World.putObj_heap_same hlt, h2, h3, e1, rfl, rfl⟩
    have h4 := ent_list e1
    have h5 := modify_same e1
    unfold Instr.mapEntry
    have h6 : (((es.map mkE).toArray[i]?).map (·.key)).getD (encS e.key) = encS e.key := by rw [h4]; rfl
    have h7 : (((es.map mkE).toArray[i]?).map (fun x => (x.born : Int))).getD 0 = (e.born : Int) := by rw [h4]; rfl
    simp only [Sem.run_bind, run_underlying u, run_getObj_at h1 rfl, check104, hf, Result.andThen_ok, Option.map_some, h6, h7, stays104, h5, run_setObj_at h1 rfl, Sem.run_pure]
    rw [← hv]

theorem find_born {es : List Ent} {clk i : Nat} {e : Ent} (G : Good es clk) (h : es[i]? = some e) : (es.map mkE).toArray.findIdx? (fun x => (x.born : Int) == (e.born : Int)) = some i := by
  rw [List.findIdx?_toArray]
  rw [List.findIdx?_eq_some_iff_getElem]
  have hi := (List.getElem?_eq_some_iff.1 h).1
  have he := (List.getElem?_eq_some_iff.1 h).2
  refine ⟨by simpa using hi, by simp [mkE, he], fun j hj => ?_⟩
  have hj2 : j < es.length := by omega
  have := G.born j i (es[j]) e (by simp [hj2]) h
  simp only [List.getElem_map, mkE, beq_iff_eq]
  intro e2
  have := this (by omega)
  omega

/-- What is stored into the entry of that time is read under its key. -/
theorem SpotEnt.store {W : World} {r b : Nat} {f : Int × Int → Int} {k : Int × Int} (h : SpotEnt W r f b k) (v : Int) : ∃ (W' : World) (o : Obj), (Instr.entryStore 88 (.map (some r)) (goInt b) (.int .i64 v)).run Try.prog W = .ok () W' ∧ W' = W.putObj r o ∧ SpotMap W' r (updS f k v) := by
  obtain ⟨es, clk, i, e, h1, h2, h3, h4, rfl, rfl⟩ := h
  have hlt := (Array.getElem?_eq_some_iff.1 h1).1
  have hi := (List.getElem?_eq_some_iff.1 h4).1
  have ha : ∀ m : Int, (asIntOf (.int .i64 m)).run Try.prog W = .ok (.i64, m) W := fun m => rfl
  have hm : (es.map mkE).toArray.modify i (fun x => { x with val := Value.int .i64 v }) = ((es.set i ⟨e.key, v, e.born⟩).map mkE).toArray := by
    apply Array.ext_getElem?
    intro j
    rw [Array.getElem?_modify]
    simp only [List.getElem?_toArray, List.getElem?_map, List.getElem?_set]
    split
    · rename_i hj
      subst hj
      rw [h4]
      first | rfl | (rw [if_pos hi]; rfl)
    · rfl
  have hg : ∀ (j : Nat) (a : Ent), (es.set i ⟨e.key, v, e.born⟩)[j]? = some a → ∃ a', es[j]? = some a' ∧ a'.key = a.key ∧ a'.born = a.born ∧ (j ≠ i → a' = a) := fun j a hj => by
    rw [List.getElem?_set] at hj
    split at hj
    · rename_i hji
      subst hji
      have hj' : some (⟨e.key, v, e.born⟩ : Ent) = some a := by simpa [hi] using hj
      injection hj' with hj'
      subst hj'
      exact ⟨e, h4, rfl, rfl, fun q => absurd rfl q⟩
    · exact ⟨a, hj, rfl, rfl, fun _ => rfl⟩
  have hG : Good (es.set i ⟨e.key, v, e.born⟩) clk := by
    refine ⟨fun j l a c ha hc q => ?_, fun j l a c ha hc q => ?_, fun a ha => ?_⟩
    · obtain ⟨a', a1, a2, _⟩ := hg j a ha
      obtain ⟨c', c1, c2, _⟩ := hg l c hc
      exact h2.keys j l a' c' a1 c1 (by rw [a2, c2, q])
    · obtain ⟨a', a1, _, a2, _⟩ := hg j a ha
      obtain ⟨c', c1, _, c2, _⟩ := hg l c hc
      exact h2.born j l a' c' a1 c1 (by rw [a2, c2, q])
    · obtain ⟨j, hj, rfl⟩ := List.mem_iff_getElem.mp ha
      obtain ⟨a', a1, _, a2, _⟩ := hg j _ (List.getElem?_eq_getElem hj)
      have := h2.lt a' (List.mem_of_getElem? a1)
      omega
  refine ⟨W.putObj r (.map ((es.set i ⟨e.key, v, e.born⟩).map mkE).toArray clk), _, ?_, rfl, _, clk, World.putObj_heap_same hlt, hG, fun q => ?_⟩
  · have hfb := find_born h2 h4
    unfold Instr.entryStore
    simp only [Sem.run_bind, run_getObj_at h1 rfl, goInt, Result.andThen_ok, asInt, ha, Sem.run_pure, hfb, hm]
    exact run_setObj_at h1 rfl
  · have hnew : (es.set i ⟨e.key, v, e.born⟩)[i]? = some ⟨e.key, v, e.born⟩ := by simp [hi]
    unfold updS
    by_cases hq : q = e.key
    · rw [if_pos hq, hq]
      exact valS_at hG hnew
    · rw [if_neg hq, ← h3 q]
      unfold valS
      cases hk : findS q es 0 with
      | none =>
        have hno := findS_none hk
        have : valS q (es.set i ⟨e.key, v, e.born⟩) = 0 := valS_no fun a ha => by
          obtain ⟨j, hj, rfl⟩ := List.mem_iff_getElem.mp ha
          obtain ⟨a', a1, a2, _⟩ := hg j _ (List.getElem?_eq_getElem hj)
          rw [← a2]
          exact hno a' (List.mem_of_getElem? a1)
        unfold valS at this
        exact this
      | some p =>
        obtain ⟨j, y⟩ := p
        obtain ⟨_, a, a1, a2, a3⟩ := findS_some hk
        rw [Nat.sub_zero] at a1
        have hji : j ≠ i := by
          rintro rfl
          rw [h4] at a1
          injection a1 with a1
          subst a1
          exact hq a2.symm
        have h5 : (es.set i ⟨e.key, v, e.born⟩)[j]? = some a := by rw [List.getElem?_set, if_neg (Ne.symm hji)]; exact a1
        have h6 := valS_at hG h5
        rw [a2, a3] at h6
        unfold valS at h6
        exact h6

theorem set_ok {es : List Ent} {clk i : Nat} {e : Ent} {f : Int × Int → Int} (h2 : Good es clk) (h3 : ∀ k, valS k es = f k) (h4 : es[i]? = some e) (v : Int) : Good (es.set i ⟨e.key, v, e.born⟩) clk ∧ ∀ q, valS q (es.set i ⟨e.key, v, e.born⟩) = updS f e.key v q := by
  have hi := (List.getElem?_eq_some_iff.1 h4).1
  have hg : ∀ (j : Nat) (a : Ent), (es.set i ⟨e.key, v, e.born⟩)[j]? = some a → ∃ a', es[j]? = some a' ∧ a'.key = a.key ∧ a'.born = a.born ∧ (j ≠ i → a' = a) := fun j a hj => by
    rw [List.getElem?_set] at hj
    split at hj
    · rename_i hji
      subst hji
      have hj' : some (⟨e.key, v, e.born⟩ : Ent) = some a := by simpa [hi] using hj
      injection hj' with hj'
      subst hj'
      exact ⟨e, h4, rfl, rfl, fun q => absurd rfl q⟩
    · exact ⟨a, hj, rfl, rfl, fun _ => rfl⟩
  have hG : Good (es.set i ⟨e.key, v, e.born⟩) clk := by
    refine ⟨fun j l a c ha hc q => ?_, fun j l a c ha hc q => ?_, fun a ha => ?_⟩
    · obtain ⟨a', a1, a2, _⟩ := hg j a ha
      obtain ⟨c', c1, c2, _⟩ := hg l c hc
      exact h2.keys j l a' c' a1 c1 (by rw [a2, c2, q])
    · obtain ⟨a', a1, _, a2, _⟩ := hg j a ha
      obtain ⟨c', c1, _, c2, _⟩ := hg l c hc
      exact h2.born j l a' c' a1 c1 (by rw [a2, c2, q])
    · obtain ⟨j, hj, rfl⟩ := List.mem_iff_getElem.mp ha
      obtain ⟨a', a1, _, a2, _⟩ := hg j _ (List.getElem?_eq_getElem hj)
      have := h2.lt a' (List.mem_of_getElem? a1)
      omega
  refine ⟨hG, fun q => ?_⟩
  have hnew : (es.set i ⟨e.key, v, e.born⟩)[i]? = some ⟨e.key, v, e.born⟩ := by simp [hi]
  unfold updS
  by_cases hq : q = e.key
  · rw [if_pos hq, hq]
    exact valS_at hG hnew
  · rw [if_neg hq, ← h3 q]
    unfold valS
    cases hk : findS q es 0 with
    | none =>
      have hno := findS_none hk
      have : valS q (es.set i ⟨e.key, v, e.born⟩) = 0 := valS_no fun a ha => by
        obtain ⟨j, hj, rfl⟩ := List.mem_iff_getElem.mp ha
        obtain ⟨a', a1, a2, _⟩ := hg j _ (List.getElem?_eq_getElem hj)
        rw [← a2]
        exact hno a' (List.mem_of_getElem? a1)
      unfold valS at this
      exact this
    | some p =>
      obtain ⟨j, y⟩ := p
      obtain ⟨_, a, a1, a2, a3⟩ := findS_some hk
      rw [Nat.sub_zero] at a1
      have hji : j ≠ i := by
        rintro rfl
        rw [h4] at a1
        injection a1 with a1
        subst a1
        exact hq a2.symm
      have h5 : (es.set i ⟨e.key, v, e.born⟩)[j]? = some a := by rw [List.getElem?_set, if_neg (Ne.symm hji)]; exact a1
      have h6 := valS_at hG h5
      rw [a2, a3] at h6
      unfold valS at h6
      exact h6
theorem findS_more (q : Int × Int) (es : List Ent) (k : Int × Int) (v : Int) (clk : Nat) : ∀ i, findS q (es ++ [(⟨k, v, clk⟩ : Ent)]) i = match findS q es i with
    | some p => some p
    | none => if q = k then some (i + es.length, v) else none := by
  induction es with
  | nil => intro i; simp [findS]
  | cons e es ih =>
    intro i
    simp only [List.cons_append, findS]
    split
    · rfl
    · rw [ih (i + 1)]
      simp only [List.length_cons]
      rw [show i + 1 + es.length = i + (es.length + 1) by omega]
/-- What is stored under a key is read under it. -/
theorem SpotMap.update {W : World} {r : Nat} {f : Int × Int → Int} (h : SpotMap W r f) (k : Int × Int) (v : Int) : ∃ (W' : World) (o : Obj), (Instr.mapUpdate 88 (.map (some r)) (encS k) (.int .i64 v)).run Try.prog W = .ok () W' ∧ W' = W.putObj r o ∧ SpotMap W' r (updS f k v) := by
  obtain ⟨es, clk, h1, h2, h3⟩ := h
  have u := Try.underlying88
  have hf := findKey104 k es W
  have hlt := (Array.getElem?_eq_some_iff.1 h1).1
  cases hk : findS k es 0 with
  | none =>
    rw [hk] at hf
    have hno := findS_none hk
    refine ⟨W.putObj r (.map ((es ++ [(⟨k, v, clk⟩ : Ent)]).map mkE).toArray (clk + 1)), _, ?_, rfl, es ++ [(⟨k, v, clk⟩ : Ent)], clk + 1, World.putObj_heap_same hlt, ?_, fun q => ?_⟩
    · unfold Instr.mapUpdate
      simp [Sem.run_bind, run_underlying u, run_getObj_at h1 rfl, run_setObj_at h1 rfl, check104, hf, Result.andThen, mkE]
    · have key : ∀ (i : Nat) (a : Ent), (es ++ [(⟨k, v, clk⟩ : Ent)])[i]? = some a → (i < es.length ∧ es[i]? = some a) ∨ (i = es.length ∧ a = ⟨k, v, clk⟩) := fun i a ha => by
        by_cases hi : i < es.length
        · rw [List.getElem?_append_left hi] at ha; exact .inl ⟨hi, ha⟩
        · have hi2 := (List.getElem?_eq_some_iff.1 ha).1
          simp at hi2
          obtain rfl : i = es.length := by omega
          rw [List.getElem?_append_right (Nat.le_refl _), Nat.sub_self] at ha
          exact .inr ⟨rfl, by simpa using ha.symm⟩
      refine ⟨fun i j a b ha hb e => ?_, fun i j a b ha hb e => ?_, fun a ha => ?_⟩
      · rcases key i a ha with ⟨_, ha⟩ | ⟨rfl, rfl⟩ <;> rcases key j b hb with ⟨_, hb⟩ | ⟨rfl, rfl⟩
        · exact h2.keys i j a b ha hb e
        · exact absurd e (hno a (List.mem_of_getElem? ha))
        · exact absurd e.symm (hno b (List.mem_of_getElem? hb))
        · rfl
      · rcases key i a ha with ⟨_, ha⟩ | ⟨rfl, rfl⟩ <;> rcases key j b hb with ⟨_, hb⟩ | ⟨rfl, rfl⟩
        · exact h2.born i j a b ha hb e
        · have := h2.lt a (List.mem_of_getElem? ha); simp only at e; omega
        · have := h2.lt b (List.mem_of_getElem? hb); simp only at e; omega
        · rfl
      · rcases List.mem_append.1 ha with ha | ha
        · have := h2.lt a ha; omega
        · obtain rfl := List.mem_singleton.1 ha; exact Nat.lt_succ_self _
    · unfold updS valS
      have this := findS_more q es k v clk
      rw [this 0]
      by_cases hq : q = k
      · subst hq
        rw [hk]
        simp
      · rw [if_neg hq, ← h3 q]
        unfold valS
        cases findS q es 0 <;> simp [hq]
  | some p =>
    obtain ⟨i, y⟩ := p
    obtain ⟨_, e, e1, e2, e3⟩ := findS_some hk
    rw [Nat.sub_zero] at e1
    rw [hk] at hf
    subst e2
    have hi := (List.getElem?_eq_some_iff.1 e1).1
    have h4 := ent_list e1
    have h6 : (((es.map mkE).toArray[i]?).map (·.key)).getD (encS e.key) = encS e.key := by rw [h4]; rfl
    have hm : (es.map mkE).toArray.modify i (fun x => { x with key := encS e.key, val := Value.int .i64 v }) = ((es.set i ⟨e.key, v, e.born⟩).map mkE).toArray := by
      apply Array.ext_getElem?
      intro j
      rw [Array.getElem?_modify]
      simp only [List.getElem?_toArray, List.getElem?_map, List.getElem?_set]
      split
      · rename_i hj
        subst hj
        rw [e1]
        first | rfl | (rw [if_pos hi]; rfl)
      · rfl
    obtain ⟨hG, hv⟩ := set_ok h2 h3 e1 v
    refine ⟨W.putObj r (.map ((es.set i ⟨e.key, v, e.born⟩).map mkE).toArray clk), _, ?_, rfl, _, clk, World.putObj_heap_same hlt, hG, hv⟩
    unfold Instr.mapUpdate
    simp only [Sem.run_bind, run_underlying u, run_getObj_at h1 rfl, check104, hf, Result.andThen_ok, Option.map_some, h6, stays104, hm]
    exact run_setObj_at h1 rfl

/-- What is deleted reads 0. -/
theorem SpotMap.delete {W : World} {r : Nat} {f : Int × Int → Int} (h : SpotMap W r f) (k : Int × Int) (ty : TypeId) : ∃ (W' : World) (o : Obj), (Builtin.delete_ #[88, 104] ty #[.map (some r), encS k]).run Try.prog W = .ok (.tuple #[]) W' ∧ W' = W.putObj r o ∧ SpotMap W' r (updS f k 0) := by
  obtain ⟨es, clk, h1, h2, h3⟩ := h
  have u := Try.underlying88
  have hf := findKey104 k es W
  have hlt := (Array.getElem?_eq_some_iff.1 h1).1
  cases hk : findS k es 0 with
  | none =>
    rw [hk] at hf
    have hno := findS_none hk
    refine ⟨W.putObj r (.map (es.map mkE).toArray clk), _, ?_, rfl, es, clk, World.putObj_heap_same hlt, h2, fun q => ?_⟩
    · unfold Builtin.delete_
      simp [Sem.run_bind, run_underlying u, run_getObj_at h1 rfl, run_setObj_at h1 rfl, check104, hf, Result.andThen]
    · unfold updS
      split
      · rename_i hq; rw [hq]; exact valS_no hno
      · exact h3 q
  | some p =>
    obtain ⟨i, v⟩ := p
    obtain ⟨_, e, e1, e2, e3⟩ := findS_some hk
    rw [Nat.sub_zero] at e1
    rw [hk] at hf
    have hi := (List.getElem?_eq_some_iff.1 e1).1
    have hm : (es.map mkE).toArray.eraseIdxIfInBounds i = ((es.eraseIdx i).map mkE).toArray := by
      have hsz : i < (es.map mkE).toArray.size := by simpa using hi
      rw [Array.eraseIdxIfInBounds, dif_pos hsz]
      apply Array.ext'
      simp only [Array.toList_eraseIdx, List.toList_toArray]
      apply List.ext_getElem?
      intro j
      simp only [List.getElem?_eraseIdx, List.getElem?_map]
      split <;> rfl
    have hg : ∀ (j : Nat) (a : Ent), (es.eraseIdx i)[j]? = some a → es[if j < i then j else j + 1]? = some a := fun j a hj => by
      rw [List.getElem?_eraseIdx] at hj
      split at hj
      · rename_i q; rw [if_pos q]; exact hj
      · rename_i q; rw [if_neg q]; exact hj
    have hG : Good (es.eraseIdx i) clk := by
      refine ⟨fun j l a c ha hc q => ?_, fun j l a c ha hc q => ?_, fun a ha => h2.lt a (List.mem_of_mem_eraseIdx ha)⟩
      · have := h2.keys _ _ a c (hg j a ha) (hg l c hc) q
        split at this <;> split at this <;> omega
      · have := h2.born _ _ a c (hg j a ha) (hg l c hc) q
        split at this <;> split at this <;> omega
    refine ⟨W.putObj r (.map ((es.eraseIdx i).map mkE).toArray clk), _, ?_, rfl, es.eraseIdx i, clk, World.putObj_heap_same hlt, hG, fun q => ?_⟩
    · unfold Builtin.delete_
      simp only [List.getElem?_toArray, List.getElem?_cons_zero, List.getElem?_cons_succ, Sem.run_bind, run_underlying u, Result.andThen_ok, run_getObj_at h1 rfl, check104, hf, Option.map_some, hm, run_setObj_at h1 rfl, Sem.run_pure]
    · unfold updS
      have hback : ∀ (j : Nat) (a : Ent), es[j]? = some a → j ≠ i → ∃ l : Nat, (es.eraseIdx i)[l]? = some a := fun j a hj hne => by
        by_cases hji : j < i
        · exact ⟨j, by rw [List.getElem?_eraseIdx, if_pos hji]; exact hj⟩
        · exact ⟨j - 1, by rw [List.getElem?_eraseIdx, if_neg (by omega), show j - 1 + 1 = j by omega]; exact hj⟩
      split
      · rename_i hq
        subst hq
        refine valS_no fun a ha hak => ?_
        obtain ⟨j, hj, rfl⟩ := List.mem_iff_getElem.mp ha
        have h5 := hg j _ (List.getElem?_eq_getElem hj)
        have := h2.keys _ i _ e h5 e1 (by rw [hak, e2])
        split at this <;> omega
      · rename_i hq
        rw [← h3 q]
        cases hkq : findS q es 0 with
        | none =>
          rw [valS_no (findS_none hkq)]
          exact valS_no fun a ha => findS_none hkq a (List.mem_of_mem_eraseIdx ha)
        | some p =>
          obtain ⟨j, y⟩ := p
          obtain ⟨_, a, a1, a2, a3⟩ := findS_some hkq
          rw [Nat.sub_zero] at a1
          have hji : j ≠ i := by
            rintro rfl
            rw [e1] at a1
            injection a1 with a1
            subst a1
            exact hq (a2.symm.trans e2)
          obtain ⟨l, hl⟩ := hback j a a1 hji
          rw [← a2, valS_at hG hl, valS_at h2 a1]

end Go.Proofs.Ytlkoadcbolkhoaa
