/- A map by corners that counts, with how many entries it has: what each operation on it does. -/
import Derived.Test.YtlkoadcbolkhoaaRaft
set_option linter.all false
namespace Go.Proofs.Ytlkoadcbolkhoaa
open Go Go.RowKit Go.Proofs

theorem eq111 (a b : Int × Int) (w : World) : (Op.equal 111 (encS a) (encS b)).run Try.prog w = .ok (decide (a = b)) w := by
  obtain ⟨a1, a2⟩ := a
  obtain ⟨b1, b2⟩ := b
  unfold encS
  have u3 := Try.underlying3
  have a3' := Try.isAgg3
  have z3 := Try.sizeOf3
  have hS : Try.prog.underlying 111 = some (.struct (Try.prog.fieldsOf 111)) := by kernel_rfl
  have hp : Try.prog.stoodInHeld 111 = false := by kernel_rfl
  unfold Op.equal
  rw [show Op.maxDepth = 9999 + 1 from rfl, run_equalIn_struct w 9999 111 _ _ hS hp]
  simp only [Program.fieldsOf, Try.underlying111]
  go_simp
  by_cases h1 : a1 = b1 <;> by_cases h2 : a2 = b2 <;> simp [h1, h2]
theorem check111 (empty : Bool) (q : Int × Int) (w : World) : (Instr.checkKey empty 10000 111 (encS q)).run Try.prog w = .ok () w := by
  unfold encS
  kernel_rfl

theorem findAskC (k : Int × Int) (es : List Ent) (i : Nat) (w : World) : (Instr.findAsking 111 (encS k) (es.map mkE) i).run Try.prog w = .ok ((findS k es i).map fun p => (p.1, .int .i64 p.2)) w := by
  induction es generalizing i with
  | nil => rfl
  | cons e es ih =>
    simp only [List.map_cons, Instr.findAsking, findS]
    have h := eq111 k e.key w
    simp only [Sem.run_bind, mkE, h, Result.andThen_ok]
    by_cases hk : k = e.key
    · simp [hk]
    · simp only [hk, decide_false, Bool.false_eq_true, if_false]
      exact ih (i + 1)
theorem findKey111 (k : Int × Int) (es : List Ent) (w : World) : (Instr.findKey 111 (encS k) (es.map mkE)).run Try.prog w = .ok ((findS k es 0).map fun p => (p.1, .int .i64 p.2)) w := by
  have u := Try.underlying111
  cases es with
  | nil =>
    show (Instr.findKey 111 (encS k) []).run Try.prog w = .ok none w
    unfold encS
    kernel_rfl
  | cons e es =>
    rw [← findAskC k (e :: es) 0 w]
    unfold Instr.findKey
    simp only [Sem.run_bind, run_underlying u, Result.andThen_ok, List.map_cons, Instr.findNow, Instr.sameNow]

theorem stays111 (q : Int × Int) (W : World) : (Instr.keyThatStays (encS q) (encS q)).run Try.prog W = .ok (encS q) W := by
  have : Instr.sameBits 10000 (encS q) (encS q) = true := by
    unfold encS
    simp [Instr.sameBits]
  unfold Instr.keyThatStays
  simp [this]
theorem SpotMap.lookupC {W : World} {r : Nat} {f : Int × Int → Int} (h : SpotMap W r f) (k : Int × Int) : (Instr.lookup 118 (.map (some r)) (encS k) false).run Try.prog W = .ok (.int .i64 (f k)) W := by
  obtain ⟨es, clk, h1, h2, h3⟩ := h
  have u := Try.underlying118
  have z := Try.zeroValue3
  have hf := findKey111 k es W
  have hv := h3 k
  unfold valS at hv
  unfold Instr.lookup
  cases hk : findS k es 0 with
  | none =>
    rw [hk] at hf hv
    simp only at hv
    simp [Sem.run_bind, run_underlying u, run_getObj_at h1 rfl, check111, hf, z, Result.andThen, ← hv]
  | some p =>
    rw [hk] at hf hv
    simp only at hv
    simp [Sem.run_bind, run_underlying u, run_getObj_at h1 rfl, check111, hf, Result.andThen, ← hv]

/-- Block r is a map that reads as f, with so many entries, none of them 0. -/
def SpotN (W : World) (r : Nat) (f : Int × Int → Int) (L : Nat) : Prop := ∃ (es : List Ent) (clk : Nat), W.heap[r]? = some (.map (es.map mkE).toArray clk) ∧ Good es clk ∧ (∀ k, valS k es = f k) ∧ es.length = L ∧ ∀ e ∈ es, 0 < e.val
def SpotEN (W : World) (r : Nat) (f : Int × Int → Int) (L : Nat) (b : Nat) (k : Int × Int) : Prop := ∃ (es : List Ent) (clk i : Nat) (e : Ent), W.heap[r]? = some (.map (es.map mkE).toArray clk) ∧ Good es clk ∧ (∀ k, valS k es = f k) ∧ es[i]? = some e ∧ e.born = b ∧ e.key = k ∧ es.length = L ∧ ∀ (j : Nat) (a : Ent), es[j]? = some a → j ≠ i → 0 < a.val
theorem SpotN.map {W : World} {r L : Nat} {f : Int × Int → Int} (h : SpotN W r f L) : SpotMap W r f := by
  obtain ⟨es, clk, h1, h2, h3, _⟩ := h
  exact ⟨es, clk, h1, h2, h3⟩
theorem SpotEN.map {W : World} {r L b : Nat} {f : Int × Int → Int} {k : Int × Int} (h : SpotEN W r f L b k) : SpotMap W r f := by
  obtain ⟨es, clk, i, e, h1, h2, h3, _⟩ := h
  exact ⟨es, clk, h1, h2, h3⟩
theorem SpotN.keep {W W' : World} {r L : Nat} {f : Int × Int → Int} (h : SpotN W r f L) (hk : ∀ o, W.heap[r]? = some o → W'.heap[r]? = some o) : SpotN W' r f L := by
  obtain ⟨es, clk, h1, h2⟩ := h
  exact ⟨es, clk, hk _ h1, h2⟩
theorem SpotN.mono {W W' : World} {r L : Nat} {f : Int × Int → Int} (h : SpotN W r f L) (hb : Below W.heap.size W W') : SpotN W' r f L := h.keep fun _ ho => heap_mono ho hb
theorem SpotN.past {W : World} {r L B o : Nat} {f : Int × Int → Int} {cs : Array Value} {t : TypeId} (h : SpotN W r f L) (hB : W.heap[B]? = some (.cells cs t (0, 0))) (u : Value) : SpotN (W.setCell ⟨B, o, none⟩ u) r f L := by
  refine h.keep fun x hx => past_set ?_ hx
  rintro rfl
  obtain ⟨es, clk, h1, _⟩ := h
  rw [hB] at h1
  cases h1
theorem SpotN.made (W : World) : SpotN (W.alloc (.map #[] 0)) W.heap.size (fun _ => 0) 0 :=
  ⟨[], 0, World.alloc_heap_new W _, ⟨fun i j a b h => by simp at h, fun i j a b h => by simp at h, fun e h => by simp at h⟩, fun k => rfl, rfl, fun e h => by simp at h⟩
theorem SpotN.len {W : World} {r L : Nat} {f : Int × Int → Int} (h : SpotN W r f L) (ty : TypeId) : (Builtin.len_ #[118] ty #[.map (some r)]).run Try.prog W = .ok (.int .i64 (L : Int)) W := by
  obtain ⟨es, clk, h1, h2, h3, h4, _⟩ := h
  have u := Try.underlying118
  subst h4
  simp [Builtin.len_, Sem.run_bind, run_underlying u, run_getObj_at h1 rfl, Result.andThen, goInt]
theorem SpotN.entry {W : World} {r L : Nat} {f : Int × Int → Int} (h : SpotN W r f L) (k : Int × Int) : ∃ (W' : World) (b : Nat) (o : Obj), (Instr.mapEntry 118 (.map (some r)) (encS k)).run Try.prog W = .ok (.tuple #[.int .i64 (f k), goInt b]) W' ∧ W' = W.putObj r o ∧ SpotEN W' r f (if f k = 0 then L + 1 else L) b k := by
  obtain ⟨es, clk, h1, h2, h3, h4', hpos⟩ := h
  have u := Try.underlying118
  have z := Try.zeroValue3
  have hf := findKey111 k es W
  have hv := h3 k
  have hlt := (Array.getElem?_eq_some_iff.1 h1).1
  unfold valS at hv
  cases hk : findS k es 0 with
  | none =>
    rw [hk] at hf hv
    simp only at hv
    have hno := findS_none hk
    refine ⟨W.putObj r (.map ((es ++ [(⟨k, 0, clk⟩ : Ent)]).map mkE).toArray (clk + 1)), clk, _, ?_, rfl, es ++ [(⟨k, 0, clk⟩ : Ent)], clk + 1, es.length, ⟨k, 0, clk⟩, World.putObj_heap_same hlt, ?_, fun q => ?_, by simp, rfl, rfl, by rw [if_pos hv.symm, List.length_append, h4']; rfl, fun j a ha hne => ?_⟩
    · unfold Instr.mapEntry
      simp [Sem.run_bind, run_underlying u, run_getObj_at h1 rfl, run_setObj_at h1 rfl, check111, hf, z, Result.andThen, ← hv, mkE]
    · have key : ∀ (i : Nat) (a : Ent), (es ++ [(⟨k, 0, clk⟩ : Ent)])[i]? = some a → (i < es.length ∧ es[i]? = some a) ∨ (i = es.length ∧ a = ⟨k, 0, clk⟩) := fun i a ha => by
        by_cases hi : i < es.length
        · rw [List.getElem?_append_left hi] at ha; exact .inl ⟨hi, ha⟩
        · have hi2 := (List.getElem?_eq_some_iff.1 ha).1
          simp at hi2
          obtain rfl : i = es.length := by omega
          rw [List.getElem?_append_right (Nat.le_refl _), Nat.sub_self] at ha
          exact .inr ⟨rfl, by simpa using ha.symm⟩
      refine ⟨fun i j a b ha hb e => ?_, fun i j a b ha hb e => ?_, fun a ha => ?_⟩
      · rcases key i a ha with ⟨_, ha⟩ | ⟨rfl, rfl⟩ <;> rcases key j b hb with ⟨_, hb⟩ | ⟨rfl, rfl⟩
        · exact h2.keys i j a b ha hb e
        · exact absurd e (hno a (List.mem_of_getElem? ha))
        · exact absurd e.symm (hno b (List.mem_of_getElem? hb))
        · rfl
      · rcases key i a ha with ⟨_, ha⟩ | ⟨rfl, rfl⟩ <;> rcases key j b hb with ⟨_, hb⟩ | ⟨rfl, rfl⟩
        · exact h2.born i j a b ha hb e
        · have := h2.lt a (List.mem_of_getElem? ha); simp only at e; omega
        · have := h2.lt b (List.mem_of_getElem? hb); simp only at e; omega
        · rfl
      · rcases List.mem_append.1 ha with ha | ha
        · have := h2.lt a ha; omega
        · obtain rfl := List.mem_singleton.1 ha; exact Nat.lt_succ_self _
    · rw [← h3 q]
      unfold valS
      have this := findS_append q es k clk
      rw [this 0]
      cases findS q es 0 with
      | some p => rfl
      | none => by_cases hq : q = k <;> simp [hq]
    · have hj := (List.getElem?_eq_some_iff.1 ha).1
      rw [List.length_append, List.length_singleton] at hj
      rw [List.getElem?_append_left (by omega)] at ha
      exact hpos a (List.mem_of_getElem? ha)
  | some p =>
    obtain ⟨i, v⟩ := p
    obtain ⟨_, e, e1, e2, e3⟩ := findS_some hk
    rw [Nat.sub_zero] at e1
    rw [hk] at hf hv
    simp only at hv
    subst e2
    refine ⟨W.putObj r (.map (es.map mkE).toArray clk), e.born, _, ?_, rfl, es, clk, i, e, World.putObj_heap_same hlt, h2, h3, e1, rfl, rfl, by rw [if_neg (by have := hpos e (List.mem_of_getElem? e1); omega)]; exact h4', fun j a ha _ => hpos a (List.mem_of_getElem? ha)⟩
    have h4 := ent_list e1
    have h5 := modify_same e1
    unfold Instr.mapEntry
    have h6 : (((es.map mkE).toArray[i]?).map (·.key)).getD (encS e.key) = encS e.key := by rw [h4]; rfl
    have h7 : (((es.map mkE).toArray[i]?).map (fun x => (x.born : Int))).getD 0 = (e.born : Int) := by rw [h4]; rfl
    simp only [Sem.run_bind, run_underlying u, run_getObj_at h1 rfl, check111, hf, Result.andThen_ok, Option.map_some, h6, h7, stays111, h5, run_setObj_at h1 rfl, Sem.run_pure]
    rw [← hv]

theorem SpotEN.store {W : World} {r L b : Nat} {f : Int × Int → Int} {k : Int × Int} (h : SpotEN W r f L b k) (v : Int) (hvp : 0 < v) : ∃ (W' : World) (o : Obj), (Instr.entryStore 118 (.map (some r)) (goInt b) (.int .i64 v)).run Try.prog W = .ok () W' ∧ W' = W.putObj r o ∧ SpotN W' r (updS f k v) L := by
  obtain ⟨es, clk, i, e, h1, h2, h3, h4, rfl, rfl, h5', hpos⟩ := h
  have hlt := (Array.getElem?_eq_some_iff.1 h1).1
  have hi := (List.getElem?_eq_some_iff.1 h4).1
  have ha : ∀ m : Int, (asIntOf (.int .i64 m)).run Try.prog W = .ok (.i64, m) W := fun m => rfl
  have hm : (es.map mkE).toArray.modify i (fun x => { x with val := Value.int .i64 v }) = ((es.set i ⟨e.key, v, e.born⟩).map mkE).toArray := by
    apply Array.ext_getElem?
    intro j
    rw [Array.getElem?_modify]
    simp only [List.getElem?_toArray, List.getElem?_map, List.getElem?_set]
    split
    · rename_i hj
      subst hj
      rw [h4]
      first | rfl | (rw [if_pos hi]; rfl)
    · rfl
  have hg : ∀ (j : Nat) (a : Ent), (es.set i ⟨e.key, v, e.born⟩)[j]? = some a → ∃ a', es[j]? = some a' ∧ a'.key = a.key ∧ a'.born = a.born ∧ (j ≠ i → a' = a) := fun j a hj => by
    rw [List.getElem?_set] at hj
    split at hj
    · rename_i hji
      subst hji
      have hj' : some (⟨e.key, v, e.born⟩ : Ent) = some a := by simpa [hi] using hj
      injection hj' with hj'
      subst hj'
      exact ⟨e, h4, rfl, rfl, fun q => absurd rfl q⟩
    · exact ⟨a, hj, rfl, rfl, fun _ => rfl⟩
  have hG : Good (es.set i ⟨e.key, v, e.born⟩) clk := by
    refine ⟨fun j l a c ha hc q => ?_, fun j l a c ha hc q => ?_, fun a ha => ?_⟩
    · obtain ⟨a', a1, a2, _⟩ := hg j a ha
      obtain ⟨c', c1, c2, _⟩ := hg l c hc
      exact h2.keys j l a' c' a1 c1 (by rw [a2, c2, q])
    · obtain ⟨a', a1, _, a2, _⟩ := hg j a ha
      obtain ⟨c', c1, _, c2, _⟩ := hg l c hc
      exact h2.born j l a' c' a1 c1 (by rw [a2, c2, q])
    · obtain ⟨j, hj, rfl⟩ := List.mem_iff_getElem.mp ha
      obtain ⟨a', a1, _, a2, _⟩ := hg j _ (List.getElem?_eq_getElem hj)
      have := h2.lt a' (List.mem_of_getElem? a1)
      omega
  refine ⟨W.putObj r (.map ((es.set i ⟨e.key, v, e.born⟩).map mkE).toArray clk), _, ?_, rfl, _, clk, World.putObj_heap_same hlt, hG, fun q => ?_, by rw [List.length_set]; exact h5', fun a ha => ?_⟩
  · have hfb := find_born h2 h4
    unfold Instr.entryStore
    simp only [Sem.run_bind, run_getObj_at h1 rfl, goInt, Result.andThen_ok, asInt, ha, Sem.run_pure, hfb, hm]
    exact run_setObj_at h1 rfl
  · have hnew : (es.set i ⟨e.key, v, e.born⟩)[i]? = some ⟨e.key, v, e.born⟩ := by simp [hi]
    unfold updS
    by_cases hq : q = e.key
    · rw [if_pos hq, hq]
      exact valS_at hG hnew
    · rw [if_neg hq, ← h3 q]
      unfold valS
      cases hk : findS q es 0 with
      | none =>
        have hno := findS_none hk
        have : valS q (es.set i ⟨e.key, v, e.born⟩) = 0 := valS_no fun a ha => by
          obtain ⟨j, hj, rfl⟩ := List.mem_iff_getElem.mp ha
          obtain ⟨a', a1, a2, _⟩ := hg j _ (List.getElem?_eq_getElem hj)
          rw [← a2]
          exact hno a' (List.mem_of_getElem? a1)
        unfold valS at this
        exact this
      | some p =>
        obtain ⟨j, y⟩ := p
        obtain ⟨_, a, a1, a2, a3⟩ := findS_some hk
        rw [Nat.sub_zero] at a1
        have hji : j ≠ i := by
          rintro rfl
          rw [h4] at a1
          injection a1 with a1
          subst a1
          exact hq a2.symm
        have h5 : (es.set i ⟨e.key, v, e.born⟩)[j]? = some a := by rw [List.getElem?_set, if_neg (Ne.symm hji)]; exact a1
        have h6 := valS_at hG h5
        rw [a2, a3] at h6
        unfold valS at h6
        exact h6
  · obtain ⟨j, hj, rfl⟩ := List.mem_iff_getElem.mp ha
    by_cases hji : j = i
    · subst hji; simpa using hvp
    · have h9 : (es.set i ⟨e.key, v, e.born⟩)[j]? = some (es.set i ⟨e.key, v, e.born⟩)[j] := List.getElem?_eq_getElem hj
      obtain ⟨a', a1, _, _, a4⟩ := hg j _ h9
      rw [← a4 hji]
      exact hpos j a' a1 hji

end Go.Proofs.Ytlkoadcbolkhoaa
