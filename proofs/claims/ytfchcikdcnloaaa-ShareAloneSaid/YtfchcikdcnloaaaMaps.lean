/- share's all: the map by quotients, which holds one entry between two rounds: what each operation on it does. -/
import Derived.Test.YtfchcikdcnloaaaOrder
import Derived.Laws.StructEq
namespace Go.Proofs.Ytfchcikdcnloaaa
open Go Go.RowKit Go.Proofs

theorem eq86 (a b : Int × Int) (w : World) : (Op.equal 86 (encQ a) (encQ b)).run Try.prog w = .ok (decide (a = b)) w := by
  obtain ⟨a1, a2⟩ := a
  obtain ⟨b1, b2⟩ := b
  unfold encQ
  have u2 := Try.underlying2
  have a2' := Try.isAgg2
  have z2 := Try.sizeOf2
  have hS : Try.prog.underlying 86 = some (.struct (Try.prog.fieldsOf 86)) := by kernel_rfl
  have hp : Try.prog.stoodInHeld 86 = false := by kernel_rfl
  unfold Op.equal
  rw [show Op.maxDepth = 9999 + 1 from rfl, run_equalIn_struct w 9999 86 _ _ hS hp]
  simp only [Program.fieldsOf, Try.underlying86]
  go_simp
  by_cases h1 : a1 = b1 <;> by_cases h2 : a2 = b2 <;> simp [h1, h2]

theorem check86 (empty : Bool) (q : Int × Int) (w : World) : (Instr.checkKey empty 10000 86 (encQ q)).run Try.prog w = .ok () w := by
  unfold encQ
  kernel_rfl

theorem find86_nil (q : Int × Int) (w : World) : (Instr.findKey 86 (encQ q) []).run Try.prog w = .ok none w := by
  unfold encQ
  kernel_rfl
theorem find86_cons (q : Int × Int) (e : MapEntry) (es : List MapEntry) (w : World) : (Instr.findKey 86 (encQ q) (e :: es)).run Try.prog w = (Instr.findAsking 86 (encQ q) (e :: es)).run Try.prog w := by
  have u := Try.underlying86
  unfold Instr.findKey
  simp only [Sem.run_bind, run_underlying u, Result.andThen_ok, Instr.findNow, Instr.sameNow]


theorem run_getObj_at {W : World} {r : Nat} {o : Obj} (h : W.heap[r]? = some o) (ho : o.isCells = false) : (getObj r).run Try.prog W = .ok o W := by
  unfold getObj
  simp only [Sem.run, h]
  cases o <;> simp_all [Obj.isCells]
theorem run_setObj_at {W : World} {r : Nat} {o o' : Obj} (h : W.heap[r]? = some o) (ho : o.isCells = false) : (setObj r o').run Try.prog W = .ok () (W.putObj r o') := by
  unfold setObj
  simp only [Sem.run, h]
  cases o <;> simp_all [Obj.isCells, World.putObj]

section
variable {W : World} {r clk : Nat}

theorem lookup_none (q : Int × Int) (h : W.heap[r]? = some (.map #[] clk)) : (Instr.lookup 104 (.map (some r)) (encQ q) false).run Try.prog W = .ok (.int .i64 0) W := by
  have u := Try.underlying104
  have z := Try.zeroValue2
  unfold Instr.lookup
  simp [Sem.run_bind, run_underlying u, run_getObj_at h rfl, check86, find86_nil, z, Result.andThen]

theorem lookup_one (p q : Int × Int) (n : Int) (b : Nat) (h : W.heap[r]? = some (.map #[⟨encQ p, .int .i64 n, b⟩] clk)) : (Instr.lookup 104 (.map (some r)) (encQ q) false).run Try.prog W = .ok (.int .i64 (if q = p then n else 0)) W := by
  have u := Try.underlying104
  have z := Try.zeroValue2
  unfold Instr.lookup
  simp [Sem.run_bind, run_underlying u, run_getObj_at h rfl, check86, find86_cons, Instr.findAsking, eq86, Result.andThen]
  by_cases e : q = p <;> simp [e]

theorem entry_none (q : Int × Int) (h : W.heap[r]? = some (.map #[] clk)) : (Instr.mapEntry 104 (.map (some r)) (encQ q)).run Try.prog W = .ok (.tuple #[.int .i64 0, goInt clk]) (W.putObj r (.map #[⟨encQ q, .int .i64 0, clk⟩] (clk + 1))) := by
  have u := Try.underlying104
  have z := Try.zeroValue2
  unfold Instr.mapEntry
  simp [Sem.run_bind, run_underlying u, run_getObj_at h rfl, run_setObj_at h rfl, check86, find86_nil, z, Result.andThen]

theorem stays86 (q : Int × Int) : (Instr.keyThatStays (encQ q) (encQ q)).run Try.prog W = .ok (encQ q) W := by
  have : Instr.sameBits 10000 (encQ q) (encQ q) = true := by
    unfold encQ
    simp [Instr.sameBits]
  unfold Instr.keyThatStays
  simp [this]

theorem entry_same (q : Int × Int) (n : Int) (b : Nat) (h : W.heap[r]? = some (.map #[⟨encQ q, .int .i64 n, b⟩] clk)) : (Instr.mapEntry 104 (.map (some r)) (encQ q)).run Try.prog W = .ok (.tuple #[.int .i64 n, goInt b]) (W.putObj r (.map #[⟨encQ q, .int .i64 n, b⟩] clk)) := by
  have u := Try.underlying104
  have z := Try.zeroValue2
  unfold Instr.mapEntry
  simp [Sem.run_bind, run_underlying u, run_getObj_at h rfl, run_setObj_at h rfl, check86, find86_cons, Instr.findAsking, eq86, stays86, Result.andThen]

theorem entry_other (p q : Int × Int) (hne : q ≠ p) (n : Int) (b : Nat) (h : W.heap[r]? = some (.map #[⟨encQ p, .int .i64 n, b⟩] clk)) : (Instr.mapEntry 104 (.map (some r)) (encQ q)).run Try.prog W = .ok (.tuple #[.int .i64 0, goInt clk]) (W.putObj r (.map #[⟨encQ p, .int .i64 n, b⟩, ⟨encQ q, .int .i64 0, clk⟩] (clk + 1))) := by
  have u := Try.underlying104
  have z := Try.zeroValue2
  unfold Instr.mapEntry
  simp [Sem.run_bind, run_underlying u, run_getObj_at h rfl, run_setObj_at h rfl, check86, find86_cons, Instr.findAsking, eq86, hne, z, Result.andThen]

/-- The value of the entry that was laid or found last is stored. -/
theorem store_first (k v u : Value) (b : Nat) (h : W.heap[r]? = some (.map #[⟨k, v, b⟩] clk)) : (Instr.entryStore 104 (.map (some r)) (goInt b) u).run Try.prog W = .ok () (W.putObj r (.map #[⟨k, u, b⟩] clk)) := by
  have ha : ∀ m : Int, (asIntOf (.int .i64 m)).run Try.prog W = .ok (.i64, m) W := fun m => rfl
  unfold Instr.entryStore
  simp [Sem.run_bind, run_getObj_at h rfl, goInt, Result.andThen, asInt, ha]
  rw [run_setObj_at h rfl]

theorem store_second (k k2 v v2 u : Value) (b b2 : Nat) (hb : b ≠ b2) (h : W.heap[r]? = some (.map #[⟨k, v, b⟩, ⟨k2, v2, b2⟩] clk)) : (Instr.entryStore 104 (.map (some r)) (goInt b2) u).run Try.prog W = .ok () (W.putObj r (.map #[⟨k, v, b⟩, ⟨k2, u, b2⟩] clk)) := by
  have ha : ∀ m : Int, (asIntOf (.int .i64 m)).run Try.prog W = .ok (.i64, m) W := fun m => rfl
  have e : List.findIdx? (fun e : MapEntry => (e.born : Int) == (b2 : Int)) [⟨k, v, b⟩, ⟨k2, v2, b2⟩] = some 1 := by
    have : ¬ ((b : Int) = (b2 : Int)) := by omega
    simp [List.findIdx?_cons, this]
  unfold Instr.entryStore
  simp [Sem.run_bind, run_getObj_at h rfl, goInt, Result.andThen, asInt, ha, e]
  rw [run_setObj_at h rfl]

theorem delete_first (p q : Int × Int) (_hne : p ≠ q) (v v2 : Value) (b b2 : Nat) (ty : TypeId) (h : W.heap[r]? = some (.map #[⟨encQ p, v, b⟩, ⟨encQ q, v2, b2⟩] clk)) : (Builtin.delete_ #[104, 86] ty #[.map (some r), encQ p]).run Try.prog W = .ok (.tuple #[]) (W.putObj r (.map #[⟨encQ q, v2, b2⟩] clk)) := by
  have u := Try.underlying104
  unfold Builtin.delete_
  simp [Sem.run_bind, run_underlying u, run_getObj_at h rfl, run_setObj_at h rfl, check86, find86_cons, Instr.findAsking, eq86, Result.andThen]
end

/-! ### The iterator -/
section
variable {W : World} {r it clk : Nat}

theorem range_run (es : Array MapEntry) (h : W.heap[r]? = some (.map es clk)) : (Instr.range 104 (.map (some r))).run Try.prog W = .ok (.pointer (some ⟨W.heap.size, 0, none⟩)) (W.alloc (.mapIter (some r) clk #[] clk)) := by
  have u := Try.underlying104
  unfold Instr.range
  simp [Sem.run_bind, run_underlying u, run_getObj_at h rfl, Result.andThen]

theorem next_one (k v : Value) (b : Nat) (sn : Array Nat) (ty : TypeId) (hb : b < clk) (hs : b ∉ sn) (hi : W.heap[it]? = some (.mapIter (some r) clk sn clk)) (h : W.heap[r]? = some (.map #[⟨k, v, b⟩] clk)) :
    (Instr.next (.pointer (some ⟨it, 0, none⟩)) false ty).run Try.prog W = .ok (.tuple #[.bool true, k, v]) (W.putObj it (.mapIter (some r) clk (sn.push b) clk)) := by
  have h1 : ¬ clk ≤ b := by omega
  unfold Instr.next
  simp [Sem.run_bind, run_getObj_at hi rfl, run_getObj_at h rfl, run_setObj_at hi rfl, Result.andThen, Sem.run, h1, hs, hb, choose, Question.forced]

theorem next_over (k v : Value) (b : Nat) (sn : Array Nat) (ty : TypeId) (hb : b < clk) (hs : b ∈ sn) (hi : W.heap[it]? = some (.mapIter (some r) clk sn clk)) (h : W.heap[r]? = some (.map #[⟨k, v, b⟩] clk)) :
    (Instr.next (.pointer (some ⟨it, 0, none⟩)) false ty).run Try.prog W = .ok (.tuple #[.bool false]) W := by
  have h1 : ¬ clk ≤ b := by omega
  unfold Instr.next
  simp [Sem.run_bind, run_getObj_at hi rfl, run_getObj_at h rfl, Result.andThen, Sem.run, h1, hs, hb, choose, Question.forced]

theorem next_second (k v k2 v2 : Value) (b b2 : Nat) (ty : TypeId) (hne : b ≠ b2) (hb : b < clk) (hb2 : b2 < clk) (hi : W.heap[it]? = some (.mapIter (some r) clk #[b2] clk)) (h : W.heap[r]? = some (.map #[⟨k, v, b⟩, ⟨k2, v2, b2⟩] clk)) :
    (Instr.next (.pointer (some ⟨it, 0, none⟩)) false ty).run Try.prog W = .ok (.tuple #[.bool true, k, v]) (W.putObj it (.mapIter (some r) clk #[b2, b] clk)) := by
  have h1 : ¬ clk ≤ b := by omega
  unfold Instr.next
  simp [Sem.run_bind, run_getObj_at hi rfl, run_getObj_at h rfl, run_setObj_at hi rfl, Result.andThen, Sem.run, h1, hne, hb, hb2, choose, Question.forced]
  exact ⟨0, by simp, hb⟩

theorem next_two (k v k2 v2 : Value) (b b2 : Nat) (ty : TypeId) (_hne : b ≠ b2) (hb : b < clk) (hb2 : b2 < clk) (hi : W.heap[it]? = some (.mapIter (some r) clk #[] clk)) (h : W.heap[r]? = some (.map #[⟨k, v, b⟩, ⟨k2, v2, b2⟩] clk)) :
    (Instr.next (.pointer (some ⟨it, 0, none⟩)) false ty).run Try.prog W = .ok (.tuple #[.bool true, k, v]) (W.drew.putObj it (.mapIter (some r) clk #[b] clk)) ∨
    (Instr.next (.pointer (some ⟨it, 0, none⟩)) false ty).run Try.prog W = .ok (.tuple #[.bool true, k2, v2]) (W.drew.putObj it (.mapIter (some r) clk #[b2] clk)) := by
  have h1 : ¬ clk ≤ b := by omega
  have hiw : W.drew.heap[it]? = some (.mapIter (some r) clk #[] clk) := hi
  unfold Instr.next
  simp [Sem.run_bind, run_getObj_at hi rfl, run_getObj_at h rfl, Result.andThen, Sem.run, h1, hb, hb2, choose, Question.forced, Question.cut]
  rcases Nat.mod_two_eq_zero_or_one (W.tape W.drawn (Question.mapNext 2)) with e | e
  · left; rw [e]; simp [run_setObj_at hiw rfl]
  · right; rw [e]; simp [run_setObj_at hiw rfl]

theorem entry_run (es : Array MapEntry) (e : MapEntry) (sn : Array Nat) (hi : W.heap[it]? = some (.mapIter (some r) clk sn clk)) (hs : sn.back? = some e.born) (h : W.heap[r]? = some (.map es clk)) (he : es.find? (fun x => x.born == e.born) = some e) :
    (Instr.entry (.pointer (some ⟨it, 0, none⟩))).run Try.prog W = .ok (.tuple #[e.key, e.val]) W := by
  unfold Instr.entry
  simp [Sem.run_bind, run_getObj_at hi rfl, run_getObj_at h rfl, Result.andThen, hs, he]
end

end Go.Proofs.Ytfchcikdcnloaaa
