/- A statement m[k] += x whose order is drawn: what holds in its midst. -/
import Derived.Test.YtbnmjbmlejifcaaRuna
set_option linter.all false
namespace Go.Proofs.Ytbnmjbmlejifcaa
open Go Go.RowKit Go.Proofs

def MapF (K : World → Prop) (r : Nat) (f : Int × Int → Int) (k : Int × Int) (v : Int) (s9 s10 s11 : Bool) (u40 u41 : Value) (W : World) : Prop :=
  K W ∧ if s11 = true then SpotMap W r (updS f k v) else if s9 = true then ∃ b : Nat, u40 = .tuple #[.int .i64 (f k), goInt b] ∧ (s10 = true → u41 = goInt b) ∧ SpotEnt W r f b k else SpotMap W r f
/-- What an operation on the map leaves. -/
def MapKept (K : World → Prop) (r : Nat) : Prop := ∀ (W : World) (f : Int × Int → Int) (o : Obj), K W → SpotMap W r f → K (W.putObj r o)

section
variable {K : World → Prop} {r : Nat} {f : Int × Int → Int} {k : Int × Int} {v : Int} {s9 s10 s11 : Bool} {u40 u41 : Value} {W wb : World}
theorem MapF.map (h : MapF K r f k v s9 s10 false u40 u41 W) : SpotMap W r f := by
  have h2 := h.2
  simp only [Bool.false_eq_true, if_false] at h2
  cases s9 with
  | false => simpa using h2
  | true =>
    simp only [if_true] at h2
    obtain ⟨b, _, _, h3⟩ := h2
    exact h3.map
theorem MapF.look (h : MapF K r f k v s9 s10 false u40 u41 W) (q : Int × Int) : (Instr.lookup 108 (.map (some r)) (encS q) false).run Try.prog W = .ok (.int .i64 (f q)) W := h.map.lookup q
theorem MapF.entry (h : MapF K r f k v false false false u40 u41 W) (hK : MapKept K r) (hb : Below wb.heap.size wb W) (hr : wb.heap.size ≤ r) : ∃ u W', (Instr.mapEntry 108 (.map (some r)) (encS k)).run Try.prog W = .ok u W' ∧ MapF K r f k v true false false u u41 W' ∧ Below wb.heap.size wb W' := by
  have hm := h.map
  obtain ⟨W', b, o, h1, rfl, h3⟩ := hm.entry k
  exact ⟨_, _, h1, ⟨hK _ _ _ h.1 hm, by simp only [Bool.false_eq_true, if_false, if_true]; exact ⟨b, rfl, (fun q => absurd q (by simp)), h3⟩⟩, below_put hb hr⟩
theorem MapF.stamp (h : MapF K r f k v true false false u40 u41 W) : ∃ b : Nat, u40 = .tuple #[.int .i64 (f k), goInt b] ∧ MapF K r f k v true true false u40 (goInt b) W := by
  have h2 := h.2
  simp only [Bool.false_eq_true, if_false, if_true] at h2
  obtain ⟨b, h3, _, h4⟩ := h2
  exact ⟨b, h3, h.1, by simp only [Bool.false_eq_true, if_false, if_true]; exact ⟨b, h3, fun _ => rfl, h4⟩⟩
theorem MapF.store (h : MapF K r f k v true true false u40 u41 W) (hK : MapKept K r) (hb : Below wb.heap.size wb W) (hr : wb.heap.size ≤ r) : ∃ (b : Nat) (W' : World), u41 = goInt b ∧ (Instr.entryStore 108 (.map (some r)) (goInt b) (.int .i64 v)).run Try.prog W = .ok () W' ∧ MapF K r f k v true true true u40 u41 W' ∧ Below wb.heap.size wb W' := by
  have hm := h.map
  have h2 := h.2
  simp only [Bool.false_eq_true, if_false, if_true] at h2
  obtain ⟨b, h3, h4, h5⟩ := h2
  obtain ⟨W', o, h6, rfl, h7⟩ := h5.store v
  exact ⟨b, _, h4 trivial, h6, ⟨hK _ _ _ h.1 hm, by simp only [if_true]; exact h7⟩, below_put hb hr⟩
theorem MapF.done (h : MapF K r f k v s9 s10 true u40 u41 W) : K W ∧ SpotMap W r (updS f k v) := by
  have h2 := h.2
  simp only [if_true] at h2
  exact ⟨h.1, h2⟩
theorem MapF.start (h : K W) (hm : SpotMap W r f) : MapF K r f k v false false false u40 u41 W := ⟨h, by simpa using hm⟩
end

end Go.Proofs.Ytbnmjbmlejifcaa
