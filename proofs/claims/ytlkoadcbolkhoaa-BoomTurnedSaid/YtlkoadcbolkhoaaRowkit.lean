/- The rows' frame: a call that lays new blocks and answers true; how arguments are opened. -/
import Derived.Test.YtlkoadcbolkhoaaRows
import Derived.Test.YtlkoadcbolkhoaaFacts
import Derived.ProofKit
import Derived.Lib.SmallJoins
import Derived.ChangeMaps5
import Derived.Deep.Matrix
set_option linter.all false
namespace Go.Proofs.Ytlkoadcbolkhoaa
open Go Go.ChangeShapes Go.WideShapes Go.ChangeAt Go.RowKit Go.Joins Go.Proofs

section
variable {H : Type} {enc : TypeId × Value → H} {P : Program}

def readB (P : Program) (ts : List TypeId) : Bool := ts.all fun t => P.readableRec t && decide (t < P.types.size)

theorem trodAll_stays (hl : laidOutB P = true) {W W' : World} {sp : Nat → Bool} : ∀ (ts : List TypeId) (vs : List Value) (ds : List (DataW H)) (ps : List MemPlace), readB P ts = true →
    DataW.TrodAll enc P W 0 (fun _ => true) true ts vs ds ps → (∀ p ∈ ps, W.sameAt W' p) → (∀ p ∈ ps, sp p.block = true) → DataW.TrodAll enc P W' 0 sp true ts vs ds ps
  | [], _, _, _, _, h, _, _ => by
    obtain ⟨rfl, rfl, rfl⟩ := trodAll_nil h
    exact trodAll_mk0
  | t :: ts, _, _, _, hr, h, h1, h2 => by
    obtain ⟨v, vs1, d, ds1, a, b, rfl, rfl, rfl, h3, h4⟩ := trodAll_cons h
    simp only [readB, List.all_cons, Bool.and_eq_true, decide_eq_true_eq] at hr
    exact ⟨a, b, WideElems.Trod_stays hl hr.1.1 hr.1.2 h3 (fun p hp => h1 p (List.mem_append_left _ hp)) (fun p hp => h2 p (List.mem_append_left _ hp)),
      trodAll_stays hl ts _ _ _ hr.2 h4 (fun p hp => h1 p (List.mem_append_right _ hp)) (fun p hp => h2 p (List.mem_append_right _ hp)), rfl⟩

theorem post_of_below {f : Func} {s : ChangeSpec} {apart fresh handsOn again : Bool} {W W' : World} {args : Array Value} {v : Value} {ds : List (DataW H)} {before : List MemPlace}
    (hl : laidOutB P = true) (hr : readB P f.params.toList = true)
    (hW : DataW.Whole enc P f.params.toList s.vars apart W args.toList ds [] before) (hV : s.vars = []) (hb : Below W.heap.size W W')
    (hsa : (s.fn H (ds ++ [])).args = ds) (hsv : (s.fn H (ds ++ [])).vars = [])
    (hres : ∀ (b : Nat) (sp : Nat → Bool) (hd : Bool), DataW.TrodAll enc P W' b sp hd f.resultTypes.toList (v.resultList f.resultTypes.size) (s.fn H (ds ++ [])).results [])
    (hok : ∀ (j : Nat) (t : TypeId) (r : Value), f.resultTypes[j]? = some t → (v.resultList f.resultTypes.size)[j]? = some r → Value.okWide P W' .any 0 t r) :
    s.post enc P f apart fresh handsOn again W args v W' := by
  have hlt := hW.lt
  have hW2 := hW
  obtain ⟨p, q, hA, hVq, rfl, hfz, hnd⟩ := hW2
  rw [hV] at hVq
  obtain ⟨_, rfl⟩ := trodVars_none hVq
  rw [List.append_nil] at hfz hnd hlt
  have hargs : ∀ sp : Nat → Bool, (∀ x ∈ p, sp x.block = true) → DataW.TrodAll enc P W' 0 sp true f.params.toList args.toList (s.fn H (ds ++ [])).args p := fun sp hsp => by
    rw [hsa]
    exact trodAll_stays hl _ _ _ _ hr hA (fun x hx => hb.same (hlt x hx)) hsp
  have hvars : ∀ sp : Nat → Bool, DataW.TrodVars enc P W' sp s.vars (s.fn H (ds ++ [])).vars [] := fun sp => by
    rw [hV, hsv]
    exact rfl
  have hold : ∀ x ∈ p, (fun b => decide (b < W.heap.size)) x.block = true := fun x hx => by simpa using hlt x hx
  refine ⟨ds, [], p ++ [], [], p, [], hW, hres _ _ _, hargs _ hold, hvars _, hb.frame _, fun _ => ⟨hok, _, _, ([] ++ p) ++ [], ⟨[] ++ p, [], trodAll_append (hargs _ (fun _ _ => rfl)) (hres _ _ _), hvars _, rfl, ?_, ?_⟩, ?_⟩⟩
  · intro b off hp
    have hp' : MemPlace.cell b off ∈ p := by simpa using hp
    have h1 := hfz b off hp'
    have h2 := hlt _ hp'
    rw [hb.frozen (p := ⟨b, off, none⟩) h2]
    exact h1
  · intro ha
    have := hnd ha
    simpa using this
  · intro x hx _
    simpa using hx
end



/-! ### The arguments opened -/
section
variable {H : Type} {enc : TypeId × Value → H} {W : World} {base : Nat}

set_option maxRecDepth 100000 in
theorem ints_of_trod {v : Value} {n : Nat} {y : DataW H × List MemPlace} (hv : Cell.okWide Try.prog W .any base 22 v) (h : DataW.trod enc Try.prog W 0 (fun _ => true) true n 22 [v] = some y) : ∃ xs, Ints W v xs := by
  rcases ChangeShapes.open_ints Try.underlying22 Try.underlying3 (by kernel_rfl) h with ⟨e, _⟩ | ⟨a, len, cap, zs, e, _, hl, hm, hz, _, hc, _⟩
  · injection e with e
    subst e
    exact ⟨[], .inl ⟨rfl, rfl⟩⟩
  · injection e with e
    subst e
    have hz' : zs.length = cap := by simpa using hz
    unfold Cell.okWide at hv
    rw [Try.underlying22] at hv
    simp only [Cell.ok, Try.underlying22] at hv
    obtain ⟨_, _, _, hsp, row, cells, hsh, _⟩ := hv
    obtain ⟨b, off, sp⟩ := a
    simp only at hsp
    subst hsp
    have hb : b < W.heap.size := by
      unfold World.shape? at hsh
      cases hk : W.heap[b]? with
      | none => simp [hk] at hsh
      | some o => exact (Array.getElem?_eq_some_iff.1 hk).1
    have hlen : (zs.take len).length = len := by simp; omega
    refine ⟨zs.take len, .inr ⟨b, off, cap, by rw [hlen], by rw [hlen]; exact hl, hb, fun i x hx => ?_⟩⟩
    rw [List.getElem?_take] at hx
    split at hx
    · have hi := (List.getElem?_eq_some_iff.1 hx).1
      have := hc i hi
      rw [Addr.add_lit] at this
      rw [this]
      simp [List.getD, hx]
    · cases hx

set_option maxRecDepth 100000 in
theorem open_longs {v : Value} {d : DataW H} {p : List MemPlace} (hv : Value.okWide Try.prog W .any base 22 v) (h : DataW.Trod enc Try.prog W 0 (fun _ => true) true 22 v d p) : ∃ xs, Ints W v xs := by
  unfold Value.okWide at hv
  rw [Try.underlying22] at hv
  obtain ⟨n, hn⟩ := h
  have hc : v.cells = #[v] := by
    unfold Cell.okWide at hv
    rw [Try.underlying22] at hv
    simp only [Cell.ok, Try.underlying22] at hv
    cases v <;> simp at hv <;> rfl
  rw [hc] at hn
  exact ints_of_trod hv hn


set_option maxRecDepth 100000 in
/-- A slice's own cell: its block is there, its address plain. -/
theorem slice_place {t e : TypeId} {a : Addr} {len cap : Nat} (ht : Try.prog.underlying t = some (.slice e)) (hv : Cell.okWide Try.prog W .any base t (.slice (some a) len cap)) : a.spot = none ∧ a.block < W.heap.size := by
  unfold Cell.okWide at hv
  rw [ht] at hv
  simp only [Cell.ok, ht] at hv
  obtain ⟨_, _, _, hsp, row, cells, hsh, _⟩ := hv
  refine ⟨hsp, ?_⟩
  unfold World.shape? at hsh
  cases hk : W.heap[a.block]? with
  | none => simp [hk] at hsh
  | some o => exact (Array.getElem?_eq_some_iff.1 hk).1


set_option maxRecDepth 100000 in
theorem open_pond {v : Value} {d : DataW H} {p : List MemPlace} (hv : Value.okWide Try.prog W .any base 24 v) (h : DataW.Trod enc Try.prog W 0 (fun _ => true) true 24 v d p) :
    ∃ wd hg sw sk want keep, v = .agg #[.int .i64 wd, .int .i64 hg, sw, sk] ∧ Ints W sw want ∧ Ints W sk keep := by
  obtain ⟨v0, v1, v2, v3, y0, y1, y2, y3, n, rfl, rfl, rfl, h0, h1, h2, h3⟩ := open_agg4 Try.underlying24 (by kernel_rfl) (by kernel_rfl) hv h
  obtain ⟨x0, e0, _, _⟩ := DataW.trod_int Try.underlying3 h0
  injection e0 with e0
  subst e0
  obtain ⟨x1, e1, _, _⟩ := DataW.trod_int Try.underlying3 h1
  injection e1 with e1
  subst e1
  have hk : Try.prog.cellTypes Try.prog.depth 24 = some [3, 3, 22, 22] := by kernel_rfl
  unfold Value.okWide at hv
  rw [Try.underlying24] at hv
  obtain ⟨cs, e, _, ts, hts, _, hall⟩ := hv
  injection e with e
  subst e
  rw [hk] at hts
  injection hts with hts
  subst hts
  have hc2 : Cell.okWide Try.prog W .any base 22 v2 := by
    obtain ⟨u, hu, ho⟩ := hall 2 v2 rfl
    simp at hu
    rw [hu]
    exact ho
  have hc3 : Cell.okWide Try.prog W .any base 22 v3 := by
    obtain ⟨u, hu, ho⟩ := hall 3 v3 rfl
    simp at hu
    rw [hu]
    exact ho
  obtain ⟨l2, hl2⟩ := ints_of_trod hc2 h2
  obtain ⟨l3, hl3⟩ := ints_of_trod hc3 h3
  exact ⟨x0, x1, v2, v3, l2, l3, rfl, hl2, hl3⟩
set_option maxRecDepth 100000 in
theorem open_chain {v : Value} {d : DataW H} {p : List MemPlace} (hv : Value.okWide Try.prog W .any base 45 v) (h : DataW.Trod enc Try.prog W 0 (fun _ => true) true 45 v d p) :
    ∃ x y s, v = .agg #[.int .i64 x, .int .i64 y, .string s] ∧ s.size ≤ maxLen := by
  obtain ⟨v0, v1, v2, y0, y1, y2, n, rfl, rfl, rfl, h0, h1, h2⟩ := open_agg3 Try.underlying45 (by kernel_rfl) (by kernel_rfl) hv h
  obtain ⟨x0, e0, _, _⟩ := DataW.trod_int Try.underlying3 h0
  injection e0 with e0
  subst e0
  obtain ⟨x1, e1, _, _⟩ := DataW.trod_int Try.underlying3 h1
  injection e1 with e1
  subst e1
  obtain ⟨s, e2, _, hs⟩ := DataW.trod_string Try.underlying9 h2
  injection e2 with e2
  subst e2
  exact ⟨x0, x1, s, rfl, hs⟩
end

theorem Try.own : ownKnob Try.prog.godebug = none := by kernel_rfl
theorem Try.laidOut : laidOutB Try.prog = true := by kernel_rfl
theorem bool_mk {H : Type} {enc : TypeId × Value → H} {W : World} {base : Nat} {sp : Nat → Bool} {held : Bool} (b : Bool) : DataW.Trod enc Try.prog W base sp held 4 (.bool b) (.lit (.bool b)) [] := ⟨1, by simp [DataW.trod, Value.cells, Try.underlying4]⟩
theorem bool_ok (W : World) (b : Bool) : Value.okWide Try.prog W .any 0 4 (.bool b) := by simp [Value.okWide, Cell.okWide, Cell.ok, Try.underlying4]

theorem wf_u8 {n : Int} (h : (Lit.int .u8 n).wf = true) : 0 ≤ n ∧ n < 256 := by
  simp [Lit.wf, IntKind.min, IntKind.max, IntKind.signed, IntKind.bits] at h
  omega
theorem wf_u16 {n : Int} (h : (Lit.int .u16 n).wf = true) : 0 ≤ n ∧ n < 65536 := by
  simp [Lit.wf, IntKind.min, IntKind.max, IntKind.signed, IntKind.bits] at h
  omega
theorem wf_u32 {n : Int} (h : (Lit.int .u32 n).wf = true) : 0 ≤ n ∧ n < 4294967296 := by
  simp [Lit.wf, IntKind.min, IntKind.max, IntKind.signed, IntKind.bits] at h
  omega

theorem wf_u64 {n : Int} (h : (Lit.int .u64 n).wf = true) : 0 ≤ n ∧ n < 18446744073709551616 := by
  simp [Lit.wf, IntKind.min, IntKind.max, IntKind.signed, IntKind.bits] at h
  omega
theorem wf_i64 {n : Int} (h : (Lit.int .i64 n).wf = true) : -9223372036854775808 ≤ n ∧ n ≤ 9223372036854775807 := by
  simp [Lit.wf, IntKind.min, IntKind.max, IntKind.signed, IntKind.bits] at h
  omega
end Go.Proofs.Ytlkoadcbolkhoaa
