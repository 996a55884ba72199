/- The row's frame: a call that lays new blocks and answers true. -/
import Derived.Test.YtfchcikdcnloaaaBase
import Derived.Test.YtfchcikdcnloaaaRows
import Derived.ProofKit
import Derived.Lib.SmallJoins
namespace Go.Proofs.Ytfchcikdcnloaaa
open Go Go.ChangeShapes Go.WideShapes Go.ChangeAt Go.RowKit Go.Joins Go.Proofs

section
variable {H : Type} {enc : TypeId × Value → H} {P : Program}

def readB (P : Program) (ts : List TypeId) : Bool := ts.all fun t => P.readableRec t && decide (t < P.types.size)

theorem trodAll_stays (hl : laidOutB P = true) {W W' : World} {sp : Nat → Bool} : ∀ (ts : List TypeId) (vs : List Value) (ds : List (DataW H)) (ps : List MemPlace), readB P ts = true →
    DataW.TrodAll enc P W 0 (fun _ => true) true ts vs ds ps → (∀ p ∈ ps, W.sameAt W' p) → (∀ p ∈ ps, sp p.block = true) → DataW.TrodAll enc P W' 0 sp true ts vs ds ps
  | [], _, _, _, _, h, _, _ => by
    obtain ⟨rfl, rfl, rfl⟩ := trodAll_nil h
    exact trodAll_mk0
  | t :: ts, _, _, _, hr, h, h1, h2 => by
    obtain ⟨v, vs1, d, ds1, a, b, rfl, rfl, rfl, h3, h4⟩ := trodAll_cons h
    simp only [readB, List.all_cons, Bool.and_eq_true, decide_eq_true_eq] at hr
    exact ⟨a, b, WideElems.Trod_stays hl hr.1.1 hr.1.2 h3 (fun p hp => h1 p (List.mem_append_left _ hp)) (fun p hp => h2 p (List.mem_append_left _ hp)),
      trodAll_stays hl ts _ _ _ hr.2 h4 (fun p hp => h1 p (List.mem_append_right _ hp)) (fun p hp => h2 p (List.mem_append_right _ hp)), rfl⟩

theorem post_of_below {f : Func} {s : ChangeSpec} {apart fresh handsOn again : Bool} {W W' : World} {args : Array Value} {v : Value} {ds : List (DataW H)} {before : List MemPlace}
    (hl : laidOutB P = true) (hr : readB P f.params.toList = true)
    (hW : DataW.Whole enc P f.params.toList s.vars apart W args.toList ds [] before) (hV : s.vars = []) (hb : Below W.heap.size W W')
    (hsa : (s.fn H (ds ++ [])).args = ds) (hsv : (s.fn H (ds ++ [])).vars = [])
    (hres : ∀ (b : Nat) (sp : Nat → Bool) (hd : Bool), DataW.TrodAll enc P W' b sp hd f.resultTypes.toList (v.resultList f.resultTypes.size) (s.fn H (ds ++ [])).results [])
    (hok : ∀ (j : Nat) (t : TypeId) (r : Value), f.resultTypes[j]? = some t → (v.resultList f.resultTypes.size)[j]? = some r → Value.okWide P W' .any 0 t r) :
    s.post enc P f apart fresh handsOn again W args v W' := by
  have hlt := hW.lt
  have hW2 := hW
  obtain ⟨p, q, hA, hVq, rfl, hfz, hnd⟩ := hW2
  rw [hV] at hVq
  obtain ⟨_, rfl⟩ := trodVars_none hVq
  rw [List.append_nil] at hfz hnd hlt
  have hargs : ∀ sp : Nat → Bool, (∀ x ∈ p, sp x.block = true) → DataW.TrodAll enc P W' 0 sp true f.params.toList args.toList (s.fn H (ds ++ [])).args p := fun sp hsp => by
    rw [hsa]
    exact trodAll_stays hl _ _ _ _ hr hA (fun x hx => hb.same (hlt x hx)) hsp
  have hvars : ∀ sp : Nat → Bool, DataW.TrodVars enc P W' sp s.vars (s.fn H (ds ++ [])).vars [] := fun sp => by
    rw [hV, hsv]
    exact rfl
  have hold : ∀ x ∈ p, (fun b => decide (b < W.heap.size)) x.block = true := fun x hx => by simpa using hlt x hx
  refine ⟨ds, [], p ++ [], [], p, [], hW, hres _ _ _, hargs _ hold, hvars _, hb.frame _, fun _ => ⟨hok, _, _, ([] ++ p) ++ [], ⟨[] ++ p, [], trodAll_append (hargs _ (fun _ _ => rfl)) (hres _ _ _), hvars _, rfl, ?_, ?_⟩, ?_⟩⟩
  · intro b off hp
    have hp' : MemPlace.cell b off ∈ p := by simpa using hp
    have h1 := hfz b off hp'
    have h2 := hlt _ hp'
    rw [hb.frozen (p := ⟨b, off, none⟩) h2]
    exact h1
  · intro ha
    have := hnd ha
    simpa using this
  · intro x hx _
    simpa using hx
end

/-! ### The arguments opened -/
section
variable {H : Type} {enc : TypeId × Value → H} {W : World} {base : Nat}

set_option maxRecDepth 100000 in
theorem ints_of_trod {v : Value} {n : Nat} {y : DataW H × List MemPlace} (hv : Cell.okWide Try.prog W .any base 22 v) (h : DataW.trod enc Try.prog W 0 (fun _ => true) true n 22 [v] = some y) : ∃ xs, Ints W v xs := by
  rcases ChangeShapes.open_ints Try.underlying22 Try.underlying2 (by kernel_rfl) h with ⟨e, _⟩ | ⟨a, len, cap, zs, e, _, hl, hm, hz, _, hc, _⟩
  · injection e with e
    subst e
    exact ⟨[], .inl ⟨rfl, rfl⟩⟩
  · injection e with e
    subst e
    have hz' : zs.length = cap := by simpa using hz
    unfold Cell.okWide at hv
    rw [Try.underlying22] at hv
    simp only [Cell.ok, Try.underlying22] at hv
    obtain ⟨_, _, _, hsp, row, cells, hsh, _⟩ := hv
    obtain ⟨b, off, sp⟩ := a
    simp only at hsp
    subst hsp
    have hb : b < W.heap.size := by
      unfold World.shape? at hsh
      cases hk : W.heap[b]? with
      | none => simp [hk] at hsh
      | some o => exact (Array.getElem?_eq_some_iff.1 hk).1
    have hlen : (zs.take len).length = len := by simp; omega
    refine ⟨zs.take len, .inr ⟨b, off, cap, by rw [hlen], by rw [hlen]; exact hl, hb, fun i x hx => ?_⟩⟩
    rw [List.getElem?_take] at hx
    split at hx
    · have hi := (List.getElem?_eq_some_iff.1 hx).1
      have := hc i hi
      rw [Addr.add_lit] at this
      rw [this]
      simp [List.getD, hx]
    · cases hx

set_option maxRecDepth 100000 in
theorem open_longs {v : Value} {d : DataW H} {p : List MemPlace} (hv : Value.okWide Try.prog W .any base 22 v) (h : DataW.Trod enc Try.prog W 0 (fun _ => true) true 22 v d p) : ∃ xs, Ints W v xs := by
  unfold Value.okWide at hv
  rw [Try.underlying22] at hv
  obtain ⟨n, hn⟩ := h
  have hc : v.cells = #[v] := by
    unfold Cell.okWide at hv
    rw [Try.underlying22] at hv
    simp only [Cell.ok, Try.underlying22] at hv
    cases v <;> simp at hv <;> rfl
  rw [hc] at hn
  exact ints_of_trod hv hn

set_option maxRecDepth 100000 in
theorem open_pool {v : Value} {d : DataW H} {p : List MemPlace} (hv : Value.okWide Try.prog W .any base 24 v) (h : DataW.Trod enc Try.prog W 0 (fun _ => true) true 24 v d p) :
    ∃ s had part prize, v = .agg #[s, .int .i64 part, .int .i64 prize] ∧ Ints W s had := by
  obtain ⟨v0, v1, v2, y0, y1, y2, n, rfl, rfl, rfl, h0, h1, h2⟩ := open_agg3 Try.underlying24 (by kernel_rfl) (by kernel_rfl) hv h
  obtain ⟨x1, e1, _, _⟩ := DataW.trod_int Try.underlying2 h1
  obtain ⟨x2, e2, _, _⟩ := DataW.trod_int Try.underlying2 h2
  injection e1 with e1
  injection e2 with e2
  subst e1 e2
  have hc : Cell.okWide Try.prog W .any base 22 v0 := by
    unfold Value.okWide at hv
    rw [Try.underlying24] at hv
    obtain ⟨cs, e, _, ts, hts, _, hall⟩ := hv
    injection e with e
    subst e
    have hk : Try.prog.cellTypes Try.prog.depth 24 = some [22, 2, 2] := by kernel_rfl
    rw [hk] at hts
    injection hts with hts
    subst hts
    obtain ⟨u, hu, ho⟩ := hall 0 v0 rfl
    simp at hu
    rw [hu]
    exact ho
  obtain ⟨had, hI⟩ := ints_of_trod hc h0
  exact ⟨v0, had, x1, x2, rfl, hI⟩
end
end Go.Proofs.Ytfchcikdcnloaaa
