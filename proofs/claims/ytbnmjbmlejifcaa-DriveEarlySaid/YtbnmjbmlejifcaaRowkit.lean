/- The rows' frame: a call that lays new blocks and answers true; how arguments are opened. -/
import Derived.Test.YtbnmjbmlejifcaaRows
import Derived.Test.YtbnmjbmlejifcaaChka
import Derived.Test.YtbnmjbmlejifcaaWith
import Derived.ProofKit
import Derived.Lib.SmallJoins
import Derived.Deep.Matrix
set_option linter.all false
namespace Go.Proofs.Ytbnmjbmlejifcaa
open Go Go.ChangeShapes Go.WideShapes Go.ChangeAt Go.RowKit Go.Joins Go.Proofs

section
variable {H : Type} {enc : TypeId × Value → H} {P : Program}

def readB (P : Program) (ts : List TypeId) : Bool := ts.all fun t => P.readableRec t && decide (t < P.types.size)

theorem trodAll_stays (hl : laidOutB P = true) {W W' : World} {sp : Nat → Bool} : ∀ (ts : List TypeId) (vs : List Value) (ds : List (DataW H)) (ps : List MemPlace), readB P ts = true →
    DataW.TrodAll enc P W 0 (fun _ => true) true ts vs ds ps → (∀ p ∈ ps, W.sameAt W' p) → (∀ p ∈ ps, sp p.block = true) → DataW.TrodAll enc P W' 0 sp true ts vs ds ps
  | [], _, _, _, _, h, _, _ => by
    obtain ⟨rfl, rfl, rfl⟩ := trodAll_nil h
    exact trodAll_mk0
  | t :: ts, _, _, _, hr, h, h1, h2 => by
    obtain ⟨v, vs1, d, ds1, a, b, rfl, rfl, rfl, h3, h4⟩ := trodAll_cons h
    simp only [readB, List.all_cons, Bool.and_eq_true, decide_eq_true_eq] at hr
    exact ⟨a, b, WideElems.Trod_stays hl hr.1.1 hr.1.2 h3 (fun p hp => h1 p (List.mem_append_left _ hp)) (fun p hp => h2 p (List.mem_append_left _ hp)),
      trodAll_stays hl ts _ _ _ hr.2 h4 (fun p hp => h1 p (List.mem_append_right _ hp)) (fun p hp => h2 p (List.mem_append_right _ hp)), rfl⟩

theorem post_of_below {f : Func} {s : ChangeSpec} {apart fresh handsOn again : Bool} {W W' : World} {args : Array Value} {v : Value} {ds : List (DataW H)} {before : List MemPlace}
    (hl : laidOutB P = true) (hr : readB P f.params.toList = true)
    (hW : DataW.Whole enc P f.params.toList s.vars apart W args.toList ds [] before) (hV : s.vars = []) (hb : Below W.heap.size W W')
    (hsa : (s.fn H (ds ++ [])).args = ds) (hsv : (s.fn H (ds ++ [])).vars = [])
    (hres : ∀ (b : Nat) (sp : Nat → Bool) (hd : Bool), DataW.TrodAll enc P W' b sp hd f.resultTypes.toList (v.resultList f.resultTypes.size) (s.fn H (ds ++ [])).results [])
    (hok : ∀ (j : Nat) (t : TypeId) (r : Value), f.resultTypes[j]? = some t → (v.resultList f.resultTypes.size)[j]? = some r → Value.okWide P W' .any 0 t r) :
    s.post enc P f apart fresh handsOn again W args v W' := by
  have hlt := hW.lt
  have hW2 := hW
  obtain ⟨p, q, hA, hVq, rfl, hfz, hnd⟩ := hW2
  rw [hV] at hVq
  obtain ⟨_, rfl⟩ := trodVars_none hVq
  rw [List.append_nil] at hfz hnd hlt
  have hargs : ∀ sp : Nat → Bool, (∀ x ∈ p, sp x.block = true) → DataW.TrodAll enc P W' 0 sp true f.params.toList args.toList (s.fn H (ds ++ [])).args p := fun sp hsp => by
    rw [hsa]
    exact trodAll_stays hl _ _ _ _ hr hA (fun x hx => hb.same (hlt x hx)) hsp
  have hvars : ∀ sp : Nat → Bool, DataW.TrodVars enc P W' sp s.vars (s.fn H (ds ++ [])).vars [] := fun sp => by
    rw [hV, hsv]
    exact rfl
  have hold : ∀ x ∈ p, (fun b => decide (b < W.heap.size)) x.block = true := fun x hx => by simpa using hlt x hx
  refine ⟨ds, [], p ++ [], [], p, [], hW, hres _ _ _, hargs _ hold, hvars _, hb.frame _, fun _ => ⟨hok, _, _, ([] ++ p) ++ [], ⟨[] ++ p, [], trodAll_append (hargs _ (fun _ _ => rfl)) (hres _ _ _), hvars _, rfl, ?_, ?_⟩, ?_⟩⟩
  · intro b off hp
    have hp' : MemPlace.cell b off ∈ p := by simpa using hp
    have h1 := hfz b off hp'
    have h2 := hlt _ hp'
    rw [hb.frozen (p := ⟨b, off, none⟩) h2]
    exact h1
  · intro ha
    have := hnd ha
    simpa using this
  · intro x hx _
    simpa using hx
end


/-! ### The arguments opened -/
section
variable {H : Type} {enc : TypeId × Value → H} {W : World} {base : Nat}

set_option maxRecDepth 100000 in
theorem ints_of_trod {v : Value} {n : Nat} {y : DataW H × List MemPlace} (hv : Cell.okWide Try.prog W .any base 36 v) (h : DataW.trod enc Try.prog W 0 (fun _ => true) true n 36 [v] = some y) : ∃ xs, Ints W v xs := by
  rcases ChangeShapes.open_ints Try.underlying36 Try.underlying2 (by kernel_rfl) h with ⟨e, _⟩ | ⟨a, len, cap, zs, e, _, hl, hm, hz, _, hc, _⟩
  · injection e with e
    subst e
    exact ⟨[], .inl ⟨rfl, rfl⟩⟩
  · injection e with e
    subst e
    have hz' : zs.length = cap := by simpa using hz
    unfold Cell.okWide at hv
    rw [Try.underlying36] at hv
    simp only [Cell.ok, Try.underlying36] at hv
    obtain ⟨_, _, _, hsp, row, cells, hsh, _⟩ := hv
    obtain ⟨b, off, sp⟩ := a
    simp only at hsp
    subst hsp
    have hb : b < W.heap.size := by
      unfold World.shape? at hsh
      cases hk : W.heap[b]? with
      | none => simp [hk] at hsh
      | some o => exact (Array.getElem?_eq_some_iff.1 hk).1
    have hlen : (zs.take len).length = len := by simp; omega
    refine ⟨zs.take len, .inr ⟨b, off, cap, by rw [hlen], by rw [hlen]; exact hl, hb, fun i x hx => ?_⟩⟩
    rw [List.getElem?_take] at hx
    split at hx
    · have hi := (List.getElem?_eq_some_iff.1 hx).1
      have := hc i hi
      rw [Addr.add_lit] at this
      rw [this]
      simp [List.getD, hx]
    · cases hx

set_option maxRecDepth 100000 in
theorem open_longs {v : Value} {d : DataW H} {p : List MemPlace} (hv : Value.okWide Try.prog W .any base 36 v) (h : DataW.Trod enc Try.prog W 0 (fun _ => true) true 36 v d p) : ∃ xs, Ints W v xs := by
  unfold Value.okWide at hv
  rw [Try.underlying36] at hv
  obtain ⟨n, hn⟩ := h
  have hc : v.cells = #[v] := by
    unfold Cell.okWide at hv
    rw [Try.underlying36] at hv
    simp only [Cell.ok, Try.underlying36] at hv
    cases v <;> simp at hv <;> rfl
  rw [hc] at hn
  exact ints_of_trod hv hn


set_option maxRecDepth 100000 in
/-- A slice's own cell: its block is there, its address plain. -/
theorem slice_place {t e : TypeId} {a : Addr} {len cap : Nat} (ht : Try.prog.underlying t = some (.slice e)) (hv : Cell.okWide Try.prog W .any base t (.slice (some a) len cap)) : a.spot = none ∧ a.block < W.heap.size := by
  unfold Cell.okWide at hv
  rw [ht] at hv
  simp only [Cell.ok, ht] at hv
  obtain ⟨_, _, _, hsp, row, cells, hsh, _⟩ := hv
  refine ⟨hsp, ?_⟩
  unfold World.shape? at hsh
  cases hk : W.heap[a.block]? with
  | none => simp [hk] at hsh
  | some o => exact (Array.getElem?_eq_some_iff.1 hk).1

theorem int1 {t : TypeId} {k : IntKind} {n : Nat} {cs : List Value} {y : DataW H × List MemPlace} (ht : Try.prog.underlying t = some (.int k)) (h : DataW.trod enc Try.prog W 0 (fun _ => true) true n t cs = some y) : ∃ x : Int, cs = [.int k x] := by
  obtain ⟨x, e, _, _⟩ := DataW.trod_int ht h
  exact ⟨x, e⟩
theorem list8 {cs : List Value} (h : cs.length = 8) : ∃ c0 c1 c2 c3 c4 c5 c6 c7, cs = [c0, c1, c2, c3, c4, c5, c6, c7] := by
  match cs, h with
  | [c0, c1, c2, c3, c4, c5, c6, c7], _ => exact ⟨c0, c1, c2, c3, c4, c5, c6, c7, rfl⟩
theorem struct_parts {t n : Nat} {cs : List Value} {y : DataW H × List MemPlace} (M : Array (Nat × TypeId × Nat)) (hS : Try.prog.underlying t = some (.struct (Try.prog.fieldsOf t))) (hM : (Try.prog.fieldsOf t).map (fun f => (f.offset, f.type, Try.prog.cellsOf f.type)) = M)
    (h : DataW.trod enc Try.prog W 0 (fun _ => true) true n t cs = some y) : cs.length = Try.prog.cellsOf t ∧ ∃ k, ∀ (i o t' s : Nat), M[i]? = some (o, t', s) → ∃ z, DataW.trod enc Try.prog W 0 (fun _ => true) true k t' ((cs.drop o).take s) = some z := by
  obtain ⟨xs, k, _, _, hl, hxl, hf⟩ := DataW.trod_struct hS h
  refine ⟨hl, k, fun i o t' s hi => ?_⟩
  rw [← hM, Array.getElem?_map] at hi
  obtain ⟨f, hfi, he⟩ := Option.map_eq_some_iff.1 hi
  simp only [Prod.mk.injEq] at he
  obtain ⟨rfl, rfl, rfl⟩ := he
  have h1 := hf i f hfi
  have hlt : i < xs.length := by rw [hxl]; exact (Array.getElem?_eq_some_iff.1 hfi).1
  rw [List.getElem?_eq_getElem hlt] at h1
  exact ⟨_, h1⟩
theorem int_at {t : TypeId} {k : IntKind} {n : Nat} {c : Value} {y : DataW H × List MemPlace} (ht : Try.prog.underlying t = some (.int k)) (h : DataW.trod enc Try.prog W 0 (fun _ => true) true n t [c] = some y) : ∃ x : Int, c = .int k x := by
  obtain ⟨x, e⟩ := int1 ht h
  injection e with e
  exact ⟨x, e⟩
set_option maxRecDepth 10000 in
theorem water_of_cells {n : Nat} {c3 c4 : Value} {y : DataW H × List MemPlace} (h : DataW.trod enc Try.prog W 0 (fun _ => true) true n 57 [c3, c4] = some y) : ∃ x3 x4 : Int, c3 = .int .i64 x3 ∧ c4 = .int .i64 x4 := by
  obtain ⟨_, k, at57⟩ := struct_parts #[(0, 2, 1), (1, 2, 1)] (by kernel_rfl) (by kernel_rfl) h
  obtain ⟨w0, g0⟩ := at57 0 0 2 1 rfl
  obtain ⟨w1, g1⟩ := at57 1 1 2 1 rfl
  obtain ⟨x3, e3⟩ := int_at Try.underlying2 g0
  obtain ⟨x4, e4⟩ := int_at Try.underlying2 g1
  exact ⟨x3, x4, e3, e4⟩
set_option maxRecDepth 10000 in
theorem rch_of_cells {n : Nat} {cs : List Value} {y : DataW H × List MemPlace} (h : DataW.trod enc Try.prog W 0 (fun _ => true) true n 59 cs = some y) : ∃ x : Rch, cs = rc x := by
  obtain ⟨hl, k, at59⟩ := struct_parts #[(0, 3, 1), (1, 2, 1), (2, 2, 1), (3, 57, 2), (5, 2, 1), (6, 2, 1), (7, 2, 1)] (by kernel_rfl) (by kernel_rfl) h
  rw [show Try.prog.cellsOf 59 = 8 by kernel_rfl] at hl
  obtain ⟨c0, c1, c2, c3, c4, c5, c6, c7, rfl⟩ := list8 hl
  obtain ⟨z0, h0⟩ := at59 0 0 3 1 rfl
  obtain ⟨z1, h1⟩ := at59 1 1 2 1 rfl
  obtain ⟨z2, h2⟩ := at59 2 2 2 1 rfl
  obtain ⟨z3, h3⟩ := at59 3 3 57 2 rfl
  obtain ⟨z4, h4⟩ := at59 4 5 2 1 rfl
  obtain ⟨z5, h5⟩ := at59 5 6 2 1 rfl
  obtain ⟨z6, h6⟩ := at59 6 7 2 1 rfl
  obtain ⟨x0, rfl⟩ := int_at (c := c0) Try.underlying3 h0
  obtain ⟨x1, rfl⟩ := int_at (c := c1) Try.underlying2 h1
  obtain ⟨x2, rfl⟩ := int_at (c := c2) Try.underlying2 h2
  obtain ⟨x3, x4, rfl, rfl⟩ := water_of_cells (c3 := c3) (c4 := c4) h3
  obtain ⟨x5, rfl⟩ := int_at (c := c5) Try.underlying2 h4
  obtain ⟨x6, rfl⟩ := int_at (c := c6) Try.underlying2 h5
  obtain ⟨x7, rfl⟩ := int_at (c := c7) Try.underlying2 h6
  exact ⟨⟨x0, x1, x2, x3, x4, x5, x6, x7⟩, rfl⟩
instance : Inhabited Rch := ⟨zeroR⟩
set_option maxRecDepth 100000 in
theorem rchs_of_trod {v : Value} {n : Nat} {y : DataW H × List MemPlace} (hv : Cell.okWide Try.prog W .any base 22 v) (h : DataW.trod enc Try.prog W 0 (fun _ => true) true n 22 [v] = some y) : ∃ l, Rchs W v l := by
  rcases Deep.open_slice Try.underlying22 h with ⟨e, _⟩ | ⟨a, len, cap, m, n', Dd, Pl, e, _, hl, hm, hmm, _, hx⟩
  · injection e with e
    subst e
    exact ⟨[], .inl ⟨rfl, rfl⟩⟩
  · injection e with e
    subst e
    obtain ⟨hsp, hb⟩ := slice_place Try.underlying22 hv
    obtain ⟨b, off, sp⟩ := a
    simp only at hsp hb
    subst hsp
    simp only [if_true] at hmm
    subst hmm
    have hc : Try.prog.cellsOf 59 = 8 := by kernel_rfl
    have each : ∀ i, i < len → ∃ x : Rch, RchAt W b (off + i * 8) x := fun i hi => by
      obtain ⟨cs', h1, h2⟩ := hx i (by omega)
      obtain ⟨x, hxx⟩ := rch_of_cells h2
      rw [hc] at h1
      obtain ⟨_, _, hcell⟩ := World.cells?_some h1
      subst hxx
      rw [Addr.add_lit] at hcell
      have g : ∀ j, j < 8 → W.cell? ⟨b, off + i * 8 + j, none⟩ = (rc x)[j]? := fun j hj => by
        have := hcell j hj
        rwa [Addr.add_lit] at this
      exact ⟨x, g 0 (by omega), g 1 (by omega), g 2 (by omega), g 3 (by omega), g 4 (by omega), g 5 (by omega), g 6 (by omega), g 7 (by omega)⟩
    obtain ⟨f, hf⟩ := Deep.choose_lt each
    have hlen : ((List.range len).map f).length = len := by simp
    refine ⟨(List.range len).map f, .inr ⟨b, off, m, by rw [hlen], by rw [hlen]; exact hl, hb, fun i x hx => ?_⟩⟩
    have hi : i < len := by rw [← hlen]; exact (List.getElem?_eq_some_iff.1 hx).1
    rw [List.getElem?_map, List.getElem?_range hi] at hx
    simp only [Option.map_some, Option.some.injEq] at hx
    subst hx
    exact hf i hi
set_option maxRecDepth 100000 in
theorem open_river {v : Value} {d : DataW H} {p : List MemPlace} (hv : Value.okWide Try.prog W .any base 24 v) (h : DataW.Trod enc Try.prog W 0 (fun _ => true) true 24 v d p) :
    ∃ days sr l, v = .agg #[.int .i64 days, sr] ∧ Rchs W sr l := by
  obtain ⟨v0, v1, y0, y1, n, rfl, rfl, rfl, h0, h1⟩ := open_agg2 Try.underlying24 (by kernel_rfl) (by kernel_rfl) hv h
  obtain ⟨x0, e0, _, _⟩ := DataW.trod_int Try.underlying2 h0
  injection e0 with e0
  subst e0
  have hc : Cell.okWide Try.prog W .any base 22 v1 := by
    unfold Value.okWide at hv
    rw [Try.underlying24] at hv
    obtain ⟨cs, e, _, ts, hts, _, hall⟩ := hv
    injection e with e
    subst e
    have hk : Try.prog.cellTypes Try.prog.depth 24 = some [2, 22] := by kernel_rfl
    rw [hk] at hts
    injection hts with hts
    subst hts
    obtain ⟨u, hu, ho⟩ := hall 1 v1 rfl
    simp at hu
    rw [hu]
    exact ho
  obtain ⟨l, hl⟩ := rchs_of_trod hc h1
  exact ⟨x0, v1, l, rfl, hl⟩
set_option maxRecDepth 100000 in
theorem open_plan {v : Value} {d : DataW H} {p : List MemPlace} (hv : Value.okWide Try.prog W .any base 25 v) (h : DataW.Trod enc Try.prog W 0 (fun _ => true) true 25 v d p) : ∃ L, Rows0 W v L := by
  unfold Value.okWide at hv
  rw [Try.underlying25] at hv
  obtain ⟨n, hn⟩ := h
  have hc : v.cells = #[v] := by
    unfold Cell.okWide at hv
    rw [Try.underlying25] at hv
    simp only [Cell.ok, Try.underlying25] at hv
    cases v <;> simp at hv <;> rfl
  rw [hc] at hn
  rcases Deep.open_int_rows Try.underlying25 Try.underlying36 Try.underlying2 (by kernel_rfl) (by kernel_rfl) hn with ⟨e, _⟩ | ⟨a, len, cap, A, L, C, Z, e, _, hl, hm, _, hx⟩
  · injection e with e
    subst e
    exact ⟨[], .inl ⟨rfl, rfl⟩⟩
  · injection e with e
    subst e
    obtain ⟨hsp, hb⟩ := slice_place Try.underlying25 hv
    obtain ⟨b, off, sp⟩ := a
    simp only at hsp hb
    subst hsp
    have hlen : ((List.range len).map fun r => (Z r).take (L r)).length = len := by simp
    refine ⟨(List.range len).map fun r => (Z r).take (L r), .inr ⟨b, off, cap, by rw [hlen], by rw [hlen]; exact hl, hb, fun i r hr => ?_⟩⟩
    have hi : i < len := by rw [← hlen]; exact (List.getElem?_eq_some_iff.1 hr).1
    rw [List.getElem?_map, List.getElem?_range hi] at hr
    simp only [Option.map_some, Option.some.injEq] at hr
    subst hr
    obtain ⟨hcell, h1, h2, h3, h4, h5, h6⟩ := hx i (by omega)
    rw [Addr.add_lit] at hcell
    have htl : ((Z i).take (L i)).length = L i := by simp; omega
    refine ⟨A i, C i, by rw [htl]; exact hcell, fun hpos => ?_⟩
    rw [htl] at hpos ⊢
    cases hA : A i with
    | none => have := h5 hA; omega
    | some a' =>
      obtain ⟨_, hcz⟩ := h6 a' hA
      obtain ⟨b2, o2, sp2⟩ := a'
      have hc0 := hcz 0 (by omega)
      have hsp2 : sp2 = none := by simpa [Addr.add] using World.cell?_spot hc0
      subst hsp2
      rw [Addr.add_lit] at hc0
      have hb2 : b2 < W.heap.size := by
        unfold World.cell? at hc0
        cases hk : W.heap[b2]? with
        | none => simp [hk] at hc0
        | some o => exact (Array.getElem?_eq_some_iff.1 hk).1
      refine .inr ⟨b2, o2, C i, by rw [htl], by rw [htl]; exact h1, hb2, fun j x hx => ?_⟩
      rw [List.getElem?_take] at hx
      split at hx
      · have hj := (List.getElem?_eq_some_iff.1 hx).1
        have := hcz j (by omega)
        rw [Addr.add_lit] at this
        rw [this]
        simp [List.getD, hx]
      · cases hx
end

theorem Try.own : ownKnob Try.prog.godebug = none := by kernel_rfl
theorem Try.laidOut : laidOutB Try.prog = true := by kernel_rfl
theorem bool_mk {H : Type} {enc : TypeId × Value → H} {W : World} {base : Nat} {sp : Nat → Bool} {held : Bool} (b : Bool) : DataW.Trod enc Try.prog W base sp held 4 (.bool b) (.lit (.bool b)) [] := ⟨1, by simp [DataW.trod, Value.cells, Try.underlying4]⟩
theorem bool_ok (W : World) (b : Bool) : Value.okWide Try.prog W .any 0 4 (.bool b) := by simp [Value.okWide, Cell.okWide, Cell.ok, Try.underlying4]

theorem wf_u8 {n : Int} (h : (Lit.int .u8 n).wf = true) : 0 ≤ n ∧ n < 256 := by
  simp [Lit.wf, IntKind.min, IntKind.max, IntKind.signed, IntKind.bits] at h
  omega
theorem wf_u16 {n : Int} (h : (Lit.int .u16 n).wf = true) : 0 ≤ n ∧ n < 65536 := by
  simp [Lit.wf, IntKind.min, IntKind.max, IntKind.signed, IntKind.bits] at h
  omega
theorem wf_u32 {n : Int} (h : (Lit.int .u32 n).wf = true) : 0 ≤ n ∧ n < 4294967296 := by
  simp [Lit.wf, IntKind.min, IntKind.max, IntKind.signed, IntKind.bits] at h
  omega

end Go.Proofs.Ytbnmjbmlejifcaa
