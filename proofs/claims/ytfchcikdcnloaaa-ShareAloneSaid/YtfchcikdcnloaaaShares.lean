/- share's Shares: slices.Clone, and what each owner gets. -/
import Derived.Test.YtfchcikdcnloaaaAll
import Derived.Laws.Cover3
import Derived.Deep.RegionWith
namespace Go.Proofs.Ytfchcikdcnloaaa
open Go Go.RowKit Go.Proofs

theorem info2' : (Try.prog.info? 2).map (fun i => (i.zero, i.size, i.bytes)) = some (some (.int .i64 0), 1, 8) := by kernel_rfl

/-- Whole numbers appended to an empty row: a new row. -/
theorem append_empty {W : World} {b0 : Nat} {A : Addr} {n c : Nat} {l : List Int} (hl : l.length = n) (h0 : 0 < n) (hn : n ≤ 100000) (hc : ∀ (i : Nat) (x : Int), l[i]? = some x → W.cell? (A.add i) = some (.int .i64 x)) :
    ∃ v W', (Builtin.append_ #[22, 22] 22 #[.slice (some ⟨b0, 0, none⟩) 0 0, .slice (some A) n c]).run Try.prog W = .ok v W' ∧ Below W.heap.size W W' ∧ Ints W' v l := by
  obtain ⟨i0, hi, hz0, hz1, hz2⟩ := info_parts info2'
  refine ⟨_, _, run_append_grow W 22 22 2 i0 (.int .i64 0) Try.underlying22 hi hz0 ⟨b0, 0, none⟩ 0 0 [] (by simp) (fun j v h => by simp at h) A n c (l.map (Value.int .i64)) (by rw [hz1]; simp [hl]) ?_ (by omega) (by omega) (by rw [hz2]; have := nextslicecap_le (need := 0 + n) (old := 0) (by omega); omega), bl_alloc (bl_drew (bl_refl _)) _, ?_⟩
  · intro j u hu
    rw [List.getElem?_map] at hu
    obtain ⟨y, hy, rfl⟩ := Option.map_eq_some_iff.mp hu
    exact hc j y hy
  · refine .inr ⟨W.heap.size, 0, _, by rw [Nat.zero_add, hl], by rw [hl]; have := grownCap_ge W (0 + n) 0 2; rw [Nat.zero_add] at this; exact this, by simp, fun i x hx => ?_⟩
    have := World.cell?_alloc_new W.drew
    have e := this ([].toArray ++ (l.map (Value.int .i64)).toArray ++ Builtin.zeroCells (Value.int .i64 0).cells (grownCap W (0 + n) 0 2 - (0 + n))) 2 i
    have e2 : (⟨W.heap.size, 0 + i, none⟩ : Addr) = ⟨W.drew.heap.size, i, none⟩ := by rw [Nat.zero_add]; rfl
    rw [e2]
    refine Eq.trans e ?_
    have hi := (List.getElem?_eq_some_iff.mp hx).1
    rw [Array.getElem?_append_left (by simpa using hi)]
    simp [hx]

set_option maxRecDepth 100000 in
theorem clone_any (b off n c : Nat) (l : List Int) (w : World) (hl : l.length = n) (h0 : 0 < n) (hn : n ≤ 100000) (hc : ∀ (i : Nat) (x : Int), l[i]? = some x → w.cell? ⟨b, off + i, none⟩ = some (.int .i64 x)) :
    Calls Try.prog 59 #[.slice (some ⟨b, off, none⟩) n c] w fun e w' => (∃ v, e = .returned v ∧ Ints w' v l) ∧ Below w.heap.size w w' := by
  have hcm : ∀ (W : World), Below w.heap.size w W → ∃ v W', (Builtin.append_ #[22, 22] 22 #[.slice (some ⟨w.heap.size, 0, none⟩) 0 0, .slice (some ⟨b, off, none⟩) n c]).run Try.prog W = .ok v W' ∧ Below W.heap.size W W' ∧ Ints W' v l :=
    fun W hW => append_empty hl h0 hn (fun i x hx => by rw [Addr.add_lit]; exact cell_mono (hc i x hx) hW)
  have heq : ∀ W, (binOp .eql 22 (.slice (some ⟨b, off, none⟩) n c) (.slice none 0 0)).run Try.prog W = .ok (.bool false) W := fun W => by
    show ((do pure (.bool (← Op.equal 22 (.slice (some ⟨b, off, none⟩) n c) (.slice none 0 0)))) : Sem Value).run Try.prog W = _
    rw [Sem.run_bind, run_equal_slice_nil W 22 2 _ n c Try.underlying22]
    rfl
  have HC := Lib.hid hcm
  clear hcm hc
  obtain ⟨v, W', hr, hb', hI⟩ := HC.out (w.alloc (.cells #[] 2)) (bl_alloc (bl_refl _) _)
  have HI := Lib.hid hI
  have HB := Lib.hid hb'
  clear hI hb' HC
  go_enter Try.func59, Try.ntmps59
  go_wp2_with (at_builtin; refine wpList_append_run rfl _ _ 22 rfl _ _ _ _ rfl rfl hr ?_)
  go_ret
  exact ⟨⟨v, rfl, HI.out⟩, bl_trans (bl_alloc (bl_refl _) _) HB.out⟩

theorem run_slice82 (g n : Nat) (hn : n ≤ 12) (W : World) : (Instr.sliceAt 82 (.pointer (some ⟨g, 3, none⟩)) none (some (.int .i64 (n : Int))) none).run Try.prog W = .ok (.slice (some ⟨g, 3, none⟩) n 12) W := by
  have hu : Try.prog.underlying 82 = some (.array 12 2) := by kernel_rfl
  have hs := Try.sizeOf2
  have h1 : (0 : Int) ≤ n := by omega
  have h2 : (n : Int) ≤ ((12 : Nat) : Int) := by omega
  simp [Instr.sliceAt, Instr.sureAddr, run_underlying hu, Instr.sliceBounds, run_sliceBound W .i64 n 12 .sliceAlen h1 h2, Result.andThen, Sem.run_bind, hs]
  rfl

theorem Old.since {w0 w w' : World} {g : Nat} (h : Old g w w') (hb : Below w0.heap.size w0 w) (hg : w0.heap.size ≤ g) : Below w0.heap.size w0 w' :=
  ⟨h.os.trans hb.os, h.tape.trans hb.tape, h.output.trans hb.output, Nat.le_trans hb.size h.size, fun k hk => (h.block k (Nat.lt_of_lt_of_le hk hb.size) (by omega)).trans (hb.block k hk)⟩

def gotEnd (had : List Int) (part prize : Int) : List Int := gotOf (ordN had part prize.toNat)

theorem shares_err (had : List Int) (part prize : Int) (s : Value) (w : World) (hl : had.length ≤ 1000) (V : checkPool had part prize ≠ 0) (hs : Ints w s had) :
    Calls Try.prog 25 #[.agg #[s, .int .i64 part, .int .i64 prize]] w fun e w' => e = .returned (.tuple #[.slice none 0 0, .int .i64 (checkPool had part prize)]) ∧ Below w.heap.size w w' := by
  obtain ⟨A, c, rfl⟩ := hs.slice
  have hcp : (checkPool had part prize != 0) = true := by simpa using V
  go_enter Try.func25, Try.ntmps25
  go_wp2_with fail
  refine (open_err had part prize _ _ hl V (hs.mono (bl_alloc (bl_refl _) _))).mono ?_
  rintro e w1 ⟨rfl, hb1⟩
  clear V
  have hB1 := bl_trans (bl_alloc (bl_refl _) _) hb1
  go_wp2
  go_ret2
  exact ⟨rfl, hB1⟩

set_option maxRecDepth 100000 in
theorem shares_ok (had : List Int) (part prize : Int) (s : Value) (w : World) (V : Val had part prize) (hs : Ints w s had) :
    Calls Try.prog 25 #[.agg #[s, .int .i64 part, .int .i64 prize]] w fun e w' => (∃ v, e = .returned (.tuple #[v, .int .i64 0]) ∧ Ints w' v ((gotEnd had part prize).take had.length)) ∧ Below w.heap.size w w' := by
  obtain ⟨A, c, rfl⟩ := hs.slice
  have hl1 := V.l1
  have hl2 := V.l2
  go_enter Try.func25, Try.ntmps25
  go_wp2_with fail
  refine (open_ok had part prize _ _ V (hs.mono (bl_alloc (bl_refl _) _))).mono ?_
  rintro e w1 ⟨⟨g, b, off, c', rfl, hg, T⟩, hb1⟩
  have hB1 := bl_trans (bl_alloc (bl_refl _) _) hb1
  have hN := new_cells hb1
  simp only [World.size_alloc] at hg
  have hN0 := hN.1 0
  have hN2 := hN.2 0
  go_wp2_with fail
  refine (all_any T V).mono ?_
  rintro e w2 ⟨rfl, T2, hO⟩
  have hB2 := hO.since hB1 (by omega)
  have hgl : (gotEnd had part prize).length = 12 := gotOf_len _
  have hcl : ∀ (i : Nat) (x : Int), ((gotEnd had part prize).take had.length)[i]? = some x → w2.cell? ⟨g, 3 + i, none⟩ = some (.int .i64 x) := fun i x hx => T2.cg (by
    rw [List.getElem?_take] at hx
    split at hx
    · exact hx
    · cases hx)
  have hlen : ((gotEnd had part prize).take had.length).length = had.length := by simp; omega
  have hp1 : w.heap.size < w1.heap.size := by have := T.glt; omega
  have hcp : w2.cell? ⟨w.heap.size, 0, none⟩ = some (.slice A had.length c) := by
    rw [World.cell?_of_block (hO.block w.heap.size hp1 (by omega))]; exact hN0
  have hg2 := T2.glt
  generalize ((runSt had part (ordN had part prize.toNat)).map (·.2)).getD 0 = res at *
  generalize hL : (gotEnd had part prize).take had.length = L at hcl hlen
  have HL := Lib.hid hL
  clear hL
  have HC : Hid (∀ W, Below w2.heap.size w2 W → Calls Try.prog 59 #[.slice (some ⟨g, 3, none⟩) had.length 12] W fun e w' => (∃ v, e = .returned v ∧ Ints w' v L) ∧ Below W.heap.size W w') := fun W hW =>
    clone_any g 3 had.length 12 L W hlen (by omega) (by omega) (fun i x hx => cell_mono (hcl i x hx) hW)
  have hsl := run_slice82 g had.length (by omega)
  clear hcl hN hN0 hN2 hO T T2
  go_wp2_with fail
  go_region_with (refine (HC.out _ (bl_drew (bl_refl _))).mono ?_; rintro e w' ⟨⟨v, rfl, hI⟩, hb⟩)
  all_goals go_wp2
  all_goals go_ret2
  all_goals exact ⟨⟨v, rfl, by rw [HL.out]; exact hI⟩, bl_trans hB2 (bl_trans (bl_drew (bl_refl _)) hb)⟩

end Go.Proofs.Ytfchcikdcnloaaa
