/- BoomTogether: the law's walk. -/
import Derived.Test.YtlkoadcbolkhoaaWater
import Derived.Test.YtlkoadcbolkhoaaLawe
set_option linter.all false
namespace Go.Proofs.Ytlkoadcbolkhoaa
open Go Go.RowKit Go.Proofs
attribute [local go_sem] cell_grow frozen_grow

def newP (keep : List Int) (bits c : Int) : Bool := bitB bits c && !keep.contains c
def bothP (want keep : List Int) (bits c : Int) : Bool := newP keep bits c || want.contains c
/-- What lies there while two ponds get the cells that they want. -/
structure Tog (w : World) (b0 X Y Z : Nat) (cx : Array Value) (wd hg : Int) (sk v1 v2 : Value) (L1 L2 : List Int) (W : World) : Prop where
  x : W.heap[X]? = some (.cells cx 24 (0, 0))
  y : W.heap[Y]? = some (.cells #[.int .i64 wd, .int .i64 hg, v1, sk] 24 (0, 0))
  z : W.heap[Z]? = some (.cells #[.int .i64 wd, .int .i64 hg, v2, sk] 24 (0, 0))
  xy : X ≠ Y
  xz : X ≠ Z
  yz : Y ≠ Z
  o1 : W.ownsRow b0 3 1 v1 L1.length (L1.map (Value.int .i64))
  o2 : W.ownsRow b0 3 1 v2 L2.length (L2.map (Value.int .i64))
  ne : ∀ g, v1.ownBlock = some g → v2.ownBlock ≠ some g
  bl : Below w.heap.size w W
  wb : w.heap.size ≤ b0
  wx : w.heap.size ≤ X
  wy : w.heap.size ≤ Y
  wz : w.heap.size ≤ Z
  bs : b0 ≤ W.heap.size
section
variable {w W W' : World} {b0 X Y Z : Nat} {cx : Array Value} {wd hg : Int} {sk v1 v2 : Value} {L1 L2 : List Int}
theorem Tog.mono (h : Tog w b0 X Y Z cx wd hg sk v1 v2 L1 L2 W) (hb : Below W.heap.size W W') : Tog w b0 X Y Z cx wd hg sk v1 v2 L1 L2 W' :=
  ⟨heap_mono h.x hb, heap_mono h.y hb, heap_mono h.z hb, h.xy, h.xz, h.yz, own_mono h.o1 hb, own_mono h.o2 hb, h.ne, bl_trans h.bl hb, h.wb, h.wx, h.wy, h.wz, Nat.le_trans h.bs hb.size⟩
theorem Tog.ycells (h : Tog w b0 X Y Z cx wd hg sk v1 v2 L1 L2 W) : W.cell? ⟨Y, 2, none⟩ = some v1 ∧ Y < W.heap.size := ⟨cell_of_heap h.y, (Array.getElem?_eq_some_iff.1 h.y).1⟩
theorem Tog.zcells (h : Tog w b0 X Y Z cx wd hg sk v1 v2 L1 L2 W) : W.cell? ⟨Z, 2, none⟩ = some v2 ∧ Z < W.heap.size := ⟨cell_of_heap h.z, (Array.getElem?_eq_some_iff.1 h.z).1⟩
theorem Tog.put1 (h : Tog w b0 X Y Z cx wd hg sk v1 v2 L1 L2 W) (c : Int) (hl : L1.length ≤ 1000) : ∃ v' w', (Builtin.append_ #[22, 22] 22 #[v1, .slice (some ⟨W.heap.size, 0, none⟩) 1 1]).run Try.prog (W.alloc (.cells #[.int .i64 c] 3)) = .ok v' w' ∧ Tog w b0 X Y Z cx wd hg sk v' v2 (L1 ++ [c]) L2 (w'.setCell ⟨Y, 2, none⟩ v') ∧ w'.frozen? ⟨Y, 2, none⟩ = false ∧ w'.cell? ⟨Y, 2, none⟩ = some v1 ∧ Y < w'.heap.size := by
  obtain ⟨i3, hi3, hi30, hi31, hi32⟩ := info_parts info3
  have hal : Below W.heap.size W (W.alloc (.cells #[.int .i64 c] 3)) := bl_alloc (bl_refl _) _
  have o1 := own_mono h.o1 hal
  have o2 := own_mono h.o2 hal
  obtain ⟨v', w', hrun, hown', hgrow, hnil, hblk⟩ := run_append_own_at (P := Try.prog) (W.alloc (.cells #[.int .i64 c] 3)) b0 22 22 3 i3 (.int .i64 0) 1 8 Try.underlying22 hi3 hi30 hi31 hi32 rfl (by decide) v1 _ _ o1 ⟨W.heap.size, 0, none⟩ 1 1 [.int .i64 c] rfl (cell_one_new W (.int .i64 c) 3) (fun u hu => by simp at hu; subst hu; rfl) (by unfold maxLen; omega) (by omega) (Nat.le_trans h.bs hal.size)
  have hx := keep_other (heap_mono h.x hal) o1 (by decide) hgrow
  have hy := keep_other (heap_mono h.y hal) o1 (by decide) hgrow
  have hz := keep_other (heap_mono h.z hal) o1 (by decide) hgrow
  have ok := o2.kept hgrow (by
    cases hq : v1.ownBlock with
    | none =>
      cases hq2 : v2.ownBlock with
      | none => exact .inl rfl
      | some g => exact .inr (by simp)
    | some g => exact .inr (h.ne g hq))
  have hb2 := bl_grown (bl_trans h.bl hal) o1 h.wb hgrow
  refine ⟨v', w', hrun, ⟨past_set h.xy hx, by rw [heap_setCell_same _ _ _ _ _ _ hy]; rfl, past_set (fun e => h.yz e.symm) hz, h.xy, h.xz, h.yz, own_set_other hy (by rw [List.length_append, List.map_append]; exact hown') (by decide) 2 _, own_set_other hy ok (by decide) 2 _, ?_, bl_set hb2 _ h.wy, h.wb, h.wx, h.wy, h.wz, ?_⟩, frozen_of_heap hy, cell_of_heap hy, (Array.getElem?_eq_some_iff.1 hy).1⟩
  · intro g h1 h2
    rcases hblk with hk | hk
    · rw [hk] at h1
      exact h.ne g h1 h2
    · rw [hk] at h1
      injection h1 with h1
      have := (h.o2.lt g h2).2
      rw [World.size_alloc] at h1
      omega
  · have e := hgrow.size
    have e2 := hal.size
    have := h.bs
    simp
    omega
theorem Tog.put2 (h : Tog w b0 X Y Z cx wd hg sk v1 v2 L1 L2 W) (c : Int) (hl : L2.length ≤ 1000) : ∃ v' w', (Builtin.append_ #[22, 22] 22 #[v2, .slice (some ⟨W.heap.size, 0, none⟩) 1 1]).run Try.prog (W.alloc (.cells #[.int .i64 c] 3)) = .ok v' w' ∧ Tog w b0 X Y Z cx wd hg sk v1 v' L1 (L2 ++ [c]) (w'.setCell ⟨Z, 2, none⟩ v') ∧ w'.frozen? ⟨Z, 2, none⟩ = false ∧ w'.cell? ⟨Z, 2, none⟩ = some v2 ∧ Z < w'.heap.size := by
  obtain ⟨i3, hi3, hi30, hi31, hi32⟩ := info_parts info3
  have hal : Below W.heap.size W (W.alloc (.cells #[.int .i64 c] 3)) := bl_alloc (bl_refl _) _
  have o1 := own_mono h.o2 hal
  have o2 := own_mono h.o1 hal
  obtain ⟨v', w', hrun, hown', hgrow, hnil, hblk⟩ := run_append_own_at (P := Try.prog) (W.alloc (.cells #[.int .i64 c] 3)) b0 22 22 3 i3 (.int .i64 0) 1 8 Try.underlying22 hi3 hi30 hi31 hi32 rfl (by decide) v2 _ _ o1 ⟨W.heap.size, 0, none⟩ 1 1 [.int .i64 c] rfl (cell_one_new W (.int .i64 c) 3) (fun u hu => by simp at hu; subst hu; rfl) (by unfold maxLen; omega) (by omega) (Nat.le_trans h.bs hal.size)
  have hx := keep_other (heap_mono h.x hal) o1 (by decide) hgrow
  have hy := keep_other (heap_mono h.y hal) o1 (by decide) hgrow
  have hz := keep_other (heap_mono h.z hal) o1 (by decide) hgrow
  have ok := o2.kept hgrow (by
    cases hq : v2.ownBlock with
    | none =>
      cases hq2 : v1.ownBlock with
      | none => exact .inl rfl
      | some g => exact .inr (by simp)
    | some g => exact .inr (fun e => h.ne g e hq))
  have hb2 := bl_grown (bl_trans h.bl hal) o1 h.wb hgrow
  refine ⟨v', w', hrun, ⟨past_set h.xz hx, past_set h.yz hy, by rw [heap_setCell_same _ _ _ _ _ _ hz]; rfl, h.xy, h.xz, h.yz, own_set_other hz ok (by decide) 2 _, own_set_other hz (by rw [List.length_append, List.map_append]; exact hown') (by decide) 2 _, ?_, bl_set hb2 _ h.wz, h.wb, h.wx, h.wy, h.wz, ?_⟩, frozen_of_heap hz, cell_of_heap hz, (Array.getElem?_eq_some_iff.1 hz).1⟩
  · intro g h2 h1
    rcases hblk with hk | hk
    · rw [hk] at h1
      exact h.ne g h2 h1
    · rw [hk] at h1
      injection h1 with h1
      have := (h.o1.lt g h2).2
      rw [World.size_alloc] at h1
      omega
  · have e := hgrow.size
    have e2 := hal.size
    have := h.bs
    simp
    omega
end
/-! ### What is known (plain) -/
theorem max_run2 (a b : Int) (ty : TypeId) (W : World) : (Builtin.max_ #[3, 3] ty #[.int .i64 a, .int .i64 b]).run Try.prog W = .ok (.int .i64 (max a b)) W := by
  have h : (Builtin.max2 (.int .i64 a) (.int .i64 b)).run Try.prog W = .ok (.int .i64 (max a b)) W := by
    unfold Builtin.max2
    simp only
    by_cases hab : a ≤ b
    · rw [Int.max_eq_right hab]; simp; try omega
    · rw [Int.max_eq_left (by omega)]; simp; try omega
  simp [Builtin.max_, go_sem, h]
theorem bit_nat (n : Nat) (c : Int) : bitB (n : Int) c = n.testBit c.toNat := by
  unfold bitB
  rw [Nat.testBit_eq_decide_div_mod_eq]
  have e : ((n / 2 ^ c.toNat % 2 : Nat) : Int) = (n : Int) / 2 ^ c.toNat % 2 := by simp
  by_cases h : n / 2 ^ c.toNat % 2 = 1
  · rw [decide_eq_true h, decide_eq_true (by omega)]
  · rw [decide_eq_false h, decide_eq_false (by omega)]
theorem and_lt {a b : Int} (h1 : 0 ≤ a ∧ a < 18446744073709551616) (h2 : 0 ≤ b ∧ b < 18446744073709551616) : 0 ≤ ((a.toNat &&& b.toNat : Nat) : Int) ∧ ((a.toNat &&& b.toNat : Nat) : Int) < 18446744073709551616 := by
  have : a.toNat &&& b.toNat ≤ a.toNat := Nat.and_le_left
  omega
theorem or_lt {a b : Int} (h1 : 0 ≤ a ∧ a < 18446744073709551616) (h2 : 0 ≤ b ∧ b < 18446744073709551616) : 0 ≤ ((a.toNat ||| b.toNat : Nat) : Int) ∧ ((a.toNat ||| b.toNat : Nat) : Int) < 18446744073709551616 := by
  have : a.toNat ||| b.toNat < 2 ^ 64 := Nat.or_lt_two_pow (by omega) (by omega)
  omega
section
variable {wd hg : Int} {want keep : List Int} {bt : Int}
theorem BestW.tog {w1 w2 : List Int} {m m1 m2 : Int} {S L S1 L1 S2 L2 : Int → Bool} (b : BestW wd hg want keep m S L) (b1 : BestW wd hg w1 keep m1 S1 L1) (b2 : BestW wd hg w2 keep m2 S2 L2) (h : ∀ x, x ∈ w2 ↔ x ∈ w1 ∨ x ∈ want) :
    m2 ≤ m + m1 ∧ m ≤ m2 ∧ m1 ≤ m2 := by
  have up : ∀ X, enclX w2 keep X → enclX want keep X ∧ enclX w1 keep X := fun X k => ⟨⟨fun c hc => k.1 c ((h c).2 (.inr hc)), k.2⟩, ⟨fun c hc => k.1 c ((h c).2 (.inl hc)), k.2⟩⟩
  have k := up _ b2.s
  refine ⟨?_, by rw [← b2.ms]; exact b.least _ k.1, by rw [← b2.ms]; exact b1.least _ k.2⟩
  have hu : enclX w2 keep (orX S S1) := ⟨fun c hc => by
    unfold orX
    rcases (h c).1 hc with e | e
    · rw [b1.s.1 c e, Bool.or_true]
    · rw [b.s.1 c e]; rfl, fun c hc => by unfold orX; rw [b.s.2 c hc, b1.s.2 c hc]; rfl⟩
  have h1 := b2.least _ hu
  have h2 := submod (wd := wd) (hg := hg) S S1
  have h3 : 0 ≤ cutX wd hg (andX S S1) := cut_nonneg _
  rw [b.ms, b1.ms] at h2
  omega
where
  cut_nonneg (X : Int → Bool) : 0 ≤ cutX wd hg X := by
    have := cellS_le (n := (wd * hg).toNat) (f := fun _ => 0) (g := fun c => if X c = true then dsum (fun d => if outS wd hg X c d = true then (1 : Int) else 0) else 0) fun c _ _ => by
      split
      · exact dsum_le (f := fun _ => 0) fun d => by split <;> omega
      · omega
    have e : cellS (wd * hg).toNat (fun _ => 0) = 0 := sumN_zero _ _ fun _ _ => rfl
    rw [e] at this
    exact this
theorem tog_new (hV : Valid wd hg want keep) : pondE wd hg (pickC (newP keep bt) (wd * hg).toNat) keep = 0 ∧ pondE wd hg (pickC (bothP want keep bt) (wd * hg).toNat) keep = 0 ∧
    (pickC (newP keep bt) (wd * hg).toNat).length ≤ 64 ∧ (pickC (bothP want keep bt) (wd * hg).toNat).length ≤ 64 ∧
    ((raft wd hg (pickC (bothP want keep bt) (wd * hg).toNat) keep).2 : Int) ≤ (raft wd hg want keep).2 + (raft wd hg (pickC (newP keep bt) (wd * hg).toNat) keep).2 ∧
    ((raft wd hg want keep).2 : Int) ≤ (raft wd hg (pickC (bothP want keep bt) (wd * hg).toNat) keep).2 ∧ ((raft wd hg (pickC (newP keep bt) (wd * hg).toNat) keep).2 : Int) ≤ (raft wd hg (pickC (bothP want keep bt) (wd * hg).toNat) keep).2 ∧
    (0 ≤ ((raft wd hg want keep).2 : Int) ∧ ((raft wd hg want keep).2 : Int) ≤ 256) ∧ (0 ≤ ((raft wd hg (pickC (newP keep bt) (wd * hg).toNat) keep).2 : Int) ∧ ((raft wd hg (pickC (newP keep bt) (wd * hg).toNat) keep).2 : Int) ≤ 256) := by
  have hn := hV.B.nat
  have hc64 := hV.cells
  have hcl : ∀ p : Int → Bool, (pickC p (wd * hg).toNat).length ≤ 64 := fun p => Nat.le_trans (pickC_len _ _) (by omega)
  have hp1 : pondE wd hg (pickC (newP keep bt) (wd * hg).toNat) keep = 0 := pond_of hV.B (pick_list _ _ _ (by omega)) hV.k fun x hx hk => by
    have h := (pick_mem hx).2
    unfold newP at h
    rw [Bool.and_eq_true, Bool.not_eq_true'] at h
    have := List.contains_iff_mem.2 hk
    rw [h.2] at this; cases this
  have hp2 : pondE wd hg (pickC (bothP want keep bt) (wd * hg).toNat) keep = 0 := pond_of hV.B (pick_list _ _ _ (by omega)) hV.k fun x hx hk => by
    have h := (pick_mem hx).2
    unfold bothP newP at h
    rw [Bool.or_eq_true, Bool.and_eq_true, Bool.not_eq_true'] at h
    have hc := List.contains_iff_mem.2 hk
    rcases h with h | h
    · rw [h.2] at hc; cases hc
    · exact hV.d x (List.contains_iff_mem.1 h) hk
  have v1 := pond_valid hp1
  have v2 := pond_valid hp2
  have b0 := best_known hV
  have b1 := best_known v1
  have b2 := best_known v2
  have hmem : ∀ x, x ∈ pickC (bothP want keep bt) (wd * hg).toNat ↔ x ∈ pickC (newP keep bt) (wd * hg).toNat ∨ x ∈ want := fun x => by
    constructor
    · intro h
      obtain ⟨h1, h2⟩ := pick_mem h
      unfold bothP at h2
      rw [Bool.or_eq_true] at h2
      rcases h2 with h2 | h2
      · left
        rw [← List.contains_iff_mem, pick_has _ _ h1]; exact h2
      · exact .inr (List.contains_iff_mem.1 h2)
    · rintro (h | h)
      · obtain ⟨h1, h2⟩ := pick_mem h
        rw [← List.contains_iff_mem, pick_has _ _ h1]
        unfold bothP; rw [h2]; rfl
      · have hi := hV.win h
        rw [← List.contains_iff_mem, pick_has _ _ ⟨hi.1, by have := hi.2; omega⟩]
        unfold bothP; rw [List.contains_iff_mem.2 h, Bool.or_true]
  have ht := BestW.tog b0 b1 b2 hmem
  have hmb : ∀ {W : List Int}, Valid wd hg W keep → ((raft wd hg W keep).2 : Int) ≤ 256 := fun {W} v => by
    obtain ⟨hF, hv, _⟩ := raft_known v
    have h1 := val_le hF.s W
    have h2 := v.len
    unfold val at hv
    omega
  exact ⟨hp1, hp2, hcl _, hcl _, ht.1, ht.2.1, ht.2.2, ⟨by omega, hmb hV⟩, ⟨by omega, hmb v1⟩⟩
theorem water_known (hV : Valid wd hg want keep) (bt : Int) : listB (wd * hg) 0 (waterL wd hg want keep bt) = true ∧ enclX want keep (fun c => (waterL wd hg want keep bt).contains c) ∧ (waterL wd hg want keep bt).length ≤ 64 ∧ cutX wd hg (fun c => (waterL wd hg want keep bt).contains c) = cutX wd hg (waterP want keep bt) := by
  have hn := hV.B.nat
  have hc64 := hV.cells
  have hh : ∀ c, inP wd hg c → (waterL wd hg want keep bt).contains c = waterP want keep bt c := fun c hc => pick_has _ _ ⟨hc.1, by have := hc.2; omega⟩
  refine ⟨pick_list _ _ _ (by omega), ⟨fun c hc => ?_, fun c hc => ?_⟩, Nat.le_trans (pickC_len _ _) (by omega), cutX_congr hV.B hh⟩
  · dsimp only
    rw [hh c (hV.win hc)]
    unfold waterP
    have h1 : keep.contains c = false := by
      cases h : keep.contains c with
      | false => rfl
      | true => exact absurd (List.contains_iff_mem.1 h) (hV.d c hc)
    rw [h1, List.contains_iff_mem.2 hc, Bool.or_true]; rfl
  · dsimp only
    rw [hh c (hV.kin hc)]
    unfold waterP
    rw [List.contains_iff_mem.2 hc]; rfl
theorem tog_water (hV : Valid wd hg want keep) (hp : pondE wd hg want keep = 0) {one two : Int} (h1 : 0 ≤ one) (h2 : 0 ≤ two) :
    (sticksE wd hg want keep (waterL wd hg want keep one) = 0 ∧ sticksE wd hg want keep (waterL wd hg want keep two) = 0 ∧ sticksE wd hg want keep (waterL wd hg want keep ((one.toNat &&& two.toNat : Nat) : Int)) = 0 ∧ sticksE wd hg want keep (waterL wd hg want keep ((one.toNat ||| two.toNat : Nat) : Int)) = 0) ∧
    ((waterL wd hg want keep one).length ≤ 64 ∧ (waterL wd hg want keep two).length ≤ 64 ∧ (waterL wd hg want keep ((one.toNat &&& two.toNat : Nat) : Int)).length ≤ 64 ∧ (waterL wd hg want keep ((one.toNat ||| two.toNat : Nat) : Int)).length ≤ 64) ∧
    sticksV wd hg want keep (waterL wd hg want keep ((one.toNat &&& two.toNat : Nat) : Int)) + sticksV wd hg want keep (waterL wd hg want keep ((one.toNat ||| two.toNat : Nat) : Int)) ≤ sticksV wd hg want keep (waterL wd hg want keep one) + sticksV wd hg want keep (waterL wd hg want keep two) ∧
    ((0 ≤ sticksV wd hg want keep (waterL wd hg want keep one) ∧ sticksV wd hg want keep (waterL wd hg want keep one) ≤ 1000) ∧ (0 ≤ sticksV wd hg want keep (waterL wd hg want keep two) ∧ sticksV wd hg want keep (waterL wd hg want keep two) ≤ 1000) ∧ (0 ≤ sticksV wd hg want keep (waterL wd hg want keep ((one.toNat &&& two.toNat : Nat) : Int)) ∧ sticksV wd hg want keep (waterL wd hg want keep ((one.toNat &&& two.toNat : Nat) : Int)) ≤ 1000) ∧ (0 ≤ sticksV wd hg want keep (waterL wd hg want keep ((one.toNat ||| two.toNat : Nat) : Int)) ∧ sticksV wd hg want keep (waterL wd hg want keep ((one.toNat ||| two.toNat : Nat) : Int)) ≤ 1000)) := by
  have k := fun b => water_known (want := want) (keep := keep) hV b
  have s := fun b => sticks_of hp (k b).1 (k b).2.1
  have rng : ∀ b, 0 ≤ sticksV wd hg want keep (waterL wd hg want keep b) ∧ sticksV wd hg want keep (waterL wd hg want keep b) ≤ 1000 := fun b => by
    unfold sticksV
    rw [if_pos (s b).1]
    have h1 := stickN_rng (wd := wd) (hg := hg) (water := waterL wd hg want keep b) (waterL wd hg want keep b)
    have h2 := (k b).2.2.1
    omega
  refine ⟨⟨(s _).1, (s _).1, (s _).1, (s _).1⟩, ⟨(k _).2.2.1, (k _).2.2.1, (k _).2.2.1, (k _).2.2.1⟩, ?_, ⟨rng _, rng _, rng _, rng _⟩⟩
  rw [(s _).2, (s _).2, (s _).2, (s _).2, (k _).2.2.2, (k _).2.2.2, (k _).2.2.2, (k _).2.2.2]
  obtain ⟨a, rfl⟩ : ∃ n : Nat, one = n := ⟨one.toNat, by omega⟩
  obtain ⟨b, rfl⟩ : ∃ n : Nat, two = n := ⟨two.toNat, by omega⟩
  rw [Int.toNat_natCast, Int.toNat_natCast]
  have e1 : waterP want keep ((a &&& b : Nat) : Int) = andX (waterP want keep a) (waterP want keep b) := funext fun c => by
    unfold andX waterP
    rw [bit_nat, bit_nat, bit_nat, Nat.testBit_and]
    cases keep.contains c <;> cases want.contains c <;> cases a.testBit c.toNat <;> cases b.testBit c.toNat <;> rfl
  have e2 : waterP want keep ((a ||| b : Nat) : Int) = orX (waterP want keep a) (waterP want keep b) := funext fun c => by
    unfold orX waterP
    rw [bit_nat, bit_nat, bit_nat, Nat.testBit_or]
    cases keep.contains c <;> cases want.contains c <;> cases a.testBit c.toNat <;> cases b.testBit c.toNat <;> rfl
  rw [e1, e2]
  exact submod _ _
end
set_option maxRecDepth 100000 in
set_option maxHeartbeats 16000000 in
theorem boomTogether_any (wd hg : Int) (sw sk : Value) (want keep : List Int) (bt one two : Int) (w : World) (hw : Ints w sw want) (hk : Ints w sk keep) (hbt : 0 ≤ bt ∧ bt < 18446744073709551616) (h1b : 0 ≤ one ∧ one < 18446744073709551616) (h2b : 0 ≤ two ∧ two < 18446744073709551616) :
    Calls Try.prog 11 #[.agg #[.int .i64 wd, .int .i64 hg, sw, sk], .int .u64 bt, .int .u64 one, .int .u64 two] w fun e w' => e = .returned (.bool true) ∧ Below w.heap.size w w' := by
  obtain ⟨A, ca, rfl⟩ := hw.slice
  obtain ⟨Bk, ck, rfl⟩ := hk.slice
  obtain ⟨fb, hfb⟩ : ∃ b, fineB wd hg want keep = b := ⟨_, rfl⟩
  have HFB := hid hfb
  have HW0 := hid hw
  have HK0 := hid hk
  clear hfb
  have HX_0 := hid (World.alloc_heap_new w (.cells #[.int .i64 wd, .int .i64 hg, .slice A want.length ca, .slice Bk keep.length ck] 24))
  have hb0 := bl_alloc (bl_refl w) (.cells #[.int .i64 wd, .int .i64 hg, .slice A want.length ca, .slice Bk keep.length ck] 24)
  have HB0 := hid hb0
  have HW_0 := hid (hw.mono hb0)
  have HK_0 := hid (hk.mono hb0)
  clear hb0 hw hk
  go_enter Try.func11, Try.ntmps11
  go_upto_region 1 with (fail)
  obtain ⟨w0, hw0⟩ : ∃ w0, w.alloc (.cells #[.int .i64 wd, .int .i64 hg, .slice A want.length ca, .slice Bk keep.length ck] 24) = w0 := ⟨_, rfl⟩
  obtain ⟨X, hX⟩ : ∃ X, w.heap.size = X := ⟨_, rfl⟩
  rw [hX] at HX_0 ⊢
  rw [hw0] at HB0 HX_0 HW_0 HK_0 ⊢
  have wX : Hid (w.heap.size ≤ X) := by show w.heap.size ≤ X; omega
  clear hw0 hX
  have sX0 : w0.cell? ⟨X, 0, none⟩ = some (.int .i64 wd) := cell_of_heap HX_0.out
  have sX1 : w0.cell? ⟨X, 1, none⟩ = some (.int .i64 hg) := cell_of_heap HX_0.out
  have sX2 : w0.cell? ⟨X, 2, none⟩ = some (.slice A want.length ca) := cell_of_heap HX_0.out
  have sX3 : w0.cell? ⟨X, 3, none⟩ = some (.slice Bk keep.length ck) := cell_of_heap HX_0.out
  have slX := (Array.getElem?_eq_some_iff.1 HX_0.out).1
  have hcall := fine_any (wd := wd) (hg := hg) w0 HW_0.out HK_0.out
  rw [HFB.out] at hcall
  go_wp2_with fail
  refine hcall.mono ?_
  rintro e w1 ⟨rfl, hb1⟩
  clear hcall sX0 sX1 sX2 sX3 slX
  have HX_1 := hid (heap_mono HX_0.out hb1)
  have HW_1 := hid (HW_0.out.mono hb1)
  have HK_1 := hid (HK_0.out.mono hb1)
  have HB1 := hid (bl_trans HB0.out hb1)
  clear HX_0 HW_0 HK_0
  clear hb1
  cases fb with
  | false =>
    have hworks := works_any w1
    go_wp2_with fail
    refine hworks.mono ?_
    rintro e wz ⟨rfl, hbz⟩
    clear hworks
    go_wp2
    go_ret
    exact ⟨rfl, bl_trans HB1.out hbz⟩
  | true =>
    obtain ⟨hp, hl1, hl2⟩ := fine_yes HFB.out
    have hV := pond_valid hp
    have HP := hid hp
    have HBo := hid hV.B
    have HV := hid hV
    clear hp hV
    have sX0 : w1.cell? ⟨X, 0, none⟩ = some (.int .i64 wd) := cell_of_heap HX_1.out
    have sX1 : w1.cell? ⟨X, 1, none⟩ = some (.int .i64 hg) := cell_of_heap HX_1.out
    have sX2 : w1.cell? ⟨X, 2, none⟩ = some (.slice A want.length ca) := cell_of_heap HX_1.out
    have sX3 : w1.cell? ⟨X, 3, none⟩ = some (.slice Bk keep.length ck) := cell_of_heap HX_1.out
    have slX := (Array.getElem?_eq_some_iff.1 HX_1.out).1
    have hcall := mkpond_any wd hg none Bk 0 0 keep.length ck w1
    go_wp2_with fail
    refine hcall.mono ?_
    rintro e wq ⟨rfl, hbq⟩
    clear hcall sX0 sX1 sX2 sX3 slX
    have hbz := bl_trans hbq (bl_alloc (bl_refl wq) (.cells #[.int .i64 wd, .int .i64 hg, .slice none 0 0, .slice Bk keep.length ck] 24))
    have HYn := hid (World.alloc_heap_new wq (.cells #[.int .i64 wd, .int .i64 hg, .slice none 0 0, .slice Bk keep.length ck] 24))
    have hltY : w1.heap.size ≤ wq.heap.size := hbq.size
    go_upto_region 4 with (fail)
    obtain ⟨w2, hwr⟩ : ∃ W, wq.alloc (.cells #[.int .i64 wd, .int .i64 hg, .slice none 0 0, .slice Bk keep.length ck] 24) = W := ⟨_, rfl⟩
    obtain ⟨Y, hY⟩ : ∃ Y, wq.heap.size = Y := ⟨_, rfl⟩
    rw [hY] at HYn hltY ⊢
    rw [hwr] at hbz HYn ⊢
    have hlXY : X < Y := Nat.lt_of_lt_of_le (Array.getElem?_eq_some_iff.1 HX_1.out).1 hltY
    have HX_2 := hid (heap_mono HX_1.out hbz)
    have HW_2 := hid (HW_1.out.mono hbz)
    have HK_2 := hid (HK_1.out.mono hbz)
    have HB2 := hid (bl_trans HB1.out hbz)
    clear HX_1 HW_1 HK_1
    have HY_2 := HYn
    clear hwr hY hbq hbz HYn hltY
    have sX0 : w2.cell? ⟨X, 0, none⟩ = some (.int .i64 wd) := cell_of_heap HX_2.out
    have sX1 : w2.cell? ⟨X, 1, none⟩ = some (.int .i64 hg) := cell_of_heap HX_2.out
    have sX2 : w2.cell? ⟨X, 2, none⟩ = some (.slice A want.length ca) := cell_of_heap HX_2.out
    have sX3 : w2.cell? ⟨X, 3, none⟩ = some (.slice Bk keep.length ck) := cell_of_heap HX_2.out
    have slX := (Array.getElem?_eq_some_iff.1 HX_2.out).1
    have hcall := mkpond_any wd hg none Bk 0 0 keep.length ck w2
    go_wp2_with fail
    refine hcall.mono ?_
    rintro e wq ⟨rfl, hbq⟩
    clear hcall sX0 sX1 sX2 sX3 slX
    have hbz := bl_trans hbq (bl_alloc (bl_refl wq) (.cells #[.int .i64 wd, .int .i64 hg, .slice none 0 0, .slice Bk keep.length ck] 24))
    have HZn := hid (World.alloc_heap_new wq (.cells #[.int .i64 wd, .int .i64 hg, .slice none 0 0, .slice Bk keep.length ck] 24))
    have hltZ : w2.heap.size ≤ wq.heap.size := hbq.size
    go_upto_region 5 with (fail)
    obtain ⟨w3, hwr⟩ : ∃ W, wq.alloc (.cells #[.int .i64 wd, .int .i64 hg, .slice none 0 0, .slice Bk keep.length ck] 24) = W := ⟨_, rfl⟩
    obtain ⟨Z, hZ⟩ : ∃ Y, wq.heap.size = Y := ⟨_, rfl⟩
    rw [hZ] at HZn hltZ ⊢
    rw [hwr] at hbz HZn ⊢
    have hlYZ : Y < Z := Nat.lt_of_lt_of_le (Array.getElem?_eq_some_iff.1 HY_2.out).1 hltZ
    have hlXZ : X < Z := Nat.lt_of_lt_of_le (Array.getElem?_eq_some_iff.1 HX_2.out).1 hltZ
    have HX_3 := hid (heap_mono HX_2.out hbz)
    have HY_3 := hid (heap_mono HY_2.out hbz)
    have HW_3 := hid (HW_2.out.mono hbz)
    have HK_3 := hid (HK_2.out.mono hbz)
    have HB3 := hid (bl_trans HB2.out hbz)
    clear HX_2 HY_2 HW_2 HK_2
    have HZ_3 := HZn
    clear hwr hZ hbq hbz HZn hltZ
    have hn := HBo.out.nat
    have hn64 : (wd * hg).toNat ≤ 64 := by
      have e1 := Int.mul_le_mul HBo.out.w.2 HBo.out.h.2 (by have := HBo.out.h; omega) (by omega)
      omega
    have GC := hid (fun W => cells_any wd hg (.slice A want.length ca) (.slice Bk keep.length ck) W HBo.out.w HBo.out.h)
    obtain ⟨N, hN⟩ : ∃ N, (wd * hg).toNat = N := ⟨_, rfl⟩
    have HN := hid hN
    rw [hN] at hn hn64
    rw [← hn] at GC
    obtain ⟨P1, hP1⟩ : ∃ P, newP keep bt = P := ⟨_, rfl⟩
    obtain ⟨P2, hP2⟩ : ∃ P, bothP want keep bt = P := ⟨_, rfl⟩
    have HP1 := hid hP1
    have HP2 := hid hP2
    have HT0 : Hid (Tog w w3.heap.size X Y Z #[.int .i64 wd, .int .i64 hg, .slice A want.length ca, .slice Bk keep.length ck] wd hg (.slice Bk keep.length ck) (.slice none 0 0) (.slice none 0 0) [] [] w3) := ⟨HX_3.out, HY_3.out, HZ_3.out, by omega, by omega, by omega, World.ownsRow_nil _ _ _ _, World.ownsRow_nil _ _ _ _, (fun g h => by cases h), HB3.out, HB3.out.size, wX.out, (by have := wX.out; omega), (by have := wX.out; omega), Nat.le_refl _⟩
    have hbase := HB3.out.size
    clear hn hN hP1 hP2 HX_3 HY_3 HZ_3 HW_3 HK_3 HB3
    go_wp2
    go_loopw [11, 12] (fun p _ wr => ∃ (k : Nat) (v1 v2 : Value), k ≤ N ∧ p = .int .i64 (k : Int) ∧ Tog w w3.heap.size X Y Z #[.int .i64 wd, .int .i64 hg, .slice A want.length ca, .slice Bk keep.length ck] wd hg (.slice Bk keep.length ck) v1 v2 (pickC P1 k) (pickC P2 k) wr) (fun p _ _ => N - (intOf p).toNat)
    case atStart => exact ⟨0, _, _, Nat.zero_le _, rfl, HT0.out⟩
    case round =>
    clear HT0
    obtain ⟨k, v1, v2, hk, rfl, hT⟩ := hrel
    have HT := hid hT
    have q0 := cell_of_heap (i := 0) hT.x
    have q1 := cell_of_heap (i := 1) hT.x
    have q2 := cell_of_heap (i := 2) hT.x
    have q3 := cell_of_heap (i := 3) hT.x
    have ql := (Array.getElem?_eq_some_iff.1 hT.x).1
    simp only [List.getElem?_toArray, List.getElem?_cons_zero, List.getElem?_cons_succ] at q0 q1 q2 q3
    have hcall := GC.out wr
    clear hT
    go_wp2_with fail
    refine hcall.mono ?_
    rintro e w' ⟨rfl, hb'⟩
    have HT2 := hid (HT.out.mono hb')
    clear hcall hb' HT q0 q1 q2 q3 ql
    by_cases hlt : k < N
    · have hkI : decide ((k : Int) < (N : Int)) = true := decide_eq_true (by omega)
      have hX := HT2.out.x
      have q0 : w'.cell? ⟨X, 0, none⟩ = some (.int .i64 wd) := cell_of_heap hX
      have q1 : w'.cell? ⟨X, 1, none⟩ = some (.int .i64 hg) := cell_of_heap hX
      have q2 : w'.cell? ⟨X, 2, none⟩ = some (.slice A want.length ca) := cell_of_heap hX
      have q3 : w'.cell? ⟨X, 3, none⟩ = some (.slice Bk keep.length ck) := cell_of_heap hX
      have ql := (Array.getElem?_eq_some_iff.1 hX).1
      clear hX
      have c1 := rhas_any keep (.slice Bk keep.length ck) (k : Int) w' (by omega) (HK0.out.mono HT2.out.bl)
      have c2 := rhas_any want (.slice A want.length ca) (k : Int) w' (by omega) (HW0.out.mono HT2.out.bl)
      have e1 : P1 (k : Int) = (bitB bt (k : Int) && !keep.contains (k : Int)) := by rw [← HP1.out]; rfl
      have e2 : P2 (k : Int) = (P1 (k : Int) || want.contains (k : Int)) := by rw [← HP2.out, ← HP1.out]; rfl
      have hk64 : (k : Int) ≤ 64 := by omega
      have hsl := shr_lt hbt.1 hbt.2 k
      have hand := and_one hsl.1 hsl.2
      have hbB : bitB bt (k : Int) = decide (bt / 2 ^ k % 2 = 1) := rfl
      have hl1k := pickC_len P1 k
      have hl2k := pickC_len P2 k
      clear hsl
      by_cases hbit : bt / 2 ^ k % 2 = 1
      · rw [hbB, decide_eq_true hbit] at e1
        have tb : (bt / 2 ^ k % 2 == 1) = true := by simp [hbit]
        clear hbB hbit
        cases h1 : keep.contains (k : Int) with
        | false =>
          rw [h1] at c1 e1
          have e1t : P1 (k : Int) = true := e1
          rw [e1t, Bool.true_or] at e2
          have hs1 := hid (pickC_yes e1t)
          have hs2 := hid (pickC_yes e2)
          clear h1 c2 e1 e1t e2
          go_wp2_with fail
          refine c1.mono ?_
          rintro e w8 ⟨rfl, hw8⟩
          obtain rfl := hw8.symm
          clear c1
          obtain ⟨v1', wx, hrun1, hT3, f1, f2, f3⟩ := HT2.out.put1 (k : Int) (by omega)
          obtain ⟨Av, cv, hv⟩ := own_slice hT3.o1
          rw [show (pickC P1 k ++ [(k : Int)]).length = (pickC P1 k).length + 1 by simp] at hv
          subst hv
          have HT3 := hid hT3
          have HTy := HT2.out.ycells
          obtain ⟨qy, qyl⟩ := HTy
          clear hT3
          go_upto_region 11 with (at_builtin; refine wpList_append_run rfl _ _ 22 rfl v1 _ _ wx rfl rfl hrun1 ?_)
          clear hrun1 qy qyl f1 f2 f3 q0 q1 q2 q3 ql HT2
          obtain ⟨wy, hwy⟩ : ∃ W, wx.setCell ⟨Y, 2, none⟩ (.slice Av ((pickC P1 k).length + 1) cv) = W := ⟨_, rfl⟩
          rw [hwy] at HT3 ⊢
          clear hwy
          obtain ⟨v2', wz, hrun2, hT4, f1, f2, f3⟩ := HT3.out.put2 (k : Int) (by first | omega | (have := hl2k; omega))
          obtain ⟨Bv, dv, hv⟩ := own_slice hT4.o2
          rw [show (pickC P2 k ++ [(k : Int)]).length = (pickC P2 k).length + 1 by simp] at hv
          subst hv
          have HT4 := hid hT4
          obtain ⟨qy, qyl⟩ := HT3.out.zcells
          clear hT4
          go_wp2_with (at_builtin; refine wpList_append_run rfl _ _ 22 rfl v2 _ _ wz rfl rfl hrun2 ?_)
          clear hrun2 qy qyl f1 f2 f3
          go_roundw
          case rel => exact ⟨k + 1, _, _, by omega, by go_num, by rw [hs1.out, hs2.out]; exact HT4.out⟩
          case measure => simp [intOf]; omega
        | true =>
          rw [h1] at c1 e1
          have e1f : P1 (k : Int) = false := e1
          rw [e1f, Bool.false_or] at e2
          have hs1 := hid (pickC_no e1f)
          clear h1 e1 e1f
          cases h2 : want.contains (k : Int) with
          | true =>
            rw [h2] at c2 e2
            have hs2 := hid (pickC_yes e2)
            clear h2 e2
            go_wp2_with fail
            refine c1.mono ?_
            rintro e w8 ⟨rfl, hw8⟩
            obtain rfl := hw8.symm
            clear c1
            go_wp2_with fail
            refine c2.mono ?_
            rintro e w8 ⟨rfl, hw8⟩
            obtain rfl := hw8.symm
            clear c2
            obtain ⟨v2', wz, hrun2, hT4, f1, f2, f3⟩ := HT2.out.put2 (k : Int) (by omega)
            obtain ⟨Bv, dv, hv⟩ := own_slice hT4.o2
            rw [show (pickC P2 k ++ [(k : Int)]).length = (pickC P2 k).length + 1 by simp] at hv
            subst hv
            have HT4 := hid hT4
            obtain ⟨qy, qyl⟩ := HT2.out.zcells
            clear hT4
            go_wp2_with (at_builtin; refine wpList_append_run rfl _ _ 22 rfl v2 _ _ wz rfl rfl hrun2 ?_)
            clear hrun2 qy qyl f1 f2 f3
            go_roundw
            case rel => exact ⟨k + 1, _, _, by omega, by go_num, by rw [hs1.out, hs2.out]; exact HT4.out⟩
            case measure => simp [intOf]; omega
          | false =>
            rw [h2] at c2 e2
            have hs2 := hid (pickC_no e2)
            clear h2 e2
            go_wp2_with fail
            refine c1.mono ?_
            rintro e w8 ⟨rfl, hw8⟩
            obtain rfl := hw8.symm
            clear c1
            go_wp2_with fail
            refine c2.mono ?_
            rintro e w8 ⟨rfl, hw8⟩
            obtain rfl := hw8.symm
            clear c2
            go_wp2
            go_roundw
            case rel => exact ⟨k + 1, _, _, by omega, by go_num, by rw [hs1.out, hs2.out]; exact HT2.out⟩
            case measure => simp [intOf]; omega
      · rw [hbB, decide_eq_false hbit, Bool.false_and] at e1
        have tb : (bt / 2 ^ k % 2 == 1) = false := beq_eq_false_iff_ne.2 hbit
        rw [e1, Bool.false_or] at e2
        have hs1 := hid (pickC_no e1)
        clear hbB hbit e1 c1
        cases h2 : want.contains (k : Int) with
        | true =>
          rw [h2] at c2 e2
          have hs2 := hid (pickC_yes e2)
          clear h2 e2
          go_wp2_with fail
          refine c2.mono ?_
          rintro e w8 ⟨rfl, hw8⟩
          obtain rfl := hw8.symm
          clear c2
          obtain ⟨v2', wz, hrun2, hT4, f1, f2, f3⟩ := HT2.out.put2 (k : Int) (by omega)
          obtain ⟨Bv, dv, hv⟩ := own_slice hT4.o2
          rw [show (pickC P2 k ++ [(k : Int)]).length = (pickC P2 k).length + 1 by simp] at hv
          subst hv
          have HT4 := hid hT4
          obtain ⟨qy, qyl⟩ := HT2.out.zcells
          clear hT4
          go_wp2_with (at_builtin; refine wpList_append_run rfl _ _ 22 rfl v2 _ _ wz rfl rfl hrun2 ?_)
          clear hrun2 qy qyl f1 f2 f3
          go_roundw
          case rel => exact ⟨k + 1, _, _, by omega, by go_num, by rw [hs1.out, hs2.out]; exact HT4.out⟩
          case measure => simp [intOf]; omega
        | false =>
          rw [h2] at c2 e2
          have hs2 := hid (pickC_no e2)
          clear h2 e2
          go_wp2_with fail
          refine c2.mono ?_
          rintro e w8 ⟨rfl, hw8⟩
          obtain rfl := hw8.symm
          clear c2
          go_wp2
          go_roundw
          case rel => exact ⟨k + 1, _, _, by omega, by go_num, by rw [hs1.out, hs2.out]; exact HT2.out⟩
          case measure => simp [intOf]; omega
    obtain rfl : k = N := by omega
    have hkI : decide ((k : Int) < (k : Int)) = false := decide_eq_false (by omega)
    obtain ⟨w10, rfl⟩ : ∃ W, W = w' := ⟨_, rfl⟩
    obtain ⟨A1, n1, hv1⟩ := own_slice HT2.out.o1
    obtain ⟨A2, n2, hv2⟩ := own_slice HT2.out.o2
    subst hv1 hv2
    have hql := tog_new (want := want) (keep := keep) (bt := bt) HV.out
    rw [HN.out, HP1.out, HP2.out] at hql
    obtain ⟨QW, hQW⟩ : ∃ l, pickC P1 k = l := ⟨_, rfl⟩
    obtain ⟨BW, hBW⟩ : ∃ l, pickC P2 k = l := ⟨_, rfl⟩
    rw [hQW, hBW] at HT2 hql
    have HX_10 := hid HT2.out.x
    have HY_10 := hid HT2.out.y
    have HZ_10 := hid HT2.out.z
    have HW_10 := hid (HW0.out.mono HT2.out.bl)
    have HK_10 := hid (HK0.out.mono HT2.out.bl)
    have HQ_10 := hid (ints_own rfl HT2.out.o1)
    have HBw_10 := hid (ints_own rfl HT2.out.o2)
    have HB10 := hid HT2.out.bl
    obtain ⟨hp1, hp2, hqn, hbn, hm1, hm2, hm3, hm0, hm0'⟩ := hql
    obtain ⟨MP, hMP⟩ : ∃ m : Int, ((raft wd hg want keep).2 : Int) = m := ⟨_, rfl⟩
    obtain ⟨MQ, hMQ⟩ : ∃ m : Int, ((raft wd hg QW keep).2 : Int) = m := ⟨_, rfl⟩
    obtain ⟨MB, hMB⟩ : ∃ m : Int, ((raft wd hg BW keep).2 : Int) = m := ⟨_, rfl⟩
    rw [hMP, hMQ, hMB] at hm1
    rw [hMP, hMB] at hm2
    rw [hMQ, hMB] at hm3
    rw [hMP] at hm0
    rw [hMQ] at hm0'
    have HF1 := hid (show fewestV wd hg want keep = MP by unfold fewestV; rw [if_pos HP.out, hMP])
    have HF2 := hid (show fewestV wd hg QW keep = MQ by unfold fewestV; rw [if_pos hp1, hMQ])
    have HF3 := hid (show fewestV wd hg BW keep = MB by unfold fewestV; rw [if_pos hp2, hMB])
    have HPq := hid hp1
    have HPb := hid hp2
    have t1 : decide (MP + MQ < MB) = false := decide_eq_false (by omega)
    have t2 : decide (MB < max MP MQ) = false := decide_eq_false (by omega)
    have wm : IntKind.i64.wrap (MP + MQ) = MP + MQ := IntWalk.i64_in _ (by omega)
    have hmx := max_run2 MP MQ 3
    obtain ⟨MX, hMX⟩ : ∃ m, max MP MQ = m := ⟨_, rfl⟩
    rw [hMX] at t2 hmx
    clear hm1 hm2 hm3 hm0 hm0' hMP hMQ hMB hp1 hp2 hMX HT2 hQW hBW HP1 HP2 GC hlt
    have sX0 : w10.cell? ⟨X, 0, none⟩ = some (.int .i64 wd) := cell_of_heap HX_10.out
    have sX1 : w10.cell? ⟨X, 1, none⟩ = some (.int .i64 hg) := cell_of_heap HX_10.out
    have sX2 : w10.cell? ⟨X, 2, none⟩ = some (.slice A want.length ca) := cell_of_heap HX_10.out
    have sX3 : w10.cell? ⟨X, 3, none⟩ = some (.slice Bk keep.length ck) := cell_of_heap HX_10.out
    have slX := (Array.getElem?_eq_some_iff.1 HX_10.out).1
    have hcall := fewest_any (wd := wd) (hg := hg) (want := want) (keep := keep) w10 (by omega) (by omega) HW_10.out HK_10.out
    rw [HF1.out, HP.out] at hcall
    go_wp2_with fail
    refine hcall.mono ?_
    rintro e w11 ⟨rfl, hb11⟩
    clear hcall sX0 sX1 sX2 sX3 slX
    have HX_11 := hid (heap_mono HX_10.out hb11)
    have HY_11 := hid (heap_mono HY_10.out hb11)
    have HZ_11 := hid (heap_mono HZ_10.out hb11)
    have HW_11 := hid (HW_10.out.mono hb11)
    have HK_11 := hid (HK_10.out.mono hb11)
    have HQ_11 := hid (HQ_10.out.mono hb11)
    have HBw_11 := hid (HBw_10.out.mono hb11)
    have HB11 := hid (bl_trans HB10.out hb11)
    clear HX_10 HY_10 HZ_10 HW_10 HK_10 HQ_10 HBw_10
    clear hb11
    have sY0 : w11.cell? ⟨Y, 0, none⟩ = some (.int .i64 wd) := cell_of_heap HY_11.out
    have sY1 : w11.cell? ⟨Y, 1, none⟩ = some (.int .i64 hg) := cell_of_heap HY_11.out
    have sY2 : w11.cell? ⟨Y, 2, none⟩ = some (.slice A1 QW.length n1) := cell_of_heap HY_11.out
    have sY3 : w11.cell? ⟨Y, 3, none⟩ = some (.slice Bk keep.length ck) := cell_of_heap HY_11.out
    have slY := (Array.getElem?_eq_some_iff.1 HY_11.out).1
    have hcall := fewest_any (wd := wd) (hg := hg) (want := QW) (keep := keep) w11 (by omega) (by omega) HQ_11.out HK_11.out
    rw [HF2.out, HPq.out] at hcall
    go_wp2_with fail
    refine hcall.mono ?_
    rintro e w12 ⟨rfl, hb12⟩
    clear hcall sY0 sY1 sY2 sY3 slY
    have HX_12 := hid (heap_mono HX_11.out hb12)
    have HY_12 := hid (heap_mono HY_11.out hb12)
    have HZ_12 := hid (heap_mono HZ_11.out hb12)
    have HW_12 := hid (HW_11.out.mono hb12)
    have HK_12 := hid (HK_11.out.mono hb12)
    have HQ_12 := hid (HQ_11.out.mono hb12)
    have HBw_12 := hid (HBw_11.out.mono hb12)
    have HB12 := hid (bl_trans HB11.out hb12)
    clear HX_11 HY_11 HZ_11 HW_11 HK_11 HQ_11 HBw_11
    clear hb12
    have sZ0 : w12.cell? ⟨Z, 0, none⟩ = some (.int .i64 wd) := cell_of_heap HZ_12.out
    have sZ1 : w12.cell? ⟨Z, 1, none⟩ = some (.int .i64 hg) := cell_of_heap HZ_12.out
    have sZ2 : w12.cell? ⟨Z, 2, none⟩ = some (.slice A2 BW.length n2) := cell_of_heap HZ_12.out
    have sZ3 : w12.cell? ⟨Z, 3, none⟩ = some (.slice Bk keep.length ck) := cell_of_heap HZ_12.out
    have slZ := (Array.getElem?_eq_some_iff.1 HZ_12.out).1
    have hcall := fewest_any (wd := wd) (hg := hg) (want := BW) (keep := keep) w12 (by omega) (by omega) HBw_12.out HK_12.out
    rw [HF3.out, HPb.out] at hcall
    go_wp2_with fail
    refine hcall.mono ?_
    rintro e w13 ⟨rfl, hb13⟩
    clear hcall sZ0 sZ1 sZ2 sZ3 slZ
    have HX_13 := hid (heap_mono HX_12.out hb13)
    have HY_13 := hid (heap_mono HY_12.out hb13)
    have HZ_13 := hid (heap_mono HZ_12.out hb13)
    have HW_13 := hid (HW_12.out.mono hb13)
    have HK_13 := hid (HK_12.out.mono hb13)
    have HQ_13 := hid (HQ_12.out.mono hb13)
    have HBw_13 := hid (HBw_12.out.mono hb13)
    have HB13 := hid (bl_trans HB12.out hb13)
    clear HX_12 HY_12 HZ_12 HW_12 HK_12 HQ_12 HBw_12
    clear hb13
    obtain ⟨AB, hAB⟩ : ∃ a : Int, ((one.toNat &&& two.toNat : Nat) : Int) = a := ⟨_, rfl⟩
    obtain ⟨OB, hOB⟩ : ∃ a : Int, ((one.toNat ||| two.toNat : Nat) : Int) = a := ⟨_, rfl⟩
    have hand : bits .and .u64 one two = AB := by rw [u64_and one two h1b.1 h1b.2 h2b.1 h2b.2, hAB]
    have hor : bits .or .u64 one two = OB := by rw [u64_or one two h1b.1 h1b.2 h2b.1 h2b.2, hOB]
    have hab := and_lt h1b h2b
    have hob := or_lt h1b h2b
    rw [hAB] at hab
    rw [hOB] at hob
    have hwk := tog_water HV.out HP.out h1b.1 h2b.1
    rw [hAB, hOB] at hwk
    obtain ⟨W1, hW1⟩ : ∃ l, waterL wd hg want keep one = l := ⟨_, rfl⟩
    obtain ⟨W2, hW2⟩ : ∃ l, waterL wd hg want keep two = l := ⟨_, rfl⟩
    obtain ⟨W3, hW3⟩ : ∃ l, waterL wd hg want keep AB = l := ⟨_, rfl⟩
    obtain ⟨W4, hW4⟩ : ∃ l, waterL wd hg want keep OB = l := ⟨_, rfl⟩
    rw [hW1, hW2, hW3, hW4] at hwk
    obtain ⟨⟨k1, k2, k3, k4⟩, ⟨l1, l2, l3, l4⟩, hle, ⟨z1, z2, z3, z4⟩⟩ := hwk
    obtain ⟨V1, hV1⟩ : ∃ v, sticksV wd hg want keep W1 = v := ⟨_, rfl⟩
    obtain ⟨V2, hV2⟩ : ∃ v, sticksV wd hg want keep W2 = v := ⟨_, rfl⟩
    obtain ⟨V3, hV3⟩ : ∃ v, sticksV wd hg want keep W3 = v := ⟨_, rfl⟩
    obtain ⟨V4, hV4⟩ : ∃ v, sticksV wd hg want keep W4 = v := ⟨_, rfl⟩
    rw [hV1, hV2, hV3, hV4] at hle
    rw [hV1] at z1
    rw [hV2] at z2
    rw [hV3] at z3
    rw [hV4] at z4
    have t3 : decide (V3 + V4 ≤ V1 + V2) = true := decide_eq_true hle
    have ww1 : IntKind.i64.wrap (V3 + V4) = V3 + V4 := IntWalk.i64_in _ (by omega)
    have ww2 : IntKind.i64.wrap (V1 + V2) = V1 + V2 := IntWalk.i64_in _ (by omega)
    have K1 := hid k1
    have K2 := hid k2
    have K3 := hid k3
    have K4 := hid k4
    have HV1 := hid hV1
    have HV2 := hid hV2
    have HV3 := hid hV3
    have HV4 := hid hV4
    have HW1 := hid hW1
    have HW2 := hid hW2
    have HW3 := hid hW3
    have HW4 := hid hW4
    clear hle z1 z2 z3 z4 k1 k2 k3 k4 hV1 hV2 hV3 hV4 hW1 hW2 hW3 hW4 hAB hOB
    go_upto_region 18 with (fail)
    refine wp_region_valsG w13 (bl_refl _) [123, 124, 125, 126, 127, 128, 19, 20] (fun seen u W => (seen 0 = true → u 123 = .agg #[.int .i64 wd, .int .i64 hg, .slice A want.length ca, .slice Bk keep.length ck]) ∧
      (seen 1 = true → u 124 = .int .u64 one) ∧
      (seen 2 = true → Ints W (u 125) W1) ∧
      (seen 3 = true → u 126 = .agg #[.int .i64 wd, .int .i64 hg, .slice A want.length ca, .slice Bk keep.length ck]) ∧
      (seen 4 = true → u 127 = .int .u64 two) ∧
      (seen 5 = true → Ints W (u 128) W2) ∧
      (seen 6 = true → Ints W (u 19) W1) ∧
      (seen 7 = true → Ints W (u 20) W2))
      (by kernel_rfl) (by kernel_rfl) (by kernel_rfl) (by simp) (by simp) ?_ ?_
    · intro i o ho seen a' w9 hb9 ⟨F0, F1, F2, F3, F4, F5, F6, F7⟩ hv hsi hdep
      have hbx := heap_mono HX_13.out hb9
      have c0 : w9.cell? ⟨X, 0, none⟩ = some (.int .i64 wd) := cell_of_heap hbx
      have c1 : w9.cell? ⟨X, 1, none⟩ = some (.int .i64 hg) := cell_of_heap hbx
      have c2 : w9.cell? ⟨X, 2, none⟩ = some (.slice A want.length ca) := cell_of_heap hbx
      have c3 : w9.cell? ⟨X, 3, none⟩ = some (.slice Bk keep.length ck) := cell_of_heap hbx
      have hXl := (Array.getElem?_eq_some_iff.1 hbx).1
      rcases i with _ | _ | _ | _ | _ | _ | _ | _ | i <;> simp only [List.getElem?_cons_zero, List.getElem?_cons_succ, List.getElem?_nil, Option.some.injEq, reduceCtorEq] at ho <;> subst ho
      · refine if_free rfl ?_
        have x4 := val_at (hv 4 (by simp))
        simp [valsOf] at x4
        refine wp_value (.agg #[.int .i64 wd, .int .i64 hg, .slice A want.length ca, .slice Bk keep.length ck]) (w' := w9) (by simp [execOp, x4, go_sem, c0, c1, c2, c3, hXl, hand, hor]) ⟨_, rfl, hb9, ?_⟩
        exact ⟨by simp, by simpa using F1, by simpa using F2, by simpa using F3, by simpa using F4, by simpa using F5, by simpa using F6, by simpa using F7⟩
      · refine if_free rfl ?_
        have x2 := val_at (hv 2 (by simp))
        simp [valsOf] at x2
        refine wp_value (.int .u64 one) (w' := w9) (by simp [execOp, x2, go_sem, c0, c1, c2, c3, hXl, hand, hor]) ⟨_, rfl, hb9, ?_⟩
        exact ⟨by simpa using F0, by simp, by simpa using F2, by simpa using F3, by simpa using F4, by simpa using F5, by simpa using F6, by simpa using F7⟩
      · refine if_free rfl ?_
        have d0 := hdep ⟨0, .data⟩ (by simp) rfl
        have e0 := val_at (F0 d0)
        have d1 := hdep ⟨1, .data⟩ (by simp) rfl
        have e1 := val_at (F1 d1)
        have hcl := water_any (wd := wd) (hg := hg) (want := want) (keep := keep) one w9 h1b HBo.out (by omega) (by omega) (HW_13.out.mono hb9) (HK_13.out.mono hb9)
        rw [HW1.out] at hcl
        refine wp_calls (f := 47) (args := #[.agg #[.int .i64 wd, .int .i64 hg, .slice A want.length ca, .slice Bk keep.length ck], .int .u64 one]) (w' := w9) (by simp [execOp, e0, e1, go_sem]) hcl ?_
        rintro e w10 ⟨⟨v, rfl, hv⟩, hg⟩
        refine ⟨_, rfl, _, rfl, bl_trans hb9 hg, ?_⟩
        exact ⟨by simpa using F0, by simpa using F1, by simpa using hv, by simpa using F3, by simpa using F4, by simpa using fun h => (F5 h).mono hg, by simpa using fun h => (F6 h).mono hg, by simpa using fun h => (F7 h).mono hg⟩
      · refine if_free rfl ?_
        have x4 := val_at (hv 4 (by simp))
        simp [valsOf] at x4
        refine wp_value (.agg #[.int .i64 wd, .int .i64 hg, .slice A want.length ca, .slice Bk keep.length ck]) (w' := w9) (by simp [execOp, x4, go_sem, c0, c1, c2, c3, hXl, hand, hor]) ⟨_, rfl, hb9, ?_⟩
        exact ⟨by simpa using F0, by simpa using F1, by simpa using F2, by simp, by simpa using F4, by simpa using F5, by simpa using F6, by simpa using F7⟩
      · refine if_free rfl ?_
        have x3 := val_at (hv 3 (by simp))
        simp [valsOf] at x3
        refine wp_value (.int .u64 two) (w' := w9) (by simp [execOp, x3, go_sem, c0, c1, c2, c3, hXl, hand, hor]) ⟨_, rfl, hb9, ?_⟩
        exact ⟨by simpa using F0, by simpa using F1, by simpa using F2, by simpa using F3, by simp, by simpa using F5, by simpa using F6, by simpa using F7⟩
      · refine if_free rfl ?_
        have d3 := hdep ⟨3, .data⟩ (by simp) rfl
        have e3 := val_at (F3 d3)
        have d4 := hdep ⟨4, .data⟩ (by simp) rfl
        have e4 := val_at (F4 d4)
        have hcl := water_any (wd := wd) (hg := hg) (want := want) (keep := keep) two w9 h2b HBo.out (by omega) (by omega) (HW_13.out.mono hb9) (HK_13.out.mono hb9)
        rw [HW2.out] at hcl
        refine wp_calls (f := 47) (args := #[.agg #[.int .i64 wd, .int .i64 hg, .slice A want.length ca, .slice Bk keep.length ck], .int .u64 two]) (w' := w9) (by simp [execOp, e3, e4, go_sem]) hcl ?_
        rintro e w10 ⟨⟨v, rfl, hv⟩, hg⟩
        refine ⟨_, rfl, _, rfl, bl_trans hb9 hg, ?_⟩
        exact ⟨by simpa using F0, by simpa using F1, by simpa using fun h => (F2 h).mono hg, by simpa using F3, by simpa using F4, by simpa using hv, by simpa using fun h => (F6 h).mono hg, by simpa using fun h => (F7 h).mono hg⟩
      · refine if_free rfl ?_
        have d2 := hdep ⟨2, .data⟩ (by simp) rfl
        refine wp_value (valsOf a' 125) (w' := w9) (by simp [execOp, go_sem, valsOf]) ⟨_, rfl, hb9, ?_⟩
        exact ⟨by simpa using F0, by simpa using F1, by simpa using F2, by simpa using F3, by simpa using F4, by simpa using F5, by simpa using F2 d2, by simpa using F7⟩
      · refine if_free rfl ?_
        have d5 := hdep ⟨5, .data⟩ (by simp) rfl
        refine wp_value (valsOf a' 128) (w' := w9) (by simp [execOp, go_sem, valsOf]) ⟨_, rfl, hb9, ?_⟩
        exact ⟨by simpa using F0, by simpa using F1, by simpa using F2, by simpa using F3, by simpa using F4, by simpa using F5, by simpa using F6, by simpa using F5 d5⟩
    intro u w14 hb14 seen hall ⟨F0, F1, F2, F3, F4, F5, F6, F7⟩
    replace F0 := F0 (hall 0 (by decide))
    replace F1 := F1 (hall 1 (by decide))
    replace F2 := F2 (hall 2 (by decide))
    replace F3 := F3 (hall 3 (by decide))
    replace F4 := F4 (hall 4 (by decide))
    replace F5 := F5 (hall 5 (by decide))
    replace F6 := F6 (hall 6 (by decide))
    replace F7 := F7 (hall 7 (by decide))
    have hS1 := F6
    have hS2 := F7
    simp only [setAll]
    clear hall seen F0 F1 F2 F3 F4 F5 F6 F7
    generalize u 123 = u123
    generalize u 124 = u124
    generalize u 125 = u125
    generalize u 126 = u126
    generalize u 127 = u127
    generalize u 128 = u128
    generalize u 19 = sv1 at hS1 ⊢
    generalize u 20 = sv2 at hS2 ⊢
    have HX_14 := hid (heap_mono HX_13.out hb14)
    have HY_14 := hid (heap_mono HY_13.out hb14)
    have HZ_14 := hid (heap_mono HZ_13.out hb14)
    have HW_14 := hid (HW_13.out.mono hb14)
    have HK_14 := hid (HK_13.out.mono hb14)
    have HQ_14 := hid (HQ_13.out.mono hb14)
    have HBw_14 := hid (HBw_13.out.mono hb14)
    have HB14 := hid (bl_trans HB13.out hb14)
    clear HX_13 HY_13 HZ_13 HW_13 HK_13 HQ_13 HBw_13
    clear hb14
    have HW1v_14 := hid hS1
    have HW2v_14 := hid hS2
    clear hS1 hS2
    obtain ⟨AW1, cW1, rfl⟩ := HW1v_14.out.slice
    obtain ⟨AW2, cW2, rfl⟩ := HW2v_14.out.slice
    go_upto_region 19 with (fail)
    refine wp_region_valsG w14 (bl_refl _) [129, 130, 131, 132, 133, 134, 135, 136, 137, 138, 21, 22] (fun seen u W => (seen 0 = true → u 129 = .agg #[.int .i64 wd, .int .i64 hg, .slice A want.length ca, .slice Bk keep.length ck]) ∧
      (seen 1 = true → u 130 = .int .u64 one) ∧
      (seen 2 = true → u 131 = .int .u64 two) ∧
      (seen 3 = true → u 132 = .int .u64 AB) ∧
      (seen 4 = true → Ints W (u 133) W3) ∧
      (seen 5 = true → u 134 = .agg #[.int .i64 wd, .int .i64 hg, .slice A want.length ca, .slice Bk keep.length ck]) ∧
      (seen 6 = true → u 135 = .int .u64 one) ∧
      (seen 7 = true → u 136 = .int .u64 two) ∧
      (seen 8 = true → u 137 = .int .u64 OB) ∧
      (seen 9 = true → Ints W (u 138) W4) ∧
      (seen 10 = true → Ints W (u 21) W3) ∧
      (seen 11 = true → Ints W (u 22) W4))
      (by kernel_rfl) (by kernel_rfl) (by kernel_rfl) (by simp) (by simp) ?_ ?_
    · intro i o ho seen a' w9 hb9 ⟨F0, F1, F2, F3, F4, F5, F6, F7, F8, F9, F10, F11⟩ hv hsi hdep
      have hbx := heap_mono HX_14.out hb9
      have c0 : w9.cell? ⟨X, 0, none⟩ = some (.int .i64 wd) := cell_of_heap hbx
      have c1 : w9.cell? ⟨X, 1, none⟩ = some (.int .i64 hg) := cell_of_heap hbx
      have c2 : w9.cell? ⟨X, 2, none⟩ = some (.slice A want.length ca) := cell_of_heap hbx
      have c3 : w9.cell? ⟨X, 3, none⟩ = some (.slice Bk keep.length ck) := cell_of_heap hbx
      have hXl := (Array.getElem?_eq_some_iff.1 hbx).1
      rcases i with _ | _ | _ | _ | _ | _ | _ | _ | _ | _ | _ | _ | i <;> simp only [List.getElem?_cons_zero, List.getElem?_cons_succ, List.getElem?_nil, Option.some.injEq, reduceCtorEq] at ho <;> subst ho
      · refine if_free rfl ?_
        have x4 := val_at (hv 4 (by simp))
        simp [valsOf] at x4
        refine wp_value (.agg #[.int .i64 wd, .int .i64 hg, .slice A want.length ca, .slice Bk keep.length ck]) (w' := w9) (by simp [execOp, x4, go_sem, c0, c1, c2, c3, hXl, hand, hor]) ⟨_, rfl, hb9, ?_⟩
        exact ⟨by simp, by simpa using F1, by simpa using F2, by simpa using F3, by simpa using F4, by simpa using F5, by simpa using F6, by simpa using F7, by simpa using F8, by simpa using F9, by simpa using F10, by simpa using F11⟩
      · refine if_free rfl ?_
        have x2 := val_at (hv 2 (by simp))
        simp [valsOf] at x2
        refine wp_value (.int .u64 one) (w' := w9) (by simp [execOp, x2, go_sem, c0, c1, c2, c3, hXl, hand, hor]) ⟨_, rfl, hb9, ?_⟩
        exact ⟨by simpa using F0, by simp, by simpa using F2, by simpa using F3, by simpa using F4, by simpa using F5, by simpa using F6, by simpa using F7, by simpa using F8, by simpa using F9, by simpa using F10, by simpa using F11⟩
      · refine if_free rfl ?_
        have x3 := val_at (hv 3 (by simp))
        simp [valsOf] at x3
        refine wp_value (.int .u64 two) (w' := w9) (by simp [execOp, x3, go_sem, c0, c1, c2, c3, hXl, hand, hor]) ⟨_, rfl, hb9, ?_⟩
        exact ⟨by simpa using F0, by simpa using F1, by simp, by simpa using F3, by simpa using F4, by simpa using F5, by simpa using F6, by simpa using F7, by simpa using F8, by simpa using F9, by simpa using F10, by simpa using F11⟩
      · refine if_free rfl ?_
        have d1 := hdep ⟨1, .data⟩ (by simp) rfl
        have e1 := val_at (F1 d1)
        have d2 := hdep ⟨2, .data⟩ (by simp) rfl
        have e2 := val_at (F2 d2)
        refine wp_value (.int .u64 AB) (w' := w9) (by simp [execOp, e1, e2, go_sem, c0, c1, c2, c3, hXl, hand, hor]) ⟨_, rfl, hb9, ?_⟩
        exact ⟨by simpa using F0, by simpa using F1, by simpa using F2, by simp, by simpa using F4, by simpa using F5, by simpa using F6, by simpa using F7, by simpa using F8, by simpa using F9, by simpa using F10, by simpa using F11⟩
      · refine if_free rfl ?_
        have d0 := hdep ⟨0, .data⟩ (by simp) rfl
        have e0 := val_at (F0 d0)
        have d3 := hdep ⟨3, .data⟩ (by simp) rfl
        have e3 := val_at (F3 d3)
        have hcl := water_any (wd := wd) (hg := hg) (want := want) (keep := keep) AB w9 hab HBo.out (by omega) (by omega) (HW_14.out.mono hb9) (HK_14.out.mono hb9)
        rw [HW3.out] at hcl
        refine wp_calls (f := 47) (args := #[.agg #[.int .i64 wd, .int .i64 hg, .slice A want.length ca, .slice Bk keep.length ck], .int .u64 AB]) (w' := w9) (by simp [execOp, e0, e3, go_sem]) hcl ?_
        rintro e w10 ⟨⟨v, rfl, hv⟩, hg⟩
        refine ⟨_, rfl, _, rfl, bl_trans hb9 hg, ?_⟩
        exact ⟨by simpa using F0, by simpa using F1, by simpa using F2, by simpa using F3, by simpa using hv, by simpa using F5, by simpa using F6, by simpa using F7, by simpa using F8, by simpa using fun h => (F9 h).mono hg, by simpa using fun h => (F10 h).mono hg, by simpa using fun h => (F11 h).mono hg⟩
      · refine if_free rfl ?_
        have x4 := val_at (hv 4 (by simp))
        simp [valsOf] at x4
        refine wp_value (.agg #[.int .i64 wd, .int .i64 hg, .slice A want.length ca, .slice Bk keep.length ck]) (w' := w9) (by simp [execOp, x4, go_sem, c0, c1, c2, c3, hXl, hand, hor]) ⟨_, rfl, hb9, ?_⟩
        exact ⟨by simpa using F0, by simpa using F1, by simpa using F2, by simpa using F3, by simpa using F4, by simp, by simpa using F6, by simpa using F7, by simpa using F8, by simpa using F9, by simpa using F10, by simpa using F11⟩
      · refine if_free rfl ?_
        have x2 := val_at (hv 2 (by simp))
        simp [valsOf] at x2
        refine wp_value (.int .u64 one) (w' := w9) (by simp [execOp, x2, go_sem, c0, c1, c2, c3, hXl, hand, hor]) ⟨_, rfl, hb9, ?_⟩
        exact ⟨by simpa using F0, by simpa using F1, by simpa using F2, by simpa using F3, by simpa using F4, by simpa using F5, by simp, by simpa using F7, by simpa using F8, by simpa using F9, by simpa using F10, by simpa using F11⟩
      · refine if_free rfl ?_
        have x3 := val_at (hv 3 (by simp))
        simp [valsOf] at x3
        refine wp_value (.int .u64 two) (w' := w9) (by simp [execOp, x3, go_sem, c0, c1, c2, c3, hXl, hand, hor]) ⟨_, rfl, hb9, ?_⟩
        exact ⟨by simpa using F0, by simpa using F1, by simpa using F2, by simpa using F3, by simpa using F4, by simpa using F5, by simpa using F6, by simp, by simpa using F8, by simpa using F9, by simpa using F10, by simpa using F11⟩
      · refine if_free rfl ?_
        have d6 := hdep ⟨6, .data⟩ (by simp) rfl
        have e6 := val_at (F6 d6)
        have d7 := hdep ⟨7, .data⟩ (by simp) rfl
        have e7 := val_at (F7 d7)
        refine wp_value (.int .u64 OB) (w' := w9) (by simp [execOp, e6, e7, go_sem, c0, c1, c2, c3, hXl, hand, hor]) ⟨_, rfl, hb9, ?_⟩
        exact ⟨by simpa using F0, by simpa using F1, by simpa using F2, by simpa using F3, by simpa using F4, by simpa using F5, by simpa using F6, by simpa using F7, by simp, by simpa using F9, by simpa using F10, by simpa using F11⟩
      · refine if_free rfl ?_
        have d5 := hdep ⟨5, .data⟩ (by simp) rfl
        have e5 := val_at (F5 d5)
        have d8 := hdep ⟨8, .data⟩ (by simp) rfl
        have e8 := val_at (F8 d8)
        have hcl := water_any (wd := wd) (hg := hg) (want := want) (keep := keep) OB w9 hob HBo.out (by omega) (by omega) (HW_14.out.mono hb9) (HK_14.out.mono hb9)
        rw [HW4.out] at hcl
        refine wp_calls (f := 47) (args := #[.agg #[.int .i64 wd, .int .i64 hg, .slice A want.length ca, .slice Bk keep.length ck], .int .u64 OB]) (w' := w9) (by simp [execOp, e5, e8, go_sem]) hcl ?_
        rintro e w10 ⟨⟨v, rfl, hv⟩, hg⟩
        refine ⟨_, rfl, _, rfl, bl_trans hb9 hg, ?_⟩
        exact ⟨by simpa using F0, by simpa using F1, by simpa using F2, by simpa using F3, by simpa using fun h => (F4 h).mono hg, by simpa using F5, by simpa using F6, by simpa using F7, by simpa using F8, by simpa using hv, by simpa using fun h => (F10 h).mono hg, by simpa using fun h => (F11 h).mono hg⟩
      · refine if_free rfl ?_
        have d4 := hdep ⟨4, .data⟩ (by simp) rfl
        refine wp_value (valsOf a' 133) (w' := w9) (by simp [execOp, go_sem, valsOf]) ⟨_, rfl, hb9, ?_⟩
        exact ⟨by simpa using F0, by simpa using F1, by simpa using F2, by simpa using F3, by simpa using F4, by simpa using F5, by simpa using F6, by simpa using F7, by simpa using F8, by simpa using F9, by simpa using F4 d4, by simpa using F11⟩
      · refine if_free rfl ?_
        have d9 := hdep ⟨9, .data⟩ (by simp) rfl
        refine wp_value (valsOf a' 138) (w' := w9) (by simp [execOp, go_sem, valsOf]) ⟨_, rfl, hb9, ?_⟩
        exact ⟨by simpa using F0, by simpa using F1, by simpa using F2, by simpa using F3, by simpa using F4, by simpa using F5, by simpa using F6, by simpa using F7, by simpa using F8, by simpa using F9, by simpa using F10, by simpa using F9 d9⟩
    intro u w15 hb15 seen hall ⟨F0, F1, F2, F3, F4, F5, F6, F7, F8, F9, F10, F11⟩
    replace F0 := F0 (hall 0 (by decide))
    replace F1 := F1 (hall 1 (by decide))
    replace F2 := F2 (hall 2 (by decide))
    replace F3 := F3 (hall 3 (by decide))
    replace F4 := F4 (hall 4 (by decide))
    replace F5 := F5 (hall 5 (by decide))
    replace F6 := F6 (hall 6 (by decide))
    replace F7 := F7 (hall 7 (by decide))
    replace F8 := F8 (hall 8 (by decide))
    replace F9 := F9 (hall 9 (by decide))
    replace F10 := F10 (hall 10 (by decide))
    replace F11 := F11 (hall 11 (by decide))
    have hS1 := F10
    have hS2 := F11
    simp only [setAll]
    clear hall seen F0 F1 F2 F3 F4 F5 F6 F7 F8 F9 F10 F11
    generalize u 129 = u129
    generalize u 130 = u130
    generalize u 131 = u131
    generalize u 132 = u132
    generalize u 133 = u133
    generalize u 134 = u134
    generalize u 135 = u135
    generalize u 136 = u136
    generalize u 137 = u137
    generalize u 138 = u138
    generalize u 21 = sv1 at hS1 ⊢
    generalize u 22 = sv2 at hS2 ⊢
    have HX_15 := hid (heap_mono HX_14.out hb15)
    have HY_15 := hid (heap_mono HY_14.out hb15)
    have HZ_15 := hid (heap_mono HZ_14.out hb15)
    have HW_15 := hid (HW_14.out.mono hb15)
    have HK_15 := hid (HK_14.out.mono hb15)
    have HQ_15 := hid (HQ_14.out.mono hb15)
    have HBw_15 := hid (HBw_14.out.mono hb15)
    have HW1v_15 := hid (HW1v_14.out.mono hb15)
    have HW2v_15 := hid (HW2v_14.out.mono hb15)
    have HB15 := hid (bl_trans HB14.out hb15)
    clear HX_14 HY_14 HZ_14 HW_14 HK_14 HQ_14 HBw_14 HW1v_14 HW2v_14
    clear hb15
    have HW3v_15 := hid hS1
    have HW4v_15 := hid hS2
    clear hS1 hS2
    obtain ⟨AW3, cW3, rfl⟩ := HW3v_15.out.slice
    obtain ⟨AW4, cW4, rfl⟩ := HW4v_15.out.slice
    have sX0 : w15.cell? ⟨X, 0, none⟩ = some (.int .i64 wd) := cell_of_heap HX_15.out
    have sX1 : w15.cell? ⟨X, 1, none⟩ = some (.int .i64 hg) := cell_of_heap HX_15.out
    have sX2 : w15.cell? ⟨X, 2, none⟩ = some (.slice A want.length ca) := cell_of_heap HX_15.out
    have sX3 : w15.cell? ⟨X, 3, none⟩ = some (.slice Bk keep.length ck) := cell_of_heap HX_15.out
    have slX := (Array.getElem?_eq_some_iff.1 HX_15.out).1
    have hcall := sticks_any (wd := wd) (hg := hg) (want := want) (keep := keep) (water := W1) w15 (by omega) (by omega) (by omega) HW_15.out HK_15.out HW1v_15.out
    rw [HV1.out, K1.out] at hcall
    go_wp2_with fail
    refine hcall.mono ?_
    rintro e w16 ⟨rfl, hb16⟩
    clear hcall sX0 sX1 sX2 sX3 slX
    have HX_16 := hid (heap_mono HX_15.out hb16)
    have HY_16 := hid (heap_mono HY_15.out hb16)
    have HZ_16 := hid (heap_mono HZ_15.out hb16)
    have HW_16 := hid (HW_15.out.mono hb16)
    have HK_16 := hid (HK_15.out.mono hb16)
    have HQ_16 := hid (HQ_15.out.mono hb16)
    have HBw_16 := hid (HBw_15.out.mono hb16)
    have HW1v_16 := hid (HW1v_15.out.mono hb16)
    have HW2v_16 := hid (HW2v_15.out.mono hb16)
    have HW3v_16 := hid (HW3v_15.out.mono hb16)
    have HW4v_16 := hid (HW4v_15.out.mono hb16)
    have HB16 := hid (bl_trans HB15.out hb16)
    clear HX_15 HY_15 HZ_15 HW_15 HK_15 HQ_15 HBw_15 HW1v_15 HW2v_15 HW3v_15 HW4v_15
    clear hb16
    have sX0 : w16.cell? ⟨X, 0, none⟩ = some (.int .i64 wd) := cell_of_heap HX_16.out
    have sX1 : w16.cell? ⟨X, 1, none⟩ = some (.int .i64 hg) := cell_of_heap HX_16.out
    have sX2 : w16.cell? ⟨X, 2, none⟩ = some (.slice A want.length ca) := cell_of_heap HX_16.out
    have sX3 : w16.cell? ⟨X, 3, none⟩ = some (.slice Bk keep.length ck) := cell_of_heap HX_16.out
    have slX := (Array.getElem?_eq_some_iff.1 HX_16.out).1
    have hcall := sticks_any (wd := wd) (hg := hg) (want := want) (keep := keep) (water := W2) w16 (by omega) (by omega) (by omega) HW_16.out HK_16.out HW2v_16.out
    rw [HV2.out, K2.out] at hcall
    go_wp2_with fail
    refine hcall.mono ?_
    rintro e w17 ⟨rfl, hb17⟩
    clear hcall sX0 sX1 sX2 sX3 slX
    have HX_17 := hid (heap_mono HX_16.out hb17)
    have HY_17 := hid (heap_mono HY_16.out hb17)
    have HZ_17 := hid (heap_mono HZ_16.out hb17)
    have HW_17 := hid (HW_16.out.mono hb17)
    have HK_17 := hid (HK_16.out.mono hb17)
    have HQ_17 := hid (HQ_16.out.mono hb17)
    have HBw_17 := hid (HBw_16.out.mono hb17)
    have HW1v_17 := hid (HW1v_16.out.mono hb17)
    have HW2v_17 := hid (HW2v_16.out.mono hb17)
    have HW3v_17 := hid (HW3v_16.out.mono hb17)
    have HW4v_17 := hid (HW4v_16.out.mono hb17)
    have HB17 := hid (bl_trans HB16.out hb17)
    clear HX_16 HY_16 HZ_16 HW_16 HK_16 HQ_16 HBw_16 HW1v_16 HW2v_16 HW3v_16 HW4v_16
    clear hb17
    have sX0 : w17.cell? ⟨X, 0, none⟩ = some (.int .i64 wd) := cell_of_heap HX_17.out
    have sX1 : w17.cell? ⟨X, 1, none⟩ = some (.int .i64 hg) := cell_of_heap HX_17.out
    have sX2 : w17.cell? ⟨X, 2, none⟩ = some (.slice A want.length ca) := cell_of_heap HX_17.out
    have sX3 : w17.cell? ⟨X, 3, none⟩ = some (.slice Bk keep.length ck) := cell_of_heap HX_17.out
    have slX := (Array.getElem?_eq_some_iff.1 HX_17.out).1
    have hcall := sticks_any (wd := wd) (hg := hg) (want := want) (keep := keep) (water := W3) w17 (by omega) (by omega) (by omega) HW_17.out HK_17.out HW3v_17.out
    rw [HV3.out, K3.out] at hcall
    go_wp2_with fail
    refine hcall.mono ?_
    rintro e w18 ⟨rfl, hb18⟩
    clear hcall sX0 sX1 sX2 sX3 slX
    have HX_18 := hid (heap_mono HX_17.out hb18)
    have HY_18 := hid (heap_mono HY_17.out hb18)
    have HZ_18 := hid (heap_mono HZ_17.out hb18)
    have HW_18 := hid (HW_17.out.mono hb18)
    have HK_18 := hid (HK_17.out.mono hb18)
    have HQ_18 := hid (HQ_17.out.mono hb18)
    have HBw_18 := hid (HBw_17.out.mono hb18)
    have HW1v_18 := hid (HW1v_17.out.mono hb18)
    have HW2v_18 := hid (HW2v_17.out.mono hb18)
    have HW3v_18 := hid (HW3v_17.out.mono hb18)
    have HW4v_18 := hid (HW4v_17.out.mono hb18)
    have HB18 := hid (bl_trans HB17.out hb18)
    clear HX_17 HY_17 HZ_17 HW_17 HK_17 HQ_17 HBw_17 HW1v_17 HW2v_17 HW3v_17 HW4v_17
    clear hb18
    have sX0 : w18.cell? ⟨X, 0, none⟩ = some (.int .i64 wd) := cell_of_heap HX_18.out
    have sX1 : w18.cell? ⟨X, 1, none⟩ = some (.int .i64 hg) := cell_of_heap HX_18.out
    have sX2 : w18.cell? ⟨X, 2, none⟩ = some (.slice A want.length ca) := cell_of_heap HX_18.out
    have sX3 : w18.cell? ⟨X, 3, none⟩ = some (.slice Bk keep.length ck) := cell_of_heap HX_18.out
    have slX := (Array.getElem?_eq_some_iff.1 HX_18.out).1
    have hcall := sticks_any (wd := wd) (hg := hg) (want := want) (keep := keep) (water := W4) w18 (by omega) (by omega) (by omega) HW_18.out HK_18.out HW4v_18.out
    rw [HV4.out, K4.out] at hcall
    go_wp2_with fail
    refine hcall.mono ?_
    rintro e w19 ⟨rfl, hb19⟩
    clear hcall sX0 sX1 sX2 sX3 slX
    have HX_19 := hid (heap_mono HX_18.out hb19)
    have HY_19 := hid (heap_mono HY_18.out hb19)
    have HZ_19 := hid (heap_mono HZ_18.out hb19)
    have HW_19 := hid (HW_18.out.mono hb19)
    have HK_19 := hid (HK_18.out.mono hb19)
    have HQ_19 := hid (HQ_18.out.mono hb19)
    have HBw_19 := hid (HBw_18.out.mono hb19)
    have HW1v_19 := hid (HW1v_18.out.mono hb19)
    have HW2v_19 := hid (HW2v_18.out.mono hb19)
    have HW3v_19 := hid (HW3v_18.out.mono hb19)
    have HW4v_19 := hid (HW4v_18.out.mono hb19)
    have HB19 := hid (bl_trans HB18.out hb19)
    clear HX_18 HY_18 HZ_18 HW_18 HK_18 HQ_18 HBw_18 HW1v_18 HW2v_18 HW3v_18 HW4v_18
    clear hb19
    have hworks := works_any w19
    go_wp2_with fail
    refine hworks.mono ?_
    rintro e wz ⟨rfl, hbz⟩
    clear hworks
    go_wp2
    go_ret
    exact ⟨rfl, bl_trans HB19.out hbz⟩

end Go.Proofs.Ytlkoadcbolkhoaa
