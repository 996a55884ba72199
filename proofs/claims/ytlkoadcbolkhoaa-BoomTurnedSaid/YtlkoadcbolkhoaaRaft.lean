/- A pond with the ways over its sides, in memory; whether a side is free; a way is led over a side. -/
import Derived.Test.YtlkoadcbolkhoaaSpot
import Derived.Test.YtlkoadcbolkhoaaRange
import Derived.ArgAppend
import Derived.WalkSpells
import Derived.Lib.SliceRun
set_option linter.all false
namespace Go.Proofs.Ytlkoadcbolkhoaa
open Go Go.RowKit Go.Proofs
attribute [local go_sem] cell_grow frozen_grow

/-- The map alone has been turned. -/
structure MapOnly (MB : Nat) (w w' : World) : Prop where
  size : w.heap.size ≤ w'.heap.size
  same : ∀ (k : Nat) (o : Obj), k ≠ MB → w.heap[k]? = some o → w'.heap[k]? = some o
  below : ∀ w0 : World, w0.heap.size ≤ MB → Below w0.heap.size w0 w → Below w0.heap.size w0 w'
theorem MapOnly.refl (MB : Nat) (w : World) : MapOnly MB w w := ⟨Nat.le_refl _, fun _ _ _ h => h, fun _ _ h => h⟩
theorem MapOnly.trans {MB : Nat} {a b c : World} (h : MapOnly MB a b) (k : MapOnly MB b c) : MapOnly MB a c := ⟨Nat.le_trans h.size k.size, fun i o hi ho => k.same i o hi (h.same i o hi ho), fun w0 h0 hb => k.below w0 h0 (h.below w0 h0 hb)⟩
theorem MapOnly.of {MB : Nat} {w w' : World} (h : Below w.heap.size w w') : MapOnly MB w w' := ⟨h.size, fun _ _ _ ho => heap_mono ho h, fun _ _ hb => bl_trans hb h⟩
theorem MapOnly.put (MB : Nat) (w : World) (o : Obj) : MapOnly MB w (w.putObj MB o) := ⟨by simp, fun _ _ hk h => (World.putObj_heap_other hk).trans h, fun _ h0 hb => below_put hb h0⟩
theorem MapOnly.cells {MB : Nat} {w w' : World} (h : MapOnly MB w w') {f : Used} (hm : SpotMap w MB f) {k : Nat} {cs : Array Value} {t : TypeId} {p : Nat × Nat} (hk : w.heap[k]? = some (.cells cs t p)) : w'.heap[k]? = some (.cells cs t p) := by
  refine h.same k _ ?_ hk
  rintro rfl
  obtain ⟨es, clk, h1, _⟩ := hm
  rw [h1] at hk
  cases hk
theorem MapOnly.cell {MB : Nat} {w w' : World} (h : MapOnly MB w w') {f : Used} (hm : SpotMap w MB f) {a : Addr} {v : Value} (hc : w.cell? a = some v) : w'.cell? a = some v := by
  obtain ⟨o, ho, hcc⟩ := cells_of_cell hc
  have hne : a.block ≠ MB := by
    intro e
    obtain ⟨es, clk, h1, _⟩ := hm
    rw [e, h1] at ho
    cases ho
    cases hcc
  exact (World.cell?_of_block ((h.same _ _ hne ho).trans ho.symm)).trans hc
theorem MapOnly.ints {MB : Nat} {w w' : World} (h : MapOnly MB w w') {f : Used} (hm : SpotMap w MB f) {s : Value} {l : List Int} (hi : Ints w s l) : Ints w' s l := by
  rcases hi with hi | ⟨b, off, c, h1, h2, h3, h4⟩
  · exact .inl hi
  · exact .inr ⟨b, off, c, h1, h2, Nat.lt_of_lt_of_le h3 h.size, fun i x hx => h.cell hm (h4 i x hx)⟩
theorem SpotMap.mono {W W' : World} {r : Nat} {f : Used} (h : SpotMap W r f) (hb : Below W.heap.size W W') : SpotMap W' r f := h.keep fun _ ho => heap_mono ho hb

/-- A pond with its ways. -/
structure RaftAt (W : World) (RP MB : Nat) (wd hg : Int) (sw sk : Value) (want keep : List Int) (m : Int) (u : Used) : Prop where
  box : W.heap[RP]? = some (.cells #[.int .i64 wd, .int .i64 hg, sw, sk, .map (some MB), .int .i64 m] 90 (0, 0))
  map : SpotMap W MB u
  want : Ints W sw want
  keep : Ints W sk keep
section
variable {W W' : World} {RP MB : Nat} {wd hg : Int} {sw sk : Value} {want keep : List Int} {m : Int} {u u' : Used}
theorem RaftAt.mono (h : RaftAt W RP MB wd hg sw sk want keep m u) (hb : Below W.heap.size W W') : RaftAt W' RP MB wd hg sw sk want keep m u :=
  ⟨heap_mono h.box hb, h.map.mono hb, h.want.mono hb, h.keep.mono hb⟩
theorem RaftAt.turn (h : RaftAt W RP MB wd hg sw sk want keep m u) (hb : MapOnly MB W W') (hm : SpotMap W' MB u') : RaftAt W' RP MB wd hg sw sk want keep m u' :=
  ⟨hb.cells h.map h.box, hm, hb.ints h.map h.want, hb.ints h.map h.keep⟩
theorem RaftAt.lt (h : RaftAt W RP MB wd hg sw sk want keep m u) : RP < W.heap.size := (Array.getElem?_eq_some_iff.1 h.box).1
theorem RaftAt.c0 (h : RaftAt W RP MB wd hg sw sk want keep m u) : W.cell? ⟨RP, 0, none⟩ = some (.int .i64 wd) := cell_of_heap h.box
theorem RaftAt.c1 (h : RaftAt W RP MB wd hg sw sk want keep m u) : W.cell? ⟨RP, 1, none⟩ = some (.int .i64 hg) := cell_of_heap h.box
theorem RaftAt.c2 (h : RaftAt W RP MB wd hg sw sk want keep m u) : W.cell? ⟨RP, 2, none⟩ = some sw := cell_of_heap h.box
theorem RaftAt.c3 (h : RaftAt W RP MB wd hg sw sk want keep m u) : W.cell? ⟨RP, 3, none⟩ = some sk := cell_of_heap h.box
theorem RaftAt.c4 (h : RaftAt W RP MB wd hg sw sk want keep m u) : W.cell? ⟨RP, 4, none⟩ = some (.map (some MB)) := cell_of_heap h.box
theorem RaftAt.c5 (h : RaftAt W RP MB wd hg sw sk want keep m u) : W.cell? ⟨RP, 5, none⟩ = some (.int .i64 m) := cell_of_heap h.box
end

theorem back_any (d : Int) (w : World) (h : 0 ≤ d ∧ d ≤ 3) : Calls Try.prog 103 #[.int .i64 d] w fun e w' => e = .returned (.int .i64 ((d + 2) % 4)) ∧ w' = w := by
  have h1 : IntKind.i64.wrap (d + 2) = d + 2 := IntWalk.i64_in _ (by omega)
  have h2 : Int.tmod (d + 2) 4 = (d + 2) % 4 := Int.tmod_eq_emod_of_nonneg (by omega)
  obtain ⟨r, hr, hrb⟩ : ∃ r, (d + 2) % 4 = r ∧ 0 ≤ r ∧ r < 4 := ⟨_, rfl, by omega, by omega⟩
  rw [hr] at h2 ⊢
  have h3 : IntKind.i64.wrap r = r := IntWalk.i64_in _ (by omega)
  clear hr
  go_enter Try.func103, Try.ntmps103
  go_wp2
  go_ret
  exact ⟨rfl, rfl⟩

set_option maxRecDepth 100000 in
set_option maxHeartbeats 4000000 in
theorem free_any {RP MB : Nat} {wd hg : Int} {sw sk : Value} {want keep : List Int} {m : Int} {u : Used} (c d : Int) (w : World) (hR : RaftAt w RP MB wd hg sw sk want keep m u) :
    Calls Try.prog 100 #[.pointer (some ⟨RP, 0, none⟩), .agg #[.int .i64 c, .int .i64 d]] w fun e w' => e = .returned (.bool (decide (u (c, d) < 1))) ∧ Below w.heap.size w w' := by
  have hb := hid (bl_alloc (bl_refl w) (.cells #[.int .i64 c, .int .i64 d] 104))
  have hk := hid (World.alloc_heap_new w (.cells #[.int .i64 c, .int .i64 d] 104))
  have HR := hid (hR.mono hb.out)
  obtain ⟨x, hx⟩ : ∃ x, u (c, d) = x := ⟨_, rfl⟩
  rw [hx]
  have HX := hid hx
  clear hR hx
  go_enter Try.func100, Try.ntmps100
  go_wp2
  obtain ⟨w0, hw0⟩ : ∃ w0, w.alloc (.cells #[.int .i64 c, .int .i64 d] 104) = w0 := ⟨_, rfl⟩
  rw [hw0] at hb hk HR ⊢
  obtain ⟨Q, hQ⟩ : ∃ Q, w.heap.size = Q := ⟨_, rfl⟩
  rw [hQ] at hk ⊢
  have c4 := HR.out.c4
  have rl := HR.out.lt
  have q0 : w0.cell? ⟨Q, 0, none⟩ = some (.int .i64 c) := cell_of_heap hk.out
  have q1 : w0.cell? ⟨Q, 1, none⟩ = some (.int .i64 d) := cell_of_heap hk.out
  have ql := (Array.getElem?_eq_some_iff.1 hk.out).1
  have hlk : ∀ (dd : Nat) (os : Array Obj), (Instr.lookup 88 (.map (some MB)) (.agg #[.int .i64 c, .int .i64 d]) false).run Try.prog (Sort.grow (redrawn w0 dd) os) = .ok (.int .i64 (u (c, d))) (Sort.grow (redrawn w0 dd) os) := fun dd os =>
    (HR.out.map.mono (below_regrown w0 dd os)).lookup (c, d)
  rw [HX.out] at hlk
  clear hw0 hk
  refine wp_region_below (by kernel_rfl) (by kernel_rfl) ?_
  repeat (first | go_big_quiet_step (fail) | quiet_step (fail))
  refine wpQuiet_nil ?_
  intro w1 hb1
  have hb2 := hid (bl_trans hb.out hb1)
  clear hlk c4 rl q0 q1 ql hb1
  go_wp2
  go_ret
  exact ⟨rfl, hb2.out⟩

set_option maxRecDepth 100000 in
set_option maxHeartbeats 4000000 in
theorem over_any {RP MB : Nat} {wd hg : Int} {sw sk : Value} {want keep : List Int} {m : Int} {u : Used} (c d to : Int) (w : World) (hd : 0 ≤ d ∧ d ≤ 3) (hR : RaftAt w RP MB wd hg sw sk want keep m u) :
    Calls Try.prog 109 #[.pointer (some ⟨RP, 0, none⟩), .agg #[.int .i64 c, .int .i64 d], .int .i64 to] w fun e w' => e = .returned (.tuple #[]) ∧ RaftAt w' RP MB wd hg sw sk want keep m (overU u (c, d) to) ∧ MapOnly MB w w' := by
  have hb := hid (bl_alloc (bl_refl w) (.cells #[.int .i64 c, .int .i64 d] 104))
  have hk := hid (World.alloc_heap_new w (.cells #[.int .i64 c, .int .i64 d] 104))
  have HR := hid (hR.mono hb.out)
  clear hR
  go_enter Try.func109, Try.ntmps109
  go_upto_region 1 with (fail)
  obtain ⟨w0, hw0⟩ : ∃ w0, w.alloc (.cells #[.int .i64 c, .int .i64 d] 104) = w0 := ⟨_, rfl⟩
  rw [hw0] at hb hk HR ⊢
  obtain ⟨Q, hQ⟩ : ∃ Q, w.heap.size = Q := ⟨_, rfl⟩
  rw [hQ] at hk ⊢
  have HM := hid (MapOnly.of (MB := MB) hb.out)
  clear hw0 hQ hb
  by_cases hto : 0 ≤ to
  · have t1 : decide (0 ≤ to) = true := decide_eq_true hto
    obtain ⟨bk, hbk⟩ : ∃ bk, (d + 2) % 4 = bk := ⟨_, rfl⟩
    have hcall := back_any d w0 hd
    rw [hbk] at hcall
    have q1 : w0.cell? ⟨Q, 1, none⟩ = some (.int .i64 d) := cell_of_heap hk.out
    have ql := (Array.getElem?_eq_some_iff.1 hk.out).1
    have hov : overU u (c, d) to = if 0 < u (to, bk) then putU u (to, bk) 0 else putU u (c, d) 1 := by unfold overU; rw [if_pos hto, ← hbk]
    have HOV := hid hov
    clear hto hbk hov
    go_wp2_with fail
    refine hcall.mono ?_
    rintro e w' ⟨rfl, rfl⟩
    clear hcall
    go_upto_region 3 with (fail)
    have hb2 := bl_alloc (bl_refl w') (.cells #[.int .i64 to, .int .i64 bk] 104)
    have hp := World.alloc_heap_new w' (.cells #[.int .i64 to, .int .i64 bk] 104)
    have HR2 := hid (HR.out.mono hb2)
    have hk2 := hid (heap_mono hk.out hb2)
    have HM2 := hid (HM.out.trans (MapOnly.of hb2))
    obtain ⟨PB, hPB⟩ : ∃ PB, w'.heap.size = PB := ⟨_, rfl⟩
    obtain ⟨w2, hw2⟩ : ∃ w2, w'.alloc (.cells #[.int .i64 to, .int .i64 bk] 104) = w2 := ⟨_, rfl⟩
    rw [hPB] at hp ⊢
    rw [hw2] at hp HR2 hk2 HM2 ⊢
    have HP := hid hp
    clear hw2 hPB hp hb2 HR HM q1 ql hk
    have c4 := HR2.out.c4
    have rl := HR2.out.lt
    have p0 : w2.cell? ⟨PB, 0, none⟩ = some (.int .i64 to) := cell_of_heap HP.out
    have p1 : w2.cell? ⟨PB, 1, none⟩ = some (.int .i64 bk) := cell_of_heap HP.out
    have pl := (Array.getElem?_eq_some_iff.1 HP.out).1
    have hlk : ∀ (dd : Nat) (os : Array Obj), (Instr.lookup 88 (.map (some MB)) (.agg #[.int .i64 to, .int .i64 bk]) false).run Try.prog (Sort.grow (redrawn w2 dd) os) = .ok (.int .i64 (u (to, bk))) (Sort.grow (redrawn w2 dd) os) := fun dd os =>
      (HR2.out.map.mono (below_regrown w2 dd os)).lookup (to, bk)
    obtain ⟨x, hx⟩ : ∃ x, u (to, bk) = x := ⟨_, rfl⟩
    rw [hx] at hlk HOV
    clear hx
    refine wp_region_below (by kernel_rfl) (by kernel_rfl) ?_
    repeat (first | go_big_quiet_step (fail) | quiet_step (fail))
    refine wpQuiet_nil ?_
    intro w3 hb3
    have HR3 := hid (HR2.out.mono hb3)
    have hk3 := hid (heap_mono hk2.out hb3)
    have HP3 := hid (heap_mono HP.out hb3)
    have HM3 := hid (HM2.out.trans (MapOnly.of hb3))
    clear hlk c4 rl p0 p1 pl hb3 HR2 hk2 HP HM2
    by_cases hpos : 0 < x
    · have t2 : decide (0 < x) = true := decide_eq_true hpos
      have HOV2 := hid (show overU u (c, d) to = putU u (to, bk) 0 by rw [HOV.out, if_pos hpos])
      clear hpos HOV
      rw [t2]
      go_upto_region 4 with (fail)
      have c4 := HR3.out.c4
      have rl := HR3.out.lt
      have p0 : w3.cell? ⟨PB, 0, none⟩ = some (.int .i64 to) := cell_of_heap HP3.out
      have p1 : w3.cell? ⟨PB, 1, none⟩ = some (.int .i64 bk) := cell_of_heap HP3.out
      have pl := (Array.getElem?_eq_some_iff.1 HP3.out).1
      refine wp_region_below_tail 5 (by kernel_rfl) (by kernel_rfl) ?_
      simp only [List.take_succ_cons, List.take_zero, List.drop_succ_cons, List.drop_zero]
      repeat (first | go_big_quiet_step (fail) | quiet_step (fail))
      refine wpQuiet_nil ?_
      intro w4 hb4
      obtain ⟨w5, o5, hdel, hw5, hS5⟩ := (HR3.out.map.mono hb4).delete (to, bk) 0
      simp only [encS] at hdel
      have HM5 := hid ((HM3.out.trans (MapOnly.of hb4)).trans (MapOnly.put MB w4 o5))
      rw [← hw5] at HM5
      have HR5 := hid ((HR3.out.mono hb4).turn (by rw [hw5]; exact MapOnly.put MB w4 o5) hS5)
      clear c4 rl p0 p1 pl hb4 hw5 hS5 HR3 hk3 HP3 HM3
      go_wp2
      first | go_end0 | refine bodyPost_ret (results_none rfl _ _ _) rfl ?_
      exact ⟨rfl, by rw [HOV2.out]; exact HR5.out, HM5.out⟩
    · have t2 : decide (0 < x) = false := decide_eq_false hpos
      have HOV2 := hid (show overU u (c, d) to = putU u (c, d) 1 by rw [HOV.out, if_neg hpos])
      clear hpos HOV HP3
      rw [t2]
      go_upto_region 5 with (fail)
      have c4 := HR3.out.c4
      have rl := HR3.out.lt
      have q0 : w3.cell? ⟨Q, 0, none⟩ = some (.int .i64 c) := cell_of_heap hk3.out
      have q1 : w3.cell? ⟨Q, 1, none⟩ = some (.int .i64 d) := cell_of_heap hk3.out
      have ql := (Array.getElem?_eq_some_iff.1 hk3.out).1
      refine wp_region_below_tail 5 (by kernel_rfl) (by kernel_rfl) ?_
      simp only [List.take_succ_cons, List.take_zero, List.drop_succ_cons, List.drop_zero]
      repeat (first | go_big_quiet_step (fail) | quiet_step (fail))
      refine wpQuiet_nil ?_
      intro w4 hb4
      obtain ⟨w5, o5, hup, hw5, hS5⟩ := (HR3.out.map.mono hb4).update (c, d) 1
      simp only [encS] at hup
      have HM5 := hid ((HM3.out.trans (MapOnly.of hb4)).trans (MapOnly.put MB w4 o5))
      rw [← hw5] at HM5
      have HR5 := hid ((HR3.out.mono hb4).turn (by rw [hw5]; exact MapOnly.put MB w4 o5) hS5)
      clear c4 rl q0 q1 ql hb4 hw5 hS5 HR3 hk3 HM3
      go_wp2
      first | go_end0 | refine bodyPost_ret (results_none rfl _ _ _) rfl ?_
      exact ⟨rfl, by rw [HOV2.out]; exact HR5.out, HM5.out⟩
  · have t1 : decide (0 ≤ to) = false := decide_eq_false hto
    have HOV2 := hid (show overU u (c, d) to = putU u (c, d) 1 by unfold overU; rw [if_neg hto])
    clear hto
    go_upto_region 5 with (fail)
    have c4 := HR.out.c4
    have rl := HR.out.lt
    have q0 : w0.cell? ⟨Q, 0, none⟩ = some (.int .i64 c) := cell_of_heap hk.out
    have q1 : w0.cell? ⟨Q, 1, none⟩ = some (.int .i64 d) := cell_of_heap hk.out
    have ql := (Array.getElem?_eq_some_iff.1 hk.out).1
    refine wp_region_below_tail 5 (by kernel_rfl) (by kernel_rfl) ?_
    simp only [List.take_succ_cons, List.take_zero, List.drop_succ_cons, List.drop_zero]
    repeat (first | go_big_quiet_step (fail) | quiet_step (fail))
    refine wpQuiet_nil ?_
    intro w4 hb4
    obtain ⟨w5, o5, hup, hw5, hS5⟩ := (HR.out.map.mono hb4).update (c, d) 1
    simp only [encS] at hup
    have HM5 := hid ((HM.out.trans (MapOnly.of hb4)).trans (MapOnly.put MB w4 o5))
    rw [← hw5] at HM5
    have HR5 := hid ((HR.out.mono hb4).turn (by rw [hw5]; exact MapOnly.put MB w4 o5) hS5)
    clear c4 rl q0 q1 ql hb4 hw5 hS5 HR hk HM
    go_wp2
    first | go_end0 | refine bodyPost_ret (results_none rfl _ _ _) rfl ?_
    exact ⟨rfl, by rw [HOV2.out]; exact HR5.out, HM5.out⟩

end Go.Proofs.Ytlkoadcbolkhoaa

/- A slice from whose head numbers are taken, and to whose end they are put. -/
namespace Go.Proofs.Ytlkoadcbolkhoaa
open Go Go.RowKit Go.Proofs
attribute [local go_sem] cell_grow frozen_grow

/-- The block of a slice. -/
def qb : Value → Option Nat
  | .slice (some a) _ _ => some a.block
  | _ => none
def QueueAt (W : World) (base : Nat) (v : Value) (l : List Int) : Prop :=
  (v = .slice none 0 0 ∧ l = []) ∨ ∃ (g off cap : Nat) (cur : Array Value), v = .slice (some ⟨g, off, none⟩) l.length cap ∧ base ≤ g ∧ W.heap[g]? = some (.cells cur 3 (0, 0)) ∧ l.length ≤ cap ∧ off + cap ≤ cur.size ∧ ∀ (i : Nat) (x : Int), l[i]? = some x → cur[off + i]? = some (.int .i64 x)
section
variable {W W' : World} {base : Nat} {v : Value} {l : List Int}
theorem QueueAt.keep (h : QueueAt W base v l) (hk : ∀ (g : Nat) (o : Obj), qb v = some g → W.heap[g]? = some o → W'.heap[g]? = some o) : QueueAt W' base v l := by
  rcases h with h | ⟨g, off, cap, cur, rfl, h2, h3, h4, h5, h6⟩
  · exact .inl h
  · exact .inr ⟨g, off, cap, cur, rfl, h2, hk g _ rfl h3, h4, h5, h6⟩
theorem QueueAt.mono (h : QueueAt W base v l) (hb : Below W.heap.size W W') : QueueAt W' base v l := h.keep fun _ _ _ ho => heap_mono ho hb
theorem QueueAt.slice (h : QueueAt W base v l) : ∃ A c, v = .slice A l.length c := by
  rcases h with ⟨rfl, rfl⟩ | ⟨g, off, cap, cur, rfl, _⟩
  · exact ⟨_, _, rfl⟩
  · exact ⟨_, _, rfl⟩
theorem QueueAt.ints (h : QueueAt W base v l) : Ints W v l := by
  rcases h with ⟨rfl, rfl⟩ | ⟨g, off, cap, cur, rfl, h2, h3, h4, h5, h6⟩
  · exact .inl ⟨rfl, rfl⟩
  · exact .inr ⟨g, off, cap, rfl, h4, (Array.getElem?_eq_some_iff.1 h3).1, fun i x hx => (cell_of_heap h3).trans (h6 i x hx)⟩
theorem QueueAt.lt (h : QueueAt W base v l) {g : Nat} (hg : qb v = some g) : base ≤ g ∧ g < W.heap.size ∧ ∃ cur, W.heap[g]? = some (.cells cur 3 (0, 0)) := by
  rcases h with ⟨rfl, rfl⟩ | ⟨g', off, cap, cur, rfl, h2, h3, h4, h5, h6⟩
  · cases hg
  · have e : some g' = some g := hg
    injection e with e
    subst e
    exact ⟨h2, (Array.getElem?_eq_some_iff.1 h3).1, cur, h3⟩
/-- The head. -/
theorem QueueAt.pop {x : Int} (h : QueueAt W base v (x :: l)) : ∃ g off cap, v = .slice (some ⟨g, off, none⟩) (l.length + 1) (cap + 1) ∧ l.length ≤ cap ∧ W.cell? ⟨g, off, none⟩ = some (.int .i64 x) ∧ g < W.heap.size ∧ QueueAt W base (.slice (some ⟨g, off + 1, none⟩) l.length cap) l := by
  rcases h with ⟨_, h⟩ | ⟨g, off, cap, cur, rfl, h2, h3, h4, h5, h6⟩
  · cases h
  · rw [List.length_cons] at h4
    obtain ⟨c, rfl⟩ : ∃ c, cap = c + 1 := ⟨cap - 1, by omega⟩
    refine ⟨g, off, c, rfl, by omega, (cell_of_heap h3).trans (by have := h6 0 x rfl; simpa using this), (Array.getElem?_eq_some_iff.1 h3).1, .inr ⟨g, off + 1, c, cur, rfl, h2, h3, by omega, by omega, fun i y hy => ?_⟩⟩
    have := h6 (i + 1) y (by simpa using hy)
    rwa [show off + (i + 1) = off + 1 + i by omega] at this
theorem own_queue {n : Nat} (hl : l.length = n) (h : W.ownsRow base 3 1 v n (l.map (Value.int .i64))) : QueueAt W base v l := by
  subst hl
  rcases h.2 with ⟨rfl, h0⟩ | ⟨g, cap, cur, rfl, hb, hg, hc, _, hsz, ht⟩
  · exact .inl ⟨rfl, List.eq_nil_of_length_eq_zero h0⟩
  · refine .inr ⟨g, 0, cap, cur, rfl, hb, hg, hc, by rw [hsz]; omega, fun i x hx => ?_⟩
    have h2 := h.cells (g := g) rfl i (.int .i64 x) (by rw [List.getElem?_map, hx]; rfl)
    rw [Addr.add_lit, cell_of_heap hg] at h2
    exact h2
/-- One more at the end. -/
theorem QueueAt.push {i3 : TypeInfo} (hi : Try.prog.info? 3 = some i3) (hi0 : i3.zero = some (.int .i64 0)) (hi1 : i3.size = 1) (hi2 : i3.bytes = 8) (h : QueueAt W base v l) (hl : l.length ≤ 100000) (hb : base ≤ W.heap.size) (x : Int) (ad : Addr) (c : Nat) (hc : W.cell? ad = some (.int .i64 x)) (hsp : ad.spot = none) (ty : TypeId) :
    ∃ v' w', (Builtin.append_ #[22, 22] ty #[v, .slice (some ad) 1 c]).run Try.prog W = .ok v' w' ∧ QueueAt w' base v' (l ++ [x]) ∧ (∀ (k : Nat) (o : Obj), qb v ≠ some k → W.heap[k]? = some o → w'.heap[k]? = some o) ∧ (qb v' = qb v ∨ ∃ g, qb v' = some g ∧ W.heap.size ≤ g) ∧ W.heap.size ≤ w'.heap.size ∧ ∀ w0 : World, w0.heap.size ≤ base → Below w0.heap.size w0 W → Below w0.heap.size w0 w' := by
  obtain ⟨bk, of', sp⟩ := ad
  simp only at hsp
  subst hsp
  have hnews : ∀ j u, ([.int .i64 x] : List Value)[j]? = some u → W.cell? ((⟨bk, of', none⟩ : Addr).add j) = some u := fun j u hu => by
    have : j = 0 := by have := (List.getElem?_eq_some_iff.1 hu).1; simp at this; omega
    subst this
    rw [Addr.add_lit]
    simp at hu
    subst hu
    exact hc
  have h1 : ∀ u ∈ ([.int .i64 x] : List Value), u.oneCell' = true := fun u hu => by simp at hu; subst hu; rfl
  rcases h with ⟨rfl, rfl⟩ | ⟨g, off, cap, cur, rfl, h2, h3, h4, h5, h6⟩
  · obtain ⟨v', w', hr, ho, hg, _⟩ := run_append_own (P := Try.prog) W W.heap.size 22 ty 3 i3 (.int .i64 0) 1 8 Try.underlying22 hi hi0 hi1 hi2 rfl (by decide) (.slice none 0 0) 0 [] (World.ownsRow_nil _ _ _ _) ⟨bk, of', none⟩ 1 c [.int .i64 x] rfl hnews h1 (by unfold maxLen; omega) (by omega) (Nat.le_refl _)
    have hq : QueueAt w' W.heap.size v' [x] := own_queue rfl ho
    have hq2 : QueueAt w' base v' [x] := by
      rcases hq with hq | ⟨g', off', cap', cur', q1, q2, q3⟩
      · exact .inl hq
      · exact .inr ⟨g', off', cap', cur', q1, by omega, q3⟩
    refine ⟨v', w', hr, hq2, fun k o _ hk => ?_, .inr ?_, hg.size, fun w0 h0 hb0 => hb0.grown hg hb0.size fun k hk => by cases hk⟩
    · rw [hg.block k (Array.getElem?_eq_some_iff.1 hk).1 (by simp [Value.ownBlock])]
      exact hk
    · rcases hq with ⟨_, hq⟩ | ⟨g', off', cap', cur', rfl, q2, q3⟩
      · cases hq
      · exact ⟨g', rfl, q2⟩
  · by_cases hroom : l.length + 1 ≤ cap
    · have hlt : off + l.length < cur.size := by omega
      have hlt2 := (Array.getElem?_eq_some_iff.1 h3).1
      have hr := run_append_room_cells (P := Try.prog) W 22 ty 3 i3 Try.underlying22 hi g off l.length cap ⟨bk, of', none⟩ 1 c [.int .i64 x] (by rw [hi1]; rfl) hnews h1 hroom
        (fun j hj => by
          have : j = 0 := by simp at hj; omega
          subst this
          rw [cell_of_heap h3, hi1]
          simp [hlt])
        (fun j _ => frozen_of_heap h3)
      rw [hi1, Nat.mul_one] at hr
      have hw : W.setCells g (off + l.length) [.int .i64 x] = W.setCell ⟨g, off + l.length, none⟩ (.int .i64 x) := by first | rfl | simp [World.setCells]
      rw [hw] at hr
      refine ⟨_, _, hr, ?_, fun k o hk ho => past_set (fun e => hk (by rw [e]; rfl)) ho, .inl rfl, by simp [World.setCell], fun w0 h0 hb0 => bl_set hb0 _ (by omega)⟩
      refine .inr ⟨g, off, cap, _, by simp, h2, heap_setCell_same _ _ _ _ _ _ h3, by simp; omega, by simp; omega, fun i y hy => ?_⟩
      rw [Array.getElem?_setIfInBounds]
      by_cases hi' : i < l.length
      · rw [List.getElem?_append_left hi'] at hy
        rw [if_neg (by omega)]
        exact h6 i y hy
      · have hi2' := (List.getElem?_eq_some_iff.1 hy).1
        simp at hi2'
        obtain rfl : i = l.length := by omega
        rw [List.getElem?_append_right (Nat.le_refl _), Nat.sub_self] at hy
        simp at hy
        subst hy
        rw [if_pos rfl, if_pos hlt]
    · obtain ⟨v', w', hr, ho, hg⟩ := run_append_arg_grows (P := Try.prog) W 22 ty 3 i3 (.int .i64 0) 1 8 Try.underlying22 hi hi0 hi1 hi2 rfl (by decide) ⟨g, off, none⟩ l.length cap (l.map (Value.int .i64)) (by simp) (fun j u hu => by
          rw [Addr.add_lit, cell_of_heap h3]
          rw [List.getElem?_map] at hu
          obtain ⟨y, hy, rfl⟩ := Option.map_eq_some_iff.1 hu
          exact h6 j y hy) ⟨bk, of', none⟩ 1 c [.int .i64 x] rfl hnews (by omega) (by unfold maxLen; omega) (by omega)
      have ho2 : w'.ownsRow W.heap.size 3 1 v' (l.length + 1) ((l ++ [x]).map (Value.int .i64)) := by rw [List.map_append]; exact ho
      have hq := own_queue (l := l ++ [x]) (by simp) ho2
      have hq2 : QueueAt w' base v' (l ++ [x]) := by
        rcases hq with hq | ⟨g', off', cap', cur', q1, q2, q3⟩
        · exact .inl hq
        · exact .inr ⟨g', off', cap', cur', q1, by omega, q3⟩
      refine ⟨v', w', hr, hq2, fun k o _ hk => ?_, .inr ?_, hg.size, fun w0 h0 hb0 => hb0.grown hg hb0.size fun k hk => by cases hk⟩
      · rw [hg.block k (Array.getElem?_eq_some_iff.1 hk).1 (by simp)]
        exact hk
      · rcases hq with ⟨_, hq⟩ | ⟨g', off', cap', cur', rfl, q2, q3⟩
        · simp at hq
        · exact ⟨g', rfl, q2⟩
end

end Go.Proofs.Ytlkoadcbolkhoaa

/- A list is cloned. -/
namespace Go.Proofs.Ytlkoadcbolkhoaa
open Go Go.RowKit Go.Proofs
attribute [local go_sem] cell_grow frozen_grow

theorem info3 : (Try.prog.info? 3).map (fun i => (i.zero, i.size, i.bytes)) = some (some (.int .i64 0), 1, 8) := by kernel_rfl
set_option maxRecDepth 100000 in
set_option maxHeartbeats 4000000 in
theorem clone_any (l : List Int) (s : Value) (w : World) (hl : l.length ≤ 1000000) (hs : Ints w s l) :
    Calls Try.prog 108 #[s] w fun e w' => (∃ v, e = .returned v ∧ QueueAt w' w.heap.size v l) ∧ Below w.heap.size w w' := by
  obtain ⟨i3, hi, hi0, hi1, hi2⟩ := info_parts info3
  have q22 : ∀ (w : World) (a : Option Addr) (n c n' c' : Nat), (binOp .eql 22 (.slice a n c) (.slice none n' c')).run Try.prog w = .ok (.bool a.isNone) w := fun w a n c n' c' => Lib.run_eql_slice_nil w _ _ a n c n' c' Try.underlying22
  rcases hs with ⟨rfl, rfl⟩ | ⟨b, off, c, rfl, hc, hb, hcell⟩
  · go_enter Try.func108, Try.ntmps108
    go_wp2
    go_ret
    exact ⟨⟨_, rfl, .inl ⟨rfl, rfl⟩⟩, bl_refl _⟩
  · have h0 := RowAt.new (base := w.heap.size) (W := w) (t := 3) (cs := #[]) (Nat.le_refl _)
    have hown : (w.alloc (.cells #[] 3)).ownsRow w.heap.size 3 1 (.slice (some ⟨w.heap.size, 0, none⟩) 0 0) 0 [] := h0.own (by decide)
    have hb0 := bl_alloc (bl_refl w) (.cells #[] 3)
    have HB0 := hid hb0
    have hnews : ∀ j u, (l.map (Value.int .i64))[j]? = some u → (w.alloc (.cells #[] 3)).cell? ((⟨b, off, none⟩ : Addr).add j) = some u := fun j u hu => by
      rw [List.getElem?_map] at hu
      obtain ⟨y, hy, rfl⟩ := Option.map_eq_some_iff.1 hu
      rw [Addr.add_lit]
      exact cell_mono (hcell j y hy) hb0
    have h1 : ∀ u ∈ l.map (Value.int .i64), u.oneCell' = true := fun u hu => by
      rw [List.mem_map] at hu
      obtain ⟨y, _, rfl⟩ := hu
      rfl
    have HN := hid hnews
    have H1 := hid h1
    clear h0 hb0 hcell hnews h1
    go_enter Try.func108, Try.ntmps108
    go_wp2_with (at_builtin; refine wpList_append_own _ rfl _ _ 22 rfl w.heap.size 3 i3 (.int .i64 0) 1 8 Try.underlying22 hi hi0 hi1 hi2 rfl (by decide) (.slice (some ⟨w.heap.size, 0, none⟩) 0 0) 0 [] rfl hown ⟨b, off, none⟩ l.length c (l.map (Value.int .i64)) rfl (by simp) HN.out H1.out (by unfold maxLen; omega) (by omega) (by simp) ?_; intro v' w5 hown' hgrow5 hnil5; have hB5 := hid (bl_grown HB0.out hown (Nat.le_refl _) hgrow5); have HQ := hid (own_queue (n := 0 + l.length) (by simp) hown'); clear hown' hgrow5 hnil5 hown)
    go_ret
    exact ⟨⟨_, rfl, HQ.out⟩, hB5.out⟩

end Go.Proofs.Ytlkoadcbolkhoaa

/- A row of sides. -/
namespace Go.Proofs.Ytlkoadcbolkhoaa
open Go Go.RowKit Go.Proofs

def byC (l : List Side) : List Value := l.flatMap fun s => [.int .i64 s.1, .int .i64 s.2]
theorem byC_cons (s : Side) (l : List Side) : byC (s :: l) = .int .i64 s.1 :: .int .i64 s.2 :: byC l := rfl
theorem byC_len (l : List Side) : (byC l).length = l.length * 2 := by
  induction l with
  | nil => rfl
  | cons s l ih => rw [byC_cons, List.length_cons, List.length_cons, ih, List.length_cons]; omega
theorem byC_at {l : List Side} {i : Nat} {s : Side} (h : l[i]? = some s) : (byC l)[i * 2]? = some (.int .i64 s.1) ∧ (byC l)[i * 2 + 1]? = some (.int .i64 s.2) := by
  induction l generalizing i with
  | nil => simp at h
  | cons x l ih =>
    cases i with
    | zero =>
      simp at h
      subst h
      exact ⟨rfl, rfl⟩
    | succ i =>
      rw [List.getElem?_cons_succ] at h
      obtain ⟨h1, h2⟩ := ih h
      rw [byC_cons, show (i + 1) * 2 = i * 2 + 1 + 1 by omega]
      exact ⟨h1, h2⟩
theorem byC_set {l : List Side} {i : Nat} (a b : Int) (h : i < l.length) : ((byC l).set (i * 2) (.int .i64 a)).set (i * 2 + 1) (.int .i64 b) = byC (l.set i (a, b)) := by
  induction l generalizing i with
  | nil => simp at h
  | cons x l ih =>
    cases i with
    | zero => rfl
    | succ i =>
      rw [List.set_cons_succ, byC_cons, byC_cons, show (i + 1) * 2 = i * 2 + 1 + 1 by omega, List.set_cons_succ, List.set_cons_succ, List.set_cons_succ, List.set_cons_succ, ih (by simpa using h)]
/-- A row of sides in a block. -/
def SidesAt (W : World) (G : Nat) (l : List Side) : Prop := W.heap[G]? = some (.cells (byC l).toArray 104 (0, 0))
section
variable {W W' : World} {G : Nat} {l : List Side}
theorem SidesAt.mono (h : SidesAt W G l) (hb : Below W.heap.size W W') : SidesAt W' G l := heap_mono h hb
theorem SidesAt.lt (h : SidesAt W G l) : G < W.heap.size := (Array.getElem?_eq_some_iff.1 h).1
theorem SidesAt.c0 (h : SidesAt W G l) {i : Nat} {s : Side} (hs : l[i]? = some s) : W.cell? ⟨G, i * 2, none⟩ = some (.int .i64 s.1) := (cell_of_heap h).trans (by simpa using (byC_at hs).1)
theorem SidesAt.c1 (h : SidesAt W G l) {i : Nat} {s : Side} (hs : l[i]? = some s) : W.cell? ⟨G, i * 2 + 1, none⟩ = some (.int .i64 s.2) := (cell_of_heap h).trans (by simpa using (byC_at hs).2)
theorem SidesAt.frozen (h : SidesAt W G l) (o : Nat) : W.frozen? ⟨G, o, none⟩ = false := frozen_of_heap h
theorem SidesAt.set (h : SidesAt W G l) {i : Nat} (hi : i < l.length) (a b : Int) : SidesAt ((W.setCell ⟨G, i * 2, none⟩ (.int .i64 a)).setCell ⟨G, i * 2 + 1, none⟩ (.int .i64 b)) G (l.set i (a, b)) := by
  unfold SidesAt
  have h1 := heap_setCell_same W G (i * 2) _ _ (.int .i64 a) h
  rw [heap_setCell_same _ _ _ _ _ _ h1, ← byC_set a b hi]
  congr 2
  simp
theorem SidesAt.past (h : SidesAt W G l) {B o : Nat} {u : Value} (hne : G ≠ B) : SidesAt (W.setCell ⟨B, o, none⟩ u) G l := past_set hne h
end
theorem made_sides (n : Nat) : madeCells (Value.agg #[.int .i64 0, .int .i64 0]).cells (n * 2) = (byC (List.replicate n (0, 0))).toArray := by
  apply Array.ext_getElem?
  intro i
  by_cases hi : i < n * 2
  · have hh : (List.replicate n ((0 : Int), (0 : Int)))[i / 2]? = some (0, 0) := by rw [List.getElem?_replicate, if_pos (by omega)]
    obtain ⟨h1, h2⟩ := byC_at hh
    have hm : (madeCells (Value.agg #[.int .i64 0, .int .i64 0]).cells (n * 2))[i]? = some (.int .i64 0) := by
      have hs : i < (madeCells (Value.agg #[.int .i64 0, .int .i64 0]).cells (n * 2)).size := by rw [size_madeCells]; exact hi
      rw [Array.getElem?_eq_getElem hs]
      simp only [madeCells, Array.getElem_map, Array.getElem_range]
      have h0 : (Value.agg #[.int .i64 0, .int .i64 0]).cells = #[.int .i64 0, .int .i64 0] := rfl
      rw [h0]
      rcases (show i % 2 = 0 ∨ i % 2 = 1 by omega) with e | e
      · show some (#[Value.int .i64 0, .int .i64 0][i % 2]!) = _
        rw [e]; rfl
      · show some (#[Value.int .i64 0, .int .i64 0][i % 2]!) = _
        rw [e]; rfl
    rw [hm]
    rcases (show i = i / 2 * 2 ∨ i = i / 2 * 2 + 1 by omega) with e | e
    · rw [e]; simpa using h1.symm
    · rw [e]; simpa using h2.symm
  · rw [Array.getElem?_eq_none (by rw [size_madeCells]; omega), Array.getElem?_eq_none (by simp [byC_len]; omega)]
theorem info104 : (Try.prog.info? 104).map (fun i => (i.zero, i.size, i.bytes)) = some (some (.agg #[.int .i64 0, .int .i64 0]), 2, 16) := by kernel_rfl
theorem ne_type {W : World} {a b : Nat} {cs cs' : Array Value} {t t' : TypeId} (ha : W.heap[a]? = some (.cells cs t (0, 0))) (hb : W.heap[b]? = some (.cells cs' t' (0, 0))) (ht : t ≠ t') : a ≠ b := by
  rintro rfl
  rw [ha] at hb
  injection hb with hb
  injection hb with _ hb
  exact ht hb
theorem rep_side {n k : Nat} (hk : k < n) : (List.replicate k ((-1 : Int), (-1 : Int)) ++ List.replicate (n - k) (0, 0)).set k (-1, -1) = List.replicate (k + 1) (-1, -1) ++ List.replicate (n - (k + 1)) (0, 0) := by
  obtain ⟨j, hj⟩ : ∃ j, n - k = j + 1 := ⟨n - k - 1, by omega⟩
  rw [hj, show n - (k + 1) = j by omega, List.replicate_succ, List.set_append_right _ _ (by simp)]
  simp [List.replicate_succ']

end Go.Proofs.Ytlkoadcbolkhoaa
