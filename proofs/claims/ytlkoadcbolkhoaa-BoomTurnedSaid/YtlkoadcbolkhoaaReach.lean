/- From where each cell is reached: the walk. -/
import Derived.Laws.EntriesVeiled
import Derived.Deep.CutRange
import Derived.Sort.CutIn
import Derived.Test.YtlkoadcbolkhoaaMarksIn
import Derived.Test.YtlkoadcbolkhoaaState
set_option linter.all false
namespace Go.Proofs.Ytlkoadcbolkhoaa
open Go Go.RowKit Go.Proofs
attribute [local go_sem] Oper.semAt_some cell_grow frozen_grow

/-- How the function is left. -/
theorem reach_end {a : Act} {w W : World} {D : List Deferred} {G n : Nat} {x y : Int} {o : Bool} {cur : List Side} {T : List Side × Side × Bool} (hT : T = (cur, (x, y), o)) (hd : a.defers = D) (hm : MarksOk w.heap.size W D)
    (h2 : a.tmps[2]?.getD undef = .pointer (some ⟨w.heap.size, 0, none⟩)) (h3 : a.tmps[3]?.getD undef = .pointer (some ⟨w.heap.size + 1, 0, none⟩)) (h4 : a.tmps[4]?.getD undef = .pointer (some ⟨w.heap.size + 1 + 1, 0, none⟩))
    (r0 : W.heap[w.heap.size]? = some (.cells #[.slice (some ⟨G, 0, none⟩) n n] 101 (0, 0))) (r1 : W.heap[w.heap.size + 1]? = some (.cells #[.int .i64 x, .int .i64 y] 104 (0, 0))) (r2 : W.heap[w.heap.size + 1 + 1]? = some (.cells #[.bool o] 4 (0, 0)))
    (hs : SidesAt W G cur) (hb : Below w.heap.size w W) :
    bodyPostM Fence.wide 3 Try.prog Try.f99 (fun e w' => (∃ G, e = .returned (.tuple #[.slice (some ⟨G, 0, none⟩) n n, .agg #[.int .i64 T.2.1.1, .int .i64 T.2.1.2], .bool T.2.2]) ∧ SidesAt w' G T.1) ∧ Below w.heap.size w w') .ret a W := by
  subst hT
  refine leave_many (v := .tuple #[.slice (some ⟨G, 0, none⟩) n n, .agg #[.int .i64 x, .int .i64 y], .bool o]) (base := w.heap.size) D hd hm (.refl W) fun W' hW' => ?_
  have c0 := cell_of_heap (i := 0) (hW'.cells r0)
  have c1 := cell_of_heap (i := 0) (hW'.cells r1)
  have c2 := cell_of_heap (i := 1) (hW'.cells r1)
  have c3 := cell_of_heap (i := 0) (hW'.cells r2)
  refine ⟨?_, ⟨G, rfl, hW'.cells hs⟩, hW'.bl hb (Nat.le_refl _)⟩
  simp [results, Try.results99, go_sem, h2, h3, h4, c0, c1, c2, c3]

set_option maxRecDepth 100000 in
set_option maxHeartbeats 8000000 in
theorem reach_any {RP MB : Nat} {wd hg0 : Int} {sw sk : Value} {want keep : List Int} {m : Int} {u0 : Used} (n : Nat) (w : World) (hR : RaftAt w RP MB wd hg0 sw sk want keep m u0) (h1 : 1 ≤ wd ∧ wd ≤ 8) (h2 : 1 ≤ hg0 ∧ hg0 ≤ 8) (hn : wd * hg0 = (n : Int)) (hwl : want.length ≤ 64) (hwr : ∀ c ∈ want, 0 ≤ c ∧ c < (n : Int)) (hkl : keep.length ≤ 64) (hun : want.length + unr (by0 n want) ≤ n) :
    Calls Try.prog 99 #[.pointer (some ⟨RP, 0, none⟩)] w fun e w' => (∃ G, e = .returned (.tuple #[.slice (some ⟨G, 0, none⟩) n n, .agg #[.int .i64 (reachU u0 wd hg0 want keep).2.1.1, .int .i64 (reachU u0 wd hg0 want keep).2.1.2], .bool (reachU u0 wd hg0 want keep).2.2]) ∧ SidesAt w' G (reachU u0 wd hg0 want keep).1) ∧ Below w.heap.size w w' := by
  obtain ⟨i104, hi, hj0, hj1, hj2⟩ := info_parts info104
  obtain ⟨i3, hi3, hi30, hi31, hi32⟩ := info_parts info3
  have hn1 := Int.mul_le_mul h1.2 h2.2 (by omega) (by omega)
  have hn2 := Int.mul_le_mul h1.1 h2.1 (by omega) (by omega)
  rw [hn] at hn1 hn2
  have HR := hid hR
  have HN := hid hn
  have HN1 := hid hn1
  have HN2 := hid hn2
  have HWL := hid hwl
  have HWR := hid hwr
  have HKL := hid hkl
  have H1 := hid h1
  have HUN := hid hun
  clear hun
  have H2 := hid h2
  have hmul : IntKind.i64.wrap (wd * hg0) = (n : Int) := by rw [hn]; exact IntWalk.i64_in _ (by omega)
  have hwn : IntKind.i64.wrap (n : Int) = n := IntWalk.i64_in _ (by omega)
  have b0 := bl_alloc (bl_refl w) (.cells #[.slice none 0 0] 101)
  have b1 := bl_alloc (bl_refl (w.alloc (.cells #[.slice none 0 0] 101))) (.cells #[.int .i64 0, .int .i64 0] 104)
  have b2 := bl_alloc (bl_refl ((w.alloc (.cells #[.slice none 0 0] 101)).alloc (.cells #[.int .i64 0, .int .i64 0] 104))) (.cells #[.bool false] 4)
  have k0 := World.alloc_heap_new w (.cells #[.slice none 0 0] 101)
  have k1 := World.alloc_heap_new (w.alloc (.cells #[.slice none 0 0] 101)) (.cells #[.int .i64 0, .int .i64 0] 104)
  have k2 := World.alloc_heap_new ((w.alloc (.cells #[.slice none 0 0] 101)).alloc (.cells #[.int .i64 0, .int .i64 0] 104)) (.cells #[.bool false] 4)
  simp only [World.size_alloc] at k1 k2
  have K0 := hid (heap_mono (heap_mono k0 b1) b2)
  have K1 := hid (heap_mono k1 b2)
  have K2 := hid k2
  have HB0 := hid (bl_trans (bl_trans b0 b1) b2)
  have hz : (((w.alloc (.cells #[.slice none 0 0] 101)).alloc (.cells #[.int .i64 0, .int .i64 0] 104)).alloc (.cells #[.bool false] 4)).heap.size = w.heap.size + 3 := by simp
  clear hR b0 b1 b2 k0 k1 k2
  refine calls_marks Try.func99 rfl ?_
  simp only [Try.ntmps99, List.size_toArray, List.length_cons, List.length_nil, Nat.reduceAdd, Nat.reduceSub, Array.replicate_succ, Array.replicate_zero, List.push_toArray, List.append_toArray, List.nil_append, List.cons_append]
  go_wp2_with fail
  obtain ⟨w0, hw0⟩ : ∃ w0, ((w.alloc (.cells #[.slice none 0 0] 101)).alloc (.cells #[.int .i64 0, .int .i64 0] 104)).alloc (.cells #[.bool false] 4) = w0 := ⟨_, rfl⟩
  rw [hw0] at K0 K1 K2 HB0 hz ⊢
  clear hw0
  apply wp_scope_straight
  apply wp_seq_k
  intro K0' hK0'
  have c0 := (HR.out.mono HB0.out).c0
  have c1 := (HR.out.mono HB0.out).c1
  refine wp_region_valsG w0 (bl_refl _) [14, 15, 16, 17, 18, 19, 20, 21, 22, 23, 24, 25, 5] (fun seen u W => (seen 0 = true → u 14 = .pointer (some ⟨RP, 0, none⟩)) ∧
    (seen 1 = true → u 15 = .pointer (some ⟨RP, 0, none⟩)) ∧
    (seen 2 = true → u 16 = .pointer (some ⟨RP, 0, none⟩)) ∧
    (seen 3 = true → u 17 = .pointer (some ⟨RP, 0, none⟩)) ∧
    (seen 4 = true → u 18 = .int .i64 (wd)) ∧
    (seen 5 = true → u 19 = .pointer (some ⟨RP, 0, none⟩)) ∧
    (seen 6 = true → u 20 = .pointer (some ⟨RP, 0, none⟩)) ∧
    (seen 7 = true → u 21 = .pointer (some ⟨RP, 0, none⟩)) ∧
    (seen 8 = true → u 22 = .pointer (some ⟨RP, 1, none⟩)) ∧
    (seen 9 = true → u 23 = .int .i64 (hg0)) ∧
    (seen 10 = true → u 24 = .int .i64 ((n : Int))) ∧
    (seen 11 = true → MadeAt w0.heap.size W (u 25) n) ∧
    (seen 12 = true → BoxAt w0.heap.size W (u 5) 101 (if seen 13 = true then #[u 25] else #[.slice none 0 0])) ∧
    (seen 13 = true → True) ∧
    (seen 13 = true → seen 11 = true) ∧
    (seen 13 = true → seen 12 = true))
    (by kernel_rfl) (by kernel_rfl) (by kernel_rfl) (by simp) (by simp) ?_ ?_
  · intro i o ho seen a' w9 hb9 ⟨F0, F1, F2, F3, F4, F5, F6, F7, F8, F9, F10, F11, F12, F13, F14, F15⟩ hv hsi hdep
    have r0 : w9.cell? ⟨RP, 0, none⟩ = some (.int .i64 wd) := cell_mono c0 hb9
    have r1 : w9.cell? ⟨RP, 1, none⟩ = some (.int .i64 hg0) := cell_mono c1 hb9
    have rl : RP < w9.heap.size := World.block_lt_of_cell? _ _ r0
    rcases i with _ | _ | _ | _ | _ | _ | _ | _ | _ | _ | _ | _ | _ | _ | i <;> simp only [List.getElem?_cons_zero, List.getElem?_cons_succ, List.getElem?_nil, Option.some.injEq, reduceCtorEq] at ho <;> subst ho
    · refine if_free rfl ?_
      have x0 := val_at (hv 0 (by simp))
      simp [valsOf] at x0
      refine wp_value (.pointer (some ⟨RP, 0, none⟩)) (w' := w9) (by simp [execOp, x0, go_sem, r0, r1, rl, hmul, hwn]) ⟨_, rfl, hb9, ?_⟩
      exact ⟨by simp, by simpa using F1, by simpa using F2, by simpa using F3, by simpa using F4, by simpa using F5, by simpa using F6, by simpa using F7, by simpa using F8, by simpa using F9, by simpa using F10, by simpa using F11, by simpa using F12, by simpa using F13, by simpa using F14, by simpa using F15⟩
    · refine if_free rfl ?_
      have d0 := hdep ⟨0, .data⟩ (by simp) rfl
      have e0 := val_at (F0 d0)
      refine wp_value (.pointer (some ⟨RP, 0, none⟩)) (w' := w9) (by simp [execOp, e0, go_sem, r0, r1, rl, hmul, hwn]) ⟨_, rfl, hb9, ?_⟩
      exact ⟨by simpa using F0, by simp, by simpa using F2, by simpa using F3, by simpa using F4, by simpa using F5, by simpa using F6, by simpa using F7, by simpa using F8, by simpa using F9, by simpa using F10, by simpa using F11, by simpa using F12, by simpa using F13, by simpa using F14, by simpa using F15⟩
    · refine if_free rfl ?_
      have d1 := hdep ⟨1, .data⟩ (by simp) rfl
      have e1 := val_at (F1 d1)
      refine wp_value (.pointer (some ⟨RP, 0, none⟩)) (w' := w9) (by simp [execOp, e1, go_sem, r0, r1, rl, hmul, hwn]) ⟨_, rfl, hb9, ?_⟩
      exact ⟨by simpa using F0, by simpa using F1, by simp, by simpa using F3, by simpa using F4, by simpa using F5, by simpa using F6, by simpa using F7, by simpa using F8, by simpa using F9, by simpa using F10, by simpa using F11, by simpa using F12, by simpa using F13, by simpa using F14, by simpa using F15⟩
    · refine if_free rfl ?_
      have d2 := hdep ⟨2, .data⟩ (by simp) rfl
      have e2 := val_at (F2 d2)
      refine wp_value (.pointer (some ⟨RP, 0, none⟩)) (w' := w9) (by simp [execOp, e2, go_sem, r0, r1, rl, hmul, hwn]) ⟨_, rfl, hb9, ?_⟩
      exact ⟨by simpa using F0, by simpa using F1, by simpa using F2, by simp, by simpa using F4, by simpa using F5, by simpa using F6, by simpa using F7, by simpa using F8, by simpa using F9, by simpa using F10, by simpa using F11, by simpa using F12, by simpa using F13, by simpa using F14, by simpa using F15⟩
    · refine if_free rfl ?_
      have d3 := hdep ⟨3, .data⟩ (by simp) rfl
      have e3 := val_at (F3 d3)
      refine wp_value (.int .i64 (wd)) (w' := w9) (by simp [execOp, e3, go_sem, r0, r1, rl, hmul, hwn]) ⟨_, rfl, hb9, ?_⟩
      exact ⟨by simpa using F0, by simpa using F1, by simpa using F2, by simpa using F3, by simp, by simpa using F5, by simpa using F6, by simpa using F7, by simpa using F8, by simpa using F9, by simpa using F10, by simpa using F11, by simpa using F12, by simpa using F13, by simpa using F14, by simpa using F15⟩
    · refine if_free rfl ?_
      have x0 := val_at (hv 0 (by simp))
      simp [valsOf] at x0
      refine wp_value (.pointer (some ⟨RP, 0, none⟩)) (w' := w9) (by simp [execOp, x0, go_sem, r0, r1, rl, hmul, hwn]) ⟨_, rfl, hb9, ?_⟩
      exact ⟨by simpa using F0, by simpa using F1, by simpa using F2, by simpa using F3, by simpa using F4, by simp, by simpa using F6, by simpa using F7, by simpa using F8, by simpa using F9, by simpa using F10, by simpa using F11, by simpa using F12, by simpa using F13, by simpa using F14, by simpa using F15⟩
    · refine if_free rfl ?_
      have d5 := hdep ⟨5, .data⟩ (by simp) rfl
      have e5 := val_at (F5 d5)
      refine wp_value (.pointer (some ⟨RP, 0, none⟩)) (w' := w9) (by simp [execOp, e5, go_sem, r0, r1, rl, hmul, hwn]) ⟨_, rfl, hb9, ?_⟩
      exact ⟨by simpa using F0, by simpa using F1, by simpa using F2, by simpa using F3, by simpa using F4, by simpa using F5, by simp, by simpa using F7, by simpa using F8, by simpa using F9, by simpa using F10, by simpa using F11, by simpa using F12, by simpa using F13, by simpa using F14, by simpa using F15⟩
    · refine if_free rfl ?_
      have d6 := hdep ⟨6, .data⟩ (by simp) rfl
      have e6 := val_at (F6 d6)
      refine wp_value (.pointer (some ⟨RP, 0, none⟩)) (w' := w9) (by simp [execOp, e6, go_sem, r0, r1, rl, hmul, hwn]) ⟨_, rfl, hb9, ?_⟩
      exact ⟨by simpa using F0, by simpa using F1, by simpa using F2, by simpa using F3, by simpa using F4, by simpa using F5, by simpa using F6, by simp, by simpa using F8, by simpa using F9, by simpa using F10, by simpa using F11, by simpa using F12, by simpa using F13, by simpa using F14, by simpa using F15⟩
    · refine if_free rfl ?_
      have d7 := hdep ⟨7, .data⟩ (by simp) rfl
      have e7 := val_at (F7 d7)
      refine wp_value (.pointer (some ⟨RP, 1, none⟩)) (w' := w9) (by simp [execOp, e7, go_sem, r0, r1, rl, hmul, hwn]) ⟨_, rfl, hb9, ?_⟩
      exact ⟨by simpa using F0, by simpa using F1, by simpa using F2, by simpa using F3, by simpa using F4, by simpa using F5, by simpa using F6, by simpa using F7, by simp, by simpa using F9, by simpa using F10, by simpa using F11, by simpa using F12, by simpa using F13, by simpa using F14, by simpa using F15⟩
    · refine if_free rfl ?_
      have d8 := hdep ⟨8, .data⟩ (by simp) rfl
      have e8 := val_at (F8 d8)
      refine wp_value (.int .i64 (hg0)) (w' := w9) (by simp [execOp, e8, go_sem, r0, r1, rl, hmul, hwn]) ⟨_, rfl, hb9, ?_⟩
      exact ⟨by simpa using F0, by simpa using F1, by simpa using F2, by simpa using F3, by simpa using F4, by simpa using F5, by simpa using F6, by simpa using F7, by simpa using F8, by simp, by simpa using F10, by simpa using F11, by simpa using F12, by simpa using F13, by simpa using F14, by simpa using F15⟩
    · refine if_free rfl ?_
      have d4 := hdep ⟨4, .data⟩ (by simp) rfl
      have e4 := val_at (F4 d4)
      have d9 := hdep ⟨9, .data⟩ (by simp) rfl
      have e9 := val_at (F9 d9)
      refine wp_value (.int .i64 ((n : Int))) (w' := w9) (by simp [execOp, e4, e9, go_sem, r0, r1, rl, hmul, hwn]) ⟨_, rfl, hb9, ?_⟩
      exact ⟨by simpa using F0, by simpa using F1, by simpa using F2, by simpa using F3, by simpa using F4, by simpa using F5, by simpa using F6, by simpa using F7, by simpa using F8, by simpa using F9, by simp, by simpa using F11, by simpa using F12, by simpa using F13, by simpa using F14, by simpa using F15⟩
    · refine if_free rfl ?_
      have d10 := hdep ⟨10, .data⟩ (by simp) rfl
      have e10 := val_at (F10 d10)
      have hmk := run_makeSlice w9 101 104 i104 (.agg #[.int .i64 0, .int .i64 0]) Try.underlying101 hi hj0 .i64 .i64 (n : Int) (n : Int) (by omega) (by omega) (by rw [hj1]; omega) (by rw [hj2]; omega) (by omega)
      rw [Int.toNat_natCast, hj1, made_sides] at hmk
      have hg : Below w9.heap.size w9 (w9.alloc (.cells (byC (List.replicate n (0, 0))).toArray 104)) := bl_alloc (bl_refl _) _
      have hs13 : seen 13 = false := by { cases hq : seen 13 with | false => rfl | true => exact absurd (F14 hq) (by rw [hsi]; decide) }
      have hn : MadeAt w0.heap.size (w9.alloc (.cells (byC (List.replicate n (0, 0))).toArray 104)) (.slice (some ⟨w9.heap.size, 0, none⟩) n n) n := ⟨_, rfl, by have := hb9.size; omega, World.alloc_heap_new _ _⟩
      refine wp_value (.slice (some ⟨w9.heap.size, 0, none⟩) n n) (w' := w9.alloc (.cells (byC (List.replicate n (0, 0))).toArray 104)) (by simp [execOp, e10, go_sem, hmk]) ⟨_, rfl, bl_trans hb9 hg, ?_⟩
      exact ⟨by simpa using F0, by simpa using F1, by simpa using F2, by simpa using F3, by simpa using F4, by simpa using F5, by simpa using F6, by simpa using F7, by simpa using F8, by simpa using F9, by simpa using F10, by simpa using hn, by simpa [hs13] using fun h => by have q := (F12 h).mono hg; simpa [hs13] using q, by simpa using F13, by simp, by simpa using F15⟩
    · refine if_free rfl ?_
      have hg : Below w9.heap.size w9 (w9.alloc (.cells #[.slice none 0 0] 101)) := bl_alloc (bl_refl _) _
      have hs13 : seen 13 = false := by { cases hq : seen 13 with | false => rfl | true => exact absurd (F15 hq) (by rw [hsi]; decide) }
      refine wp_value (.pointer (some ⟨w9.heap.size, 0, none⟩)) (w' := w9.alloc (.cells #[.slice none 0 0] 101)) (by simp [execOp, go_sem]) ⟨_, rfl, bl_trans hb9 hg, ?_⟩
      exact ⟨by simpa using F0, by simpa using F1, by simpa using F2, by simpa using F3, by simpa using F4, by simpa using F5, by simpa using F6, by simpa using F7, by simpa using F8, by simpa using F9, by simpa using F10, by simpa using fun h => (F11 h).mono hg, by simpa [hs13] using BoxAt.new (by have := hb9.size; omega), by simpa using F13, by simpa using F14, by simp⟩
    · refine if_free rfl ?_
      have d12 := hdep ⟨12, .data⟩ (by simp) rfl
      have d11 := hdep ⟨11, .data⟩ (by simp) rfl
      obtain ⟨g, hg25, hgb, hgh⟩ := F11 d11
      have e25 := val_at hg25
      have e1 := F12 d12
      rw [hsi] at e1
      simp only [Bool.false_eq_true, if_false] at e1
      obtain ⟨Bx, hB, hB2, hB3⟩ := e1
      have ep := val_at hB
      have cc0 := cell_of_heap (i := 0) hB3
      have f0 := fun i => frozen_of_heap (i := i) hB3
      have hBl := (Array.getElem?_eq_some_iff.1 hB3).1
      have hx5 : BoxAt w0.heap.size (w9.setCell ⟨Bx, 0, none⟩ (.slice (some ⟨g, 0, none⟩) n n)) (valsOf a' 5) 101 #[valsOf a' 25] := ⟨Bx, hB, hB2, by rw [heap_setCell_same _ _ _ _ _ _ hB3, hg25]; rfl⟩
      have hx25 : MadeAt w0.heap.size (w9.setCell ⟨Bx, 0, none⟩ (.slice (some ⟨g, 0, none⟩) n n)) (valsOf a' 25) n := ⟨g, hg25, hgb, past_set (ne_type hgh hB3 (by decide)) hgh⟩
      refine wp_effect (w' := w9.setCell ⟨Bx, 0, none⟩ (.slice (some ⟨g, 0, none⟩) n n)) (by simp [execOp, ep, e25, go_sem, cc0, f0, hBl]) ⟨_, rfl, bl_set hb9 _ hB2, ?_⟩
      exact ⟨by simpa using F0, by simpa using F1, by simpa using F2, by simpa using F3, by simpa using F4, by simpa using F5, by simpa using F6, by simpa using F7, by simpa using F8, by simpa using F9, by simpa using F10, by simpa using fun _ => hx25, by simpa using fun _ => hx5, by simp, by simpa using d11, by simpa using d12⟩
  intro u w5 hb5 seen hall ⟨F0, F1, F2, F3, F4, F5, F6, F7, F8, F9, F10, F11, F12, F13, F14, F15⟩
  replace F0 := F0 (hall 0 (by decide))
  replace F1 := F1 (hall 1 (by decide))
  replace F2 := F2 (hall 2 (by decide))
  replace F3 := F3 (hall 3 (by decide))
  replace F4 := F4 (hall 4 (by decide))
  replace F5 := F5 (hall 5 (by decide))
  replace F6 := F6 (hall 6 (by decide))
  replace F7 := F7 (hall 7 (by decide))
  replace F8 := F8 (hall 8 (by decide))
  replace F9 := F9 (hall 9 (by decide))
  replace F10 := F10 (hall 10 (by decide))
  replace F11 := F11 (hall 11 (by decide))
  replace F12 := F12 (hall 12 (by decide))
  replace F13 := F13 (hall 13 (by decide))
  obtain ⟨G, hG, hGb, hGs⟩ := F11
  have hs13 := hall 13 (by decide)
  rw [hs13, if_pos rfl] at F12
  obtain ⟨YB, hY, hYb, hYs⟩ := F12
  rw [hG] at hYs
  have HST := hid (show ReachSt w G YB n w5 from ⟨heap_mono K0.out hb5, heap_mono K1.out hb5, heap_mono K2.out hb5, hYs, bl_trans HB0.out hb5, by omega, by omega⟩)
  have HSD := hid hGs
  simp only [setAll, hG, hY, List.setIfInBounds_toArray, List.set_cons_zero, List.set_cons_succ]
  clear F0 F1 F2 F3 F4 F5 F6 F7 F8 F9 F10 F13 F14 F15 hall hs13 seen hG hY hYs hGs K0 K1 K2 c0 c1
  have HB5 := hid (bl_trans HB0.out hb5)
  clear HB0 hb5
  go_step
  go_step
  have y0 : w5.cell? ⟨YB, 0, none⟩ = some (.slice (some ⟨G, 0, none⟩) n n) := cell_of_heap HST.out.yb
  have yl := (Array.getElem?_eq_some_iff.1 HST.out.yb).1
  clear hmul hwn
  go_wp2
  clear y0 yl
  go_loopw [28] (fun p wr => ∃ k : Nat, k ≤ n ∧ p = .int .i64 (k : Int) ∧ ReachSt w G YB n wr ∧ SidesAt wr G (List.replicate k (-1, -1) ++ List.replicate (n - k) (0, 0))) (fun p _ => n - (intOf p).toNat)
  case atStart => exact ⟨0, by omega, rfl, HST.out, by simpa using HSD.out⟩
  case round =>
  obtain ⟨k, hk, rfl, hst, hsd⟩ := hrel
  clear HST HSD HB5
  have HST := hid hst
  have HSD := hid hsd
  have hGY : G ≠ YB := ne_type hsd hst.yb (by decide)
  have hGB := hst.hg
  have y0 : wr.cell? ⟨YB, 0, none⟩ = some (.slice (some ⟨G, 0, none⟩) n n) := cell_of_heap hst.yb
  have yl := (Array.getElem?_eq_some_iff.1 hst.yb).1
  by_cases hlt : k < n
  · have hl0 : k < (List.replicate k ((-1 : Int), (-1 : Int)) ++ List.replicate (n - k) (0, 0)).length := by simp; omega
    obtain ⟨s, hs⟩ := get_at hl0
    have q0 := hsd.c0 hs
    have q1 := hsd.c1 hs
    have fz := hsd.frozen
    have gl := hsd.lt
    have NST := hid ((hst.set (B := G) (o := k * 2) (by omega) hGY (.int .i64 (-1))).set (B := G) (o := k * 2 + 1) (by omega) hGY (.int .i64 (-1)))
    have NSD := hid (by have h := hsd.set hl0 (-1) (-1); rw [rep_side hlt] at h; exact h)
    clear hst hsd hs hl0 HST HSD
    go_wp2
    go_roundw
    case rel => exact ⟨k + 1, by omega, by go_num, NST.out, NSD.out⟩
    case measure => simp [intOf]; omega
  · obtain rfl : n = k := by omega
    clear hst hsd
    have HR1 := hid (HR.out.mono HST.out.old)
    have r2 := HR1.out.c2
    have rl := HR1.out.lt
    have HWT := hid (HR1.out.want)
    clear y0 yl hn hn1 hn2 hwr hk hwl hkl h1 h2 hlt hz hGb hYb hGY hGB HR1
    go_wp2_with fail
    refine (clone_any want sw wr (by have := HWL.out; omega) HWT.out).mono ?_
    rintro e w7 ⟨⟨sv, rfl, hq⟩, hb7⟩
    obtain ⟨SA, sc, rfl⟩ := hq.slice
    have HW8 := hid (World.alloc_heap_new w7 (.cells #[.slice SA want.length sc] 22))
    have bb := bl_alloc (bl_refl w7) (.cells #[.slice SA want.length sc] 22)
    have HST8 := hid ((HST.out.mono hb7).mono bb)
    have HSD8 := hid ((HSD.out.mono hb7).mono bb)
    have HQ8 := hid ((hq.base (show w.heap.size ≤ wr.heap.size from HST.out.old.size)).mono bb)
    have hsz := hb7.size
    have hYW : w7.heap.size ≠ YB := by have := (Array.getElem?_eq_some_iff.1 HST.out.yb).1; omega
    have hWG : G ≠ w7.heap.size := by have := HSD.out.lt; omega
    have h3 : w.heap.size + 3 ≤ w7.heap.size := by have := HST.out.hg; have := HSD.out.lt; omega
    obtain ⟨WB, hWB⟩ : ∃ WB, w7.heap.size = WB := ⟨_, rfl⟩
    clear bb hb7 hq hsz HST HSD r2 rl HWT
    go_wp2
    obtain ⟨w8, hw8⟩ : ∃ w8, w7.alloc (.cells #[.slice SA want.length sc] 22) = w8 := ⟨_, rfl⟩
    rw [hWB] at HW8 hYW hWG h3
    rw [hw8] at HST8 HSD8 HW8 HQ8 ⊢
    clear hw8 hWB
    have HW3 := hid h3
    have HF8 := hid (show byW (want.drop 0) (List.replicate n (-1, -1) ++ List.replicate (n - n) (0, 0)) = by0 n want by simp [by0])
    go_loopw [44] (fun p wr => ∃ (j : Nat) (cur : List Side), j ≤ want.length ∧ p = .int .i64 (j : Int) ∧ cur.length = n ∧ byW (want.drop j) cur = by0 n want ∧ ReachSt w G YB n wr ∧ SidesAt wr G cur ∧ wr.heap[WB]? = some (.cells #[.slice SA want.length sc] 22 (0, 0)) ∧ QueueAt wr w.heap.size (.slice SA want.length sc) want) (fun p _ => want.length - (intOf p).toNat)
    case atStart => exact ⟨0, _, by omega, rfl, by simp, HF8.out, HST8.out, HSD8.out, HW8.out, HQ8.out⟩
    case round =>
    obtain ⟨j, cur, hj, rfl, hcl, hby, hst, hsd, hwb, hq⟩ := hrel
    clear HST8 HSD8 HW8 HQ8 HF8
    have hGY : G ≠ YB := ne_type hsd hst.yb (by decide)
    have hGB := hst.hg
    by_cases hlt : j < want.length
    · obtain ⟨c, hc⟩ := get_at hlt
      have hcr := HWR.out c (List.mem_of_getElem? hc)
      obtain ⟨q, rfl⟩ : ∃ q : Nat, c = (q : Int) := ⟨c.toNat, by omega⟩
      have hqn : q < n := by omega
      have hqc : q < cur.length := by omega
      obtain ⟨s, hs⟩ := get_at hqc
      have hdr : want.drop j = (q : Int) :: want.drop (j + 1) := List.drop_eq_getElem_cons hlt ▸ by rw [(List.getElem?_eq_some_iff.1 hc).2]
      rw [hdr] at hby
      have HBY := hid (show byW (want.drop (j + 1)) (cur.set q ((q : Int), -1)) = by0 n want from hby)
      have NST := hid ((hst.set (B := G) (o := q * 2) (by omega) hGY (.int .i64 (q : Int))).set (B := G) (o := q * 2 + 1) (by omega) hGY (.int .i64 (-1)))
      have NSD := hid (hsd.set hqc (q : Int) (-1))
      have NWB := hid (past_set (o := q * 2 + 1) (u := .int .i64 (-1)) hWG.symm (past_set (o := q * 2) (u := .int .i64 (q : Int)) hWG.symm hwb))
      have NQ := hid (hq.keep (W' := (wr.setCell ⟨G, q * 2, none⟩ (.int .i64 (q : Int))).setCell ⟨G, q * 2 + 1, none⟩ (.int .i64 (-1))) fun g o hg ho => past_set (ne_type (hq.lt hg).2.2.choose_spec hsd (by decide)) (past_set (ne_type (hq.lt hg).2.2.choose_spec hsd (by decide)) ho))
      have y0 : wr.cell? ⟨YB, 0, none⟩ = some (.slice (some ⟨G, 0, none⟩) n n) := cell_of_heap hst.yb
      have yl := (Array.getElem?_eq_some_iff.1 hst.yb).1
      have z0 : wr.cell? ⟨WB, 0, none⟩ = some (.slice SA want.length sc) := cell_of_heap hwb
      have zl := (Array.getElem?_eq_some_iff.1 hwb).1
      obtain ⟨b, off, cc, hv, hlc, hbb, hcell⟩ : ∃ b off cc, SA = some ⟨b, off, none⟩ ∧ want.length ≤ cc ∧ b < wr.heap.size ∧ wr.cell? ⟨b, off + j, none⟩ = some (.int .i64 (q : Int)) := by
        rcases hq.ints with ⟨hv, h0⟩ | ⟨b, off, cc, hv, h4, h5, h6⟩
        · rw [h0] at hlt; simp at hlt
        · injection hv with hv1 hv2 hv3
          exact ⟨b, off, cc, hv1, h4, h5, h6 j _ hc⟩
      subst hv
      have q0 := hsd.c0 hs
      have q1 := hsd.c1 hs
      have fz := hsd.frozen
      have gl := hsd.lt
      have hwl := HWL.out
      clear hst hsd hwb hq hby hdr hc hcr hs hqc
      go_wp2
      go_roundw
      case rel => exact ⟨j + 1, _, by omega, by go_num, by simpa using hcl, HBY.out, NST.out, NSD.out, NWB.out, NQ.out⟩
      case measure => simp [intOf]; omega
    · obtain rfl : j = want.length := by omega
      have hcur : cur = by0 n want := by simpa [byW] using hby
      have HST9 := hid hst
      have HSD9 := hid hsd
      have HWB9 := hid hwb
      have HQ9 := hid hq
      clear hst hsd hwb hq hby hlt hj hGY hGB h3 hYW hWG
      have HST9 := hid (HST9.out.mono (bl_alloc (bl_refl wr) (.cells #[.func (.func 100) #[.pointer (some ⟨RP, 0, none⟩)] #[]] 131)))
      have HSD9 := hid (HSD9.out.mono (bl_alloc (bl_refl wr) (.cells #[.func (.func 100) #[.pointer (some ⟨RP, 0, none⟩)] #[]] 131)))
      have HWB9 := hid (heap_mono HWB9.out (bl_alloc (bl_refl wr) (.cells #[.func (.func 100) #[.pointer (some ⟨RP, 0, none⟩)] #[]] 131)))
      have HQ9 := hid (HQ9.out.mono (bl_alloc (bl_refl wr) (.cells #[.func (.func 100) #[.pointer (some ⟨RP, 0, none⟩)] #[]] 131)))
      have HF9 := hid (World.alloc_heap_new wr (.cells #[.func (.func 100) #[.pointer (some ⟨RP, 0, none⟩)] #[]] 131))
      go_wp2
      obtain ⟨FB, hFB⟩ : ∃ FB, wr.heap.size = FB := ⟨_, rfl⟩
      obtain ⟨w9, hw9⟩ : ∃ w9, wr.alloc (.cells #[.func (.func 100) #[.pointer (some ⟨RP, 0, none⟩)] #[]] 131) = w9 := ⟨_, rfl⟩
      rw [hFB] at HF9 ⊢
      rw [hw9] at HST9 HSD9 HWB9 HQ9 HF9 ⊢
      clear hw9 hFB
      have HRd9 : Hid (Rd w G YB WB FB RP n cur want (.slice SA want.length sc) [] w9) := hid ⟨HST9.out, HSD9.out, HWB9.out, HQ9.out, HF9.out, trivial, hcl, HWR.out, HW3.out⟩
      clear HST9 HSD9 HWB9 HQ9 HF9
      have HFu := hid (show reachF u0 wd hg0 keep (n + 1) cur want = reachU u0 wd hg0 want keep by rw [hcur]; unfold reachU; rw [HN.out, Int.toNat_natCast])
      have HLe := hid (show want.length + unr cur + 1 ≤ n + 1 by rw [hcur]; have := HUN.out; omega)
      clear hcl hcur
      repeat (first | go_step3 | go_step)
      refine wp_loop_marksz [11, 56, 57, 58, 59, 60, 61, 62, 63, 64, 65, 66, 67, 68, 69, 70, 71, 72, 73, 74, 75, 76] (fun m D W => ∃ cur wait sv, Rd w G YB WB FB RP n cur wait sv D W ∧ reachF u0 wd hg0 keep m cur wait = reachU u0 wd hg0 want keep ∧ wait.length + unr cur + 1 ≤ m ∧ m ≤ n + 1) (n + 1) (by rfl) ⟨cur, want, _, HRd9.out, HFu.out, HLe.out, Nat.le_refl _⟩ ?_
      clear HRd9 HFu HLe
      rintro m ux D W K ⟨cur, wait, sv, hRd, hrf, hle, hmn⟩ hK
      have HMN := hid hmn
      clear hmn
      have HRd := hid hRd
      have HRF := hid hrf
      have HLE := hid hle
      have HK := hid hK
      obtain ⟨QA, qc, rfl⟩ := hRd.q.slice
      have y0 : W.cell? ⟨YB, 0, none⟩ = some (.slice (some ⟨G, 0, none⟩) n n) := cell_of_heap hRd.st.yb
      have yl := (Array.getElem?_eq_some_iff.1 hRd.st.yb).1
      have z0 : W.cell? ⟨WB, 0, none⟩ = some (.slice QA wait.length qc) := cell_of_heap hRd.wb
      have zl := (Array.getElem?_eq_some_iff.1 hRd.wb).1
      clear hRd hrf hle hK
      simp only [setAll, List.setIfInBounds_toArray, List.set_cons_zero, List.set_cons_succ]
      cases wait with
      | nil =>
        rw [List.length_nil] at z0
        have a0 := cell_of_heap (i := 0) HRd.out.st.r0
        have a1 := cell_of_heap (i := 0) HRd.out.st.r1
        have a2 := cell_of_heap (i := 1) HRd.out.st.r1
        have a3 := cell_of_heap (i := 0) HRd.out.st.r2
        have f0 := fun i => frozen_of_heap (i := i) HRd.out.st.r0
        have f1 := fun i => frozen_of_heap (i := i) HRd.out.st.r1
        have f2 := fun i => frozen_of_heap (i := i) HRd.out.st.r2
        have l2 := (Array.getElem?_eq_some_iff.1 HRd.out.st.r2).1
        go_wp2
        have e0 := HRd.out.st.r0
        have n01 : w.heap.size ≠ w.heap.size + 1 := by omega
        have n02 : w.heap.size ≠ w.heap.size + 1 + 1 := by omega
        have n12 : w.heap.size + 1 ≠ w.heap.size + 1 + 1 := by omega
        have hG := HRd.out.st.hg
        refine reach_end (cur := cur) (x := 0) (y := 0) (o := false) (D := D) ?_ rfl ((((HRd.out.mks.set _ _).set _ _).set _ _).set _ _) rfl rfl rfl (past_set n02 (past_set n01 (past_set n01 (set_one e0 _)))) (past_set n12 (set_two (past_set n01.symm HRd.out.st.r1) _ _)) (set_one (past_set n12.symm (past_set n12.symm (past_set n02.symm HRd.out.st.r2))) _) ((((HRd.out.sd.past (by omega)).past (by omega)).past (by omega)).past (by omega)) (bl_set (bl_set (bl_set (bl_set HRd.out.st.old _ (by omega)) _ (by omega)) _ (by omega)) _ (by omega))
        have hm : ∃ m', m = m' + 1 := ⟨m - 1, by have := HLE.out; omega⟩
        obtain ⟨m', rfl⟩ := hm
        rw [← HRF.out]
        rfl
      | cons c rest =>
        have hcr := HRd.out.rng c (List.mem_cons_self)
        obtain ⟨q, rfl⟩ : ∃ q : Nat, c = (q : Int) := ⟨c.toNat, by omega⟩
        obtain ⟨g, off, cap, hv, hcap, hx, hgl, hq⟩ := HRd.out.q.pop
        rw [hv] at z0 HRd
        have kb := World.alloc_heap_new W (.cells #[.int .i64 (q : Int)] 3)
        have bb := bl_alloc (bl_refl W) (.cells #[.int .i64 (q : Int)] 3)
        have HR1 := hid (HRd.out.mono bb)
        have HX1 := hid kb
        have HX3 := hid (show w.heap.size + 3 ≤ W.heap.size by have := HRd.out.hw; have := (Array.getElem?_eq_some_iff.1 HRd.out.wb).1; omega)
        have HQX := hid (show g < W.heap.size from hgl)
        have hwl : rest.length + unr cur + 1 ≤ n := by have := HLE.out; rw [List.length_cons] at this; have := HMN.out; omega
        have HWLr := hid hwl
        have hn1 := HN1.out
        clear kb bb hq hv
        go_upto_region 16 with (fail)
        obtain ⟨XB, hXB⟩ : ∃ XB, W.heap.size = XB := ⟨_, rfl⟩
        obtain ⟨W1, hW1⟩ : ∃ W1, W.alloc (.cells #[.int .i64 (q : Int)] 3) = W1 := ⟨_, rfl⟩
        rw [hXB] at HX1 HQX HX3 ⊢
        rw [hW1] at HR1 HX1 ⊢
        clear hW1 hXB hgl hx z0 zl y0 yl HRd
        have z1 : W1.cell? ⟨WB, 0, none⟩ = some (.slice (some ⟨g, off, none⟩) (rest.length + 1) (cap + 1)) := cell_of_heap HR1.out.wb
        have z2 : W1.frozen? ⟨WB, 0, none⟩ = false := frozen_of_heap HR1.out.wb
        have zl := (Array.getElem?_eq_some_iff.1 HR1.out.wb).1
        go_cut [] from 62 to 63 (fun wx => (∃ A c, Rd w G YB WB FB RP n cur rest (.slice A rest.length c) D wx ∧ qb (.slice A rest.length c) ≠ some XB) ∧ wx.heap[XB]? = some (.cells #[.int .i64 (q : Int)] 3 (0, 0)))
        case first =>
          by_cases hc0 : cap = 0
          · subst hc0
            obtain rfl : rest = [] := List.eq_nil_of_length_eq_zero (by omega)
            have hq0 := HR1.out.q
            have HP1 := hid (HR1.out.pop (v' := .slice (some ⟨g, off, none⟩) 0 0) (by
              rcases hq0 with ⟨h, _⟩ | ⟨g', off', cap', cur', h1, h2, h3, h4, h5, h6⟩
              · cases h
              · injection h1 with h1a h1b h1c
                injection h1a with h1a
                injection h1a with e1 e2
                subst e1 e2
                exact .inr ⟨g, off, 0, cur', rfl, h2, h3, by simp, by omega, fun i x hx => by simp at hx⟩))
            have HXB := hid (past_set (o := 0) (u := .slice (some ⟨g, off, none⟩) 0 0) (ne_type HX1.out HR1.out.wb (by decide)) HX1.out)
            clear hq0
            go_wp2
            go_meet
            case rel => exact ⟨⟨_, _, HP1.out, by simp [qb]; have := HQX.out; omega⟩, HXB.out⟩
          · obtain ⟨g2, off2, cap2, hv2, _, _, _, hq2⟩ := HR1.out.q.pop
            injection hv2 with hv2a hv2b hv2c
            injection hv2a with hv2a
            injection hv2a with e1 e2
            obtain rfl : cap2 = cap := by omega
            subst e1 e2
            have HP1 := hid (HR1.out.pop hq2)
            have HXB := hid (past_set (o := 0) (u := .slice (some ⟨g, off + 1, none⟩) rest.length cap2) (ne_type HX1.out HR1.out.wb (by decide)) HX1.out)
            clear hq2
            go_wp2
            go_meet
            case rel => exact ⟨⟨_, _, HP1.out, by simp [qb]; have := HQX.out; omega⟩, HXB.out⟩
        case rest =>
        obtain ⟨⟨A, c, hrd, hqx⟩, hxb⟩ := hcut
        clear HR1 HX1 HQX z1 z2 zl hcap
        have HRD := hid hrd
        have HXB := hid hxb
        have HQX := hid hqx
        have HRc := hid (HR.out.mono hrd.st.old)
        have c3 := HRc.out.c3
        have rl := HRc.out.lt
        have x0 : wc.cell? ⟨XB, 0, none⟩ = some (.int .i64 (q : Int)) := cell_of_heap hxb
        have xl := (Array.getElem?_eq_some_iff.1 hxb).1
        have Gen : Hid (∀ W', Below wc.heap.size wc W' → Calls Try.prog 62 #[sk, .int .i64 (q : Int)] W' fun e w' => e = .returned (.bool (keep.contains (q : Int))) ∧ Below W'.heap.size W' w') := hid fun W' hb => (has_any keep sk q W' (by have := HKL.out; omega) (HRc.out.keep.mono hb)).mono fun e w' ⟨h1, h2⟩ => ⟨h1, by rw [h2]; exact bl_refl _⟩
        obtain ⟨kq, hkq⟩ : ∃ kq, keep.contains (q : Int) = kq := ⟨_, rfl⟩
        rw [hkq] at Gen
        have HKQ := hid hkq
        clear hrd hqx hxb hkq
        go_upto_region 17 with (fail)
        refine wp_region_below (by kernel_rfl) (by kernel_rfl) ?_
        repeat (first | go_big_quiet_step (first | (go_at_call 62; exact Calls.regrown_of (Gen.out _ (below_regrown _ _ _)))) | quiet_step (first | (go_at_call 62; exact Calls.regrown_of (Gen.out _ (below_regrown _ _ _)))))
        refine wpQuiet_nil ?_
        intro W2 hb2
        have HRD2 := hid (HRD.out.mono hb2)
        have HXB2 := hid (heap_mono HXB.out hb2)
        clear c3 rl x0 xl Gen HRD HXB HRc hb2
        cases kq with
        | true =>
          have HOLD := hid HRD2.out.st.old
          have hE : EndSt w G YB XB n (q : Int) cur D W2 := ⟨HRD2.out.sd, HRD2.out.st.yb, HXB2.out, HRD2.out.mks, HRD2.out.st.hg, HRD2.out.st.hy, HX3.out⟩
          have hr0 := HRD2.out.st.r0
          have hr1 := HRD2.out.st.r1
          have hr2 := HRD2.out.st.r2
          clear HRD2 HXB2
          go_wp2
          refine wp_region_valsG w HOLD.out [71, 72, 73] (fun seen u W => (seen 0 = true → u 71 = .slice (some ⟨G, 0, none⟩) n n) ∧
            (seen 1 = true → u 72 = .int .i64 ((q : Int))) ∧
            (seen 2 = true → u 73 = .agg #[.int .i64 (q : Int), .int .i64 (-1)]) ∧
            (seen 3 = true → True) ∧
            (seen 4 = true → True) ∧
            (seen 5 = true → True) ∧
            (W.heap[w.heap.size]? = some (.cells (if seen 3 = true then #[.slice (some ⟨G, 0, none⟩) n n] else #[.slice none 0 0]) 101 (0, 0))) ∧
            (W.heap[w.heap.size + 1]? = some (.cells (if seen 4 = true then #[.int .i64 (q : Int), .int .i64 (-1)] else #[.int .i64 0, .int .i64 0]) 104 (0, 0))) ∧
            (W.heap[w.heap.size + 1 + 1]? = some (.cells (if seen 5 = true then #[.bool true] else #[.bool false]) 4 (0, 0))) ∧
            (EndSt w G YB XB n (q : Int) cur D W))
            (by kernel_rfl) (by kernel_rfl) (by kernel_rfl) (by simp) ⟨by simp [valsOf], by simp [valsOf], by simp [valsOf], by simp [valsOf], by simp [valsOf], by simp [valsOf], by have q := heap_mono hr0 (bl_drew (bl_refl W2)); simpa using q, by have q := heap_mono hr1 (bl_drew (bl_refl W2)); simpa using q, by have q := heap_mono hr2 (bl_drew (bl_refl W2)); simpa using q, hE.mono (bl_drew (bl_refl W2))⟩ ?_ ?_
          · intro i o ho seen a' w9 hb9 ⟨F0, F1, F2, F3, F4, F5, F6, F7, F8, F9⟩ hv hsi hdep
            have y0 : w9.cell? ⟨YB, 0, none⟩ = some (.slice (some ⟨G, 0, none⟩) n n) := cell_of_heap F9.yb
            have yl := (Array.getElem?_eq_some_iff.1 F9.yb).1
            have z0 : w9.cell? ⟨XB, 0, none⟩ = some (.int .i64 (q : Int)) := cell_of_heap F9.xb
            have zl := (Array.getElem?_eq_some_iff.1 F9.xb).1
            rcases i with _ | _ | _ | _ | _ | _ | i <;> simp only [List.getElem?_cons_zero, List.getElem?_cons_succ, List.getElem?_nil, Option.some.injEq, reduceCtorEq] at ho <;> subst ho
            · refine if_free rfl ?_
              have x5 := val_at (hv 5 (by simp))
              simp [valsOf] at x5
              refine wp_value (.slice (some ⟨G, 0, none⟩) n n) (w' := w9) (by simp [execOp, x5, go_sem, y0, yl, z0, zl]) ⟨_, rfl, hb9, ?_⟩
              exact ⟨by simp, by simpa using F1, by simpa using F2, by simpa using F3, by simpa using F4, by simpa using F5, by simpa using F6, by simpa using F7, by simpa using F8, by simpa using F9⟩
            · refine if_free rfl ?_
              have x11 := val_at (hv 11 (by simp))
              simp [valsOf] at x11
              refine wp_value (.int .i64 ((q : Int))) (w' := w9) (by simp [execOp, x11, go_sem, y0, yl, z0, zl]) ⟨_, rfl, hb9, ?_⟩
              exact ⟨by simpa using F0, by simp, by simpa using F2, by simpa using F3, by simpa using F4, by simpa using F5, by simpa using F6, by simpa using F7, by simpa using F8, by simpa using F9⟩
            · refine if_free rfl ?_
              have d1 := hdep ⟨1, .data⟩ (by simp) rfl
              have e1 := val_at (F1 d1)
              refine wp_value (.agg #[.int .i64 (q : Int), .int .i64 (-1)]) (w' := w9) (by simp [execOp, e1, go_sem, y0, yl, z0, zl]) ⟨_, rfl, hb9, ?_⟩
              exact ⟨by simpa using F0, by simpa using F1, by simp, by simpa using F3, by simpa using F4, by simpa using F5, by simpa using F6, by simpa using F7, by simpa using F8, by simpa using F9⟩
            · refine if_free rfl ?_
              have x2 := val_at (hv 2 (by simp))
              simp [valsOf] at x2
              have d0 := hdep ⟨0, .data⟩ (by simp) rfl
              have e0 := val_at (F0 d0)
              have e1 := F6
              rw [hsi] at e1
              simp only [Bool.false_eq_true, if_false] at e1
              have x2 := val_at (hv 2 (by simp))
              simp [valsOf] at x2
              have e71 := val_at (F0 (hdep ⟨0, .data⟩ (by simp) rfl))
              have cc0 := cell_of_heap (i := 0) e1
              have f0 := fun i => frozen_of_heap (i := i) e1
              have hBl := (Array.getElem?_eq_some_iff.1 e1).1
              have hnew := set_one e1 (.slice (some ⟨G, 0, none⟩) n n)
              refine wp_effect (w' := (w9.setCell ⟨w.heap.size, 0, none⟩ (.slice (some ⟨G, 0, none⟩) n n))) (by simp [execOp, x2, e71, go_sem, cc0, f0, hBl]) ⟨_, rfl, bl_set hb9 _ (by omega), ?_⟩
              exact ⟨by simpa using F0, by simpa using F1, by simpa using F2, by simp, by simpa using F4, by simpa using F5, by simpa using hnew, by simpa using past_set (by omega) F7, by simpa using past_set (by omega) F8, by exact F9.set (by omega) _⟩
            · refine if_free rfl ?_
              have x3 := val_at (hv 3 (by simp))
              simp [valsOf] at x3
              have d2 := hdep ⟨2, .data⟩ (by simp) rfl
              have e2 := val_at (F2 d2)
              have e1 := F7
              rw [hsi] at e1
              simp only [Bool.false_eq_true, if_false] at e1
              have x3 := val_at (hv 3 (by simp))
              simp [valsOf] at x3
              have e73 := val_at (F2 (hdep ⟨2, .data⟩ (by simp) rfl))
              have cc0 := cell_of_heap (i := 0) e1
              have cc1 := cell_of_heap (i := 1) e1
              have f0 := fun i => frozen_of_heap (i := i) e1
              have hBl := (Array.getElem?_eq_some_iff.1 e1).1
              have hnew := set_two e1 (.int .i64 (q : Int)) (.int .i64 (-1))
              refine wp_effect (w' := ((w9.setCell ⟨w.heap.size + 1, 0, none⟩ (.int .i64 (q : Int))).setCell ⟨w.heap.size + 1, 1, none⟩ (.int .i64 (-1)))) (by simp [execOp, x3, e73, go_sem, cc0, cc1, f0, hBl]) ⟨_, rfl, bl_set (bl_set hb9 _ (by omega)) _ (by omega), ?_⟩
              exact ⟨by simpa using F0, by simpa using F1, by simpa using F2, by simpa using F3, by simp, by simpa using F5, by simpa using past_set (by omega) (past_set (by omega) F6), by simpa using hnew, by simpa using past_set (by omega) (past_set (by omega) F8), by exact (F9.set (by omega) _).set (by omega) _⟩
            · refine if_free rfl ?_
              have x4 := val_at (hv 4 (by simp))
              simp [valsOf] at x4
              have e1 := F8
              rw [hsi] at e1
              simp only [Bool.false_eq_true, if_false] at e1
              have x4 := val_at (hv 4 (by simp))
              simp [valsOf] at x4
              have cc0 := cell_of_heap (i := 0) e1
              have f0 := fun i => frozen_of_heap (i := i) e1
              have hBl := (Array.getElem?_eq_some_iff.1 e1).1
              have hnew := set_one e1 (.bool true)
              refine wp_effect (w' := (w9.setCell ⟨w.heap.size + 1 + 1, 0, none⟩ (.bool true))) (by simp [execOp, x4, go_sem, cc0, f0, hBl]) ⟨_, rfl, bl_set hb9 _ (by omega), ?_⟩
              exact ⟨by simpa using F0, by simpa using F1, by simpa using F2, by simpa using F3, by simpa using F4, by simp, by simpa using past_set (by omega) F6, by simpa using past_set (by omega) F7, by simpa using hnew, by exact F9.set (by omega) _⟩
          intro u w5 hb5 seen hall ⟨F0, F1, F2, F3, F4, F5, F6, F7, F8, F9⟩
          replace F0 := F0 (hall 0 (by decide))
          replace F1 := F1 (hall 1 (by decide))
          replace F2 := F2 (hall 2 (by decide))
          replace F3 := F3 (hall 3 (by decide))
          replace F4 := F4 (hall 4 (by decide))
          replace F5 := F5 (hall 5 (by decide))
          have hs3 := hall 3 (by decide)
          have hs4 := hall 4 (by decide)
          have hs5 := hall 5 (by decide)
          rw [hs3, if_pos rfl] at F6
          rw [hs4, if_pos rfl] at F7
          rw [hs5, if_pos rfl] at F8
          simp only [setAll, List.setIfInBounds_toArray, List.set_cons_zero, List.set_cons_succ]
          have hEE := hid F9
          have h6 := hid F6
          have h7 := hid F7
          have h8 := hid F8
          have HB5 := hid hb5
          clear F0 F1 F2 F3 F4 F5 F6 F7 F8 F9 hall seen hs3 hs4 hs5 hE hr0 hr1 hr2 hb5
          go_wp2
          refine reach_end (cur := cur) (x := (q : Int)) (y := -1) (o := true) (D := D) ?_ rfl hEE.out.mks rfl rfl rfl h6.out h7.out h8.out hEE.out.sd HB5.out
          have hm : ∃ m', m = m' + 1 := ⟨m - 1, by have := HLE.out; omega⟩
          obtain ⟨m', rfl⟩ := hm
          rw [← HRF.out]
          unfold reachF
          rw [if_pos HKQ.out]
        | false =>
          have x0 : W2.cell? ⟨XB, 0, none⟩ = some (.int .i64 (q : Int)) := cell_of_heap HXB2.out
          have xl := (Array.getElem?_eq_some_iff.1 HXB2.out).1
          go_wp2_with fail
          refine (around_any RP (q : Int) W2).mono ?_
          rintro e W3 ⟨rfl, hW3⟩
          have hbA := bl_alloc (bl_refl W2) (.cells #[.pointer (some ⟨RP, 0, none⟩)] 87)
          have hbB := bl_alloc (bl_refl (W2.alloc (.cells #[.pointer (some ⟨RP, 0, none⟩)] 87))) (.cells #[.int .i64 (q : Int)] 3)
          have k1 := heap_mono (World.alloc_heap_new W2 (.cells #[.pointer (some ⟨RP, 0, none⟩)] 87)) hbB
          have k2 := World.alloc_heap_new (W2.alloc (.cells #[.pointer (some ⟨RP, 0, none⟩)] 87)) (.cells #[.int .i64 (q : Int)] 3)
          rw [World.size_alloc] at k2
          have hb3 := bl_trans hbA hbB
          rw [← hW3] at k1 k2 hb3
          have hqlt : ∀ g, qb (.slice A rest.length c) = some g → g < W2.heap.size := fun g hg => (HRD2.out.q.lt hg).2.1
          have hRI : RI w G YB WB FB RP n (W2.heap.size + 1) W2.heap.size XB (q : Int) cur rest (.slice A rest.length c) D W3 := ⟨HRD2.out.mono hb3, HQX.out, fun e => by have := hqlt _ e; omega, heap_mono HXB2.out hb3, k2, k1⟩
          have HRI := hid hRI
          have HRa := hid ((HR.out.mono HRD2.out.st.old).mono hb3)
          have hw3 := hRI.rd.st.old.size
          obtain ⟨CB, hCB⟩ : ∃ CB, W2.heap.size + 1 = CB := ⟨_, rfl⟩
          obtain ⟨RB, hRB⟩ : ∃ RB, W2.heap.size = RB := ⟨_, rfl⟩
          rw [hCB, hRB] at HRI ⊢
          clear hRI hqlt hb3 k1 k2 hbA hbB hW3 HRD2 HXB2 x0 xl hCB hRB HQX
          go_wp2
          refine wp_rangeFunc_T 111 (gf := 95) (lb := #[.pointer (some ⟨CB, 0, none⟩), .pointer (some ⟨RB, 0, none⟩)]) rfl enters95 (encs := fun p : Int × Int => #[.int .i64 p.1, .int .i64 p.2]) (fun _ => rfl)
            (RInv w G YB WB FB RP n CB RB XB (q : Int) u0 wd hg0 cur rest D) (RInv w G YB WB FB RP n CB RB XB (q : Int) u0 wd hg0 cur rest D) (RStop w G n (q : Int) u0 wd hg0 cur rest D)
            (fun xs => xs = aroundL wd hg0 (q : Int)) (fun pre p => pre ++ [p] <+: aroundL wd hg0 (q : Int)) (around_iter (RP := RP) H1.out H2.out (by have := HN.out; omega) ⟨?ibox, ?imono⟩ W3)
            ?free ?free2 ?freex ?start ?_ ?assign ?body ?done ?stop
          case ibox =>
            rintro pre W ⟨k, cur', wait', A', c', _, _, _, _, h⟩
            have hr := HR.out.mono h.rd.st.old
            exact ⟨h.cb, h.rb, hr.c0, hr.c1⟩
          case imono =>
            rintro pre W W' ⟨k, cur', wait', A', c', h1, h2, h3, h4, h⟩ hb
            exact ⟨k, cur', wait', A', c', h1, h2, h3, h4, h.mono hb⟩
          case free =>
            rintro l hl s W o ⟨k, cur', wait', A', c', h1, h2, h3, h4, h⟩ ⟨r, hr⟩ ⟨r', rfl⟩
            exact ⟨k, cur', wait', A', c', h1, h2, h3, h4, h.put hr rfl (fun z e => by cases e) (by omega)⟩
          case free2 =>
            rintro l hl s W o ⟨k, cur', wait', A', c', h1, h2, h3, h4, h⟩ ⟨r, hr⟩ ⟨r', rfl⟩
            exact ⟨k, cur', wait', A', c', h1, h2, h3, h4, h.put hr rfl (fun z e => by cases e) (by omega)⟩
          case freex =>
            rintro l co hl s W o h ⟨r, hr⟩ ⟨r', rfl⟩
            exact h.put hr rfl (fun z e => by cases e) (by omega)
          case start =>
            intro W hW _
            exact ⟨0, cur, rest, A, c, by omega, rfl, rfl, rfl, HRI.out.mono hW⟩
          case assign =>
            intro l e W K hK
            gi_wp2
            exact hK
          case body =>
            rintro l pre ⟨dk, tq⟩ W rfl ⟨k, cur', wait', A', c', hk4, rfl, hdf, hcount, hri⟩ hadm ⟨r, hr⟩ hd
            obtain ⟨hk, rfl, rfl⟩ := around_adm hk4 hadm
            obtain ⟨tq, hto⟩ : ∃ tq, nbr wd hg0 (q : Int) (k : Int) = tq := ⟨_, rfl⟩
            have htr := nbr_rng (c := (q : Int)) H1.out.1 (by omega) H2.out.1 (by have := HN.out; omega) hk
            rw [HN.out] at htr
            rw [hto] at htr ⊢
            have HTR := hid htr
            have HRI2 := hid hri
            have HRW := hid ((HR.out.mono hri.rd.st.old))
            have HDF := hid hdf
            have HTO := hid hto
            have HR2 := hid hr
            have HD2 := hid hd
            have HCN := hid hcount
            have HKK := hid hk
            have p0 : W.cell? ⟨FB, 0, none⟩ = some (.func (.func 100) #[.pointer (some ⟨RP, 0, none⟩)] #[]) := cell_of_heap hri.rd.fb
            have pl := (Array.getElem?_eq_some_iff.1 hri.rd.fb).1
            have x0 : W.cell? ⟨XB, 0, none⟩ = some (.int .i64 (q : Int)) := cell_of_heap hri.xb
            have xl := (Array.getElem?_eq_some_iff.1 hri.xb).1
            clear hri hdf hto hr hd hadm hk4 hcount htr HRI HRa hk
            gi_wp2_with fail
            refine ⟨trivial, ?_⟩
            refine (CallsIn.inRound _ (callsIn_wide.2 (free_any (q : Int) (k : Int) W HRW.out))).mono ?_
            rintro e W5 ⟨rfl, hb5⟩
            have HRI5 := hid (HRI2.out.mono hb5)
            have HR5 := hid (heap_mono HR2.out hb5)
            have HD5 := hid (heap_mono HD2.out hb5)
            have HB5 := hid hb5
            clear HRI2 hb5 p0 pl x0 xl HRW
            by_cases hfree : u0 ((q : Int), (k : Int)) < 1
            · have hdec : decide (u0 ((q : Int), (k : Int)) < 1) = true := decide_eq_true hfree
              rw [hdec]
              by_cases hneg : tq < 0
              · have hdn : decide (tq < 0) = true := decide_eq_true hneg
                have HDF2 := hid (show dirsF u0 wd hg0 (q : Int) 4 0 cur rest = .stop cur' ((q : Int), (k : Int)) by
                  rw [← HDF.out, show 4 - k = (3 - k) + 1 by have := HKK.out; omega]
                  unfold dirsF
                  rw [if_neg (by simpa using hfree), HTO.out, if_pos hneg])
                clear hfree hdec hneg HDF HTO HTR HCN
                gi_wp2_with fail
                have hE : EndSt w G YB XB n (q : Int) cur' D W5 := ⟨HRI5.out.rd.sd, HRI5.out.rd.st.yb, HRI5.out.xb, HRI5.out.rd.mks, HRI5.out.rd.st.hg, HRI5.out.rd.st.hy, HX3.out⟩
                have hr0 := HRI5.out.rd.st.r0
                have hr1 := HRI5.out.rd.st.r1
                have hr2 := HRI5.out.rd.st.r2
                have HOLD := hid HRI5.out.rd.st.old
                have hLP : W5.heap[W3.heap.size + 1]? = some (.loop r) ∧ W5.heap[W3.heap.size]? = some (.deferred (some [])) := ⟨HR5.out, HD5.out⟩
                clear HRI5 HR5 HD5 HB5
                refine wpIn_region_valsG (fun _ => trivial) w HOLD.out [87, 88, 89, 90] (fun seen u W => (seen 0 = true → u 87 = .slice (some ⟨G, 0, none⟩) n n) ∧
                  (seen 1 = true → u 88 = .int .i64 ((q : Int))) ∧
                  (seen 2 = true → u 89 = .int .i64 ((k : Int))) ∧
                  (seen 3 = true → u 90 = .agg #[.int .i64 (q : Int), .int .i64 (k : Int)]) ∧
                  (seen 4 = true → True) ∧
                  (seen 5 = true → True) ∧
                  (seen 6 = true → True) ∧
                  (W.heap[w.heap.size]? = some (.cells (if seen 4 = true then #[.slice (some ⟨G, 0, none⟩) n n] else #[.slice none 0 0]) 101 (0, 0))) ∧
                  (W.heap[w.heap.size + 1]? = some (.cells (if seen 5 = true then #[.int .i64 (q : Int), .int .i64 (k : Int)] else #[.int .i64 0, .int .i64 0]) 104 (0, 0))) ∧
                  (W.heap[w.heap.size + 1 + 1]? = some (.cells (if seen 6 = true then #[.bool true] else #[.bool false]) 4 (0, 0))) ∧
                  (EndSt w G YB XB n (q : Int) cur' D W) ∧
                  (W.heap[W3.heap.size + 1]? = some (.loop r) ∧ W.heap[W3.heap.size]? = some (.deferred (some []))))
                  (by kernel_rfl) (by kernel_rfl) (by kernel_rfl) (by simp) ⟨by simp [valsOf], by simp [valsOf], by simp [valsOf], by simp [valsOf], by simp [valsOf], by simp [valsOf], by simp [valsOf], by have q := heap_mono hr0 (bl_drew (bl_refl W5)); simpa using q, by have q := heap_mono hr1 (bl_drew (bl_refl W5)); simpa using q, by have q := heap_mono hr2 (bl_drew (bl_refl W5)); simpa using q, hE.mono (bl_drew (bl_refl W5)), ⟨heap_mono hLP.1 (bl_drew (bl_refl W5)), heap_mono hLP.2 (bl_drew (bl_refl W5))⟩⟩ ?_ ?_
                · intro i o ho seen a' w9 hb9 ⟨F0, F1, F2, F3, F4, F5, F6, F7, F8, F9, F10, F11⟩ hv hsi hdep
                  have y0 : w9.cell? ⟨YB, 0, none⟩ = some (.slice (some ⟨G, 0, none⟩) n n) := cell_of_heap F10.yb
                  have yl := (Array.getElem?_eq_some_iff.1 F10.yb).1
                  have z0 : w9.cell? ⟨XB, 0, none⟩ = some (.int .i64 (q : Int)) := cell_of_heap F10.xb
                  have zl := (Array.getElem?_eq_some_iff.1 F10.xb).1
                  rcases i with _ | _ | _ | _ | _ | _ | _ | i <;> simp only [List.getElem?_cons_zero, List.getElem?_cons_succ, List.getElem?_nil, Option.some.injEq, reduceCtorEq] at ho <;> subst ho
                  · refine if_free rfl ?_
                    have x5 := val_at (hv 5 (by simp))
                    simp [valsOf] at x5
                    refine wpIn_value (hfn := fun _ => trivial) (hd := fun _ e => by cases e) (.slice (some ⟨G, 0, none⟩) n n) (w' := w9) (by simp [execOp, x5, go_sem, y0, yl, z0, zl]) ⟨_, rfl, hb9, ?_⟩
                    exact ⟨by simp, by simpa using F1, by simpa using F2, by simpa using F3, by simpa using F4, by simpa using F5, by simpa using F6, by simpa using F7, by simpa using F8, by simpa using F9, by simpa using F10, by simpa using F11⟩
                  · refine if_free rfl ?_
                    have x11 := val_at (hv 11 (by simp))
                    simp [valsOf] at x11
                    refine wpIn_value (hfn := fun _ => trivial) (hd := fun _ e => by cases e) (.int .i64 ((q : Int))) (w' := w9) (by simp [execOp, x11, go_sem, y0, yl, z0, zl]) ⟨_, rfl, hb9, ?_⟩
                    exact ⟨by simpa using F0, by simp, by simpa using F2, by simpa using F3, by simpa using F4, by simpa using F5, by simpa using F6, by simpa using F7, by simpa using F8, by simpa using F9, by simpa using F10, by simpa using F11⟩
                  · refine if_free rfl ?_
                    have x12 := val_at (hv 12 (by simp))
                    simp [valsOf] at x12
                    refine wpIn_value (hfn := fun _ => trivial) (hd := fun _ e => by cases e) (.int .i64 ((k : Int))) (w' := w9) (by simp [execOp, x12, go_sem, y0, yl, z0, zl]) ⟨_, rfl, hb9, ?_⟩
                    exact ⟨by simpa using F0, by simpa using F1, by simp, by simpa using F3, by simpa using F4, by simpa using F5, by simpa using F6, by simpa using F7, by simpa using F8, by simpa using F9, by simpa using F10, by simpa using F11⟩
                  · refine if_free rfl ?_
                    have d1 := hdep ⟨1, .data⟩ (by simp) rfl
                    have e1 := val_at (F1 d1)
                    have d2 := hdep ⟨2, .data⟩ (by simp) rfl
                    have e2 := val_at (F2 d2)
                    refine wpIn_value (hfn := fun _ => trivial) (hd := fun _ e => by cases e) (.agg #[.int .i64 (q : Int), .int .i64 (k : Int)]) (w' := w9) (by simp [execOp, e1, e2, go_sem, y0, yl, z0, zl]) ⟨_, rfl, hb9, ?_⟩
                    exact ⟨by simpa using F0, by simpa using F1, by simpa using F2, by simp, by simpa using F4, by simpa using F5, by simpa using F6, by simpa using F7, by simpa using F8, by simpa using F9, by simpa using F10, by simpa using F11⟩
                  · refine if_free rfl ?_
                    have x2 := val_at (hv 2 (by simp))
                    simp [valsOf] at x2
                    have d0 := hdep ⟨0, .data⟩ (by simp) rfl
                    have e0 := val_at (F0 d0)
                    have e1 := F7
                    rw [hsi] at e1
                    simp only [Bool.false_eq_true, if_false] at e1
                    have x2 := val_at (hv 2 (by simp))
                    simp [valsOf] at x2
                    have e87 := val_at (F0 (hdep ⟨0, .data⟩ (by simp) rfl))
                    have cc0 := cell_of_heap (i := 0) e1
                    have f0 := fun i => frozen_of_heap (i := i) e1
                    have hBl := (Array.getElem?_eq_some_iff.1 e1).1
                    have hnew := set_one e1 (.slice (some ⟨G, 0, none⟩) n n)
                    refine wpIn_effect (hfn := fun _ => trivial) (hd := fun _ e => by cases e) (w' := (w9.setCell ⟨w.heap.size, 0, none⟩ (.slice (some ⟨G, 0, none⟩) n n))) (by simp [execOp, x2, e87, go_sem, cc0, f0, hBl]) ⟨_, rfl, bl_set hb9 _ (by omega), ?_⟩
                    exact ⟨by simpa using F0, by simpa using F1, by simpa using F2, by simpa using F3, by simp, by simpa using F5, by simpa using F6, by simpa using hnew, by simpa using past_set (by omega) F8, by simpa using past_set (by omega) F9, by exact F10.set (by omega) _, by exact ⟨book_set F11.1 rfl _ _, book_set F11.2 rfl _ _⟩⟩
                  · refine if_free rfl ?_
                    have x3 := val_at (hv 3 (by simp))
                    simp [valsOf] at x3
                    have d3 := hdep ⟨3, .data⟩ (by simp) rfl
                    have e3 := val_at (F3 d3)
                    have e1 := F8
                    rw [hsi] at e1
                    simp only [Bool.false_eq_true, if_false] at e1
                    have x3 := val_at (hv 3 (by simp))
                    simp [valsOf] at x3
                    have e90 := val_at (F3 (hdep ⟨3, .data⟩ (by simp) rfl))
                    have cc0 := cell_of_heap (i := 0) e1
                    have cc1 := cell_of_heap (i := 1) e1
                    have f0 := fun i => frozen_of_heap (i := i) e1
                    have hBl := (Array.getElem?_eq_some_iff.1 e1).1
                    have hnew := set_two e1 (.int .i64 (q : Int)) (.int .i64 (k : Int))
                    refine wpIn_effect (hfn := fun _ => trivial) (hd := fun _ e => by cases e) (w' := ((w9.setCell ⟨w.heap.size + 1, 0, none⟩ (.int .i64 (q : Int))).setCell ⟨w.heap.size + 1, 1, none⟩ (.int .i64 (k : Int)))) (by simp [execOp, x3, e90, go_sem, cc0, cc1, f0, hBl]) ⟨_, rfl, bl_set (bl_set hb9 _ (by omega)) _ (by omega), ?_⟩
                    exact ⟨by simpa using F0, by simpa using F1, by simpa using F2, by simpa using F3, by simpa using F4, by simp, by simpa using F6, by simpa using past_set (by omega) (past_set (by omega) F7), by simpa using hnew, by simpa using past_set (by omega) (past_set (by omega) F9), by exact (F10.set (by omega) _).set (by omega) _, by exact ⟨book_set (book_set F11.1 rfl _ _) rfl _ _, book_set (book_set F11.2 rfl _ _) rfl _ _⟩⟩
                  · refine if_free rfl ?_
                    have x4 := val_at (hv 4 (by simp))
                    simp [valsOf] at x4
                    have e1 := F9
                    rw [hsi] at e1
                    simp only [Bool.false_eq_true, if_false] at e1
                    have x4 := val_at (hv 4 (by simp))
                    simp [valsOf] at x4
                    have cc0 := cell_of_heap (i := 0) e1
                    have f0 := fun i => frozen_of_heap (i := i) e1
                    have hBl := (Array.getElem?_eq_some_iff.1 e1).1
                    have hnew := set_one e1 (.bool true)
                    refine wpIn_effect (hfn := fun _ => trivial) (hd := fun _ e => by cases e) (w' := (w9.setCell ⟨w.heap.size + 1 + 1, 0, none⟩ (.bool true))) (by simp [execOp, x4, go_sem, cc0, f0, hBl]) ⟨_, rfl, bl_set hb9 _ (by omega), ?_⟩
                    exact ⟨by simpa using F0, by simpa using F1, by simpa using F2, by simpa using F3, by simpa using F4, by simpa using F5, by simp, by simpa using past_set (by omega) F7, by simpa using past_set (by omega) F8, by simpa using hnew, by exact F10.set (by omega) _, by exact ⟨book_set F11.1 rfl _ _, book_set F11.2 rfl _ _⟩⟩
                intro u w5 hb5 seen hall ⟨F0, F1, F2, F3, F4, F5, F6, F7, F8, F9, F10, F11⟩
                replace F0 := F0 (hall 0 (by decide))
                replace F1 := F1 (hall 1 (by decide))
                replace F2 := F2 (hall 2 (by decide))
                replace F3 := F3 (hall 3 (by decide))
                replace F4 := F4 (hall 4 (by decide))
                replace F5 := F5 (hall 5 (by decide))
                replace F6 := F6 (hall 6 (by decide))
                have hs4 := hall 4 (by decide)
                have hs5 := hall 5 (by decide)
                have hs6 := hall 6 (by decide)
                rw [hs4, if_pos rfl] at F7
                rw [hs5, if_pos rfl] at F8
                rw [hs6, if_pos rfl] at F9
                simp only [setAll, List.setIfInBounds_toArray, List.set_cons_zero, List.set_cons_succ]
                have hEE := hid F10
                have h6 := hid F7
                have h7 := hid F8
                have h8 := hid F9
                have hLL := hid F11
                have HB6 := hid hb5
                clear F0 F1 F2 F3 F4 F5 F6 F7 F8 F9 F10 F11 hall seen hs4 hs5 hs6 hE hr0 hr1 hr2 hLP hb5
                gi_wp2
                exact ⟨hLL.out.1.trans HR2.out.symm, hLL.out.2.trans HD2.out.symm, rfl, cur', (q : Int), (k : Int), HDF2.out, h6.out, h7.out, h8.out, hEE.out.sd, hEE.out.mks, HB6.out⟩
              · have hdn : decide (tq < 0) = false := decide_eq_false hneg
                obtain ⟨j, rfl⟩ : ∃ j : Nat, tq = (j : Int) := ⟨tq.toNat, by omega⟩
                have hj : j < n := by have := HTR.out; omega
                have hj2 : j < cur'.length := by rw [HRI5.out.rd.len]; exact hj
                obtain ⟨s, hs⟩ := get_at hj2
                have hgd : cur'.getD j (0, 0) = s := by rw [List.getD_eq_getElem?_getD, hs]; rfl
                have y0 : W5.cell? ⟨YB, 0, none⟩ = some (.slice (some ⟨G, 0, none⟩) n n) := cell_of_heap HRI5.out.rd.st.yb
                have yl := (Array.getElem?_eq_some_iff.1 HRI5.out.rd.st.yb).1
                have q0 := HRI5.out.rd.sd.c0 hs
                have q1 := HRI5.out.rd.sd.c1 hs
                have gl := HRI5.out.rd.sd.lt
                clear hneg hj2
                by_cases hs1 : s.1 < 0
                · have hd1 : decide (s.1 < 0) = true := decide_eq_true hs1
                  have HDF2 := hid (dirs_new HKK.out HDF.out hfree (by rw [HTO.out]; omega) (by rw [HTO.out, Int.toNat_natCast, hgd]; exact hs1))
                  rw [HTO.out, Int.toNat_natCast] at HDF2
                  have HCN2 := hid (show (wait' ++ [(j : Int)]).length + unr (cur'.set j ((q : Int), (k : Int))) = rest.length + unr cur by
                    have := unr_set (t := ((q : Int), (k : Int))) hs hs1 (by omega)
                    have := HCN.out
                    rw [List.length_append, List.length_singleton]; omega)
                  have HWE := hid (show wait'.length ≤ 64 by have := HCN.out; have := HWLr.out; have := HN1.out; omega)
                  have HRI6 := hid (HRI5.out.reach hj (q : Int) (k : Int))
                  have HK6 := hid ((KeepO.set HRI5.out.rd.sd (.inr (.inr rfl)) (o := j * 2) (.int .i64 (q : Int))).trans (KeepO.set (heap_setCell_same _ _ _ _ _ _ HRI5.out.rd.sd) (.inr (.inr rfl)) (o := j * 2 + 1) (.int .i64 (k : Int))))
                  have fz := HRI5.out.rd.sd.frozen
                  have x0 : W5.cell? ⟨XB, 0, none⟩ = some (.int .i64 (q : Int)) := cell_of_heap HRI5.out.xb
                  have xl := (Array.getElem?_eq_some_iff.1 HRI5.out.xb).1
                  clear hs1 hgd hs hfree HCN HDF
                  gi_upto_region 27 with (fail)
                  obtain ⟨W6, hW6⟩ : ∃ W6, (W5.setCell ⟨G, j * 2, none⟩ (.int .i64 (q : Int))).setCell ⟨G, j * 2 + 1, none⟩ (.int .i64 (k : Int)) = W6 := ⟨_, rfl⟩
                  rw [hW6] at HRI6 HK6 ⊢
                  have HR6 := hid (HK6.out.loop HR5.out)
                  have HD6 := hid (HK6.out.deferred HD5.out)
                  have HKT6 := hid ((KeepO.below HB5.out).trans HK6.out)
                  clear hW6 y0 yl q0 q1 gl fz x0 xl HR5 HD5 HK6 HB5 HRI5
                  have b7 := bl_alloc (bl_refl W6) (.cells #[.int .i64 (j : Int)] 3)
                  have k7 := World.alloc_heap_new W6 (.cells #[.int .i64 (j : Int)] 3)
                  have HRI7 := hid (HRI6.out.mono b7)
                  have HR7 := hid (heap_mono HR6.out b7)
                  have HD7 := hid (heap_mono HD6.out b7)
                  have HKT7 := hid (HKT6.out.trans (KeepO.below b7))
                  have hwle : wait'.length ≤ 100000 := by have := HWE.out; omega
                  obtain ⟨v8, w8', hrun, hq8, hk8, hqb8, hsz8, hold8⟩ := HRI7.out.rd.q.push hi3 hi30 hi31 hi32 hwle HRI7.out.rd.st.old.size (j : Int) ⟨W6.heap.size, 0, none⟩ 1 (cell_of_heap k7) rfl 22
                  obtain ⟨A8, c8, hv8⟩ := hq8.slice
                  have HRI8 := hid (HRI7.out.push (x := (j : Int)) ⟨by omega, by omega⟩ hq8 hk8 (hold8 w (Nat.le_refl _) HRI7.out.rd.st.old) hqb8)
                  have HK8 := hid ((KeepO.queue HRI7.out.rd.q hk8).trans (KeepO.set (o := 0) (hk8 _ _ (qb_ne HRI7.out.rd.q HRI7.out.rd.wb (by decide)) HRI7.out.rd.wb) (.inr (.inl rfl)) v8))
                  have HR8 := hid (HK8.out.loop HR7.out)
                  have HD8 := hid (HK8.out.deferred HD7.out)
                  have HKT8 := hid (HKT7.out.trans HK8.out)
                  have z0 : W6.cell? ⟨WB, 0, none⟩ = some (.slice A' wait'.length c') := cell_of_heap HRI6.out.rd.wb
                  have zl := (Array.getElem?_eq_some_iff.1 HRI6.out.rd.wb).1
                  have zw := hk8 _ _ (qb_ne HRI7.out.rd.q HRI7.out.rd.wb (by decide)) HRI7.out.rd.wb
                  have z8 : w8'.cell? ⟨WB, 0, none⟩ = some (.slice A' wait'.length c') := cell_of_heap zw
                  have f8 : w8'.frozen? ⟨WB, 0, none⟩ = false := frozen_of_heap zw
                  have l8 := (Array.getElem?_eq_some_iff.1 zw).1
                  subst hv8
                  have HL8 := hid (show (wait' ++ [(j : Int)]).length = (wait' ++ [(j : Int)]).length from rfl)
                  obtain ⟨L, hL⟩ : ∃ L, (wait' ++ [(j : Int)]).length = L := ⟨_, rfl⟩
                  have HLL := hid hL
                  rw [hL] at hrun HRI8 HKT8 HK8 HR8 HD8
                  clear hL zw hq8 hk8 hqb8 hsz8 hold8 k7 b7 HRI6 HRI7 HR6 HD6 HKT6 HR7 HD7 HKT7 HL8
                  gi_wp2_with (gi_at_builtin; refine wpListIn_append_run rfl _ _ 22 rfl _ _ _ _ rfl rfl hrun ?_)
                  exact ⟨HR8.out.trans HR2.out.symm, HD8.out.trans HD2.out.symm, ⟨k + 1, _, _, A8, c8, by have := HKK.out; omega, by rw [around_pre HKK.out, HTO.out], HDF2.out, HCN2.out, by rw [HLL.out]; exact HRI8.out⟩, HKT8.out.type (by decide)⟩
                · have hd1 : decide (s.1 < 0) = false := decide_eq_false hs1
                  have HDF2 := hid (dirs_old HKK.out HDF.out hfree (by rw [HTO.out]; omega) (by rw [HTO.out, Int.toNat_natCast, hgd]; exact hs1))
                  clear hs1 hgd hs hfree
                  gi_wp2
                  exact ⟨HR5.out.trans HR2.out.symm, HD5.out.trans HD2.out.symm, ⟨k + 1, cur', wait', A', c', by have := HKK.out; omega, by rw [around_pre HKK.out, HTO.out], HDF2.out, HCN.out, HRI5.out⟩, KeepT.below HB5.out⟩
            · have hdec : decide (u0 ((q : Int), (k : Int)) < 1) = false := decide_eq_false hfree
              rw [hdec]
              have HDF2 := hid (dirs_skip HKK.out HDF.out hfree)
              clear hfree hdec
              gi_wp2
              exact ⟨HR5.out.trans HR2.out.symm, HD5.out.trans HD2.out.symm, ⟨k + 1, cur', wait', A', c', by have := HKK.out; omega, by rw [around_pre HKK.out, HTO.out], HDF2.out, HCN.out, HRI5.out⟩, KeepT.below HB5.out⟩
          case done =>
            rintro D' xs W rfl rfl ⟨k, cur', wait', A', c', hk4, hpre, hdf, hcount, hri⟩ hdd
            have hk : k = 4 := by
              have := congrArg List.length hpre
              rw [List.length_take] at this
              simp [aroundL] at this
              omega
            subst hk
            have hgo : dirsF u0 wd hg0 (q : Int) 4 0 cur rest = .go cur' wait' := by rw [← hdf]; rfl
            obtain ⟨m', rfl⟩ : ∃ m', m = m' + 1 := ⟨m - 1, by have := HLE.out; omega⟩
            have HJ := hid (show ∃ cur wait sv, Rd w G YB WB FB RP n cur wait sv ({ target := .collected W3.heap.size, args := #[] } :: D) W ∧ reachF u0 wd hg0 keep m' cur wait = reachU u0 wd hg0 want keep ∧ wait.length + unr cur + 1 ≤ m' ∧ m' ≤ n + 1 from
              ⟨cur', wait', _, { hri.rd with mks := MarksOk.push HRI.out.rd.mks hri.rd.mks (Nat.le_refl _) hw3 hdd }, by
                rw [← HRF.out]
                conv => rhs; unfold reachF
                rw [HKQ.out, if_neg (by decide), hgo], by have := HLE.out; rw [List.length_cons] at this; omega, by have := HMN.out; omega⟩)
            clear hri hdf hcount hgo hpre hdd HRI
            simp only
            go_wp2
            refine HK.out m' (fun s => Array.getD ?tt s undef) ?tt _ _ ?_ HJ.out (by omega)
            simp only [setAll, List.setIfInBounds_toArray, List.set_cons_zero, List.set_cons_succ]
            rfl
          case stop =>
            rintro D' co pre W rfl ⟨rfl, cur', x, y, hst, g0, g1, g2, hsd, hmk, hold⟩ hdd
            go_wp2
            refine reach_end (cur := cur') (x := x) (y := y) (o := true) (D := { target := .collected W3.heap.size, args := #[] } :: D) ?_ rfl (MarksOk.push HRI.out.rd.mks hmk (Nat.le_refl _) hw3 hdd) rfl rfl rfl g0 g1 g2 hsd hold
            obtain ⟨m', rfl⟩ : ∃ m', m = m' + 1 := ⟨m - 1, by have := HLE.out; omega⟩
            rw [← HRF.out]
            unfold reachF
            rw [HKQ.out, if_neg (by decide), hst]

end Go.Proofs.Ytlkoadcbolkhoaa
