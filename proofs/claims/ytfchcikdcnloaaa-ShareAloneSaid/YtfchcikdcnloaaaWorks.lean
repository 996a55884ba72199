/- The law's examples hold. -/
import Derived.Test.YtfchcikdcnloaaaEqs
namespace Go.Proofs.Ytfchcikdcnloaaa
open Go Go.RowKit Go.Proofs
attribute [local go_sem] cell_grow frozen_grow

/-- A slice that a composite literal has made. -/
theorem builtInts {w v : World} {t : TypeId} {l : List Int} {cs : Array Value} {n : Nat} (hb : Below (w.alloc (.cells cs t)).heap.size (w.alloc (.cells cs t)) v) (hn : n = l.length := by rfl) (hcs : cs = (l.map (Value.int .i64)).toArray := by rfl) :
    Ints v (.slice (some ⟨w.heap.size, 0, none⟩) n n) l := by
  subst hn hcs
  have h := new_cells hb
  refine .inr ⟨w.heap.size, 0, l.length, rfl, by simp, by have := hb.size; simp at this; omega, fun i u hi => ?_⟩
  rw [Nat.zero_add, h.1 i]
  simp [hi]

theorem know_lo : divLo [53, 24, 23] 50 10 [6, 2, 2] = (48, 5) := by kernel_rfl
theorem know_hi : divHi [53, 24, 23] 50 10 [6, 2, 2] = (106, 11) := by kernel_rfl

/-- The value is a pointer to a box of the call's own, which holds these cells. -/
def BoxAt (base : Nat) (W : World) (v : Value) (t : TypeId) (cs : Array Value) : Prop := ∃ B, v = .pointer (some ⟨B, 0, none⟩) ∧ base ≤ B ∧ W.heap[B]? = some (.cells cs t (0, 0))
theorem BoxAt.mono {base : Nat} {W W' : World} {v : Value} {t : TypeId} {cs : Array Value} (h : BoxAt base W v t cs) (hb : Below W.heap.size W W') : BoxAt base W' v t cs := by
  obtain ⟨B, h1, h2, h3⟩ := h
  exact ⟨B, h1, h2, heap_mono h3 hb⟩

theorem BoxAt.new {base : Nat} {W : World} {t : TypeId} {cs : Array Value} (h : base ≤ W.heap.size) : BoxAt base (W.alloc (.cells cs t)) (.pointer (some ⟨W.heap.size, 0, none⟩)) t cs := ⟨_, rfl, h, World.alloc_heap_new _ _⟩
theorem BoxAt.ne_new {base : Nat} {W : World} {v : Value} {t : TypeId} {cs : Array Value} (h : BoxAt base W v t cs) : .pointer (some ⟨W.heap.size, 0, none⟩) ≠ v := by
  obtain ⟨B, h1, h2, h3⟩ := h
  have := (Array.getElem?_eq_some_iff.1 h3).1
  rintro rfl
  injection h1 with h1
  injection h1 with h1
  injection h1 with h1
  omega

theorem BoxAt.stored2 {base : Nat} {W : World} {v : Value} {t : TypeId} {x y : Value} {B : Nat} (h1 : v = .pointer (some ⟨B, 0, none⟩)) (h2 : base ≤ B) (h3 : W.heap[B]? = some (.cells #[x, y] t (0, 0))) (x' y' : Value) :
    BoxAt base ((W.setCell ⟨B, 0, none⟩ x').setCell ⟨B, 1, none⟩ y') v t #[x', y'] ∧ ∀ v' t' cs, BoxAt base W v' t' cs → v' ≠ .pointer (some ⟨B, 0, none⟩) → BoxAt base ((W.setCell ⟨B, 0, none⟩ x').setCell ⟨B, 1, none⟩ y') v' t' cs := by
  refine ⟨⟨B, h1, h2, ?_⟩, ?_⟩
  · simp only [World.setCell, Array.getElem?_modify, if_true, h3]
    rfl
  · rintro v' t' cs ⟨C, e1, e2, e3⟩ hne
    have hCB : C ≠ B := by rintro rfl; exact hne e1
    exact ⟨C, e1, e2, heap_grown (heap_grown e3 (grown_set _ _ _ _) hCB) (grown_set _ _ _ _) hCB⟩

set_option maxRecDepth 100000 in
set_option maxHeartbeats 4000000 in
theorem works_any (w : World) : Calls Try.prog 18 #[] w fun e w' => e = .returned (.bool true) ∧ Below w.heap.size w w' := by
  go_enter Try.func18, Try.ntmps18
  go_wp2_with fail
  refine (pool_any 50 _).mono ?_
  rintro e w1 ⟨⟨vp, rfl, hI1⟩, hb1⟩
  go_wp2_with fail
  refine (tied_any _).mono ?_
  rintro e w2 ⟨⟨vt, rfl, hI2⟩, hb2⟩
  have hB2 := bl_trans hb1 hb2
  obtain ⟨Ap, cp, rfl⟩ := hI1.slice
  obtain ⟨At, ct, rfl⟩ := hI2.slice
  have hI1' := hI1.mono hb2
  simp only [List.length_cons, List.length_nil, Nat.zero_add, Nat.reduceAdd] at hI1' hI2
  clear hI1
  go_wp2_with fail
  obtain ⟨w3, hw3⟩ : ∃ w3, (w2.alloc (.cells #[.slice Ap 3 cp, .int .i64 50, .int .i64 10] 24)).alloc (.cells #[.slice At 3 ct, .int .i64 50, .int .i64 4] 24) = w3 := ⟨_, rfl⟩
  have hb3 : Below w2.heap.size w2 w3 := by rw [← hw3]; exact bl_alloc (bl_alloc (bl_refl _) _) _
  have HP : Hid (∀ W, Below w3.heap.size w3 W → Ints W (.slice Ap 3 cp) [53, 24, 23] ∧ Ints W (.slice At 3 ct) [10, 10, 10] ∧
      (∀ i, W.cell? ⟨w2.heap.size, i, none⟩ = #[Value.slice Ap 3 cp, .int .i64 50, .int .i64 10][i]?) ∧ (∀ i, W.cell? ⟨w2.heap.size + 1, i, none⟩ = #[Value.slice At 3 ct, .int .i64 50, .int .i64 4][i]?) ∧ w2.heap.size + 1 < W.heap.size) := fun W hW => by
    have hW2 := bl_trans hb3 hW
    rw [← hw3] at hW
    have h1 := (new_cells (w := w2) (bl_trans (bl_alloc (bl_refl _) _) hW)).1
    have h2 := (new_cells (w := w2.alloc _) hW).1
    rw [World.size_alloc] at h2
    have := hW.size
    simp only [World.size_alloc] at this
    exact ⟨hI1'.mono hW2, hI2.mono hW2, h1, h2, by omega⟩
  rw [hw3]
  have hB3 := bl_trans hB2 hb3
  clear hw3 hI1' hI2 hb1 hb2 hb3 hB2
  obtain ⟨hp3, ht3, hcp3, hct3, hz3⟩ := HP.out w3 (bl_refl _)
  refine (order_any _ 50 10 _ _ (by simp) hp3).mono ?_
  rintro e w4 ⟨⟨vo, rfl, hIo⟩, hb4⟩
  rw [know_order] at hIo
  rw [know_p 50 (.inl rfl)]
  obtain ⟨hp4, ht4, hcp4, hct4, hz4⟩ := HP.out w4 hb4
  clear hp3 ht3 hcp3 hct3 hz3
  go_wp2_with fail
  refine (shares_any _ 50 10 _ _ (by simp) hp4).mono ?_
  rintro e w5 ⟨⟨va, rfl, hIa⟩, hb5⟩
  rw [know_a] at hIa
  rw [know_p 50 (.inl rfl)]
  have hIo5 := hIo.mono hb5
  clear hIo hp4 ht4 hcp4 hct4 hz4
  have hb35 := bl_trans hb4 hb5
  go_wp2_with fail
  refine (pool_any 1 _).mono ?_
  rintro e w6 ⟨⟨v1, rfl, hI1⟩, hb6⟩
  have hIo6 := hIo5.mono hb6
  have hIa6 := hIa.mono hb6
  have hb36 := bl_trans hb35 hb6
  go_wp2_with fail
  refine (shares_any _ 1 10 _ _ (by simp) hI1).mono ?_
  rintro e w7 ⟨⟨vb, rfl, hIb⟩, hb7⟩
  rw [know_b] at hIb
  rw [know_p 1 (.inr rfl)]
  have hIo7 := hIo6.mono hb7
  have hIa7 := hIa6.mono hb7
  have hb37 := bl_trans hb36 hb7
  have hB7 := bl_trans hB3 hb37
  clear hI1 hIo5 hIo6 hIa hIa6 hb4 hb5 hb6 hb7 hb35 hb36 hB3
  have HL : Hid (Ints w7 vo [0, 1, 2, 0, 0, 1, 2, 0, 0, 0] ∧ Ints w7 va [6, 2, 2] ∧ Ints w7 vb [5, 3, 2]) := ⟨hIo7, hIa7, hIb⟩
  clear hIo7 hIa7 hIb
  go_wp2
  refine wp_region_vals [39, 40, 41, 42, 43, 44, 45, 46, 9, 10] (fun seen u W => (seen 0 = true → u 39 = .agg #[.slice Ap 3 cp, .int .i64 50, .int .i64 10]) ∧ (seen 1 = true → Ints W (u 40) [5, 3, 2]) ∧ (seen 2 = true → Ints W (u 41) [5, 3, 2]) ∧ (seen 3 = true → u 42 = .int .i64 22) ∧
    (seen 4 = true → u 43 = .agg #[.slice At 3 ct, .int .i64 50, .int .i64 4]) ∧ (seen 5 = true → Ints W (u 44) [1, 1, 2]) ∧ (seen 6 = true → Ints W (u 45) [1, 1, 2]) ∧ (seen 7 = true → u 46 = .int .i64 0) ∧ (seen 8 = true → u 9 = .int .i64 22) ∧ (seen 9 = true → u 10 = .int .i64 0))
    (by kernel_rfl) (by kernel_rfl) (by kernel_rfl) (by simp) (by simp) ?_ ?_
  · intro i o ho seen a' w8 hb8 ⟨F0, F1, F2, F3, F4, F5, F6, F7, F8, F9⟩ hv hsi hdep
    obtain ⟨hp8, ht8, hcp8, hct8, hz8⟩ := HP.out w8 (bl_trans hb37 hb8)
    rcases i with _ | _ | _ | _ | _ | _ | _ | _ | _ | _ | i <;> simp only [List.getElem?_cons_zero, List.getElem?_cons_succ, List.getElem?_nil, Option.some.injEq, reduceCtorEq] at ho <;> subst ho
    · have h1 := val_at (hv 1 (by simp))
      simp [valsOf] at h1
      refine wp_value (.agg #[.slice Ap 3 cp, .int .i64 50, .int .i64 10]) (w' := w8) (by simp [execOp, h1, go_sem, hcp8]) ⟨_, rfl, hb8, ?_⟩
      simp
      exact ⟨F1, F2, F3, F4, F5, F6, F7, F8, F9⟩
    · have hbn : Below w8.heap.size w8 (w8.alloc (.cells #[.int .i64 5, .int .i64 3, .int .i64 2] 2)) := bl_alloc (bl_refl _) _
      have hI := build3 w8 _ 5 3 2 (bl_refl _)
      refine wp_value (.slice (some ⟨w8.heap.size, 0, none⟩) 3 3) (w' := w8.alloc (.cells #[.int .i64 5, .int .i64 3, .int .i64 2] 2)) (by simp [execOp, go_sem]) ⟨_, rfl, bl_trans hb8 hbn, ?_⟩
      simp
      exact ⟨F0, hI, (fun h => (F2 h).mono hbn), F3, F4, (fun h => (F5 h).mono hbn), (fun h => (F6 h).mono hbn), F7, F8, F9⟩
    · have hd := hdep ⟨1, .data⟩ (by simp) rfl
      refine wp_calls (f := 49) (args := #[valsOf a' 40]) (w' := w8) (by simp [go_sem, valsOf]) (of_any _ _) ?_
      rintro e w9 ⟨rfl, rfl⟩
      refine ⟨_, rfl, _, rfl, hb8, ?_⟩
      simp
      exact ⟨F0, F1, (F1 hd), F3, F4, F5, F6, F7, F8, F9⟩
    · have hd := hdep ⟨0, .data⟩ (by simp) rfl
      have hd2 := hdep ⟨2, .data⟩ (by simp) rfl
      have e1 := val_at (F0 hd)
      refine wp_calls (f := 21) (args := #[.agg #[.slice Ap 3 cp, .int .i64 50, .int .i64 10], valsOf a' 41]) (w' := w8) (by simp [go_sem, valsOf, e1]) (checkShares_any _ 50 10 [5, 3, 2] _ _ _ (by simp) (by simp) hp8 (F2 hd2)) ?_
      rintro e w9 ⟨rfl, hb9⟩
      refine ⟨_, rfl, _, rfl, bl_trans hb8 hb9, ?_⟩
      simp
      exact ⟨F0, (fun h => (F1 h).mono hb9), (fun h => (F2 h).mono hb9), know_e4, F4, (fun h => (F5 h).mono hb9), (fun h => (F6 h).mono hb9), F7, F8, F9⟩
    · have h1 := val_at (hv 2 (by simp))
      simp [valsOf] at h1
      refine wp_value (.agg #[.slice At 3 ct, .int .i64 50, .int .i64 4]) (w' := w8) (by simp [execOp, h1, go_sem, hct8]) ⟨_, rfl, hb8, ?_⟩
      simp
      exact ⟨F0, F1, F2, F3, F5, F6, F7, F8, F9⟩
    · have hbn : Below w8.heap.size w8 (w8.alloc (.cells #[.int .i64 1, .int .i64 1, .int .i64 2] 2)) := bl_alloc (bl_refl _) _
      have hI := build3 w8 _ 1 1 2 (bl_refl _)
      refine wp_value (.slice (some ⟨w8.heap.size, 0, none⟩) 3 3) (w' := w8.alloc (.cells #[.int .i64 1, .int .i64 1, .int .i64 2] 2)) (by simp [execOp, go_sem]) ⟨_, rfl, bl_trans hb8 hbn, ?_⟩
      simp
      exact ⟨F0, (fun h => (F1 h).mono hbn), (fun h => (F2 h).mono hbn), F3, F4, hI, (fun h => (F6 h).mono hbn), F7, F8, F9⟩
    · have hd := hdep ⟨5, .data⟩ (by simp) rfl
      refine wp_calls (f := 49) (args := #[valsOf a' 44]) (w' := w8) (by simp [go_sem, valsOf]) (of_any _ _) ?_
      rintro e w9 ⟨rfl, rfl⟩
      refine ⟨_, rfl, _, rfl, hb8, ?_⟩
      simp
      exact ⟨F0, F1, F2, F3, F4, F5, (F5 hd), F7, F8, F9⟩
    · have hd := hdep ⟨4, .data⟩ (by simp) rfl
      have hd2 := hdep ⟨6, .data⟩ (by simp) rfl
      have e1 := val_at (F4 hd)
      refine wp_calls (f := 21) (args := #[.agg #[.slice At 3 ct, .int .i64 50, .int .i64 4], valsOf a' 45]) (w' := w8) (by simp [go_sem, valsOf, e1]) (checkShares_any _ 50 4 [1, 1, 2] _ _ _ (by simp) (by simp) ht8 (F6 hd2)) ?_
      rintro e w9 ⟨rfl, hb9⟩
      refine ⟨_, rfl, _, rfl, bl_trans hb8 hb9, ?_⟩
      simp
      exact ⟨F0, (fun h => (F1 h).mono hb9), (fun h => (F2 h).mono hb9), F3, F4, (fun h => (F5 h).mono hb9), (fun h => (F6 h).mono hb9), know_e5, F8, F9⟩
    · have hd := hdep ⟨3, .data⟩ (by simp) rfl
      have e1 := val_at (F3 hd)
      refine wp_value (.int .i64 22) (w' := w8) (by simp [execOp, e1, go_sem]) ⟨_, rfl, hb8, ?_⟩
      simp
      exact ⟨F0, F1, F2, F3, F4, F5, F6, F7, F9⟩
    · have hd := hdep ⟨7, .data⟩ (by simp) rfl
      have e1 := val_at (F7 hd)
      refine wp_value (.int .i64 0) (w' := w8) (by simp [execOp, e1, go_sem]) ⟨_, rfl, hb8, ?_⟩
      simp
      exact ⟨F0, F1, F2, F3, F4, F5, F6, F7, F8⟩
  intro u w8 hb8 seen hall ⟨F0, F1, F2, F3, F4, F5, F6, F7, F8, F9⟩
  have e0 := F0 (hall 0 (by decide))
  have e3 := F3 (hall 3 (by decide))
  have e4 := F4 (hall 4 (by decide))
  have e7 := F7 (hall 7 (by decide))
  have e8 := F8 (hall 8 (by decide))
  have e9 := F9 (hall 9 (by decide))
  clear F0 F1 F2 F3 F4 F5 F6 F7 F8 F9 hall
  simp only [setAll, e0, e3, e4, e7, e8, e9]
  obtain ⟨u40, h40⟩ : ∃ x, u 40 = x := ⟨_, rfl⟩
  obtain ⟨u41, h41⟩ : ∃ x, u 41 = x := ⟨_, rfl⟩
  obtain ⟨u44, h44⟩ : ∃ x, u 44 = x := ⟨_, rfl⟩
  obtain ⟨u45, h45⟩ : ∃ x, u 45 = x := ⟨_, rfl⟩
  rw [h40, h41, h44, h45]
  clear h40 h41 h44 h45 e0 e3 e4 e7 e8 e9
  have hb38 := bl_trans hb37 hb8
  have hB8 := bl_trans hB7 hb8
  clear hb37 hB7
  go_wp2
  refine wp_region_vals [48, 49, 50, 51, 47, 52, 53, 54, 11, 12, 13] (fun seen u W => (seen 0 = true → u 48 = .agg #[.slice Ap 3 cp, .int .i64 50, .int .i64 10]) ∧
    (seen 1 = true → seen 3 = false → Ints W (u 49) [6, 2, 2]) ∧
    (seen 2 = true → seen 3 = false → Ints W (u 50) [6, 2, 2]) ∧
    (seen 3 = true → u 51 = .tuple #[.agg #[.int .i64 48, .int .i64 5], .agg #[.int .i64 106, .int .i64 11], .int .i64 0]) ∧
    (seen 4 = true → u 47 = .tuple #[.agg #[.int .i64 48, .int .i64 5], .agg #[.int .i64 106, .int .i64 11], .int .i64 0]) ∧
    (seen 5 = true → u 52 = .agg #[.int .i64 48, .int .i64 5]) ∧
    (seen 6 = true → u 53 = .agg #[.int .i64 106, .int .i64 11]) ∧
    (seen 7 = true → u 54 = .int .i64 0) ∧
    (seen 8 = true → BoxAt w8.heap.size W (u 11) 39 (if seen 10 = true then #[.int .i64 48, .int .i64 5] else #[.int .i64 0, .int .i64 0])) ∧
    (seen 9 = true → BoxAt w8.heap.size W (u 12) 39 (if seen 11 = true then #[.int .i64 106, .int .i64 11] else #[.int .i64 0, .int .i64 0])) ∧
    (seen 10 = true → seen 8 = true) ∧
    (seen 11 = true → seen 9 = true) ∧
    (seen 12 = true → u 13 = .int .i64 0) ∧
    (seen 4 = true → seen 3 = true) ∧
    (seen 5 = true → seen 3 = true) ∧
    (seen 6 = true → seen 3 = true) ∧
    (seen 8 = true → seen 9 = true → u 11 ≠ u 12))
    (by kernel_rfl) (by kernel_rfl) (by kernel_rfl) (by simp) (by simp) ?_ ?_
  · intro i o ho seen a' w9 hb9 ⟨F0, F1, F2, F3, F4, F5, F6, F7, F8, F9, F10, F11, F12, F13, F14, F15, F16⟩ hv hsi hdep
    obtain ⟨hp9, ht9, hcp9, hct9, hz9⟩ := HP.out w9 (bl_trans hb38 hb9)
    have hv1 := hv 1 (by simp)
    clear hv
    rcases i with _ | _ | _ | _ | _ | _ | _ | _ | _ | _ | _ | _ | _ | i <;> simp only [List.getElem?_cons_zero, List.getElem?_cons_succ, List.getElem?_nil, Option.some.injEq, reduceCtorEq] at ho <;> subst ho
    · simp [valsOf] at hv1
      refine wp_value (.agg #[.slice Ap 3 cp, .int .i64 50, .int .i64 10]) (w' := w9) (by simp [execOp, hv1, go_sem, hcp9]) ⟨_, rfl, hb9, ?_⟩
      exact ⟨by simp, by simpa using F1, by simpa using F2, by simpa using F3, by simpa using F4, by simpa using F5, by simpa using F6, by simpa using F7, by simpa using F8, by simpa using F9, by simpa using F10, by simpa using F11, by simpa using F12, by simpa using F13, by simpa using F14, by simpa using F15, by simpa using F16⟩
    · have hg : Below w9.heap.size w9 (w9.alloc (.cells #[.int .i64 6, .int .i64 2, .int .i64 2] 2)) := bl_alloc (bl_refl _) _
      have hI := build3 w9 _ 6 2 2 (bl_refl _)
      refine wp_value (.slice (some ⟨w9.heap.size, 0, none⟩) 3 3) (w' := w9.alloc (.cells #[.int .i64 6, .int .i64 2, .int .i64 2] 2)) (by simp [execOp, go_sem]) ⟨_, rfl, bl_trans hb9 hg, ?_⟩
      exact ⟨by simpa using F0, by simpa using fun _ => hI, by simpa using (fun h h' => (F2 h h').mono hg), by simpa using F3, by simpa using F4, by simpa using F5, by simpa using F6, by simpa using F7, by simpa using (fun h => (F8 h).mono hg), by simpa using (fun h => (F9 h).mono hg), by simpa using F10, by simpa using F11, by simpa using F12, by simpa using F13, by simpa using F14, by simpa using F15, by simpa using F16⟩
    · have d1 := hdep ⟨1, .data⟩ (by simp) rfl
      refine wp_calls (f := 49) (args := #[valsOf a' 49]) (w' := w9) (by simp [go_sem, valsOf]) (of_any _ _) ?_
      rintro e w10 ⟨rfl, rfl⟩
      refine ⟨_, rfl, _, rfl, hb9, ?_⟩
      exact ⟨by simpa using F0, by simpa using F1, by simpa using F1 d1, by simpa using F3, by simpa using F4, by simpa using F5, by simpa using F6, by simpa using F7, by simpa using F8, by simpa using F9, by simpa using F10, by simpa using F11, by simpa using F12, by simpa using F13, by simpa using F14, by simpa using F15, by simpa using F16⟩
    · have d0 := hdep ⟨0, .data⟩ (by simp) rfl
      have d2 := hdep ⟨2, .data⟩ (by simp) rfl
      have e0 := val_at (F0 d0)
      have hd := divisors_any [53, 24, 23] 50 10 [6, 2, 2] (.slice Ap 3 cp) (valsOf a' 50) w9 (by simp) (by simp) hp9 (F2 d2 hsi)
      rw [know_lo, know_hi, know_e6] at hd
      refine wp_calls (f := 29) (args := #[.agg #[.slice Ap 3 cp, .int .i64 50, .int .i64 10], valsOf a' 50]) (w' := w9) (by simp [go_sem, valsOf, e0]) hd ?_
      rintro e w10 ⟨rfl, hg⟩
      refine ⟨_, rfl, _, rfl, bl_trans hb9 hg, ?_⟩
      exact ⟨by simpa using F0, by simp, by simp, by simp [encQ], by simpa using F4, by simpa using F5, by simpa using F6, by simpa using F7, by simpa using (fun h => (F8 h).mono hg), by simpa using (fun h => (F9 h).mono hg), by simpa using F10, by simpa using F11, by simpa using F12, by simp, by simp, by simp, by simpa using F16⟩
    · have d3 := hdep ⟨3, .data⟩ (by simp) rfl
      have e0 := val_at (F3 d3)
      refine wp_value (.tuple #[.agg #[.int .i64 48, .int .i64 5], .agg #[.int .i64 106, .int .i64 11], .int .i64 0]) (w' := w9) (by simp [execOp, go_sem, e0]) ⟨_, rfl, hb9, ?_⟩
      exact ⟨by simpa using F0, by simpa using F1, by simpa using F2, by simpa using F3, by simp, by simpa using F5, by simpa using F6, by simpa using F7, by simpa using F8, by simpa using F9, by simpa using F10, by simpa using F11, by simpa using F12, by simpa using d3, by simpa using F14, by simpa using F15, by simpa using F16⟩
    · have d4 := hdep ⟨4, .data⟩ (by simp) rfl
      have e0 := val_at (F4 d4)
      refine wp_value (.agg #[.int .i64 48, .int .i64 5]) (w' := w9) (by simp [execOp, go_sem, e0]) ⟨_, rfl, hb9, ?_⟩
      exact ⟨by simpa using F0, by simpa using F1, by simpa using F2, by simpa using F3, by simpa using F4, by simp, by simpa using F6, by simpa using F7, by simpa using F8, by simpa using F9, by simpa using F10, by simpa using F11, by simpa using F12, by simpa using F13, by simpa using F13 d4, by simpa using F15, by simpa using F16⟩
    · have d4 := hdep ⟨4, .data⟩ (by simp) rfl
      have e0 := val_at (F4 d4)
      refine wp_value (.agg #[.int .i64 106, .int .i64 11]) (w' := w9) (by simp [execOp, go_sem, e0]) ⟨_, rfl, hb9, ?_⟩
      exact ⟨by simpa using F0, by simpa using F1, by simpa using F2, by simpa using F3, by simpa using F4, by simpa using F5, by simp, by simpa using F7, by simpa using F8, by simpa using F9, by simpa using F10, by simpa using F11, by simpa using F12, by simpa using F13, by simpa using F14, by simpa using F13 d4, by simpa using F16⟩
    · have d4 := hdep ⟨4, .data⟩ (by simp) rfl
      have e0 := val_at (F4 d4)
      refine wp_value (.int .i64 0) (w' := w9) (by simp [execOp, go_sem, e0]) ⟨_, rfl, hb9, ?_⟩
      exact ⟨by simpa using F0, by simpa using F1, by simpa using F2, by simpa using F3, by simpa using F4, by simpa using F5, by simpa using F6, by simp, by simpa using F8, by simpa using F9, by simpa using F10, by simpa using F11, by simpa using F12, by simpa using F13, by simpa using F14, by simpa using F15, by simpa using F16⟩
    · have hg : Below w9.heap.size w9 (w9.alloc (.cells #[.int .i64 0, .int .i64 0] 39)) := bl_alloc (bl_refl _) _
      have hs : seen 10 = false := by
        cases h : seen 10 with
        | false => rfl
        | true => have := F10 h; rw [this] at hsi; cases hsi
      refine wp_value (.pointer (some ⟨w9.heap.size, 0, none⟩)) (w' := w9.alloc (.cells #[.int .i64 0, .int .i64 0] 39)) (by simp [execOp, go_sem]) ⟨_, rfl, bl_trans hb9 hg, ?_⟩
      exact ⟨by simpa using F0, by simpa using (fun h h' => (F1 h h').mono hg), by simpa using (fun h h' => (F2 h h').mono hg), by simpa using F3, by simpa using F4, by simpa using F5, by simpa using F6, by simpa using F7, by simpa [hs] using BoxAt.new hb9.size, by simpa using (fun h => (F9 h).mono hg), by simp, by simpa using F11, by simpa using F12, by simpa using F13, by simpa using F14, by simpa using F15, by simpa using fun h => (F9 h).ne_new⟩
    · have hg : Below w9.heap.size w9 (w9.alloc (.cells #[.int .i64 0, .int .i64 0] 39)) := bl_alloc (bl_refl _) _
      have hs : seen 11 = false := by
        cases h : seen 11 with
        | false => rfl
        | true => have := F11 h; rw [this] at hsi; cases hsi
      refine wp_value (.pointer (some ⟨w9.heap.size, 0, none⟩)) (w' := w9.alloc (.cells #[.int .i64 0, .int .i64 0] 39)) (by simp [execOp, go_sem]) ⟨_, rfl, bl_trans hb9 hg, ?_⟩
      exact ⟨by simpa using F0, by simpa using (fun h h' => (F1 h h').mono hg), by simpa using (fun h h' => (F2 h h').mono hg), by simpa using F3, by simpa using F4, by simpa using F5, by simpa using F6, by simpa using F7, by simpa using (fun h => (F8 h).mono hg), by simpa [hs] using BoxAt.new hb9.size, by simpa using F10, by simp, by simpa using F12, by simpa using F13, by simpa using F14, by simpa using F15, by simpa using fun h => ((F8 h).ne_new).symm⟩
    · have d8 := hdep ⟨8, .data⟩ (by simp) rfl
      have d5 := hdep ⟨5, .data⟩ (by simp) rfl
      have e0 := F5 d5
      have h3 := F14 d5
      have e1 := F8 d8
      rw [hsi] at e1
      simp only [Bool.false_eq_true, if_false] at e1
      obtain ⟨B, hB, hB2, hB3⟩ := e1
      have ev := val_at e0
      have ep := val_at hB
      have c0 := cell_of_heap (i := 0) hB3
      have c1 := cell_of_heap (i := 1) hB3
      have f0 := fun i => frozen_of_heap (i := i) hB3
      have hst := BoxAt.stored2 hB hB2 hB3 (.int .i64 48) (.int .i64 5)
      have hbs := bl_set (bl_set hb9 (o := 0) (.int .i64 48) hB2) (o := 1) (.int .i64 5) hB2
      refine wp_effect (w' := (w9.setCell ⟨B, 0, none⟩ (.int .i64 48)).setCell ⟨B, 1, none⟩ (.int .i64 5)) (by simp [execOp, go_sem, ev, ep, c0, c1, f0]) ⟨_, rfl, hbs, ?_⟩
      exact ⟨by simpa using F0, by simp [h3], by simp [h3], by simpa using F3, by simpa using F4, by simpa using F5, by simpa using F6, by simpa using F7, by simpa using fun _ => hst.1, by simpa using fun h => hst.2 _ _ _ (F9 h) (fun e => F16 d8 h (hB.trans e.symm)), by simpa using d8, by simpa using F11, by simpa using F12, by simpa using F13, by simpa using F14, by simpa using F15, by simpa using F16⟩
    · have d9 := hdep ⟨9, .data⟩ (by simp) rfl
      have d6 := hdep ⟨6, .data⟩ (by simp) rfl
      have e0 := F6 d6
      have h3 := F15 d6
      have e1 := F9 d9
      rw [hsi] at e1
      simp only [Bool.false_eq_true, if_false] at e1
      obtain ⟨B, hB, hB2, hB3⟩ := e1
      have ev := val_at e0
      have ep := val_at hB
      have c0 := cell_of_heap (i := 0) hB3
      have c1 := cell_of_heap (i := 1) hB3
      have f0 := fun i => frozen_of_heap (i := i) hB3
      have hst := BoxAt.stored2 hB hB2 hB3 (.int .i64 106) (.int .i64 11)
      have hbs := bl_set (bl_set hb9 (o := 0) (.int .i64 106) hB2) (o := 1) (.int .i64 11) hB2
      refine wp_effect (w' := (w9.setCell ⟨B, 0, none⟩ (.int .i64 106)).setCell ⟨B, 1, none⟩ (.int .i64 11)) (by simp [execOp, go_sem, ev, ep, c0, c1, f0]) ⟨_, rfl, hbs, ?_⟩
      exact ⟨by simpa using F0, by simp [h3], by simp [h3], by simpa using F3, by simpa using F4, by simpa using F5, by simpa using F6, by simpa using F7, by simpa using fun h => hst.2 _ _ _ (F8 h) (fun e => F16 h d9 (e.trans hB.symm)), by simpa using fun _ => hst.1, by simpa using F10, by simpa using d9, by simpa using F12, by simpa using F13, by simpa using F14, by simpa using F15, by simpa using F16⟩
    · have d7 := hdep ⟨7, .data⟩ (by simp) rfl
      have e0 := val_at (F7 d7)
      refine wp_value (.int .i64 0) (w' := w9) (by simp [execOp, go_sem, e0]) ⟨_, rfl, hb9, ?_⟩
      exact ⟨by simpa using F0, by simpa using F1, by simpa using F2, by simpa using F3, by simpa using F4, by simpa using F5, by simpa using F6, by simpa using F7, by simpa using F8, by simpa using F9, by simpa using F10, by simpa using F11, by simp, by simpa using F13, by simpa using F14, by simpa using F15, by simpa using F16⟩
  -- R6 END
  intro u w9 hb9 seen hall ⟨F0, F1, F2, F3, F4, F5, F6, F7, F8, F9, F10, F11, F12, F13, F14, F15, F16⟩
  have e0 := F0 (hall 0 (by decide))
  have e3 := F3 (hall 3 (by decide))
  have e4 := F4 (hall 4 (by decide))
  have e5 := F5 (hall 5 (by decide))
  have e6 := F6 (hall 6 (by decide))
  have e7 := F7 (hall 7 (by decide))
  have e8 := F8 (hall 8 (by decide))
  have e9 := F9 (hall 9 (by decide))
  have e12 := F12 (hall 12 (by decide))
  rw [if_pos (hall 10 (by decide))] at e8
  rw [if_pos (hall 11 (by decide))] at e9
  obtain ⟨B11, h11, h11', h11c⟩ := e8
  obtain ⟨B12, h12, h12', h12c⟩ := e9
  clear F0 F1 F2 F3 F4 F5 F6 F7 F8 F9 F10 F11 F12 F13 F14 F15 F16 hall
  simp only [setAll, e0, e3, e4, e5, e6, e7, e12, h11, h12]
  obtain ⟨u49, h49⟩ : ∃ x, u 49 = x := ⟨_, rfl⟩
  obtain ⟨u50, h50⟩ : ∃ x, u 50 = x := ⟨_, rfl⟩
  rw [h49, h50]
  clear h49 h50 e0 e3 e4 e5 e6 e7 e12 h11 h12
  have hb39 := bl_trans hb38 hb9
  have hB9 := bl_trans hB8 hb9
  have hb79 := bl_trans hb8 hb9
  have HB : Hid (∀ W, Below w9.heap.size w9 W → (∀ i, W.cell? ⟨B11, i, none⟩ = #[Value.int .i64 48, .int .i64 5][i]?) ∧ (∀ i, W.cell? ⟨B12, i, none⟩ = #[Value.int .i64 106, .int .i64 11][i]?) ∧ B11 < W.heap.size ∧ B12 < W.heap.size) := fun W hW =>
    ⟨fun i => cell_of_heap (heap_mono h11c hW), fun i => cell_of_heap (heap_mono h12c hW), (Array.getElem?_eq_some_iff.1 (heap_mono h11c hW)).1, (Array.getElem?_eq_some_iff.1 (heap_mono h12c hW)).1⟩
  clear hb38 hB8 hb8 hb9 h11c h12c h11' h12'
  go_wp2
  refine wp_region_vals [55, 56, 57, 58, 59, 14] (fun seen u W => (seen 0 = true → u 55 = .agg #[.slice Ap 3 cp, .int .i64 50, .int .i64 10]) ∧
    (seen 1 = true → Ints W (u 56) [6, 2, 2]) ∧
    (seen 2 = true → Ints W (u 57) [6, 2, 2]) ∧
    (seen 3 = true → u 58 = .agg #[.int .i64 29, .int .i64 3]) ∧
    (seen 4 = true → u 59 = .int .i64 22) ∧
    (seen 5 = true → u 14 = .int .i64 22))
    (by kernel_rfl) (by kernel_rfl) (by kernel_rfl) (by simp) (by simp) ?_ ?_
  · intro i o ho seen a' wi hbi ⟨F0, F1, F2, F3, F4, F5⟩ hv hsi hdep
    obtain ⟨hp9, ht9, hcp9, hct9, hz9⟩ := HP.out wi (bl_trans hb39 hbi)
    have hv1 := hv 1 (by simp)
    clear hv
    rcases i with _ | _ | _ | _ | _ | _ | i <;> simp only [List.getElem?_cons_zero, List.getElem?_cons_succ, List.getElem?_nil, Option.some.injEq, reduceCtorEq] at ho <;> subst ho
    · simp [valsOf] at hv1
      refine wp_value (.agg #[.slice Ap 3 cp, .int .i64 50, .int .i64 10]) (w' := wi) (by simp [execOp, hv1, go_sem, hcp9]) ⟨_, rfl, hbi, ?_⟩
      exact ⟨by simp, by simpa using F1, by simpa using F2, by simpa using F3, by simpa using F4, by simpa using F5⟩
    · have hg : Below wi.heap.size wi (wi.alloc (.cells #[.int .i64 6, .int .i64 2, .int .i64 2] 2)) := bl_alloc (bl_refl _) _
      have hI := build3 wi _ 6 2 2 (bl_refl _)
      refine wp_value (.slice (some ⟨wi.heap.size, 0, none⟩) 3 3) (w' := wi.alloc (.cells #[.int .i64 6, .int .i64 2, .int .i64 2] 2)) (by simp [execOp, go_sem]) ⟨_, rfl, bl_trans hbi hg, ?_⟩
      exact ⟨by simpa using F0, by simpa using hI, by simpa using (fun h => (F2 h).mono hg), by simpa using F3, by simpa using F4, by simpa using F5⟩
    · have d1 := hdep ⟨1, .data⟩ (by simp) rfl
      refine wp_calls (f := 49) (args := #[valsOf a' 56]) (w' := wi) (by simp [go_sem, valsOf]) (of_any _ _) ?_
      rintro e w10 ⟨rfl, rfl⟩
      refine ⟨_, rfl, _, rfl, hbi, ?_⟩
      exact ⟨by simpa using F0, by simpa using F1, by simpa using F1 d1, by simpa using F3, by simpa using F4, by simpa using F5⟩
    · refine wp_value (.agg #[.int .i64 29, .int .i64 3]) (w' := wi) (by simp [execOp, go_sem]) ⟨_, rfl, hbi, ?_⟩
      exact ⟨by simpa using F0, by simpa using F1, by simpa using F2, by simp, by simpa using F4, by simpa using F5⟩
    · have d0 := hdep ⟨0, .data⟩ (by simp) rfl
      have d2 := hdep ⟨2, .data⟩ (by simp) rfl
      have d3 := hdep ⟨3, .data⟩ (by simp) rfl
      have e0 := val_at (F0 d0)
      have e3 := val_at (F3 d3)
      have hd := checkDivisor_any [53, 24, 23] 50 10 [6, 2, 2] 29 3 (.slice Ap 3 cp) (valsOf a' 57) wi (by simp) (by simp) hp9 (F2 d2)
      rw [know_e7] at hd
      refine wp_calls (f := 31) (args := #[.agg #[.slice Ap 3 cp, .int .i64 50, .int .i64 10], valsOf a' 57, .agg #[.int .i64 29, .int .i64 3]]) (w' := wi) (by simp [go_sem, valsOf, e0, e3]) hd ?_
      rintro e w10 ⟨rfl, hg⟩
      refine ⟨_, rfl, _, rfl, bl_trans hbi hg, ?_⟩
      exact ⟨by simpa using F0, by simpa using (fun h => (F1 h).mono hg), by simpa using (fun h => (F2 h).mono hg), by simpa using F3, by simp, by simpa using F5⟩
    · have d4 := hdep ⟨4, .data⟩ (by simp) rfl
      have e0 := val_at (F4 d4)
      refine wp_value (.int .i64 22) (w' := wi) (by simp [execOp, go_sem, e0]) ⟨_, rfl, hbi, ?_⟩
      exact ⟨by simpa using F0, by simpa using F1, by simpa using F2, by simpa using F3, by simpa using F4, by simp⟩
  intro u w10 hbi seen hall ⟨F0, F1, F2, F3, F4, F5⟩
  have e0 := F0 (hall 0 (by decide))
  have e3 := F3 (hall 3 (by decide))
  have e4 := F4 (hall 4 (by decide))
  have e5 := F5 (hall 5 (by decide))
  clear F0 F1 F2 F3 F4 F5 hall
  simp only [setAll, e0, e3, e4, e5]
  obtain ⟨u56, h56⟩ : ∃ x, u 56 = x := ⟨_, rfl⟩
  obtain ⟨u57, h57⟩ : ∃ x, u 57 = x := ⟨_, rfl⟩
  rw [h56, h57]
  clear h56 h57 e0 e3 e4 e5
  have hb310 := bl_trans hb39 hbi
  have hB10 := bl_trans hB9 hbi
  have hb710 := bl_trans hb79 hbi
  have hb910 := hbi
  clear hbi
  go_wp2
  refine wp_region_vals [60, 61, 62, 63, 64, 15] (fun seen u W => (seen 0 = true → u 60 = .agg #[.slice Ap 3 cp, .int .i64 50, .int .i64 10]) ∧
    (seen 1 = true → Ints W (u 61) [6, 2, 2]) ∧
    (seen 2 = true → Ints W (u 62) [6, 2, 2]) ∧
    (seen 3 = true → u 63 = .agg #[.int .i64 48, .int .i64 5]) ∧
    (seen 4 = true → u 64 = .int .i64 0) ∧
    (seen 5 = true → u 15 = .int .i64 0))
    (by kernel_rfl) (by kernel_rfl) (by kernel_rfl) (by simp) (by simp) ?_ ?_
  · intro i o ho seen a' wi hbi ⟨F0, F1, F2, F3, F4, F5⟩ hv hsi hdep
    obtain ⟨hp9, ht9, hcp9, hct9, hz9⟩ := HP.out wi (bl_trans hb310 hbi)
    have hv1 := hv 1 (by simp)
    clear hv
    rcases i with _ | _ | _ | _ | _ | _ | i <;> simp only [List.getElem?_cons_zero, List.getElem?_cons_succ, List.getElem?_nil, Option.some.injEq, reduceCtorEq] at ho <;> subst ho
    · simp [valsOf] at hv1
      refine wp_value (.agg #[.slice Ap 3 cp, .int .i64 50, .int .i64 10]) (w' := wi) (by simp [execOp, hv1, go_sem, hcp9]) ⟨_, rfl, hbi, ?_⟩
      exact ⟨by simp, by simpa using F1, by simpa using F2, by simpa using F3, by simpa using F4, by simpa using F5⟩
    · have hg : Below wi.heap.size wi (wi.alloc (.cells #[.int .i64 6, .int .i64 2, .int .i64 2] 2)) := bl_alloc (bl_refl _) _
      have hI := build3 wi _ 6 2 2 (bl_refl _)
      refine wp_value (.slice (some ⟨wi.heap.size, 0, none⟩) 3 3) (w' := wi.alloc (.cells #[.int .i64 6, .int .i64 2, .int .i64 2] 2)) (by simp [execOp, go_sem]) ⟨_, rfl, bl_trans hbi hg, ?_⟩
      exact ⟨by simpa using F0, by simpa using hI, by simpa using (fun h => (F2 h).mono hg), by simpa using F3, by simpa using F4, by simpa using F5⟩
    · have d1 := hdep ⟨1, .data⟩ (by simp) rfl
      refine wp_calls (f := 49) (args := #[valsOf a' 61]) (w' := wi) (by simp [go_sem, valsOf]) (of_any _ _) ?_
      rintro e w10 ⟨rfl, rfl⟩
      refine ⟨_, rfl, _, rfl, hbi, ?_⟩
      exact ⟨by simpa using F0, by simpa using F1, by simpa using F1 d1, by simpa using F3, by simpa using F4, by simpa using F5⟩
    · refine wp_value (.agg #[.int .i64 48, .int .i64 5]) (w' := wi) (by simp [execOp, go_sem]) ⟨_, rfl, hbi, ?_⟩
      exact ⟨by simpa using F0, by simpa using F1, by simpa using F2, by simp, by simpa using F4, by simpa using F5⟩
    · have d0 := hdep ⟨0, .data⟩ (by simp) rfl
      have d2 := hdep ⟨2, .data⟩ (by simp) rfl
      have d3 := hdep ⟨3, .data⟩ (by simp) rfl
      have e0 := val_at (F0 d0)
      have e3 := val_at (F3 d3)
      have hd := checkDivisor_any [53, 24, 23] 50 10 [6, 2, 2] 48 5 (.slice Ap 3 cp) (valsOf a' 62) wi (by simp) (by simp) hp9 (F2 d2)
      rw [know_e8] at hd
      refine wp_calls (f := 31) (args := #[.agg #[.slice Ap 3 cp, .int .i64 50, .int .i64 10], valsOf a' 62, .agg #[.int .i64 48, .int .i64 5]]) (w' := wi) (by simp [go_sem, valsOf, e0, e3]) hd ?_
      rintro e w10 ⟨rfl, hg⟩
      refine ⟨_, rfl, _, rfl, bl_trans hbi hg, ?_⟩
      exact ⟨by simpa using F0, by simpa using (fun h => (F1 h).mono hg), by simpa using (fun h => (F2 h).mono hg), by simpa using F3, by simp, by simpa using F5⟩
    · have d4 := hdep ⟨4, .data⟩ (by simp) rfl
      have e0 := val_at (F4 d4)
      refine wp_value (.int .i64 0) (w' := wi) (by simp [execOp, go_sem, e0]) ⟨_, rfl, hbi, ?_⟩
      exact ⟨by simpa using F0, by simpa using F1, by simpa using F2, by simpa using F3, by simpa using F4, by simp⟩
  intro u w11 hbi seen hall ⟨F0, F1, F2, F3, F4, F5⟩
  have e0 := F0 (hall 0 (by decide))
  have e3 := F3 (hall 3 (by decide))
  have e4 := F4 (hall 4 (by decide))
  have e5 := F5 (hall 5 (by decide))
  clear F0 F1 F2 F3 F4 F5 hall
  simp only [setAll, e0, e3, e4, e5]
  obtain ⟨u61, h61⟩ : ∃ x, u 61 = x := ⟨_, rfl⟩
  obtain ⟨u62, h62⟩ : ∃ x, u 62 = x := ⟨_, rfl⟩
  rw [h61, h62]
  clear h61 h62 e0 e3 e4 e5
  have hb311 := bl_trans hb310 hbi
  have hB11 := bl_trans hB10 hbi
  have hb711 := bl_trans hb710 hbi
  have hb911 := bl_trans hb910 hbi
  clear hbi
  obtain ⟨hp11, ht11, hcp11, hct11, hz11⟩ := HP.out w11 hb311
  go_wp2_with fail
  have hcn := count_any [10, 10, 10] 50 4 (.slice At 3 ct) w11 (by simp) ht11
  rw [know_n, know_t] at hcn
  refine hcn.mono ?_
  rintro e w12 ⟨rfl, hb12⟩
  clear hcn hp11 ht11 hcp11 hct11 hz11
  have hb312 := bl_trans hb311 hb12
  obtain ⟨hp12, ht12, hcp12, hct12, hz12⟩ := HP.out w12 hb312
  go_wp2_with fail
  have hsp := span_any [10, 10, 10] 50 4 1 (.slice At 3 ct) w12 (by simp) ht12
  rw [know_s, know_se] at hsp
  refine hsp.mono ?_
  rintro e w13 ⟨rfl, hb13⟩
  clear hsp hp12 ht12 hcp12 hct12 hz12
  have hb313 := bl_trans hb312 hb13
  obtain ⟨hp13, ht13, hcp13, hct13, hz13⟩ := HP.out w13 hb313
  have hy13 : w2.heap.size < w13.heap.size := by omega
  unfold encQ
  go_wp2_with fail
  have hb313' := bl_trans hb313 (bl_alloc (bl_refl w13) (.cells #[.int .i64 1, .int .i64 2] 47))
  obtain ⟨hp14, ht14, hcp14, hct14, hz14⟩ := HP.out _ hb313'
  have hqu := quota_any [53, 24, 23] 50 10 0 (.slice Ap 3 cp) _ (by simp) hp14
  rw [know_q, know_qe] at hqu
  refine hqu.mono ?_
  rintro e w14 ⟨rfl, hb14⟩
  clear hqu hp13 ht13 hcp13 hct13 hz13 hp14 ht14 hcp14 hct14 hz14 hy13
  have hb1314 := bl_trans (bl_alloc (bl_refl w13) (.cells #[.int .i64 1, .int .i64 2] 47)) hb14
  obtain ⟨hs14, hsf14⟩ := new_cells hb14
  have hsz := hb1314.size
  have hsz' := hb14.size
  rw [World.size_alloc] at hsz'
  have hsz'' : w13.heap.size < w14.heap.size := by omega
  have hb914 := bl_trans hb911 (bl_trans hb12 (bl_trans hb13 hb1314))
  obtain ⟨hB1, hB2, hB1z, hB2z⟩ := HB.out w14 hb914
  have hL14 := bl_trans hb79 hb914
  have hI1 := HL.out.1.mono hL14
  have hI2 := HL.out.2.1.mono hL14
  have hI3 := HL.out.2.2.mono hL14
  have hB14 := bl_trans hB9 hb914
  clear hb914 hL14 HB HL HP hb911 hb12 hb13 hb1314 hb313 hb313' hB9 hb79 hB10 hB11 hb310 hb311 hb710 hb711 hb910 hb312 hb39
  unfold encQ
  go_wp2_with fail
  obtain ⟨w15, hw15⟩ : ∃ w15, w14.alloc (.cells #[.int .i64 5, .int .i64 6] 47) = w15 := ⟨_, rfl⟩
  have hz15 : w15.heap.size = w14.heap.size + 1 := by rw [← hw15]; simp
  have hb15 : Below w14.heap.size w14 w15 := by rw [← hw15]; exact bl_alloc (bl_refl _) _
  have hc15 : (∀ i, w15.cell? ⟨w14.heap.size, i, none⟩ = #[Value.int .i64 5, .int .i64 6][i]?) := by rw [← hw15]; exact (new_cells (bl_refl _)).1
  rw [hw15, ← hz15]
  clear hw15
  have hbA := bl_alloc (bl_refl w15) (.cells #[.int .i64 0, .int .i64 1, .int .i64 2, .int .i64 0, .int .i64 0, .int .i64 1, .int .i64 2, .int .i64 0, .int .i64 0, .int .i64 0] 3)
  refine (eqInts_any [0, 1, 2, 0, 0, 1, 2, 0, 0, 0] [0, 1, 2, 0, 0, 1, 2, 0, 0, 0] _ _ _ (by simp) (by simp) ((hI1.mono hb15).mono hbA) (builtInts (bl_refl _))).mono ?_
  rintro e w16 ⟨rfl, hb16⟩
  have hb1516 := bl_trans hbA hb16
  rw [decide_eq_true rfl]
  go_wp2_with fail
  refine (of_any _ _).mono ?_
  rintro e w17 ⟨rfl, rfl⟩
  go_wp2_with fail
  have hbB := bl_alloc (bl_refl w16) (.cells #[.int .i64 6, .int .i64 2, .int .i64 2] 2)
  refine (eqLongs_any [6, 2, 2] [6, 2, 2] _ _ _ (by simp) (by simp) (((hI2.mono hb15).mono hb1516).mono hbB) (builtInts (bl_refl _))).mono ?_
  rintro e w18 ⟨rfl, hb18⟩
  have hb1618 := bl_trans hbB hb18
  rw [decide_eq_true rfl]
  go_wp2_with fail
  refine (of_any _ _).mono ?_
  rintro e w19 ⟨rfl, rfl⟩
  go_wp2_with fail
  have hbC := bl_alloc (bl_refl w18) (.cells #[.int .i64 5, .int .i64 3, .int .i64 2] 2)
  refine (eqLongs_any [5, 3, 2] [5, 3, 2] _ _ _ (by simp) (by simp) ((((hI3.mono hb15).mono hb1516).mono hb1618).mono hbC) (builtInts (bl_refl _))).mono ?_
  rintro e w20 ⟨rfl, hb20⟩
  have hb1820 := bl_trans hbC hb20
  rw [decide_eq_true rfl]
  have hb1520 := bl_trans hb1516 (bl_trans hb1618 hb1820)
  have hb1420 := bl_trans hb15 hb1520
  have hB20 := bl_trans hB14 hb1420
  have k1 : ∀ i, w20.cell? ⟨B11, i, none⟩ = #[Value.int .i64 48, .int .i64 5][i]? := fun i => (hb1420.cell (p := ⟨B11, i, none⟩) hB1z).trans (hB1 i)
  have k2 : ∀ i, w20.cell? ⟨B12, i, none⟩ = #[Value.int .i64 106, .int .i64 11][i]? := fun i => (hb1420.cell (p := ⟨B12, i, none⟩) hB2z).trans (hB2 i)
  have k3 : ∀ i, w20.cell? ⟨w13.heap.size, i, none⟩ = #[Value.int .i64 1, .int .i64 2][i]? := fun i => (hb1420.cell (p := ⟨w13.heap.size, i, none⟩) hsz'').trans (hs14 i)
  have k4 : ∀ i, w20.cell? ⟨w14.heap.size, i, none⟩ = #[Value.int .i64 5, .int .i64 6][i]? := fun i => (hb1520.cell (p := ⟨w14.heap.size, i, none⟩) (by simp; omega)).trans (hc15 i)
  clear hB1 hB2 hs14 hc15 hI1 hI2 hI3
  go_wp2
  go_ret
  exact ⟨rfl, hB20⟩

end Go.Proofs.Ytfchcikdcnloaaa
