/- BoomKnown: the law's walk. -/
import Derived.Test.YtlkoadcbolkhoaaTurnch
import Derived.Test.YtlkoadcbolkhoaaFacts
set_option linter.all false
namespace Go.Proofs.Ytlkoadcbolkhoaa
open Go Go.RowKit Go.Proofs
attribute [local go_sem] cell_grow frozen_grow

theorem j_s1 : sticksV 4 3 [5] [6] [5] = 4 := by kernel_rfl
theorem j_s2 : sticksE 4 3 [5] [6] [5] = 0 := by kernel_rfl
theorem j_s3 : sticksV 4 3 [5] [6] [4] = 0 := by kernel_rfl
theorem j_s4 : sticksE 4 3 [5] [6] [4] = 19 := by kernel_rfl
theorem j_f1 : fewestV 4 3 [5] [6] = 4 := by kernel_rfl
theorem j_p1 : pondE 4 3 [5] [6] = 0 := by kernel_rfl
theorem j_k1 : kindV 4 3 [5, 7] [] 5 = 2 := by kernel_rfl
theorem j_k2 : kindErr 4 3 [5, 7] [] 5 = 0 := by kernel_rfl
theorem j_k3 : kindV 4 3 [5, 7] [] 4 = 0 := by kernel_rfl
theorem j_k4 : kindErr 4 3 [5, 7] [] 4 = 0 := by kernel_rfl
theorem j_w1 : waysV 4 3 [5] [6] [⟨[5, 9], 1⟩] = 1 := by kernel_rfl
theorem j_w2 : waysE 4 3 [5] [6] [⟨[5, 9], 1⟩] = 0 := by kernel_rfl
theorem j_w3 : waysV 4 3 [5] [6] [⟨[5, 9], 0⟩] = 0 := by kernel_rfl
theorem j_w4 : waysE 4 3 [5] [6] [⟨[5, 9], 0⟩] = 16 := by kernel_rfl
theorem j_t1 : (posC (1, 1) (([69, 69, 78, 78, 87, 83, 87, 83] : List UInt8).map UInt8.toNat) 0).1 = 1 := by kernel_rfl
theorem j_t2 : (posC (1, 1) (([69, 69, 78, 78, 87, 83, 87, 83] : List UInt8).map UInt8.toNat) 0).2 = 1 := by kernel_rfl
theorem j_t3 : turnU 0 true [69, 69, 78, 78, 87, 83, 87, 83] = [78, 69, 78, 69, 83, 83, 87, 87] := by kernel_rfl
theorem j_a1 : areaS 1 1 ⟨#[78, 69, 78, 69, 83, 83, 87, 87]⟩ = -6 := by kernel_rfl
theorem j_a2 : chainE 1 1 ⟨#[78, 69, 78, 69, 83, 83, 87, 87]⟩ = 0 := by kernel_rfl
theorem j_c0 : chainE 0 0 ⟨#[69, 78, 87, 83]⟩ = 0 := by kernel_rfl
theorem j_c1 : chainE 0 0 ⟨#[69, 78, 87]⟩ = 6 := by kernel_rfl
theorem j_c2 : chainE 0 0 ⟨#[69, 69, 78, 87]⟩ = 19 := by kernel_rfl
theorem j_c3 : chainE 0 0 ⟨#[69, 78, 87, 88]⟩ = 8 := by kernel_rfl
theorem j_m1 : mostB 9 8 8 = (2, 2) := by kernel_rfl
theorem j_m2 : mostE 9 8 8 = 0 := by kernel_rfl
theorem j_m3 : mostB 12 2 8 = (2, 4) := by kernel_rfl
theorem j_m4 : mostE 12 2 8 = 0 := by kernel_rfl
theorem ways_one {w : World} {A1 : Option Addr} {n1 c1 : Nat} {l1 : List Int} {o1 : Int} (h1 : Ints w (.slice A1 n1 c1) l1) :
    WaysI (w.alloc (.cells #[.slice A1 n1 c1, .int .i64 o1] 81)) (.slice (some ⟨w.heap.size, 0, none⟩) 1 1) [⟨l1, o1⟩] := by
  have hg : Below w.heap.size w (w.alloc (.cells #[.slice A1 n1 c1, .int .i64 o1] 81)) := bl_alloc (bl_refl _) _
  have hc := fun i => World.cell?_alloc_new w #[.slice A1 n1 c1, .int .i64 o1] 81 i
  refine .inr ⟨w.heap.size, 0, 1, rfl, Nat.le_refl _, by simp, fun i x hi => ?_⟩
  match i, hi with
  | 0, hi => simp at hi; subst hi; exact ⟨_, hc 0, h1.mono hg, hc 1⟩
  | i + 1, hi => simp at hi

set_option maxRecDepth 100000 in
set_option maxHeartbeats 16000000 in
theorem boomKnown_any (w : World) : Calls Try.prog 16 #[] w fun e w' => e = .returned (.bool true) ∧ Below w.heap.size w w' := by
  have i3 := info3
  have a5 : Ints (w.alloc (.cells #[.int .i64 5] 3)) (.slice (some ⟨w.heap.size, 0, none⟩) 1 1) [5] := ints_new (l := [5]) rfl
  have b5 := bl_alloc (bl_refl w) (.cells #[.int .i64 5] 3)
  have a6 : Ints ((w.alloc (.cells #[.int .i64 5] 3)).alloc (.cells #[.int .i64 6] 3)) (.slice (some ⟨(w.alloc (.cells #[.int .i64 5] 3)).heap.size, 0, none⟩) 1 1) [6] := ints_new (l := [6]) rfl
  have b6 := bl_alloc (bl_refl (w.alloc (.cells #[.int .i64 5] 3))) (.cells #[.int .i64 6] 3)
  have H5 := hid (a5.mono b6)
  have H6 := hid a6
  have HBa := hid (bl_trans b5 b6)
  clear a5 a6 b5 b6
  rw [World.size_alloc] at H6
  go_enter Try.func16, Try.ntmps16
  go_wp2_with fail
  refine (of_any _ _).mono ?_
  rintro e wq ⟨rfl, rfl⟩
  go_wp2_with fail
  refine (of_any _ _).mono ?_
  rintro e wq ⟨rfl, rfl⟩
  have hcall := mkpond_any 4 3 (some ⟨w.heap.size, 0, none⟩) (some ⟨w.heap.size + 1, 0, none⟩) 1 1 1 1 ((w.alloc (.cells #[.int .i64 5] 3)).alloc (.cells #[.int .i64 6] 3))
  go_wp2_with fail
  refine hcall.mono ?_
  rintro e wa ⟨rfl, hba⟩
  clear hcall
  have a7 : Ints (wa.alloc (.cells #[.int .i64 5, .int .i64 7] 3)) (.slice (some ⟨wa.heap.size, 0, none⟩) 2 2) [5, 7] := ints_new (l := [5, 7]) rfl
  have b7 := bl_alloc (bl_refl wa) (.cells #[.int .i64 5, .int .i64 7] 3)
  have H5b := hid ((H5.out.mono hba).mono b7)
  have H6b := hid ((H6.out.mono hba).mono b7)
  have H7 := hid a7
  have HBb := hid (bl_trans (bl_trans HBa.out hba) b7)
  clear H5 H6 HBa hba a7 b7
  go_wp2_with fail
  refine (of_any _ _).mono ?_
  rintro e wq ⟨rfl, rfl⟩
  have hcall := mkpond_any 4 3 (some ⟨wa.heap.size, 0, none⟩) none 2 2 0 0 (wa.alloc (.cells #[.int .i64 5, .int .i64 7] 3))
  go_wp2_with fail
  refine hcall.mono ?_
  rintro e wb ⟨rfl, hbb⟩
  clear hcall
  obtain ⟨p5, hp5⟩ : ∃ p, w.heap.size = p := ⟨_, rfl⟩
  obtain ⟨p6, hp6⟩ : ∃ p, w.heap.size + 1 = p := ⟨_, rfl⟩
  obtain ⟨p7, hp7⟩ : ∃ p, wa.heap.size = p := ⟨_, rfl⟩
  rw [hp6] at H6b ⊢
  rw [hp7] at H7 ⊢
  have HB5 := H5b
  rw [hp5] at H5b ⊢
  have bx := bl_alloc (bl_refl wb) (.cells #[.int .i64 4, .int .i64 3, .slice (some ⟨p5, 0, none⟩) 1 1, .slice (some ⟨p6, 0, none⟩) 1 1] 24)
  have by_ := bl_alloc (bl_refl (wb.alloc (.cells #[.int .i64 4, .int .i64 3, .slice (some ⟨p5, 0, none⟩) 1 1, .slice (some ⟨p6, 0, none⟩) 1 1] 24))) (.cells #[.int .i64 4, .int .i64 3, .slice (some ⟨p7, 0, none⟩) 2 2, .slice none 0 0] 24)
  have hx := World.alloc_heap_new wb (.cells #[.int .i64 4, .int .i64 3, .slice (some ⟨p5, 0, none⟩) 1 1, .slice (some ⟨p6, 0, none⟩) 1 1] 24)
  have hy := World.alloc_heap_new (wb.alloc (.cells #[.int .i64 4, .int .i64 3, .slice (some ⟨p5, 0, none⟩) 1 1, .slice (some ⟨p6, 0, none⟩) 1 1] 24)) (.cells #[.int .i64 4, .int .i64 3, .slice (some ⟨p7, 0, none⟩) 2 2, .slice none 0 0] 24)
  rw [World.size_alloc] at hy
  have hbt := bl_trans hbb (bl_trans bx by_)
  have HP0 := hid (heap_mono hx by_)
  have HR0 := hid hy
  have HS5_0 := hid (H5b.out.mono hbt)
  have HS6_0 := hid (H6b.out.mono hbt)
  have HS7_0 := hid (H7.out.mono hbt)
  have HB0 := hid (bl_trans HBb.out hbt)
  clear hx hy bx by_ hbt hbb H5b H6b H7 HBb HB5
  go_upto_region 2 with (fail)
  obtain ⟨w0, hw0⟩ : ∃ w0, (wb.alloc (.cells #[.int .i64 4, .int .i64 3, .slice (some ⟨p5, 0, none⟩) 1 1, .slice (some ⟨p6, 0, none⟩) 1 1] 24)).alloc (.cells #[.int .i64 4, .int .i64 3, .slice (some ⟨p7, 0, none⟩) 2 2, .slice none 0 0] 24) = w0 := ⟨_, rfl⟩
  obtain ⟨X, hX⟩ : ∃ X, wb.heap.size = X := ⟨_, rfl⟩
  obtain ⟨Y, hY⟩ : ∃ Y, X + 1 = Y := ⟨_, rfl⟩
  rw [hX] at HP0 HR0 ⊢
  rw [hY] at HR0 ⊢
  rw [hw0] at HP0 HR0 HS5_0 HS6_0 HS7_0 HB0 ⊢
  clear hw0 hX hY hp5 hp6 hp7 i3
  go_upto_region 2 with (fail)
  refine wp_region_valsG w0 (bl_refl _) [41, 42, 43, 44, 40, 45, 46, 3, 4] (fun seen u W => (seen 0 = true → u 41 = .agg #[.int .i64 4, .int .i64 3, .slice (some ⟨p5, 0, none⟩) 1 1, .slice (some ⟨p6, 0, none⟩) 1 1]) ∧
    (seen 1 = true → RowAt w0.heap.size W (u 42) 3 #[.int .i64 5]) ∧
    (seen 2 = true → RowAt w0.heap.size W (u 43) 3 #[.int .i64 5]) ∧
    (seen 3 = true → u 44 = .tuple #[.int .i64 4, .int .i64 0]) ∧
    (seen 4 = true → u 40 = .tuple #[.int .i64 4, .int .i64 0]) ∧
    (seen 5 = true → u 45 = .int .i64 4) ∧
    (seen 6 = true → u 46 = .int .i64 0) ∧
    (seen 7 = true → u 3 = .int .i64 4) ∧
    (seen 8 = true → u 4 = .int .i64 0))
    (by kernel_rfl) (by kernel_rfl) (by kernel_rfl) (by simp) (by simp) ?_ ?_
  · intro i o ho seen a' w9 hb9 ⟨F0, F1, F2, F3, F4, F5, F6, F7, F8⟩ hv hsi hdep
    have hbx := heap_mono HP0.out hb9
    have c0 : w9.cell? ⟨X, 0, none⟩ = some (.int .i64 4) := cell_of_heap hbx
    have c1 : w9.cell? ⟨X, 1, none⟩ = some (.int .i64 3) := cell_of_heap hbx
    have c2 : w9.cell? ⟨X, 2, none⟩ = some (.slice (some ⟨p5, 0, none⟩) 1 1) := cell_of_heap hbx
    have c3 : w9.cell? ⟨X, 3, none⟩ = some (.slice (some ⟨p6, 0, none⟩) 1 1) := cell_of_heap hbx
    have hXl := (Array.getElem?_eq_some_iff.1 hbx).1
    rcases i with _ | _ | _ | _ | _ | _ | _ | _ | _ | i <;> simp only [List.getElem?_cons_zero, List.getElem?_cons_succ, List.getElem?_nil, Option.some.injEq, reduceCtorEq] at ho <;> subst ho
    · refine if_free rfl ?_
      have x1 := val_at (hv 1 (by simp))
      simp [valsOf] at x1
      refine wp_value (.agg #[.int .i64 4, .int .i64 3, .slice (some ⟨p5, 0, none⟩) 1 1, .slice (some ⟨p6, 0, none⟩) 1 1]) (w' := w9) (by simp [execOp, x1, go_sem, c0, c1, c2, c3, hXl]) ⟨_, rfl, hb9, ?_⟩
      exact ⟨by simp, by simpa using F1, by simpa using F2, by simpa using F3, by simpa using F4, by simpa using F5, by simpa using F6, by simpa using F7, by simpa using F8⟩
    · refine if_free rfl ?_
      have hg : Below w9.heap.size w9 (w9.alloc (.cells #[.int .i64 5] 3)) := bl_alloc (bl_refl _) _
      refine wp_value (.slice (some ⟨w9.heap.size, 0, none⟩) 1 1) (w' := w9.alloc (.cells #[.int .i64 5] 3)) (by simp [execOp, go_sem, c0, c1, c2, c3, hXl]) ⟨_, rfl, bl_trans hb9 hg, ?_⟩
      have hn : RowAt w0.heap.size (w9.alloc (.cells #[.int .i64 5] 3)) (.slice (some ⟨w9.heap.size, 0, none⟩) 1 1) 3 #[.int .i64 5] := RowAt.new (by have := hb9.size; omega)
      exact ⟨by simpa using F0, by simpa using hn, by simpa using fun h => (F2 h).mono hg, by simpa using F3, by simpa using F4, by simpa using F5, by simpa using F6, by simpa using F7, by simpa using F8⟩
    · refine if_free rfl ?_
      have d1 := hdep ⟨1, .data⟩ (by simp) rfl
      refine wp_calls (f := 59) (args := #[valsOf a' 42]) (w' := w9) (by simp [go_sem, valsOf]) (of_any _ _) ?_
      rintro e w10 ⟨rfl, rfl⟩
      refine ⟨_, rfl, _, rfl, hb9, ?_⟩
      exact ⟨by simpa using F0, by simpa using F1, by simpa using F1 d1, by simpa using F3, by simpa using F4, by simpa using F5, by simpa using F6, by simpa using F7, by simpa using F8⟩
    · refine if_free rfl ?_
      have d0 := hdep ⟨0, .data⟩ (by simp) rfl
      have e0 := val_at (F0 d0)
      have d2 := hdep ⟨2, .data⟩ (by simp) rfl
      obtain ⟨g2, r2, _, _⟩ := F2 d2
      have e2 := val_at r2
      have hi : Ints w9 (.slice (some ⟨g2, 0, none⟩) 1 1) [5] := by have := (F2 d2).ints (l := [5]); rwa [r2] at this
      have hcl := sticks_any (wd := 4) (hg := 3) (want := [5]) (keep := [6]) (water := [5]) w9 (by decide) (by decide) (by decide) (HS5_0.out.mono hb9) (HS6_0.out.mono hb9) hi
      rw [j_s1, j_s2] at hcl
      refine wp_calls (f := 19) (args := #[.agg #[.int .i64 4, .int .i64 3, .slice (some ⟨p5, 0, none⟩) 1 1, .slice (some ⟨p6, 0, none⟩) 1 1], .slice (some ⟨g2, 0, none⟩) 1 1]) (w' := w9) (by simp [execOp, e0, e2, go_sem]) hcl ?_
      rintro e w10 ⟨rfl, hg⟩
      refine ⟨_, rfl, _, rfl, bl_trans hb9 hg, ?_⟩
      exact ⟨by simpa using F0, by simpa using fun h => (F1 h).mono hg, by simpa using fun h => (F2 h).mono hg, by simp, by simpa using F4, by simpa using F5, by simpa using F6, by simpa using F7, by simpa using F8⟩
    · refine if_free rfl ?_
      have d3 := hdep ⟨3, .data⟩ (by simp) rfl
      have e3 := val_at (F3 d3)
      refine wp_value (.tuple #[.int .i64 4, .int .i64 0]) (w' := w9) (by simp [execOp, e3, go_sem, c0, c1, c2, c3, hXl]) ⟨_, rfl, hb9, ?_⟩
      exact ⟨by simpa using F0, by simpa using F1, by simpa using F2, by simpa using F3, by simp, by simpa using F5, by simpa using F6, by simpa using F7, by simpa using F8⟩
    · refine if_free rfl ?_
      have d4 := hdep ⟨4, .data⟩ (by simp) rfl
      have e4 := val_at (F4 d4)
      refine wp_value (.int .i64 4) (w' := w9) (by simp [execOp, e4, go_sem, c0, c1, c2, c3, hXl]) ⟨_, rfl, hb9, ?_⟩
      exact ⟨by simpa using F0, by simpa using F1, by simpa using F2, by simpa using F3, by simpa using F4, by simp, by simpa using F6, by simpa using F7, by simpa using F8⟩
    · refine if_free rfl ?_
      have d4 := hdep ⟨4, .data⟩ (by simp) rfl
      have e4 := val_at (F4 d4)
      refine wp_value (.int .i64 0) (w' := w9) (by simp [execOp, e4, go_sem, c0, c1, c2, c3, hXl]) ⟨_, rfl, hb9, ?_⟩
      exact ⟨by simpa using F0, by simpa using F1, by simpa using F2, by simpa using F3, by simpa using F4, by simpa using F5, by simp, by simpa using F7, by simpa using F8⟩
    · refine if_free rfl ?_
      have d5 := hdep ⟨5, .data⟩ (by simp) rfl
      have e5 := val_at (F5 d5)
      refine wp_value (.int .i64 4) (w' := w9) (by simp [execOp, e5, go_sem, c0, c1, c2, c3, hXl]) ⟨_, rfl, hb9, ?_⟩
      exact ⟨by simpa using F0, by simpa using F1, by simpa using F2, by simpa using F3, by simpa using F4, by simpa using F5, by simpa using F6, by simp, by simpa using F8⟩
    · refine if_free rfl ?_
      have d6 := hdep ⟨6, .data⟩ (by simp) rfl
      have e6 := val_at (F6 d6)
      refine wp_value (.int .i64 0) (w' := w9) (by simp [execOp, e6, go_sem, c0, c1, c2, c3, hXl]) ⟨_, rfl, hb9, ?_⟩
      exact ⟨by simpa using F0, by simpa using F1, by simpa using F2, by simpa using F3, by simpa using F4, by simpa using F5, by simpa using F6, by simpa using F7, by simp⟩
  intro u w1 hb1 seen hall ⟨F0, F1, F2, F3, F4, F5, F6, F7, F8⟩
  replace F0 := F0 (hall 0 (by decide))
  replace F1 := F1 (hall 1 (by decide))
  replace F2 := F2 (hall 2 (by decide))
  replace F3 := F3 (hall 3 (by decide))
  replace F4 := F4 (hall 4 (by decide))
  replace F5 := F5 (hall 5 (by decide))
  replace F6 := F6 (hall 6 (by decide))
  replace F7 := F7 (hall 7 (by decide))
  replace F8 := F8 (hall 8 (by decide))
  simp only [setAll, F7, F8]
  clear hall seen F0 F1 F2 F3 F4 F5 F6 F7 F8
  generalize u 41 = u41
  generalize u 42 = u42
  generalize u 43 = u43
  generalize u 44 = u44
  generalize u 40 = u40
  generalize u 45 = u45
  generalize u 46 = u46
  have HP1 := hid (heap_mono HP0.out hb1)
  have HR1 := hid (heap_mono HR0.out hb1)
  have HS5_1 := hid (HS5_0.out.mono hb1)
  have HS6_1 := hid (HS6_0.out.mono hb1)
  have HS7_1 := hid (HS7_0.out.mono hb1)
  have HB1 := hid (bl_trans HB0.out hb1)
  clear HP0 HR0 HS5_0 HS6_0 HS7_0
  clear hb1
  go_upto_region 3 with (fail)
  refine wp_region_valsG w1 (bl_refl _) [48, 49, 50, 51, 47, 52, 53, 5, 6] (fun seen u W => (seen 0 = true → u 48 = .agg #[.int .i64 4, .int .i64 3, .slice (some ⟨p5, 0, none⟩) 1 1, .slice (some ⟨p6, 0, none⟩) 1 1]) ∧
    (seen 1 = true → RowAt w1.heap.size W (u 49) 3 #[.int .i64 4]) ∧
    (seen 2 = true → RowAt w1.heap.size W (u 50) 3 #[.int .i64 4]) ∧
    (seen 3 = true → u 51 = .tuple #[.int .i64 0, .int .i64 19]) ∧
    (seen 4 = true → u 47 = .tuple #[.int .i64 0, .int .i64 19]) ∧
    (seen 5 = true → u 52 = .int .i64 0) ∧
    (seen 6 = true → u 53 = .int .i64 19) ∧
    (seen 7 = true → u 5 = .int .i64 0) ∧
    (seen 8 = true → u 6 = .int .i64 19))
    (by kernel_rfl) (by kernel_rfl) (by kernel_rfl) (by simp) (by simp) ?_ ?_
  · intro i o ho seen a' w9 hb9 ⟨F0, F1, F2, F3, F4, F5, F6, F7, F8⟩ hv hsi hdep
    have hbx := heap_mono HP1.out hb9
    have c0 : w9.cell? ⟨X, 0, none⟩ = some (.int .i64 4) := cell_of_heap hbx
    have c1 : w9.cell? ⟨X, 1, none⟩ = some (.int .i64 3) := cell_of_heap hbx
    have c2 : w9.cell? ⟨X, 2, none⟩ = some (.slice (some ⟨p5, 0, none⟩) 1 1) := cell_of_heap hbx
    have c3 : w9.cell? ⟨X, 3, none⟩ = some (.slice (some ⟨p6, 0, none⟩) 1 1) := cell_of_heap hbx
    have hXl := (Array.getElem?_eq_some_iff.1 hbx).1
    rcases i with _ | _ | _ | _ | _ | _ | _ | _ | _ | i <;> simp only [List.getElem?_cons_zero, List.getElem?_cons_succ, List.getElem?_nil, Option.some.injEq, reduceCtorEq] at ho <;> subst ho
    · refine if_free rfl ?_
      have x1 := val_at (hv 1 (by simp))
      simp [valsOf] at x1
      refine wp_value (.agg #[.int .i64 4, .int .i64 3, .slice (some ⟨p5, 0, none⟩) 1 1, .slice (some ⟨p6, 0, none⟩) 1 1]) (w' := w9) (by simp [execOp, x1, go_sem, c0, c1, c2, c3, hXl]) ⟨_, rfl, hb9, ?_⟩
      exact ⟨by simp, by simpa using F1, by simpa using F2, by simpa using F3, by simpa using F4, by simpa using F5, by simpa using F6, by simpa using F7, by simpa using F8⟩
    · refine if_free rfl ?_
      have hg : Below w9.heap.size w9 (w9.alloc (.cells #[.int .i64 4] 3)) := bl_alloc (bl_refl _) _
      refine wp_value (.slice (some ⟨w9.heap.size, 0, none⟩) 1 1) (w' := w9.alloc (.cells #[.int .i64 4] 3)) (by simp [execOp, go_sem, c0, c1, c2, c3, hXl]) ⟨_, rfl, bl_trans hb9 hg, ?_⟩
      have hn : RowAt w1.heap.size (w9.alloc (.cells #[.int .i64 4] 3)) (.slice (some ⟨w9.heap.size, 0, none⟩) 1 1) 3 #[.int .i64 4] := RowAt.new (by have := hb9.size; omega)
      exact ⟨by simpa using F0, by simpa using hn, by simpa using fun h => (F2 h).mono hg, by simpa using F3, by simpa using F4, by simpa using F5, by simpa using F6, by simpa using F7, by simpa using F8⟩
    · refine if_free rfl ?_
      have d1 := hdep ⟨1, .data⟩ (by simp) rfl
      refine wp_calls (f := 59) (args := #[valsOf a' 49]) (w' := w9) (by simp [go_sem, valsOf]) (of_any _ _) ?_
      rintro e w10 ⟨rfl, rfl⟩
      refine ⟨_, rfl, _, rfl, hb9, ?_⟩
      exact ⟨by simpa using F0, by simpa using F1, by simpa using F1 d1, by simpa using F3, by simpa using F4, by simpa using F5, by simpa using F6, by simpa using F7, by simpa using F8⟩
    · refine if_free rfl ?_
      have d0 := hdep ⟨0, .data⟩ (by simp) rfl
      have e0 := val_at (F0 d0)
      have d2 := hdep ⟨2, .data⟩ (by simp) rfl
      obtain ⟨g2, r2, _, _⟩ := F2 d2
      have e2 := val_at r2
      have hi : Ints w9 (.slice (some ⟨g2, 0, none⟩) 1 1) [4] := by have := (F2 d2).ints (l := [4]); rwa [r2] at this
      have hcl := sticks_any (wd := 4) (hg := 3) (want := [5]) (keep := [6]) (water := [4]) w9 (by decide) (by decide) (by decide) (HS5_1.out.mono hb9) (HS6_1.out.mono hb9) hi
      rw [j_s3, j_s4] at hcl
      refine wp_calls (f := 19) (args := #[.agg #[.int .i64 4, .int .i64 3, .slice (some ⟨p5, 0, none⟩) 1 1, .slice (some ⟨p6, 0, none⟩) 1 1], .slice (some ⟨g2, 0, none⟩) 1 1]) (w' := w9) (by simp [execOp, e0, e2, go_sem]) hcl ?_
      rintro e w10 ⟨rfl, hg⟩
      refine ⟨_, rfl, _, rfl, bl_trans hb9 hg, ?_⟩
      exact ⟨by simpa using F0, by simpa using fun h => (F1 h).mono hg, by simpa using fun h => (F2 h).mono hg, by simp, by simpa using F4, by simpa using F5, by simpa using F6, by simpa using F7, by simpa using F8⟩
    · refine if_free rfl ?_
      have d3 := hdep ⟨3, .data⟩ (by simp) rfl
      have e3 := val_at (F3 d3)
      refine wp_value (.tuple #[.int .i64 0, .int .i64 19]) (w' := w9) (by simp [execOp, e3, go_sem, c0, c1, c2, c3, hXl]) ⟨_, rfl, hb9, ?_⟩
      exact ⟨by simpa using F0, by simpa using F1, by simpa using F2, by simpa using F3, by simp, by simpa using F5, by simpa using F6, by simpa using F7, by simpa using F8⟩
    · refine if_free rfl ?_
      have d4 := hdep ⟨4, .data⟩ (by simp) rfl
      have e4 := val_at (F4 d4)
      refine wp_value (.int .i64 0) (w' := w9) (by simp [execOp, e4, go_sem, c0, c1, c2, c3, hXl]) ⟨_, rfl, hb9, ?_⟩
      exact ⟨by simpa using F0, by simpa using F1, by simpa using F2, by simpa using F3, by simpa using F4, by simp, by simpa using F6, by simpa using F7, by simpa using F8⟩
    · refine if_free rfl ?_
      have d4 := hdep ⟨4, .data⟩ (by simp) rfl
      have e4 := val_at (F4 d4)
      refine wp_value (.int .i64 19) (w' := w9) (by simp [execOp, e4, go_sem, c0, c1, c2, c3, hXl]) ⟨_, rfl, hb9, ?_⟩
      exact ⟨by simpa using F0, by simpa using F1, by simpa using F2, by simpa using F3, by simpa using F4, by simpa using F5, by simp, by simpa using F7, by simpa using F8⟩
    · refine if_free rfl ?_
      have d5 := hdep ⟨5, .data⟩ (by simp) rfl
      have e5 := val_at (F5 d5)
      refine wp_value (.int .i64 0) (w' := w9) (by simp [execOp, e5, go_sem, c0, c1, c2, c3, hXl]) ⟨_, rfl, hb9, ?_⟩
      exact ⟨by simpa using F0, by simpa using F1, by simpa using F2, by simpa using F3, by simpa using F4, by simpa using F5, by simpa using F6, by simp, by simpa using F8⟩
    · refine if_free rfl ?_
      have d6 := hdep ⟨6, .data⟩ (by simp) rfl
      have e6 := val_at (F6 d6)
      refine wp_value (.int .i64 19) (w' := w9) (by simp [execOp, e6, go_sem, c0, c1, c2, c3, hXl]) ⟨_, rfl, hb9, ?_⟩
      exact ⟨by simpa using F0, by simpa using F1, by simpa using F2, by simpa using F3, by simpa using F4, by simpa using F5, by simpa using F6, by simpa using F7, by simp⟩
  intro u w2 hb2 seen hall ⟨F0, F1, F2, F3, F4, F5, F6, F7, F8⟩
  replace F0 := F0 (hall 0 (by decide))
  replace F1 := F1 (hall 1 (by decide))
  replace F2 := F2 (hall 2 (by decide))
  replace F3 := F3 (hall 3 (by decide))
  replace F4 := F4 (hall 4 (by decide))
  replace F5 := F5 (hall 5 (by decide))
  replace F6 := F6 (hall 6 (by decide))
  replace F7 := F7 (hall 7 (by decide))
  replace F8 := F8 (hall 8 (by decide))
  simp only [setAll, F7, F8]
  clear hall seen F0 F1 F2 F3 F4 F5 F6 F7 F8
  generalize u 48 = u48
  generalize u 49 = u49
  generalize u 50 = u50
  generalize u 51 = u51
  generalize u 47 = u47
  generalize u 52 = u52
  generalize u 53 = u53
  have HP2 := hid (heap_mono HP1.out hb2)
  have HR2 := hid (heap_mono HR1.out hb2)
  have HS5_2 := hid (HS5_1.out.mono hb2)
  have HS6_2 := hid (HS6_1.out.mono hb2)
  have HS7_2 := hid (HS7_1.out.mono hb2)
  have HB2 := hid (bl_trans HB1.out hb2)
  clear HP1 HR1 HS5_1 HS6_1 HS7_1
  clear hb2
  have c0 : w2.cell? ⟨X, 0, none⟩ = some (.int .i64 4) := cell_of_heap HP2.out
  have c1 : w2.cell? ⟨X, 1, none⟩ = some (.int .i64 3) := cell_of_heap HP2.out
  have c2 : w2.cell? ⟨X, 2, none⟩ = some (.slice (some ⟨p5, 0, none⟩) 1 1) := cell_of_heap HP2.out
  have c3 : w2.cell? ⟨X, 3, none⟩ = some (.slice (some ⟨p6, 0, none⟩) 1 1) := cell_of_heap HP2.out
  have cl := (Array.getElem?_eq_some_iff.1 HP2.out).1
  have hcall := fewest_any (wd := 4) (hg := 3) (want := [5]) (keep := [6]) w2 (by decide) (by decide) HS5_2.out HS6_2.out
  rw [j_f1, j_p1] at hcall
  go_wp2_with fail
  refine hcall.mono ?_
  rintro e w3 ⟨rfl, hb3⟩
  clear hcall c0 c1 c2 c3 cl
  have HP3 := hid (heap_mono HP2.out hb3)
  have HR3 := hid (heap_mono HR2.out hb3)
  have HS5_3 := hid (HS5_2.out.mono hb3)
  have HS6_3 := hid (HS6_2.out.mono hb3)
  have HS7_3 := hid (HS7_2.out.mono hb3)
  have HB3 := hid (bl_trans HB2.out hb3)
  clear HP2 HR2 HS5_2 HS6_2 HS7_2
  clear hb3
  have c0 : w3.cell? ⟨Y, 0, none⟩ = some (.int .i64 4) := cell_of_heap HR3.out
  have c1 : w3.cell? ⟨Y, 1, none⟩ = some (.int .i64 3) := cell_of_heap HR3.out
  have c2 : w3.cell? ⟨Y, 2, none⟩ = some (.slice (some ⟨p7, 0, none⟩) 2 2) := cell_of_heap HR3.out
  have c3 : w3.cell? ⟨Y, 3, none⟩ = some (.slice none 0 0) := cell_of_heap HR3.out
  have cl := (Array.getElem?_eq_some_iff.1 HR3.out).1
  have hcall := kind_any (wd := 4) (hg := 3) (want := [5, 7]) (keep := []) 5 w3 (by decide) (by decide) HS7_3.out (.inl ⟨rfl, rfl⟩)
  rw [j_k1, j_k2] at hcall
  go_wp2_with fail
  refine hcall.mono ?_
  rintro e w4 ⟨rfl, hb4⟩
  clear hcall c0 c1 c2 c3 cl
  have HP4 := hid (heap_mono HP3.out hb4)
  have HR4 := hid (heap_mono HR3.out hb4)
  have HS5_4 := hid (HS5_3.out.mono hb4)
  have HS6_4 := hid (HS6_3.out.mono hb4)
  have HS7_4 := hid (HS7_3.out.mono hb4)
  have HB4 := hid (bl_trans HB3.out hb4)
  clear HP3 HR3 HS5_3 HS6_3 HS7_3
  clear hb4
  have c0 : w4.cell? ⟨Y, 0, none⟩ = some (.int .i64 4) := cell_of_heap HR4.out
  have c1 : w4.cell? ⟨Y, 1, none⟩ = some (.int .i64 3) := cell_of_heap HR4.out
  have c2 : w4.cell? ⟨Y, 2, none⟩ = some (.slice (some ⟨p7, 0, none⟩) 2 2) := cell_of_heap HR4.out
  have c3 : w4.cell? ⟨Y, 3, none⟩ = some (.slice none 0 0) := cell_of_heap HR4.out
  have cl := (Array.getElem?_eq_some_iff.1 HR4.out).1
  have hcall := kind_any (wd := 4) (hg := 3) (want := [5, 7]) (keep := []) 4 w4 (by decide) (by decide) HS7_4.out (.inl ⟨rfl, rfl⟩)
  rw [j_k3, j_k4] at hcall
  go_wp2_with fail
  refine hcall.mono ?_
  rintro e w5 ⟨rfl, hb5⟩
  clear hcall c0 c1 c2 c3 cl
  have HP5 := hid (heap_mono HP4.out hb5)
  have HR5 := hid (heap_mono HR4.out hb5)
  have HS5_5 := hid (HS5_4.out.mono hb5)
  have HS6_5 := hid (HS6_4.out.mono hb5)
  have HS7_5 := hid (HS7_4.out.mono hb5)
  have HB5 := hid (bl_trans HB4.out hb5)
  clear HP4 HR4 HS5_4 HS6_4 HS7_4
  clear hb5
  go_upto_region 7 with (fail)
  refine wp_region_valsG w5 (bl_refl _) [70, 71, 72, 73, 74, 69, 75, 76, 13, 14] (fun seen u W => (seen 0 = true → u 70 = .agg #[.int .i64 4, .int .i64 3, .slice (some ⟨p5, 0, none⟩) 1 1, .slice (some ⟨p6, 0, none⟩) 1 1]) ∧
    (seen 1 = true → RowAt w5.heap.size W (u 71) 3 #[.int .i64 5, .int .i64 9]) ∧
    (seen 2 = true → WayV W (u 72) [5, 9] (1)) ∧
    (seen 3 = true → WaysI W (u 73) [⟨[5, 9], 1⟩]) ∧
    (seen 4 = true → u 74 = .tuple #[.int .i64 1, .int .i64 0]) ∧
    (seen 5 = true → u 69 = .tuple #[.int .i64 1, .int .i64 0]) ∧
    (seen 6 = true → u 75 = .int .i64 1) ∧
    (seen 7 = true → u 76 = .int .i64 0) ∧
    (seen 8 = true → u 13 = .int .i64 1) ∧
    (seen 9 = true → u 14 = .int .i64 0))
    (by kernel_rfl) (by kernel_rfl) (by kernel_rfl) (by simp) (by simp) ?_ ?_
  · intro i o ho seen a' w9 hb9 ⟨F0, F1, F2, F3, F4, F5, F6, F7, F8, F9⟩ hv hsi hdep
    have hbx := heap_mono HP5.out hb9
    have c0 : w9.cell? ⟨X, 0, none⟩ = some (.int .i64 4) := cell_of_heap hbx
    have c1 : w9.cell? ⟨X, 1, none⟩ = some (.int .i64 3) := cell_of_heap hbx
    have c2 : w9.cell? ⟨X, 2, none⟩ = some (.slice (some ⟨p5, 0, none⟩) 1 1) := cell_of_heap hbx
    have c3 : w9.cell? ⟨X, 3, none⟩ = some (.slice (some ⟨p6, 0, none⟩) 1 1) := cell_of_heap hbx
    have hXl := (Array.getElem?_eq_some_iff.1 hbx).1
    rcases i with _ | _ | _ | _ | _ | _ | _ | _ | _ | _ | i <;> simp only [List.getElem?_cons_zero, List.getElem?_cons_succ, List.getElem?_nil, Option.some.injEq, reduceCtorEq] at ho <;> subst ho
    · refine if_free rfl ?_
      have x1 := val_at (hv 1 (by simp))
      simp [valsOf] at x1
      refine wp_value (.agg #[.int .i64 4, .int .i64 3, .slice (some ⟨p5, 0, none⟩) 1 1, .slice (some ⟨p6, 0, none⟩) 1 1]) (w' := w9) (by simp [execOp, x1, go_sem, c0, c1, c2, c3, hXl]) ⟨_, rfl, hb9, ?_⟩
      exact ⟨by simp, by simpa using F1, by simpa using F2, by simpa using F3, by simpa using F4, by simpa using F5, by simpa using F6, by simpa using F7, by simpa using F8, by simpa using F9⟩
    · refine if_free rfl ?_
      have hg : Below w9.heap.size w9 (w9.alloc (.cells #[.int .i64 5, .int .i64 9] 3)) := bl_alloc (bl_refl _) _
      refine wp_value (.slice (some ⟨w9.heap.size, 0, none⟩) 2 2) (w' := w9.alloc (.cells #[.int .i64 5, .int .i64 9] 3)) (by simp [execOp, go_sem, c0, c1, c2, c3, hXl]) ⟨_, rfl, bl_trans hb9 hg, ?_⟩
      have hn : RowAt w5.heap.size (w9.alloc (.cells #[.int .i64 5, .int .i64 9] 3)) (.slice (some ⟨w9.heap.size, 0, none⟩) 2 2) 3 #[.int .i64 5, .int .i64 9] := RowAt.new (by have := hb9.size; omega)
      exact ⟨by simpa using F0, by simpa using hn, by simpa using fun h => (F2 h).mono hg, by simpa using fun h => (F3 h).mono hg, by simpa using F4, by simpa using F5, by simpa using F6, by simpa using F7, by simpa using F8, by simpa using F9⟩
    · refine if_free rfl ?_
      have d1 := hdep ⟨1, .data⟩ (by simp) rfl
      obtain ⟨g1, r1, _, _⟩ := F1 d1
      have e1 := val_at r1
      have hi : Ints w9 (.slice (some ⟨g1, 0, none⟩) 2 2) [5, 9] := by have := (F1 d1).ints (l := [5, 9]); rwa [r1] at this
      refine wp_calls (f := 60) (args := #[.int .i64 (1), .slice (some ⟨g1, 0, none⟩) 2 2]) (w' := w9) (by simp [execOp, e1, go_sem]) (mkway_any _ _ _ _ w9) ?_
      rintro e w10 ⟨rfl, hg⟩
      have hn : WayV w10 (.agg #[.slice (some ⟨g1, 0, none⟩) 2 2, .int .i64 (1)]) [5, 9] (1) := ⟨_, _, _, rfl, hi.mono hg⟩
      refine ⟨_, rfl, _, rfl, bl_trans hb9 hg, ?_⟩
      exact ⟨by simpa using F0, by simpa using fun h => (F1 h).mono hg, by simpa using hn, by simpa using fun h => (F3 h).mono hg, by simpa using F4, by simpa using F5, by simpa using F6, by simpa using F7, by simpa using F8, by simpa using F9⟩
    · refine if_free rfl ?_
      have d2 := hdep ⟨2, .data⟩ (by simp) rfl
      obtain ⟨A1, n1, c1', ea, hi1⟩ := F2 d2
      have ea' := val_at ea
      have hg : Below w9.heap.size w9 (w9.alloc (.cells #[.slice A1 n1 c1', .int .i64 (1)] 81)) := bl_alloc (bl_refl _) _
      have hn : WaysI (w9.alloc (.cells #[.slice A1 n1 c1', .int .i64 (1)] 81)) (.slice (some ⟨w9.heap.size, 0, none⟩) 1 1) [⟨[5, 9], 1⟩] := ways_one hi1
      refine wp_value (.slice (some ⟨w9.heap.size, 0, none⟩) 1 1) (w' := w9.alloc (.cells #[.slice A1 n1 c1', .int .i64 (1)] 81)) (by simp [execOp, ea', go_sem]) ⟨_, rfl, bl_trans hb9 hg, ?_⟩
      exact ⟨by simpa using F0, by simpa using fun h => (F1 h).mono hg, by simpa using fun h => (F2 h).mono hg, by simpa using hn, by simpa using F4, by simpa using F5, by simpa using F6, by simpa using F7, by simpa using F8, by simpa using F9⟩
    · refine if_free rfl ?_
      have d0 := hdep ⟨0, .data⟩ (by simp) rfl
      have e0 := val_at (F0 d0)
      have d3 := hdep ⟨3, .data⟩ (by simp) rfl
      have hwi := F3 d3
      obtain ⟨A7, c7, e7⟩ := hwi.slice
      have e7' := val_at e7
      rw [e7] at hwi
      have hcl := chkways_any (wd := 4) (hg := 3) (want := [5]) (keep := [6]) (l := [⟨[5, 9], 1⟩]) w9 (by decide) (by decide) (by decide) (by intro x hx; simp only [List.mem_cons, List.not_mem_nil, or_false] at hx; subst hx; simp) (HS5_5.out.mono hb9) (HS6_5.out.mono hb9) hwi
      rw [j_w1, j_w2] at hcl
      refine wp_calls (f := 34) (args := #[.agg #[.int .i64 4, .int .i64 3, .slice (some ⟨p5, 0, none⟩) 1 1, .slice (some ⟨p6, 0, none⟩) 1 1], .slice A7 1 c7]) (w' := w9) (by simp [execOp, e0, e7', go_sem]) hcl ?_
      rintro e w10 ⟨rfl, hg⟩
      refine ⟨_, rfl, _, rfl, bl_trans hb9 hg, ?_⟩
      exact ⟨by simpa using F0, by simpa using fun h => (F1 h).mono hg, by simpa using fun h => (F2 h).mono hg, by simpa using fun h => (F3 h).mono hg, by simp, by simpa using F5, by simpa using F6, by simpa using F7, by simpa using F8, by simpa using F9⟩
    · refine if_free rfl ?_
      have d4 := hdep ⟨4, .data⟩ (by simp) rfl
      have e4 := val_at (F4 d4)
      refine wp_value (.tuple #[.int .i64 1, .int .i64 0]) (w' := w9) (by simp [execOp, e4, go_sem, c0, c1, c2, c3, hXl]) ⟨_, rfl, hb9, ?_⟩
      exact ⟨by simpa using F0, by simpa using F1, by simpa using F2, by simpa using F3, by simpa using F4, by simp, by simpa using F6, by simpa using F7, by simpa using F8, by simpa using F9⟩
    · refine if_free rfl ?_
      have d5 := hdep ⟨5, .data⟩ (by simp) rfl
      have e5 := val_at (F5 d5)
      refine wp_value (.int .i64 1) (w' := w9) (by simp [execOp, e5, go_sem, c0, c1, c2, c3, hXl]) ⟨_, rfl, hb9, ?_⟩
      exact ⟨by simpa using F0, by simpa using F1, by simpa using F2, by simpa using F3, by simpa using F4, by simpa using F5, by simp, by simpa using F7, by simpa using F8, by simpa using F9⟩
    · refine if_free rfl ?_
      have d5 := hdep ⟨5, .data⟩ (by simp) rfl
      have e5 := val_at (F5 d5)
      refine wp_value (.int .i64 0) (w' := w9) (by simp [execOp, e5, go_sem, c0, c1, c2, c3, hXl]) ⟨_, rfl, hb9, ?_⟩
      exact ⟨by simpa using F0, by simpa using F1, by simpa using F2, by simpa using F3, by simpa using F4, by simpa using F5, by simpa using F6, by simp, by simpa using F8, by simpa using F9⟩
    · refine if_free rfl ?_
      have d6 := hdep ⟨6, .data⟩ (by simp) rfl
      have e6 := val_at (F6 d6)
      refine wp_value (.int .i64 1) (w' := w9) (by simp [execOp, e6, go_sem, c0, c1, c2, c3, hXl]) ⟨_, rfl, hb9, ?_⟩
      exact ⟨by simpa using F0, by simpa using F1, by simpa using F2, by simpa using F3, by simpa using F4, by simpa using F5, by simpa using F6, by simpa using F7, by simp, by simpa using F9⟩
    · refine if_free rfl ?_
      have d7 := hdep ⟨7, .data⟩ (by simp) rfl
      have e7 := val_at (F7 d7)
      refine wp_value (.int .i64 0) (w' := w9) (by simp [execOp, e7, go_sem, c0, c1, c2, c3, hXl]) ⟨_, rfl, hb9, ?_⟩
      exact ⟨by simpa using F0, by simpa using F1, by simpa using F2, by simpa using F3, by simpa using F4, by simpa using F5, by simpa using F6, by simpa using F7, by simpa using F8, by simp⟩
  intro u w6 hb6 seen hall ⟨F0, F1, F2, F3, F4, F5, F6, F7, F8, F9⟩
  replace F0 := F0 (hall 0 (by decide))
  replace F1 := F1 (hall 1 (by decide))
  replace F2 := F2 (hall 2 (by decide))
  replace F3 := F3 (hall 3 (by decide))
  replace F4 := F4 (hall 4 (by decide))
  replace F5 := F5 (hall 5 (by decide))
  replace F6 := F6 (hall 6 (by decide))
  replace F7 := F7 (hall 7 (by decide))
  replace F8 := F8 (hall 8 (by decide))
  replace F9 := F9 (hall 9 (by decide))
  simp only [setAll, F8, F9]
  clear hall seen F0 F1 F2 F3 F4 F5 F6 F7 F8 F9
  generalize u 70 = u70
  generalize u 71 = u71
  generalize u 72 = u72
  generalize u 73 = u73
  generalize u 74 = u74
  generalize u 69 = u69
  generalize u 75 = u75
  generalize u 76 = u76
  have HP6 := hid (heap_mono HP5.out hb6)
  have HR6 := hid (heap_mono HR5.out hb6)
  have HS5_6 := hid (HS5_5.out.mono hb6)
  have HS6_6 := hid (HS6_5.out.mono hb6)
  have HS7_6 := hid (HS7_5.out.mono hb6)
  have HB6 := hid (bl_trans HB5.out hb6)
  clear HP5 HR5 HS5_5 HS6_5 HS7_5
  clear hb6
  go_upto_region 8 with (fail)
  refine wp_region_valsG w6 (bl_refl _) [78, 79, 80, 81, 82, 77, 83, 84, 15, 16] (fun seen u W => (seen 0 = true → u 78 = .agg #[.int .i64 4, .int .i64 3, .slice (some ⟨p5, 0, none⟩) 1 1, .slice (some ⟨p6, 0, none⟩) 1 1]) ∧
    (seen 1 = true → RowAt w6.heap.size W (u 79) 3 #[.int .i64 5, .int .i64 9]) ∧
    (seen 2 = true → WayV W (u 80) [5, 9] (0)) ∧
    (seen 3 = true → WaysI W (u 81) [⟨[5, 9], 0⟩]) ∧
    (seen 4 = true → u 82 = .tuple #[.int .i64 0, .int .i64 16]) ∧
    (seen 5 = true → u 77 = .tuple #[.int .i64 0, .int .i64 16]) ∧
    (seen 6 = true → u 83 = .int .i64 0) ∧
    (seen 7 = true → u 84 = .int .i64 16) ∧
    (seen 8 = true → u 15 = .int .i64 0) ∧
    (seen 9 = true → u 16 = .int .i64 16))
    (by kernel_rfl) (by kernel_rfl) (by kernel_rfl) (by simp) (by simp) ?_ ?_
  · intro i o ho seen a' w9 hb9 ⟨F0, F1, F2, F3, F4, F5, F6, F7, F8, F9⟩ hv hsi hdep
    have hbx := heap_mono HP6.out hb9
    have c0 : w9.cell? ⟨X, 0, none⟩ = some (.int .i64 4) := cell_of_heap hbx
    have c1 : w9.cell? ⟨X, 1, none⟩ = some (.int .i64 3) := cell_of_heap hbx
    have c2 : w9.cell? ⟨X, 2, none⟩ = some (.slice (some ⟨p5, 0, none⟩) 1 1) := cell_of_heap hbx
    have c3 : w9.cell? ⟨X, 3, none⟩ = some (.slice (some ⟨p6, 0, none⟩) 1 1) := cell_of_heap hbx
    have hXl := (Array.getElem?_eq_some_iff.1 hbx).1
    rcases i with _ | _ | _ | _ | _ | _ | _ | _ | _ | _ | i <;> simp only [List.getElem?_cons_zero, List.getElem?_cons_succ, List.getElem?_nil, Option.some.injEq, reduceCtorEq] at ho <;> subst ho
    · refine if_free rfl ?_
      have x1 := val_at (hv 1 (by simp))
      simp [valsOf] at x1
      refine wp_value (.agg #[.int .i64 4, .int .i64 3, .slice (some ⟨p5, 0, none⟩) 1 1, .slice (some ⟨p6, 0, none⟩) 1 1]) (w' := w9) (by simp [execOp, x1, go_sem, c0, c1, c2, c3, hXl]) ⟨_, rfl, hb9, ?_⟩
      exact ⟨by simp, by simpa using F1, by simpa using F2, by simpa using F3, by simpa using F4, by simpa using F5, by simpa using F6, by simpa using F7, by simpa using F8, by simpa using F9⟩
    · refine if_free rfl ?_
      have hg : Below w9.heap.size w9 (w9.alloc (.cells #[.int .i64 5, .int .i64 9] 3)) := bl_alloc (bl_refl _) _
      refine wp_value (.slice (some ⟨w9.heap.size, 0, none⟩) 2 2) (w' := w9.alloc (.cells #[.int .i64 5, .int .i64 9] 3)) (by simp [execOp, go_sem, c0, c1, c2, c3, hXl]) ⟨_, rfl, bl_trans hb9 hg, ?_⟩
      have hn : RowAt w6.heap.size (w9.alloc (.cells #[.int .i64 5, .int .i64 9] 3)) (.slice (some ⟨w9.heap.size, 0, none⟩) 2 2) 3 #[.int .i64 5, .int .i64 9] := RowAt.new (by have := hb9.size; omega)
      exact ⟨by simpa using F0, by simpa using hn, by simpa using fun h => (F2 h).mono hg, by simpa using fun h => (F3 h).mono hg, by simpa using F4, by simpa using F5, by simpa using F6, by simpa using F7, by simpa using F8, by simpa using F9⟩
    · refine if_free rfl ?_
      have d1 := hdep ⟨1, .data⟩ (by simp) rfl
      obtain ⟨g1, r1, _, _⟩ := F1 d1
      have e1 := val_at r1
      have hi : Ints w9 (.slice (some ⟨g1, 0, none⟩) 2 2) [5, 9] := by have := (F1 d1).ints (l := [5, 9]); rwa [r1] at this
      refine wp_calls (f := 60) (args := #[.int .i64 (0), .slice (some ⟨g1, 0, none⟩) 2 2]) (w' := w9) (by simp [execOp, e1, go_sem]) (mkway_any _ _ _ _ w9) ?_
      rintro e w10 ⟨rfl, hg⟩
      have hn : WayV w10 (.agg #[.slice (some ⟨g1, 0, none⟩) 2 2, .int .i64 (0)]) [5, 9] (0) := ⟨_, _, _, rfl, hi.mono hg⟩
      refine ⟨_, rfl, _, rfl, bl_trans hb9 hg, ?_⟩
      exact ⟨by simpa using F0, by simpa using fun h => (F1 h).mono hg, by simpa using hn, by simpa using fun h => (F3 h).mono hg, by simpa using F4, by simpa using F5, by simpa using F6, by simpa using F7, by simpa using F8, by simpa using F9⟩
    · refine if_free rfl ?_
      have d2 := hdep ⟨2, .data⟩ (by simp) rfl
      obtain ⟨A1, n1, c1', ea, hi1⟩ := F2 d2
      have ea' := val_at ea
      have hg : Below w9.heap.size w9 (w9.alloc (.cells #[.slice A1 n1 c1', .int .i64 (0)] 81)) := bl_alloc (bl_refl _) _
      have hn : WaysI (w9.alloc (.cells #[.slice A1 n1 c1', .int .i64 (0)] 81)) (.slice (some ⟨w9.heap.size, 0, none⟩) 1 1) [⟨[5, 9], 0⟩] := ways_one hi1
      refine wp_value (.slice (some ⟨w9.heap.size, 0, none⟩) 1 1) (w' := w9.alloc (.cells #[.slice A1 n1 c1', .int .i64 (0)] 81)) (by simp [execOp, ea', go_sem]) ⟨_, rfl, bl_trans hb9 hg, ?_⟩
      exact ⟨by simpa using F0, by simpa using fun h => (F1 h).mono hg, by simpa using fun h => (F2 h).mono hg, by simpa using hn, by simpa using F4, by simpa using F5, by simpa using F6, by simpa using F7, by simpa using F8, by simpa using F9⟩
    · refine if_free rfl ?_
      have d0 := hdep ⟨0, .data⟩ (by simp) rfl
      have e0 := val_at (F0 d0)
      have d3 := hdep ⟨3, .data⟩ (by simp) rfl
      have hwi := F3 d3
      obtain ⟨A7, c7, e7⟩ := hwi.slice
      have e7' := val_at e7
      rw [e7] at hwi
      have hcl := chkways_any (wd := 4) (hg := 3) (want := [5]) (keep := [6]) (l := [⟨[5, 9], 0⟩]) w9 (by decide) (by decide) (by decide) (by intro x hx; simp only [List.mem_cons, List.not_mem_nil, or_false] at hx; subst hx; simp) (HS5_6.out.mono hb9) (HS6_6.out.mono hb9) hwi
      rw [j_w3, j_w4] at hcl
      refine wp_calls (f := 34) (args := #[.agg #[.int .i64 4, .int .i64 3, .slice (some ⟨p5, 0, none⟩) 1 1, .slice (some ⟨p6, 0, none⟩) 1 1], .slice A7 1 c7]) (w' := w9) (by simp [execOp, e0, e7', go_sem]) hcl ?_
      rintro e w10 ⟨rfl, hg⟩
      refine ⟨_, rfl, _, rfl, bl_trans hb9 hg, ?_⟩
      exact ⟨by simpa using F0, by simpa using fun h => (F1 h).mono hg, by simpa using fun h => (F2 h).mono hg, by simpa using fun h => (F3 h).mono hg, by simp, by simpa using F5, by simpa using F6, by simpa using F7, by simpa using F8, by simpa using F9⟩
    · refine if_free rfl ?_
      have d4 := hdep ⟨4, .data⟩ (by simp) rfl
      have e4 := val_at (F4 d4)
      refine wp_value (.tuple #[.int .i64 0, .int .i64 16]) (w' := w9) (by simp [execOp, e4, go_sem, c0, c1, c2, c3, hXl]) ⟨_, rfl, hb9, ?_⟩
      exact ⟨by simpa using F0, by simpa using F1, by simpa using F2, by simpa using F3, by simpa using F4, by simp, by simpa using F6, by simpa using F7, by simpa using F8, by simpa using F9⟩
    · refine if_free rfl ?_
      have d5 := hdep ⟨5, .data⟩ (by simp) rfl
      have e5 := val_at (F5 d5)
      refine wp_value (.int .i64 0) (w' := w9) (by simp [execOp, e5, go_sem, c0, c1, c2, c3, hXl]) ⟨_, rfl, hb9, ?_⟩
      exact ⟨by simpa using F0, by simpa using F1, by simpa using F2, by simpa using F3, by simpa using F4, by simpa using F5, by simp, by simpa using F7, by simpa using F8, by simpa using F9⟩
    · refine if_free rfl ?_
      have d5 := hdep ⟨5, .data⟩ (by simp) rfl
      have e5 := val_at (F5 d5)
      refine wp_value (.int .i64 16) (w' := w9) (by simp [execOp, e5, go_sem, c0, c1, c2, c3, hXl]) ⟨_, rfl, hb9, ?_⟩
      exact ⟨by simpa using F0, by simpa using F1, by simpa using F2, by simpa using F3, by simpa using F4, by simpa using F5, by simpa using F6, by simp, by simpa using F8, by simpa using F9⟩
    · refine if_free rfl ?_
      have d6 := hdep ⟨6, .data⟩ (by simp) rfl
      have e6 := val_at (F6 d6)
      refine wp_value (.int .i64 0) (w' := w9) (by simp [execOp, e6, go_sem, c0, c1, c2, c3, hXl]) ⟨_, rfl, hb9, ?_⟩
      exact ⟨by simpa using F0, by simpa using F1, by simpa using F2, by simpa using F3, by simpa using F4, by simpa using F5, by simpa using F6, by simpa using F7, by simp, by simpa using F9⟩
    · refine if_free rfl ?_
      have d7 := hdep ⟨7, .data⟩ (by simp) rfl
      have e7 := val_at (F7 d7)
      refine wp_value (.int .i64 16) (w' := w9) (by simp [execOp, e7, go_sem, c0, c1, c2, c3, hXl]) ⟨_, rfl, hb9, ?_⟩
      exact ⟨by simpa using F0, by simpa using F1, by simpa using F2, by simpa using F3, by simpa using F4, by simpa using F5, by simpa using F6, by simpa using F7, by simpa using F8, by simp⟩
  intro u w7 hb7 seen hall ⟨F0, F1, F2, F3, F4, F5, F6, F7, F8, F9⟩
  replace F0 := F0 (hall 0 (by decide))
  replace F1 := F1 (hall 1 (by decide))
  replace F2 := F2 (hall 2 (by decide))
  replace F3 := F3 (hall 3 (by decide))
  replace F4 := F4 (hall 4 (by decide))
  replace F5 := F5 (hall 5 (by decide))
  replace F6 := F6 (hall 6 (by decide))
  replace F7 := F7 (hall 7 (by decide))
  replace F8 := F8 (hall 8 (by decide))
  replace F9 := F9 (hall 9 (by decide))
  simp only [setAll, F8, F9]
  clear hall seen F0 F1 F2 F3 F4 F5 F6 F7 F8 F9
  generalize u 78 = u78
  generalize u 79 = u79
  generalize u 80 = u80
  generalize u 81 = u81
  generalize u 82 = u82
  generalize u 77 = u77
  generalize u 83 = u83
  generalize u 84 = u84
  have HP7 := hid (heap_mono HP6.out hb7)
  have HR7 := hid (heap_mono HR6.out hb7)
  have HS5_7 := hid (HS5_6.out.mono hb7)
  have HS6_7 := hid (HS6_6.out.mono hb7)
  have HS7_7 := hid (HS7_6.out.mono hb7)
  have HB7 := hid (bl_trans HB6.out hb7)
  clear HP6 HR6 HS5_6 HS6_6 HS7_6
  clear hb7
  have hcall := mkchain_any 1 1 ⟨#[69, 69, 78, 78, 87, 83, 87, 83]⟩ w7
  go_wp2_with fail
  refine hcall.mono ?_
  rintro e w8 ⟨rfl, hb8⟩
  clear hcall
  have HP8 := hid (heap_mono HP7.out hb8)
  have HR8 := hid (heap_mono HR7.out hb8)
  have HS5_8 := hid (HS5_7.out.mono hb8)
  have HS6_8 := hid (HS6_7.out.mono hb8)
  have HS7_8 := hid (HS7_7.out.mono hb8)
  have HB8 := hid (bl_trans HB7.out hb8)
  clear HP7 HR7 HS5_7 HS6_7 HS7_7
  clear hb8
  have hcall := turnch_any 1 1 [69, 69, 78, 78, 87, 83, 87, 83] 0 true w8 (by decide) (by decide) (by decide) (by decide)
  rw [j_t1, j_t2, j_t3] at hcall
  go_wp2_with fail
  refine hcall.mono ?_
  rintro e w9 ⟨rfl, hb9⟩
  clear hcall
  have HP9 := hid (heap_mono HP8.out hb9)
  have HR9 := hid (heap_mono HR8.out hb9)
  have HS5_9 := hid (HS5_8.out.mono hb9)
  have HS6_9 := hid (HS6_8.out.mono hb9)
  have HS7_9 := hid (HS7_8.out.mono hb9)
  have HB9 := hid (bl_trans HB8.out hb9)
  clear HP8 HR8 HS5_8 HS6_8 HS7_8
  clear hb9
  have hcall := area_any 1 1 ⟨#[78, 69, 78, 69, 83, 83, 87, 87]⟩ w9 (by decide)
  rw [j_a1, j_a2] at hcall
  go_wp2_with fail
  refine hcall.mono ?_
  rintro e w10 ⟨rfl, hb10⟩
  clear hcall
  have HP10 := hid (heap_mono HP9.out hb10)
  have HR10 := hid (heap_mono HR9.out hb10)
  have HS5_10 := hid (HS5_9.out.mono hb10)
  have HS6_10 := hid (HS6_9.out.mono hb10)
  have HS7_10 := hid (HS7_9.out.mono hb10)
  have HB10 := hid (bl_trans HB9.out hb10)
  clear HP9 HR9 HS5_9 HS6_9 HS7_9
  clear hb10
  have hcall := mkchain_any 0 0 ⟨#[69, 78, 87, 83]⟩ w10
  go_wp2_with fail
  refine hcall.mono ?_
  rintro e w11 ⟨rfl, hb11⟩
  clear hcall
  have HP11 := hid (heap_mono HP10.out hb11)
  have HR11 := hid (heap_mono HR10.out hb11)
  have HS5_11 := hid (HS5_10.out.mono hb11)
  have HS6_11 := hid (HS6_10.out.mono hb11)
  have HS7_11 := hid (HS7_10.out.mono hb11)
  have HB11 := hid (bl_trans HB10.out hb11)
  clear HP10 HR10 HS5_10 HS6_10 HS7_10
  clear hb11
  have hcall := chkchain_any 0 0 ⟨#[69, 78, 87, 83]⟩ w11 (by decide)
  rw [j_c0] at hcall
  go_wp2_with fail
  refine hcall.mono ?_
  rintro e w12 ⟨rfl, hb12⟩
  clear hcall
  have HP12 := hid (heap_mono HP11.out hb12)
  have HR12 := hid (heap_mono HR11.out hb12)
  have HS5_12 := hid (HS5_11.out.mono hb12)
  have HS6_12 := hid (HS6_11.out.mono hb12)
  have HS7_12 := hid (HS7_11.out.mono hb12)
  have HB12 := hid (bl_trans HB11.out hb12)
  clear HP11 HR11 HS5_11 HS6_11 HS7_11
  clear hb12
  have hcall := mkchain_any 0 0 ⟨#[69, 78, 87]⟩ w12
  go_wp2_with fail
  refine hcall.mono ?_
  rintro e w13 ⟨rfl, hb13⟩
  clear hcall
  have HP13 := hid (heap_mono HP12.out hb13)
  have HR13 := hid (heap_mono HR12.out hb13)
  have HS5_13 := hid (HS5_12.out.mono hb13)
  have HS6_13 := hid (HS6_12.out.mono hb13)
  have HS7_13 := hid (HS7_12.out.mono hb13)
  have HB13 := hid (bl_trans HB12.out hb13)
  clear HP12 HR12 HS5_12 HS6_12 HS7_12
  clear hb13
  have hcall := chkchain_any 0 0 ⟨#[69, 78, 87]⟩ w13 (by decide)
  rw [j_c1] at hcall
  go_wp2_with fail
  refine hcall.mono ?_
  rintro e w14 ⟨rfl, hb14⟩
  clear hcall
  have HP14 := hid (heap_mono HP13.out hb14)
  have HR14 := hid (heap_mono HR13.out hb14)
  have HS5_14 := hid (HS5_13.out.mono hb14)
  have HS6_14 := hid (HS6_13.out.mono hb14)
  have HS7_14 := hid (HS7_13.out.mono hb14)
  have HB14 := hid (bl_trans HB13.out hb14)
  clear HP13 HR13 HS5_13 HS6_13 HS7_13
  clear hb14
  have hcall := mkchain_any 0 0 ⟨#[69, 69, 78, 87]⟩ w14
  go_wp2_with fail
  refine hcall.mono ?_
  rintro e w15 ⟨rfl, hb15⟩
  clear hcall
  have HP15 := hid (heap_mono HP14.out hb15)
  have HR15 := hid (heap_mono HR14.out hb15)
  have HS5_15 := hid (HS5_14.out.mono hb15)
  have HS6_15 := hid (HS6_14.out.mono hb15)
  have HS7_15 := hid (HS7_14.out.mono hb15)
  have HB15 := hid (bl_trans HB14.out hb15)
  clear HP14 HR14 HS5_14 HS6_14 HS7_14
  clear hb15
  have hcall := chkchain_any 0 0 ⟨#[69, 69, 78, 87]⟩ w15 (by decide)
  rw [j_c2] at hcall
  go_wp2_with fail
  refine hcall.mono ?_
  rintro e w16 ⟨rfl, hb16⟩
  clear hcall
  have HP16 := hid (heap_mono HP15.out hb16)
  have HR16 := hid (heap_mono HR15.out hb16)
  have HS5_16 := hid (HS5_15.out.mono hb16)
  have HS6_16 := hid (HS6_15.out.mono hb16)
  have HS7_16 := hid (HS7_15.out.mono hb16)
  have HB16 := hid (bl_trans HB15.out hb16)
  clear HP15 HR15 HS5_15 HS6_15 HS7_15
  clear hb16
  have hcall := mkchain_any 0 0 ⟨#[69, 78, 87, 88]⟩ w16
  go_wp2_with fail
  refine hcall.mono ?_
  rintro e w17 ⟨rfl, hb17⟩
  clear hcall
  have HP17 := hid (heap_mono HP16.out hb17)
  have HR17 := hid (heap_mono HR16.out hb17)
  have HS5_17 := hid (HS5_16.out.mono hb17)
  have HS6_17 := hid (HS6_16.out.mono hb17)
  have HS7_17 := hid (HS7_16.out.mono hb17)
  have HB17 := hid (bl_trans HB16.out hb17)
  clear HP16 HR16 HS5_16 HS6_16 HS7_16
  clear hb17
  have hcall := chkchain_any 0 0 ⟨#[69, 78, 87, 88]⟩ w17 (by decide)
  rw [j_c3] at hcall
  go_wp2_with fail
  refine hcall.mono ?_
  rintro e w18 ⟨rfl, hb18⟩
  clear hcall
  have HP18 := hid (heap_mono HP17.out hb18)
  have HR18 := hid (heap_mono HR17.out hb18)
  have HS5_18 := hid (HS5_17.out.mono hb18)
  have HS6_18 := hid (HS6_17.out.mono hb18)
  have HS7_18 := hid (HS7_17.out.mono hb18)
  have HB18 := hid (bl_trans HB17.out hb18)
  clear HP17 HR17 HS5_17 HS6_17 HS7_17
  clear hb18
  have hcall := most_any 9 8 8 w18 (by decide)
  rw [j_m1, j_m2] at hcall
  go_wp2_with fail
  refine hcall.mono ?_
  rintro e w19 ⟨rfl, hb19⟩
  clear hcall
  have HP19 := hid (heap_mono HP18.out hb19)
  have HR19 := hid (heap_mono HR18.out hb19)
  have HS5_19 := hid (HS5_18.out.mono hb19)
  have HS6_19 := hid (HS6_18.out.mono hb19)
  have HS7_19 := hid (HS7_18.out.mono hb19)
  have HB19 := hid (bl_trans HB18.out hb19)
  clear HP18 HR18 HS5_18 HS6_18 HS7_18
  clear hb19
  have hcall := most_any 12 2 8 w19 (by decide)
  rw [j_m3, j_m4] at hcall
  go_wp2_with fail
  refine hcall.mono ?_
  rintro e w20 ⟨rfl, hb20⟩
  clear hcall
  have HP20 := hid (heap_mono HP19.out hb20)
  have HR20 := hid (heap_mono HR19.out hb20)
  have HS5_20 := hid (HS5_19.out.mono hb20)
  have HS6_20 := hid (HS6_19.out.mono hb20)
  have HS7_20 := hid (HS7_19.out.mono hb20)
  have HB20 := hid (bl_trans HB19.out hb20)
  clear HP19 HR19 HS5_19 HS6_19 HS7_19
  clear hb20
  have hcall := works_any w20
  go_wp2_with fail
  refine hcall.mono ?_
  rintro e w21 ⟨rfl, hb21⟩
  clear hcall
  have HP21 := hid (heap_mono HP20.out hb21)
  have HR21 := hid (heap_mono HR20.out hb21)
  have HS5_21 := hid (HS5_20.out.mono hb21)
  have HS6_21 := hid (HS6_20.out.mono hb21)
  have HS7_21 := hid (HS7_20.out.mono hb21)
  have HB21 := hid (bl_trans HB20.out hb21)
  clear HP20 HR20 HS5_20 HS6_20 HS7_20
  clear hb21
  go_wp2
  go_ret
  exact ⟨rfl, HB21.out⟩
end Go.Proofs.Ytlkoadcbolkhoaa
