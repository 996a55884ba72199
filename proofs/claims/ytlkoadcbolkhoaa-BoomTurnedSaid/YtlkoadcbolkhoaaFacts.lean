/- The chapter's examples, computed (plain). -/
import Derived.Test.YtlkoadcbolkhoaaWays
import Derived.Test.YtlkoadcbolkhoaaKinds
import Derived.Test.YtlkoadcbolkhoaaSticks
import Derived.Test.YtlkoadcbolkhoaaChkw
import Derived.Test.YtlkoadcbolkhoaaRsides
import Derived.Test.YtlkoadcbolkhoaaEncl
import Derived.Test.YtlkoadcbolkhoaaArea
import Derived.Test.YtlkoadcbolkhoaaMost
import Derived.Test.YtlkoadcbolkhoaaLawa
import Derived.Test.YtlkoadcbolkhoaaRchkw
set_option linter.all false
namespace Go.Proofs.Ytlkoadcbolkhoaa

theorem k_s1 : sticksV 4 3 [5] [6] [4, 5] = 6 := by kernel_rfl
theorem k_s2 : sticksE 4 3 [5] [6] [4, 5] = 0 := by kernel_rfl
theorem k_s3 : sticksV 4 3 [5] [6] [5, 6] = 0 := by kernel_rfl
theorem k_s4 : sticksE 4 3 [5] [6] [5, 6] = 19 := by kernel_rfl
theorem k_p1 : pondE 4 3 [5, 7] [] = 0 := by kernel_rfl
theorem k_f1 : fewestV 4 3 [5, 7] [] = 8 := by kernel_rfl
theorem k_sm : smallV 4 3 [5, 7] [] = [5, 7] := by kernel_rfl
theorem k_la : largeV 4 3 [5, 7] [] = [5, 6, 7] := by kernel_rfl
theorem k_k1 : kindV 4 3 [5, 7] [] 6 = 1 := by kernel_rfl
theorem k_k2 : kindErr 4 3 [5, 7] [] 6 = 0 := by kernel_rfl
theorem k_w1 : waysV 4 3 [5] [6] [⟨[5, 6], -1⟩, ⟨[5, 4], 2⟩] = 2 := by kernel_rfl
theorem k_w2 : waysE 4 3 [5] [6] [⟨[5, 6], -1⟩, ⟨[5, 4], 2⟩] = 0 := by kernel_rfl
theorem k_w3 : waysV 4 3 [5] [6] [⟨[5, 6], -1⟩, ⟨[5, 6], -1⟩] = 0 := by kernel_rfl
theorem k_w4 : waysE 4 3 [5] [6] [⟨[5, 6], -1⟩, ⟨[5, 6], -1⟩] = 11 := by kernel_rfl
def sC : ByteArray := ⟨#[69, 69, 78, 78, 87, 83, 87, 83]⟩
def sB : ByteArray := ⟨#[69, 69, 87, 87]⟩
theorem k_c1 : chainE 0 0 ⟨#[69, 69, 87, 87]⟩ = 19 := by kernel_rfl
theorem k_c2 : chainE 1 1 ⟨#[69, 69, 78, 78, 87, 83, 87, 83]⟩ = 0 := by kernel_rfl
theorem k_e1 : enclL 1 1 ⟨#[69, 69, 78, 78, 87, 83, 87, 83]⟩ = [9, 10, 18] := by kernel_rfl
theorem k_a1 : areaS 1 1 ⟨#[69, 69, 78, 78, 87, 83, 87, 83]⟩ = 6 := by kernel_rfl
theorem k_m1 : mostB 10 8 8 = (2, 3) := by kernel_rfl
theorem k_m2 : mostE 10 8 8 = 0 := by kernel_rfl
end Go.Proofs.Ytlkoadcbolkhoaa

/- The chapter's examples hold: the walk. -/
namespace Go.Proofs.Ytlkoadcbolkhoaa
open Go Go.RowKit Go.Proofs
attribute [local go_sem] cell_grow frozen_grow

theorem k_aw1 : (waysS 4 3 [5, 7] []).length = 8 := by kernel_rfl
theorem k_aw0 : ((waysS 4 3 [5, 7] []).all fun x => decide (x.cells.length ≤ 64)) = true := by kernel_rfl
theorem k_aw2 : ∀ x ∈ waysS 4 3 [5, 7] [], x.cells.length ≤ 64 := fun x hx => by have := List.all_eq_true.1 k_aw0 x hx; simpa using this
theorem k_aw3 : waysRV 4 3 [5, 7] [] (waysS 4 3 [5, 7] []) = 8 := by kernel_rfl
theorem k_aw4 : waysRE 4 3 [5, 7] [] (waysS 4 3 [5, 7] []) = 0 := by kernel_rfl
def WayV (W : World) (v : Value) (l : List Int) (o : Int) : Prop := ∃ A n c, v = .agg #[.slice A n c, .int .i64 o] ∧ Ints W (.slice A n c) l
theorem WayV.mono {W W' : World} {v : Value} {l : List Int} {o : Int} (h : WayV W v l o) (hb : Below W.heap.size W W') : WayV W' v l o := by
  obtain ⟨A, n, c, h1, h2⟩ := h
  exact ⟨A, n, c, h1, h2.mono hb⟩
theorem ints_new {w : World} {l : List Int} {cs : Array Value} {n : Nat} (h : cs = (l.map (Value.int .i64)).toArray) (hn : n = l.length := by rfl) : Ints (w.alloc (.cells cs 3)) (.slice (some ⟨w.heap.size, 0, none⟩) n n) l := by
  subst hn h
  refine .inr ⟨w.heap.size, 0, _, rfl, Nat.le_refl _, by simp, fun i x hi => ?_⟩
  refine Eq.trans (World.cell?_alloc_new w _ 3 _) ?_
  simp [hi]
theorem ways_two {w : World} {A1 A2 : Option Addr} {n1 c1 n2 c2 : Nat} {l1 l2 : List Int} {o1 o2 : Int} (h1 : Ints w (.slice A1 n1 c1) l1) (h2 : Ints w (.slice A2 n2 c2) l2) :
    WaysI (w.alloc (.cells #[.slice A1 n1 c1, .int .i64 o1, .slice A2 n2 c2, .int .i64 o2] 81)) (.slice (some ⟨w.heap.size, 0, none⟩) 2 2) [⟨l1, o1⟩, ⟨l2, o2⟩] := by
  have hg : Below w.heap.size w (w.alloc (.cells #[.slice A1 n1 c1, .int .i64 o1, .slice A2 n2 c2, .int .i64 o2] 81)) := bl_alloc (bl_refl _) _
  have hc := fun i => World.cell?_alloc_new w #[.slice A1 n1 c1, .int .i64 o1, .slice A2 n2 c2, .int .i64 o2] 81 i
  refine .inr ⟨w.heap.size, 0, 2, rfl, Nat.le_refl _, by simp, fun i x hi => ?_⟩
  match i, hi with
  | 0, hi => simp at hi; subst hi; exact ⟨_, hc 0, h1.mono hg, hc 1⟩
  | 1, hi => simp at hi; subst hi; exact ⟨_, hc 2, h2.mono hg, hc 3⟩
  | i + 2, hi => simp at hi

set_option maxRecDepth 100000 in
set_option maxHeartbeats 16000000 in
theorem works_any (w : World) : Calls Try.prog 18 #[] w fun e w' => e = .returned (.bool true) ∧ Below w.heap.size w w' := by
  have i3 := info3
  have a5 : Ints (w.alloc (.cells #[.int .i64 5] 3)) (.slice (some ⟨w.heap.size, 0, none⟩) 1 1) [5] := ints_new (l := [5]) rfl
  have b5 := bl_alloc (bl_refl w) (.cells #[.int .i64 5] 3)
  have a6 : Ints ((w.alloc (.cells #[.int .i64 5] 3)).alloc (.cells #[.int .i64 6] 3)) (.slice (some ⟨(w.alloc (.cells #[.int .i64 5] 3)).heap.size, 0, none⟩) 1 1) [6] := ints_new (l := [6]) rfl
  have b6 := bl_alloc (bl_refl (w.alloc (.cells #[.int .i64 5] 3))) (.cells #[.int .i64 6] 3)
  have H5 := hid (a5.mono b6)
  have H6 := hid a6
  have HBa := hid (bl_trans b5 b6)
  clear a5 a6 b5 b6
  rw [World.size_alloc] at H6
  go_enter Try.func18, Try.ntmps18
  go_wp2_with fail
  refine (of_any _ _).mono ?_
  rintro e wq ⟨rfl, rfl⟩
  go_wp2_with fail
  refine (of_any _ _).mono ?_
  rintro e wq ⟨rfl, rfl⟩
  have hcall := mkpond_any 4 3 (some ⟨w.heap.size, 0, none⟩) (some ⟨w.heap.size + 1, 0, none⟩) 1 1 1 1 ((w.alloc (.cells #[.int .i64 5] 3)).alloc (.cells #[.int .i64 6] 3))
  go_wp2_with fail
  refine hcall.mono ?_
  rintro e wa ⟨rfl, hba⟩
  clear hcall
  have a7 : Ints (wa.alloc (.cells #[.int .i64 5, .int .i64 7] 3)) (.slice (some ⟨wa.heap.size, 0, none⟩) 2 2) [5, 7] := ints_new (l := [5, 7]) rfl
  have b7 := bl_alloc (bl_refl wa) (.cells #[.int .i64 5, .int .i64 7] 3)
  have H5b := hid ((H5.out.mono hba).mono b7)
  have H6b := hid ((H6.out.mono hba).mono b7)
  have H7 := hid a7
  have HBb := hid (bl_trans (bl_trans HBa.out hba) b7)
  clear H5 H6 HBa hba a7 b7
  go_wp2_with fail
  refine (of_any _ _).mono ?_
  rintro e wq ⟨rfl, rfl⟩
  have hcall := mkpond_any 4 3 (some ⟨wa.heap.size, 0, none⟩) none 2 2 0 0 (wa.alloc (.cells #[.int .i64 5, .int .i64 7] 3))
  go_wp2_with fail
  refine hcall.mono ?_
  rintro e wb ⟨rfl, hbb⟩
  clear hcall
  obtain ⟨p5, hp5⟩ : ∃ p, w.heap.size = p := ⟨_, rfl⟩
  obtain ⟨p6, hp6⟩ : ∃ p, w.heap.size + 1 = p := ⟨_, rfl⟩
  obtain ⟨p7, hp7⟩ : ∃ p, wa.heap.size = p := ⟨_, rfl⟩
  rw [hp6] at H6b ⊢
  rw [hp7] at H7 ⊢
  have HB5 := H5b
  rw [hp5] at H5b ⊢
  have bx := bl_alloc (bl_refl wb) (.cells #[.int .i64 4, .int .i64 3, .slice (some ⟨p5, 0, none⟩) 1 1, .slice (some ⟨p6, 0, none⟩) 1 1] 24)
  have by_ := bl_alloc (bl_refl (wb.alloc (.cells #[.int .i64 4, .int .i64 3, .slice (some ⟨p5, 0, none⟩) 1 1, .slice (some ⟨p6, 0, none⟩) 1 1] 24))) (.cells #[.int .i64 4, .int .i64 3, .slice (some ⟨p7, 0, none⟩) 2 2, .slice none 0 0] 24)
  have hx := World.alloc_heap_new wb (.cells #[.int .i64 4, .int .i64 3, .slice (some ⟨p5, 0, none⟩) 1 1, .slice (some ⟨p6, 0, none⟩) 1 1] 24)
  have hy := World.alloc_heap_new (wb.alloc (.cells #[.int .i64 4, .int .i64 3, .slice (some ⟨p5, 0, none⟩) 1 1, .slice (some ⟨p6, 0, none⟩) 1 1] 24)) (.cells #[.int .i64 4, .int .i64 3, .slice (some ⟨p7, 0, none⟩) 2 2, .slice none 0 0] 24)
  rw [World.size_alloc] at hy
  have hbt := bl_trans hbb (bl_trans bx by_)
  have HP0 := hid (heap_mono hx by_)
  have HR0 := hid hy
  have HS5_0 := hid (H5b.out.mono hbt)
  have HS6_0 := hid (H6b.out.mono hbt)
  have HS7_0 := hid (H7.out.mono hbt)
  have HB0 := hid (bl_trans HBb.out hbt)
  clear hx hy bx by_ hbt hbb H5b H6b H7 HBb HB5
  go_upto_region 2 with (fail)
  obtain ⟨w0, hw0⟩ : ∃ w0, (wb.alloc (.cells #[.int .i64 4, .int .i64 3, .slice (some ⟨p5, 0, none⟩) 1 1, .slice (some ⟨p6, 0, none⟩) 1 1] 24)).alloc (.cells #[.int .i64 4, .int .i64 3, .slice (some ⟨p7, 0, none⟩) 2 2, .slice none 0 0] 24) = w0 := ⟨_, rfl⟩
  obtain ⟨X, hX⟩ : ∃ X, wb.heap.size = X := ⟨_, rfl⟩
  obtain ⟨Y, hY⟩ : ∃ Y, X + 1 = Y := ⟨_, rfl⟩
  rw [hX] at HP0 HR0 ⊢
  rw [hY] at HR0 ⊢
  rw [hw0] at HP0 HR0 HS5_0 HS6_0 HS7_0 HB0 ⊢
  clear hw0 hX hY hp5 hp6 hp7 i3
  go_upto_region 2 with (fail)
  refine wp_region_valsG w0 (bl_refl _) [43, 44, 45, 46, 42, 47, 48, 3, 4] (fun seen u W => (seen 0 = true → u 43 = .agg #[.int .i64 4, .int .i64 3, .slice (some ⟨p5, 0, none⟩) 1 1, .slice (some ⟨p6, 0, none⟩) 1 1]) ∧
    (seen 1 = true → RowAt w0.heap.size W (u 44) 3 #[.int .i64 4, .int .i64 5]) ∧
    (seen 2 = true → RowAt w0.heap.size W (u 45) 3 #[.int .i64 4, .int .i64 5]) ∧
    (seen 3 = true → u 46 = .tuple #[.int .i64 6, .int .i64 0]) ∧
    (seen 4 = true → u 42 = .tuple #[.int .i64 6, .int .i64 0]) ∧
    (seen 5 = true → u 47 = .int .i64 6) ∧
    (seen 6 = true → u 48 = .int .i64 0) ∧
    (seen 7 = true → u 3 = .int .i64 6) ∧
    (seen 8 = true → u 4 = .int .i64 0))
    (by kernel_rfl) (by kernel_rfl) (by kernel_rfl) (by simp) (by simp) ?_ ?_
  · intro i o ho seen a' w9 hb9 ⟨F0, F1, F2, F3, F4, F5, F6, F7, F8⟩ hv hsi hdep
    have hbx := heap_mono HP0.out hb9
    have c0 : w9.cell? ⟨X, 0, none⟩ = some (.int .i64 4) := cell_of_heap hbx
    have c1 : w9.cell? ⟨X, 1, none⟩ = some (.int .i64 3) := cell_of_heap hbx
    have c2 : w9.cell? ⟨X, 2, none⟩ = some (.slice (some ⟨p5, 0, none⟩) 1 1) := cell_of_heap hbx
    have c3 : w9.cell? ⟨X, 3, none⟩ = some (.slice (some ⟨p6, 0, none⟩) 1 1) := cell_of_heap hbx
    have hXl := (Array.getElem?_eq_some_iff.1 hbx).1
    rcases i with _ | _ | _ | _ | _ | _ | _ | _ | _ | i <;> simp only [List.getElem?_cons_zero, List.getElem?_cons_succ, List.getElem?_nil, Option.some.injEq, reduceCtorEq] at ho <;> subst ho
    · refine if_free rfl ?_
      have x1 := val_at (hv 1 (by simp))
      simp [valsOf] at x1
      refine wp_value (.agg #[.int .i64 4, .int .i64 3, .slice (some ⟨p5, 0, none⟩) 1 1, .slice (some ⟨p6, 0, none⟩) 1 1]) (w' := w9) (by simp [execOp, x1, go_sem, c0, c1, c2, c3, hXl]) ⟨_, rfl, hb9, ?_⟩
      exact ⟨by simp, by simpa using F1, by simpa using F2, by simpa using F3, by simpa using F4, by simpa using F5, by simpa using F6, by simpa using F7, by simpa using F8⟩
    · refine if_free rfl ?_
      have hg : Below w9.heap.size w9 (w9.alloc (.cells #[.int .i64 4, .int .i64 5] 3)) := bl_alloc (bl_refl _) _
      refine wp_value (.slice (some ⟨w9.heap.size, 0, none⟩) 2 2) (w' := w9.alloc (.cells #[.int .i64 4, .int .i64 5] 3)) (by simp [execOp, go_sem, c0, c1, c2, c3, hXl]) ⟨_, rfl, bl_trans hb9 hg, ?_⟩
      have hn : RowAt w0.heap.size (w9.alloc (.cells #[.int .i64 4, .int .i64 5] 3)) (.slice (some ⟨w9.heap.size, 0, none⟩) 2 2) 3 #[.int .i64 4, .int .i64 5] := RowAt.new (by have := hb9.size; omega)
      exact ⟨by simpa using F0, by simpa using hn, by simpa using fun h => (F2 h).mono hg, by simpa using F3, by simpa using F4, by simpa using F5, by simpa using F6, by simpa using F7, by simpa using F8⟩
    · refine if_free rfl ?_
      have d1 := hdep ⟨1, .data⟩ (by simp) rfl
      refine wp_calls (f := 59) (args := #[valsOf a' 44]) (w' := w9) (by simp [go_sem, valsOf]) (of_any _ _) ?_
      rintro e w10 ⟨rfl, rfl⟩
      refine ⟨_, rfl, _, rfl, hb9, ?_⟩
      exact ⟨by simpa using F0, by simpa using F1, by simpa using F1 d1, by simpa using F3, by simpa using F4, by simpa using F5, by simpa using F6, by simpa using F7, by simpa using F8⟩
    · refine if_free rfl ?_
      have d0 := hdep ⟨0, .data⟩ (by simp) rfl
      have e0 := val_at (F0 d0)
      have d2 := hdep ⟨2, .data⟩ (by simp) rfl
      obtain ⟨g2, r2, _, _⟩ := F2 d2
      have e2 := val_at r2
      have hi : Ints w9 (.slice (some ⟨g2, 0, none⟩) 2 2) [4, 5] := by have := (F2 d2).ints (l := [4, 5]); rwa [r2] at this
      have hcl := sticks_any (wd := 4) (hg := 3) (want := [5]) (keep := [6]) (water := [4, 5]) w9 (by decide) (by decide) (by decide) (HS5_0.out.mono hb9) (HS6_0.out.mono hb9) hi
      rw [k_s1, k_s2] at hcl
      refine wp_calls (f := 19) (args := #[.agg #[.int .i64 4, .int .i64 3, .slice (some ⟨p5, 0, none⟩) 1 1, .slice (some ⟨p6, 0, none⟩) 1 1], .slice (some ⟨g2, 0, none⟩) 2 2]) (w' := w9) (by simp [execOp, e0, e2, go_sem]) hcl ?_
      rintro e w10 ⟨rfl, hg⟩
      refine ⟨_, rfl, _, rfl, bl_trans hb9 hg, ?_⟩
      exact ⟨by simpa using F0, by simpa using fun h => (F1 h).mono hg, by simpa using fun h => (F2 h).mono hg, by simp, by simpa using F4, by simpa using F5, by simpa using F6, by simpa using F7, by simpa using F8⟩
    · refine if_free rfl ?_
      have d3 := hdep ⟨3, .data⟩ (by simp) rfl
      have e3 := val_at (F3 d3)
      refine wp_value (.tuple #[.int .i64 6, .int .i64 0]) (w' := w9) (by simp [execOp, e3, go_sem, c0, c1, c2, c3, hXl]) ⟨_, rfl, hb9, ?_⟩
      exact ⟨by simpa using F0, by simpa using F1, by simpa using F2, by simpa using F3, by simp, by simpa using F5, by simpa using F6, by simpa using F7, by simpa using F8⟩
    · refine if_free rfl ?_
      have d4 := hdep ⟨4, .data⟩ (by simp) rfl
      have e4 := val_at (F4 d4)
      refine wp_value (.int .i64 6) (w' := w9) (by simp [execOp, e4, go_sem, c0, c1, c2, c3, hXl]) ⟨_, rfl, hb9, ?_⟩
      exact ⟨by simpa using F0, by simpa using F1, by simpa using F2, by simpa using F3, by simpa using F4, by simp, by simpa using F6, by simpa using F7, by simpa using F8⟩
    · refine if_free rfl ?_
      have d4 := hdep ⟨4, .data⟩ (by simp) rfl
      have e4 := val_at (F4 d4)
      refine wp_value (.int .i64 0) (w' := w9) (by simp [execOp, e4, go_sem, c0, c1, c2, c3, hXl]) ⟨_, rfl, hb9, ?_⟩
      exact ⟨by simpa using F0, by simpa using F1, by simpa using F2, by simpa using F3, by simpa using F4, by simpa using F5, by simp, by simpa using F7, by simpa using F8⟩
    · refine if_free rfl ?_
      have d5 := hdep ⟨5, .data⟩ (by simp) rfl
      have e5 := val_at (F5 d5)
      refine wp_value (.int .i64 6) (w' := w9) (by simp [execOp, e5, go_sem, c0, c1, c2, c3, hXl]) ⟨_, rfl, hb9, ?_⟩
      exact ⟨by simpa using F0, by simpa using F1, by simpa using F2, by simpa using F3, by simpa using F4, by simpa using F5, by simpa using F6, by simp, by simpa using F8⟩
    · refine if_free rfl ?_
      have d6 := hdep ⟨6, .data⟩ (by simp) rfl
      have e6 := val_at (F6 d6)
      refine wp_value (.int .i64 0) (w' := w9) (by simp [execOp, e6, go_sem, c0, c1, c2, c3, hXl]) ⟨_, rfl, hb9, ?_⟩
      exact ⟨by simpa using F0, by simpa using F1, by simpa using F2, by simpa using F3, by simpa using F4, by simpa using F5, by simpa using F6, by simpa using F7, by simp⟩
  intro u w1 hb1 seen hall ⟨F0, F1, F2, F3, F4, F5, F6, F7, F8⟩
  replace F0 := F0 (hall 0 (by decide))
  replace F1 := F1 (hall 1 (by decide))
  replace F2 := F2 (hall 2 (by decide))
  replace F3 := F3 (hall 3 (by decide))
  replace F4 := F4 (hall 4 (by decide))
  replace F5 := F5 (hall 5 (by decide))
  replace F6 := F6 (hall 6 (by decide))
  replace F7 := F7 (hall 7 (by decide))
  replace F8 := F8 (hall 8 (by decide))
  simp only [setAll, F7, F8]
  clear hall seen F0 F1 F2 F3 F4 F5 F6 F7 F8
  generalize u 43 = u43
  generalize u 44 = u44
  generalize u 45 = u45
  generalize u 46 = u46
  generalize u 42 = u42
  generalize u 47 = u47
  generalize u 48 = u48
  have HP1 := hid (heap_mono HP0.out hb1)
  have HR1 := hid (heap_mono HR0.out hb1)
  have HS5_1 := hid (HS5_0.out.mono hb1)
  have HS6_1 := hid (HS6_0.out.mono hb1)
  have HS7_1 := hid (HS7_0.out.mono hb1)
  have HB1 := hid (bl_trans HB0.out hb1)
  clear HP0 HR0 HS5_0 HS6_0 HS7_0
  clear hb1
  go_upto_region 3 with (fail)
  refine wp_region_valsG w1 (bl_refl _) [50, 51, 52, 53, 49, 54, 55, 5, 6] (fun seen u W => (seen 0 = true → u 50 = .agg #[.int .i64 4, .int .i64 3, .slice (some ⟨p5, 0, none⟩) 1 1, .slice (some ⟨p6, 0, none⟩) 1 1]) ∧
    (seen 1 = true → RowAt w1.heap.size W (u 51) 3 #[.int .i64 5, .int .i64 6]) ∧
    (seen 2 = true → RowAt w1.heap.size W (u 52) 3 #[.int .i64 5, .int .i64 6]) ∧
    (seen 3 = true → u 53 = .tuple #[.int .i64 0, .int .i64 19]) ∧
    (seen 4 = true → u 49 = .tuple #[.int .i64 0, .int .i64 19]) ∧
    (seen 5 = true → u 54 = .int .i64 0) ∧
    (seen 6 = true → u 55 = .int .i64 19) ∧
    (seen 7 = true → u 5 = .int .i64 0) ∧
    (seen 8 = true → u 6 = .int .i64 19))
    (by kernel_rfl) (by kernel_rfl) (by kernel_rfl) (by simp) (by simp) ?_ ?_
  · intro i o ho seen a' w9 hb9 ⟨F0, F1, F2, F3, F4, F5, F6, F7, F8⟩ hv hsi hdep
    have hbx := heap_mono HP1.out hb9
    have c0 : w9.cell? ⟨X, 0, none⟩ = some (.int .i64 4) := cell_of_heap hbx
    have c1 : w9.cell? ⟨X, 1, none⟩ = some (.int .i64 3) := cell_of_heap hbx
    have c2 : w9.cell? ⟨X, 2, none⟩ = some (.slice (some ⟨p5, 0, none⟩) 1 1) := cell_of_heap hbx
    have c3 : w9.cell? ⟨X, 3, none⟩ = some (.slice (some ⟨p6, 0, none⟩) 1 1) := cell_of_heap hbx
    have hXl := (Array.getElem?_eq_some_iff.1 hbx).1
    rcases i with _ | _ | _ | _ | _ | _ | _ | _ | _ | i <;> simp only [List.getElem?_cons_zero, List.getElem?_cons_succ, List.getElem?_nil, Option.some.injEq, reduceCtorEq] at ho <;> subst ho
    · refine if_free rfl ?_
      have x1 := val_at (hv 1 (by simp))
      simp [valsOf] at x1
      refine wp_value (.agg #[.int .i64 4, .int .i64 3, .slice (some ⟨p5, 0, none⟩) 1 1, .slice (some ⟨p6, 0, none⟩) 1 1]) (w' := w9) (by simp [execOp, x1, go_sem, c0, c1, c2, c3, hXl]) ⟨_, rfl, hb9, ?_⟩
      exact ⟨by simp, by simpa using F1, by simpa using F2, by simpa using F3, by simpa using F4, by simpa using F5, by simpa using F6, by simpa using F7, by simpa using F8⟩
    · refine if_free rfl ?_
      have hg : Below w9.heap.size w9 (w9.alloc (.cells #[.int .i64 5, .int .i64 6] 3)) := bl_alloc (bl_refl _) _
      refine wp_value (.slice (some ⟨w9.heap.size, 0, none⟩) 2 2) (w' := w9.alloc (.cells #[.int .i64 5, .int .i64 6] 3)) (by simp [execOp, go_sem, c0, c1, c2, c3, hXl]) ⟨_, rfl, bl_trans hb9 hg, ?_⟩
      have hn : RowAt w1.heap.size (w9.alloc (.cells #[.int .i64 5, .int .i64 6] 3)) (.slice (some ⟨w9.heap.size, 0, none⟩) 2 2) 3 #[.int .i64 5, .int .i64 6] := RowAt.new (by have := hb9.size; omega)
      exact ⟨by simpa using F0, by simpa using hn, by simpa using fun h => (F2 h).mono hg, by simpa using F3, by simpa using F4, by simpa using F5, by simpa using F6, by simpa using F7, by simpa using F8⟩
    · refine if_free rfl ?_
      have d1 := hdep ⟨1, .data⟩ (by simp) rfl
      refine wp_calls (f := 59) (args := #[valsOf a' 51]) (w' := w9) (by simp [go_sem, valsOf]) (of_any _ _) ?_
      rintro e w10 ⟨rfl, rfl⟩
      refine ⟨_, rfl, _, rfl, hb9, ?_⟩
      exact ⟨by simpa using F0, by simpa using F1, by simpa using F1 d1, by simpa using F3, by simpa using F4, by simpa using F5, by simpa using F6, by simpa using F7, by simpa using F8⟩
    · refine if_free rfl ?_
      have d0 := hdep ⟨0, .data⟩ (by simp) rfl
      have e0 := val_at (F0 d0)
      have d2 := hdep ⟨2, .data⟩ (by simp) rfl
      obtain ⟨g2, r2, _, _⟩ := F2 d2
      have e2 := val_at r2
      have hi : Ints w9 (.slice (some ⟨g2, 0, none⟩) 2 2) [5, 6] := by have := (F2 d2).ints (l := [5, 6]); rwa [r2] at this
      have hcl := sticks_any (wd := 4) (hg := 3) (want := [5]) (keep := [6]) (water := [5, 6]) w9 (by decide) (by decide) (by decide) (HS5_1.out.mono hb9) (HS6_1.out.mono hb9) hi
      rw [k_s3, k_s4] at hcl
      refine wp_calls (f := 19) (args := #[.agg #[.int .i64 4, .int .i64 3, .slice (some ⟨p5, 0, none⟩) 1 1, .slice (some ⟨p6, 0, none⟩) 1 1], .slice (some ⟨g2, 0, none⟩) 2 2]) (w' := w9) (by simp [execOp, e0, e2, go_sem]) hcl ?_
      rintro e w10 ⟨rfl, hg⟩
      refine ⟨_, rfl, _, rfl, bl_trans hb9 hg, ?_⟩
      exact ⟨by simpa using F0, by simpa using fun h => (F1 h).mono hg, by simpa using fun h => (F2 h).mono hg, by simp, by simpa using F4, by simpa using F5, by simpa using F6, by simpa using F7, by simpa using F8⟩
    · refine if_free rfl ?_
      have d3 := hdep ⟨3, .data⟩ (by simp) rfl
      have e3 := val_at (F3 d3)
      refine wp_value (.tuple #[.int .i64 0, .int .i64 19]) (w' := w9) (by simp [execOp, e3, go_sem, c0, c1, c2, c3, hXl]) ⟨_, rfl, hb9, ?_⟩
      exact ⟨by simpa using F0, by simpa using F1, by simpa using F2, by simpa using F3, by simp, by simpa using F5, by simpa using F6, by simpa using F7, by simpa using F8⟩
    · refine if_free rfl ?_
      have d4 := hdep ⟨4, .data⟩ (by simp) rfl
      have e4 := val_at (F4 d4)
      refine wp_value (.int .i64 0) (w' := w9) (by simp [execOp, e4, go_sem, c0, c1, c2, c3, hXl]) ⟨_, rfl, hb9, ?_⟩
      exact ⟨by simpa using F0, by simpa using F1, by simpa using F2, by simpa using F3, by simpa using F4, by simp, by simpa using F6, by simpa using F7, by simpa using F8⟩
    · refine if_free rfl ?_
      have d4 := hdep ⟨4, .data⟩ (by simp) rfl
      have e4 := val_at (F4 d4)
      refine wp_value (.int .i64 19) (w' := w9) (by simp [execOp, e4, go_sem, c0, c1, c2, c3, hXl]) ⟨_, rfl, hb9, ?_⟩
      exact ⟨by simpa using F0, by simpa using F1, by simpa using F2, by simpa using F3, by simpa using F4, by simpa using F5, by simp, by simpa using F7, by simpa using F8⟩
    · refine if_free rfl ?_
      have d5 := hdep ⟨5, .data⟩ (by simp) rfl
      have e5 := val_at (F5 d5)
      refine wp_value (.int .i64 0) (w' := w9) (by simp [execOp, e5, go_sem, c0, c1, c2, c3, hXl]) ⟨_, rfl, hb9, ?_⟩
      exact ⟨by simpa using F0, by simpa using F1, by simpa using F2, by simpa using F3, by simpa using F4, by simpa using F5, by simpa using F6, by simp, by simpa using F8⟩
    · refine if_free rfl ?_
      have d6 := hdep ⟨6, .data⟩ (by simp) rfl
      have e6 := val_at (F6 d6)
      refine wp_value (.int .i64 19) (w' := w9) (by simp [execOp, e6, go_sem, c0, c1, c2, c3, hXl]) ⟨_, rfl, hb9, ?_⟩
      exact ⟨by simpa using F0, by simpa using F1, by simpa using F2, by simpa using F3, by simpa using F4, by simpa using F5, by simpa using F6, by simpa using F7, by simp⟩
  intro u w2 hb2 seen hall ⟨F0, F1, F2, F3, F4, F5, F6, F7, F8⟩
  replace F0 := F0 (hall 0 (by decide))
  replace F1 := F1 (hall 1 (by decide))
  replace F2 := F2 (hall 2 (by decide))
  replace F3 := F3 (hall 3 (by decide))
  replace F4 := F4 (hall 4 (by decide))
  replace F5 := F5 (hall 5 (by decide))
  replace F6 := F6 (hall 6 (by decide))
  replace F7 := F7 (hall 7 (by decide))
  replace F8 := F8 (hall 8 (by decide))
  simp only [setAll, F7, F8]
  clear hall seen F0 F1 F2 F3 F4 F5 F6 F7 F8
  generalize u 50 = u50
  generalize u 51 = u51
  generalize u 52 = u52
  generalize u 53 = u53
  generalize u 49 = u49
  generalize u 54 = u54
  generalize u 55 = u55
  have HP2 := hid (heap_mono HP1.out hb2)
  have HR2 := hid (heap_mono HR1.out hb2)
  have HS5_2 := hid (HS5_1.out.mono hb2)
  have HS6_2 := hid (HS6_1.out.mono hb2)
  have HS7_2 := hid (HS7_1.out.mono hb2)
  have HB2 := hid (bl_trans HB1.out hb2)
  clear HP1 HR1 HS5_1 HS6_1 HS7_1
  clear hb2
  have c0 : w2.cell? ⟨Y, 0, none⟩ = some (.int .i64 4) := cell_of_heap HR2.out
  have c1 : w2.cell? ⟨Y, 1, none⟩ = some (.int .i64 3) := cell_of_heap HR2.out
  have c2 : w2.cell? ⟨Y, 2, none⟩ = some (.slice (some ⟨p7, 0, none⟩) 2 2) := cell_of_heap HR2.out
  have c3 : w2.cell? ⟨Y, 3, none⟩ = some (.slice none 0 0) := cell_of_heap HR2.out
  have cl := (Array.getElem?_eq_some_iff.1 HR2.out).1
  have hcall := fewest_any (wd := 4) (hg := 3) (want := [5, 7]) (keep := []) w2 (by decide) (by decide) HS7_2.out (.inl ⟨rfl, rfl⟩)
  rw [k_f1, k_p1] at hcall
  go_wp2_with fail
  refine hcall.mono ?_
  rintro e w3 ⟨rfl, hb3⟩
  clear hcall c0 c1 c2 c3 cl
  have HP3 := hid (heap_mono HP2.out hb3)
  have HR3 := hid (heap_mono HR2.out hb3)
  have HS5_3 := hid (HS5_2.out.mono hb3)
  have HS6_3 := hid (HS6_2.out.mono hb3)
  have HS7_3 := hid (HS7_2.out.mono hb3)
  have HB3 := hid (bl_trans HB2.out hb3)
  clear HP2 HR2 HS5_2 HS6_2 HS7_2
  clear hb3
  have c0 : w3.cell? ⟨Y, 0, none⟩ = some (.int .i64 4) := cell_of_heap HR3.out
  have c1 : w3.cell? ⟨Y, 1, none⟩ = some (.int .i64 3) := cell_of_heap HR3.out
  have c2 : w3.cell? ⟨Y, 2, none⟩ = some (.slice (some ⟨p7, 0, none⟩) 2 2) := cell_of_heap HR3.out
  have c3 : w3.cell? ⟨Y, 3, none⟩ = some (.slice none 0 0) := cell_of_heap HR3.out
  have cl := (Array.getElem?_eq_some_iff.1 HR3.out).1
  have hcall := smallest_any (wd := 4) (hg := 3) (want := [5, 7]) (keep := []) w3 (by decide) (by decide) HS7_3.out (.inl ⟨rfl, rfl⟩)
  rw [k_sm, k_p1] at hcall
  go_wp2_with fail
  refine hcall.mono ?_
  rintro e w4 ⟨⟨sm, rfl, hsm⟩, hb4⟩
  clear hcall c0 c1 c2 c3 cl
  have HP4 := hid (heap_mono HP3.out hb4)
  have HR4 := hid (heap_mono HR3.out hb4)
  have HS5_4 := hid (HS5_3.out.mono hb4)
  have HS6_4 := hid (HS6_3.out.mono hb4)
  have HS7_4 := hid (HS7_3.out.mono hb4)
  have HB4 := hid (bl_trans HB3.out hb4)
  clear HP3 HR3 HS5_3 HS6_3 HS7_3
  have HSM_4 := hid hsm
  clear hsm
  clear hb4
  obtain ⟨Am, cAm, rfl⟩ := HSM_4.out.slice
  have c0 : w4.cell? ⟨Y, 0, none⟩ = some (.int .i64 4) := cell_of_heap HR4.out
  have c1 : w4.cell? ⟨Y, 1, none⟩ = some (.int .i64 3) := cell_of_heap HR4.out
  have c2 : w4.cell? ⟨Y, 2, none⟩ = some (.slice (some ⟨p7, 0, none⟩) 2 2) := cell_of_heap HR4.out
  have c3 : w4.cell? ⟨Y, 3, none⟩ = some (.slice none 0 0) := cell_of_heap HR4.out
  have cl := (Array.getElem?_eq_some_iff.1 HR4.out).1
  have hcall := largest_any (wd := 4) (hg := 3) (want := [5, 7]) (keep := []) w4 (by decide) (by decide) HS7_4.out (.inl ⟨rfl, rfl⟩)
  rw [k_la, k_p1] at hcall
  go_wp2_with fail
  refine hcall.mono ?_
  rintro e w5 ⟨⟨la, rfl, hla⟩, hb5⟩
  clear hcall c0 c1 c2 c3 cl
  have HP5 := hid (heap_mono HP4.out hb5)
  have HR5 := hid (heap_mono HR4.out hb5)
  have HS5_5 := hid (HS5_4.out.mono hb5)
  have HS6_5 := hid (HS6_4.out.mono hb5)
  have HS7_5 := hid (HS7_4.out.mono hb5)
  have HSM_5 := hid (HSM_4.out.mono hb5)
  have HB5 := hid (bl_trans HB4.out hb5)
  clear HP4 HR4 HS5_4 HS6_4 HS7_4 HSM_4
  have HLA_5 := hid hla
  clear hla
  clear hb5
  obtain ⟨Al, cAl, rfl⟩ := HLA_5.out.slice
  have c0 : w5.cell? ⟨Y, 0, none⟩ = some (.int .i64 4) := cell_of_heap HR5.out
  have c1 : w5.cell? ⟨Y, 1, none⟩ = some (.int .i64 3) := cell_of_heap HR5.out
  have c2 : w5.cell? ⟨Y, 2, none⟩ = some (.slice (some ⟨p7, 0, none⟩) 2 2) := cell_of_heap HR5.out
  have c3 : w5.cell? ⟨Y, 3, none⟩ = some (.slice none 0 0) := cell_of_heap HR5.out
  have cl := (Array.getElem?_eq_some_iff.1 HR5.out).1
  have hcall := kind_any (wd := 4) (hg := 3) (want := [5, 7]) (keep := []) 6 w5 (by decide) (by decide) HS7_5.out (.inl ⟨rfl, rfl⟩)
  rw [k_k1, k_k2] at hcall
  go_wp2_with fail
  refine hcall.mono ?_
  rintro e w6 ⟨rfl, hb6⟩
  clear hcall c0 c1 c2 c3 cl
  have HP6 := hid (heap_mono HP5.out hb6)
  have HR6 := hid (heap_mono HR5.out hb6)
  have HS5_6 := hid (HS5_5.out.mono hb6)
  have HS6_6 := hid (HS6_5.out.mono hb6)
  have HS7_6 := hid (HS7_5.out.mono hb6)
  have HSM_6 := hid (HSM_5.out.mono hb6)
  have HLA_6 := hid (HLA_5.out.mono hb6)
  have HB6 := hid (bl_trans HB5.out hb6)
  clear HP5 HR5 HS5_5 HS6_5 HS7_5 HSM_5 HLA_5
  clear hb6
  go_upto_region 8 with (fail)
  refine wp_region_valsG w6 (bl_refl _) [77, 78, 79, 80, 81, 82, 83, 76, 84, 85, 15, 16] (fun seen u W => (seen 0 = true → u 77 = .agg #[.int .i64 4, .int .i64 3, .slice (some ⟨p5, 0, none⟩) 1 1, .slice (some ⟨p6, 0, none⟩) 1 1]) ∧
    (seen 1 = true → RowAt w6.heap.size W (u 78) 3 #[.int .i64 5, .int .i64 6]) ∧
    (seen 2 = true → WayV W (u 79) [5, 6] (-1)) ∧
    (seen 3 = true → RowAt w6.heap.size W (u 80) 3 #[.int .i64 5, .int .i64 4]) ∧
    (seen 4 = true → WayV W (u 81) [5, 4] (2)) ∧
    (seen 5 = true → WaysI W (u 82) [⟨[5, 6], -1⟩, ⟨[5, 4], 2⟩]) ∧
    (seen 6 = true → u 83 = .tuple #[.int .i64 2, .int .i64 0]) ∧
    (seen 7 = true → u 76 = .tuple #[.int .i64 2, .int .i64 0]) ∧
    (seen 8 = true → u 84 = .int .i64 2) ∧
    (seen 9 = true → u 85 = .int .i64 0) ∧
    (seen 10 = true → u 15 = .int .i64 2) ∧
    (seen 11 = true → u 16 = .int .i64 0))
    (by kernel_rfl) (by kernel_rfl) (by kernel_rfl) (by simp) (by simp) ?_ ?_
  · intro i o ho seen a' w9 hb9 ⟨F0, F1, F2, F3, F4, F5, F6, F7, F8, F9, F10, F11⟩ hv hsi hdep
    have hbx := heap_mono HP6.out hb9
    have c0 : w9.cell? ⟨X, 0, none⟩ = some (.int .i64 4) := cell_of_heap hbx
    have c1 : w9.cell? ⟨X, 1, none⟩ = some (.int .i64 3) := cell_of_heap hbx
    have c2 : w9.cell? ⟨X, 2, none⟩ = some (.slice (some ⟨p5, 0, none⟩) 1 1) := cell_of_heap hbx
    have c3 : w9.cell? ⟨X, 3, none⟩ = some (.slice (some ⟨p6, 0, none⟩) 1 1) := cell_of_heap hbx
    have hXl := (Array.getElem?_eq_some_iff.1 hbx).1
    rcases i with _ | _ | _ | _ | _ | _ | _ | _ | _ | _ | _ | _ | i <;> simp only [List.getElem?_cons_zero, List.getElem?_cons_succ, List.getElem?_nil, Option.some.injEq, reduceCtorEq] at ho <;> subst ho
    · refine if_free rfl ?_
      have x1 := val_at (hv 1 (by simp))
      simp [valsOf] at x1
      refine wp_value (.agg #[.int .i64 4, .int .i64 3, .slice (some ⟨p5, 0, none⟩) 1 1, .slice (some ⟨p6, 0, none⟩) 1 1]) (w' := w9) (by simp [execOp, x1, go_sem, c0, c1, c2, c3, hXl]) ⟨_, rfl, hb9, ?_⟩
      exact ⟨by simp, by simpa using F1, by simpa using F2, by simpa using F3, by simpa using F4, by simpa using F5, by simpa using F6, by simpa using F7, by simpa using F8, by simpa using F9, by simpa using F10, by simpa using F11⟩
    · refine if_free rfl ?_
      have hg : Below w9.heap.size w9 (w9.alloc (.cells #[.int .i64 5, .int .i64 6] 3)) := bl_alloc (bl_refl _) _
      refine wp_value (.slice (some ⟨w9.heap.size, 0, none⟩) 2 2) (w' := w9.alloc (.cells #[.int .i64 5, .int .i64 6] 3)) (by simp [execOp, go_sem, c0, c1, c2, c3, hXl]) ⟨_, rfl, bl_trans hb9 hg, ?_⟩
      have hn : RowAt w6.heap.size (w9.alloc (.cells #[.int .i64 5, .int .i64 6] 3)) (.slice (some ⟨w9.heap.size, 0, none⟩) 2 2) 3 #[.int .i64 5, .int .i64 6] := RowAt.new (by have := hb9.size; omega)
      exact ⟨by simpa using F0, by simpa using hn, by simpa using fun h => (F2 h).mono hg, by simpa using fun h => (F3 h).mono hg, by simpa using fun h => (F4 h).mono hg, by simpa using fun h => (F5 h).mono hg, by simpa using F6, by simpa using F7, by simpa using F8, by simpa using F9, by simpa using F10, by simpa using F11⟩
    · refine if_free rfl ?_
      have d1 := hdep ⟨1, .data⟩ (by simp) rfl
      obtain ⟨g1, r1, _, _⟩ := F1 d1
      have e1 := val_at r1
      have hi : Ints w9 (.slice (some ⟨g1, 0, none⟩) 2 2) [5, 6] := by have := (F1 d1).ints (l := [5, 6]); rwa [r1] at this
      refine wp_calls (f := 60) (args := #[.int .i64 (-1), .slice (some ⟨g1, 0, none⟩) 2 2]) (w' := w9) (by simp [execOp, e1, go_sem]) (mkway_any _ _ _ _ w9) ?_
      rintro e w10 ⟨rfl, hg⟩
      have hn : WayV w10 (.agg #[.slice (some ⟨g1, 0, none⟩) 2 2, .int .i64 (-1)]) [5, 6] (-1) := ⟨_, _, _, rfl, hi.mono hg⟩
      refine ⟨_, rfl, _, rfl, bl_trans hb9 hg, ?_⟩
      exact ⟨by simpa using F0, by simpa using fun h => (F1 h).mono hg, by simpa using hn, by simpa using fun h => (F3 h).mono hg, by simpa using fun h => (F4 h).mono hg, by simpa using fun h => (F5 h).mono hg, by simpa using F6, by simpa using F7, by simpa using F8, by simpa using F9, by simpa using F10, by simpa using F11⟩
    · refine if_free rfl ?_
      have hg : Below w9.heap.size w9 (w9.alloc (.cells #[.int .i64 5, .int .i64 4] 3)) := bl_alloc (bl_refl _) _
      refine wp_value (.slice (some ⟨w9.heap.size, 0, none⟩) 2 2) (w' := w9.alloc (.cells #[.int .i64 5, .int .i64 4] 3)) (by simp [execOp, go_sem, c0, c1, c2, c3, hXl]) ⟨_, rfl, bl_trans hb9 hg, ?_⟩
      have hn : RowAt w6.heap.size (w9.alloc (.cells #[.int .i64 5, .int .i64 4] 3)) (.slice (some ⟨w9.heap.size, 0, none⟩) 2 2) 3 #[.int .i64 5, .int .i64 4] := RowAt.new (by have := hb9.size; omega)
      exact ⟨by simpa using F0, by simpa using fun h => (F1 h).mono hg, by simpa using fun h => (F2 h).mono hg, by simpa using hn, by simpa using fun h => (F4 h).mono hg, by simpa using fun h => (F5 h).mono hg, by simpa using F6, by simpa using F7, by simpa using F8, by simpa using F9, by simpa using F10, by simpa using F11⟩
    · refine if_free rfl ?_
      have d3 := hdep ⟨3, .data⟩ (by simp) rfl
      obtain ⟨g3, r3, _, _⟩ := F3 d3
      have e3 := val_at r3
      have hi : Ints w9 (.slice (some ⟨g3, 0, none⟩) 2 2) [5, 4] := by have := (F3 d3).ints (l := [5, 4]); rwa [r3] at this
      refine wp_calls (f := 60) (args := #[.int .i64 (2), .slice (some ⟨g3, 0, none⟩) 2 2]) (w' := w9) (by simp [execOp, e3, go_sem]) (mkway_any _ _ _ _ w9) ?_
      rintro e w10 ⟨rfl, hg⟩
      have hn : WayV w10 (.agg #[.slice (some ⟨g3, 0, none⟩) 2 2, .int .i64 (2)]) [5, 4] (2) := ⟨_, _, _, rfl, hi.mono hg⟩
      refine ⟨_, rfl, _, rfl, bl_trans hb9 hg, ?_⟩
      exact ⟨by simpa using F0, by simpa using fun h => (F1 h).mono hg, by simpa using fun h => (F2 h).mono hg, by simpa using fun h => (F3 h).mono hg, by simpa using hn, by simpa using fun h => (F5 h).mono hg, by simpa using F6, by simpa using F7, by simpa using F8, by simpa using F9, by simpa using F10, by simpa using F11⟩
    · refine if_free rfl ?_
      have d2 := hdep ⟨2, .data⟩ (by simp) rfl
      have d4 := hdep ⟨4, .data⟩ (by simp) rfl
      obtain ⟨A1, n1, c1', ea, hi1⟩ := F2 d2
      obtain ⟨A2, n2, c2', eb, hi2⟩ := F4 d4
      have ea' := val_at ea
      have eb' := val_at eb
      have hg : Below w9.heap.size w9 (w9.alloc (.cells #[.slice A1 n1 c1', .int .i64 (-1), .slice A2 n2 c2', .int .i64 (2)] 81)) := bl_alloc (bl_refl _) _
      have hn : WaysI (w9.alloc (.cells #[.slice A1 n1 c1', .int .i64 (-1), .slice A2 n2 c2', .int .i64 (2)] 81)) (.slice (some ⟨w9.heap.size, 0, none⟩) 2 2) [⟨[5, 6], -1⟩, ⟨[5, 4], 2⟩] := ways_two hi1 hi2
      refine wp_value (.slice (some ⟨w9.heap.size, 0, none⟩) 2 2) (w' := w9.alloc (.cells #[.slice A1 n1 c1', .int .i64 (-1), .slice A2 n2 c2', .int .i64 (2)] 81)) (by simp [execOp, ea', eb', go_sem]) ⟨_, rfl, bl_trans hb9 hg, ?_⟩
      exact ⟨by simpa using F0, by simpa using fun h => (F1 h).mono hg, by simpa using fun h => (F2 h).mono hg, by simpa using fun h => (F3 h).mono hg, by simpa using fun h => (F4 h).mono hg, by simpa using hn, by simpa using F6, by simpa using F7, by simpa using F8, by simpa using F9, by simpa using F10, by simpa using F11⟩
    · refine if_free rfl ?_
      have d0 := hdep ⟨0, .data⟩ (by simp) rfl
      have e0 := val_at (F0 d0)
      have d5 := hdep ⟨5, .data⟩ (by simp) rfl
      have hwi := F5 d5
      obtain ⟨A7, c7, e7⟩ := hwi.slice
      have e7' := val_at e7
      rw [e7] at hwi
      have hcl := chkways_any (wd := 4) (hg := 3) (want := [5]) (keep := [6]) (l := [⟨[5, 6], -1⟩, ⟨[5, 4], 2⟩]) w9 (by decide) (by decide) (by decide) (by intro x hx; simp only [List.mem_cons, List.not_mem_nil, or_false] at hx; rcases hx with rfl | rfl <;> simp) (HS5_6.out.mono hb9) (HS6_6.out.mono hb9) hwi
      rw [k_w1, k_w2] at hcl
      refine wp_calls (f := 34) (args := #[.agg #[.int .i64 4, .int .i64 3, .slice (some ⟨p5, 0, none⟩) 1 1, .slice (some ⟨p6, 0, none⟩) 1 1], .slice A7 2 c7]) (w' := w9) (by simp [execOp, e0, e7', go_sem]) hcl ?_
      rintro e w10 ⟨rfl, hg⟩
      refine ⟨_, rfl, _, rfl, bl_trans hb9 hg, ?_⟩
      exact ⟨by simpa using F0, by simpa using fun h => (F1 h).mono hg, by simpa using fun h => (F2 h).mono hg, by simpa using fun h => (F3 h).mono hg, by simpa using fun h => (F4 h).mono hg, by simpa using fun h => (F5 h).mono hg, by simp, by simpa using F7, by simpa using F8, by simpa using F9, by simpa using F10, by simpa using F11⟩
    · refine if_free rfl ?_
      have d6 := hdep ⟨6, .data⟩ (by simp) rfl
      have e6 := val_at (F6 d6)
      refine wp_value (.tuple #[.int .i64 2, .int .i64 0]) (w' := w9) (by simp [execOp, e6, go_sem, c0, c1, c2, c3, hXl]) ⟨_, rfl, hb9, ?_⟩
      exact ⟨by simpa using F0, by simpa using F1, by simpa using F2, by simpa using F3, by simpa using F4, by simpa using F5, by simpa using F6, by simp, by simpa using F8, by simpa using F9, by simpa using F10, by simpa using F11⟩
    · refine if_free rfl ?_
      have d7 := hdep ⟨7, .data⟩ (by simp) rfl
      have e7 := val_at (F7 d7)
      refine wp_value (.int .i64 2) (w' := w9) (by simp [execOp, e7, go_sem, c0, c1, c2, c3, hXl]) ⟨_, rfl, hb9, ?_⟩
      exact ⟨by simpa using F0, by simpa using F1, by simpa using F2, by simpa using F3, by simpa using F4, by simpa using F5, by simpa using F6, by simpa using F7, by simp, by simpa using F9, by simpa using F10, by simpa using F11⟩
    · refine if_free rfl ?_
      have d7 := hdep ⟨7, .data⟩ (by simp) rfl
      have e7 := val_at (F7 d7)
      refine wp_value (.int .i64 0) (w' := w9) (by simp [execOp, e7, go_sem, c0, c1, c2, c3, hXl]) ⟨_, rfl, hb9, ?_⟩
      exact ⟨by simpa using F0, by simpa using F1, by simpa using F2, by simpa using F3, by simpa using F4, by simpa using F5, by simpa using F6, by simpa using F7, by simpa using F8, by simp, by simpa using F10, by simpa using F11⟩
    · refine if_free rfl ?_
      have d8 := hdep ⟨8, .data⟩ (by simp) rfl
      have e8 := val_at (F8 d8)
      refine wp_value (.int .i64 2) (w' := w9) (by simp [execOp, e8, go_sem, c0, c1, c2, c3, hXl]) ⟨_, rfl, hb9, ?_⟩
      exact ⟨by simpa using F0, by simpa using F1, by simpa using F2, by simpa using F3, by simpa using F4, by simpa using F5, by simpa using F6, by simpa using F7, by simpa using F8, by simpa using F9, by simp, by simpa using F11⟩
    · refine if_free rfl ?_
      have d9 := hdep ⟨9, .data⟩ (by simp) rfl
      have e9 := val_at (F9 d9)
      refine wp_value (.int .i64 0) (w' := w9) (by simp [execOp, e9, go_sem, c0, c1, c2, c3, hXl]) ⟨_, rfl, hb9, ?_⟩
      exact ⟨by simpa using F0, by simpa using F1, by simpa using F2, by simpa using F3, by simpa using F4, by simpa using F5, by simpa using F6, by simpa using F7, by simpa using F8, by simpa using F9, by simpa using F10, by simp⟩
  intro u w7 hb7 seen hall ⟨F0, F1, F2, F3, F4, F5, F6, F7, F8, F9, F10, F11⟩
  replace F0 := F0 (hall 0 (by decide))
  replace F1 := F1 (hall 1 (by decide))
  replace F2 := F2 (hall 2 (by decide))
  replace F3 := F3 (hall 3 (by decide))
  replace F4 := F4 (hall 4 (by decide))
  replace F5 := F5 (hall 5 (by decide))
  replace F6 := F6 (hall 6 (by decide))
  replace F7 := F7 (hall 7 (by decide))
  replace F8 := F8 (hall 8 (by decide))
  replace F9 := F9 (hall 9 (by decide))
  replace F10 := F10 (hall 10 (by decide))
  replace F11 := F11 (hall 11 (by decide))
  simp only [setAll, F10, F11]
  clear hall seen F0 F1 F2 F3 F4 F5 F6 F7 F8 F9 F10 F11
  generalize u 77 = u77
  generalize u 78 = u78
  generalize u 79 = u79
  generalize u 80 = u80
  generalize u 81 = u81
  generalize u 82 = u82
  generalize u 83 = u83
  generalize u 76 = u76
  generalize u 84 = u84
  generalize u 85 = u85
  have HP7 := hid (heap_mono HP6.out hb7)
  have HR7 := hid (heap_mono HR6.out hb7)
  have HS5_7 := hid (HS5_6.out.mono hb7)
  have HS6_7 := hid (HS6_6.out.mono hb7)
  have HS7_7 := hid (HS7_6.out.mono hb7)
  have HSM_7 := hid (HSM_6.out.mono hb7)
  have HLA_7 := hid (HLA_6.out.mono hb7)
  have HB7 := hid (bl_trans HB6.out hb7)
  clear HP6 HR6 HS5_6 HS6_6 HS7_6 HSM_6 HLA_6
  clear hb7
  go_upto_region 9 with (fail)
  refine wp_region_valsG w7 (bl_refl _) [87, 88, 89, 90, 91, 92, 93, 86, 94, 95, 17, 18] (fun seen u W => (seen 0 = true → u 87 = .agg #[.int .i64 4, .int .i64 3, .slice (some ⟨p5, 0, none⟩) 1 1, .slice (some ⟨p6, 0, none⟩) 1 1]) ∧
    (seen 1 = true → RowAt w7.heap.size W (u 88) 3 #[.int .i64 5, .int .i64 6]) ∧
    (seen 2 = true → WayV W (u 89) [5, 6] (-1)) ∧
    (seen 3 = true → RowAt w7.heap.size W (u 90) 3 #[.int .i64 5, .int .i64 6]) ∧
    (seen 4 = true → WayV W (u 91) [5, 6] (-1)) ∧
    (seen 5 = true → WaysI W (u 92) [⟨[5, 6], -1⟩, ⟨[5, 6], -1⟩]) ∧
    (seen 6 = true → u 93 = .tuple #[.int .i64 0, .int .i64 11]) ∧
    (seen 7 = true → u 86 = .tuple #[.int .i64 0, .int .i64 11]) ∧
    (seen 8 = true → u 94 = .int .i64 0) ∧
    (seen 9 = true → u 95 = .int .i64 11) ∧
    (seen 10 = true → u 17 = .int .i64 0) ∧
    (seen 11 = true → u 18 = .int .i64 11))
    (by kernel_rfl) (by kernel_rfl) (by kernel_rfl) (by simp) (by simp) ?_ ?_
  · intro i o ho seen a' w9 hb9 ⟨F0, F1, F2, F3, F4, F5, F6, F7, F8, F9, F10, F11⟩ hv hsi hdep
    have hbx := heap_mono HP7.out hb9
    have c0 : w9.cell? ⟨X, 0, none⟩ = some (.int .i64 4) := cell_of_heap hbx
    have c1 : w9.cell? ⟨X, 1, none⟩ = some (.int .i64 3) := cell_of_heap hbx
    have c2 : w9.cell? ⟨X, 2, none⟩ = some (.slice (some ⟨p5, 0, none⟩) 1 1) := cell_of_heap hbx
    have c3 : w9.cell? ⟨X, 3, none⟩ = some (.slice (some ⟨p6, 0, none⟩) 1 1) := cell_of_heap hbx
    have hXl := (Array.getElem?_eq_some_iff.1 hbx).1
    rcases i with _ | _ | _ | _ | _ | _ | _ | _ | _ | _ | _ | _ | i <;> simp only [List.getElem?_cons_zero, List.getElem?_cons_succ, List.getElem?_nil, Option.some.injEq, reduceCtorEq] at ho <;> subst ho
    · refine if_free rfl ?_
      have x1 := val_at (hv 1 (by simp))
      simp [valsOf] at x1
      refine wp_value (.agg #[.int .i64 4, .int .i64 3, .slice (some ⟨p5, 0, none⟩) 1 1, .slice (some ⟨p6, 0, none⟩) 1 1]) (w' := w9) (by simp [execOp, x1, go_sem, c0, c1, c2, c3, hXl]) ⟨_, rfl, hb9, ?_⟩
      exact ⟨by simp, by simpa using F1, by simpa using F2, by simpa using F3, by simpa using F4, by simpa using F5, by simpa using F6, by simpa using F7, by simpa using F8, by simpa using F9, by simpa using F10, by simpa using F11⟩
    · refine if_free rfl ?_
      have hg : Below w9.heap.size w9 (w9.alloc (.cells #[.int .i64 5, .int .i64 6] 3)) := bl_alloc (bl_refl _) _
      refine wp_value (.slice (some ⟨w9.heap.size, 0, none⟩) 2 2) (w' := w9.alloc (.cells #[.int .i64 5, .int .i64 6] 3)) (by simp [execOp, go_sem, c0, c1, c2, c3, hXl]) ⟨_, rfl, bl_trans hb9 hg, ?_⟩
      have hn : RowAt w7.heap.size (w9.alloc (.cells #[.int .i64 5, .int .i64 6] 3)) (.slice (some ⟨w9.heap.size, 0, none⟩) 2 2) 3 #[.int .i64 5, .int .i64 6] := RowAt.new (by have := hb9.size; omega)
      exact ⟨by simpa using F0, by simpa using hn, by simpa using fun h => (F2 h).mono hg, by simpa using fun h => (F3 h).mono hg, by simpa using fun h => (F4 h).mono hg, by simpa using fun h => (F5 h).mono hg, by simpa using F6, by simpa using F7, by simpa using F8, by simpa using F9, by simpa using F10, by simpa using F11⟩
    · refine if_free rfl ?_
      have d1 := hdep ⟨1, .data⟩ (by simp) rfl
      obtain ⟨g1, r1, _, _⟩ := F1 d1
      have e1 := val_at r1
      have hi : Ints w9 (.slice (some ⟨g1, 0, none⟩) 2 2) [5, 6] := by have := (F1 d1).ints (l := [5, 6]); rwa [r1] at this
      refine wp_calls (f := 60) (args := #[.int .i64 (-1), .slice (some ⟨g1, 0, none⟩) 2 2]) (w' := w9) (by simp [execOp, e1, go_sem]) (mkway_any _ _ _ _ w9) ?_
      rintro e w10 ⟨rfl, hg⟩
      have hn : WayV w10 (.agg #[.slice (some ⟨g1, 0, none⟩) 2 2, .int .i64 (-1)]) [5, 6] (-1) := ⟨_, _, _, rfl, hi.mono hg⟩
      refine ⟨_, rfl, _, rfl, bl_trans hb9 hg, ?_⟩
      exact ⟨by simpa using F0, by simpa using fun h => (F1 h).mono hg, by simpa using hn, by simpa using fun h => (F3 h).mono hg, by simpa using fun h => (F4 h).mono hg, by simpa using fun h => (F5 h).mono hg, by simpa using F6, by simpa using F7, by simpa using F8, by simpa using F9, by simpa using F10, by simpa using F11⟩
    · refine if_free rfl ?_
      have hg : Below w9.heap.size w9 (w9.alloc (.cells #[.int .i64 5, .int .i64 6] 3)) := bl_alloc (bl_refl _) _
      refine wp_value (.slice (some ⟨w9.heap.size, 0, none⟩) 2 2) (w' := w9.alloc (.cells #[.int .i64 5, .int .i64 6] 3)) (by simp [execOp, go_sem, c0, c1, c2, c3, hXl]) ⟨_, rfl, bl_trans hb9 hg, ?_⟩
      have hn : RowAt w7.heap.size (w9.alloc (.cells #[.int .i64 5, .int .i64 6] 3)) (.slice (some ⟨w9.heap.size, 0, none⟩) 2 2) 3 #[.int .i64 5, .int .i64 6] := RowAt.new (by have := hb9.size; omega)
      exact ⟨by simpa using F0, by simpa using fun h => (F1 h).mono hg, by simpa using fun h => (F2 h).mono hg, by simpa using hn, by simpa using fun h => (F4 h).mono hg, by simpa using fun h => (F5 h).mono hg, by simpa using F6, by simpa using F7, by simpa using F8, by simpa using F9, by simpa using F10, by simpa using F11⟩
    · refine if_free rfl ?_
      have d3 := hdep ⟨3, .data⟩ (by simp) rfl
      obtain ⟨g3, r3, _, _⟩ := F3 d3
      have e3 := val_at r3
      have hi : Ints w9 (.slice (some ⟨g3, 0, none⟩) 2 2) [5, 6] := by have := (F3 d3).ints (l := [5, 6]); rwa [r3] at this
      refine wp_calls (f := 60) (args := #[.int .i64 (-1), .slice (some ⟨g3, 0, none⟩) 2 2]) (w' := w9) (by simp [execOp, e3, go_sem]) (mkway_any _ _ _ _ w9) ?_
      rintro e w10 ⟨rfl, hg⟩
      have hn : WayV w10 (.agg #[.slice (some ⟨g3, 0, none⟩) 2 2, .int .i64 (-1)]) [5, 6] (-1) := ⟨_, _, _, rfl, hi.mono hg⟩
      refine ⟨_, rfl, _, rfl, bl_trans hb9 hg, ?_⟩
      exact ⟨by simpa using F0, by simpa using fun h => (F1 h).mono hg, by simpa using fun h => (F2 h).mono hg, by simpa using fun h => (F3 h).mono hg, by simpa using hn, by simpa using fun h => (F5 h).mono hg, by simpa using F6, by simpa using F7, by simpa using F8, by simpa using F9, by simpa using F10, by simpa using F11⟩
    · refine if_free rfl ?_
      have d2 := hdep ⟨2, .data⟩ (by simp) rfl
      have d4 := hdep ⟨4, .data⟩ (by simp) rfl
      obtain ⟨A1, n1, c1', ea, hi1⟩ := F2 d2
      obtain ⟨A2, n2, c2', eb, hi2⟩ := F4 d4
      have ea' := val_at ea
      have eb' := val_at eb
      have hg : Below w9.heap.size w9 (w9.alloc (.cells #[.slice A1 n1 c1', .int .i64 (-1), .slice A2 n2 c2', .int .i64 (-1)] 81)) := bl_alloc (bl_refl _) _
      have hn : WaysI (w9.alloc (.cells #[.slice A1 n1 c1', .int .i64 (-1), .slice A2 n2 c2', .int .i64 (-1)] 81)) (.slice (some ⟨w9.heap.size, 0, none⟩) 2 2) [⟨[5, 6], -1⟩, ⟨[5, 6], -1⟩] := ways_two hi1 hi2
      refine wp_value (.slice (some ⟨w9.heap.size, 0, none⟩) 2 2) (w' := w9.alloc (.cells #[.slice A1 n1 c1', .int .i64 (-1), .slice A2 n2 c2', .int .i64 (-1)] 81)) (by simp [execOp, ea', eb', go_sem]) ⟨_, rfl, bl_trans hb9 hg, ?_⟩
      exact ⟨by simpa using F0, by simpa using fun h => (F1 h).mono hg, by simpa using fun h => (F2 h).mono hg, by simpa using fun h => (F3 h).mono hg, by simpa using fun h => (F4 h).mono hg, by simpa using hn, by simpa using F6, by simpa using F7, by simpa using F8, by simpa using F9, by simpa using F10, by simpa using F11⟩
    · refine if_free rfl ?_
      have d0 := hdep ⟨0, .data⟩ (by simp) rfl
      have e0 := val_at (F0 d0)
      have d5 := hdep ⟨5, .data⟩ (by simp) rfl
      have hwi := F5 d5
      obtain ⟨A7, c7, e7⟩ := hwi.slice
      have e7' := val_at e7
      rw [e7] at hwi
      have hcl := chkways_any (wd := 4) (hg := 3) (want := [5]) (keep := [6]) (l := [⟨[5, 6], -1⟩, ⟨[5, 6], -1⟩]) w9 (by decide) (by decide) (by decide) (by intro x hx; simp only [List.mem_cons, List.not_mem_nil, or_false] at hx; rcases hx with rfl | rfl <;> simp) (HS5_7.out.mono hb9) (HS6_7.out.mono hb9) hwi
      rw [k_w3, k_w4] at hcl
      refine wp_calls (f := 34) (args := #[.agg #[.int .i64 4, .int .i64 3, .slice (some ⟨p5, 0, none⟩) 1 1, .slice (some ⟨p6, 0, none⟩) 1 1], .slice A7 2 c7]) (w' := w9) (by simp [execOp, e0, e7', go_sem]) hcl ?_
      rintro e w10 ⟨rfl, hg⟩
      refine ⟨_, rfl, _, rfl, bl_trans hb9 hg, ?_⟩
      exact ⟨by simpa using F0, by simpa using fun h => (F1 h).mono hg, by simpa using fun h => (F2 h).mono hg, by simpa using fun h => (F3 h).mono hg, by simpa using fun h => (F4 h).mono hg, by simpa using fun h => (F5 h).mono hg, by simp, by simpa using F7, by simpa using F8, by simpa using F9, by simpa using F10, by simpa using F11⟩
    · refine if_free rfl ?_
      have d6 := hdep ⟨6, .data⟩ (by simp) rfl
      have e6 := val_at (F6 d6)
      refine wp_value (.tuple #[.int .i64 0, .int .i64 11]) (w' := w9) (by simp [execOp, e6, go_sem, c0, c1, c2, c3, hXl]) ⟨_, rfl, hb9, ?_⟩
      exact ⟨by simpa using F0, by simpa using F1, by simpa using F2, by simpa using F3, by simpa using F4, by simpa using F5, by simpa using F6, by simp, by simpa using F8, by simpa using F9, by simpa using F10, by simpa using F11⟩
    · refine if_free rfl ?_
      have d7 := hdep ⟨7, .data⟩ (by simp) rfl
      have e7 := val_at (F7 d7)
      refine wp_value (.int .i64 0) (w' := w9) (by simp [execOp, e7, go_sem, c0, c1, c2, c3, hXl]) ⟨_, rfl, hb9, ?_⟩
      exact ⟨by simpa using F0, by simpa using F1, by simpa using F2, by simpa using F3, by simpa using F4, by simpa using F5, by simpa using F6, by simpa using F7, by simp, by simpa using F9, by simpa using F10, by simpa using F11⟩
    · refine if_free rfl ?_
      have d7 := hdep ⟨7, .data⟩ (by simp) rfl
      have e7 := val_at (F7 d7)
      refine wp_value (.int .i64 11) (w' := w9) (by simp [execOp, e7, go_sem, c0, c1, c2, c3, hXl]) ⟨_, rfl, hb9, ?_⟩
      exact ⟨by simpa using F0, by simpa using F1, by simpa using F2, by simpa using F3, by simpa using F4, by simpa using F5, by simpa using F6, by simpa using F7, by simpa using F8, by simp, by simpa using F10, by simpa using F11⟩
    · refine if_free rfl ?_
      have d8 := hdep ⟨8, .data⟩ (by simp) rfl
      have e8 := val_at (F8 d8)
      refine wp_value (.int .i64 0) (w' := w9) (by simp [execOp, e8, go_sem, c0, c1, c2, c3, hXl]) ⟨_, rfl, hb9, ?_⟩
      exact ⟨by simpa using F0, by simpa using F1, by simpa using F2, by simpa using F3, by simpa using F4, by simpa using F5, by simpa using F6, by simpa using F7, by simpa using F8, by simpa using F9, by simp, by simpa using F11⟩
    · refine if_free rfl ?_
      have d9 := hdep ⟨9, .data⟩ (by simp) rfl
      have e9 := val_at (F9 d9)
      refine wp_value (.int .i64 11) (w' := w9) (by simp [execOp, e9, go_sem, c0, c1, c2, c3, hXl]) ⟨_, rfl, hb9, ?_⟩
      exact ⟨by simpa using F0, by simpa using F1, by simpa using F2, by simpa using F3, by simpa using F4, by simpa using F5, by simpa using F6, by simpa using F7, by simpa using F8, by simpa using F9, by simpa using F10, by simp⟩
  intro u w8 hb8 seen hall ⟨F0, F1, F2, F3, F4, F5, F6, F7, F8, F9, F10, F11⟩
  replace F0 := F0 (hall 0 (by decide))
  replace F1 := F1 (hall 1 (by decide))
  replace F2 := F2 (hall 2 (by decide))
  replace F3 := F3 (hall 3 (by decide))
  replace F4 := F4 (hall 4 (by decide))
  replace F5 := F5 (hall 5 (by decide))
  replace F6 := F6 (hall 6 (by decide))
  replace F7 := F7 (hall 7 (by decide))
  replace F8 := F8 (hall 8 (by decide))
  replace F9 := F9 (hall 9 (by decide))
  replace F10 := F10 (hall 10 (by decide))
  replace F11 := F11 (hall 11 (by decide))
  simp only [setAll, F10, F11]
  clear hall seen F0 F1 F2 F3 F4 F5 F6 F7 F8 F9 F10 F11
  generalize u 87 = u87
  generalize u 88 = u88
  generalize u 89 = u89
  generalize u 90 = u90
  generalize u 91 = u91
  generalize u 92 = u92
  generalize u 93 = u93
  generalize u 86 = u86
  generalize u 94 = u94
  generalize u 95 = u95
  have HP8 := hid (heap_mono HP7.out hb8)
  have HR8 := hid (heap_mono HR7.out hb8)
  have HS5_8 := hid (HS5_7.out.mono hb8)
  have HS6_8 := hid (HS6_7.out.mono hb8)
  have HS7_8 := hid (HS7_7.out.mono hb8)
  have HSM_8 := hid (HSM_7.out.mono hb8)
  have HLA_8 := hid (HLA_7.out.mono hb8)
  have HB8 := hid (bl_trans HB7.out hb8)
  clear HP7 HR7 HS5_7 HS6_7 HS7_7 HSM_7 HLA_7
  clear hb8
  have c0 : w8.cell? ⟨Y, 0, none⟩ = some (.int .i64 4) := cell_of_heap HR8.out
  have c1 : w8.cell? ⟨Y, 1, none⟩ = some (.int .i64 3) := cell_of_heap HR8.out
  have c2 : w8.cell? ⟨Y, 2, none⟩ = some (.slice (some ⟨p7, 0, none⟩) 2 2) := cell_of_heap HR8.out
  have c3 : w8.cell? ⟨Y, 3, none⟩ = some (.slice none 0 0) := cell_of_heap HR8.out
  have cl := (Array.getElem?_eq_some_iff.1 HR8.out).1
  have hcall := allways_any (wd := 4) (hg := 3) (want := [5, 7]) (keep := []) w8 (by decide) (by decide) HS7_8.out (.inl ⟨rfl, rfl⟩)
  rw [k_p1] at hcall
  go_wp2_with fail
  refine hcall.mono ?_
  rintro e w9 ⟨⟨aw, rfl, haw⟩, hb9⟩
  clear hcall c0 c1 c2 c3 cl
  have HP9 := hid (heap_mono HP8.out hb9)
  have HR9 := hid (heap_mono HR8.out hb9)
  have HS5_9 := hid (HS5_8.out.mono hb9)
  have HS6_9 := hid (HS6_8.out.mono hb9)
  have HS7_9 := hid (HS7_8.out.mono hb9)
  have HSM_9 := hid (HSM_8.out.mono hb9)
  have HLA_9 := hid (HLA_8.out.mono hb9)
  have HB9 := hid (bl_trans HB8.out hb9)
  clear HP8 HR8 HS5_8 HS6_8 HS7_8 HSM_8 HLA_8
  have HAW_9 := hid haw
  clear haw
  clear hb9
  obtain ⟨Aw, cAw, rfl⟩ := HAW_9.out.slice
  have hcall := mkchain_any 1 1 ⟨#[69, 69, 78, 78, 87, 83, 87, 83]⟩ w9
  go_wp2_with fail
  refine hcall.mono ?_
  rintro e wq ⟨rfl, hbq⟩
  clear hcall
  have hba := bl_trans hbq (bl_alloc (bl_refl wq) (.cells #[.int .i64 1, .int .i64 1, .string ⟨#[69, 69, 78, 78, 87, 83, 87, 83]⟩] 45))
  have HC0 := hid (World.alloc_heap_new wq (.cells #[.int .i64 1, .int .i64 1, .string ⟨#[69, 69, 78, 78, 87, 83, 87, 83]⟩] 45))
  go_upto_region 12 with (fail)
  obtain ⟨w10, hwq⟩ : ∃ w, wq.alloc (.cells #[.int .i64 1, .int .i64 1, .string ⟨#[69, 69, 78, 78, 87, 83, 87, 83]⟩] 45) = w := ⟨_, rfl⟩
  obtain ⟨Z, hZ⟩ : ∃ Z, wq.heap.size = Z := ⟨_, rfl⟩
  rw [hZ] at HC0 ⊢
  rw [hwq] at hba HC0 ⊢
  have HP10 := hid (heap_mono HP9.out hba)
  have HR10 := hid (heap_mono HR9.out hba)
  have HS5_10 := hid (HS5_9.out.mono hba)
  have HS6_10 := hid (HS6_9.out.mono hba)
  have HS7_10 := hid (HS7_9.out.mono hba)
  have HSM_10 := hid (HSM_9.out.mono hba)
  have HLA_10 := hid (HLA_9.out.mono hba)
  have HAW_10 := hid (HAW_9.out.mono hba)
  have HB10 := hid (bl_trans HB9.out hba)
  clear HP9 HR9 HS5_9 HS6_9 HS7_9 HSM_9 HLA_9 HAW_9
  clear hwq hZ hba hbq
  have HC10 := HC0
  clear HC0
  have hcall := mkchain_any 0 0 ⟨#[69, 69, 87, 87]⟩ w10
  go_wp2_with fail
  refine hcall.mono ?_
  rintro e w11 ⟨rfl, hb11⟩
  clear hcall
  have HP11 := hid (heap_mono HP10.out hb11)
  have HR11 := hid (heap_mono HR10.out hb11)
  have HC11 := hid (heap_mono HC10.out hb11)
  have HS5_11 := hid (HS5_10.out.mono hb11)
  have HS6_11 := hid (HS6_10.out.mono hb11)
  have HS7_11 := hid (HS7_10.out.mono hb11)
  have HSM_11 := hid (HSM_10.out.mono hb11)
  have HLA_11 := hid (HLA_10.out.mono hb11)
  have HAW_11 := hid (HAW_10.out.mono hb11)
  have HB11 := hid (bl_trans HB10.out hb11)
  clear HP10 HR10 HC10 HS5_10 HS6_10 HS7_10 HSM_10 HLA_10 HAW_10
  clear hb11
  have hcall := chkchain_any 0 0 ⟨#[69, 69, 87, 87]⟩ w11 (by decide)
  rw [k_c1] at hcall
  go_wp2_with fail
  refine hcall.mono ?_
  rintro e w12 ⟨rfl, hb12⟩
  clear hcall
  have HP12 := hid (heap_mono HP11.out hb12)
  have HR12 := hid (heap_mono HR11.out hb12)
  have HC12 := hid (heap_mono HC11.out hb12)
  have HS5_12 := hid (HS5_11.out.mono hb12)
  have HS6_12 := hid (HS6_11.out.mono hb12)
  have HS7_12 := hid (HS7_11.out.mono hb12)
  have HSM_12 := hid (HSM_11.out.mono hb12)
  have HLA_12 := hid (HLA_11.out.mono hb12)
  have HAW_12 := hid (HAW_11.out.mono hb12)
  have HB12 := hid (bl_trans HB11.out hb12)
  clear HP11 HR11 HC11 HS5_11 HS6_11 HS7_11 HSM_11 HLA_11 HAW_11
  clear hb12
  have c0 : w12.cell? ⟨Z, 0, none⟩ = some (.int .i64 1) := cell_of_heap HC12.out
  have c1 : w12.cell? ⟨Z, 1, none⟩ = some (.int .i64 1) := cell_of_heap HC12.out
  have c2 : w12.cell? ⟨Z, 2, none⟩ = some (.string ⟨#[69, 69, 78, 78, 87, 83, 87, 83]⟩) := cell_of_heap HC12.out
  have cl := (Array.getElem?_eq_some_iff.1 HC12.out).1
  have hcall := encl_any 1 1 ⟨#[69, 69, 78, 78, 87, 83, 87, 83]⟩ w12 (by decide)
  rw [k_e1, k_c2] at hcall
  go_wp2_with fail
  refine hcall.mono ?_
  rintro e w13 ⟨⟨en, rfl, hen⟩, hb13⟩
  clear hcall c0 c1 c2 cl
  have HP13 := hid (heap_mono HP12.out hb13)
  have HR13 := hid (heap_mono HR12.out hb13)
  have HC13 := hid (heap_mono HC12.out hb13)
  have HS5_13 := hid (HS5_12.out.mono hb13)
  have HS6_13 := hid (HS6_12.out.mono hb13)
  have HS7_13 := hid (HS7_12.out.mono hb13)
  have HSM_13 := hid (HSM_12.out.mono hb13)
  have HLA_13 := hid (HLA_12.out.mono hb13)
  have HAW_13 := hid (HAW_12.out.mono hb13)
  have HB13 := hid (bl_trans HB12.out hb13)
  clear HP12 HR12 HC12 HS5_12 HS6_12 HS7_12 HSM_12 HLA_12 HAW_12
  have HEN_13 := hid hen
  clear hen
  clear hb13
  obtain ⟨An, cAn, rfl⟩ := HEN_13.out.slice
  have c0 : w13.cell? ⟨Z, 0, none⟩ = some (.int .i64 1) := cell_of_heap HC13.out
  have c1 : w13.cell? ⟨Z, 1, none⟩ = some (.int .i64 1) := cell_of_heap HC13.out
  have c2 : w13.cell? ⟨Z, 2, none⟩ = some (.string ⟨#[69, 69, 78, 78, 87, 83, 87, 83]⟩) := cell_of_heap HC13.out
  have cl := (Array.getElem?_eq_some_iff.1 HC13.out).1
  have hcall := area_any 1 1 ⟨#[69, 69, 78, 78, 87, 83, 87, 83]⟩ w13 (by decide)
  rw [k_a1, k_c2] at hcall
  go_wp2_with fail
  refine hcall.mono ?_
  rintro e w14 ⟨rfl, hb14⟩
  clear hcall c0 c1 c2 cl
  have HP14 := hid (heap_mono HP13.out hb14)
  have HR14 := hid (heap_mono HR13.out hb14)
  have HC14 := hid (heap_mono HC13.out hb14)
  have HS5_14 := hid (HS5_13.out.mono hb14)
  have HS6_14 := hid (HS6_13.out.mono hb14)
  have HS7_14 := hid (HS7_13.out.mono hb14)
  have HSM_14 := hid (HSM_13.out.mono hb14)
  have HLA_14 := hid (HLA_13.out.mono hb14)
  have HAW_14 := hid (HAW_13.out.mono hb14)
  have HEN_14 := hid (HEN_13.out.mono hb14)
  have HB14 := hid (bl_trans HB13.out hb14)
  clear HP13 HR13 HC13 HS5_13 HS6_13 HS7_13 HSM_13 HLA_13 HAW_13 HEN_13
  clear hb14
  have hcall := most_any 10 8 8 w14 (by decide)
  rw [k_m1, k_m2] at hcall
  go_wp2_with fail
  refine hcall.mono ?_
  rintro e w15 ⟨rfl, hb15⟩
  clear hcall
  have HP15 := hid (heap_mono HP14.out hb15)
  have HR15 := hid (heap_mono HR14.out hb15)
  have HC15 := hid (heap_mono HC14.out hb15)
  have HS5_15 := hid (HS5_14.out.mono hb15)
  have HS6_15 := hid (HS6_14.out.mono hb15)
  have HS7_15 := hid (HS7_14.out.mono hb15)
  have HSM_15 := hid (HSM_14.out.mono hb15)
  have HLA_15 := hid (HLA_14.out.mono hb15)
  have HAW_15 := hid (HAW_14.out.mono hb15)
  have HEN_15 := hid (HEN_14.out.mono hb15)
  have HB15 := hid (bl_trans HB14.out hb15)
  clear HP14 HR14 HC14 HS5_14 HS6_14 HS7_14 HSM_14 HLA_14 HAW_14 HEN_14
  clear hb15
  go_upto_region 18 with (fail)
  have c0 : w15.cell? ⟨Y, 0, none⟩ = some (.int .i64 4) := cell_of_heap HR15.out
  have c1 : w15.cell? ⟨Y, 1, none⟩ = some (.int .i64 3) := cell_of_heap HR15.out
  have c2 : w15.cell? ⟨Y, 2, none⟩ = some (.slice (some ⟨p7, 0, none⟩) 2 2) := cell_of_heap HR15.out
  have c3 : w15.cell? ⟨Y, 3, none⟩ = some (.slice none 0 0) := cell_of_heap HR15.out
  have cl := (Array.getElem?_eq_some_iff.1 HR15.out).1
  have hcall := rchkw_any (wd := 4) (hg := 3) (want := [5, 7]) (keep := []) (l := waysS 4 3 [5, 7] []) w15 (by decide) (by decide) (by rw [k_aw1]; decide) (by intro x hx; have := k_aw2 x hx; omega) HS7_15.out (.inl ⟨rfl, rfl⟩) HAW_15.out
  rw [k_aw3, k_aw4] at hcall
  go_wp2_with fail
  refine hcall.mono ?_
  rintro e w16 ⟨rfl, hb16⟩
  clear hcall c0 c1 c2 c3 cl
  have HP16 := hid (heap_mono HP15.out hb16)
  have HR16 := hid (heap_mono HR15.out hb16)
  have HC16 := hid (heap_mono HC15.out hb16)
  have HS5_16 := hid (HS5_15.out.mono hb16)
  have HS6_16 := hid (HS6_15.out.mono hb16)
  have HS7_16 := hid (HS7_15.out.mono hb16)
  have HSM_16 := hid (HSM_15.out.mono hb16)
  have HLA_16 := hid (HLA_15.out.mono hb16)
  have HAW_16 := hid (HAW_15.out.mono hb16)
  have HEN_16 := hid (HEN_15.out.mono hb16)
  have HB16 := hid (bl_trans HB15.out hb16)
  clear HP15 HR15 HC15 HS5_15 HS6_15 HS7_15 HSM_15 HLA_15 HAW_15 HEN_15
  clear hb16
  go_upto_region 19 with (fail)
  have hba := bl_alloc (bl_refl w16) (.cells #[.int .i64 5, .int .i64 7] 3)
  have hnew : Ints (w16.alloc (.cells #[.int .i64 5, .int .i64 7] 3)) (.slice (some ⟨w16.heap.size, 0, none⟩) 2 2) [5, 7] := ints_new (l := [5, 7]) rfl
  go_wp2_with fail
  refine (of_any _ _).mono ?_
  rintro e wq ⟨rfl, rfl⟩
  have hcall := ints_any [5, 7] [5, 7] _ _ _ (by decide) (HSM_16.out.mono hba) hnew
  rw [decide_eq_true (rfl : ([5, 7] : List Int) = [5, 7])] at hcall
  go_wp2_with fail
  refine hcall.mono ?_
  rintro e w17 ⟨rfl, hbq⟩
  have hb17 := bl_trans hba hbq
  clear hcall hnew hba hbq
  have HP17 := hid (heap_mono HP16.out hb17)
  have HR17 := hid (heap_mono HR16.out hb17)
  have HC17 := hid (heap_mono HC16.out hb17)
  have HS5_17 := hid (HS5_16.out.mono hb17)
  have HS6_17 := hid (HS6_16.out.mono hb17)
  have HS7_17 := hid (HS7_16.out.mono hb17)
  have HSM_17 := hid (HSM_16.out.mono hb17)
  have HLA_17 := hid (HLA_16.out.mono hb17)
  have HAW_17 := hid (HAW_16.out.mono hb17)
  have HEN_17 := hid (HEN_16.out.mono hb17)
  have HB17 := hid (bl_trans HB16.out hb17)
  clear HP16 HR16 HC16 HS5_16 HS6_16 HS7_16 HSM_16 HLA_16 HAW_16 HEN_16
  clear hb17
  have hba := bl_alloc (bl_refl w17) (.cells #[.int .i64 5, .int .i64 6, .int .i64 7] 3)
  have hnew : Ints (w17.alloc (.cells #[.int .i64 5, .int .i64 6, .int .i64 7] 3)) (.slice (some ⟨w17.heap.size, 0, none⟩) 3 3) [5, 6, 7] := ints_new (l := [5, 6, 7]) rfl
  go_wp2_with fail
  refine (of_any _ _).mono ?_
  rintro e wq ⟨rfl, rfl⟩
  have hcall := ints_any [5, 6, 7] [5, 6, 7] _ _ _ (by decide) (HLA_17.out.mono hba) hnew
  rw [decide_eq_true (rfl : ([5, 6, 7] : List Int) = [5, 6, 7])] at hcall
  go_wp2_with fail
  refine hcall.mono ?_
  rintro e w18 ⟨rfl, hbq⟩
  have hb18 := bl_trans hba hbq
  clear hcall hnew hba hbq
  have HP18 := hid (heap_mono HP17.out hb18)
  have HR18 := hid (heap_mono HR17.out hb18)
  have HC18 := hid (heap_mono HC17.out hb18)
  have HS5_18 := hid (HS5_17.out.mono hb18)
  have HS6_18 := hid (HS6_17.out.mono hb18)
  have HS7_18 := hid (HS7_17.out.mono hb18)
  have HSM_18 := hid (HSM_17.out.mono hb18)
  have HLA_18 := hid (HLA_17.out.mono hb18)
  have HAW_18 := hid (HAW_17.out.mono hb18)
  have HEN_18 := hid (HEN_17.out.mono hb18)
  have HB18 := hid (bl_trans HB17.out hb18)
  clear HP17 HR17 HC17 HS5_17 HS6_17 HS7_17 HSM_17 HLA_17 HAW_17 HEN_17
  clear hb18
  have hba := bl_alloc (bl_refl w18) (.cells #[.int .i64 9, .int .i64 10, .int .i64 18] 3)
  have hnew : Ints (w18.alloc (.cells #[.int .i64 9, .int .i64 10, .int .i64 18] 3)) (.slice (some ⟨w18.heap.size, 0, none⟩) 3 3) [9, 10, 18] := ints_new (l := [9, 10, 18]) rfl
  go_wp2_with fail
  refine (of_any _ _).mono ?_
  rintro e wq ⟨rfl, rfl⟩
  have hcall := ints_any [9, 10, 18] [9, 10, 18] _ _ _ (by decide) (HEN_18.out.mono hba) hnew
  rw [decide_eq_true (rfl : ([9, 10, 18] : List Int) = [9, 10, 18])] at hcall
  go_wp2_with fail
  refine hcall.mono ?_
  rintro e w19 ⟨rfl, hbq⟩
  have hb19 := bl_trans hba hbq
  clear hcall hnew hba hbq
  have HP19 := hid (heap_mono HP18.out hb19)
  have HR19 := hid (heap_mono HR18.out hb19)
  have HC19 := hid (heap_mono HC18.out hb19)
  have HS5_19 := hid (HS5_18.out.mono hb19)
  have HS6_19 := hid (HS6_18.out.mono hb19)
  have HS7_19 := hid (HS7_18.out.mono hb19)
  have HSM_19 := hid (HSM_18.out.mono hb19)
  have HLA_19 := hid (HLA_18.out.mono hb19)
  have HAW_19 := hid (HAW_18.out.mono hb19)
  have HEN_19 := hid (HEN_18.out.mono hb19)
  have HB19 := hid (bl_trans HB18.out hb19)
  clear HP18 HR18 HC18 HS5_18 HS6_18 HS7_18 HSM_18 HLA_18 HAW_18 HEN_18
  clear hb19
  go_wp2
  go_ret
  exact ⟨rfl, HB19.out⟩
end Go.Proofs.Ytlkoadcbolkhoaa
