/- BoomChained: the law's walk. -/
import Derived.Test.YtlkoadcbolkhoaaTurnq
import Derived.Test.YtlkoadcbolkhoaaFacts
set_option linter.all false
namespace Go.Proofs.Ytlkoadcbolkhoaa
open Go Go.RowKit Go.Proofs
attribute [local go_sem] cell_grow frozen_grow

theorem enclL_len (x y : Int) (s : ByteArray) : (enclL x y s).length ≤ 64 := by
  unfold enclL
  split
  · exact pickC_len _ _
  · simp
set_option maxRecDepth 100000 in
set_option maxHeartbeats 16000000 in
theorem boomChained_any (x y : Int) (s : ByteArray) (from_ : Int) (back : Bool) (w : World) (_ : s.size ≤ maxLen) (hfr : 0 ≤ from_ ∧ from_ < 256) :
    Calls Try.prog 13 #[.agg #[.int .i64 x, .int .i64 y, .string s], .int .u8 from_, .bool back] w fun e w' => e = .returned (.bool true) ∧ Below w.heap.size w w' := by
  have HX_0 := hid (World.alloc_heap_new w (.cells #[.int .i64 x, .int .i64 y, .string s] 45))
  have hb0 := bl_alloc (bl_refl w) (.cells #[.int .i64 x, .int .i64 y, .string s] 45)
  have HB0 := hid hb0
  clear hb0
  go_enter Try.func13, Try.ntmps13
  go_upto_region 1 with (fail)
  obtain ⟨w0, hw0⟩ : ∃ w0, w.alloc (.cells #[.int .i64 x, .int .i64 y, .string s] 45) = w0 := ⟨_, rfl⟩
  obtain ⟨X, hX⟩ : ∃ X, w.heap.size = X := ⟨_, rfl⟩
  rw [hX] at HX_0 ⊢
  rw [hw0] at HB0 HX_0 ⊢
  clear hw0 hX
  by_cases hl : 90 < s.size
  · have t0 : decide ((90 : Int) < (s.size : Int)) = true := decide_eq_true (by omega)
    clear hl
    have sX0 : w0.cell? ⟨X, 0, none⟩ = some (.int .i64 x) := cell_of_heap HX_0.out
    have sX1 : w0.cell? ⟨X, 1, none⟩ = some (.int .i64 y) := cell_of_heap HX_0.out
    have sX2 : w0.cell? ⟨X, 2, none⟩ = some (.string s) := cell_of_heap HX_0.out
    have slX := (Array.getElem?_eq_some_iff.1 HX_0.out).1
    have hworks := works_any w0
    go_wp2_with fail
    refine hworks.mono ?_
    rintro e wz ⟨rfl, hbz⟩
    clear hworks
    go_wp2
    go_ret
    exact ⟨rfl, bl_trans HB0.out hbz⟩
  have t0 : decide ((90 : Int) < (s.size : Int)) = false := decide_eq_false (by omega)
  have hs : s.size ≤ 90 := by omega
  clear hl
  obtain ⟨CE, hCE⟩ : ∃ e, chainE x y s = e := ⟨_, rfl⟩
  have HCE := hid hCE
  clear hCE
  have sX0 : w0.cell? ⟨X, 0, none⟩ = some (.int .i64 x) := cell_of_heap HX_0.out
  have sX1 : w0.cell? ⟨X, 1, none⟩ = some (.int .i64 y) := cell_of_heap HX_0.out
  have sX2 : w0.cell? ⟨X, 2, none⟩ = some (.string s) := cell_of_heap HX_0.out
  have slX := (Array.getElem?_eq_some_iff.1 HX_0.out).1
  have hcall := rchain_any x y s w0 (by omega)
  rw [HCE.out] at hcall
  go_wp2_with fail
  refine hcall.mono ?_
  rintro e w1 ⟨rfl, hb1⟩
  clear hcall sX0 sX1 sX2 slX
  have HX_1 := hid (heap_mono HX_0.out hb1)
  have HB1 := hid (bl_trans HB0.out hb1)
  clear HX_0 
  clear hb1
  by_cases hz : CE = 0
  case neg =>
    have t1 : (CE == 0) = false := beq_eq_false_iff_ne.2 hz
    have hworks := works_any w1
    go_wp2_with fail
    refine hworks.mono ?_
    rintro e wz ⟨rfl, hbz⟩
    clear hworks
    go_wp2
    go_ret
    exact ⟨rfl, bl_trans HB1.out hbz⟩
  subst hz
  clear t0
  have hok := chain_ok HCE.out
  have hxy := inC_bd hok.2.1
  have hsz := hok.1
  simp only at hxy
  obtain ⟨l, hsl⟩ : ∃ l : List UInt8, s = ⟨l.toArray⟩ := ⟨s.data.toList, by simp⟩
  have hll : l.length = s.size := by rw [hsl]; rfl
  obtain ⟨f, hf⟩ : ∃ f : Nat, from_ % (s.size : Int) = f := ⟨(from_ % (s.size : Int)).toNat, by have := Int.emod_nonneg from_ (show (s.size : Int) ≠ 0 by omega); omega⟩
  have hfl : f < s.size := by have := Int.emod_lt_of_pos from_ (show 0 < (s.size : Int) by omega); omega
  have htm : Int.tmod from_ (s.size : Int) = f := by rw [Int.tmod_eq_emod_of_nonneg hfr.1, hf]
  have wfr : IntKind.i64.wrap from_ = from_ := IntWalk.i64_in _ (by omega)
  have hsn : ((s.size : Int) == 0) = false := beq_eq_false_iff_ne.2 (by omega)
  have hsn2 : ¬ ((s.size : Int) = 0) := by omega
  have hsn3 : ¬ s = ByteArray.empty := fun h => by rw [h] at hfl; exact absurd hfl (by simp)
  have hce := HCE.out
  rw [hsl] at hce
  have hto := (turn_known hce (by omega : f < l.length) back).ok
  have hte := turn_encl (back := back) hce (by omega : f < l.length)
  have hta := turn_area (back := back) hce (by omega : f < l.length)
  have hcl := fun W => turnch_any x y l f back W (by omega) (by omega) hxy.1 hxy.2
  have htn := turn_size f back l (by omega)
  rw [← hsl] at hte hta
  simp only [← hsl] at hcl
  obtain ⟨⟨px, py⟩, hp⟩ : ∃ q : Corner, posC (x, y) (l.map UInt8.toNat) f = q := ⟨_, rfl⟩
  obtain ⟨t, ht⟩ : ∃ z : ByteArray, ByteArray.mk (turnU f back l).toArray = z := ⟨_, rfl⟩
  rw [hp, ht] at hto hte hta
  rw [ht] at hcl
  simp only [hp] at hcl
  simp only at hto hte hta hcl
  have htsz : t.size ≤ 90 := by rw [← ht]; show (turnU f back l).toArray.size ≤ 90; simp; omega
  obtain ⟨hcnt, hne⟩ := chain_count HCE.out
  obtain ⟨hw1, hw2⟩ := chain_water HCE.out
  obtain ⟨EL, hEL⟩ : ∃ e, enclL x y s = e := ⟨_, rfl⟩
  have heln : EL.length ≤ 64 := by rw [← hEL]; exact enclL_len x y s
  rw [hEL] at hte hcnt hw1 hw2
  obtain ⟨AS, hAS⟩ : ∃ a, areaS x y s = a := ⟨_, rfl⟩
  rw [hAS] at hta hcnt hne
  obtain ⟨AM, hAM⟩ : ∃ a, max AS (-AS) / 2 = a := ⟨_, rfl⟩
  obtain ⟨LQ, hLQ⟩ : ∃ q, decide (0 < AS) = q := ⟨_, rfl⟩
  obtain ⟨OQ, hOQ⟩ : ∃ q, decide (0 < areaS px py t) = q := ⟨_, rfl⟩
  have hAM2 : max (areaS px py t) (-areaS px py t) / 2 = AM := by rw [hta, ← hAM]; split <;> omega
  have hqq : ((LQ == OQ) == back) = false := by
    rw [← hLQ, ← hOQ, hta]
    cases back with
    | false =>
      rw [if_neg (by simp)]
      cases decide (0 < AS) <;> rfl
    | true =>
      rw [if_pos rfl]
      by_cases h0 : 0 < AS
      · rw [decide_eq_true h0, decide_eq_false (by omega)]; rfl
      · rw [decide_eq_false h0, decide_eq_true (by omega)]; rfl
  rw [hAM] at hcnt
  have hAML : (AM != (EL.length : Int)) = false := by simp [hcnt]
  have HTO := hid hto
  have HTE := hid hte
  have HEL := hid hEL
  have HAS := hid hAS
  have HAM := hid hAM
  have HLQ := hid hLQ
  have HOQ := hid hOQ
  have HAM2 := hid hAM2
  have HW1 := hid hw1
  have HW2 := hid hw2
  have HCL := hid hcl
  have HELn := hid heln
  clear hto hte hta hcl htn hp ht hcnt hne hw1 hw2 hEL hAS hAM hLQ hOQ hAM2 hce hsl hll hf hok hxy heln
  go_upto_region 3 with (fail)
  refine wp_region_valsG w1 (bl_refl _) [30, 31, 32, 33, 34, 35, 36, 37, 38, 7] (fun seen u W => (seen 0 = true → u 30 = .agg #[.int .i64 x, .int .i64 y, .string s]) ∧
    (seen 1 = true → u 31 = .int .u8 from_) ∧
    (seen 2 = true → u 32 = .int .i64 from_) ∧
    (seen 3 = true → u 33 = .pointer (some ⟨X, 2, none⟩)) ∧
    (seen 4 = true → u 34 = .string s) ∧
    (seen 5 = true → u 35 = .int .i64 (s.size : Int)) ∧
    (seen 6 = true → u 36 = .int .i64 (f : Int)) ∧
    (seen 7 = true → u 37 = .bool back) ∧
    (seen 8 = true → u 38 = .agg #[.int .i64 px, .int .i64 py, .string t]) ∧
    (seen 9 = true → BoxAt w1.heap.size W (u 7) 45 (if seen 10 = true then #[.int .i64 px, .int .i64 py, .string t] else #[.int .i64 0, .int .i64 0, .string ⟨#[]⟩])) ∧
    (seen 10 = true → seen 9 = true))
    (by kernel_rfl) (by kernel_rfl) (by kernel_rfl) (by simp) (by simp) ?_ ?_
  · intro i o ho seen a' w9 hb9 ⟨F0, F1, F2, F3, F4, F5, F6, F7, F8, F9, F10⟩ hv hsi hdep
    have hbx := heap_mono HX_1.out hb9
    have s0 : w9.cell? ⟨X, 0, none⟩ = some (.int .i64 x) := cell_of_heap hbx
    have s1 : w9.cell? ⟨X, 1, none⟩ = some (.int .i64 y) := cell_of_heap hbx
    have s2 : w9.cell? ⟨X, 2, none⟩ = some (.string s) := cell_of_heap hbx
    have hXl := (Array.getElem?_eq_some_iff.1 hbx).1
    rcases i with _ | _ | _ | _ | _ | _ | _ | _ | _ | _ | _ | i <;> simp only [List.getElem?_cons_zero, List.getElem?_cons_succ, List.getElem?_nil, Option.some.injEq, reduceCtorEq] at ho <;> subst ho
    · refine if_free rfl ?_
      have x3 := val_at (hv 3 (by simp))
      simp [valsOf] at x3
      refine wp_value (.agg #[.int .i64 x, .int .i64 y, .string s]) (w' := w9) (by simp [execOp, x3, go_sem, s0, s1, s2, hXl, htm, wfr, hsn, hsn2, hsn3]) ⟨_, rfl, hb9, ?_⟩
      exact ⟨by simp, by simpa using F1, by simpa using F2, by simpa using F3, by simpa using F4, by simpa using F5, by simpa using F6, by simpa using F7, by simpa using F8, by simpa using F9, by simpa using F10⟩
    · refine if_free rfl ?_
      have x1 := val_at (hv 1 (by simp))
      simp [valsOf] at x1
      refine wp_value (.int .u8 from_) (w' := w9) (by simp [execOp, x1, go_sem, s0, s1, s2, hXl, htm, wfr, hsn, hsn2, hsn3]) ⟨_, rfl, hb9, ?_⟩
      exact ⟨by simpa using F0, by simp, by simpa using F2, by simpa using F3, by simpa using F4, by simpa using F5, by simpa using F6, by simpa using F7, by simpa using F8, by simpa using F9, by simpa using F10⟩
    · refine if_free rfl ?_
      have d1 := hdep ⟨1, .data⟩ (by simp) rfl
      have e1 := val_at (F1 d1)
      refine wp_value (.int .i64 from_) (w' := w9) (by simp [execOp, e1, go_sem, s0, s1, s2, hXl, htm, wfr, hsn, hsn2, hsn3]) ⟨_, rfl, hb9, ?_⟩
      exact ⟨by simpa using F0, by simpa using F1, by simp, by simpa using F3, by simpa using F4, by simpa using F5, by simpa using F6, by simpa using F7, by simpa using F8, by simpa using F9, by simpa using F10⟩
    · refine if_free rfl ?_
      have x3 := val_at (hv 3 (by simp))
      simp [valsOf] at x3
      refine wp_value (.pointer (some ⟨X, 2, none⟩)) (w' := w9) (by simp [execOp, x3, go_sem, s0, s1, s2, hXl, htm, wfr, hsn, hsn2, hsn3]) ⟨_, rfl, hb9, ?_⟩
      exact ⟨by simpa using F0, by simpa using F1, by simpa using F2, by simp, by simpa using F4, by simpa using F5, by simpa using F6, by simpa using F7, by simpa using F8, by simpa using F9, by simpa using F10⟩
    · refine if_free rfl ?_
      have d3 := hdep ⟨3, .data⟩ (by simp) rfl
      have e3 := val_at (F3 d3)
      refine wp_value (.string s) (w' := w9) (by simp [execOp, e3, go_sem, s0, s1, s2, hXl, htm, wfr, hsn, hsn2, hsn3]) ⟨_, rfl, hb9, ?_⟩
      exact ⟨by simpa using F0, by simpa using F1, by simpa using F2, by simpa using F3, by simp, by simpa using F5, by simpa using F6, by simpa using F7, by simpa using F8, by simpa using F9, by simpa using F10⟩
    · refine if_free rfl ?_
      have d4 := hdep ⟨4, .data⟩ (by simp) rfl
      have e4 := val_at (F4 d4)
      refine wp_value (.int .i64 (s.size : Int)) (w' := w9) (by simp [execOp, e4, go_sem, s0, s1, s2, hXl, htm, wfr, hsn, hsn2, hsn3]) ⟨_, rfl, hb9, ?_⟩
      exact ⟨by simpa using F0, by simpa using F1, by simpa using F2, by simpa using F3, by simpa using F4, by simp, by simpa using F6, by simpa using F7, by simpa using F8, by simpa using F9, by simpa using F10⟩
    · refine if_free rfl ?_
      have d2 := hdep ⟨2, .data⟩ (by simp) rfl
      have e2 := val_at (F2 d2)
      have d5 := hdep ⟨5, .data⟩ (by simp) rfl
      have e5 := val_at (F5 d5)
      refine wp_value (.int .i64 (f : Int)) (w' := w9) (by simp [execOp, e2, e5, go_sem, s0, s1, s2, hXl, htm, wfr, hsn, hsn2, hsn3]) ⟨_, rfl, hb9, ?_⟩
      exact ⟨by simpa using F0, by simpa using F1, by simpa using F2, by simpa using F3, by simpa using F4, by simpa using F5, by simp, by simpa using F7, by simpa using F8, by simpa using F9, by simpa using F10⟩
    · refine if_free rfl ?_
      have x2 := val_at (hv 2 (by simp))
      simp [valsOf] at x2
      refine wp_value (.bool back) (w' := w9) (by simp [execOp, x2, go_sem, s0, s1, s2, hXl, htm, wfr, hsn, hsn2, hsn3]) ⟨_, rfl, hb9, ?_⟩
      exact ⟨by simpa using F0, by simpa using F1, by simpa using F2, by simpa using F3, by simpa using F4, by simpa using F5, by simpa using F6, by simp, by simpa using F8, by simpa using F9, by simpa using F10⟩
    · refine if_free rfl ?_
      have d0 := hdep ⟨0, .data⟩ (by simp) rfl
      have e0 := val_at (F0 d0)
      have d6 := hdep ⟨6, .data⟩ (by simp) rfl
      have e6 := val_at (F6 d6)
      have d7 := hdep ⟨7, .data⟩ (by simp) rfl
      have e7 := val_at (F7 d7)
      have hcl := HCL.out w9
      refine wp_calls (f := 56) (args := #[.agg #[.int .i64 x, .int .i64 y, .string s], .int .i64 (f : Int), .bool back]) (w' := w9) (by simp [execOp, e0, e6, e7, go_sem]) hcl ?_
      rintro e w10 ⟨rfl, hg⟩
      refine ⟨_, rfl, _, rfl, bl_trans hb9 hg, ?_⟩
      exact ⟨by simpa using F0, by simpa using F1, by simpa using F2, by simpa using F3, by simpa using F4, by simpa using F5, by simpa using F6, by simpa using F7, by simp, by simpa using fun h => (F9 h).mono hg, by simpa using F10⟩
    · refine if_free rfl ?_
      have hg : Below w9.heap.size w9 (w9.alloc (.cells #[.int .i64 0, .int .i64 0, .string ⟨#[]⟩] 45)) := bl_alloc (bl_refl _) _
      have hs : seen 10 = false := by
        cases h : seen 10 with
        | false => rfl
        | true => have := F10 h; rw [this] at hsi; cases hsi
      refine wp_value (.pointer (some ⟨w9.heap.size, 0, none⟩)) (w' := w9.alloc (.cells #[.int .i64 0, .int .i64 0, .string ⟨#[]⟩] 45)) (by simp [execOp, go_sem]) ⟨_, rfl, bl_trans hb9 hg, ?_⟩
      exact ⟨by simpa using F0, by simpa using F1, by simpa using F2, by simpa using F3, by simpa using F4, by simpa using F5, by simpa using F6, by simpa using F7, by simpa using F8, by simpa [hs] using BoxAt.new (by have := hb9.size; omega), by simpa using F10⟩
    · refine if_free rfl ?_
      have d9 := hdep ⟨9, .data⟩ (by simp) rfl
      have d8 := hdep ⟨8, .data⟩ (by simp) rfl
      have e8 := val_at (F8 d8)
      have e1 := F9 d9
      rw [hsi] at e1
      simp only [Bool.false_eq_true, if_false] at e1
      obtain ⟨B, hB, hB2, hB3⟩ := e1
      have ep := val_at hB
      have c0 := cell_of_heap (i := 0) hB3
      have c1 := cell_of_heap (i := 1) hB3
      have c2 := cell_of_heap (i := 2) hB3
      have f0 := fun i => frozen_of_heap (i := i) hB3
      have hBl := (Array.getElem?_eq_some_iff.1 hB3).1
      have hst := BoxAt.put3 hB hB2 hB3 (.int .i64 px) (.int .i64 py) (.string t)
      refine wp_effect (w' := (((w9.setCell ⟨B, 0, none⟩ (.int .i64 px)).setCell ⟨B, 1, none⟩ (.int .i64 py)).setCell ⟨B, 2, none⟩ (.string t))) (by simp [execOp, e8, ep, go_sem, c0, c1, c2, f0, hBl]) ⟨_, rfl, (bl_set (bl_set (bl_set hb9 _ hB2) _ hB2) _ hB2), ?_⟩
      exact ⟨by simpa using F0, by simpa using F1, by simpa using F2, by simpa using F3, by simpa using F4, by simpa using F5, by simpa using F6, by simpa using F7, by simpa using F8, by simpa using fun _ => hst.1, by simpa using d9⟩
  intro u w2 hb2 seen hall ⟨F0, F1, F2, F3, F4, F5, F6, F7, F8, F9, F10⟩
  replace F0 := F0 (hall 0 (by decide))
  replace F1 := F1 (hall 1 (by decide))
  replace F2 := F2 (hall 2 (by decide))
  replace F3 := F3 (hall 3 (by decide))
  replace F4 := F4 (hall 4 (by decide))
  replace F5 := F5 (hall 5 (by decide))
  replace F6 := F6 (hall 6 (by decide))
  replace F7 := F7 (hall 7 (by decide))
  replace F8 := F8 (hall 8 (by decide))
  replace F9 := F9 (hall 9 (by decide))
  replace F10 := F10 (hall 10 (by decide))
  have hbox := F9
  have hst := hall 10 (by decide)
  rw [if_pos hst] at hbox
  clear hall hst F0 F1 F2 F3 F4 F5 F6 F7 F8 F9 F10 seen
  obtain ⟨Y, hY, hYX, hYb⟩ := hbox
  simp only [setAll, hY]
  clear hY hYX
  generalize u 30 = u30
  generalize u 31 = u31
  generalize u 32 = u32
  generalize u 33 = u33
  generalize u 34 = u34
  generalize u 35 = u35
  generalize u 36 = u36
  generalize u 37 = u37
  generalize u 38 = u38
  have HX_2 := hid (heap_mono HX_1.out hb2)
  have HB2 := hid (bl_trans HB1.out hb2)
  clear HX_1 
  clear hb2
  have HY_2 := hid hYb
  clear hYb htm wfr hsn hsn2 hsn3
  have sX0 : w2.cell? ⟨X, 0, none⟩ = some (.int .i64 x) := cell_of_heap HX_2.out
  have sX1 : w2.cell? ⟨X, 1, none⟩ = some (.int .i64 y) := cell_of_heap HX_2.out
  have sX2 : w2.cell? ⟨X, 2, none⟩ = some (.string s) := cell_of_heap HX_2.out
  have slX := (Array.getElem?_eq_some_iff.1 HX_2.out).1
  have hcall := encl_any x y s w2 (by omega)
  rw [HCE.out, HEL.out] at hcall
  go_wp2_with fail
  refine hcall.mono ?_
  rintro e w3 ⟨⟨v1, rfl, hv1⟩, hb3⟩
  clear hcall sX0 sX1 sX2 slX
  have HX_3 := hid (heap_mono HX_2.out hb3)
  have HY_3 := hid (heap_mono HY_2.out hb3)
  have HB3 := hid (bl_trans HB2.out hb3)
  clear HX_2 HY_2 
  have HV_3 := hid hv1
  clear hv1
  clear hb3
  obtain ⟨A1, c1, rfl⟩ := HV_3.out.slice
  have sY0 : w3.cell? ⟨Y, 0, none⟩ = some (.int .i64 px) := cell_of_heap HY_3.out
  have sY1 : w3.cell? ⟨Y, 1, none⟩ = some (.int .i64 py) := cell_of_heap HY_3.out
  have sY2 : w3.cell? ⟨Y, 2, none⟩ = some (.string t) := cell_of_heap HY_3.out
  have slY := (Array.getElem?_eq_some_iff.1 HY_3.out).1
  have hcall := encl_any px py t w3 (by omega)
  rw [HTO.out, HTE.out] at hcall
  go_wp2_with fail
  refine hcall.mono ?_
  rintro e w4 ⟨⟨v2, rfl, hv2⟩, hb4⟩
  clear hcall sY0 sY1 sY2 slY
  have HX_4 := hid (heap_mono HX_3.out hb4)
  have HY_4 := hid (heap_mono HY_3.out hb4)
  have HV_4 := hid (HV_3.out.mono hb4)
  have HB4 := hid (bl_trans HB3.out hb4)
  clear HX_3 HY_3 HV_3
  have HU_4 := hid hv2
  clear hv2
  clear hb4
  obtain ⟨A2, c2, rfl⟩ := HU_4.out.slice
  have sX0 : w4.cell? ⟨X, 0, none⟩ = some (.int .i64 x) := cell_of_heap HX_4.out
  have sX1 : w4.cell? ⟨X, 1, none⟩ = some (.int .i64 y) := cell_of_heap HX_4.out
  have sX2 : w4.cell? ⟨X, 2, none⟩ = some (.string s) := cell_of_heap HX_4.out
  have slX := (Array.getElem?_eq_some_iff.1 HX_4.out).1
  have hcall := area_any x y s w4 (by omega)
  rw [HCE.out, HAS.out, HAM.out, HLQ.out] at hcall
  go_wp2_with fail
  refine hcall.mono ?_
  rintro e w5 ⟨rfl, hb5⟩
  clear hcall sX0 sX1 sX2 slX
  have HX_5 := hid (heap_mono HX_4.out hb5)
  have HY_5 := hid (heap_mono HY_4.out hb5)
  have HV_5 := hid (HV_4.out.mono hb5)
  have HU_5 := hid (HU_4.out.mono hb5)
  have HB5 := hid (bl_trans HB4.out hb5)
  clear HX_4 HY_4 HV_4 HU_4
  clear hb5
  have sY0 : w5.cell? ⟨Y, 0, none⟩ = some (.int .i64 px) := cell_of_heap HY_5.out
  have sY1 : w5.cell? ⟨Y, 1, none⟩ = some (.int .i64 py) := cell_of_heap HY_5.out
  have sY2 : w5.cell? ⟨Y, 2, none⟩ = some (.string t) := cell_of_heap HY_5.out
  have slY := (Array.getElem?_eq_some_iff.1 HY_5.out).1
  have hcall := area_any px py t w5 (by omega)
  rw [HTO.out, HAM2.out, HOQ.out] at hcall
  go_wp2_with fail
  refine hcall.mono ?_
  rintro e w6 ⟨rfl, hb6⟩
  clear hcall sY0 sY1 sY2 slY
  have HX_6 := hid (heap_mono HX_5.out hb6)
  have HY_6 := hid (heap_mono HY_5.out hb6)
  have HV_6 := hid (HV_5.out.mono hb6)
  have HU_6 := hid (HU_5.out.mono hb6)
  have HB6 := hid (bl_trans HB5.out hb6)
  clear HX_5 HY_5 HV_5 HU_5
  clear hb6
  have t2 : (AM != AM) = false := by simp
  have sY0 : w6.cell? ⟨Y, 0, none⟩ = some (.int .i64 px) := cell_of_heap HY_6.out
  have sY1 : w6.cell? ⟨Y, 1, none⟩ = some (.int .i64 py) := cell_of_heap HY_6.out
  have sY2 : w6.cell? ⟨Y, 2, none⟩ = some (.string t) := cell_of_heap HY_6.out
  have slY := (Array.getElem?_eq_some_iff.1 HY_6.out).1
  have hcall := ints_any EL EL _ _ w6 (by have := HELn.out; omega) HV_6.out HU_6.out
  rw [decide_eq_true (rfl : EL = EL)] at hcall
  go_wp2_with fail
  refine hcall.mono ?_
  rintro e w7 ⟨rfl, hb7⟩
  clear hcall sY0 sY1 sY2 slY
  have HX_7 := hid (heap_mono HX_6.out hb7)
  have HY_7 := hid (heap_mono HY_6.out hb7)
  have HV_7 := hid (HV_6.out.mono hb7)
  have HU_7 := hid (HU_6.out.mono hb7)
  have HB7 := hid (bl_trans HB6.out hb7)
  clear HX_6 HY_6 HV_6 HU_6
  clear hb7
  have sY0 : w7.cell? ⟨Y, 0, none⟩ = some (.int .i64 px) := cell_of_heap HY_7.out
  have sY1 : w7.cell? ⟨Y, 1, none⟩ = some (.int .i64 py) := cell_of_heap HY_7.out
  have sY2 : w7.cell? ⟨Y, 2, none⟩ = some (.string t) := cell_of_heap HY_7.out
  have slY := (Array.getElem?_eq_some_iff.1 HY_7.out).1
  have hcall := chkchain_any px py t w7 (by omega)
  rw [HTO.out] at hcall
  go_wp2_with fail
  refine hcall.mono ?_
  rintro e w8 ⟨rfl, hb8⟩
  clear hcall sY0 sY1 sY2 slY
  have HX_8 := hid (heap_mono HX_7.out hb8)
  have HY_8 := hid (heap_mono HY_7.out hb8)
  have HV_8 := hid (HV_7.out.mono hb8)
  have HU_8 := hid (HU_7.out.mono hb8)
  have HB8 := hid (bl_trans HB7.out hb8)
  clear HX_7 HY_7 HV_7 HU_7
  clear hb8
  clear hqq hAML t2
  have hcall := mkpond_any 8 8 A1 none EL.length c1 0 0 w8
  go_wp2_with fail
  refine hcall.mono ?_
  rintro e w9 ⟨rfl, hb9⟩
  clear hcall 
  have HX_9 := hid (heap_mono HX_8.out hb9)
  have HY_9 := hid (heap_mono HY_8.out hb9)
  have HV_9 := hid (HV_8.out.mono hb9)
  have HU_9 := hid (HU_8.out.mono hb9)
  have HB9 := hid (bl_trans HB8.out hb9)
  clear HX_8 HY_8 HV_8 HU_8
  clear hb9
  have sX0 : w9.cell? ⟨X, 0, none⟩ = some (.int .i64 x) := cell_of_heap HX_9.out
  have sX1 : w9.cell? ⟨X, 1, none⟩ = some (.int .i64 y) := cell_of_heap HX_9.out
  have sX2 : w9.cell? ⟨X, 2, none⟩ = some (.string s) := cell_of_heap HX_9.out
  have slX := (Array.getElem?_eq_some_iff.1 HX_9.out).1
  have hcall := sticks_any (wd := 8) (hg := 8) (want := EL) (keep := []) (water := EL) w9 (by have := HELn.out; omega) (by decide) (by have := HELn.out; omega) HV_9.out (.inl ⟨rfl, rfl⟩) HV_9.out
  rw [HW1.out, HW2.out] at hcall
  go_wp2_with fail
  refine hcall.mono ?_
  rintro e w10 ⟨rfl, hb10⟩
  clear hcall sX0 sX1 sX2 slX
  have HX_10 := hid (heap_mono HX_9.out hb10)
  have HY_10 := hid (heap_mono HY_9.out hb10)
  have HV_10 := hid (HV_9.out.mono hb10)
  have HU_10 := hid (HU_9.out.mono hb10)
  have HB10 := hid (bl_trans HB9.out hb10)
  clear HX_9 HY_9 HV_9 HU_9
  clear hb10
  have t3 : ((s.size : Int) == (s.size : Int)) = true := by simp
  have sX0 : w10.cell? ⟨X, 0, none⟩ = some (.int .i64 x) := cell_of_heap HX_10.out
  have sX1 : w10.cell? ⟨X, 1, none⟩ = some (.int .i64 y) := cell_of_heap HX_10.out
  have sX2 : w10.cell? ⟨X, 2, none⟩ = some (.string s) := cell_of_heap HX_10.out
  have slX := (Array.getElem?_eq_some_iff.1 HX_10.out).1
  have hworks := works_any w10
  go_wp2_with fail
  refine hworks.mono ?_
  rintro e wz ⟨rfl, hbz⟩
  clear hworks
  go_wp2
  go_ret
  exact ⟨rfl, bl_trans HB10.out hbz⟩

end Go.Proofs.Ytlkoadcbolkhoaa
