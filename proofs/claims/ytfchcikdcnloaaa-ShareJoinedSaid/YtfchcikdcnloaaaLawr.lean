/- ShareJoined: the walk through the law. -/
import Derived.Test.YtfchcikdcnloaaaLawf
import Derived.Test.YtfchcikdcnloaaaPlain6
import Derived.Test.YtfchcikdcnloaaaPlain7
import Derived.Test.YtfchcikdcnloaaaRegs
import Derived.Test.YtfchcikdcnloaaaSteps
import Derived.Deep.RegionLaw
import Derived.Deep.Cut
namespace Go.Proofs.Ytfchcikdcnloaaa
open Go Go.RowKit Go.Proofs
attribute [local go_sem] cell_grow frozen_grow

set_option maxRecDepth 100000 in
set_option maxHeartbeats 16000000 in
theorem shareJoined_out (had : List Int) (part prize : Int) (one two : Int) (s : Value) (w : World) (hs : Ints w s had) (hout : ¬ checkPool had part prize = 0 ∨ had.length < 2) :
    Calls Try.prog 12 #[.agg #[s, .int .i64 part, .int .i64 prize], .int .u8 one, .int .u8 two] w fun e w' => e = .returned (.bool true) ∧ Below w.heap.size w w' := by
  obtain ⟨A, c, rfl⟩ := hs.slice
  by_cases h0 : checkPool had part prize = 0
  case neg =>
    have HD := hid (decide_eq_false h0)
    clear h0 hout
    go_enter Try.func12, Try.ntmps12
    go_wp2_with fail
    refine (fine_any had part prize _ _ (hs.mono (bl_alloc (bl_refl _) _))).mono ?_
    rintro e w1 ⟨rfl, hb1⟩
    rw [HD.out]
    have k1 := heap_new hb1
    have hr1 := fun i => cell_of_heap (i := i) k1
    have hB1 := bl_trans (bl_alloc (bl_refl w) _) hb1
    have hl1 : w.heap.size < w1.heap.size := (Array.getElem?_eq_some_iff.1 k1).1
    clear k1
    go_wp2_with fail
    refine (works_any _).mono ?_
    rintro e wz ⟨rfl, hbz⟩
    go_wp2
    go_ret
    exact ⟨rfl, bl_trans hB1 hbz⟩
  have HD := hid (decide_eq_true h0)
  have d1 : decide ((had.length : Int) < 2) = true := by
    rcases hout with h | h
    · exact absurd h0 h
    · simp; omega
  clear h0 hout
  go_enter Try.func12, Try.ntmps12
  go_wp2_with fail
  refine (fine_any had part prize _ _ (hs.mono (bl_alloc (bl_refl _) _))).mono ?_
  rintro e w1 ⟨rfl, hb1⟩
  rw [HD.out]
  have k1 := heap_new hb1
  have hr1 := fun i => cell_of_heap (i := i) k1
  have hr10 : w1.cell? ⟨w.heap.size, 0, none⟩ = some (.slice A had.length c) := hr1 0
  have hB1 := bl_trans (bl_alloc (bl_refl w) _) hb1
  have hl1 : w.heap.size < w1.heap.size := (Array.getElem?_eq_some_iff.1 k1).1
  clear k1
  go_wp2_with fail
  refine (works_any _).mono ?_
  rintro e wz ⟨rfl, hbz⟩
  go_wp2
  go_ret
  exact ⟨rfl, bl_trans hB1 hbz⟩

theorem joined_numbers (n : Nat) (one two : Int) (hn : 2 ≤ n) (h1 : 0 ≤ one ∧ one < 256) (h2 : 0 ≤ two ∧ two < 256) : ∃ a b : Nat, one % (n : Int) = a ∧ ((a : Int) + 1 + two % ((n : Int) - 1)) % (n : Int) = b ∧ a < n ∧ b < n ∧ a ≠ b ∧ one.tmod (n : Int) = a ∧ two.tmod ((n : Int) - 1) = two % ((n : Int) - 1) ∧ ((a : Int) + 1 + two % ((n : Int) - 1)).tmod (n : Int) = b ∧ 0 ≤ two % ((n : Int) - 1) ∧ two % ((n : Int) - 1) < n - 1 := by
  have e1 := Int.emod_nonneg one (show (n : Int) ≠ 0 by omega)
  have e2 := Int.emod_lt_of_pos one (show 0 < (n : Int) by omega)
  have e3 := Int.emod_nonneg two (show (n : Int) - 1 ≠ 0 by omega)
  have e4 := Int.emod_lt_of_pos two (show 0 < (n : Int) - 1 by omega)
  obtain ⟨a, ha⟩ : ∃ a : Nat, one % (n : Int) = a := ⟨(one % (n : Int)).toNat, by omega⟩
  have e5 := Int.emod_nonneg ((a : Int) + 1 + two % ((n : Int) - 1)) (show (n : Int) ≠ 0 by omega)
  have e6 := Int.emod_lt_of_pos ((a : Int) + 1 + two % ((n : Int) - 1)) (show 0 < (n : Int) by omega)
  obtain ⟨b, hb⟩ : ∃ b : Nat, ((a : Int) + 1 + two % ((n : Int) - 1)) % (n : Int) = b := ⟨(((a : Int) + 1 + two % ((n : Int) - 1)) % (n : Int)).toNat, by omega⟩
  refine ⟨a, b, ha, hb, by omega, by omega, ?_, ?_, ?_, ?_, e3, e4⟩
  · rintro rfl
    generalize two % ((n : Int) - 1) = r at *
    by_cases h : (a : Int) + 1 + r < n
    · rw [Int.emod_eq_of_lt (by omega) h] at hb; omega
    · have : ((a : Int) + 1 + r) % (n : Int) = (a : Int) + 1 + r - n := by
        rw [← Int.sub_emod_right, Int.emod_eq_of_lt (by omega) (by omega)]
      omega
  · rw [Int.tmod_eq_emod_of_nonneg h1.1, ha]
  · exact Int.tmod_eq_emod_of_nonneg h2.1
  · rw [Int.tmod_eq_emod_of_nonneg (by omega), hb]

set_option maxRecDepth 100000 in
set_option maxHeartbeats 16000000 in
theorem shareJoined_in (had : List Int) (part prize : Int) (one two : Int) (s : Value) (w : World) (hs : Ints w s had) (h1 : 0 ≤ one ∧ one < 256) (h2 : 0 ≤ two ∧ two < 256) (h0 : checkPool had part prize = 0) (hlen : 2 ≤ had.length) :
    Calls Try.prog 12 #[.agg #[s, .int .i64 part, .int .i64 prize], .int .u8 one, .int .u8 two] w fun e w' => e = .returned (.bool true) ∧ Below w.heap.size w w' := by
  have V := checkPool_ok.1 h0
  have HD := hid (decide_eq_true h0)
  have hv2 := V.l2
  clear h0
  obtain ⟨b0, off, c, rfl, hlc, hb0, hcell⟩ := hs.some (by omega)
  have d1 : decide ((had.length : Int) < 2) = false := by simp; omega
  obtain ⟨a, b, ea, eb, hal, hbl, hab, ta, tr, tb, r1, r2⟩ := joined_numbers had.length one two hlen h1 h2
  obtain ⟨r, hr⟩ : ∃ r : Int, two % ((had.length : Int) - 1) = r := ⟨_, rfl⟩
  rw [hr] at eb tr tb r1 r2
  have V2 : Val had 100 prize := ⟨V.l1, V.l2, V.h1, by decide, by decide, V.z1, V.z2⟩
  obtain ⟨ha, xa⟩ := get_at hal
  obtain ⟨hb, xb⟩ := get_at hbl
  have ga : had.getD a 0 = ha := by simp [List.getD, xa]
  have gb : had.getD b 0 = hb := by simp [List.getD, xb]
  have pa := had_at V hal
  have pb := had_at V hbl
  rw [ga] at pa
  rw [gb] at pb
  have ca := hcell a ha xa
  have cb := hcell b hb xb
  have EA := hid ea
  have TA := hid ta
  have HJ : Hid (ha + hb ≤ 1000000 → Val (joinL had a b had.length) 100 prize ∧ (sharesE had 100 prize).getD a 0 + (sharesE had 100 prize).getD b 0 ≤ spanHi (joinL had a b had.length) 100 prize 0) := fun h => by
    have hm : had.getD a 0 + had.getD b 0 ≤ 1000000 := by rw [ga, gb]; exact h
    have V3 := joined_val V2 hal hbl hab hm
    refine ⟨V3, Int.le_trans (joined_more V2 hal hbl hab hm) ?_⟩
    exact (span_within V3 (own_ok V3) (own_fairP V3) (by simp [joinL])).2
  have HC := Lib.hid hcell
  have HG : Hid (had.getD a 0 = ha ∧ had.getD b 0 = hb) := ⟨ga, gb⟩
  have HVV := hid V2
  have hsl := (shares_facts V2).1
  have hsb := (shares_facts V2).2.1
  have hwr : IntKind.i64.wrap (ha + hb) = ha + hb := IntWalk.i64_in _ (by omega)
  have hw1 : IntKind.i64.wrap ((a : Int) + 1) = a + 1 := IntWalk.i64_in _ (by omega)
  have hw2 : IntKind.i64.wrap ((had.length : Int) - 1) = had.length - 1 := IntWalk.i64_in _ (by omega)
  have hw3 : IntKind.i64.wrap ((a : Int) + 1 + r) = a + 1 + r := IntWalk.i64_in _ (by omega)
  have hn0 : ((had.length : Int) == 0) = false := beq_eq_false_iff_ne.2 (by omega)
  have hn1 : ((had.length : Int) - 1 == 0) = false := beq_eq_false_iff_ne.2 (by omega)
  have HSL := hid hsl
  have HSB := Lib.hid hsb
  clear V V2 ea eb ta hr xa xb ga gb hcell hsl hsb
  go_enter Try.func12, Try.ntmps12
  go_wp2_with fail
  refine (fine_any had part prize _ _ (hs.mono (bl_alloc (bl_refl _) _))).mono ?_
  rintro e w1 ⟨rfl, hb1⟩
  rw [HD.out]
  have k1 := heap_new hb1
  have hr1 := fun i => cell_of_heap (i := i) k1
  have hr10 : w1.cell? ⟨w.heap.size, 0, none⟩ = some (.slice (some ⟨b0, off, none⟩) had.length c) := hr1 0
  have hr11 : w1.cell? ⟨w.heap.size, 1, none⟩ = some (.int .i64 part) := hr1 1
  have hf1 : ∀ i, w1.frozen? ⟨w.heap.size, i, none⟩ = false := fun i => frozen_of_heap k1
  have hB1 := bl_trans (bl_alloc (bl_refl w) _) hb1
  have hl1 : w.heap.size < w1.heap.size := (Array.getElem?_eq_some_iff.1 k1).1
  have K2 := hid (set_mid3 k1 (.int .i64 100))
  have hB2 := bl_set hB1 (o := 1) (.int .i64 100) (Nat.le_refl w.heap.size)
  clear k1 hb1
  go_upto_region 4 with (fail)
  obtain ⟨w2, hw2⟩ : ∃ w2, w1.setCell ⟨w.heap.size, 1, none⟩ (.int .i64 100) = w2 := ⟨_, rfl⟩
  rw [hw2] at K2 hB2 ⊢
  have hr2 := fun i => cell_of_heap (i := i) K2.out
  have hr20 : w2.cell? ⟨w.heap.size, 0, none⟩ = some (.slice (some ⟨b0, off, none⟩) had.length c) := hr2 0
  have hl2 : w.heap.size < w2.heap.size := (Array.getElem?_eq_some_iff.1 K2.out).1
  clear hw2 hr1 hr10 hr11 hf1
  have hb2c : b0 < w2.heap.size := Nat.lt_of_lt_of_le hb0 hB2.size
  have hai : (a : Int) < (had.length : Int) := by omega
  have hbi : (b : Int) < (had.length : Int) := by omega
  go_upto_region 5 with (fail)
  rw [EA.out]
  go_quiet (fail)
  obtain ⟨w3, hw3⟩ : ∃ w3, w2.drewN nq = w3 := ⟨_, rfl⟩
  have hb23 : Below w2.heap.size w2 w3 := by rw [← hw3]; exact bl_drewN (bl_refl _) _
  rw [hw3]
  have K3 := hid (heap_mono K2.out hb23)
  have hr3 := fun i => cell_of_heap (i := i) K3.out
  have hr30 : w3.cell? ⟨w.heap.size, 0, none⟩ = some (.slice (some ⟨b0, off, none⟩) had.length c) := hr3 0
  have hl3 : w.heap.size < w3.heap.size := (Array.getElem?_eq_some_iff.1 K3.out).1
  have hB3 := bl_trans hB2 hb23
  have ca3 := cell_mono ca hB3
  have cb3 := cell_mono cb hB3
  have hb3c : b0 < w3.heap.size := Nat.lt_of_lt_of_le hb0 hB3.size
  clear hw3 hr2 hr20 K2
  go_wp2
  by_cases hbig : 1000000 < ha + hb
  · have dbig : decide (1000000 < ha + hb) = true := by simpa using hbig
    clear hbig
    go_quiet (fail)
    go_wp2_with fail
    refine (works_any _).mono ?_
    rintro e wz ⟨rfl, hbz⟩
    go_wp2
    go_ret
    exact ⟨rfl, bl_trans (bl_drewN hB3 _) hbz⟩
  have dbig : decide (1000000 < ha + hb) = false := by simpa using hbig
  obtain ⟨V3, hmore⟩ := HJ.out (by omega)
  have H3 := hid V3
  have HM := hid hmore
  clear HJ hbig V3 hmore
  go_quiet (fail)
  obtain ⟨w4, hw4⟩ : ∃ w4, w3.drewN nq = w4 := ⟨_, rfl⟩
  have hb34 : Below w3.heap.size w3 w4 := by rw [← hw4]; exact bl_drewN (bl_refl _) _
  rw [hw4]
  have K4 := hid (heap_mono K3.out hb34)
  have hB4 := bl_trans hB3 hb34
  have HQ : Hid (∀ W, Below w4.heap.size w4 W → (∀ i, W.cell? ⟨w.heap.size, i, none⟩ = #[Value.slice (some ⟨b0, off, none⟩) had.length c, .int .i64 100, .int .i64 prize][i]?) ∧ w.heap.size < W.heap.size ∧ W.cell? ⟨b0, off + a, none⟩ = some (.int .i64 ha) ∧ W.cell? ⟨b0, off + b, none⟩ = some (.int .i64 hb) ∧ b0 < W.heap.size) := fun W hW =>
    ⟨fun i => cell_of_heap (heap_mono K4.out hW), (Array.getElem?_eq_some_iff.1 (heap_mono K4.out hW)).1, cell_mono (cell_mono ca hB4) hW, cell_mono (cell_mono cb hB4) hW, Nat.lt_of_lt_of_le hb0 (bl_trans hB4 hW).size⟩
  clear hw4 hr3 hr30 K3 ca3 cb3 dbig
  go_wp2
  refine wp_region_vals [59, 60, 61, 62, 63, 64, 65, 66, 67, 68, 69, 70, 71, 72, 73, 9] (fun seen u W => (seen 0 = true → u 59 = .pointer (some ⟨w.heap.size, 0, none⟩)) ∧
    (seen 1 = true → u 60 = .slice (some ⟨b0, off, none⟩) had.length c) ∧
    (seen 2 = true → u 61 = .int .i64 (a : Int)) ∧
    (seen 3 = true → u 62 = .pointer (some ⟨b0, off + a, none⟩)) ∧
    (seen 4 = true → u 63 = .int .i64 ha) ∧
    (seen 5 = true → u 64 = .pointer (some ⟨w.heap.size, 0, none⟩)) ∧
    (seen 6 = true → u 65 = .slice (some ⟨b0, off, none⟩) had.length c) ∧
    (seen 7 = true → u 66 = .int .i64 (b : Int)) ∧
    (seen 8 = true → u 67 = .pointer (some ⟨b0, off + b, none⟩)) ∧
    (seen 9 = true → u 68 = .int .i64 hb) ∧
    (seen 10 = true → u 69 = .int .i64 (ha + hb)) ∧
    (seen 11 = true → RowAt w4.heap.size W (u 70) 2 #[.int .i64 (ha + hb)]) ∧
    (seen 12 = true → u 71 = .pointer (some ⟨w.heap.size, 2, none⟩)) ∧
    (seen 13 = true → u 72 = .int .i64 prize) ∧
    (seen 14 = true → u 73 = .agg #[u 70, .int .i64 100, .int .i64 prize]) ∧
    (seen 15 = true → BoxAt w4.heap.size W (u 9) 24 (if seen 16 = true then #[u 70, .int .i64 100, .int .i64 prize] else #[.slice none 0 0, .int .i64 0, .int .i64 0])) ∧
    (seen 16 = true → seen 15 = true) ∧
    (seen 14 = true → seen 11 = true) ∧
    (seen 16 = true → seen 11 = true))
    (by kernel_rfl) (by kernel_rfl) (by kernel_rfl) (by simp) (by simp) ?_ ?_
  · intro i o ho seen a' w9 hb9 ⟨F0, F1, F2, F3, F4, F5, F6, F7, F8, F9, F10, F11, F12, F13, F14, F15, F16, F17, F18⟩ hv hsi hdep
    obtain ⟨hp9, hy9, hca9, hcb9, hl9⟩ := HQ.out w9 hb9
    rcases i with _ | _ | _ | _ | _ | _ | _ | _ | _ | _ | _ | _ | _ | _ | _ | _ | _ | i <;> simp only [List.getElem?_cons_zero, List.getElem?_cons_succ, List.getElem?_nil, Option.some.injEq, reduceCtorEq] at ho <;> subst ho
    · have x3 := val_at (hv 3 (by simp))
      simp [valsOf] at x3
      refine wp_value (.pointer (some ⟨w.heap.size, 0, none⟩)) (w' := w9) (by simp [execOp, x3, go_sem]) ⟨_, rfl, hb9, ?_⟩
      exact ⟨by simp, by simpa using F1, by simpa using F2, by simpa using F3, by simpa using F4, by simpa using F5, by simpa using F6, by simpa using F7, by simpa using F8, by simpa using F9, by simpa using F10, by simpa using F11, by simpa using F12, by simpa using F13, by simpa using F14, by simpa using F15, by simpa using F16, by simpa using F17, by simpa using F18⟩
    · have d0 := hdep ⟨0, .data⟩ (by simp) rfl
      have e0 := val_at (F0 d0)
      refine wp_value (.slice (some ⟨b0, off, none⟩) had.length c) (w' := w9) (by simp [execOp, e0, go_sem, hp9]) ⟨_, rfl, hb9, ?_⟩
      exact ⟨by simpa using F0, by simp, by simpa using F2, by simpa using F3, by simpa using F4, by simpa using F5, by simpa using F6, by simpa using F7, by simpa using F8, by simpa using F9, by simpa using F10, by simpa using F11, by simpa using F12, by simpa using F13, by simpa using F14, by simpa using F15, by simpa using F16, by simpa using F17, by simpa using F18⟩
    · have x7 := val_at (hv 7 (by simp))
      simp [valsOf] at x7
      refine wp_value (.int .i64 (a : Int)) (w' := w9) (by simp [execOp, x7, go_sem]) ⟨_, rfl, hb9, ?_⟩
      exact ⟨by simpa using F0, by simpa using F1, by simp, by simpa using F3, by simpa using F4, by simpa using F5, by simpa using F6, by simpa using F7, by simpa using F8, by simpa using F9, by simpa using F10, by simpa using F11, by simpa using F12, by simpa using F13, by simpa using F14, by simpa using F15, by simpa using F16, by simpa using F17, by simpa using F18⟩
    · have d1 := hdep ⟨1, .data⟩ (by simp) rfl
      have e1 := val_at (F1 d1)
      have d2 := hdep ⟨2, .data⟩ (by simp) rfl
      have e2 := val_at (F2 d2)
      refine wp_value (.pointer (some ⟨b0, off + a, none⟩)) (w' := w9) (by simp [execOp, e1, e2, go_sem, hal]) ⟨_, rfl, hb9, ?_⟩
      exact ⟨by simpa using F0, by simpa using F1, by simpa using F2, by simp, by simpa using F4, by simpa using F5, by simpa using F6, by simpa using F7, by simpa using F8, by simpa using F9, by simpa using F10, by simpa using F11, by simpa using F12, by simpa using F13, by simpa using F14, by simpa using F15, by simpa using F16, by simpa using F17, by simpa using F18⟩
    · have d3 := hdep ⟨3, .data⟩ (by simp) rfl
      have e3 := val_at (F3 d3)
      refine wp_value (.int .i64 ha) (w' := w9) (by simp [execOp, e3, go_sem, hca9]) ⟨_, rfl, hb9, ?_⟩
      exact ⟨by simpa using F0, by simpa using F1, by simpa using F2, by simpa using F3, by simp, by simpa using F5, by simpa using F6, by simpa using F7, by simpa using F8, by simpa using F9, by simpa using F10, by simpa using F11, by simpa using F12, by simpa using F13, by simpa using F14, by simpa using F15, by simpa using F16, by simpa using F17, by simpa using F18⟩
    · have x3 := val_at (hv 3 (by simp))
      simp [valsOf] at x3
      refine wp_value (.pointer (some ⟨w.heap.size, 0, none⟩)) (w' := w9) (by simp [execOp, x3, go_sem]) ⟨_, rfl, hb9, ?_⟩
      exact ⟨by simpa using F0, by simpa using F1, by simpa using F2, by simpa using F3, by simpa using F4, by simp, by simpa using F6, by simpa using F7, by simpa using F8, by simpa using F9, by simpa using F10, by simpa using F11, by simpa using F12, by simpa using F13, by simpa using F14, by simpa using F15, by simpa using F16, by simpa using F17, by simpa using F18⟩
    · have d5 := hdep ⟨5, .data⟩ (by simp) rfl
      have e5 := val_at (F5 d5)
      refine wp_value (.slice (some ⟨b0, off, none⟩) had.length c) (w' := w9) (by simp [execOp, e5, go_sem, hp9]) ⟨_, rfl, hb9, ?_⟩
      exact ⟨by simpa using F0, by simpa using F1, by simpa using F2, by simpa using F3, by simpa using F4, by simpa using F5, by simp, by simpa using F7, by simpa using F8, by simpa using F9, by simpa using F10, by simpa using F11, by simpa using F12, by simpa using F13, by simpa using F14, by simpa using F15, by simpa using F16, by simpa using F17, by simpa using F18⟩
    · have x8 := val_at (hv 8 (by simp))
      simp [valsOf] at x8
      refine wp_value (.int .i64 (b : Int)) (w' := w9) (by simp [execOp, x8, go_sem]) ⟨_, rfl, hb9, ?_⟩
      exact ⟨by simpa using F0, by simpa using F1, by simpa using F2, by simpa using F3, by simpa using F4, by simpa using F5, by simpa using F6, by simp, by simpa using F8, by simpa using F9, by simpa using F10, by simpa using F11, by simpa using F12, by simpa using F13, by simpa using F14, by simpa using F15, by simpa using F16, by simpa using F17, by simpa using F18⟩
    · have d6 := hdep ⟨6, .data⟩ (by simp) rfl
      have e6 := val_at (F6 d6)
      have d7 := hdep ⟨7, .data⟩ (by simp) rfl
      have e7 := val_at (F7 d7)
      refine wp_value (.pointer (some ⟨b0, off + b, none⟩)) (w' := w9) (by simp [execOp, e6, e7, go_sem, hbl]) ⟨_, rfl, hb9, ?_⟩
      exact ⟨by simpa using F0, by simpa using F1, by simpa using F2, by simpa using F3, by simpa using F4, by simpa using F5, by simpa using F6, by simpa using F7, by simp, by simpa using F9, by simpa using F10, by simpa using F11, by simpa using F12, by simpa using F13, by simpa using F14, by simpa using F15, by simpa using F16, by simpa using F17, by simpa using F18⟩
    · have d8 := hdep ⟨8, .data⟩ (by simp) rfl
      have e8 := val_at (F8 d8)
      refine wp_value (.int .i64 hb) (w' := w9) (by simp [execOp, e8, go_sem, hcb9]) ⟨_, rfl, hb9, ?_⟩
      exact ⟨by simpa using F0, by simpa using F1, by simpa using F2, by simpa using F3, by simpa using F4, by simpa using F5, by simpa using F6, by simpa using F7, by simpa using F8, by simp, by simpa using F10, by simpa using F11, by simpa using F12, by simpa using F13, by simpa using F14, by simpa using F15, by simpa using F16, by simpa using F17, by simpa using F18⟩
    · have d4 := hdep ⟨4, .data⟩ (by simp) rfl
      have e4 := val_at (F4 d4)
      have d9 := hdep ⟨9, .data⟩ (by simp) rfl
      have e9 := val_at (F9 d9)
      refine wp_value (.int .i64 (ha + hb)) (w' := w9) (by simp [execOp, e4, e9, go_sem, hwr]) ⟨_, rfl, hb9, ?_⟩
      exact ⟨by simpa using F0, by simpa using F1, by simpa using F2, by simpa using F3, by simpa using F4, by simpa using F5, by simpa using F6, by simpa using F7, by simpa using F8, by simpa using F9, by simp, by simpa using F11, by simpa using F12, by simpa using F13, by simpa using F14, by simpa using F15, by simpa using F16, by simpa using F17, by simpa using F18⟩
    · have d10 := hdep ⟨10, .data⟩ (by simp) rfl
      have e10 := val_at (F10 d10)
      have hg : Below w9.heap.size w9 (w9.alloc (.cells #[.int .i64 (ha + hb)] 2)) := bl_alloc (bl_refl _) _
      refine wp_value (.slice (some ⟨w9.heap.size, 0, none⟩) 1 1) (w' := w9.alloc (.cells #[.int .i64 (ha + hb)] 2)) (by simp [execOp, e10, go_sem]) ⟨_, rfl, bl_trans hb9 hg, ?_⟩
      have hn : RowAt w4.heap.size (w9.alloc (.cells #[.int .i64 (ha + hb)] 2)) (.slice (some ⟨w9.heap.size, 0, none⟩) 1 1) 2 #[.int .i64 (ha + hb)] := RowAt.new (by have := hb9.size; omega)
      exact ⟨by simpa using F0, by simpa using F1, by simpa using F2, by simpa using F3, by simpa using F4, by simpa using F5, by simpa using F6, by simpa using F7, by simpa using F8, by simpa using F9, by simpa using F10, by simpa using hn, by simpa using F12, by simpa using F13, by simpa using fun h => absurd (F17 h) (by rw [hsi]; decide), by have hn : seen 16 = false := by { cases hq : seen 16 with | false => rfl | true => exact absurd (F18 hq) (by rw [hsi]; decide) }; simpa [hn] using fun h => by have q := (F15 h).mono hg; simpa [hn] using q, by simpa using F16, by simp, by simp⟩
    · have x3 := val_at (hv 3 (by simp))
      simp [valsOf] at x3
      refine wp_value (.pointer (some ⟨w.heap.size, 2, none⟩)) (w' := w9) (by simp [execOp, x3, go_sem]) ⟨_, rfl, hb9, ?_⟩
      exact ⟨by simpa using F0, by simpa using F1, by simpa using F2, by simpa using F3, by simpa using F4, by simpa using F5, by simpa using F6, by simpa using F7, by simpa using F8, by simpa using F9, by simpa using F10, by simpa using F11, by simp, by simpa using F13, by simpa using F14, by simpa using F15, by simpa using F16, by simpa using F17, by simpa using F18⟩
    · have d12 := hdep ⟨12, .data⟩ (by simp) rfl
      have e12 := val_at (F12 d12)
      refine wp_value (.int .i64 prize) (w' := w9) (by simp [execOp, e12, go_sem, hp9]) ⟨_, rfl, hb9, ?_⟩
      exact ⟨by simpa using F0, by simpa using F1, by simpa using F2, by simpa using F3, by simpa using F4, by simpa using F5, by simpa using F6, by simpa using F7, by simpa using F8, by simpa using F9, by simpa using F10, by simpa using F11, by simpa using F12, by simp, by simpa using F14, by simpa using F15, by simpa using F16, by simpa using F17, by simpa using F18⟩
    · have d11 := hdep ⟨11, .data⟩ (by simp) rfl
      obtain ⟨g11, r11, _, _⟩ := F11 d11
      have e11 := val_at r11
      have d13 := hdep ⟨13, .data⟩ (by simp) rfl
      have e13 := val_at (F13 d13)
      refine wp_value (.agg #[valsOf a' 70, .int .i64 100, .int .i64 prize]) (w' := w9) (by simp [execOp, e11, r11, e13, go_sem]) ⟨_, rfl, hb9, ?_⟩
      exact ⟨by simpa using F0, by simpa using F1, by simpa using F2, by simpa using F3, by simpa using F4, by simpa using F5, by simpa using F6, by simpa using F7, by simpa using F8, by simpa using F9, by simpa using F10, by simpa using F11, by simpa using F12, by simpa using F13, by simp, by simpa using F15, by simpa using F16, by simpa using d11, by simpa using F18⟩
    · have hg : Below w9.heap.size w9 (w9.alloc (.cells #[.slice none 0 0, .int .i64 0, .int .i64 0] 24)) := bl_alloc (bl_refl _) _
      have hs : seen 16 = false := by
        cases h : seen 16 with
        | false => rfl
        | true => have := F16 h; rw [this] at hsi; cases hsi
      refine wp_value (.pointer (some ⟨w9.heap.size, 0, none⟩)) (w' := w9.alloc (.cells #[.slice none 0 0, .int .i64 0, .int .i64 0] 24)) (by simp [execOp, go_sem]) ⟨_, rfl, bl_trans hb9 hg, ?_⟩
      exact ⟨by simpa using F0, by simpa using F1, by simpa using F2, by simpa using F3, by simpa using F4, by simpa using F5, by simpa using F6, by simpa using F7, by simpa using F8, by simpa using F9, by simpa using F10, by simpa using fun h => (F11 h).mono hg, by simpa using F12, by simpa using F13, by simpa using F14, by simpa [hs] using BoxAt.new (by have := hb9.size; omega), by simp, by simpa using F17, by simpa using F18⟩
    · have d15 := hdep ⟨15, .data⟩ (by simp) rfl
      have d14 := hdep ⟨14, .data⟩ (by simp) rfl
      have e14 := val_at (F14 d14)
      have d11 := F17 d14
      obtain ⟨g11, r11, _, _⟩ := F11 d11
      have e11 := val_at r11
      have e1 := F15 d15
      rw [hsi] at e1
      simp only [Bool.false_eq_true, if_false] at e1
      obtain ⟨B, hB, hB2, hB3⟩ := e1
      have ep := val_at hB
      have c0 := cell_of_heap (i := 0) hB3
      have c1 := cell_of_heap (i := 1) hB3
      have c2 := cell_of_heap (i := 2) hB3
      have f0 := fun i => frozen_of_heap (i := i) hB3
      have hBl := (Array.getElem?_eq_some_iff.1 hB3).1
      have hst := BoxAt.put3 hB hB2 hB3 (valsOf a' 70) (.int .i64 100) (.int .i64 prize)
      refine wp_effect (w' := (((w9.setCell ⟨B, 0, none⟩ (valsOf a' 70)).setCell ⟨B, 1, none⟩ (.int .i64 100)).setCell ⟨B, 2, none⟩ (.int .i64 prize))) (by simp [execOp, e14, r11, ep, go_sem, c0, c1, c2, f0]) ⟨_, rfl, (bl_set (bl_set (bl_set hb9 _ hB2) _ hB2) _ hB2), ?_⟩
      exact ⟨by simpa using F0, by simpa using F1, by simpa using F2, by simpa using F3, by simpa using F4, by simpa using F5, by simpa using F6, by simpa using F7, by simpa using F8, by simpa using F9, by simpa using F10, by simpa using fun h => (F11 h).past hB3 (by decide) hst.2.2, by simpa using F12, by simpa using F13, by simpa using F14, by simpa using fun _ => hst.1, by simpa using d15, by simpa using F17, by simpa using d11⟩
  intro u w5 hb5 seen hall ⟨F0, F1, F2, F3, F4, F5, F6, F7, F8, F9, F10, F11, F12, F13, F14, F15, F16, F17, F18⟩
  replace F0 := F0 (hall 0 (by decide))
  replace F1 := F1 (hall 1 (by decide))
  replace F2 := F2 (hall 2 (by decide))
  replace F3 := F3 (hall 3 (by decide))
  replace F4 := F4 (hall 4 (by decide))
  replace F5 := F5 (hall 5 (by decide))
  replace F6 := F6 (hall 6 (by decide))
  replace F7 := F7 (hall 7 (by decide))
  replace F8 := F8 (hall 8 (by decide))
  replace F9 := F9 (hall 9 (by decide))
  replace F10 := F10 (hall 10 (by decide))
  replace F11 := F11 (hall 11 (by decide))
  replace F12 := F12 (hall 12 (by decide))
  replace F13 := F13 (hall 13 (by decide))
  replace F14 := F14 (hall 14 (by decide))
  replace F15 := F15 (hall 15 (by decide))
  replace F16 := F16 (hall 16 (by decide))
  obtain ⟨g, e70, hg, kg⟩ := F11
  rw [if_pos (hall 16 (by decide))] at F15
  obtain ⟨X, e9, hX, kX⟩ := F15
  rw [e70] at F14 kX
  simp only [setAll, F0, F1, F2, F3, F4, F5, F6, F7, F8, F9, F10, F12, F13, F14, e70, e9]
  have hlw4 : w.heap.size < w4.heap.size := (Array.getElem?_eq_some_iff.1 K4.out).1
  have hlX : w.heap.size < X := by omega
  have hown0 : w5.ownsRow w4.heap.size 2 1 (.slice (some ⟨g, 0, none⟩) 1 1) 1 [.int .i64 (ha + hb)] := RowAt.own ⟨g, rfl, hg, kg⟩ (show 1 ≤ maxLen by unfold maxLen; decide)
  have D0 : JInv w w5 w4.heap.size X #[.slice (some ⟨b0, off, none⟩) had.length c, .int .i64 100, .int .i64 prize] (.slice (some ⟨g, 0, none⟩) 1 1) (.int .i64 100) (.int .i64 prize) (1 + keepN (butB a b) 0) ((joinL had a b 0).map (Value.int .i64)) := by
    refine ⟨heap_mono K4.out hb5, kX, ?_, bl_trans hB4 hb5⟩
    have e : (joinL had a b 0).map (Value.int .i64) = [.int .i64 (ha + hb)] := by
      show [Value.int .i64 (had.getD a 0 + had.getD b 0)] = _
      rw [HG.out.1, HG.out.2]
    rw [e]
    exact hown0
  clear F0 F1 F2 F3 F4 F5 F6 F7 F8 F9 F10 F12 F13 F14 F16 F17 F18 e70 e9 hall seen kX kg hown0 K4 HQ hb5
  go_wp2
  obtain ⟨i0, hi0, hz0, hz1, hz2⟩ := info_parts info2'
  go_loopw [10] (fun q wr => ∃ (k : Nat) (v : Value), k ≤ had.length ∧ q = .int .i64 k ∧ JInv w wr w4.heap.size X #[.slice (some ⟨b0, off, none⟩) had.length c, .int .i64 100, .int .i64 prize] v (.int .i64 100) (.int .i64 prize) (1 + keepN (butB a b) k) ((joinL had a b k).map (Value.int .i64))) (fun q _ => had.length - (intOf q).toNat)
  case atStart => exact ⟨0, _, Nat.zero_le _, rfl, D0⟩
  case round =>
    obtain ⟨k, v, hk, rfl, D⟩ := hrel
    have hr := fun i => cell_of_heap (i := i) D.pool
    have hrl : w.heap.size < wr.heap.size := (Array.getElem?_eq_some_iff.1 D.pool).1
    have hx := fun i => cell_of_heap (i := i) D.box
    have hxl : X < wr.heap.size := (Array.getElem?_eq_some_iff.1 D.box).1
    by_cases hlt : k < had.length
    · by_cases hbt : butB a b k = true
      · obtain ⟨hka, hkb⟩ := butB_true.1 hbt
        have da : ((k : Int) != (a : Int)) = true := by simp; omega
        have db : ((k : Int) != (b : Int)) = true := by simp; omega
        obtain ⟨y, hy⟩ := get_at hlt
        have hcy := cell_mono (HC.out k y hy) D.old
        have hbl2 : b0 < wr.heap.size := Nat.lt_of_lt_of_le hb0 D.old.size
        have hst := hid (show (joinL had a b (k + 1)).map (Value.int .i64) = (joinL had a b k).map (Value.int .i64) ++ [.int .i64 y] by
          simp only [joinL, keepL_succ, if_pos hbt, List.getD, hy, Option.getD_some, List.map_cons, List.map_append, List.map_nil, List.cons_append])
        have hnn := hid (show 1 + keepN (butB a b) (k + 1) = 1 + keepN (butB a b) k + 1 by rw [keepN_succ, if_pos hbt]; omega)
        have hnl := keepN_le (butB a b) k
        have hown := (own_mono D.own (bl_drew (bl_refl wr))).alloc (.cells #[.int .i64 y] 2)
        obtain ⟨m, hm⟩ : ∃ m, 1 + keepN (butB a b) k = m := ⟨_, rfl⟩
        have hm13 : m ≤ 13 := by omega
        rw [hm] at hown hnn
        have HD2 := hid (hm ▸ D)
        clear hy D hka hkb hbt hnl hm
        go_wp2
        go_region_law (refine step_append_own rfl _ _ 22 rfl w4.heap.size 2 i0 (.int .i64 0) 1 8 Try.underlying22 hi0 hz0 hz1 hz2 rfl (by decide) v m _ rfl hown ⟨wr.heap.size, 0, none⟩ 1 1 [.int .i64 y] rfl rfl (cell_one_new wr.drew _ _) (fun x hx => by simp at hx; subst hx; rfl) (by unfold maxLen; omega) (by omega) (by simp; omega) ?_; intro v' w6 hown' hgrow5 hnil5; obtain ⟨A9, c9, rfl⟩ := own_slice hown'; have hk9 := keep_other (heap_mono HD2.out.box (bl_alloc (bl_drew (bl_refl wr)) _)) hown (by decide) hgrow5; have hx9 := fun i => cell_of_heap (i := i) hk9; have hz9 := fun i => frozen_of_heap (i := i) hk9)
        all_goals
          have D5 := (HD2.out.mono (bl_alloc (bl_drew (bl_refl wr)) (.cells #[.int .i64 y] 2))).grow hlw4 hlX hgrow5 hown'
          rw [← hst.out] at D5
          clear hown hown' hgrow5 hk9 hx9 hz9 hnil5 hr hx hcy
          obtain ⟨w7, hw7⟩ : ∃ w7, w6.setCell ⟨X, 0, none⟩ (.slice A9 (m + 1) c9) = w7 := ⟨_, rfl⟩
          rw [hw7] at D5 ⊢
          rw [← hnn.out] at D5
          clear hw7
          go_wp2
          go_roundw
          case rel => exact ⟨k + 1, _, by omega, by go_num, D5⟩
          case measure => simp [intOf]; omega
      · have hst := hid (show (joinL had a b (k + 1)).map (Value.int .i64) = (joinL had a b k).map (Value.int .i64) by
          simp only [joinL, keepL_succ, if_neg hbt])
        have hnn := hid (show 1 + keepN (butB a b) (k + 1) = 1 + keepN (butB a b) k by rw [keepN_succ, if_neg hbt])
        have D5 := D
        rw [← hst.out, ← hnn.out] at D5
        clear D
        by_cases hka : k = a
        · have da : ((k : Int) != (a : Int)) = false := by simp [hka]
          clear hbt hka
          go_wp2
          go_roundw
          case rel => exact ⟨k + 1, _, by omega, by go_num, D5⟩
          case measure => simp [intOf]; omega
        · have da : ((k : Int) != (a : Int)) = true := by simp; omega
          have db : ((k : Int) != (b : Int)) = false := by
            by_cases hkb : k = b
            · simp [hkb]
            · exact absurd (butB_true.2 ⟨hka, hkb⟩) hbt
          clear hbt hka
          go_wp2
          go_roundw
          case rel => exact ⟨k + 1, _, by omega, by go_num, D5⟩
          case measure => simp [intOf]; omega
    · obtain rfl : k = had.length := by omega
      have hjl : (joinL had a b had.length).length = 1 + keepN (butB a b) had.length := by simp [joinL, keep_len]; omega
      have hIx : Ints wr v (joinL had a b had.length) := ints_own hjl D.own
      obtain ⟨A9, c9, rfl⟩ := own_slice D.own
      have HP : Hid (∀ W, Below wr.heap.size wr W → Ints W (.slice (some ⟨b0, off, none⟩) had.length c) had ∧ Ints W (.slice A9 (1 + keepN (butB a b) had.length) c9) (joinL had a b had.length) ∧ (∀ i, W.cell? ⟨w.heap.size, i, none⟩ = #[Value.slice (some ⟨b0, off, none⟩) had.length c, .int .i64 100, .int .i64 prize][i]?) ∧ (∀ i, W.cell? ⟨X, i, none⟩ = #[Value.slice A9 (1 + keepN (butB a b) had.length) c9, .int .i64 100, .int .i64 prize][i]?) ∧ w.heap.size < W.heap.size ∧ X < W.heap.size) := by
        have D' := D
        exact fun W hW => ⟨hs.mono (bl_trans D'.old hW), hIx.mono hW, fun i => cell_of_heap (heap_mono D'.pool hW), fun i => cell_of_heap (heap_mono D'.box hW), (Array.getElem?_eq_some_iff.1 (heap_mono D'.pool hW)).1, (Array.getElem?_eq_some_iff.1 (heap_mono D'.box hW)).1⟩
      have HB := hid D.old
      have HJL := hid hjl
      have hjl12 : (joinL had a b had.length).length ≤ 1000 := by have := keepN_le (butB a b) had.length; omega
      have HRI : Hid (∀ W, Below wr.heap.size wr W → Calls Try.prog 40 #[.agg #[.slice (some ⟨b0, off, none⟩) had.length c, .int .i64 100, .int .i64 prize]] W fun e w' => (∃ v, e = .returned (.tuple #[v, .bool true]) ∧ Ints w' v (sharesE had 100 prize)) ∧ Below W.heap.size W w') := fun W hW => right_any had 100 prize _ W HVV.out (HP.out W hW).1
      have HSP : Hid (∀ W, Below wr.heap.size wr W → Calls Try.prog 35 #[.agg #[.slice A9 (1 + keepN (butB a b) had.length) c9, .int .i64 100, .int .i64 prize], .int .i64 0] W fun e w' => e = .returned (.tuple #[.agg #[.int .i64 (spanLo (joinL had a b had.length) 100 prize 0), .int .i64 (spanHi (joinL had a b had.length) 100 prize 0)], .int .i64 0]) ∧ Below W.heap.size W w') := fun W hW => by
        have := span_any (joinL had a b had.length) 100 prize 0 _ W hjl12 (HP.out W hW).2.1
        have ho : ownedE (joinL had a b had.length) 100 prize 0 = 0 := ownedE_ok.2 ⟨H3.out, by omega, by have := H3.out.l1; omega⟩
        rw [ho, spanR, if_pos ho] at this
        exact this
      generalize spanLo (joinL had a b had.length) 100 prize 0 = sl at *
      generalize spanHi (joinL had a b had.length) 100 prize 0 = sh at *
      generalize sharesE had 100 prize = sa at *
      generalize 1 + keepN (butB a b) had.length = mm at *
      clear D hr hx hjl
      obtain ⟨p0, px0, q0, r0, l0, m0⟩ := HP.out wr (bl_refl _)
      go_wp2_with fail
      refine (HRI.out wr (bl_refl _)).mono ?_
      rintro e w7 ⟨⟨v7, rfl, hI7⟩, hb7⟩
      clear p0 px0 q0 r0 l0 m0
      obtain ⟨p7, px7, q7, r7, l7, m7⟩ := HP.out w7 hb7
      go_wp2_with fail
      refine (HSP.out w7 hb7).mono ?_
      rintro e w8 ⟨rfl, hb8⟩
      have hI8 := hI7.mono hb8
      have k13 := World.alloc_heap_new w8 (.cells #[.int .i64 sl, .int .i64 sh] 47)
      have hb9 := bl_alloc (bl_refl w8) (.cells #[.int .i64 sl, .int .i64 sh] 47)
      clear p7 px7 q7 r7 l7 m7 hI7
      go_upto_region 16 with (fail)
      obtain ⟨w9, hw9⟩ : ∃ w9, w8.alloc (.cells #[.int .i64 sl, .int .i64 sh] 47) = w9 := ⟨_, rfl⟩
      rw [hw9] at k13 hb9 ⊢
      have hc13 := fun i => cell_of_heap (i := i) k13
      have hl13 := (Array.getElem?_eq_some_iff.1 k13).1
      have hB9 := bl_trans HB.out (bl_trans hb7 (bl_trans hb8 hb9))
      have hI9 := hI8.mono hb9
      clear hw9 k13 hI8
      obtain ⟨b7, o7, c7, rfl, _, hbl7, hcell7⟩ := hI9.some (by rw [HSL.out]; omega)
      obtain ⟨sx, xs7⟩ := get_at (l := sa) (k := a) (by rw [HSL.out]; exact hal)
      obtain ⟨sy, ys7⟩ := get_at (l := sa) (k := b) (by rw [HSL.out]; exact hbl)
      have cx := hcell7 a sx xs7
      have cy := hcell7 b sy ys7
      have bx := HSB.out sx (List.mem_of_getElem? xs7)
      have by7 := HSB.out sy (List.mem_of_getElem? ys7)
      have hle := HM.out
      simp only [List.getD, xs7, ys7, Option.getD_some] at hle
      have dle : decide (sx + sy ≤ sh) = true := by simpa using hle
      have hws : IntKind.i64.wrap (sx + sy) = sx + sy := IntWalk.i64_in _ (by omega)
      rw [HSL.out]
      clear xs7 ys7 hcell7 hI9 hle HM
      refine wp_region_below (by kernel_rfl) (by kernel_rfl) ?_
      repeat (first | go_big_quiet_step (first | (go_at_call 18; exact Calls.regrown_of (works_any _))) | quiet_step (first | (go_at_call 18; exact Calls.regrown_of (works_any _))))
      refine wpQuiet_nil ?_
      intro w10 hb10
      go_wp2
      go_ret
      exact ⟨rfl, bl_trans hB9 hb10⟩

theorem shareJoined_any (had : List Int) (part prize : Int) (one two : Int) (s : Value) (w : World) (hs : Ints w s had) (h1 : 0 ≤ one ∧ one < 256) (h2 : 0 ≤ two ∧ two < 256) :
    Calls Try.prog 12 #[.agg #[s, .int .i64 part, .int .i64 prize], .int .u8 one, .int .u8 two] w fun e w' => e = .returned (.bool true) ∧ Below w.heap.size w w' := by
  by_cases h0 : checkPool had part prize = 0
  · by_cases hl : 2 ≤ had.length
    · exact shareJoined_in had part prize one two s w hs h1 h2 h0 hl
    · exact shareJoined_out had part prize one two s w hs (.inr (by omega))
  · exact shareJoined_out had part prize one two s w hs (.inl h0)

end Go.Proofs.Ytfchcikdcnloaaa
