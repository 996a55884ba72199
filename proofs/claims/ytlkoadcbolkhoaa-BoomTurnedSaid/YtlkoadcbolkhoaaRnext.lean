/- The reference: the neighbour of a cell; the direction to a neighbour: the walks. -/
import Derived.Test.YtlkoadcbolkhoaaRhas
set_option linter.all false
namespace Go.Proofs.Ytlkoadcbolkhoaa
open Go Go.RowKit Go.Proofs
attribute [local go_sem] cell_grow frozen_grow

set_option maxRecDepth 100000 in
set_option maxHeartbeats 8000000 in
theorem rnext_any {wd hg : Int} {sw sk : Value} (c d : Int) (w : World) (hV : Board wd hg) (hc : inP wd hg c) (hd : 0 ≤ d ∧ d ≤ 3) :
    Calls Try.prog 92 #[.agg #[.int .i64 wd, .int .i64 hg, sw, sk], .int .i64 c, .int .i64 d] w fun e w' => e = .returned (.int .i64 (nbr wd hg c d)) ∧ Below w.heap.size w w' := by
  obtain ⟨hB1, hB2⟩ := hV
  have hb0 := bl_alloc (bl_refl w) (.cells #[.int .i64 wd, .int .i64 hg, sw, sk] 24)
  have k0 := World.alloc_heap_new w (.cells #[.int .i64 wd, .int .i64 hg, sw, sk] 24)
  have HB := hid hb0
  have HK := hid k0
  have hm1 := Int.mul_le_mul hB1.2 hB2.2 (by omega) (by omega)
  obtain ⟨x, y, hxy, hx0, hx1, hy0, hy1, hxe, hye⟩ := split_cell hB1.1 hc
  have t1 : Int.tmod c wd = x := by rw [Int.tmod_eq_emod_of_nonneg hc.1, hxe]
  have t2 : Int.tdiv c wd = y := by rw [Int.tdiv_eq_ediv_of_nonneg hc.1, hye]
  have n0 : (wd == 0) = false := beq_eq_false_iff_ne.2 (by omega)
  have n1 : ¬ wd = 0 := by omega
  have v1 : IntKind.i64.wrap x = x := IntWalk.i64_in _ (by omega)
  have v2 : IntKind.i64.wrap y = y := IntWalk.i64_in _ (by omega)
  have v3 : IntKind.i64.wrap (x + 1) = x + 1 := IntWalk.i64_in _ (by omega)
  have v4 : IntKind.i64.wrap (y + 1) = y + 1 := IntWalk.i64_in _ (by omega)
  have v5 : IntKind.i64.wrap (x - 1) = x - 1 := IntWalk.i64_in _ (by omega)
  have v6 : IntKind.i64.wrap (y - 1) = y - 1 := IntWalk.i64_in _ (by omega)
  obtain ⟨R, hR⟩ : ∃ R, nbr wd hg c d = R := ⟨_, rfl⟩
  have HR := hid (show (if d = 0 then (if x + 1 < wd then y * wd + (x + 1) else -1) else if d = 1 then (if y + 1 < hg then (y + 1) * wd + x else -1) else if d = 2 then (if 0 < x then y * wd + (x - 1) else -1) else (if 0 < y then (y - 1) * wd + x else -1)) = R by rw [← hR, ← nbr_at ⟨hx0, hx1⟩, ← hxy])
  have HXY := hid hxy
  rw [hR]
  clear hR hxy hxe hye hb0 k0 hc
  go_enter Try.func92, Try.ntmps92
  go_upto_region 1 with (fail)
  obtain ⟨w0, hw0⟩ : ∃ w0, w.alloc (.cells #[.int .i64 wd, .int .i64 hg, sw, sk] 24) = w0 := ⟨_, rfl⟩
  obtain ⟨X, hX⟩ : ∃ X, w.heap.size = X := ⟨_, rfl⟩
  have HX := hid hX
  rw [hX] at HK ⊢
  rw [hw0] at HB HK ⊢
  clear hw0 hX
  have q0 : w0.cell? ⟨X, 0, none⟩ = some (.int .i64 wd) := cell_of_heap HK.out
  have ql := (Array.getElem?_eq_some_iff.1 HK.out).1
  refine wp_region_below (by kernel_rfl) (by kernel_rfl) ?_
  repeat (first | go_big_quiet_step (fail) | quiet_step (fail))
  refine wpQuiet_nil ?_
  intro w2 hb2
  have HB2 := hid (bl_trans HB.out hb2)
  have HK2 := hid (heap_mono HK.out hb2)
  clear q0 ql hb2 HB HK t1 t2 n0 n1 v1 v2
  have q0 : w2.cell? ⟨X, 0, none⟩ = some (.int .i64 wd) := cell_of_heap HK2.out
  have q1 : w2.cell? ⟨X, 1, none⟩ = some (.int .i64 hg) := cell_of_heap HK2.out
  have ql := (Array.getElem?_eq_some_iff.1 HK2.out).1
  rcases dir_cases hd with rfl | rfl | rfl | rfl
  · by_cases hq : x + 1 < wd
    · have HE := hid (show y * wd + (x + 1) = R by have := HR.out; rw [if_pos rfl, if_pos hq] at this; exact this)
      have f0 : decide (x + 1 < 0) = false := decide_eq_false (by omega)
      have f1 : decide (wd ≤ x + 1) = false := decide_eq_false (by omega)
      have f2 : decide (y < 0) = false := decide_eq_false (by omega)
      have f3 : decide (hg ≤ y) = false := decide_eq_false (by omega)
      have hmy := Int.mul_le_mul (show y ≤ 8 by omega) hB1.2 (by omega) (by omega)
      have hm0 : 0 ≤ (y) * wd := Int.mul_nonneg (by omega) (by omega)
      have v8 : IntKind.i64.wrap ((y) * wd) = (y) * wd := IntWalk.i64_in _ (by omega)
      have v9 : IntKind.i64.wrap ((y) * wd + (x + 1)) = (y) * wd + (x + 1) := IntWalk.i64_in _ (by omega)
      clear hmy hm0
      clear hq
      go_wp2
      go_ret
      exact ⟨by rw [← HE.out]; rfl, HB2.out⟩
    · have HE := hid (show -1 = R by have := HR.out; rw [if_pos rfl, if_neg hq] at this; exact this)
      have f0 : decide (x + 1 < 0) = false := decide_eq_false (by omega)
      have f1 : decide (wd ≤ x + 1) = true := decide_eq_true (by omega)
      clear hq
      go_wp2
      go_ret
      exact ⟨by rw [← HE.out]; rfl, HB2.out⟩
  · by_cases hq : y + 1 < hg
    · have HE := hid (show (y + 1) * wd + (x) = R by have := HR.out; rw [if_neg (by decide), if_pos rfl, if_pos hq] at this; exact this)
      have f0 : decide (x < 0) = false := decide_eq_false (by omega)
      have f1 : decide (wd ≤ x) = false := decide_eq_false (by omega)
      have f2 : decide (y + 1 < 0) = false := decide_eq_false (by omega)
      have f3 : decide (hg ≤ y + 1) = false := decide_eq_false (by omega)
      have hmy := Int.mul_le_mul (show y + 1 ≤ 8 by omega) hB1.2 (by omega) (by omega)
      have hm0 : 0 ≤ (y + 1) * wd := Int.mul_nonneg (by omega) (by omega)
      have v8 : IntKind.i64.wrap ((y + 1) * wd) = (y + 1) * wd := IntWalk.i64_in _ (by omega)
      have v9 : IntKind.i64.wrap ((y + 1) * wd + (x)) = (y + 1) * wd + (x) := IntWalk.i64_in _ (by omega)
      clear hmy hm0
      clear hq
      go_wp2
      go_ret
      exact ⟨by rw [← HE.out]; rfl, HB2.out⟩
    · have HE := hid (show -1 = R by have := HR.out; rw [if_neg (by decide), if_pos rfl, if_neg hq] at this; exact this)
      have f0 : decide (x < 0) = false := decide_eq_false (by omega)
      have f1 : decide (wd ≤ x) = false := decide_eq_false (by omega)
      have f2 : decide (y + 1 < 0) = false := decide_eq_false (by omega)
      have f3 : decide (hg ≤ y + 1) = true := decide_eq_true (by omega)
      clear hq
      go_wp2
      go_ret
      exact ⟨by rw [← HE.out]; rfl, HB2.out⟩
  · by_cases hq : 0 < x
    · have HE := hid (show y * wd + (x - 1) = R by have := HR.out; rw [if_neg (by decide), if_neg (by decide), if_pos rfl, if_pos hq] at this; exact this)
      have f0 : decide (x - 1 < 0) = false := decide_eq_false (by omega)
      have f1 : decide (wd ≤ x - 1) = false := decide_eq_false (by omega)
      have f2 : decide (y < 0) = false := decide_eq_false (by omega)
      have f3 : decide (hg ≤ y) = false := decide_eq_false (by omega)
      have hmy := Int.mul_le_mul (show y ≤ 8 by omega) hB1.2 (by omega) (by omega)
      have hm0 : 0 ≤ (y) * wd := Int.mul_nonneg (by omega) (by omega)
      have v8 : IntKind.i64.wrap ((y) * wd) = (y) * wd := IntWalk.i64_in _ (by omega)
      have v9 : IntKind.i64.wrap ((y) * wd + (x - 1)) = (y) * wd + (x - 1) := IntWalk.i64_in _ (by omega)
      clear hmy hm0
      clear hq
      go_wp2
      go_ret
      exact ⟨by rw [← HE.out]; rfl, HB2.out⟩
    · have HE := hid (show -1 = R by have := HR.out; rw [if_neg (by decide), if_neg (by decide), if_pos rfl, if_neg hq] at this; exact this)
      have f0 : decide (x - 1 < 0) = true := decide_eq_true (by omega)
      clear hq
      go_wp2
      go_ret
      exact ⟨by rw [← HE.out]; rfl, HB2.out⟩
  · by_cases hq : 0 < y
    · have HE := hid (show (y - 1) * wd + (x) = R by have := HR.out; rw [if_neg (by decide), if_neg (by decide), if_neg (by decide), if_pos hq] at this; exact this)
      have f0 : decide (x < 0) = false := decide_eq_false (by omega)
      have f1 : decide (wd ≤ x) = false := decide_eq_false (by omega)
      have f2 : decide (y - 1 < 0) = false := decide_eq_false (by omega)
      have f3 : decide (hg ≤ y - 1) = false := decide_eq_false (by omega)
      have hmy := Int.mul_le_mul (show y - 1 ≤ 8 by omega) hB1.2 (by omega) (by omega)
      have hm0 : 0 ≤ (y - 1) * wd := Int.mul_nonneg (by omega) (by omega)
      have v8 : IntKind.i64.wrap ((y - 1) * wd) = (y - 1) * wd := IntWalk.i64_in _ (by omega)
      have v9 : IntKind.i64.wrap ((y - 1) * wd + (x)) = (y - 1) * wd + (x) := IntWalk.i64_in _ (by omega)
      clear hmy hm0
      clear hq
      go_wp2
      go_ret
      exact ⟨by rw [← HE.out]; rfl, HB2.out⟩
    · have HE := hid (show -1 = R by have := HR.out; rw [if_neg (by decide), if_neg (by decide), if_neg (by decide), if_neg hq] at this; exact this)
      have f0 : decide (x < 0) = false := decide_eq_false (by omega)
      have f1 : decide (wd ≤ x) = false := decide_eq_false (by omega)
      have f2 : decide (y - 1 < 0) = true := decide_eq_true (by omega)
      clear hq
      go_wp2
      go_ret
      exact ⟨by rw [← HE.out]; rfl, HB2.out⟩

/-- The reference's direction from a cell to another one; -1: none. -/
def dirR (wd hg a b : Int) : Int := if nbr wd hg a 0 = b then 0 else if nbr wd hg a 1 = b then 1 else if nbr wd hg a 2 = b then 2 else if nbr wd hg a 3 = b then 3 else -1
theorem dirR_at {wd hg a b : Int} {k : Nat} (hk : k < 4) (h : ∀ j : Nat, j < k → nbr wd hg a (j : Int) ≠ b) (hm : nbr wd hg a (k : Int) = b) : dirR wd hg a b = (k : Int) := by
  have h0 := h 0; have h1 := h 1; have h2 := h 2
  obtain rfl | rfl | rfl | rfl : k = 0 ∨ k = 1 ∨ k = 2 ∨ k = 3 := by omega
  all_goals simp at h0 h1 h2 hm
  all_goals simp [dirR, *]
theorem dirR_none {wd hg a b : Int} (h : ∀ j : Nat, j < 4 → nbr wd hg a (j : Int) ≠ b) : dirR wd hg a b = -1 := by
  have h0 := h 0; have h1 := h 1; have h2 := h 2; have h3 := h 3
  simp at h0 h1 h2 h3
  simp [dirR, *]
theorem dirR_rng (wd hg a b : Int) : -1 ≤ dirR wd hg a b ∧ dirR wd hg a b ≤ 3 := by unfold dirR; repeat' split <;> omega
set_option maxRecDepth 100000 in
set_option maxHeartbeats 8000000 in
theorem rdir_any {wd hg : Int} {sw sk : Value} (a b : Int) (w : World) (hV : Board wd hg) (hc : inP wd hg a) :
    Calls Try.prog 104 #[.agg #[.int .i64 wd, .int .i64 hg, sw, sk], .int .i64 a, .int .i64 b] w fun e w' => e = .returned (.int .i64 (dirR wd hg a b)) ∧ Below w.heap.size w w' := by
  have hb0 := bl_alloc (bl_refl w) (.cells #[.int .i64 wd, .int .i64 hg, sw, sk] 24)
  have k0 := World.alloc_heap_new w (.cells #[.int .i64 wd, .int .i64 hg, sw, sk] 24)
  have HB := hid hb0
  have HK := hid k0
  have HV := hid hV
  have HC := hid hc
  clear hb0 k0 hV hc
  go_enter Try.func104, Try.ntmps104
  go_upto_region 2 with (fail)
  obtain ⟨w0, hw0⟩ : ∃ w0, w.alloc (.cells #[.int .i64 wd, .int .i64 hg, sw, sk] 24) = w0 := ⟨_, rfl⟩
  obtain ⟨X, hX⟩ : ∃ X, w.heap.size = X := ⟨_, rfl⟩
  have HX := hid hX
  rw [hX] at HK ⊢
  rw [hw0] at HB HK ⊢
  clear hw0 hX
  go_loopw [7] (fun i wr => ∃ k : Nat, k ≤ 4 ∧ i = .int .i64 (k : Int) ∧ (∀ j : Nat, j < k → nbr wd hg a (j : Int) ≠ b) ∧ Below w0.heap.size w0 wr) (fun i _ => 4 - (intOf i).toNat)
  case atStart => exact ⟨0, by omega, rfl, fun j h => by omega, bl_refl _⟩
  case round =>
    obtain ⟨k, hk, rfl, hn, hB⟩ := hrel
    have HN := hid hn
    have HBr := hid hB
    have HKr := hid (heap_mono HK.out hB)
    have q0 : wr.cell? ⟨X, 0, none⟩ = some (.int .i64 wd) := cell_of_heap HKr.out
    have q1 : wr.cell? ⟨X, 1, none⟩ = some (.int .i64 hg) := cell_of_heap HKr.out
    have q2 : wr.cell? ⟨X, 2, none⟩ = some sw := cell_of_heap HKr.out
    have q3 : wr.cell? ⟨X, 3, none⟩ = some sk := cell_of_heap HKr.out
    have ql := (Array.getElem?_eq_some_iff.1 HKr.out).1
    clear hn hB
    by_cases hlt : k < 4
    · have hkI : (k : Int) < 4 := by omega
      have hcall := rnext_any (sw := sw) (sk := sk) a (k : Int) wr HV.out HC.out (by omega)
      by_cases hm : nbr wd hg a (k : Int) = b
      · have t1 : (nbr wd hg a (k : Int) == b) = true := by simp [hm]
        have HD := hid (dirR_at hlt HN.out hm)
        clear hm
        go_wp2_with fail
        refine hcall.mono ?_
        rintro e w3 ⟨rfl, hb3⟩
        have HB3 := hid (bl_trans HB.out (bl_trans HBr.out hb3))
        clear hcall hb3 q0 q1 q2 q3 ql
        go_wp2
        go_ret
        exact ⟨by rw [HD.out]; rfl, HB3.out⟩
      · have t1 : (nbr wd hg a (k : Int) == b) = false := beq_eq_false_iff_ne.2 hm
        have HN2 := hid (show ∀ j : Nat, j < k + 1 → nbr wd hg a (j : Int) ≠ b from fun j hj => by
          by_cases e : j = k
          · rw [e]; exact hm
          · exact HN.out j (by omega))
        clear hm
        go_wp2_with fail
        refine hcall.mono ?_
        rintro e w3 ⟨rfl, hb3⟩
        have HB3 := hid (bl_trans HBr.out hb3)
        clear hcall hb3 q0 q1 q2 q3 ql
        go_wp2
        go_roundw
        case rel => exact ⟨k + 1, by omega, by go_num, HN2.out, HB3.out⟩
        case measure => simp [intOf]; omega
    · obtain rfl : k = 4 := by omega
      have HD := hid (dirR_none HN.out)
      have HB3 := hid (bl_trans HB.out HBr.out)
      go_wp2
      go_ret
      exact ⟨by rw [HD.out]; rfl, HB3.out⟩
end Go.Proofs.Ytlkoadcbolkhoaa

/- The reference: whether a way is one: the walk. -/
namespace Go.Proofs.Ytlkoadcbolkhoaa
open Go Go.RowKit Go.Proofs
attribute [local go_sem] cell_grow frozen_grow

theorem dirM_pos {wd hg a b d : Int} (hb : 0 ≤ b) (hd : 0 ≤ d) : dirM wd hg a b d = (nbr wd hg a d == b) := by
  unfold dirM
  rw [decide_eq_true hb, Bool.and_true, beq_eq_false_iff_ne.2 (show b ≠ -1 - d by omega), Bool.and_false, Bool.or_false]
theorem dirR_V {wd hg a b : Int} (hb : 0 ≤ b) : dirR wd hg a b = dirV wd hg a b := by
  unfold dirR dirV
  rw [dirM_pos hb (by omega), dirM_pos hb (by omega), dirM_pos hb (by omega), dirM_pos hb (by omega)]
  simp only [beq_iff_eq]
theorem dirM_neg {wd hg a d o : Int} (ho : 0 ≤ o) : dirM wd hg a (-1 - o) d = (decide (nbr wd hg a d < 0) && (o == d)) := by
  unfold dirM
  rw [decide_eq_false (show ¬ 0 ≤ -1 - o by omega), Bool.and_false, Bool.false_or]
  congr 1
  rw [Bool.eq_iff_iff, beq_iff_eq, beq_iff_eq]
  omega
theorem dirV_out {wd hg a o : Int} (ho : 0 ≤ o ∧ o ≤ 3) : decide (0 ≤ dirV wd hg a (-1 - o)) = decide (nbr wd hg a o < 0) := by
  unfold dirV
  rw [dirM_neg ho.1, dirM_neg ho.1, dirM_neg ho.1, dirM_neg ho.1]
  by_cases h : nbr wd hg a o < 0
  · rw [decide_eq_true h]
    rcases dir_cases ho with rfl | rfl | rfl | rfl <;> simp [h]
  · rw [decide_eq_false h]
    rcases dir_cases ho with rfl | rfl | rfl | rfl <;> simp [h]

set_option maxRecDepth 100000 in
set_option maxHeartbeats 8000000 in
theorem risWay_any {wd hg : Int} {sw sk : Value} {want keep : List Int} (a : Int) (l : List Int) (out : Int) (s : Value) (w : World) (hV : Valid wd hg want keep) (hlw : want.length ≤ 1000000) (hlk : keep.length ≤ 1000000) (hw : Ints w sw want) (hk : Ints w sk keep) (hs : Ints w s (a :: l)) (hl : l.length ≤ 1000000) (hin : ∀ c ∈ a :: l, inP wd hg c) (hout : -1 ≤ out ∧ out ≤ 3) :
    Calls Try.prog 82 #[.agg #[.int .i64 wd, .int .i64 hg, sw, sk], .agg #[s, .int .i64 out]] w fun e w' => e = .returned (.bool (isWayB wd hg want keep ⟨a :: l, out⟩)) ∧ Below w.heap.size w w' := by
  obtain ⟨b, off, c, rfl, hc1, hbl, hcells⟩ : ∃ b off c, s = .slice (some ⟨b, off, none⟩) (l.length + 1) c ∧ l.length + 1 ≤ c ∧ b < w.heap.size ∧ ∀ i x, (a :: l)[i]? = some x → w.cell? ⟨b, off + i, none⟩ = some (.int .i64 x) := by
    rcases hs with ⟨_, h⟩ | h
    · cases h
    · exact h
  have bA := bl_alloc (bl_refl w) (.cells #[.int .i64 wd, .int .i64 hg, sw, sk] 24)
  have kA := World.alloc_heap_new w (.cells #[.int .i64 wd, .int .i64 hg, sw, sk] 24)
  have bB := bl_alloc (bl_refl (w.alloc (.cells #[.int .i64 wd, .int .i64 hg, sw, sk] 24))) (.cells #[.slice (some ⟨b, off, none⟩) (l.length + 1) c, .int .i64 out] 81)
  have kB := World.alloc_heap_new (w.alloc (.cells #[.int .i64 wd, .int .i64 hg, sw, sk] 24)) (.cells #[.slice (some ⟨b, off, none⟩) (l.length + 1) c, .int .i64 out] 81)
  rw [World.size_alloc] at kB
  have HB := hid (bl_trans bA bB)
  have HK := hid (heap_mono kA bB)
  have HL := hid kB
  have HCL := hid (fun i x hx => cell_mono (hcells i x hx) HB.out)
  have HW := hid (hw.mono HB.out)
  have HKE := hid (hk.mono HB.out)
  have HIN := hid hin
  have HV := hid hV.B
  obtain ⟨q1, hq1⟩ : ∃ q, want.contains a = q := ⟨_, rfl⟩
  obtain ⟨R, hR⟩ : ∃ R, isWayB wd hg want keep ⟨a :: l, out⟩ = R := ⟨_, rfl⟩
  have HR := hid (show (q1 && pathB wd hg a l && endB wd hg keep (lastOf a l) out) = R by rw [← hR, ← hq1]; rfl)
  have HQ1 := hid hq1
  rw [hR]
  clear bA kA bB kB hw hk hs hin hR hq1 hcells
  go_enter Try.func82, Try.ntmps82
  go_upto_region 2 with (fail)
  obtain ⟨w0, hw0⟩ : ∃ w0, (w.alloc (.cells #[.int .i64 wd, .int .i64 hg, sw, sk] 24)).alloc (.cells #[.slice (some ⟨b, off, none⟩) (l.length + 1) c, .int .i64 out] 81) = w0 := ⟨_, rfl⟩
  obtain ⟨X, hX⟩ : ∃ X, w.heap.size = X := ⟨_, rfl⟩
  have HX := hid hX
  rw [hX] at HK HL hbl ⊢
  obtain ⟨Y, hY⟩ : ∃ Y, X + 1 = Y := ⟨_, rfl⟩
  rw [hY] at HL ⊢
  rw [hw0] at HB HK HL HCL HW HKE ⊢
  clear hw0 hX hY
  go_loopw [5] (fun p wr => ∃ (k : Nat) (q : Int), k ≤ l.length ∧ p = .int .i64 ((k : Int) + 1) ∧ (a :: l)[k]? = some q ∧ lastOf q (l.drop k) = lastOf a l ∧ pathB wd hg q (l.drop k) = pathB wd hg a l ∧ Below w0.heap.size w0 wr) (fun p _ => l.length + 1 - (intOf p).toNat)
  case atStart => exact ⟨0, a, Nat.zero_le _, rfl, rfl, rfl, rfl, bl_refl _⟩
  case round =>
    obtain ⟨k, q, hk, rfl, hq, hla, hpa, hB⟩ := hrel
    have HBr := hid hB
    have hKr := heap_mono HK.out hB
    have hLr := heap_mono HL.out hB
    have HKr := hid hKr
    have HLr := hid hLr
    have p0 : wr.cell? ⟨X, 0, none⟩ = some (.int .i64 wd) := cell_of_heap hKr
    have p1 : wr.cell? ⟨X, 1, none⟩ = some (.int .i64 hg) := cell_of_heap hKr
    have p2 : wr.cell? ⟨X, 2, none⟩ = some sw := cell_of_heap hKr
    have p3 : wr.cell? ⟨X, 3, none⟩ = some sk := cell_of_heap hKr
    have pl := (Array.getElem?_eq_some_iff.1 hKr).1
    have y0 : wr.cell? ⟨Y, 0, none⟩ = some (.slice (some ⟨b, off, none⟩) (l.length + 1) c) := cell_of_heap hLr
    have y1 : wr.cell? ⟨Y, 1, none⟩ = some (.int .i64 out) := cell_of_heap hLr
    have yl := (Array.getElem?_eq_some_iff.1 hLr).1
    have c0 := cell_mono (HCL.out k q hq) hB
    have wk : IntKind.i64.wrap ((k : Int) + 1 - 1) = (k : Int) := by rw [IntWalk.i64_in _ (by omega)]; omega
    have hqin := HIN.out q (List.mem_of_getElem? hq)
    have hbw : b < wr.heap.size := by have := pl; omega
    by_cases hlt : k < l.length
    · obtain ⟨y, hy⟩ := get_at hlt
      have hdr : l.drop k = y :: l.drop (k + 1) := List.drop_eq_getElem_cons hlt ▸ by rw [(List.getElem?_eq_some_iff.1 hy).2]
      rw [hdr] at hla hpa
      have hyc : (a :: l)[k + 1]? = some y := by simpa using hy
      have c1 := cell_mono (HCL.out (k + 1) y hyc) hB
      have hyin := HIN.out y (List.mem_of_getElem? hyc)
      have hkI : (k : Int) + 1 < (l.length : Int) + 1 := by omega
      obtain ⟨dv, hdv⟩ : ∃ dv, dirV wd hg q y = dv := ⟨_, rfl⟩
      have GD : Hid (∀ W, Below wr.heap.size wr W → Calls Try.prog 104 #[.agg #[.int .i64 wd, .int .i64 hg, sw, sk], .int .i64 q, .int .i64 y] W fun e w' => e = .returned (.int .i64 dv) ∧ Below W.heap.size W w') := fun W hW => by rw [← hdv, ← dirR_V hyin.1]; exact rdir_any q y W HV.out hqin
      have HLA := hid hla
      have HPA := hid (show (decide (0 ≤ dv) && pathB wd hg y (l.drop (k + 1))) = pathB wd hg a l by rw [← hpa, ← hdv]; rfl)
      have HYC := hid hyc
      clear hq hla hpa hB hKr hLr hy hdr hyc hqin hyin hdv
      go_upto_region 4 with (fail)
      by_cases hd : dv < 0
      · have t1 : decide (dv < 0) = true := decide_eq_true hd
        have HE := hid (show R = false by rw [← HR.out, ← HPA.out, decide_eq_false (show ¬ 0 ≤ dv by omega)]; simp)
        clear hd
        refine wp_region_below (by kernel_rfl) (by kernel_rfl) ?_
        repeat (first | go_big_quiet_step (first | (go_at_call 104; exact Calls.regrown_of (GD.out _ (below_regrown _ _ _)))) | quiet_step (first | (go_at_call 104; exact Calls.regrown_of (GD.out _ (below_regrown _ _ _)))))
        refine wpQuiet_nil ?_
        intro w3 hb3
        have HB3 := hid (bl_trans HBr.out hb3)
        clear p0 p1 p2 p3 pl y0 y1 yl c0 c1 wk hb3 GD
        have HB4 := hid (bl_trans HB.out HB3.out)
        go_wp2
        go_ret
        exact ⟨by rw [HE.out]; rfl, HB4.out⟩
      · have t1 : decide (dv < 0) = false := decide_eq_false hd
        have HP2 := hid (show pathB wd hg y (l.drop (k + 1)) = pathB wd hg a l by rw [← HPA.out, decide_eq_true (show 0 ≤ dv by omega)]; simp)
        clear hd
        refine wp_region_below (by kernel_rfl) (by kernel_rfl) ?_
        repeat (first | go_big_quiet_step (first | (go_at_call 104; exact Calls.regrown_of (GD.out _ (below_regrown _ _ _)))) | quiet_step (first | (go_at_call 104; exact Calls.regrown_of (GD.out _ (below_regrown _ _ _)))))
        refine wpQuiet_nil ?_
        intro w3 hb3
        have HB3 := hid (bl_trans HBr.out hb3)
        clear p0 p1 p2 p3 pl y0 y1 yl c0 c1 wk hb3 GD
        go_wp2
        go_roundw
        case rel => exact ⟨k + 1, y, by omega, by go_num, HYC.out, HLA.out, HP2.out, HB3.out⟩
        case measure => simp [intOf]; omega
    · obtain rfl : k = l.length := by omega
      rw [List.drop_length] at hla hpa
      have HLA := hid (show q = lastOf a l from hla)
      have HPA := hid (show true = pathB wd hg a l from hpa)
      have ca := cell_mono (HCL.out 0 a rfl) hB
      have HWr := hid (HW.out.mono hB)
      have HKEr := hid (HKE.out.mono hB)
      rw [Nat.add_zero] at ca
      have HBW := hid (bl_trans HB.out hB)
      have hwl : IntKind.i64.wrap ((l.length : Int) + 1 - 1) = (l.length : Int) := wk
      have tf1 : q1 = false ∨ q1 = true := by cases q1 <;> simp
      clear hq hla hpa hB hKr hLr hlt wk
      by_cases ho : out = -1
      · obtain ⟨q2, hq2⟩ : ∃ q2, keep.contains q = q2 := ⟨_, rfl⟩
        subst ho
        have HE := hid (show (q1 && q2) = R by rw [← HR.out, ← HPA.out, ← hq2, HLA.out]; unfold endB; simp)
        have GH : Hid (∀ W s x r, (s = sw ∧ x = a ∧ r = q1) ∨ (s = sk ∧ x = q ∧ r = q2) → Below wr.heap.size wr W → Calls Try.prog 50 #[s, .int .i64 x] W fun e w' => e = .returned (.bool r) ∧ Below W.heap.size W w') := by
          rintro W s x r (⟨rfl, rfl, rfl⟩ | ⟨rfl, rfl, rfl⟩) hW
          · exact (rhas_any want s x W hlw (HWr.out.mono hW)).mono fun e w' h => ⟨by rw [h.1, HQ1.out], by rw [h.2]; exact bl_refl _⟩
          · exact (rhas_any keep s x W hlk (HKEr.out.mono hW)).mono fun e w' h => ⟨by rw [h.1, hq2], by rw [h.2]; exact bl_refl _⟩
        clear hq2 hqin
        go_upto_region 8 with (fail)
        rcases tf1 with rfl | rfl
        · refine wp_region_below (by kernel_rfl) (by kernel_rfl) ?_
          repeat (first | go_big_quiet_step (first | (go_at_call 50; exact Calls.regrown_of (GH.out _ _ _ _ (by first | exact .inl ⟨rfl, rfl, rfl⟩ | exact .inr ⟨rfl, rfl, rfl⟩) (below_regrown _ _ _)))) | quiet_step (first | (go_at_call 50; exact Calls.regrown_of (GH.out _ _ _ _ (by first | exact .inl ⟨rfl, rfl, rfl⟩ | exact .inr ⟨rfl, rfl, rfl⟩) (below_regrown _ _ _)))))
          refine wpQuiet_nil ?_
          intro w3 hb3
          have HB3 := hid (bl_trans HBW.out hb3)
          clear p0 p1 p2 p3 pl y0 y1 yl c0 ca hwl hb3 GH
          go_wp2
          go_ret
          exact ⟨by rw [← HE.out]; rfl, HB3.out⟩
        · refine wp_region_below (by kernel_rfl) (by kernel_rfl) ?_
          repeat (first | go_big_quiet_step (first | (go_at_call 50; exact Calls.regrown_of (GH.out _ _ _ _ (by first | exact .inl ⟨rfl, rfl, rfl⟩ | exact .inr ⟨rfl, rfl, rfl⟩) (below_regrown _ _ _)))) | quiet_step (first | (go_at_call 50; exact Calls.regrown_of (GH.out _ _ _ _ (by first | exact .inl ⟨rfl, rfl, rfl⟩ | exact .inr ⟨rfl, rfl, rfl⟩) (below_regrown _ _ _)))))
          refine wpQuiet_nil ?_
          intro w3 hb3
          have HB3 := hid (bl_trans HBW.out hb3)
          clear p0 p1 p2 p3 pl y0 y1 yl c0 ca hwl hb3 GH
          go_wp2
          go_ret
          exact ⟨by rw [← HE.out]; rfl, HB3.out⟩
      · have t0 : (out == -1) = false := beq_eq_false_iff_ne.2 ho
        obtain ⟨nv, hnv⟩ : ∃ nv, nbr wd hg q out = nv := ⟨_, rfl⟩
        have hnr := nbr_ge (d := out) HV.out hqin
        have HE := hid (show (q1 && (nv == -1)) = R by
          rw [← HR.out, ← HPA.out, ← HLA.out]; unfold endB
          rw [if_neg (show ¬ out < 0 by omega), dirV_out (by omega), hnv, Bool.and_true]
          rw [hnv] at hnr
          congr 1
          rw [Bool.eq_iff_iff, beq_iff_eq, decide_eq_true_eq]; omega)
        have GH : Hid (∀ W, Below wr.heap.size wr W → Calls Try.prog 50 #[sw, .int .i64 a] W fun e w' => e = .returned (.bool q1) ∧ Below W.heap.size W w') := fun W hW => (rhas_any want sw a W hlw (HWr.out.mono hW)).mono fun e w' h => ⟨by rw [h.1, HQ1.out], by rw [h.2]; exact bl_refl _⟩
        have GN : Hid (∀ W, Below wr.heap.size wr W → Calls Try.prog 92 #[.agg #[.int .i64 wd, .int .i64 hg, sw, sk], .int .i64 q, .int .i64 out] W fun e w' => e = .returned (.int .i64 nv) ∧ Below W.heap.size W w') := fun W hW => by rw [← hnv]; exact rnext_any q out W HV.out hqin (by omega)
        clear hnv hqin hnr ho
        go_upto_region 9 with (fail)
        rcases tf1 with rfl | rfl
        · refine wp_region_below (by kernel_rfl) (by kernel_rfl) ?_
          repeat (first | go_big_quiet_step (first | (go_at_call 50; exact Calls.regrown_of (GH.out _ (below_regrown _ _ _))) | (go_at_call 92; exact Calls.regrown_of (GN.out _ (below_regrown _ _ _)))) | quiet_step (first | (go_at_call 50; exact Calls.regrown_of (GH.out _ (below_regrown _ _ _))) | (go_at_call 92; exact Calls.regrown_of (GN.out _ (below_regrown _ _ _)))))
          refine wpQuiet_nil ?_
          intro w3 hb3
          have HB3 := hid (bl_trans HBW.out hb3)
          clear p0 p1 p2 p3 pl y0 y1 yl c0 ca hwl hb3 GH GN
          go_wp2
          go_ret
          exact ⟨by rw [← HE.out]; rfl, HB3.out⟩
        · refine wp_region_below (by kernel_rfl) (by kernel_rfl) ?_
          repeat (first | go_big_quiet_step (first | (go_at_call 50; exact Calls.regrown_of (GH.out _ (below_regrown _ _ _))) | (go_at_call 92; exact Calls.regrown_of (GN.out _ (below_regrown _ _ _)))) | quiet_step (first | (go_at_call 50; exact Calls.regrown_of (GH.out _ (below_regrown _ _ _))) | (go_at_call 92; exact Calls.regrown_of (GN.out _ (below_regrown _ _ _)))))
          refine wpQuiet_nil ?_
          intro w3 hb3
          have HB3 := hid (bl_trans HBW.out hb3)
          clear p0 p1 p2 p3 pl y0 y1 yl c0 ca hwl hb3 GH GN
          go_wp2
          go_ret
          exact ⟨by rw [← HE.out]; simp, HB3.out⟩
end Go.Proofs.Ytlkoadcbolkhoaa
