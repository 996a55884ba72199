/- The reference: the direction of a letter, the corners of a chain: the walks. -/
import Derived.Test.YtlkoadcbolkhoaaMost
import Derived.Test.YtlkoadcbolkhoaaEncl
set_option linter.all false
namespace Go.Proofs.Ytlkoadcbolkhoaa
open Go Go.RowKit Go.Proofs
attribute [local go_sem] cell_grow frozen_grow

def dirB (b : Nat) : Int := if b = 69 then 0 else if b = 78 then 1 else if b = 87 then 2 else if b = 83 then 3 else -1
def cornL : Corner → List Nat → List Corner
  | p, [] => [p]
  | p, b :: l => p :: cornL (stepC p b) l
theorem rletter_any (b : Nat) (w : World) : Calls Try.prog 89 #[.int .u8 (b : Int)] w fun e w' => e = .returned (.int .i64 (dirB b)) ∧ Below w.heap.size w w' := by
  unfold dirB
  by_cases h0 : b = 69
  · subst h0
    go_enter Try.func89, Try.ntmps89
    go_wp2
    go_ret
    exact ⟨rfl, bl_refl _⟩
  have t0 : ((b : Int) == 69) = false := beq_eq_false_iff_ne.2 (by omega)
  rw [if_neg h0]
  by_cases h1 : b = 78
  · subst h1
    go_enter Try.func89, Try.ntmps89
    go_wp2
    go_ret
    exact ⟨rfl, bl_refl _⟩
  have t1 : ((b : Int) == 78) = false := beq_eq_false_iff_ne.2 (by omega)
  rw [if_neg h1]
  by_cases h2 : b = 87
  · subst h2
    go_enter Try.func89, Try.ntmps89
    go_wp2
    go_ret
    exact ⟨rfl, bl_refl _⟩
  have t2 : ((b : Int) == 87) = false := beq_eq_false_iff_ne.2 (by omega)
  rw [if_neg h2]
  by_cases h3 : b = 83
  · subst h3
    go_enter Try.func89, Try.ntmps89
    go_wp2
    go_ret
    exact ⟨rfl, bl_refl _⟩
  have t3 : ((b : Int) == 83) = false := beq_eq_false_iff_ne.2 (by omega)
  rw [if_neg h3]
  go_enter Try.func89, Try.ntmps89
  go_wp2
  go_ret
  exact ⟨rfl, bl_refl _⟩
theorem info75 : (Try.prog.info? 75).map (fun i => (i.zero, i.size, i.bytes)) = some (some (.agg #[.int .i64 0, .int .i64 0]), 2, 16) := by kernel_rfl
theorem byC_app' (a b : List Side) : byC (a ++ b) = byC a ++ byC b := by simp [byC]
theorem cornL_len : ∀ (l : List Nat) (p : Corner), (cornL p l).length = l.length + 1
  | [], _ => rfl
  | b :: l, p => by simp [cornL, cornL_len l]
theorem own_one2 {W : World} {base e : Nat} {x y : Value} (h : base ≤ W.heap.size) : (W.alloc (.cells #[x, y] e)).ownsRow base e 2 (.slice (some ⟨W.heap.size, 0, none⟩) 1 1) 1 [x, y] :=
  ⟨rfl, .inr ⟨W.heap.size, 1, #[x, y], rfl, h, World.alloc_heap_new _ _, Nat.le_refl _, by decide, rfl, rfl⟩⟩

theorem index_run {s : ByteArray} {k b : Nat} (h : (bytesL s)[k]? = some b) (w : World) : (Instr.index 9 (.string s) (.int .i64 (k : Int))).run Try.prog w = .ok (.int .u8 (b : Int)) w := by
  have hk : k < s.size := by have := (List.getElem?_eq_some_iff.1 h).1; rwa [bytesL_len] at this
  rw [run_index_string w 9 s .i64 (k : Int) Try.underlying9, dif_pos (by omega)]
  have hx : (bytesL s)[k]? = some (s.data[k]'hk).toNat := by unfold bytesL; rw [List.getElem?_map, Array.getElem?_toList, Array.getElem?_eq_getElem (show k < s.data.size from hk)]; rfl
  rw [hx] at h
  injection h with h
  subst h
  rfl
theorem dirB_step {b : Nat} {q : Corner} : stepC q b = if dirB b = 0 then (q.1 + 1, q.2) else if dirB b = 1 then (q.1, q.2 + 1) else if dirB b = 2 then (q.1 - 1, q.2) else if dirB b = 3 then (q.1, q.2 - 1) else q := by
  unfold stepC dirB
  (repeat' split) <;> first | rfl | omega

set_option maxRecDepth 100000 in
set_option maxHeartbeats 8000000 in
theorem corners_any (x y : Int) (s : ByteArray) (w : World) (hs : s.size ≤ 1000) (hx : 0 ≤ x ∧ x ≤ 8) (hy : 0 ≤ y ∧ y ≤ 8) :
    Calls Try.prog 57 #[.agg #[.int .i64 x, .int .i64 y, .string s]] w fun e w' => (∃ v, e = .returned v ∧ SidesI w' v (cornL (x, y) (bytesL s))) ∧ Below w.heap.size w w' := by
  obtain ⟨i75, hi, hj0, hj1, hj2⟩ := info_parts info75
  have HK := hid (World.alloc_heap_new w (.cells #[.int .i64 x, .int .i64 y, .string s] 45))
  have HB := hid (bl_alloc (bl_refl w) (.cells #[.int .i64 x, .int .i64 y, .string s] 45))
  have hsl := bytesL_len s
  go_enter Try.func57, Try.ntmps57
  go_upto_region 1 with (fail)
  obtain ⟨w0, hw0⟩ : ∃ w0, w.alloc (.cells #[.int .i64 x, .int .i64 y, .string s] 45) = w0 := ⟨_, rfl⟩
  obtain ⟨X, hX⟩ : ∃ X, w.heap.size = X := ⟨_, rfl⟩
  rw [hX] at HK ⊢
  rw [hw0] at HB HK ⊢
  clear hw0 hX
  have q0 : w0.cell? ⟨X, 0, none⟩ = some (.int .i64 x) := cell_of_heap HK.out
  have q1 : w0.cell? ⟨X, 1, none⟩ = some (.int .i64 y) := cell_of_heap HK.out
  have q2 : w0.cell? ⟨X, 2, none⟩ = some (.string s) := cell_of_heap HK.out
  have ql := (Array.getElem?_eq_some_iff.1 HK.out).1
  refine wp_region_below (by kernel_rfl) (by kernel_rfl) ?_
  repeat (first | go_big_quiet_step (fail) | quiet_step (fail))
  refine wpQuiet_nil ?_
  intro w1 hb1
  have HB1 := hid (bl_trans HB.out hb1)
  have HK1 := hid (heap_mono HK.out hb1)
  have HO1 := hid (own_one2 (W := w1) (base := w1.heap.size) (e := 75) (x := .int .i64 x) (y := .int .i64 y) (Nat.le_refl _))
  have HB2 := hid (bl_alloc (bl_refl w1) (.cells #[.int .i64 x, .int .i64 y] 75))
  clear q0 q1 q2 ql hb1 HB HK
  go_wp2
  go_loopw [3, 4, 5, 6] (fun a b o p wr => ∃ (k : Nat) (v : Value) (L : List Corner) (q : Corner), k ≤ s.size ∧ p = .int .i64 (k : Int) ∧ a = .int .i64 q.1 ∧ b = .int .i64 q.2 ∧ o = v ∧ L.length = k ∧ L ++ cornL q ((bytesL s).drop k) = cornL (x, y) (bytesL s) ∧ ((-k ≤ q.1 ∧ q.1 ≤ 8 + k) ∧ (-k ≤ q.2 ∧ q.2 ≤ 8 + k)) ∧ wr.ownsRow w1.heap.size 75 2 v (k + 1) (byC (L ++ [q])) ∧ Below w1.heap.size w1 wr) (fun _ _ _ p _ => s.size - (intOf p).toNat)
  case atStart => exact ⟨0, _, [], (x, y), Nat.zero_le _, rfl, rfl, rfl, rfl, rfl, rfl, by simp; omega, HO1.out, HB2.out⟩
  case round =>
  clear HO1 HB2
  obtain ⟨k, v, L, q, hk, rfl, rfl, rfl, hov, hLk, hL, hq, hown, hB⟩ := hrel
  obtain rfl := hov.symm
  have HL := hid hL
  have HOW := hid hown
  have HBr := hid hB
  have hbs := hB.size
  obtain ⟨OA, oc, hov2⟩ : ∃ A c, v = .slice A (k + 1) c := by
    rcases hown.2 with ⟨rfl, h0⟩ | ⟨g, cap, cur, rfl, _⟩
    · omega
    · exact ⟨_, _, rfl⟩
  subst hov2
  have hK := heap_mono HK1.out (hB)
  have q0 : wr.cell? ⟨X, 0, none⟩ = some (.int .i64 x) := cell_of_heap hK
  have q1 : wr.cell? ⟨X, 1, none⟩ = some (.int .i64 y) := cell_of_heap hK
  have q2 : wr.cell? ⟨X, 2, none⟩ = some (.string s) := cell_of_heap hK
  have ql := (Array.getElem?_eq_some_iff.1 hK).1
  obtain ⟨q1', q2'⟩ := q
  simp only at hq ⊢
  by_cases hlt : k < s.size
  · obtain ⟨b, hb⟩ := get_at (l := bytesL s) (k := k) (by rw [bytesL_len]; exact hlt)
    have hdr : (bytesL s).drop k = b :: (bytesL s).drop (k + 1) := List.drop_eq_getElem_cons (by rw [bytesL_len]; exact hlt) ▸ by rw [(List.getElem?_eq_some_iff.1 hb).2]
    rw [hdr] at hL
    have hL2 : (L ++ [(q1', q2')]) ++ cornL (stepC (q1', q2') b) ((bytesL s).drop (k + 1)) = cornL (x, y) (bytesL s) := by rw [← hL, List.append_assoc]; rfl
    have hkI : (k : Int) < (s.size : Int) := by omega
    have hidx := index_run hb
    have hcall := rletter_any b wr
    have hst := dirB_step (b := b) (q := (q1', q2'))
    obtain ⟨D, hD⟩ : ∃ D, dirB b = D := ⟨_, rfl⟩
    rw [hD] at hcall hst
    clear hL hdr hown hB hb hD hsl hK
    by_cases d0 : D = 0
    · have t0 : (D == 0) = true := by simp [d0]
      have hq2 : stepC (q1', q2') b = (q1' + 1, q2') := by rw [hst]; rw [if_pos d0]
      rw [hq2] at hL2
      have HL2 := hid hL2
      have hq3 : ((-((k + 1 : Nat) : Int)) ≤ q1' + 1 ∧ q1' + 1 ≤ 8 + ((k + 1 : Nat) : Int)) ∧ (-((k + 1 : Nat) : Int)) ≤ q2' ∧ q2' ≤ 8 + ((k + 1 : Nat) : Int) := by omega
      have HQ3 := hid hq3
      have ww : IntKind.i64.wrap (q1' + 1) = q1' + 1 := IntWalk.i64_in _ (by omega)
      clear hL2 hst hq2 hq3 d0
      go_wp2_with fail
      refine hcall.mono ?_
      rintro e w2 ⟨rfl, hb2⟩
      have OW2 := own_mono HOW.out hb2
      clear hcall q0 q1 q2 ql hidx
      have oN := OW2.alloc (.cells #[.int .i64 (q1' + 1), .int .i64 (q2')] 75)
      have bN := hid (bl_alloc (bl_trans HBr.out hb2) (.cells #[.int .i64 (q1' + 1), .int .i64 (q2')] 75))
      go_wp2_with (at_builtin; first | (refine wpList_append_own _ rfl _ _ 73 rfl w1.heap.size 75 i75 (.agg #[.int .i64 0, .int .i64 0]) 2 16 Try.underlying73 hi hj0 hj1 hj2 rfl (by decide) (.slice OA (k + 1) oc) (k + 1) (byC (L ++ [(q1', q2')])) rfl oN ⟨w2.heap.size, 0, none⟩ 1 1 [.int .i64 (q1' + 1), .int .i64 (q2')] rfl rfl (new_two (World.alloc_heap_new w2 _)) (fun z hz => by simp at hz; rcases hz with rfl | rfl <;> rfl) (by unfold maxLen; omega) (by omega) (by have := hb2.size; simp; omega) ?_; intro v' w8 hown' hgrow hnil; have HB8 := hid (bl_grown bN.out oN (by omega) hgrow); have HOW8 := hid hown'; clear hown' hgrow hnil) | fail)
      go_roundw
      case rel => exact ⟨k + 1, _, L ++ [(q1', q2')], (q1' + 1, q2'), by omega, by go_num, rfl, rfl, rfl, by simp; omega, HL2.out, HQ3.out, by rw [byC_app' (L ++ [(q1', q2')])]; exact HOW8.out, HB8.out⟩
      case measure => simp [intOf]; omega
    by_cases d1 : D = 1
    · have t0 : (D == 0) = false := by simp [d0]
      have t1 : (D == 1) = true := by simp [d1]
      have hq2 : stepC (q1', q2') b = (q1', q2' + 1) := by rw [hst]; rw [if_neg d0]; rw [if_pos d1]
      rw [hq2] at hL2
      have HL2 := hid hL2
      have hq3 : ((-((k + 1 : Nat) : Int)) ≤ q1' ∧ q1' ≤ 8 + ((k + 1 : Nat) : Int)) ∧ (-((k + 1 : Nat) : Int)) ≤ q2' + 1 ∧ q2' + 1 ≤ 8 + ((k + 1 : Nat) : Int) := by omega
      have HQ3 := hid hq3
      have ww : IntKind.i64.wrap (q2' + 1) = q2' + 1 := IntWalk.i64_in _ (by omega)
      clear hL2 hst hq2 hq3 d0 d1
      go_wp2_with fail
      refine hcall.mono ?_
      rintro e w2 ⟨rfl, hb2⟩
      have OW2 := own_mono HOW.out hb2
      clear hcall q0 q1 q2 ql hidx
      have oN := OW2.alloc (.cells #[.int .i64 (q1'), .int .i64 (q2' + 1)] 75)
      have bN := hid (bl_alloc (bl_trans HBr.out hb2) (.cells #[.int .i64 (q1'), .int .i64 (q2' + 1)] 75))
      go_wp2_with (at_builtin; first | (refine wpList_append_own _ rfl _ _ 73 rfl w1.heap.size 75 i75 (.agg #[.int .i64 0, .int .i64 0]) 2 16 Try.underlying73 hi hj0 hj1 hj2 rfl (by decide) (.slice OA (k + 1) oc) (k + 1) (byC (L ++ [(q1', q2')])) rfl oN ⟨w2.heap.size, 0, none⟩ 1 1 [.int .i64 (q1'), .int .i64 (q2' + 1)] rfl rfl (new_two (World.alloc_heap_new w2 _)) (fun z hz => by simp at hz; rcases hz with rfl | rfl <;> rfl) (by unfold maxLen; omega) (by omega) (by have := hb2.size; simp; omega) ?_; intro v' w8 hown' hgrow hnil; have HB8 := hid (bl_grown bN.out oN (by omega) hgrow); have HOW8 := hid hown'; clear hown' hgrow hnil) | fail)
      go_roundw
      case rel => exact ⟨k + 1, _, L ++ [(q1', q2')], (q1', q2' + 1), by omega, by go_num, rfl, rfl, rfl, by simp; omega, HL2.out, HQ3.out, by rw [byC_app' (L ++ [(q1', q2')])]; exact HOW8.out, HB8.out⟩
      case measure => simp [intOf]; omega
    by_cases d2 : D = 2
    · have t0 : (D == 0) = false := by simp [d0]
      have t1 : (D == 1) = false := by simp [d1]
      have t2 : (D == 2) = true := by simp [d2]
      have hq2 : stepC (q1', q2') b = (q1' - 1, q2') := by rw [hst]; rw [if_neg d0]; rw [if_neg d1]; rw [if_pos d2]
      rw [hq2] at hL2
      have HL2 := hid hL2
      have hq3 : ((-((k + 1 : Nat) : Int)) ≤ q1' - 1 ∧ q1' - 1 ≤ 8 + ((k + 1 : Nat) : Int)) ∧ (-((k + 1 : Nat) : Int)) ≤ q2' ∧ q2' ≤ 8 + ((k + 1 : Nat) : Int) := by omega
      have HQ3 := hid hq3
      have ww : IntKind.i64.wrap (q1' - 1) = q1' - 1 := IntWalk.i64_in _ (by omega)
      clear hL2 hst hq2 hq3 d0 d1 d2
      go_wp2_with fail
      refine hcall.mono ?_
      rintro e w2 ⟨rfl, hb2⟩
      have OW2 := own_mono HOW.out hb2
      clear hcall q0 q1 q2 ql hidx
      have oN := OW2.alloc (.cells #[.int .i64 (q1' - 1), .int .i64 (q2')] 75)
      have bN := hid (bl_alloc (bl_trans HBr.out hb2) (.cells #[.int .i64 (q1' - 1), .int .i64 (q2')] 75))
      go_wp2_with (at_builtin; first | (refine wpList_append_own _ rfl _ _ 73 rfl w1.heap.size 75 i75 (.agg #[.int .i64 0, .int .i64 0]) 2 16 Try.underlying73 hi hj0 hj1 hj2 rfl (by decide) (.slice OA (k + 1) oc) (k + 1) (byC (L ++ [(q1', q2')])) rfl oN ⟨w2.heap.size, 0, none⟩ 1 1 [.int .i64 (q1' - 1), .int .i64 (q2')] rfl rfl (new_two (World.alloc_heap_new w2 _)) (fun z hz => by simp at hz; rcases hz with rfl | rfl <;> rfl) (by unfold maxLen; omega) (by omega) (by have := hb2.size; simp; omega) ?_; intro v' w8 hown' hgrow hnil; have HB8 := hid (bl_grown bN.out oN (by omega) hgrow); have HOW8 := hid hown'; clear hown' hgrow hnil) | fail)
      go_roundw
      case rel => exact ⟨k + 1, _, L ++ [(q1', q2')], (q1' - 1, q2'), by omega, by go_num, rfl, rfl, rfl, by simp; omega, HL2.out, HQ3.out, by rw [byC_app' (L ++ [(q1', q2')])]; exact HOW8.out, HB8.out⟩
      case measure => simp [intOf]; omega
    by_cases d3 : D = 3
    · have t0 : (D == 0) = false := by simp [d0]
      have t1 : (D == 1) = false := by simp [d1]
      have t2 : (D == 2) = false := by simp [d2]
      have t3 : (D == 3) = true := by simp [d3]
      have hq2 : stepC (q1', q2') b = (q1', q2' - 1) := by rw [hst]; rw [if_neg d0]; rw [if_neg d1]; rw [if_neg d2]; rw [if_pos d3]
      rw [hq2] at hL2
      have HL2 := hid hL2
      have hq3 : ((-((k + 1 : Nat) : Int)) ≤ q1' ∧ q1' ≤ 8 + ((k + 1 : Nat) : Int)) ∧ (-((k + 1 : Nat) : Int)) ≤ q2' - 1 ∧ q2' - 1 ≤ 8 + ((k + 1 : Nat) : Int) := by omega
      have HQ3 := hid hq3
      have ww : IntKind.i64.wrap (q2' - 1) = q2' - 1 := IntWalk.i64_in _ (by omega)
      clear hL2 hst hq2 hq3 d0 d1 d2 d3
      go_wp2_with fail
      refine hcall.mono ?_
      rintro e w2 ⟨rfl, hb2⟩
      have OW2 := own_mono HOW.out hb2
      clear hcall q0 q1 q2 ql hidx
      have oN := OW2.alloc (.cells #[.int .i64 (q1'), .int .i64 (q2' - 1)] 75)
      have bN := hid (bl_alloc (bl_trans HBr.out hb2) (.cells #[.int .i64 (q1'), .int .i64 (q2' - 1)] 75))
      go_wp2_with (at_builtin; first | (refine wpList_append_own _ rfl _ _ 73 rfl w1.heap.size 75 i75 (.agg #[.int .i64 0, .int .i64 0]) 2 16 Try.underlying73 hi hj0 hj1 hj2 rfl (by decide) (.slice OA (k + 1) oc) (k + 1) (byC (L ++ [(q1', q2')])) rfl oN ⟨w2.heap.size, 0, none⟩ 1 1 [.int .i64 (q1'), .int .i64 (q2' - 1)] rfl rfl (new_two (World.alloc_heap_new w2 _)) (fun z hz => by simp at hz; rcases hz with rfl | rfl <;> rfl) (by unfold maxLen; omega) (by omega) (by have := hb2.size; simp; omega) ?_; intro v' w8 hown' hgrow hnil; have HB8 := hid (bl_grown bN.out oN (by omega) hgrow); have HOW8 := hid hown'; clear hown' hgrow hnil) | fail)
      go_roundw
      case rel => exact ⟨k + 1, _, L ++ [(q1', q2')], (q1', q2' - 1), by omega, by go_num, rfl, rfl, rfl, by simp; omega, HL2.out, HQ3.out, by rw [byC_app' (L ++ [(q1', q2')])]; exact HOW8.out, HB8.out⟩
      case measure => simp [intOf]; omega
    have t0 : (D == 0) = false := by simp [d0]
    have t1 : (D == 1) = false := by simp [d1]
    have t2 : (D == 2) = false := by simp [d2]
    have t3 : (D == 3) = false := by simp [d3]
    have hq2 : stepC (q1', q2') b = (q1', q2') := by rw [hst]; rw [if_neg d0]; rw [if_neg d1]; rw [if_neg d2]; rw [if_neg d3]
    rw [hq2] at hL2
    have HL2 := hid hL2
    have hq3 : ((-((k + 1 : Nat) : Int)) ≤ q1' ∧ q1' ≤ 8 + ((k + 1 : Nat) : Int)) ∧ (-((k + 1 : Nat) : Int)) ≤ q2' ∧ q2' ≤ 8 + ((k + 1 : Nat) : Int) := by omega
    have HQ3 := hid hq3
    clear hL2 hst hq2 hq3 d0 d1 d2 d3
    go_wp2_with fail
    refine hcall.mono ?_
    rintro e w2 ⟨rfl, hb2⟩
    have OW2 := own_mono HOW.out hb2
    clear hcall q0 q1 q2 ql hidx
    have oN := OW2.alloc (.cells #[.int .i64 (q1'), .int .i64 (q2')] 75)
    have bN := hid (bl_alloc (bl_trans HBr.out hb2) (.cells #[.int .i64 (q1'), .int .i64 (q2')] 75))
    go_wp2_with (at_builtin; first | (refine wpList_append_own _ rfl _ _ 73 rfl w1.heap.size 75 i75 (.agg #[.int .i64 0, .int .i64 0]) 2 16 Try.underlying73 hi hj0 hj1 hj2 rfl (by decide) (.slice OA (k + 1) oc) (k + 1) (byC (L ++ [(q1', q2')])) rfl oN ⟨w2.heap.size, 0, none⟩ 1 1 [.int .i64 (q1'), .int .i64 (q2')] rfl rfl (new_two (World.alloc_heap_new w2 _)) (fun z hz => by simp at hz; rcases hz with rfl | rfl <;> rfl) (by unfold maxLen; omega) (by omega) (by have := hb2.size; simp; omega) ?_; intro v' w8 hown' hgrow hnil; have HB8 := hid (bl_grown bN.out oN (by omega) hgrow); have HOW8 := hid hown'; clear hown' hgrow hnil) | fail)
    go_roundw
    case rel => exact ⟨k + 1, _, L ++ [(q1', q2')], (q1', q2'), by omega, by go_num, rfl, rfl, rfl, by simp; omega, HL2.out, HQ3.out, by rw [byC_app' (L ++ [(q1', q2')])]; exact HOW8.out, HB8.out⟩
    case measure => simp [intOf]; omega
  · obtain rfl : k = s.size := by omega
    rw [← hsl, List.drop_length] at hL
    have HF := hid (show L ++ [(q1', q2')] = cornL (x, y) (bytesL s) from hL)
    have HB5 := hid (bl_trans HB1.out HBr.out)
    have HSI := hid (sides_own_any (l := L ++ [(q1', q2')]) (by simp; omega) HOW.out)
    clear hL hown hB hlt hK
    go_wp2
    go_ret
    exact ⟨⟨_, rfl, by rw [← HF.out]; exact HSI.out⟩, HB5.out⟩
end Go.Proofs.Ytlkoadcbolkhoaa
