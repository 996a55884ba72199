/- The law's around: a chain from another of its corners on: the walk. -/
import Derived.Test.YtlkoadcbolkhoaaRchkc
import Derived.Test.YtlkoadcbolkhoaaLawa
import Derived.Laws.Concat
set_option linter.all false
namespace Go.Proofs.Ytlkoadcbolkhoaa
open Go Go.RowKit Go.Proofs
attribute [local go_sem] cell_grow frozen_grow

def rotU (f : Nat) (l : List UInt8) : List UInt8 := l.drop f ++ l.take f
def flipU (b : UInt8) : UInt8 := if b = 78 then 83 else if b = 87 then 69 else if b = 83 then 78 else 87
def revU (l : List UInt8) : List UInt8 := (l.map flipU).reverse
def turnU (f : Nat) (back : Bool) (l : List UInt8) : List UInt8 := if back = true then revU (rotU f l) else rotU f l
theorem extract_list (l : List UInt8) (i j : Nat) : (ByteArray.mk l.toArray).extract i j = ByteArray.mk ((l.take j).drop i).toArray := by
  apply ByteArray.ext
  rw [ByteArray.data_extract]
  simp [List.extract_eq_take_drop, List.drop_take]
theorem sliceL_run (l : List UInt8) (f : Nat) (h : f ≤ l.length) (W : World) : (Instr.slice 9 (.string ⟨l.toArray⟩) (some (.int .i64 (f : Int))) none none).run Try.prog W = .ok (.string ⟨(l.drop f).toArray⟩) W := by
  rw [run_slice_string_l W 9 _ Try.underlying9 .i64 (f : Int) (by omega) (by show (f : Int) ≤ (l.toArray.size : Int); simp; omega), Int.toNat_natCast, extract_list]
  rw [List.take_of_length_le (by show l.length ≤ l.toArray.size; simp)]
theorem sliceH_run (l : List UInt8) (f : Nat) (h : f ≤ l.length) (W : World) : (Instr.slice 9 (.string ⟨l.toArray⟩) none (some (.int .i64 (f : Int))) none).run Try.prog W = .ok (.string ⟨(l.take f).toArray⟩) W := by
  rw [run_slice_string_h W 9 _ Try.underlying9 .i64 (f : Int) (by omega) (by show (f : Int) ≤ (l.toArray.size : Int); simp; omega), Int.toNat_natCast, extract_list]
  simp
theorem add_run (a b : List UInt8) (ha : a.length ≤ 1000) (hb : b.length ≤ 1000) (W : World) : (binOp .add 9 (.string ⟨a.toArray⟩) (.string ⟨b.toArray⟩)).run Try.prog W = .ok (.string ⟨(a ++ b).toArray⟩) W := by
  rw [binOp_string_add, run_string_add_lists W a b (by omega) (by omega)]
theorem bytesL_list (l : List UInt8) : bytesL ⟨l.toArray⟩ = l.map UInt8.toNat := by unfold bytesL; simp
theorem revU_take {l : List UInt8} {k : Nat} {b : UInt8} (h : l[k]? = some b) : revU (l.take (k + 1)) = flipU b :: revU (l.take k) := by
  unfold revU
  have hk := (List.getElem?_eq_some_iff.1 h)
  obtain ⟨hk1, hk2⟩ := hk
  rw [List.take_succ_eq_append_getElem hk1, hk2]
  simp

set_option maxRecDepth 100000 in
set_option maxHeartbeats 8000000 in
theorem turnch_any (x y : Int) (l : List UInt8) (f : Nat) (back : Bool) (w : World) (hs : l.length ≤ 100) (hf : f < l.length) (hx : 0 ≤ x ∧ x ≤ 8) (hy : 0 ≤ y ∧ y ≤ 8) :
    Calls Try.prog 56 #[.agg #[.int .i64 x, .int .i64 y, .string ⟨l.toArray⟩], .int .i64 (f : Int), .bool back] w fun e w' => e = .returned (.agg #[.int .i64 (posC (x, y) (l.map UInt8.toNat) f).1, .int .i64 (posC (x, y) (l.map UInt8.toNat) f).2, .string ⟨(turnU f back l).toArray⟩]) ∧ Below w.heap.size w w' := by
  obtain ⟨s, hsl⟩ : ∃ s : ByteArray, ByteArray.mk l.toArray = s := ⟨_, rfl⟩
  have hsz : s.size = l.length := by rw [← hsl]; rfl
  have hbl' : bytesL s = l.map UInt8.toNat := by rw [← hsl]; exact bytesL_list l
  have b0 := bl_alloc (bl_refl w) (.cells #[.int .i64 x, .int .i64 y, .string s] 45)
  have b1 := bl_alloc (bl_refl (w.alloc (.cells #[.int .i64 x, .int .i64 y, .string s] 45))) (.cells #[.int .i64 0, .int .i64 0, .string ⟨#[]⟩] 45)
  have k0 := heap_mono (World.alloc_heap_new w (.cells #[.int .i64 x, .int .i64 y, .string s] 45)) b1
  have k1 := World.alloc_heap_new (w.alloc (.cells #[.int .i64 x, .int .i64 y, .string s] 45)) (.cells #[.int .i64 0, .int .i64 0, .string ⟨#[]⟩] 45)
  rw [World.size_alloc] at k1
  have HB0 := hid (bl_trans b0 b1)
  have HX0 := hid k0
  have HR0 := hid k1
  obtain ⟨⟨px, py⟩, hp⟩ : ∃ q : Corner, posC (x, y) (l.map UInt8.toNat) f = q := ⟨_, rfl⟩
  have HP := hid hp
  have hsl1 := sliceL_run l f (by omega)
  have hsl2 := sliceH_run l f (by omega)
  have hadd := add_run (l.drop f) (l.take f) (by simp; omega) (by simp; omega)
  rw [hp]
  rw [hsl] at hsl1 hsl2 ⊢
  simp only
  have Hsl1 := hid hsl1
  have Hsl2 := hid hsl2
  have Hadd := hid hadd
  have HSL := hid hsl
  have HBL := hid hbl'
  obtain ⟨ZL, hZL⟩ : ∃ z, turnU f back l = z := ⟨_, rfl⟩
  have HZ := hid hZL
  rw [hZL]
  clear b0 b1 k0 k1 hp hsl1 hsl2 hadd hsl hbl' hZL
  go_enter Try.func56, Try.ntmps56
  go_upto_region 1 with (fail)
  obtain ⟨w0, hw0⟩ : ∃ w0, (w.alloc (.cells #[.int .i64 x, .int .i64 y, .string s] 45)).alloc (.cells #[.int .i64 0, .int .i64 0, .string ⟨#[]⟩] 45) = w0 := ⟨_, rfl⟩
  obtain ⟨X, hX⟩ : ∃ X, w.heap.size = X := ⟨_, rfl⟩
  have hwX : Hid (w.heap.size ≤ X + 1) := by show w.heap.size ≤ X + 1; omega
  rw [hX] at HX0 HR0 ⊢
  rw [hw0] at HB0 HX0 HR0 ⊢
  obtain ⟨RB, hRB⟩ : ∃ R, X + 1 = R := ⟨_, rfl⟩
  rw [hRB] at HR0 hwX ⊢
  clear hw0 hX hRB
  have q0 : w0.cell? ⟨X, 0, none⟩ = some (.int .i64 x) := cell_of_heap HX0.out
  have q1 : w0.cell? ⟨X, 1, none⟩ = some (.int .i64 y) := cell_of_heap HX0.out
  have q2 : w0.cell? ⟨X, 2, none⟩ = some (.string s) := cell_of_heap HX0.out
  have ql := (Array.getElem?_eq_some_iff.1 HX0.out).1
  have hcall := corners_any x y s w0 (by omega) hx hy
  go_wp2_with fail
  refine hcall.mono ?_
  rintro e w1 ⟨⟨v, rfl, hv⟩, hb1⟩
  have HX1 := hid (heap_mono HX0.out hb1)
  have HR1 := hid (heap_mono HR0.out hb1)
  have HB1 := hid (bl_trans HB0.out hb1)
  clear hcall q0 q1 q2 ql hb1 HX0 HR0 HB0
  have hat := cornL_at (bytesL s) (x, y) f (by rw [HBL.out, List.length_map]; omega)
  obtain ⟨A, c, hvs⟩ := hv.slice
  subst hvs
  have hln : (cornL (x, y) (bytesL s)).length = s.size + 1 := by rw [cornL_len, HBL.out, List.length_map, hsz]
  rw [hln] at hv ⊢
  obtain ⟨b, off, hA, hnn, hlc, hbl, c0, c1⟩ := hv.at hat
  subst hA
  rw [HBL.out, HP.out] at c0 c1
  simp only at c0 c1
  have HC0 := hid c0
  have HC1 := hid c1
  have hfI : (f : Int) < (s.size : Int) + 1 := by omega
  have hf1 : (f : Int) < ((s.size + 1 : Nat) : Int) := by omega
  have hf2 : ¬ (((s.size + 1 : Nat) : Int) ≤ (f : Int)) := by omega
  have HSZ := hid hsz
  have HB1s := hid HB1.out.size
  clear hv hat hnn hlc c0 c1 hln hsz
  go_upto_region 2 with (fail)
  have hsl1 := Hsl1.out
  have hsl2 := Hsl2.out
  have hbig : ¬ (9223372036854775807 < l.length - f + min f l.length) := by omega
  have hmk : ByteArray.mk (l.drop f).toArray ++ ByteArray.mk (l.take f).toArray = ByteArray.mk (rotU f l).toArray := ByteArray.mk_append_mk _ _
  refine wp_region_valsG w1 (bl_refl _) [14, 15, 16, 17, 18, 19, 20, 21, 22, 23, 24, 25, 26, 27, 28, 29, 30, 31, 32, 33, 8] (fun seen u W => (seen 0 = true → u 14 = .slice (some ⟨b, off, none⟩) (s.size + 1) c) ∧
    (seen 1 = true → u 15 = .int .i64 (f : Int)) ∧
    (seen 2 = true → u 16 = .pointer (some ⟨b, off + f * 2, none⟩)) ∧
    (seen 3 = true → u 17 = .pointer (some ⟨b, off + f * 2, none⟩)) ∧
    (seen 4 = true → u 18 = .int .i64 px) ∧
    (seen 5 = true → u 19 = .slice (some ⟨b, off, none⟩) (s.size + 1) c) ∧
    (seen 6 = true → u 20 = .int .i64 (f : Int)) ∧
    (seen 7 = true → u 21 = .pointer (some ⟨b, off + f * 2, none⟩)) ∧
    (seen 8 = true → u 22 = .pointer (some ⟨b, off + f * 2 + 1, none⟩)) ∧
    (seen 9 = true → u 23 = .int .i64 py) ∧
    (seen 10 = true → u 24 = .pointer (some ⟨X, 2, none⟩)) ∧
    (seen 11 = true → u 25 = .string s) ∧
    (seen 12 = true → u 26 = .int .i64 (f : Int)) ∧
    (seen 13 = true → u 27 = .string ⟨(l.drop f).toArray⟩) ∧
    (seen 14 = true → u 28 = .pointer (some ⟨X, 2, none⟩)) ∧
    (seen 15 = true → u 29 = .string s) ∧
    (seen 16 = true → u 30 = .int .i64 (f : Int)) ∧
    (seen 17 = true → u 31 = .string ⟨(l.take f).toArray⟩) ∧
    (seen 18 = true → u 32 = .string ⟨(rotU f l).toArray⟩) ∧
    (seen 19 = true → u 33 = .agg #[.int .i64 px, .int .i64 py, .string ⟨(rotU f l).toArray⟩]) ∧
    (seen 20 = true → BoxAt w1.heap.size W (u 8) 45 (if seen 21 = true then #[.int .i64 px, .int .i64 py, .string ⟨(rotU f l).toArray⟩] else #[.int .i64 0, .int .i64 0, .string ⟨#[]⟩])) ∧
    (seen 21 = true → seen 20 = true))
    (by kernel_rfl) (by kernel_rfl) (by kernel_rfl) (by simp) (by simp) ?_ ?_
  · intro i o ho seen a' w9 hb9 ⟨F0, F1, F2, F3, F4, F5, F6, F7, F8, F9, F10, F11, F12, F13, F14, F15, F16, F17, F18, F19, F20, F21⟩ hv hsi hdep
    have hbx := heap_mono HX1.out hb9
    have s0 : w9.cell? ⟨X, 0, none⟩ = some (.int .i64 x) := cell_of_heap hbx
    have s1 : w9.cell? ⟨X, 1, none⟩ = some (.int .i64 y) := cell_of_heap hbx
    have s2 : w9.cell? ⟨X, 2, none⟩ = some (.string s) := cell_of_heap hbx
    have hXl := (Array.getElem?_eq_some_iff.1 hbx).1
    have g0 := cell_mono HC0.out hb9
    have g1 := cell_mono HC1.out hb9
    have hbl9 := Nat.lt_of_lt_of_le hbl hb9.size
    rcases i with _ | _ | _ | _ | _ | _ | _ | _ | _ | _ | _ | _ | _ | _ | _ | _ | _ | _ | _ | _ | _ | _ | i <;> simp only [List.getElem?_cons_zero, List.getElem?_cons_succ, List.getElem?_nil, Option.some.injEq, reduceCtorEq] at ho <;> subst ho
    · refine if_free rfl ?_
      have x7 := val_at (hv 7 (by simp))
      simp [valsOf] at x7
      refine wp_value (.slice (some ⟨b, off, none⟩) (s.size + 1) c) (w' := w9) (by simp [execOp, x7, go_sem, s0, s1, s2, hXl, g0, g1, hbl9, hfI, hf1, hf2]) ⟨_, rfl, hb9, ?_⟩
      exact ⟨by simp, by simpa using F1, by simpa using F2, by simpa using F3, by simpa using F4, by simpa using F5, by simpa using F6, by simpa using F7, by simpa using F8, by simpa using F9, by simpa using F10, by simpa using F11, by simpa using F12, by simpa using F13, by simpa using F14, by simpa using F15, by simpa using F16, by simpa using F17, by simpa using F18, by simpa using F19, by simpa using F20, by simpa using F21⟩
    · refine if_free rfl ?_
      have x1 := val_at (hv 1 (by simp))
      simp [valsOf] at x1
      refine wp_value (.int .i64 (f : Int)) (w' := w9) (by simp [execOp, x1, go_sem, s0, s1, s2, hXl, g0, g1, hbl9, hfI, hf1, hf2]) ⟨_, rfl, hb9, ?_⟩
      exact ⟨by simpa using F0, by simp, by simpa using F2, by simpa using F3, by simpa using F4, by simpa using F5, by simpa using F6, by simpa using F7, by simpa using F8, by simpa using F9, by simpa using F10, by simpa using F11, by simpa using F12, by simpa using F13, by simpa using F14, by simpa using F15, by simpa using F16, by simpa using F17, by simpa using F18, by simpa using F19, by simpa using F20, by simpa using F21⟩
    · refine if_free rfl ?_
      have d0 := hdep ⟨0, .data⟩ (by simp) rfl
      have e0 := val_at (F0 d0)
      have d1 := hdep ⟨1, .data⟩ (by simp) rfl
      have e1 := val_at (F1 d1)
      refine wp_value (.pointer (some ⟨b, off + f * 2, none⟩)) (w' := w9) (by simp [execOp, e0, e1, go_sem, s0, s1, s2, hXl, g0, g1, hbl9, hfI, hf1, hf2]) ⟨_, rfl, hb9, ?_⟩
      exact ⟨by simpa using F0, by simpa using F1, by simp, by simpa using F3, by simpa using F4, by simpa using F5, by simpa using F6, by simpa using F7, by simpa using F8, by simpa using F9, by simpa using F10, by simpa using F11, by simpa using F12, by simpa using F13, by simpa using F14, by simpa using F15, by simpa using F16, by simpa using F17, by simpa using F18, by simpa using F19, by simpa using F20, by simpa using F21⟩
    · refine if_free rfl ?_
      have d2 := hdep ⟨2, .data⟩ (by simp) rfl
      have e2 := val_at (F2 d2)
      refine wp_value (.pointer (some ⟨b, off + f * 2, none⟩)) (w' := w9) (by simp [execOp, e2, go_sem, s0, s1, s2, hXl, g0, g1, hbl9, hfI, hf1, hf2]) ⟨_, rfl, hb9, ?_⟩
      exact ⟨by simpa using F0, by simpa using F1, by simpa using F2, by simp, by simpa using F4, by simpa using F5, by simpa using F6, by simpa using F7, by simpa using F8, by simpa using F9, by simpa using F10, by simpa using F11, by simpa using F12, by simpa using F13, by simpa using F14, by simpa using F15, by simpa using F16, by simpa using F17, by simpa using F18, by simpa using F19, by simpa using F20, by simpa using F21⟩
    · refine if_free rfl ?_
      have d3 := hdep ⟨3, .data⟩ (by simp) rfl
      have e3 := val_at (F3 d3)
      refine wp_value (.int .i64 px) (w' := w9) (by simp [execOp, e3, go_sem, s0, s1, s2, hXl, g0, g1, hbl9, hfI, hf1, hf2]) ⟨_, rfl, hb9, ?_⟩
      exact ⟨by simpa using F0, by simpa using F1, by simpa using F2, by simpa using F3, by simp, by simpa using F5, by simpa using F6, by simpa using F7, by simpa using F8, by simpa using F9, by simpa using F10, by simpa using F11, by simpa using F12, by simpa using F13, by simpa using F14, by simpa using F15, by simpa using F16, by simpa using F17, by simpa using F18, by simpa using F19, by simpa using F20, by simpa using F21⟩
    · refine if_free rfl ?_
      have x7 := val_at (hv 7 (by simp))
      simp [valsOf] at x7
      refine wp_value (.slice (some ⟨b, off, none⟩) (s.size + 1) c) (w' := w9) (by simp [execOp, x7, go_sem, s0, s1, s2, hXl, g0, g1, hbl9, hfI, hf1, hf2]) ⟨_, rfl, hb9, ?_⟩
      exact ⟨by simpa using F0, by simpa using F1, by simpa using F2, by simpa using F3, by simpa using F4, by simp, by simpa using F6, by simpa using F7, by simpa using F8, by simpa using F9, by simpa using F10, by simpa using F11, by simpa using F12, by simpa using F13, by simpa using F14, by simpa using F15, by simpa using F16, by simpa using F17, by simpa using F18, by simpa using F19, by simpa using F20, by simpa using F21⟩
    · refine if_free rfl ?_
      have x1 := val_at (hv 1 (by simp))
      simp [valsOf] at x1
      refine wp_value (.int .i64 (f : Int)) (w' := w9) (by simp [execOp, x1, go_sem, s0, s1, s2, hXl, g0, g1, hbl9, hfI, hf1, hf2]) ⟨_, rfl, hb9, ?_⟩
      exact ⟨by simpa using F0, by simpa using F1, by simpa using F2, by simpa using F3, by simpa using F4, by simpa using F5, by simp, by simpa using F7, by simpa using F8, by simpa using F9, by simpa using F10, by simpa using F11, by simpa using F12, by simpa using F13, by simpa using F14, by simpa using F15, by simpa using F16, by simpa using F17, by simpa using F18, by simpa using F19, by simpa using F20, by simpa using F21⟩
    · refine if_free rfl ?_
      have d5 := hdep ⟨5, .data⟩ (by simp) rfl
      have e5 := val_at (F5 d5)
      have d6 := hdep ⟨6, .data⟩ (by simp) rfl
      have e6 := val_at (F6 d6)
      refine wp_value (.pointer (some ⟨b, off + f * 2, none⟩)) (w' := w9) (by simp [execOp, e5, e6, go_sem, s0, s1, s2, hXl, g0, g1, hbl9, hfI, hf1, hf2]) ⟨_, rfl, hb9, ?_⟩
      exact ⟨by simpa using F0, by simpa using F1, by simpa using F2, by simpa using F3, by simpa using F4, by simpa using F5, by simpa using F6, by simp, by simpa using F8, by simpa using F9, by simpa using F10, by simpa using F11, by simpa using F12, by simpa using F13, by simpa using F14, by simpa using F15, by simpa using F16, by simpa using F17, by simpa using F18, by simpa using F19, by simpa using F20, by simpa using F21⟩
    · refine if_free rfl ?_
      have d7 := hdep ⟨7, .data⟩ (by simp) rfl
      have e7 := val_at (F7 d7)
      refine wp_value (.pointer (some ⟨b, off + f * 2 + 1, none⟩)) (w' := w9) (by simp [execOp, e7, go_sem, s0, s1, s2, hXl, g0, g1, hbl9, hfI, hf1, hf2]) ⟨_, rfl, hb9, ?_⟩
      exact ⟨by simpa using F0, by simpa using F1, by simpa using F2, by simpa using F3, by simpa using F4, by simpa using F5, by simpa using F6, by simpa using F7, by simp, by simpa using F9, by simpa using F10, by simpa using F11, by simpa using F12, by simpa using F13, by simpa using F14, by simpa using F15, by simpa using F16, by simpa using F17, by simpa using F18, by simpa using F19, by simpa using F20, by simpa using F21⟩
    · refine if_free rfl ?_
      have d8 := hdep ⟨8, .data⟩ (by simp) rfl
      have e8 := val_at (F8 d8)
      refine wp_value (.int .i64 py) (w' := w9) (by simp [execOp, e8, go_sem, s0, s1, s2, hXl, g0, g1, hbl9, hfI, hf1, hf2]) ⟨_, rfl, hb9, ?_⟩
      exact ⟨by simpa using F0, by simpa using F1, by simpa using F2, by simpa using F3, by simpa using F4, by simpa using F5, by simpa using F6, by simpa using F7, by simpa using F8, by simp, by simpa using F10, by simpa using F11, by simpa using F12, by simpa using F13, by simpa using F14, by simpa using F15, by simpa using F16, by simpa using F17, by simpa using F18, by simpa using F19, by simpa using F20, by simpa using F21⟩
    · refine if_free rfl ?_
      have x3 := val_at (hv 3 (by simp))
      simp [valsOf] at x3
      refine wp_value (.pointer (some ⟨X, 2, none⟩)) (w' := w9) (by simp [execOp, x3, go_sem, s0, s1, s2, hXl, g0, g1, hbl9, hfI, hf1, hf2]) ⟨_, rfl, hb9, ?_⟩
      exact ⟨by simpa using F0, by simpa using F1, by simpa using F2, by simpa using F3, by simpa using F4, by simpa using F5, by simpa using F6, by simpa using F7, by simpa using F8, by simpa using F9, by simp, by simpa using F11, by simpa using F12, by simpa using F13, by simpa using F14, by simpa using F15, by simpa using F16, by simpa using F17, by simpa using F18, by simpa using F19, by simpa using F20, by simpa using F21⟩
    · refine if_free rfl ?_
      have d10 := hdep ⟨10, .data⟩ (by simp) rfl
      have e10 := val_at (F10 d10)
      refine wp_value (.string s) (w' := w9) (by simp [execOp, e10, go_sem, s0, s1, s2, hXl, g0, g1, hbl9, hfI, hf1, hf2]) ⟨_, rfl, hb9, ?_⟩
      exact ⟨by simpa using F0, by simpa using F1, by simpa using F2, by simpa using F3, by simpa using F4, by simpa using F5, by simpa using F6, by simpa using F7, by simpa using F8, by simpa using F9, by simpa using F10, by simp, by simpa using F12, by simpa using F13, by simpa using F14, by simpa using F15, by simpa using F16, by simpa using F17, by simpa using F18, by simpa using F19, by simpa using F20, by simpa using F21⟩
    · refine if_free rfl ?_
      have x1 := val_at (hv 1 (by simp))
      simp [valsOf] at x1
      refine wp_value (.int .i64 (f : Int)) (w' := w9) (by simp [execOp, x1, go_sem, s0, s1, s2, hXl, g0, g1, hbl9, hfI, hf1, hf2]) ⟨_, rfl, hb9, ?_⟩
      exact ⟨by simpa using F0, by simpa using F1, by simpa using F2, by simpa using F3, by simpa using F4, by simpa using F5, by simpa using F6, by simpa using F7, by simpa using F8, by simpa using F9, by simpa using F10, by simpa using F11, by simp, by simpa using F13, by simpa using F14, by simpa using F15, by simpa using F16, by simpa using F17, by simpa using F18, by simpa using F19, by simpa using F20, by simpa using F21⟩
    · refine if_free rfl ?_
      have d11 := hdep ⟨11, .data⟩ (by simp) rfl
      have e11 := val_at (F11 d11)
      have d12 := hdep ⟨12, .data⟩ (by simp) rfl
      have e12 := val_at (F12 d12)
      refine wp_value (.string ⟨(l.drop f).toArray⟩) (w' := w9) (by simp [execOp, e11, e12, go_sem, hsl1]) ⟨_, rfl, hb9, ?_⟩
      exact ⟨by simpa using F0, by simpa using F1, by simpa using F2, by simpa using F3, by simpa using F4, by simpa using F5, by simpa using F6, by simpa using F7, by simpa using F8, by simpa using F9, by simpa using F10, by simpa using F11, by simpa using F12, by simp, by simpa using F14, by simpa using F15, by simpa using F16, by simpa using F17, by simpa using F18, by simpa using F19, by simpa using F20, by simpa using F21⟩
    · refine if_free rfl ?_
      have x3 := val_at (hv 3 (by simp))
      simp [valsOf] at x3
      refine wp_value (.pointer (some ⟨X, 2, none⟩)) (w' := w9) (by simp [execOp, x3, go_sem, s0, s1, s2, hXl, g0, g1, hbl9, hfI, hf1, hf2]) ⟨_, rfl, hb9, ?_⟩
      exact ⟨by simpa using F0, by simpa using F1, by simpa using F2, by simpa using F3, by simpa using F4, by simpa using F5, by simpa using F6, by simpa using F7, by simpa using F8, by simpa using F9, by simpa using F10, by simpa using F11, by simpa using F12, by simpa using F13, by simp, by simpa using F15, by simpa using F16, by simpa using F17, by simpa using F18, by simpa using F19, by simpa using F20, by simpa using F21⟩
    · refine if_free rfl ?_
      have d14 := hdep ⟨14, .data⟩ (by simp) rfl
      have e14 := val_at (F14 d14)
      refine wp_value (.string s) (w' := w9) (by simp [execOp, e14, go_sem, s0, s1, s2, hXl, g0, g1, hbl9, hfI, hf1, hf2]) ⟨_, rfl, hb9, ?_⟩
      exact ⟨by simpa using F0, by simpa using F1, by simpa using F2, by simpa using F3, by simpa using F4, by simpa using F5, by simpa using F6, by simpa using F7, by simpa using F8, by simpa using F9, by simpa using F10, by simpa using F11, by simpa using F12, by simpa using F13, by simpa using F14, by simp, by simpa using F16, by simpa using F17, by simpa using F18, by simpa using F19, by simpa using F20, by simpa using F21⟩
    · refine if_free rfl ?_
      have x1 := val_at (hv 1 (by simp))
      simp [valsOf] at x1
      refine wp_value (.int .i64 (f : Int)) (w' := w9) (by simp [execOp, x1, go_sem, s0, s1, s2, hXl, g0, g1, hbl9, hfI, hf1, hf2]) ⟨_, rfl, hb9, ?_⟩
      exact ⟨by simpa using F0, by simpa using F1, by simpa using F2, by simpa using F3, by simpa using F4, by simpa using F5, by simpa using F6, by simpa using F7, by simpa using F8, by simpa using F9, by simpa using F10, by simpa using F11, by simpa using F12, by simpa using F13, by simpa using F14, by simpa using F15, by simp, by simpa using F17, by simpa using F18, by simpa using F19, by simpa using F20, by simpa using F21⟩
    · refine if_free rfl ?_
      have d15 := hdep ⟨15, .data⟩ (by simp) rfl
      have e15 := val_at (F15 d15)
      have d16 := hdep ⟨16, .data⟩ (by simp) rfl
      have e16 := val_at (F16 d16)
      refine wp_value (.string ⟨(l.take f).toArray⟩) (w' := w9) (by simp [execOp, e15, e16, go_sem, hsl2]) ⟨_, rfl, hb9, ?_⟩
      exact ⟨by simpa using F0, by simpa using F1, by simpa using F2, by simpa using F3, by simpa using F4, by simpa using F5, by simpa using F6, by simpa using F7, by simpa using F8, by simpa using F9, by simpa using F10, by simpa using F11, by simpa using F12, by simpa using F13, by simpa using F14, by simpa using F15, by simpa using F16, by simp, by simpa using F18, by simpa using F19, by simpa using F20, by simpa using F21⟩
    · refine if_free rfl ?_
      have d13 := hdep ⟨13, .data⟩ (by simp) rfl
      have e13 := val_at (F13 d13)
      have d17 := hdep ⟨17, .data⟩ (by simp) rfl
      have e17 := val_at (F17 d17)
      refine wp_value (.string ⟨(rotU f l).toArray⟩) (w' := w9) (by simp [execOp, e13, e17, go_sem, hbig, hmk]) ⟨_, rfl, hb9, ?_⟩
      exact ⟨by simpa using F0, by simpa using F1, by simpa using F2, by simpa using F3, by simpa using F4, by simpa using F5, by simpa using F6, by simpa using F7, by simpa using F8, by simpa using F9, by simpa using F10, by simpa using F11, by simpa using F12, by simpa using F13, by simpa using F14, by simpa using F15, by simpa using F16, by simpa using F17, by simp, by simpa using F19, by simpa using F20, by simpa using F21⟩
    · refine if_free rfl ?_
      have d4 := hdep ⟨4, .data⟩ (by simp) rfl
      have e4 := val_at (F4 d4)
      have d9 := hdep ⟨9, .data⟩ (by simp) rfl
      have e9 := val_at (F9 d9)
      have d18 := hdep ⟨18, .data⟩ (by simp) rfl
      have e18 := val_at (F18 d18)
      refine wp_calls (f := 58) (args := #[.int .i64 px, .int .i64 py, .string ⟨(rotU f l).toArray⟩]) (w' := w9) (by simp [execOp, e4, e9, e18, go_sem]) (mkchain_any _ _ _ w9) ?_
      rintro e w10 ⟨rfl, hg⟩
      refine ⟨_, rfl, _, rfl, bl_trans hb9 hg, ?_⟩
      exact ⟨by simpa using F0, by simpa using F1, by simpa using F2, by simpa using F3, by simpa using F4, by simpa using F5, by simpa using F6, by simpa using F7, by simpa using F8, by simpa using F9, by simpa using F10, by simpa using F11, by simpa using F12, by simpa using F13, by simpa using F14, by simpa using F15, by simpa using F16, by simpa using F17, by simpa using F18, by simp, by simpa using fun h => (F20 h).mono hg, by simpa using F21⟩
    · refine if_free rfl ?_
      have hg : Below w9.heap.size w9 (w9.alloc (.cells #[.int .i64 0, .int .i64 0, .string ⟨#[]⟩] 45)) := bl_alloc (bl_refl _) _
      have hs : seen 21 = false := by
        cases h : seen 21 with
        | false => rfl
        | true => have := F21 h; rw [this] at hsi; cases hsi
      refine wp_value (.pointer (some ⟨w9.heap.size, 0, none⟩)) (w' := w9.alloc (.cells #[.int .i64 0, .int .i64 0, .string ⟨#[]⟩] 45)) (by simp [execOp, go_sem]) ⟨_, rfl, bl_trans hb9 hg, ?_⟩
      exact ⟨by simpa using F0, by simpa using F1, by simpa using F2, by simpa using F3, by simpa using F4, by simpa using F5, by simpa using F6, by simpa using F7, by simpa using F8, by simpa using F9, by simpa using F10, by simpa using F11, by simpa using F12, by simpa using F13, by simpa using F14, by simpa using F15, by simpa using F16, by simpa using F17, by simpa using F18, by simpa using F19, by simpa [hs] using BoxAt.new (by have := hb9.size; omega), by simpa using F21⟩
    · refine if_free rfl ?_
      have d20 := hdep ⟨20, .data⟩ (by simp) rfl
      have d19 := hdep ⟨19, .data⟩ (by simp) rfl
      have e19 := val_at (F19 d19)
      have e1 := F20 d20
      rw [hsi] at e1
      simp only [Bool.false_eq_true, if_false] at e1
      obtain ⟨B, hB, hB2, hB3⟩ := e1
      have ep := val_at hB
      have c0 := cell_of_heap (i := 0) hB3
      have c1 := cell_of_heap (i := 1) hB3
      have c2 := cell_of_heap (i := 2) hB3
      have f0 := fun i => frozen_of_heap (i := i) hB3
      have hBl := (Array.getElem?_eq_some_iff.1 hB3).1
      have hst := BoxAt.put3 hB hB2 hB3 (.int .i64 px) (.int .i64 py) (.string ⟨(rotU f l).toArray⟩)
      refine wp_effect (w' := (((w9.setCell ⟨B, 0, none⟩ (.int .i64 px)).setCell ⟨B, 1, none⟩ (.int .i64 py)).setCell ⟨B, 2, none⟩ (.string ⟨(rotU f l).toArray⟩))) (by simp [execOp, e19, ep, go_sem, c0, c1, c2, f0, hBl]) ⟨_, rfl, (bl_set (bl_set (bl_set hb9 _ hB2) _ hB2) _ hB2), ?_⟩
      exact ⟨by simpa using F0, by simpa using F1, by simpa using F2, by simpa using F3, by simpa using F4, by simpa using F5, by simpa using F6, by simpa using F7, by simpa using F8, by simpa using F9, by simpa using F10, by simpa using F11, by simpa using F12, by simpa using F13, by simpa using F14, by simpa using F15, by simpa using F16, by simpa using F17, by simpa using F18, by simpa using F19, by simpa using fun _ => hst.1, by simpa using d20⟩
  intro u w2 hb2 seen hall ⟨F0, F1, F2, F3, F4, F5, F6, F7, F8, F9, F10, F11, F12, F13, F14, F15, F16, F17, F18, F19, F20, F21⟩
  replace F0 := F0 (hall 0 (by decide))
  replace F1 := F1 (hall 1 (by decide))
  replace F2 := F2 (hall 2 (by decide))
  replace F3 := F3 (hall 3 (by decide))
  replace F4 := F4 (hall 4 (by decide))
  replace F5 := F5 (hall 5 (by decide))
  replace F6 := F6 (hall 6 (by decide))
  replace F7 := F7 (hall 7 (by decide))
  replace F8 := F8 (hall 8 (by decide))
  replace F9 := F9 (hall 9 (by decide))
  replace F10 := F10 (hall 10 (by decide))
  replace F11 := F11 (hall 11 (by decide))
  replace F12 := F12 (hall 12 (by decide))
  replace F13 := F13 (hall 13 (by decide))
  replace F14 := F14 (hall 14 (by decide))
  replace F15 := F15 (hall 15 (by decide))
  replace F16 := F16 (hall 16 (by decide))
  replace F17 := F17 (hall 17 (by decide))
  replace F18 := F18 (hall 18 (by decide))
  replace F19 := F19 (hall 19 (by decide))
  replace F20 := F20 (hall 20 (by decide))
  replace F21 := F21 (hall 21 (by decide))
  have HB2 := hid (bl_trans HB1.out hb2)
  have HR2 := hid (heap_mono HR1.out hb2)
  have HX2 := hid (heap_mono HX1.out hb2)
  have hbox := F20
  have hst := hall 21 (by decide)
  rw [if_pos hst] at hbox
  clear hall hst F0 F1 F2 F3 F4 F5 F6 F7 F8 F9 F10 F11 F12 F13 F14 F15 F16 F17 F18 F19 F21 F20 seen hsl1 hsl2 hbig hmk hb2 HB1 HX1 hfI hf1 hf2
  obtain ⟨Y, hY, hYX, hYb⟩ := hbox
  simp only [setAll, hY]
  have hRl := (Array.getElem?_eq_some_iff.1 HR1.out).1
  have hRY : RB ≠ Y := by omega
  have HWY : Hid (w.heap.size ≤ Y) := by show w.heap.size ≤ Y; have := HB1s.out; omega
  clear hRl
  have HYb := hid hYb
  have HRY := hid hRY
  have hwR : w.heap.size ≤ RB := hwX.out
  obtain ⟨rt, hrt⟩ : ∃ r, rotU f l = r := ⟨_, rfl⟩
  have HRT := hid hrt
  have hrl : rt.length = l.length := by rw [← hrt]; unfold rotU; simp; omega
  rw [hrt] at HYb
  clear hrt hYb hYX hY hRY
  have r0 : w2.cell? ⟨RB, 0, none⟩ = some (.int .i64 0) := cell_of_heap HR2.out
  have r1 : w2.cell? ⟨RB, 1, none⟩ = some (.int .i64 0) := cell_of_heap HR2.out
  have r2 : w2.cell? ⟨RB, 2, none⟩ = some (.string ⟨#[]⟩) := cell_of_heap HR2.out
  have rf : ∀ i, w2.frozen? ⟨RB, i, none⟩ = false := fun i => frozen_of_heap HR2.out
  have rl := (Array.getElem?_eq_some_iff.1 HR2.out).1
  have y0 : w2.cell? ⟨Y, 0, none⟩ = some (.int .i64 px) := cell_of_heap HYb.out
  have y1 : w2.cell? ⟨Y, 1, none⟩ = some (.int .i64 py) := cell_of_heap HYb.out
  have y2 : w2.cell? ⟨Y, 2, none⟩ = some (.string ⟨rt.toArray⟩) := cell_of_heap HYb.out
  have yf : ∀ i, w2.frozen? ⟨Y, i, none⟩ = false := fun i => frozen_of_heap HYb.out
  have yl := (Array.getElem?_eq_some_iff.1 HYb.out).1
  cases back with
  | false =>
    have e : rt = ZL := by rw [← HZ.out]; unfold turnU; rw [if_neg (by simp), HRT.out]
    subst e
    have h1 : (w2.setCell ⟨RB, 0, none⟩ (.int .i64 px)).heap[RB]? = some (.cells #[.int .i64 px, .int .i64 0, .string ⟨#[]⟩] 45 (0, 0)) := by rw [heap_setCell_same _ _ _ _ _ _ HR2.out]; rfl
    have h2 : ((w2.setCell ⟨RB, 0, none⟩ (.int .i64 px)).setCell ⟨RB, 1, none⟩ (.int .i64 py)).heap[RB]? = some (.cells #[.int .i64 px, .int .i64 py, .string ⟨#[]⟩] 45 (0, 0)) := by rw [heap_setCell_same _ _ _ _ _ _ h1]; rfl
    have h3 : (((w2.setCell ⟨RB, 0, none⟩ (.int .i64 px)).setCell ⟨RB, 1, none⟩ (.int .i64 py)).setCell ⟨RB, 2, none⟩ (.string ⟨rt.toArray⟩)).heap[RB]? = some (.cells #[.int .i64 px, .int .i64 py, .string ⟨rt.toArray⟩] 45 (0, 0)) := by rw [heap_setCell_same _ _ _ _ _ _ h2]; rfl
    have HS := hid h3
    have bb := hid (bl_set (o := 2) (bl_set (o := 1) (bl_set (o := 0) HB2.out (.int .i64 px) hwR) (.int .i64 py) hwR) (.string ⟨rt.toArray⟩) hwR)
    clear h1 h2 h3
    go_wp2
    have c0 := cell_of_heap (i := 0) HS.out
    have c1 := cell_of_heap (i := 1) HS.out
    have c2 := cell_of_heap (i := 2) HS.out
    refine bodyPost_ret (v := .agg #[.int .i64 px, .int .i64 py, .string ⟨rt.toArray⟩]) (by simp [results, Try.results56, go_sem, c0, c1, c2]) rfl ⟨rfl, bb.out⟩
  | true =>
    have e : ZL = revU rt := by rw [← HZ.out]; unfold turnU; rw [if_pos rfl, HRT.out]
    subst e
    go_upto_region 5 with (fail)
    go_wp2
    go_loopw [9, 10, 11] (fun a p _ wr => ∃ k : Nat, k ≤ rt.length ∧ p = .int .i64 (k : Int) ∧ a = .string ⟨(revU (rt.take k)).toArray⟩ ∧ wr = w2) (fun _ p _ _ => rt.length - (intOf p).toNat)
    case atStart => exact ⟨0, Nat.zero_le _, rfl, rfl, rfl⟩
    case round =>
    obtain ⟨k, hk, rfl, rfl, hwr⟩ := hrel
    subst wr
    by_cases hlt : k < rt.length
    · obtain ⟨b8, hb8⟩ := get_at hlt
      have hst := revU_take hb8
      have HST := hid hst
      have hkI : (k : Int) < (rt.length : Int) := by omega
      have hidx := fun W => index_run (s := ⟨rt.toArray⟩) (k := k) (b := b8.toNat) (by rw [bytesL_list, List.getElem?_map, hb8]; rfl) W
      have hrl2 : (revU (rt.take k)).length = k := by unfold revU; simp; omega
      obtain ⟨ac, hac⟩ : ∃ a, revU (rt.take k) = a := ⟨_, rfl⟩
      rw [hac] at HST hrl2 ⊢
      clear hst hb8 hac
      have hbig : ¬ (9223372036854775807 < 1 + ac.length) := by omega
      by_cases d0 : b8 = 78
      · have t0 : ((b8.toNat : Int) == 78) = true := by rw [d0]; rfl
        have e : flipU b8 = 83 := by unfold flipU; rw [if_pos d0]
        rw [e] at HST
        have hmk : ByteArray.mk #[83] ++ ByteArray.mk ac.toArray = ByteArray.mk ((83 : UInt8) :: ac).toArray := ByteArray.mk_append_mk [83] ac
        clear e
        go_wp2
        go_roundw
        case rel => exact ⟨k + 1, by omega, by go_num, by rw [HST.out], trivial⟩
        case measure => simp [intOf]; omega
      have t0 : ((b8.toNat : Int) == 78) = false := beq_eq_false_iff_ne.2 fun h => d0 (UInt8.toNat_inj.1 (by show b8.toNat = 78; omega))
      by_cases d1 : b8 = 87
      · have t1 : ((b8.toNat : Int) == 87) = true := by rw [d1]; rfl
        have e : flipU b8 = 69 := by unfold flipU; rw [if_neg d0, if_pos d1]
        rw [e] at HST
        have hmk : ByteArray.mk #[69] ++ ByteArray.mk ac.toArray = ByteArray.mk ((69 : UInt8) :: ac).toArray := ByteArray.mk_append_mk [69] ac
        clear e
        go_wp2
        go_roundw
        case rel => exact ⟨k + 1, by omega, by go_num, by rw [HST.out], trivial⟩
        case measure => simp [intOf]; omega
      have t1 : ((b8.toNat : Int) == 87) = false := beq_eq_false_iff_ne.2 fun h => d1 (UInt8.toNat_inj.1 (by show b8.toNat = 87; omega))
      by_cases d2 : b8 = 83
      · have t2 : ((b8.toNat : Int) == 83) = true := by rw [d2]; rfl
        have e : flipU b8 = 78 := by unfold flipU; rw [if_neg d0, if_neg d1, if_pos d2]
        rw [e] at HST
        have hmk : ByteArray.mk #[78] ++ ByteArray.mk ac.toArray = ByteArray.mk ((78 : UInt8) :: ac).toArray := ByteArray.mk_append_mk [78] ac
        clear e
        go_wp2
        go_roundw
        case rel => exact ⟨k + 1, by omega, by go_num, by rw [HST.out], trivial⟩
        case measure => simp [intOf]; omega
      · have t2 : ((b8.toNat : Int) == 83) = false := beq_eq_false_iff_ne.2 fun h => d2 (UInt8.toNat_inj.1 (by show b8.toNat = 83; omega))
        have e : flipU b8 = 87 := by unfold flipU; rw [if_neg d0, if_neg d1, if_neg d2]
        rw [e] at HST
        have hmk : ByteArray.mk #[87] ++ ByteArray.mk ac.toArray = ByteArray.mk ((87 : UInt8) :: ac).toArray := ByteArray.mk_append_mk [87] ac
        clear e
        go_wp2
        go_roundw
        case rel => exact ⟨k + 1, by omega, by go_num, by rw [HST.out], trivial⟩
        case measure => simp [intOf]; omega
    · obtain rfl : k = rt.length := by omega
      rw [List.take_length]
      have hYR : Y ≠ RB := fun e => HRY.out e.symm
      have g0 : (w2.setCell ⟨Y, 2, none⟩ (.string ⟨(revU rt).toArray⟩)).heap[RB]? = some (.cells #[.int .i64 0, .int .i64 0, .string ⟨#[]⟩] 45 (0, 0)) := past_set HRY.out HR2.out
      have g1 : (w2.setCell ⟨Y, 2, none⟩ (.string ⟨(revU rt).toArray⟩)).heap[Y]? = some (.cells #[.int .i64 px, .int .i64 py, .string ⟨(revU rt).toArray⟩] 45 (0, 0)) := by rw [heap_setCell_same _ _ _ _ _ _ HYb.out]; rfl
      have bY := hid (bl_set (o := 2) HB2.out (.string ⟨(revU rt).toArray⟩) HWY.out)
      have G0 := hid g0
      have G1 := hid g1
      clear g0 g1 hlt
      go_upto_region 19 with (fail)
      obtain ⟨w3, hw3⟩ : ∃ w3, w2.setCell ⟨Y, 2, none⟩ (.string ⟨(revU rt).toArray⟩) = w3 := ⟨_, rfl⟩
      rw [hw3] at bY G0 G1 ⊢
      clear hw3 r0 r1 r2 rf rl y0 y1 y2 yf yl
      have r0 : w3.cell? ⟨RB, 0, none⟩ = some (.int .i64 0) := cell_of_heap G0.out
      have r1 : w3.cell? ⟨RB, 1, none⟩ = some (.int .i64 0) := cell_of_heap G0.out
      have r2 : w3.cell? ⟨RB, 2, none⟩ = some (.string ⟨#[]⟩) := cell_of_heap G0.out
      have rf : ∀ i, w3.frozen? ⟨RB, i, none⟩ = false := fun i => frozen_of_heap G0.out
      have rl := (Array.getElem?_eq_some_iff.1 G0.out).1
      have y0 : w3.cell? ⟨Y, 0, none⟩ = some (.int .i64 px) := cell_of_heap G1.out
      have y1 : w3.cell? ⟨Y, 1, none⟩ = some (.int .i64 py) := cell_of_heap G1.out
      have y2 : w3.cell? ⟨Y, 2, none⟩ = some (.string ⟨(revU rt).toArray⟩) := cell_of_heap G1.out
      have yl := (Array.getElem?_eq_some_iff.1 G1.out).1
      have h1 : (w3.setCell ⟨RB, 0, none⟩ (.int .i64 px)).heap[RB]? = some (.cells #[.int .i64 px, .int .i64 0, .string ⟨#[]⟩] 45 (0, 0)) := by rw [heap_setCell_same _ _ _ _ _ _ G0.out]; rfl
      have h2 : ((w3.setCell ⟨RB, 0, none⟩ (.int .i64 px)).setCell ⟨RB, 1, none⟩ (.int .i64 py)).heap[RB]? = some (.cells #[.int .i64 px, .int .i64 py, .string ⟨#[]⟩] 45 (0, 0)) := by rw [heap_setCell_same _ _ _ _ _ _ h1]; rfl
      have h3 : (((w3.setCell ⟨RB, 0, none⟩ (.int .i64 px)).setCell ⟨RB, 1, none⟩ (.int .i64 py)).setCell ⟨RB, 2, none⟩ (.string ⟨(revU rt).toArray⟩)).heap[RB]? = some (.cells #[.int .i64 px, .int .i64 py, .string ⟨(revU rt).toArray⟩] 45 (0, 0)) := by rw [heap_setCell_same _ _ _ _ _ _ h2]; rfl
      have HS := hid h3
      have bb := hid (bl_set (o := 2) (bl_set (o := 1) (bl_set (o := 0) bY.out (.int .i64 px) hwR) (.int .i64 py) hwR) (.string ⟨(revU rt).toArray⟩) hwR)
      clear h1 h2 h3 hYR
      go_wp2
      have c0 := cell_of_heap (i := 0) HS.out
      have c1 := cell_of_heap (i := 1) HS.out
      have c2 := cell_of_heap (i := 2) HS.out
      refine bodyPost_ret (v := .agg #[.int .i64 px, .int .i64 py, .string ⟨(revU rt).toArray⟩]) (by simp [results, Try.results56, go_sem, c0, c1, c2]) rfl ⟨rfl, bb.out⟩
end Go.Proofs.Ytlkoadcbolkhoaa
