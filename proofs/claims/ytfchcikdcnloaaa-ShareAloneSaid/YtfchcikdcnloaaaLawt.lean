/- ShareAlone: the walk through the law. -/
import Derived.Test.YtfchcikdcnloaaaLawf
import Derived.Test.YtfchcikdcnloaaaPlain7
import Derived.Test.YtfchcikdcnloaaaRegs
import Derived.Test.YtfchcikdcnloaaaSteps
import Derived.Test.YtfchcikdcnloaaaFree
import Derived.Deep.RegionLaw
import Derived.Deep.Cut
namespace Go.Proofs.Ytfchcikdcnloaaa
open Go Go.RowKit Go.Proofs
attribute [local go_sem] cell_grow frozen_grow

theorem two_new (w : World) (x y : Array Value) (t : TypeId) : ((w.alloc (.cells x t)).alloc (.cells y t)).heap[w.heap.size]? = some (.cells x t (0, 0)) ∧ ((w.alloc (.cells x t)).alloc (.cells y t)).heap[w.heap.size + 1]? = some (.cells y t (0, 0)) ∧ Below w.heap.size w ((w.alloc (.cells x t)).alloc (.cells y t)) := by
  refine ⟨heap_mono (World.alloc_heap_new _ _) (bl_alloc (bl_refl _) _), ?_, bl_alloc (bl_alloc (bl_refl _) _) _⟩
  have := World.alloc_heap_new (w.alloc (.cells x t)) (.cells y t)
  rw [World.size_alloc] at this
  exact this

set_option maxRecDepth 100000 in
set_option maxHeartbeats 16000000 in
theorem shareAlone_out (had : List Int) (part prize : Int) (xs : List Int) (bits : Int) (s s2 : Value) (w : World) (hs : Ints w s had) (hs2 : Ints w s2 xs) (hout : ¬ checkPool had part prize = 0 ∨ 20 < xs.length) :
    Calls Try.prog 11 #[.agg #[s, .int .i64 part, .int .i64 prize], s2, .int .u16 bits] w fun e w' => e = .returned (.bool true) ∧ Below w.heap.size w w' := by
  obtain ⟨A, c, rfl⟩ := hs.slice
  obtain ⟨A2, c2, rfl⟩ := hs2.slice
  by_cases h0 : checkPool had part prize = 0
  case neg =>
    have HD := hid (decide_eq_false h0)
    clear h0 hout
    go_enter Try.func11, Try.ntmps11
    go_wp2_with fail
    refine (fine_any had part prize _ _ (hs.mono (bl_alloc (bl_refl _) _))).mono ?_
    rintro e w1 ⟨rfl, hb1⟩
    rw [HD.out]
    have k1 := heap_new hb1
    have hr1 := fun i => cell_of_heap (i := i) k1
    have hB1 := bl_trans (bl_alloc (bl_refl w) _) hb1
    have hl1 : w.heap.size < w1.heap.size := (Array.getElem?_eq_some_iff.1 k1).1
    clear k1
    go_wp2_with fail
    refine (works_any _).mono ?_
    rintro e wz ⟨rfl, hbz⟩
    go_wp2
    go_ret
    exact ⟨rfl, bl_trans hB1 hbz⟩
  have HD := hid (decide_eq_true h0)
  have d1 : decide ((20 : Int) < (xs.length : Int)) = true := by
    rcases hout with h | h
    · exact absurd h0 h
    · simp; omega
  clear h0 hout
  go_enter Try.func11, Try.ntmps11
  go_wp2_with fail
  refine (fine_any had part prize _ _ (hs.mono (bl_alloc (bl_refl _) _))).mono ?_
  rintro e w1 ⟨rfl, hb1⟩
  rw [HD.out]
  have k1 := heap_new hb1
  have hr1 := fun i => cell_of_heap (i := i) k1
  have hB1 := bl_trans (bl_alloc (bl_refl w) _) hb1
  have hl1 : w.heap.size < w1.heap.size := (Array.getElem?_eq_some_iff.1 k1).1
  clear k1
  go_wp2_with fail
  refine (works_any _).mono ?_
  rintro e wz ⟨rfl, hbz⟩
  go_wp2
  go_ret
  exact ⟨rfl, bl_trans hB1 hbz⟩

/-- Whether an owner is wanted. -/
def bitB (bits : Int) (k : Nat) : Bool := Go.bits BinOp.and IntKind.u16 (bits / 2 ^ k) 1 == 1

theorem keep_sum_bd {sh : List Int} {prize : Int} (h : ∀ x ∈ sh, 0 ≤ x ∧ x ≤ prize) (hp : 0 ≤ prize) (P : Nat → Bool) (k : Nat) : 0 ≤ (keepL P sh k).sum ∧ (keepL P sh k).sum ≤ k * prize := by
  induction k with
  | zero => simp [keepL]
  | succ k ih =>
    have hx : 0 ≤ sh.getD k 0 ∧ sh.getD k 0 ≤ prize := by
      by_cases hk : k < sh.length
      · obtain ⟨x, hx⟩ := get_at hk
        have := h x (List.mem_of_getElem? hx)
        simpa [List.getD, hx] using this
      · simp [List.getD, List.getElem?_eq_none (Nat.le_of_not_lt hk), hp]
    have e : ((k + 1 : Nat) : Int) * prize = k * prize + prize := by rw [Int.natCast_add, Int.add_mul]; simp
    rw [e, keepL_succ]
    split
    · rw [sum_append]
      have e2 : ([sh.getD k 0] : List Int).sum = sh.getD k 0 := by simp
      omega
    · omega

set_option maxRecDepth 100000 in
set_option maxHeartbeats 16000000 in
theorem shareAlone_in (had : List Int) (part prize : Int) (xs : List Int) (bits : Int) (s s2 : Value) (w : World) (hs : Ints w s had) (hs2 : Ints w s2 xs) (_hb16 : 0 ≤ bits ∧ bits < 65536) (h0 : checkPool had part prize = 0) (h1 : xs.length ≤ 20) :
    Calls Try.prog 11 #[.agg #[s, .int .i64 part, .int .i64 prize], s2, .int .u16 bits] w fun e w' => e = .returned (.bool true) ∧ Below w.heap.size w w' := by
  have V := checkPool_ok.1 h0
  have HD := hid (decide_eq_true h0)
  have hv1 := V.l1
  have hv2 := V.l2
  clear h0
  obtain ⟨b0, off, c, rfl, hlc, hb0, hcell⟩ := hs.some hv1
  obtain ⟨A2, c2, rfl⟩ := hs2.slice
  have d1 : decide ((20 : Int) < (xs.length : Int)) = false := by simp; omega
  -- the shares that are taken
  obtain ⟨sh, hsh⟩ : ∃ sh, (if refSharesE had part prize xs = 0 then xs else sharesE had part prize) = sh := ⟨_, rfl⟩
  have hok : ShOk had part prize sh ∧ FairP had part sh := by
    subst hsh
    by_cases h : refSharesE had part prize xs = 0
    · rw [if_pos h]; exact refShares_ok'.1 h
    · rw [if_neg h]; exact ⟨own_ok V, own_fairP V⟩
  have HR1 : Hid (∀ W, Ints W (.slice (some ⟨b0, off, none⟩) had.length c) had → Calls Try.prog 40 #[.agg #[.slice (some ⟨b0, off, none⟩) had.length c, .int .i64 part, .int .i64 prize]] W fun e w' => (∃ v, e = .returned (.tuple #[v, .bool true]) ∧ Ints w' v (sharesE had part prize)) ∧ Below W.heap.size W w') := fun W hW => right_any had part prize _ W V hW
  have H21 : Hid (∀ W, Ints W (.slice (some ⟨b0, off, none⟩) had.length c) had → Ints W (.slice A2 xs.length c2) xs → Calls Try.prog 21 #[.agg #[.slice (some ⟨b0, off, none⟩) had.length c, .int .i64 part, .int .i64 prize], .slice A2 xs.length c2] W fun e w' => e = .returned (.int .i64 (refSharesE had part prize xs)) ∧ Below W.heap.size W w') := fun W hW hv => by
    have := checkShares_any had part prize xs _ _ W (by omega) (by omega) hW hv
    rwa [checkShares_law] at this
  have H22 : Hid (∀ W, Ints W (.slice (some ⟨b0, off, none⟩) had.length c) had → Ints W (.slice A2 xs.length c2) xs → Calls Try.prog 22 #[.agg #[.slice (some ⟨b0, off, none⟩) had.length c, .int .i64 part, .int .i64 prize], .slice A2 xs.length c2] W fun e w' => e = .returned (.int .i64 (refSharesE had part prize xs)) ∧ Below W.heap.size W w') := fun W hW hv => refCheckShares_any had part prize xs _ _ W (by omega) (by omega) hW hv
  have HSH := Lib.hid hsh
  have HOK := hid hok
  have HV := hid V
  have HC := Lib.hid hcell
  clear V hsh hok hcell
  go_enter Try.func11, Try.ntmps11
  go_wp2_with fail
  refine (fine_any had part prize _ _ (hs.mono (bl_alloc (bl_refl _) _))).mono ?_
  rintro e w1 ⟨rfl, hb1⟩
  rw [HD.out]
  have k1 := heap_new hb1
  have hr1 := fun i => cell_of_heap (i := i) k1
  have hB1 := bl_trans (bl_alloc (bl_refl w) _) hb1
  have hl1 : w.heap.size < w1.heap.size := (Array.getElem?_eq_some_iff.1 k1).1
  have K1 := hid k1
  clear k1
  go_wp2_with fail
  refine (HR1.out w1 (hs.mono hB1)).mono ?_
  rintro e w2 ⟨⟨v2, rfl, hI2⟩, hb2⟩
  have hB2 := bl_trans hB1 hb2
  have K2 := hid (heap_mono K1.out hb2)
  have hr2 := fun i => cell_of_heap (i := i) K2.out
  have hl2 : w.heap.size < w2.heap.size := (Array.getElem?_eq_some_iff.1 K2.out).1
  clear K1 hr1 hb1 hb2
  go_wp2_with fail
  refine (H21.out w2 (hs.mono hB2) (hs2.mono hB2)).mono ?_
  rintro e w3 ⟨rfl, hb3⟩
  have hB3 := bl_trans hB2 hb3
  have K3 := hid (heap_mono K2.out hb3)
  have hr3 := fun i => cell_of_heap (i := i) K3.out
  have hl3 : w.heap.size < w3.heap.size := (Array.getElem?_eq_some_iff.1 K3.out).1
  have hI3 := hI2.mono hb3
  clear K2 hr2 hI2
  have HSL : Hid (sh.length = had.length) := HOK.out.1.len
  have hsb : ∀ x ∈ sh, 0 ≤ x ∧ x ≤ prize := HOK.out.1.rng
  have HSB := Lib.hid hsb
  clear hsb
  have hz2 := HV.out.z2
  have hz1 := HV.out.z1
  by_cases hx : refSharesE had part prize xs = 0
  case' pos =>
    have dx : (refSharesE had part prize xs == 0) = true := by simpa using hx
    have dx2 : (refSharesE had part prize xs != 0) = false := by simpa using hx
    have e : sh = xs := by rw [← HSH.out, if_pos hx]
    clear hx
    go_wp2_with fail
    refine (H22.out w3 (hs.mono hB3) (hs2.mono hB3)).mono ?_
    rintro e w4 ⟨rfl, hb4⟩
    have hB4 := bl_trans hB3 hb4
    have hIs := hs2.mono hB4
    have K4 := hid (heap_mono K3.out hb4)
    have hr4 := fun i => cell_of_heap (i := i) K4.out
    have hr41 : w4.cell? ⟨w.heap.size, 1, none⟩ = some (.int .i64 part) := hr4 1
    have hl4 : w.heap.size < w4.heap.size := (Array.getElem?_eq_some_iff.1 K4.out).1
    clear K3 hr3 hI3 hb3 hb4
    subst e
    go_upto_region 10 with (fail)
    obtain ⟨bs, os, cs, e7, hcs, hbs, hcellS⟩ := hIs.some (by rw [HSL.out]; exact hv1)
    injection e7 with eA eB eC
    subst eA
    obtain rfl := eC.symm
  case' neg =>
    have dx : (refSharesE had part prize xs == 0) = false := by simpa using hx
    have e : sharesE had part prize = sh := by rw [← HSH.out, if_neg hx]
    clear hx
    rw [e] at hI3
    obtain ⟨w4, hw4⟩ : ∃ w4, w3 = w4 := ⟨_, rfl⟩
    rw [hw4] at K3 hr3 hI3 hB3 ⊢
    have hB4 := hB3
    have hIs := hI3
    have K4 := K3
    have hr4 := hr3
    have hr41 : w4.cell? ⟨w.heap.size, 1, none⟩ = some (.int .i64 part) := hr4 1
    have hl4 : w.heap.size < w4.heap.size := (Array.getElem?_eq_some_iff.1 K4.out).1
    clear K3 hr3 hI3 hb3 hB3 hw4
    obtain ⟨bs, os, cs, e7, hcs, hbs, hcellS⟩ := hIs.some (by rw [HSL.out]; exact hv1)
    subst e7
    go_upto_region 10 with (fail)
  all_goals
    rw [HSL.out] at hIs ⊢
    have HSC := Lib.hid hcellS
    clear hcellS
    have k5 := World.alloc_heap_new w4 (.cells #[.slice none 0 0, .int .i64 part, .int .i64 0] 24)
    have hb5 := bl_alloc (bl_refl w4) (.cells #[.slice none 0 0, .int .i64 part, .int .i64 0] 24)
    go_upto_region 11 with (fail)
    obtain ⟨w5, hw5⟩ : ∃ w5, w4.alloc (.cells #[.slice none 0 0, .int .i64 part, .int .i64 0] 24) = w5 := ⟨_, rfl⟩
    rw [hw5] at k5 hb5 ⊢
    have D0 : TInv w4 w5 w4.heap.size (.int .i64 part) (.int .i64 ((keepL (bitB bits) sh 0).sum)) (.slice none 0 0) (.slice none 0 0) (keepN (bitB bits) 0) ((keepL (bitB bits) had 0).map (Value.int .i64)) ((keepL (bitB bits) sh 0).map (Value.int .i64)) :=
      ⟨hb5, k5, World.ownsRow_nil _ _ _ _, World.ownsRow_nil _ _ _ _, .inl rfl⟩
    clear hw5 k5 hb5 hr4 hr41
    go_wp2
    go_loopw [10, 11] (fun p10 q wr => ∃ (k : Nat) (v1 v2 : Value), k ≤ had.length ∧ q = .int .i64 k ∧ p10 = v2 ∧ TInv w4 wr w4.heap.size (.int .i64 part) (.int .i64 ((keepL (bitB bits) sh k).sum)) v1 v2 (keepN (bitB bits) k) ((keepL (bitB bits) had k).map (Value.int .i64)) ((keepL (bitB bits) sh k).map (Value.int .i64))) (fun _ q _ => had.length - (intOf q).toNat)
    case atStart => exact ⟨0, _, _, Nat.zero_le _, rfl, rfl, D0⟩
    case round =>
      obtain ⟨k, v1, v2, hk, rfl, hp10, D⟩ := hrel
      obtain rfl := hp10.symm
      have hrp := heap_mono K4.out D.old
      have hr := fun i => cell_of_heap (i := i) hrp
      have hrl : w.heap.size < wr.heap.size := (Array.getElem?_eq_some_iff.1 hrp).1
      have hxl : w4.heap.size < wr.heap.size := (Array.getElem?_eq_some_iff.1 D.box).1
      clear hrp
      by_cases hlt : k < had.length
      · by_cases hbit : bitB bits k = true
        · have db : (Go.bits BinOp.and IntKind.u16 (bits / 2 ^ k) 1 == 1) = true := hbit
          obtain ⟨y, hy⟩ := get_at hlt
          obtain ⟨x, hx⟩ := get_at (l := sh) (k := k) (by rw [HSL.out]; exact hlt)
          have hyw := cell_mono (HC.out k y hy) hB4
          have hxw := HSC.out k x hx
          have hxb := HSB.out x (List.mem_of_getElem? hx)
          have hm100 : keepN (bitB bits) k ≤ 100 := by have := keepN_le (bitB bits) k; omega
          have s1 := hid (show (keepL (bitB bits) had (k + 1)).map (Value.int .i64) = (keepL (bitB bits) had k).map (Value.int .i64) ++ [.int .i64 y] by rw [keepL_succ, if_pos hbit]; simp [List.getD, hy])
          have s2 := hid (show (keepL (bitB bits) sh (k + 1)).map (Value.int .i64) = (keepL (bitB bits) sh k).map (Value.int .i64) ++ [.int .i64 x] by rw [keepL_succ, if_pos hbit]; simp [List.getD, hx])
          have s3 := hid (show keepN (bitB bits) (k + 1) = keepN (bitB bits) k + 1 by rw [keepN_succ, if_pos hbit])
          have s4 := hid (show (keepL (bitB bits) sh (k + 1)).sum = (keepL (bitB bits) sh k).sum + x by rw [keepL_succ, if_pos hbit, sum_append]; simp [List.getD, hx])
          have hsum : 0 ≤ (keepL (bitB bits) sh k).sum ∧ (keepL (bitB bits) sh k).sum ≤ 12000 := by
            have h1 := keep_sum_bd HOK.out.1.rng hz1 (bitB bits) k
            have h2 := Int.mul_le_mul (show (k : Int) ≤ 12 by omega) hz2 hz1 (by decide)
            omega
          have hki : (k : Int) < (had.length : Int) := by omega
          have HQ : Hid (∀ W, Below w4.heap.size w4 W → (∀ i, W.cell? ⟨w.heap.size, i, none⟩ = #[Value.slice (some ⟨b0, off, none⟩) had.length c, .int .i64 part, .int .i64 prize][i]?) ∧ w.heap.size < W.heap.size ∧ W.cell? ⟨b0, off + k, none⟩ = some (.int .i64 y) ∧ W.cell? ⟨bs, os + k, none⟩ = some (.int .i64 x)) := fun W hW =>
            ⟨fun i => cell_of_heap (heap_mono K4.out hW), (Array.getElem?_eq_some_iff.1 (heap_mono K4.out hW)).1, cell_mono hyw hW, cell_mono hxw hW⟩
          generalize (keepL (bitB bits) sh k).sum = sum at *
          generalize (keepL (bitB bits) had k).map (Value.int .i64) = xl at *
          generalize (keepL (bitB bits) sh k).map (Value.int .i64) = yl at *
          generalize keepN (bitB bits) k = m at *
          have HDI := hid D
          clear D hbit hy hx hyw hxw
          go_upto_region 16 with (fail)
          refine wp_region_vals0 w4 HDI.out.old [54, 55, 56, 57, 58, 59, 60, 61, 62, 63, 64, 65, 66, 67, 68, 69, 70, 10] (fun seen u W => (seen 0 = true → u 54 = .pointer (some ⟨w4.heap.size, 0, none⟩)) ∧
            (seen 1 = true → u 55 = v1) ∧
            (seen 2 = true → u 56 = .pointer (some ⟨w.heap.size, 0, none⟩)) ∧
            (seen 3 = true → u 57 = .slice (some ⟨b0, off, none⟩) had.length c) ∧
            (seen 4 = true → u 58 = .int .i64 (k : Int)) ∧
            (seen 5 = true → u 59 = .pointer (some ⟨b0, off + k, none⟩)) ∧
            (seen 6 = true → u 60 = .int .i64 y) ∧
            (seen 7 = true → True) ∧
            (seen 8 = true → True) ∧
            (seen 9 = true → u 63 = v2) ∧
            (seen 10 = true → u 64 = .slice (some ⟨bs, os, none⟩) had.length cs) ∧
            (seen 11 = true → u 65 = .int .i64 (k : Int)) ∧
            (seen 12 = true → u 66 = .pointer (some ⟨bs, os + k, none⟩)) ∧
            (seen 13 = true → u 67 = .int .i64 x) ∧
            (seen 14 = true → True) ∧
            (seen 15 = true → True) ∧
            (seen 16 = true → u 70 = .pointer (some ⟨w4.heap.size, 0, none⟩)) ∧
            (seen 17 = true → True) ∧
            (seen 18 = true → u 10 = u 69) ∧
            (seen 18 = true → seen 15 = true) ∧
            (seen 8 = true → seen 1 = true) ∧
            (seen 15 = true → seen 9 = true) ∧
            (seen 18 = false → u 10 = v2) ∧
            MemF w4.heap.size (.int .i64 part) (.int .i64 sum) v1 v2 m xl yl (.int .i64 y) (.int .i64 x) (seen 7) (seen 8) (seen 14) (seen 15) (seen 17) (u 61) (u 62) (u 68) (u 69) W)
            (by kernel_rfl) (by kernel_rfl) (by kernel_rfl) (by simp) ⟨by simp [valsOf], by simp [valsOf], by simp [valsOf], by simp [valsOf], by simp [valsOf], by simp [valsOf], by simp [valsOf], by simp, by simp, by simp [valsOf], by simp [valsOf], by simp [valsOf], by simp [valsOf], by simp [valsOf], by simp, by simp, by simp [valsOf], by simp, by simp [valsOf], by simp, by simp, by simp, by simp [valsOf], (HDI.out.mono (bl_drew (bl_refl _))).start⟩ ?_ ?_
          · intro i o ho seen a' w9 hb9 ⟨F0, F1, F2, F3, F4, F5, F6, F7, F8, F9, F10, F11, F12, F13, F14, F15, F16, F17, F18, F19, F20, F21, F22, FM⟩ hv hsi hdep
            obtain ⟨hp9, hl9, hy9, hx9⟩ := HQ.out w9 hb9
            rcases i with _ | _ | _ | _ | _ | _ | _ | _ | _ | _ | _ | _ | _ | _ | _ | _ | _ | _ | _ | i <;> simp only [List.getElem?_cons_zero, List.getElem?_cons_succ, List.getElem?_nil, Option.some.injEq, reduceCtorEq] at ho <;> subst ho
            · have x9 := val_at (hv 9 (by simp))
              simp [valsOf] at x9
              refine wp_value (.pointer (some ⟨w4.heap.size, 0, none⟩)) (w' := w9) (by simp [execOp, x9, go_sem]) ⟨_, rfl, hb9, ?_⟩
              exact ⟨by simp, by simpa using F1, by simpa using F2, by simpa using F3, by simpa using F4, by simpa using F5, by simpa using F6, by simp, by simp, by simpa using F9, by simpa using F10, by simpa using F11, by simpa using F12, by simpa using F13, by simp, by simp, by simpa using F16, by simp, by simpa using F18, by simpa using F19, by simpa using F20, by simpa using F21, by simpa using F22, by simpa using FM⟩
            · have d0 := hdep ⟨0, .data⟩ (by simp) rfl
              have e0 := val_at (F0 d0)
              have h17 : seen 17 = false := by { cases hq : seen 17 with | false => rfl | true => exact absurd (F20 (FM.s8 hq)) (by rw [hsi]; decide) }
              have hbx := FM.first h17
              have cb := cell_of_heap (i := 0) hbx
              have hXl := (Array.getElem?_eq_some_iff.1 hbx).1
              refine wp_value v1 (w' := w9) (by simp [execOp, e0, go_sem, cb]) ⟨_, rfl, hb9, ?_⟩
              exact ⟨by simpa using F0, by simp, by simpa using F2, by simpa using F3, by simpa using F4, by simpa using F5, by simpa using F6, by simp, by simp, by simpa using F9, by simpa using F10, by simpa using F11, by simpa using F12, by simpa using F13, by simp, by simp, by simpa using F16, by simp, by simpa using F18, by simpa using F19, by simp, by simpa using F21, by simpa using F22, by simpa using FM⟩
            · have x3 := val_at (hv 3 (by simp))
              simp [valsOf] at x3
              refine wp_value (.pointer (some ⟨w.heap.size, 0, none⟩)) (w' := w9) (by simp [execOp, x3, go_sem]) ⟨_, rfl, hb9, ?_⟩
              exact ⟨by simpa using F0, by simpa using F1, by simp, by simpa using F3, by simpa using F4, by simpa using F5, by simpa using F6, by simp, by simp, by simpa using F9, by simpa using F10, by simpa using F11, by simpa using F12, by simpa using F13, by simp, by simp, by simpa using F16, by simp, by simpa using F18, by simpa using F19, by simpa using F20, by simpa using F21, by simpa using F22, by simpa using FM⟩
            · have d2 := hdep ⟨2, .data⟩ (by simp) rfl
              have e2 := val_at (F2 d2)
              refine wp_value (.slice (some ⟨b0, off, none⟩) had.length c) (w' := w9) (by simp [execOp, e2, go_sem, hp9]) ⟨_, rfl, hb9, ?_⟩
              exact ⟨by simpa using F0, by simpa using F1, by simpa using F2, by simp, by simpa using F4, by simpa using F5, by simpa using F6, by simp, by simp, by simpa using F9, by simpa using F10, by simpa using F11, by simpa using F12, by simpa using F13, by simp, by simp, by simpa using F16, by simp, by simpa using F18, by simpa using F19, by simpa using F20, by simpa using F21, by simpa using F22, by simpa using FM⟩
            · have x11 := val_at (hv 11 (by simp))
              simp [valsOf] at x11
              refine wp_value (.int .i64 (k : Int)) (w' := w9) (by simp [execOp, x11, go_sem]) ⟨_, rfl, hb9, ?_⟩
              exact ⟨by simpa using F0, by simpa using F1, by simpa using F2, by simpa using F3, by simp, by simpa using F5, by simpa using F6, by simp, by simp, by simpa using F9, by simpa using F10, by simpa using F11, by simpa using F12, by simpa using F13, by simp, by simp, by simpa using F16, by simp, by simpa using F18, by simpa using F19, by simpa using F20, by simpa using F21, by simpa using F22, by simpa using FM⟩
            · have d3 := hdep ⟨3, .data⟩ (by simp) rfl
              have e3 := val_at (F3 d3)
              have d4 := hdep ⟨4, .data⟩ (by simp) rfl
              have e4 := val_at (F4 d4)
              refine wp_value (.pointer (some ⟨b0, off + k, none⟩)) (w' := w9) (by simp [execOp, e3, e4, go_sem, hki]) ⟨_, rfl, hb9, ?_⟩
              exact ⟨by simpa using F0, by simpa using F1, by simpa using F2, by simpa using F3, by simpa using F4, by simp, by simpa using F6, by simp, by simp, by simpa using F9, by simpa using F10, by simpa using F11, by simpa using F12, by simpa using F13, by simp, by simp, by simpa using F16, by simp, by simpa using F18, by simpa using F19, by simpa using F20, by simpa using F21, by simpa using F22, by simpa using FM⟩
            · have d5 := hdep ⟨5, .data⟩ (by simp) rfl
              have e5 := val_at (F5 d5)
              refine wp_value (.int .i64 y) (w' := w9) (by simp [execOp, e5, go_sem, hy9]) ⟨_, rfl, hb9, ?_⟩
              exact ⟨by simpa using F0, by simpa using F1, by simpa using F2, by simpa using F3, by simpa using F4, by simpa using F5, by simp, by simp, by simp, by simpa using F9, by simpa using F10, by simpa using F11, by simpa using F12, by simpa using F13, by simp, by simp, by simpa using F16, by simp, by simpa using F18, by simpa using F19, by simpa using F20, by simpa using F21, by simpa using F22, by simpa using FM⟩
            · have d6 := hdep ⟨6, .data⟩ (by simp) rfl
              have e6 := val_at (F6 d6)
              have hs7 : seen 7 = false := hsi
              rw [hs7] at FM
              refine wp_value (.slice (some ⟨w9.heap.size, 0, none⟩) 1 1) (w' := w9.alloc (.cells #[.int .i64 y] 2)) (by simp [execOp, e6, go_sem]) ⟨_, rfl, bl_alloc hb9 _, ?_⟩
              have q := FM.row1
              exact ⟨by simpa using F0, by simpa using F1, by simpa using F2, by simpa using F3, by simpa using F4, by simpa using F5, by simpa using F6, by simp, by simp, by simpa using F9, by simpa using F10, by simpa using F11, by simpa using F12, by simpa using F13, by simp, by simp, by simpa using F16, by simp, by simpa using F18, by simpa using F19, by simpa using F20, by simpa using F21, by simpa using F22, by simpa using q⟩
            · have d1 := hdep ⟨1, .data⟩ (by simp) rfl
              have e1 := val_at (F1 d1)
              have d7 := hdep ⟨7, .data⟩ (by simp) rfl
              have hs : seen 8 = false := hsi
              have q7 : seen 7 = true := d7
              rw [q7, hs] at FM
              obtain ⟨v', w10, hr, hM, hbn⟩ := FM.app1 hb9 (Nat.le_refl _) hm100 rfl
              refine wp_append_run _ _ 22 rfl v1 (valsOf a' 61) v' w10 ((eval_tmp _ _).trans (F1 d1)) rfl hr ⟨_, rfl, hbn, ?_⟩
              exact ⟨by simpa using F0, by simpa using F1, by simpa using F2, by simpa using F3, by simpa using F4, by simpa using F5, by simpa using F6, by simp, by simp, by simpa using F9, by simpa using F10, by simpa using F11, by simpa using F12, by simpa using F13, by simp, by simp, by simpa using F16, by simp, by simpa using F18, by simpa using F19, by simpa using d1, by simpa using F21, by simpa using F22, by simpa [q7] using hM⟩
            · have h15 : seen 15 = false := by { cases hq : seen 15 with | false => rfl | true => exact absurd (F21 hq) (by rw [hsi]; decide) }
              have h18 : seen 18 = false := by { cases hq : seen 18 with | false => rfl | true => exact absurd (F19 hq) (by rw [h15]; decide) }
              have e10 := val_at (F22 h18)
              refine wp_value v2 (w' := w9) (by simp [execOp, e10, go_sem]) ⟨_, rfl, hb9, ?_⟩
              exact ⟨by simpa using F0, by simpa using F1, by simpa using F2, by simpa using F3, by simpa using F4, by simpa using F5, by simpa using F6, by simp, by simp, by simp, by simpa using F10, by simpa using F11, by simpa using F12, by simpa using F13, by simp, by simp, by simpa using F16, by simp, by simpa using F18, by simpa using F19, by simpa using F20, by simp, by simpa using F22, by simpa using FM⟩
            · have x7 := val_at (hv 7 (by simp))
              simp [valsOf] at x7
              refine wp_value (.slice (some ⟨bs, os, none⟩) had.length cs) (w' := w9) (by simp [execOp, x7, go_sem]) ⟨_, rfl, hb9, ?_⟩
              exact ⟨by simpa using F0, by simpa using F1, by simpa using F2, by simpa using F3, by simpa using F4, by simpa using F5, by simpa using F6, by simp, by simp, by simpa using F9, by simp, by simpa using F11, by simpa using F12, by simpa using F13, by simp, by simp, by simpa using F16, by simp, by simpa using F18, by simpa using F19, by simpa using F20, by simpa using F21, by simpa using F22, by simpa using FM⟩
            · have x11 := val_at (hv 11 (by simp))
              simp [valsOf] at x11
              refine wp_value (.int .i64 (k : Int)) (w' := w9) (by simp [execOp, x11, go_sem]) ⟨_, rfl, hb9, ?_⟩
              exact ⟨by simpa using F0, by simpa using F1, by simpa using F2, by simpa using F3, by simpa using F4, by simpa using F5, by simpa using F6, by simp, by simp, by simpa using F9, by simpa using F10, by simp, by simpa using F12, by simpa using F13, by simp, by simp, by simpa using F16, by simp, by simpa using F18, by simpa using F19, by simpa using F20, by simpa using F21, by simpa using F22, by simpa using FM⟩
            · have d10 := hdep ⟨10, .data⟩ (by simp) rfl
              have e10 := val_at (F10 d10)
              have d11 := hdep ⟨11, .data⟩ (by simp) rfl
              have e11 := val_at (F11 d11)
              refine wp_value (.pointer (some ⟨bs, os + k, none⟩)) (w' := w9) (by simp [execOp, e10, e11, go_sem, hki]) ⟨_, rfl, hb9, ?_⟩
              exact ⟨by simpa using F0, by simpa using F1, by simpa using F2, by simpa using F3, by simpa using F4, by simpa using F5, by simpa using F6, by simp, by simp, by simpa using F9, by simpa using F10, by simpa using F11, by simp, by simpa using F13, by simp, by simp, by simpa using F16, by simp, by simpa using F18, by simpa using F19, by simpa using F20, by simpa using F21, by simpa using F22, by simpa using FM⟩
            · have d12 := hdep ⟨12, .data⟩ (by simp) rfl
              have e12 := val_at (F12 d12)
              refine wp_value (.int .i64 x) (w' := w9) (by simp [execOp, e12, go_sem, hx9]) ⟨_, rfl, hb9, ?_⟩
              exact ⟨by simpa using F0, by simpa using F1, by simpa using F2, by simpa using F3, by simpa using F4, by simpa using F5, by simpa using F6, by simp, by simp, by simpa using F9, by simpa using F10, by simpa using F11, by simpa using F12, by simp, by simp, by simp, by simpa using F16, by simp, by simpa using F18, by simpa using F19, by simpa using F20, by simpa using F21, by simpa using F22, by simpa using FM⟩
            · have d13 := hdep ⟨13, .data⟩ (by simp) rfl
              have e13 := val_at (F13 d13)
              have hs14 : seen 14 = false := hsi
              rw [hs14] at FM
              refine wp_value (.slice (some ⟨w9.heap.size, 0, none⟩) 1 1) (w' := w9.alloc (.cells #[.int .i64 x] 2)) (by simp [execOp, e13, go_sem]) ⟨_, rfl, bl_alloc hb9 _, ?_⟩
              have q := FM.row2
              exact ⟨by simpa using F0, by simpa using F1, by simpa using F2, by simpa using F3, by simpa using F4, by simpa using F5, by simpa using F6, by simp, by simp, by simpa using F9, by simpa using F10, by simpa using F11, by simpa using F12, by simpa using F13, by simp, by simp, by simpa using F16, by simp, by simpa using F18, by simpa using F19, by simpa using F20, by simpa using F21, by simpa using F22, by simpa using q⟩
            · have d9 := hdep ⟨9, .data⟩ (by simp) rfl
              have e9 := val_at (F9 d9)
              have d14 := hdep ⟨14, .data⟩ (by simp) rfl
              have hs : seen 15 = false := hsi
              have q14 : seen 14 = true := d14
              rw [q14, hs] at FM
              obtain ⟨v', w10, hr, hM, hbn⟩ := FM.app2 hb9 (Nat.le_refl _) hm100 rfl
              refine wp_append_run _ _ 22 rfl v2 (valsOf a' 68) v' w10 ((eval_tmp _ _).trans (F9 d9)) rfl hr ⟨_, rfl, hbn, ?_⟩
              exact ⟨by simpa using F0, by simpa using F1, by simpa using F2, by simpa using F3, by simpa using F4, by simpa using F5, by simpa using F6, by simp, by simp, by simpa using F9, by simpa using F10, by simpa using F11, by simpa using F12, by simpa using F13, by simp, by simp, by simpa using F16, by simp, by simpa using fun h => absurd (F19 h) (by rw [hsi]; decide), by simp, by simpa using F20, by simpa using d9, by simpa using F22, by simpa [q14] using hM⟩
            · have x9 := val_at (hv 9 (by simp))
              simp [valsOf] at x9
              refine wp_value (.pointer (some ⟨w4.heap.size, 0, none⟩)) (w' := w9) (by simp [execOp, x9, go_sem]) ⟨_, rfl, hb9, ?_⟩
              exact ⟨by simpa using F0, by simpa using F1, by simpa using F2, by simpa using F3, by simpa using F4, by simpa using F5, by simpa using F6, by simp, by simp, by simpa using F9, by simpa using F10, by simpa using F11, by simpa using F12, by simpa using F13, by simp, by simp, by simp, by simp, by simpa using F18, by simpa using F19, by simpa using F20, by simpa using F21, by simpa using F22, by simpa using FM⟩
            · have d16 := hdep ⟨16, .data⟩ (by simp) rfl
              have e16 := val_at (F16 d16)
              have d8 := hdep ⟨8, .data⟩ (by simp) rfl
              have hs17 : seen 17 = false := hsi
              have q8 : seen 8 = true := d8
              rw [q8, hs17] at FM
              obtain ⟨A62, m62, c62, r62⟩ := FM.slice1
              have e62 := val_at r62
              obtain ⟨hM, bb, hbx⟩ := FM.store
              have c0 := cell_of_heap (i := 0) hbx
              have f0 := fun i => frozen_of_heap (i := i) hbx
              have hXl := (Array.getElem?_eq_some_iff.1 hbx).1
              refine wp_effect (w' := w9.setCell ⟨w4.heap.size, 0, none⟩ (valsOf a' 62)) (by simp [execOp, e16, e62, r62, go_sem, c0, f0]) ⟨_, rfl, bl_set hb9 _ (Nat.le_refl _), ?_⟩
              exact ⟨by simpa using F0, by simpa using F1, by simpa using F2, by simpa using F3, by simpa using F4, by simpa using F5, by simpa using F6, by simp, by simp, by simpa using F9, by simpa using F10, by simpa using F11, by simpa using F12, by simpa using F13, by simp, by simp, by simpa using F16, by simp, by simpa using F18, by simpa using F19, by simpa using F20, by simpa using F21, by simpa using F22, by simpa [q8] using hM⟩
            · have d15 := hdep ⟨15, .data⟩ (by simp) rfl
              refine wp_value (valsOf a' 69) (w' := w9) (by simp [execOp, go_sem, valsOf]) ⟨_, rfl, hb9, ?_⟩
              exact ⟨by simpa using F0, by simpa using F1, by simpa using F2, by simpa using F3, by simpa using F4, by simpa using F5, by simpa using F6, by simp, by simp, by simpa using F9, by simpa using F10, by simpa using F11, by simpa using F12, by simpa using F13, by simp, by simp, by simpa using F16, by simp, by simp, by simpa using d15, by simpa using F20, by simpa using F21, by simp, by simpa using FM⟩
          intro u w5 hb5 seen hall ⟨F0, F1, F2, F3, F4, F5, F6, F7, F8, F9, F10, F11, F12, F13, F14, F15, F16, F17, F18, F19, F20, F21, F22, FM⟩
          replace F0 := F0 (hall 0 (by decide))
          replace F1 := F1 (hall 1 (by decide))
          replace F2 := F2 (hall 2 (by decide))
          replace F3 := F3 (hall 3 (by decide))
          replace F4 := F4 (hall 4 (by decide))
          replace F5 := F5 (hall 5 (by decide))
          replace F6 := F6 (hall 6 (by decide))
          replace F7 := F7 (hall 7 (by decide))
          replace F8 := F8 (hall 8 (by decide))
          replace F9 := F9 (hall 9 (by decide))
          replace F10 := F10 (hall 10 (by decide))
          replace F11 := F11 (hall 11 (by decide))
          replace F12 := F12 (hall 12 (by decide))
          replace F13 := F13 (hall 13 (by decide))
          replace F14 := F14 (hall 14 (by decide))
          replace F15 := F15 (hall 15 (by decide))
          replace F16 := F16 (hall 16 (by decide))
          replace F17 := F17 (hall 17 (by decide))
          replace F18 := F18 (hall 18 (by decide))
          simp only [hall 7 (by decide), hall 8 (by decide), hall 14 (by decide), hall 15 (by decide), hall 17 (by decide)] at FM
          have D5 := TInv.done hb5 FM
          simp only [setAll, F0, F1, F2, F3, F4, F5, F6, F9, F10, F11, F12, F13, F16, F18]
          clear F0 F1 F2 F3 F4 F5 F6 F7 F8 F9 F10 F11 F12 F13 F14 F15 F16 F17 F18 F19 F20 F21 F22 FM hall seen
          generalize u 61 = u61 at *
          generalize u 62 = u62 at *
          generalize u 68 = u68 at *
          generalize u 69 = u69 at *
          obtain ⟨hp5, hl5, hy5, hxx5⟩ := HQ.out w5 hb5
          have hbx5 := fun i => cell_of_heap (i := i) D5.box
          have hbx52 : w5.cell? ⟨w4.heap.size, 2, none⟩ = some (.int .i64 sum) := hbx5 2
          have hlX5 := (Array.getElem?_eq_some_iff.1 D5.box).1
          have hlS5 : bs < w5.heap.size := Nat.lt_of_lt_of_le hbs hb5.size
          have hws : IntKind.i64.wrap (sum + x) = sum + x := IntWalk.i64_in _ (by omega)
          have HD5 := hid D5
          clear D5
          go_upto_region 17 with (fail)
          refine wp_region_below_tail 8 (by kernel_rfl) (by kernel_rfl) ?_
          simp only [List.take_succ_cons, List.take_zero, List.drop_succ_cons, List.drop_zero]
          repeat (first | go_big_quiet_step (fail) | quiet_step (fail))
          refine wpQuiet_nil ?_
          intro w6 hb6
          have D6 := HD5.out.mono hb6
          have hbx6 := fun i => cell_of_heap (i := i) D6.box
          have hbf6 := fun i => frozen_of_heap (i := i) D6.box
          have hlX6 := (Array.getElem?_eq_some_iff.1 D6.box).1
          have D7 := D6.add (Nat.le_refl _) (.int .i64 (sum + x))
          clear D6 hp5 hl5 hy5 hxx5 hbx5 hbx52 hlX5
          go_wp2
          obtain ⟨w7, hw7⟩ : ∃ w7, w6.setCell ⟨w4.heap.size, 2, none⟩ (.int .i64 (sum + x)) = w7 := ⟨_, rfl⟩
          rw [hw7] at D7 ⊢
          clear hw7 hbx6 hbf6 hlX6
          go_wp2
          go_roundw
          case rel => exact ⟨k + 1, u62, u69, by omega, by go_num, rfl, by rw [s1.out, s2.out, s3.out, s4.out]; exact D7⟩
          case measure => simp [intOf]; omega
        · have db : (Go.bits BinOp.and IntKind.u16 (bits / 2 ^ k) 1 == 1) = false := eq_false_of_ne_true hbit
          have D5 : TInv w4 wr w4.heap.size (.int .i64 part) (.int .i64 ((keepL (bitB bits) sh (k + 1)).sum)) v1 v2 (keepN (bitB bits) (k + 1)) ((keepL (bitB bits) had (k + 1)).map (Value.int .i64)) ((keepL (bitB bits) sh (k + 1)).map (Value.int .i64)) := by
            rw [keepL_succ, keepL_succ, keepN_succ, if_neg hbit, if_neg hbit, if_neg hbit]; exact D
          clear D hbit
          go_wp2
          go_roundw
          case rel => exact ⟨k + 1, v1, v2, by omega, by go_num, rfl, D5⟩
          case measure => simp [intOf]; omega
      · obtain rfl : k = had.length := by omega
        have hkl := keep_len (bitB bits) had had.length
        have hkl2 := keep_len (bitB bits) sh had.length
        have hI1 : Ints wr v1 (keepL (bitB bits) had had.length) := ints_own hkl D.own1
        have hI2 : Ints wr v2 (keepL (bitB bits) sh had.length) := ints_own hkl2 D.own2
        obtain ⟨A1, c1, rfl⟩ := own_slice D.own1
        obtain ⟨A3, c3, e3⟩ := own_slice D.own2
        have hkn := keepN_le (bitB bits) had.length
        have HBX := hid D.box
        have HB := hid D.old
        have hbx := fun i => cell_of_heap (i := i) D.box
        have hbx0 : wr.cell? ⟨w4.heap.size, 0, none⟩ = some (.slice A1 (keepN (bitB bits) had.length) c1) := hbx 0
        clear D
        by_cases hm0 : keepN (bitB bits) had.length = 0
        · have dm : ((keepN (bitB bits) had.length : Int) == 0) = true := by simp [hm0]
          clear hm0
          go_wp2_with fail
          refine (works_any _).mono ?_
          rintro e wz ⟨rfl, hbz⟩
          go_wp2
          go_ret
          exact ⟨rfl, bl_trans hB4 (bl_trans HB.out hbz)⟩
        have dm : ((keepN (bitB bits) had.length : Int) == 0) = false := beq_eq_false_iff_ne.2 (by omega)
        have hal := alone_law HOK.out.1 HOK.out.2 (bitB bits) (by omega)
        have HR : Hid (refSharesE (keepL (bitB bits) had had.length) part (keepL (bitB bits) sh had.length).sum (keepL (bitB bits) sh had.length) = 0) := refShares_ok'.2 hal
        have H21x : Hid (∀ W, Below wr.heap.size wr W → Calls Try.prog 21 #[.agg #[.slice A1 (keepN (bitB bits) had.length) c1, .int .i64 part, .int .i64 (keepL (bitB bits) sh had.length).sum], v2] W fun e w' => e = .returned (.int .i64 0) ∧ Below W.heap.size W w') := fun W hW => by
          have := checkShares_any (keepL (bitB bits) had had.length) part (keepL (bitB bits) sh had.length).sum (keepL (bitB bits) sh had.length) _ _ W (by omega) (by omega) (hI1.mono hW) (hI2.mono hW)
          rwa [checkShares_law, HR.out] at this
        have HP : Hid (∀ W, Below wr.heap.size wr W → (∀ i, W.cell? ⟨w.heap.size, i, none⟩ = #[Value.slice (some ⟨b0, off, none⟩) had.length c, .int .i64 part, .int .i64 prize][i]?) ∧ (∀ i, W.cell? ⟨w4.heap.size, i, none⟩ = #[Value.slice A1 (keepN (bitB bits) had.length) c1, .int .i64 part, .int .i64 (keepL (bitB bits) sh had.length).sum][i]?) ∧ w.heap.size < W.heap.size ∧ w4.heap.size < W.heap.size) := fun W hW =>
          ⟨fun i => cell_of_heap (heap_mono K4.out (bl_trans HB.out hW)), fun i => cell_of_heap (heap_mono HBX.out hW), (Array.getElem?_eq_some_iff.1 (heap_mono K4.out (bl_trans HB.out hW))).1, (Array.getElem?_eq_some_iff.1 (heap_mono HBX.out hW)).1⟩
        have HDV : Hid (∀ W, Below wr.heap.size wr W → Calls Try.prog 29 #[.agg #[.slice (some ⟨b0, off, none⟩) had.length c, .int .i64 part, .int .i64 prize], .slice (some ⟨bs, os, none⟩) had.length cs] W fun e w' => e = .returned (.tuple #[encQ (divLo had part prize sh), encQ (divHi had part prize sh), .int .i64 (divisorsE had part prize sh)]) ∧ Below W.heap.size W w') := fun W hW =>
          divisors_any had part prize sh _ _ W (by omega) (by rw [HSL.out]; omega) (hs.mono (bl_trans hB4 (bl_trans HB.out hW))) (hIs.mono (bl_trans HB.out hW))
        have HCD : Hid (prize ≠ 0 → divisorsE had part prize sh = 0 ∧ checkDivisorE (keepL (bitB bits) had had.length) part (keepL (bitB bits) sh had.length).sum (keepL (bitB bits) sh had.length) (divLo had part prize sh).1 (divLo had part prize sh).2 = 0) := fun hp => by
          obtain ⟨O, F⟩ := HOK.out
          have hd : divisorsE had part prize sh = 0 := by rw [div_same hp]; exact refShares_ok'.2 HOK.out
          refine ⟨hd, ?_⟩
          rw [divLo, if_pos hd]
          have T := great_tiny O
          obtain ⟨t1, t2, t3, t4⟩ := T
          have hdv : isDivB (greatQ had part (padTo sh)).1 (greatQ had part (padTo sh)).2 = true := by
            simp only [isDivB, Bool.and_eq_true, decide_eq_true_eq]
            omega
          refine check_ok hal.1 hdv (alone_rounds O (bitB bits) ((rounds_between O hp (by omega)).2 ⟨?_, great_le_least O F hp⟩))
          simp [lessB]
        have H31x : Hid (∀ W, Below wr.heap.size wr W → Calls Try.prog 31 #[.agg #[.slice A1 (keepN (bitB bits) had.length) c1, .int .i64 part, .int .i64 (keepL (bitB bits) sh had.length).sum], v2, .agg #[.int .i64 (divLo had part prize sh).1, .int .i64 (divLo had part prize sh).2]] W fun e w' => e = .returned (.int .i64 (checkDivisorE (keepL (bitB bits) had had.length) part (keepL (bitB bits) sh had.length).sum (keepL (bitB bits) sh had.length) (divLo had part prize sh).1 (divLo had part prize sh).2)) ∧ Below W.heap.size W w') := fun W hW =>
          checkDivisor_any (keepL (bitB bits) had had.length) part (keepL (bitB bits) sh had.length).sum (keepL (bitB bits) sh had.length) _ _ _ _ W (by omega) (by omega) (hI1.mono hW) (hI2.mono hW)
        generalize checkDivisorE (keepL (bitB bits) had had.length) part (keepL (bitB bits) sh had.length).sum (keepL (bitB bits) sh had.length) (divLo had part prize sh).1 (divLo had part prize sh).2 = cd at *
        generalize divisorsE had part prize sh = dv at *
        generalize divLo had part prize sh = lo at *
        generalize divHi had part prize sh = hi at *
        generalize (keepL (bitB bits) sh had.length).sum = sm at *
        generalize keepN (bitB bits) had.length = kn at *
        clear hI1 hI2 e3 hbx hbx0 hal hkl hkl2 hr
        obtain ⟨q0, r0, l0, m0⟩ := HP.out wr (bl_refl _)
        have r00 : wr.cell? ⟨w4.heap.size, 0, none⟩ = some (.slice A1 kn c1) := r0 0
        go_wp2_with fail
        refine (H21x.out wr (bl_refl _)).mono ?_
        rintro e w7 ⟨rfl, hb7⟩
        clear q0 r0 l0 m0 r00
        obtain ⟨q7, r7, l7, m7⟩ := HP.out w7 hb7
        have q72 : w7.cell? ⟨w.heap.size, 2, none⟩ = some (.int .i64 prize) := q7 2
        by_cases hp : prize = 0
        · have dp : (prize == 0) = true := by simpa using hp
          clear hp HCD
          go_wp2_with fail
          refine (works_any _).mono ?_
          rintro e wz ⟨rfl, hbz⟩
          go_wp2
          go_ret
          exact ⟨rfl, bl_trans hB4 (bl_trans HB.out (bl_trans hb7 hbz))⟩
        have dp : (prize == 0) = false := by simpa using hp
        obtain ⟨e1, e2⟩ := HCD.out hp
        subst e1 e2
        clear hp HCD
        go_wp2_with fail
        refine (HDV.out w7 hb7).mono ?_
        rintro e w8 ⟨rfl, hb8⟩
        unfold encQ
        obtain ⟨k12, k13, hb9⟩ := two_new w8 #[.int .i64 lo.1, .int .i64 lo.2] #[.int .i64 hi.1, .int .i64 hi.2] 39
        have K12 := hid k12
        clear k12 k13 q7 r7 l7 m7 q72
        go_upto_region 25 with (fail)
        obtain ⟨w9, hw9⟩ : ∃ w9, (w8.alloc (.cells #[.int .i64 lo.1, .int .i64 lo.2] 39)).alloc (.cells #[.int .i64 hi.1, .int .i64 hi.2] 39) = w9 := ⟨_, rfl⟩
        rw [hw9] at K12 hb9 ⊢
        have hB9 := bl_trans hb7 (bl_trans hb8 hb9)
        obtain ⟨q9, r9, l9, m9⟩ := HP.out w9 hB9
        have c12 := fun i => cell_of_heap (i := i) K12.out
        have z12 := (Array.getElem?_eq_some_iff.1 K12.out).1
        clear hw9 K12
        go_wp2_with fail
        refine (H31x.out w9 hB9).mono ?_
        rintro e w10 ⟨rfl, hb10⟩
        clear q9 r9 l9 m9 c12 z12
        go_wp2_with fail
        refine (works_any _).mono ?_
        rintro e wz ⟨rfl, hbz⟩
        go_wp2
        go_ret
        exact ⟨rfl, bl_trans hB4 (bl_trans HB.out (bl_trans hB9 (bl_trans hb10 hbz)))⟩

theorem shareAlone_any (had : List Int) (part prize : Int) (xs : List Int) (bits : Int) (s s2 : Value) (w : World) (hs : Ints w s had) (hs2 : Ints w s2 xs) (hb16 : 0 ≤ bits ∧ bits < 65536) :
    Calls Try.prog 11 #[.agg #[s, .int .i64 part, .int .i64 prize], s2, .int .u16 bits] w fun e w' => e = .returned (.bool true) ∧ Below w.heap.size w w' := by
  by_cases h0 : checkPool had part prize = 0
  · by_cases h1 : xs.length ≤ 20
    · exact shareAlone_in had part prize xs bits s s2 w hs hs2 hb16 h0 h1
    · exact shareAlone_out had part prize xs bits s s2 w hs hs2 (.inr (by omega))
  · exact shareAlone_out had part prize xs bits s s2 w hs hs2 (.inl h0)

end Go.Proofs.Ytfchcikdcnloaaa
