/- The reference: Divisors, where there are some. -/
import Derived.Test.YtfchcikdcnloaaaRefi
import Derived.Deep.Cut
import Derived.Test.YtfchcikdcnloaaaWorks
namespace Go.Proofs.Ytfchcikdcnloaaa
open Go Go.RowKit Go.Proofs
attribute [local go_sem] cell_grow frozen_grow

theorem heap_new {w v : World} {cs : Array Value} {t : TypeId} (hb : Below (w.alloc (.cells cs t)).heap.size (w.alloc (.cells cs t)) v) : v.heap[w.heap.size]? = some (.cells cs t (0, 0)) :=
  heap_mono (World.alloc_heap_new _ _) hb

def Mid (q : Int × Int) : Prop := 0 ≤ q.1 ∧ q.1 ≤ 1073741824 ∧ 0 ≤ q.2 ∧ q.2 ≤ 100100
theorem Small.mid {q : Int × Int} (h : Small q) : Mid q := ⟨h.1, by have := h.2.1; omega, h.2.2.1, h.2.2.2⟩
theorem mid_mul {a b : Int × Int} (ha : Mid a) (hb : Mid b) : IntKind.i64.wrap (a.1 * b.2) = a.1 * b.2 := by
  have := Int.mul_le_mul ha.2.1 hb.2.2.2 hb.2.2.1 (by omega)
  have := Int.mul_nonneg ha.1 hb.2.2.1
  exact IntWalk.i64_in _ (by omega)
theorem refLo_mid {had shares : List Int} {part prize : Int} (O : ShOk had part prize shares) : ∀ k, k ≤ had.length → Mid (refLo had part shares k) := by
  intro k
  induction k with
  | zero => intro _; refine ⟨?_, ?_, ?_, ?_⟩ <;> simp [refLo]
  | succ k ih =>
    intro hk
    rw [refLo]
    split
    · obtain ⟨y, hy⟩ := get_at (l := had) (k := k) (by omega)
      obtain ⟨x, hx⟩ := get_at (l := shares) (k := k) (by rw [O.len]; omega)
      have h1 := O.V.h1 k y hy
      have h2 := O.rng x (List.mem_of_getElem? hx)
      have h3 := O.V.z2
      have h4 := O.V.p1
      have h5 := O.V.p2
      simp only [List.getD, hx, hy, Option.getD_some]
      exact (quo_small (by omega) (by omega) (by omega) (by omega)).1.mid
    · exact ih (by omega)
theorem refHi_mid {had shares : List Int} {part prize : Int} (O : ShOk had part prize shares) : ∀ k, k ≤ had.length → Mid (refHi had part shares k) := by
  intro k
  induction k with
  | zero => intro _; refine ⟨?_, ?_, ?_, ?_⟩ <;> simp [refHi]
  | succ k ih =>
    intro hk
    rw [refHi]
    split
    · rename_i hg
      split
      · obtain ⟨y, hy⟩ := get_at (l := had) (k := k) (by omega)
        obtain ⟨x, hx⟩ := get_at (l := shares) (k := k) (by rw [O.len]; omega)
        have h1 := O.V.h1 k y hy
        have h2 := O.rng x (List.mem_of_getElem? hx)
        have h3 := O.V.z2
        have h4 := O.V.p1
        have h5 := O.V.p2
        simp only [List.getD, hx, hy, Option.getD_some] at hg ⊢
        exact (quo_small (by omega) (by omega) (by omega) (by omega)).1.mid
      · exact ih (by omega)
    · exact ih (by omega)

set_option maxRecDepth 100000 in
set_option maxHeartbeats 8000000 in
theorem refDiv_good (had : List Int) (part prize : Int) (shares : List Int) (s s2 : Value) (w : World) (O : ShOk had part prize shares) (hf : refSharesE had part prize shares = 0) (hp0 : prize ≠ 0) (hs : Ints w s had) (hs2 : Ints w s2 shares) :
    Calls Try.prog 30 #[.agg #[s, .int .i64 part, .int .i64 prize], s2] w fun e w' => e = .returned (.tuple #[encQ (refLo had part shares had.length), encQ (refHi had part shares had.length), .int .i64 0]) ∧ Below w.heap.size w w' := by
  have V := O.V
  have hv1 := V.l1
  have hv2 := V.l2
  have hp1 := V.p1
  have hp2 := V.p2
  have hz2 := V.z2
  have hlen := O.len
  obtain ⟨b, off, c, rfl, _, hb, hcell⟩ := hs.some hv1
  obtain ⟨b2, off2, c2, rfl, _, hb2, hcell2⟩ := hs2.some (by omega)
  have HC := Lib.hid hcell
  have HC2 := Lib.hid hcell2
  have hbb := bl_alloc (bl_alloc (bl_alloc (bl_refl w) (.cells #[.slice (some ⟨b, off, none⟩) had.length c, .int .i64 part, .int .i64 prize] 24)) (.cells #[.int .i64 0, .int .i64 0] 39)) (.cells #[.int .i64 0, .int .i64 0] 39)
  have hcall : Hid (∀ W, Below w.heap.size w W → Calls Try.prog 22 #[.agg #[.slice (some ⟨b, off, none⟩) had.length c, .int .i64 part, .int .i64 prize], .slice (some ⟨b2, off2, none⟩) shares.length c2] W fun e w' => e = .returned (.int .i64 (refSharesE had part prize shares)) ∧ Below W.heap.size W w') := fun W hW => refCheckShares_any had part prize shares _ _ W (by omega) (by omega) (hs.mono hW) (hs2.mono hW)
  have H1 := hid hf
  have hpb : (prize == 0) = false := by simpa using hp0
  have HV : Hid (∀ (i : Nat) (x : Int), had[i]? = some x → 1 ≤ x ∧ x ≤ 1000000) := V.h1
  have HS : Hid (∀ (i : Nat) (x : Int), shares[i]? = some x → 0 ≤ x ∧ x ≤ 1000) := fun i x hx => by have := O.rng x (List.mem_of_getElem? hx); omega
  have Hst := Lib.hid (step_r part hp1 hp2)
  have HLEN := hid hlen
  have HLO := Lib.hid (refLo_mid O)
  have HHI := Lib.hid (refHi_mid O)
  have hsl : shares.length ≤ 12 := by omega
  clear hcell hcell2 hf hp0 V O hs hs2 hlen
  go_enter Try.func30, Try.ntmps30
  go_wp2_with fail
  refine (hcall.out _ hbb).mono ?_
  rintro e w1 ⟨rfl, hb1⟩
  rw [H1.out]
  have k1 := heap_new (w := w) (bl_trans (bl_alloc (bl_alloc (bl_refl _) _) _) hb1)
  have k2 := heap_new (w := w.alloc _) (bl_trans (bl_alloc (bl_refl _) _) hb1)
  have k3 := heap_new (w := (w.alloc _).alloc _) hb1
  simp only [World.size_alloc] at k2 k3
  have hB1 := bl_trans hbb hb1
  have hl1 : w.heap.size + 2 < w1.heap.size := by have := hb1.size; simp at this; omega
  have hl3 : w.heap.size < w1.heap.size := by omega
  have hr12 : w1.cell? ⟨w.heap.size, 2, none⟩ = some (.int .i64 prize) := by rw [cell_of_heap k1]; rfl
  have K := hid k1
  have K2 := hid k2
  have K3 := hid k3
  clear k1 k2 k3
  go_wp2
  obtain ⟨w2, hw2⟩ : ∃ w2, (w1.alloc (.cells #[.int .i64 0, .int .i64 1] 39)).alloc (.cells #[.int .i64 1073741824, .int .i64 1] 39) = w2 := ⟨_, rfl⟩
  have hb12 : Below w1.heap.size w1 w2 := by rw [← hw2]; exact bl_alloc (bl_alloc (bl_refl _) _) _
  have D0 : DInv w w2 w1.heap.size #[.slice (some ⟨b, off, none⟩) had.length c, .int .i64 part, .int .i64 prize] (refLo had part shares 0) (refHi had part shares 0) := by
    refine ⟨heap_mono K.out hb12, heap_mono K2.out hb12, heap_mono K3.out hb12, ?_, ?_, bl_trans hB1 hb12⟩
    · rw [← hw2]; exact heap_mono (World.alloc_heap_new _ _) (bl_alloc (bl_refl _) _)
    · rw [← hw2]
      have := World.alloc_heap_new (w1.alloc (.cells #[.int .i64 0, .int .i64 1] 39)) (.cells #[.int .i64 1073741824, .int .i64 1] 39)
      rw [World.size_alloc] at this
      exact this
  have hz2' : w1.heap.size + 1 < w2.heap.size := by rw [← hw2]; simp
  rw [hw2]
  clear hw2 hb12 hr12
  go_loopw [9] (fun i wr => ∃ k : Nat, k ≤ shares.length ∧ i = .int .i64 k ∧ DInv w wr w1.heap.size #[.slice (some ⟨b, off, none⟩) had.length c, .int .i64 part, .int .i64 prize] (refLo had part shares k) (refHi had part shares k) ∧ w1.heap.size + 1 < wr.heap.size) (fun i _ => shares.length - (intOf i).toNat)
  case atStart => exact ⟨0, Nat.zero_le _, rfl, D0, hz2'⟩
  case round =>
    obtain ⟨k, hk, rfl, D, hwl⟩ := hrel
    by_cases hlt : k < shares.length
    · have hlth : k < had.length := by have := HLEN.out; omega
      have hlth' : (k : Int) < (had.length : Int) := by omega
      obtain ⟨x, hx⟩ := get_at hlt
      obtain ⟨y, hy⟩ := get_at hlth
      have hxb := HS.out k x hx
      have hyb := HV.out k y hy
      have hcx := cell_mono (HC2.out k x hx) D.old
      have hcy := cell_mono (HC.out k y hy) D.old
      have e1 : IntKind.i64.wrap (100 * y) = 100 * y := IntWalk.i64_in _ (by omega)
      have hq := (quo_small (a := 100 * y) (b := 100 * x + part) (by omega) (by omega) (by omega) (by omega)).1.mid
      have hlo := HLO.out k (by omega)
      have hhi := HHI.out k (by omega)
      have hsl1 := hid (show refLo had part shares (k + 1) = if lessB (refLo had part shares k) (quo (100 * y) (100 * x + part)) = true then quo (100 * y) (100 * x + part) else refLo had part shares k by
        rw [refLo]; simp only [List.getD, hx, hy, Option.getD_some])
      have hsl2 := hid (show refHi had part shares (k + 1) = if 0 < x then (if lessB (quo (100 * y) (100 * (x - 1) + part)) (refHi had part shares k) = true then quo (100 * y) (100 * (x - 1) + part) else refHi had part shares k) else refHi had part shares k by
        rw [refHi]; simp only [List.getD, hx, hy, Option.getD_some])
      have hr := fun i => cell_of_heap (i := i) D.pool
      have hrl : w.heap.size < wr.heap.size := by omega
      have hbl1 : b < wr.heap.size := Nat.lt_of_lt_of_le hb D.old.size
      have hbl2 : b2 < wr.heap.size := Nat.lt_of_lt_of_le hb2 D.old.size
      generalize refLo had part shares k = lo at *
      generalize refHi had part shares k = hi at *
      generalize hq1 : quo (100 * y) (100 * x + part) = q at *
      have HQ1 := hid hq1
      have HX : Hid (∀ W, Below wr.heap.size wr W → W.cell? ⟨b2, off2 + k, none⟩ = some (.int .i64 x) ∧ W.cell? ⟨b, off + k, none⟩ = some (.int .i64 y)) := fun W hW => ⟨cell_mono hcx hW, cell_mono hcy hW⟩
      have Hfr : Hid (∀ W : World, Calls Try.prog 46 #[.int .i64 (100 * y), .int .i64 (100 * x + part)] W fun e w' => e = .returned (encQ q) ∧ Below W.heap.size W w') := fun W => by
        have := refFraction_any (100 * y) (100 * x + part) W (by omega) (by omega) (by omega) (by omega)
        rwa [HQ1.out] at this
      clear hx hy hq1
      go_wp2
      refine wp_region_vals [33, 34, 35, 36, 37, 38, 39, 40, 41, 42, 43, 44, 45, 10] (fun seen u W => (seen 0 = true → u 33 = .pointer (some ⟨w.heap.size, 0, none⟩)) ∧
        (seen 1 = true → u 34 = .slice (some ⟨b, off, none⟩) had.length c) ∧
        (seen 2 = true → u 35 = .int .i64 (k : Int)) ∧
        (seen 3 = true → u 36 = .pointer (some ⟨b, off + k, none⟩)) ∧
        (seen 4 = true → u 37 = .int .i64 y) ∧
        (seen 5 = true → u 38 = .int .i64 (100 * y)) ∧
        (seen 6 = true → u 39 = .agg #[.slice (some ⟨b, off, none⟩) had.length c, .int .i64 part, .int .i64 prize]) ∧
        (seen 7 = true → u 40 = .slice (some ⟨b2, off2, none⟩) shares.length c2) ∧
        (seen 8 = true → u 41 = .int .i64 (k : Int)) ∧
        (seen 9 = true → u 42 = .pointer (some ⟨b2, off2 + k, none⟩)) ∧
        (seen 10 = true → u 43 = .int .i64 x) ∧
        (seen 11 = true → u 44 = .int .i64 (100 * x + part)) ∧
        (seen 12 = true → u 45 = .agg #[.int .i64 q.1, .int .i64 q.2]) ∧
        (seen 13 = true → BoxAt wr.heap.size W (u 10) 39 (if seen 14 = true then #[.int .i64 q.1, .int .i64 q.2] else #[.int .i64 0, .int .i64 0])) ∧
        (seen 14 = true → seen 13 = true))
        (by kernel_rfl) (by kernel_rfl) (by kernel_rfl) (by simp) (by simp) ?_ ?_
      · intro i o ho seen a' w9 hb9 ⟨F0, F1, F2, F3, F4, F5, F6, F7, F8, F9, F10, F11, F12, F13, F14⟩ hv hsi hdep
        obtain ⟨hcx9, hcy9⟩ := HX.out w9 hb9
        have D9 := D.mono hb9
        have hr9 := fun i => cell_of_heap (i := i) D9.pool
        have hrl9 : w.heap.size < w9.heap.size := Nat.lt_of_lt_of_le hrl hb9.size
        have hbl19 : b < w9.heap.size := Nat.lt_of_lt_of_le hbl1 hb9.size
        have hbl29 : b2 < w9.heap.size := Nat.lt_of_lt_of_le hbl2 hb9.size
        rcases i with _ | _ | _ | _ | _ | _ | _ | _ | _ | _ | _ | _ | _ | _ | _ | i <;> simp only [List.getElem?_cons_zero, List.getElem?_cons_succ, List.getElem?_nil, Option.some.injEq, reduceCtorEq] at ho <;> subst ho
        · have x2 := val_at (hv 2 (by simp))
          simp [valsOf] at x2
          refine wp_value (.pointer (some ⟨w.heap.size, 0, none⟩)) (w' := w9) (by simp [execOp, x2, go_sem]) ⟨_, rfl, hb9, ?_⟩
          exact ⟨by simp, by simpa using F1, by simpa using F2, by simpa using F3, by simpa using F4, by simpa using F5, by simpa using F6, by simpa using F7, by simpa using F8, by simpa using F9, by simpa using F10, by simpa using F11, by simpa using F12, by simpa using F13, by simpa using F14⟩
        · have d0 := hdep ⟨0, .data⟩ (by simp) rfl
          have e0 := val_at (F0 d0)
          refine wp_value (.slice (some ⟨b, off, none⟩) had.length c) (w' := w9) (by simp [execOp, e0, go_sem, hr9]) ⟨_, rfl, hb9, ?_⟩
          exact ⟨by simpa using F0, by simp, by simpa using F2, by simpa using F3, by simpa using F4, by simpa using F5, by simpa using F6, by simpa using F7, by simpa using F8, by simpa using F9, by simpa using F10, by simpa using F11, by simpa using F12, by simpa using F13, by simpa using F14⟩
        · have x9 := val_at (hv 9 (by simp))
          simp [valsOf] at x9
          refine wp_value (.int .i64 (k : Int)) (w' := w9) (by simp [execOp, x9, go_sem]) ⟨_, rfl, hb9, ?_⟩
          exact ⟨by simpa using F0, by simpa using F1, by simp, by simpa using F3, by simpa using F4, by simpa using F5, by simpa using F6, by simpa using F7, by simpa using F8, by simpa using F9, by simpa using F10, by simpa using F11, by simpa using F12, by simpa using F13, by simpa using F14⟩
        · have d1 := hdep ⟨1, .data⟩ (by simp) rfl
          have e1 := val_at (F1 d1)
          have d2 := hdep ⟨2, .data⟩ (by simp) rfl
          have e2 := val_at (F2 d2)
          refine wp_value (.pointer (some ⟨b, off + k, none⟩)) (w' := w9) (by simp [execOp, e2, go_sem, e1, hlth']) ⟨_, rfl, hb9, ?_⟩
          exact ⟨by simpa using F0, by simpa using F1, by simpa using F2, by simp, by simpa using F4, by simpa using F5, by simpa using F6, by simpa using F7, by simpa using F8, by simpa using F9, by simpa using F10, by simpa using F11, by simpa using F12, by simpa using F13, by simpa using F14⟩
        · have d3 := hdep ⟨3, .data⟩ (by simp) rfl
          have e3 := val_at (F3 d3)
          refine wp_value (.int .i64 y) (w' := w9) (by simp [execOp, e3, go_sem, hcy9]) ⟨_, rfl, hb9, ?_⟩
          exact ⟨by simpa using F0, by simpa using F1, by simpa using F2, by simpa using F3, by simp, by simpa using F5, by simpa using F6, by simpa using F7, by simpa using F8, by simpa using F9, by simpa using F10, by simpa using F11, by simpa using F12, by simpa using F13, by simpa using F14⟩
        · have d4 := hdep ⟨4, .data⟩ (by simp) rfl
          have e4 := val_at (F4 d4)
          refine wp_value (.int .i64 (100 * y)) (w' := w9) (by simp [execOp, e4, go_sem, e1]) ⟨_, rfl, hb9, ?_⟩
          exact ⟨by simpa using F0, by simpa using F1, by simpa using F2, by simpa using F3, by simpa using F4, by simp, by simpa using F6, by simpa using F7, by simpa using F8, by simpa using F9, by simpa using F10, by simpa using F11, by simpa using F12, by simpa using F13, by simpa using F14⟩
        · have x2 := val_at (hv 2 (by simp))
          simp [valsOf] at x2
          refine wp_value (.agg #[.slice (some ⟨b, off, none⟩) had.length c, .int .i64 part, .int .i64 prize]) (w' := w9) (by simp [execOp, x2, go_sem, hr9]) ⟨_, rfl, hb9, ?_⟩
          exact ⟨by simpa using F0, by simpa using F1, by simpa using F2, by simpa using F3, by simpa using F4, by simpa using F5, by simp, by simpa using F7, by simpa using F8, by simpa using F9, by simpa using F10, by simpa using F11, by simpa using F12, by simpa using F13, by simpa using F14⟩
        · have x1 := val_at (hv 1 (by simp))
          simp [valsOf] at x1
          refine wp_value (.slice (some ⟨b2, off2, none⟩) shares.length c2) (w' := w9) (by simp [execOp, x1, go_sem]) ⟨_, rfl, hb9, ?_⟩
          exact ⟨by simpa using F0, by simpa using F1, by simpa using F2, by simpa using F3, by simpa using F4, by simpa using F5, by simpa using F6, by simp, by simpa using F8, by simpa using F9, by simpa using F10, by simpa using F11, by simpa using F12, by simpa using F13, by simpa using F14⟩
        · have x9 := val_at (hv 9 (by simp))
          simp [valsOf] at x9
          refine wp_value (.int .i64 (k : Int)) (w' := w9) (by simp [execOp, x9, go_sem]) ⟨_, rfl, hb9, ?_⟩
          exact ⟨by simpa using F0, by simpa using F1, by simpa using F2, by simpa using F3, by simpa using F4, by simpa using F5, by simpa using F6, by simpa using F7, by simp, by simpa using F9, by simpa using F10, by simpa using F11, by simpa using F12, by simpa using F13, by simpa using F14⟩
        · have d7 := hdep ⟨7, .data⟩ (by simp) rfl
          have e7 := val_at (F7 d7)
          have d8 := hdep ⟨8, .data⟩ (by simp) rfl
          have e8 := val_at (F8 d8)
          refine wp_value (.pointer (some ⟨b2, off2 + k, none⟩)) (w' := w9) (by simp [execOp, e7, e8, go_sem, hlt]) ⟨_, rfl, hb9, ?_⟩
          exact ⟨by simpa using F0, by simpa using F1, by simpa using F2, by simpa using F3, by simpa using F4, by simpa using F5, by simpa using F6, by simpa using F7, by simpa using F8, by simp, by simpa using F10, by simpa using F11, by simpa using F12, by simpa using F13, by simpa using F14⟩
        · have d9 := hdep ⟨9, .data⟩ (by simp) rfl
          have e9 := val_at (F9 d9)
          refine wp_value (.int .i64 x) (w' := w9) (by simp [execOp, e9, go_sem, hcx9]) ⟨_, rfl, hb9, ?_⟩
          exact ⟨by simpa using F0, by simpa using F1, by simpa using F2, by simpa using F3, by simpa using F4, by simpa using F5, by simpa using F6, by simpa using F7, by simpa using F8, by simpa using F9, by simp, by simpa using F11, by simpa using F12, by simpa using F13, by simpa using F14⟩
        · have d6 := hdep ⟨6, .data⟩ (by simp) rfl
          have e6 := val_at (F6 d6)
          have d10 := hdep ⟨10, .data⟩ (by simp) rfl
          have e10 := val_at (F10 d10)
          refine wp_calls (f := 63) (args := #[.agg #[.slice (some ⟨b, off, none⟩) had.length c, .int .i64 part, .int .i64 prize], .int .i64 x]) (w' := w9) (by simp [e6, e10, go_sem]) (Hst.out _ _ _ _ (by omega) (by omega)) ?_
          rintro e w10 ⟨rfl, hg⟩
          refine ⟨_, rfl, _, rfl, bl_trans hb9 hg, ?_⟩
          exact ⟨by simpa using F0, by simpa using F1, by simpa using F2, by simpa using F3, by simpa using F4, by simpa using F5, by simpa using F6, by simpa using F7, by simpa using F8, by simpa using F9, by simpa using F10, by simp, by simpa using F12, by simpa using fun h => (F13 h).mono hg, by simpa using F14⟩
        · have d5 := hdep ⟨5, .data⟩ (by simp) rfl
          have e5 := val_at (F5 d5)
          have d11 := hdep ⟨11, .data⟩ (by simp) rfl
          have e11 := val_at (F11 d11)
          refine wp_calls (f := 46) (args := #[.int .i64 (100 * y), .int .i64 (100 * x + part)]) (w' := w9) (by simp [e5, e11, go_sem]) (Hfr.out _) ?_
          rintro e w10 ⟨rfl, hg⟩
          refine ⟨_, rfl, _, rfl, bl_trans hb9 hg, ?_⟩
          exact ⟨by simpa using F0, by simpa using F1, by simpa using F2, by simpa using F3, by simpa using F4, by simpa using F5, by simpa using F6, by simpa using F7, by simpa using F8, by simpa using F9, by simpa using F10, by simpa using F11, by simp [encQ], by simpa using fun h => (F13 h).mono hg, by simpa using F14⟩
        · have hg : Below w9.heap.size w9 (w9.alloc (.cells #[.int .i64 0, .int .i64 0] 39)) := bl_alloc (bl_refl _) _
          have hs : seen 14 = false := by
            cases h : seen 14 with
            | false => rfl
            | true => have := F14 h; rw [this] at hsi; cases hsi
          refine wp_value (.pointer (some ⟨w9.heap.size, 0, none⟩)) (w' := w9.alloc (.cells #[.int .i64 0, .int .i64 0] 39)) (by simp [execOp, go_sem]) ⟨_, rfl, bl_trans hb9 hg, ?_⟩
          exact ⟨by simpa using F0, by simpa using F1, by simpa using F2, by simpa using F3, by simpa using F4, by simpa using F5, by simpa using F6, by simpa using F7, by simpa using F8, by simpa using F9, by simpa using F10, by simpa using F11, by simpa using F12, by simpa [hs] using BoxAt.new (by have := hb9.size; omega), by simp⟩
        · have d13 := hdep ⟨13, .data⟩ (by simp) rfl
          have d12 := hdep ⟨12, .data⟩ (by simp) rfl
          have e12 := val_at (F12 d12)
          have e1 := F13 d13
          rw [hsi] at e1
          simp only [Bool.false_eq_true, if_false] at e1
          obtain ⟨B, hB, hB2, hB3⟩ := e1
          have ep := val_at hB
          have c0 := cell_of_heap (i := 0) hB3
          have c1 := cell_of_heap (i := 1) hB3
          have f0 := frozen_of_heap (i := 0) hB3
          have f1 := frozen_of_heap (i := 1) hB3
          have hBl := (Array.getElem?_eq_some_iff.1 hB3).1
          have hst := BoxAt.stored2 hB hB2 hB3 (.int .i64 q.1) (.int .i64 q.2)
          refine wp_effect (w' := (w9.setCell ⟨B, 0, none⟩ (.int .i64 q.1)).setCell ⟨B, 1, none⟩ (.int .i64 q.2)) (by simp [execOp, e12, ep, go_sem, c0, c1, f0, f1]) ⟨_, rfl, bl_set (bl_set hb9 _ hB2) _ hB2, ?_⟩
          exact ⟨by simpa using F0, by simpa using F1, by simpa using F2, by simpa using F3, by simpa using F4, by simpa using F5, by simpa using F6, by simpa using F7, by simpa using F8, by simpa using F9, by simpa using F10, by simpa using F11, by simpa using F12, by simpa using fun _ => hst.1, by simpa using d13⟩
      intro u w5 hb5 seen hall ⟨F0, F1, F2, F3, F4, F5, F6, F7, F8, F9, F10, F11, F12, F13, F14⟩
      replace F0 := F0 (hall 0 (by decide))
      replace F1 := F1 (hall 1 (by decide))
      replace F2 := F2 (hall 2 (by decide))
      replace F3 := F3 (hall 3 (by decide))
      replace F4 := F4 (hall 4 (by decide))
      replace F5 := F5 (hall 5 (by decide))
      replace F6 := F6 (hall 6 (by decide))
      replace F7 := F7 (hall 7 (by decide))
      replace F8 := F8 (hall 8 (by decide))
      replace F9 := F9 (hall 9 (by decide))
      replace F10 := F10 (hall 10 (by decide))
      replace F11 := F11 (hall 11 (by decide))
      replace F12 := F12 (hall 12 (by decide))
      replace F13 := F13 (hall 13 (by decide))
      replace F14 := F14 (hall 14 (by decide))
      rw [hall 14 (by decide), if_pos rfl] at F13
      obtain ⟨B, hu, hBb, k10⟩ := F13
      simp only [setAll, F0, F1, F2, F3, F4, F5, F6, F7, F8, F9, F10, F11, F12, hu]
      have D5 := D.mono hb5
      obtain ⟨hcx5, hcy5⟩ := HX.out w5 hb5
      have hcl5 := fun i => cell_of_heap (i := i) D5.lo
      have hc10 := fun i => cell_of_heap (i := i) k10
      have hw5 : w1.heap.size + 1 < w5.heap.size := Nat.lt_of_lt_of_le hwl hb5.size
      have hw50 : w1.heap.size < w5.heap.size := by omega
      have hBl : B < w5.heap.size := (Array.getElem?_eq_some_iff.1 k10).1
      have hB1' : w1.heap.size + 1 < B := by omega
      have HB5 := hid hb5
      clear hcx hcy hr hrl hbl1 hbl2 D hb5 F0 F1 F2 F3 F4 F5 F6 F7 F8 F9 F10 F11 F12 F14 hall hu hBb
      go_wp2_with fail
      refine (refLess_any lo q _ (mid_mul hlo hq) (mid_mul hq hlo)).mono ?_
      rintro e w6 ⟨rfl, hb6⟩
      have D6 := D5.mono hb6
      have k106 := heap_mono k10 hb6
      have hw6 : B < w6.heap.size := Nat.lt_of_lt_of_le hBl hb6.size
      obtain ⟨hcx6, hcy6⟩ := HX.out w6 (bl_trans HB5.out hb6)
      clear hcx5 hcy5 hcl5 D5 k10 hb6 hc10
      cases hless : lessB lo q with
      | true =>
        have hst1 := hid (show refLo had part shares (k + 1) = q by rw [hsl1.out, if_pos hless])
        have h6c := fun i => cell_of_heap (i := i) k106
        have h6l := fun i => cell_of_heap (i := i) D6.lo
        have h6f : ∀ i, w6.frozen? ⟨w1.heap.size, i, none⟩ = false := fun i => frozen_of_heap D6.lo
        have D7' := D6.setLo hl1 q
        have k107' := set2_other k106 (show B ≠ w1.heap.size by omega) (.int .i64 q.1) (.int .i64 q.2)
        have hw7' : B < ((w6.setCell ⟨w1.heap.size, 0, none⟩ (.int .i64 q.1)).setCell ⟨w1.heap.size, 1, none⟩ (.int .i64 q.2)).heap.size := by simpa [World.setCell] using hw6
        have hx7' : ((w6.setCell ⟨w1.heap.size, 0, none⟩ (.int .i64 q.1)).setCell ⟨w1.heap.size, 1, none⟩ (.int .i64 q.2)).cell? ⟨b2, off2 + k, none⟩ = some (.int .i64 x) := (grown_two (grown_set w6 w1.heap.size 0 _) (grown_set _ w1.heap.size 1 _)).cell hcx6 (by intro e; injection e with e; change b2 = _ at e; have := D6.old.size; omega)
        have hy7' : ((w6.setCell ⟨w1.heap.size, 0, none⟩ (.int .i64 q.1)).setCell ⟨w1.heap.size, 1, none⟩ (.int .i64 q.2)).cell? ⟨b, off + k, none⟩ = some (.int .i64 y) := (grown_two (grown_set w6 w1.heap.size 0 _) (grown_set _ w1.heap.size 1 _)).cell hcy6 (by intro e; injection e with e; change b = _ at e; have := D6.old.size; omega)
        have hw61 : w1.heap.size < w6.heap.size := by omega
        have hw62 : B < w6.heap.size := hw6
        clear hless hsl1 D6 k106 hcx6 hcy6
        go_upto_region 12 with (fail)
        obtain ⟨w7, hw7e⟩ : ∃ w7, (w6.setCell ⟨w1.heap.size, 0, none⟩ (.int .i64 q.1)).setCell ⟨w1.heap.size, 1, none⟩ (.int .i64 q.2) = w7 := ⟨_, rfl⟩
        rw [hw7e] at D7' k107' hw7' hx7' hy7' ⊢
        have D7 := D7'
        have k107 := k107'
        have hw7 := hw7'
        have hcx7 := hx7'
        have hcy7 := hy7'
        have hw71 : w1.heap.size + 1 < w7.heap.size := by omega
        clear hw7e D7' k107' hw7' hx7' hy7' h6c h6l h6f
        have hr7 := fun i => cell_of_heap (i := i) D7.pool
        have hrl7 : w.heap.size < w7.heap.size := by omega
        have hbl17 : b < w7.heap.size := Nat.lt_of_lt_of_le hb D7.old.size
        have hbl27 : b2 < w7.heap.size := Nat.lt_of_lt_of_le hb2 D7.old.size
        by_cases hx0 : 0 < x
        · have hxg : decide (0 < x) = true := by simpa using hx0
          have e2 : IntKind.i64.wrap (x - 1) = x - 1 := IntWalk.i64_in _ (by omega)
          have hq2 := (quo_small (a := 100 * y) (b := 100 * (x - 1) + part) (by omega) (by omega) (by omega) (by omega)).1.mid
          have hs2' := hid (show refHi had part shares (k + 1) = if lessB (quo (100 * y) (100 * (x - 1) + part)) hi = true then quo (100 * y) (100 * (x - 1) + part) else hi by rw [hsl2.out, if_pos hx0])
          have Hfr2 : Hid (∀ W : World, Calls Try.prog 46 #[.int .i64 (100 * y), .int .i64 (100 * (x - 1) + part)] W fun e w' => e = .returned (encQ (quo (100 * y) (100 * (x - 1) + part))) ∧ Below W.heap.size W w') := fun W => refFraction_any (100 * y) (100 * (x - 1) + part) W (by omega) (by omega) (by omega) (by omega)
          generalize quo (100 * y) (100 * (x - 1) + part) = r at *
          clear hx0
          go_wp2
          refine wp_region_below_tail 14 (by kernel_rfl) (by kernel_rfl) ?_
          simp only [List.take_succ_cons, List.take_zero, List.drop_succ_cons, List.drop_zero]
          repeat (first | go_big_quiet_step (first | (go_at_call 63; exact Calls.regrown_of (Hst.out _ _ _ _ (by omega) (by omega))) | (go_at_call 46; exact Calls.regrown_of (Hfr2.out _))) | quiet_step (first | (go_at_call 63; exact Calls.regrown_of (Hst.out _ _ _ _ (by omega) (by omega))) | (go_at_call 46; exact Calls.regrown_of (Hfr2.out _))))
          refine wpQuiet_nil ?_
          intro w8 hb8
          have D8 := D7.mono hb8
          have k108 := heap_mono k107 hb8
          have hw8 : B < w8.heap.size := Nat.lt_of_lt_of_le hw7 hb8.size
          have hw81 : w1.heap.size + 1 < w8.heap.size := by omega
          have h8c := fun i => cell_of_heap (i := i) k108
          have h8f : ∀ i, w8.frozen? ⟨B, i, none⟩ = false := fun i => frozen_of_heap k108
          have h8h := fun i => cell_of_heap (i := i) D8.hi
          have k109 := set2 k108 (.int .i64 r.1) (.int .i64 r.2)
          have D9 : DInv w ((w8.setCell ⟨B, 0, none⟩ (.int .i64 r.1)).setCell ⟨B, 1, none⟩ (.int .i64 r.2)) w1.heap.size #[.slice (some ⟨b, off, none⟩) had.length c, .int .i64 part, .int .i64 prize] q hi :=
            ⟨set2_other D8.pool (by omega) _ _, set2_other D8.r1 (by omega) _ _, set2_other D8.r2 (by omega) _ _, set2_other D8.lo (by omega) _ _, set2_other D8.hi (by omega) _ _, bl_set (bl_set D8.old _ (by omega)) _ (by omega)⟩
          clear hr7 hrl7 hbl17 hbl27 D7 k107 hb8 D8
          unfold encQ
          go_wp2_with fail
          refine (refLess_any r hi _ (mid_mul hq2 hhi) (mid_mul hhi hq2)).mono ?_
          rintro e w10 ⟨rfl, hb10⟩
          have D10 := D9.mono hb10
          have k1010 := heap_mono k109 hb10
          have hw10 : B < w10.heap.size := by have := hb10.size; simp [World.setCell] at this; omega
          have hw101 : w1.heap.size + 1 < w10.heap.size := by omega
          clear h8c h8f h8h k109 k108 D9 hb10
          cases hless2 : lessB r hi with
          | true =>
            have hst2 := hid (show refHi had part shares (k + 1) = r by rw [hs2'.out, if_pos hless2])
            have h10c := fun i => cell_of_heap (i := i) k1010
            have h10h := fun i => cell_of_heap (i := i) D10.hi
            have h10f : ∀ i, w10.frozen? ⟨w1.heap.size + 1, i, none⟩ = false := fun i => frozen_of_heap D10.hi
            have D11 := D10.setHi hl1 r
            have hw11 : w1.heap.size + 1 < ((w10.setCell ⟨w1.heap.size + 1, 0, none⟩ (.int .i64 r.1)).setCell ⟨w1.heap.size + 1, 1, none⟩ (.int .i64 r.2)).heap.size := by simpa [World.setCell] using hw101
            clear D10 k1010 hless2 hs2' hsl2
            go_wp2
            go_roundw
            case rel => exact ⟨k + 1, by omega, by go_num, by rw [hst1.out, hst2.out]; exact D11, hw11⟩
            case measure => simp [intOf]; omega
          | false =>
            have hst2 := hid (show refHi had part shares (k + 1) = hi by rw [hs2'.out, if_neg (by rw [hless2]; simp)])
            clear k1010 hless2 hs2' hsl2
            go_wp2
            go_roundw
            case rel => exact ⟨k + 1, by omega, by go_num, by rw [hst1.out, hst2.out]; exact D10, hw101⟩
            case measure => simp [intOf]; omega
        · have hxg : decide (0 < x) = false := by simpa using hx0
          have hst2 := hid (show refHi had part shares (k + 1) = hi by rw [hsl2.out, if_neg hx0])
          clear hx0 hsl2 hr7
          go_wp2
          go_roundw
          case rel => exact ⟨k + 1, by omega, by go_num, by rw [hst1.out, hst2.out]; exact D7, hw71⟩
          case measure => simp [intOf]; omega
      | false =>
        have hst1 := hid (show refLo had part shares (k + 1) = lo by rw [hsl1.out, if_neg (by rw [hless]; simp)])
        obtain ⟨w7, hw7e⟩ : ∃ w7, w6 = w7 := ⟨_, rfl⟩
        subst hw7e
        have D7 := D6
        have k107 := k106
        have hw7 := hw6
        have hcx7 := hcx6
        have hcy7 := hcy6
        have hw71 : w1.heap.size + 1 < w6.heap.size := by omega
        clear hless hsl1 D6 k106 hcx6 hcy6
        have hr7 := fun i => cell_of_heap (i := i) D7.pool
        have hrl7 : w.heap.size < w6.heap.size := by omega
        have hbl17 : b < w6.heap.size := Nat.lt_of_lt_of_le hb D7.old.size
        have hbl27 : b2 < w6.heap.size := Nat.lt_of_lt_of_le hb2 D7.old.size
        by_cases hx0 : 0 < x
        · have hxg : decide (0 < x) = true := by simpa using hx0
          have e2 : IntKind.i64.wrap (x - 1) = x - 1 := IntWalk.i64_in _ (by omega)
          have hq2 := (quo_small (a := 100 * y) (b := 100 * (x - 1) + part) (by omega) (by omega) (by omega) (by omega)).1.mid
          have hs2' := hid (show refHi had part shares (k + 1) = if lessB (quo (100 * y) (100 * (x - 1) + part)) hi = true then quo (100 * y) (100 * (x - 1) + part) else hi by rw [hsl2.out, if_pos hx0])
          have Hfr2 : Hid (∀ W : World, Calls Try.prog 46 #[.int .i64 (100 * y), .int .i64 (100 * (x - 1) + part)] W fun e w' => e = .returned (encQ (quo (100 * y) (100 * (x - 1) + part))) ∧ Below W.heap.size W w') := fun W => refFraction_any (100 * y) (100 * (x - 1) + part) W (by omega) (by omega) (by omega) (by omega)
          generalize quo (100 * y) (100 * (x - 1) + part) = r at *
          clear hx0
          go_wp2
          refine wp_region_below_tail 14 (by kernel_rfl) (by kernel_rfl) ?_
          simp only [List.take_succ_cons, List.take_zero, List.drop_succ_cons, List.drop_zero]
          repeat (first | go_big_quiet_step (first | (go_at_call 63; exact Calls.regrown_of (Hst.out _ _ _ _ (by omega) (by omega))) | (go_at_call 46; exact Calls.regrown_of (Hfr2.out _))) | quiet_step (first | (go_at_call 63; exact Calls.regrown_of (Hst.out _ _ _ _ (by omega) (by omega))) | (go_at_call 46; exact Calls.regrown_of (Hfr2.out _))))
          refine wpQuiet_nil ?_
          intro w8 hb8
          have D8 := D7.mono hb8
          have k108 := heap_mono k107 hb8
          have hw8 : B < w8.heap.size := Nat.lt_of_lt_of_le hw7 hb8.size
          have hw81 : w1.heap.size + 1 < w8.heap.size := by omega
          have h8c := fun i => cell_of_heap (i := i) k108
          have h8f : ∀ i, w8.frozen? ⟨B, i, none⟩ = false := fun i => frozen_of_heap k108
          have h8h := fun i => cell_of_heap (i := i) D8.hi
          have k109 := set2 k108 (.int .i64 r.1) (.int .i64 r.2)
          have D9 : DInv w ((w8.setCell ⟨B, 0, none⟩ (.int .i64 r.1)).setCell ⟨B, 1, none⟩ (.int .i64 r.2)) w1.heap.size #[.slice (some ⟨b, off, none⟩) had.length c, .int .i64 part, .int .i64 prize] lo hi :=
            ⟨set2_other D8.pool (by omega) _ _, set2_other D8.r1 (by omega) _ _, set2_other D8.r2 (by omega) _ _, set2_other D8.lo (by omega) _ _, set2_other D8.hi (by omega) _ _, bl_set (bl_set D8.old _ (by omega)) _ (by omega)⟩
          clear hr7 hrl7 hbl17 hbl27 D7 k107 hb8 D8
          unfold encQ
          go_wp2_with fail
          refine (refLess_any r hi _ (mid_mul hq2 hhi) (mid_mul hhi hq2)).mono ?_
          rintro e w10 ⟨rfl, hb10⟩
          have D10 := D9.mono hb10
          have k1010 := heap_mono k109 hb10
          have hw10 : B < w10.heap.size := by have := hb10.size; simp [World.setCell] at this; omega
          have hw101 : w1.heap.size + 1 < w10.heap.size := by omega
          clear h8c h8f h8h k109 k108 D9 hb10
          cases hless2 : lessB r hi with
          | true =>
            have hst2 := hid (show refHi had part shares (k + 1) = r by rw [hs2'.out, if_pos hless2])
            have h10c := fun i => cell_of_heap (i := i) k1010
            have h10h := fun i => cell_of_heap (i := i) D10.hi
            have h10f : ∀ i, w10.frozen? ⟨w1.heap.size + 1, i, none⟩ = false := fun i => frozen_of_heap D10.hi
            have D11 := D10.setHi hl1 r
            have hw11 : w1.heap.size + 1 < ((w10.setCell ⟨w1.heap.size + 1, 0, none⟩ (.int .i64 r.1)).setCell ⟨w1.heap.size + 1, 1, none⟩ (.int .i64 r.2)).heap.size := by simpa [World.setCell] using hw101
            clear D10 k1010 hless2 hs2' hsl2
            go_wp2
            go_roundw
            case rel => exact ⟨k + 1, by omega, by go_num, by rw [hst1.out, hst2.out]; exact D11, hw11⟩
            case measure => simp [intOf]; omega
          | false =>
            have hst2 := hid (show refHi had part shares (k + 1) = hi by rw [hs2'.out, if_neg (by rw [hless2]; simp)])
            clear k1010 hless2 hs2' hsl2
            go_wp2
            go_roundw
            case rel => exact ⟨k + 1, by omega, by go_num, by rw [hst1.out, hst2.out]; exact D10, hw101⟩
            case measure => simp [intOf]; omega
        · have hxg : decide (0 < x) = false := by simpa using hx0
          have hst2 := hid (show refHi had part shares (k + 1) = hi by rw [hsl2.out, if_neg hx0])
          clear hx0 hsl2 hr7
          go_wp2
          go_roundw
          case rel => exact ⟨k + 1, by omega, by go_num, by rw [hst1.out, hst2.out]; exact D7, hw71⟩
          case measure => simp [intOf]; omega
    · obtain rfl : k = shares.length := by omega
      have HE := HLEN.out
      have h9l := fun i => cell_of_heap (i := i) D.lo
      have h9h := fun i => cell_of_heap (i := i) D.hi
      have h91 := fun i => cell_of_heap (i := i) D.r1
      have h92 := fun i => cell_of_heap (i := i) D.r2
      have h91f : ∀ i, wr.frozen? ⟨w.heap.size + 1, i, none⟩ = false := fun i => frozen_of_heap D.r1
      have h92f : ∀ i, wr.frozen? ⟨w.heap.size + 2, i, none⟩ = false := fun i => frozen_of_heap D.r2
      have hB := D.old
      have HF : Hid (refLo had part shares had.length = refLo had part shares shares.length ∧ refHi had part shares had.length = refHi had part shares shares.length) := by rw [HE]; exact ⟨rfl, rfl⟩
      have hw90 : w1.heap.size < wr.heap.size := by omega
      have hw91 : w.heap.size + 1 < wr.heap.size := by omega
      have hw92 : w.heap.size + 2 < wr.heap.size := by omega
      generalize refLo had part shares shares.length = lo at *
      generalize refHi had part shares shares.length = hi at *
      clear D HE
      go_wp2
      go_region
      go_wp2
      refine bodyPost_ret (v := .tuple #[.agg #[.int .i64 lo.1, .int .i64 lo.2], .agg #[.int .i64 hi.1, .int .i64 hi.2], .int .i64 0]) (by simp [results, Try.results30, go_sem, h91, h92]) rfl ⟨by rw [HF.out.1, HF.out.2]; rfl, ?_⟩
      exact bl_drew (bl_set (bl_set (bl_set (bl_set hB _ (by omega)) _ (by omega)) _ (by omega)) _ (by omega))

theorem refDivisors_any (had : List Int) (part prize : Int) (shares : List Int) (s s2 : Value) (w : World) (hl : had.length ≤ 1000) (hl2 : shares.length ≤ 1000) (hs : Ints w s had) (hs2 : Ints w s2 shares) :
    Calls Try.prog 30 #[.agg #[s, .int .i64 part, .int .i64 prize], s2] w fun e w' => e = .returned (.tuple #[encQ (divLo had part prize shares), encQ (divHi had part prize shares), .int .i64 (divisorsE had part prize shares)]) ∧ Below w.heap.size w w' := by
  by_cases h0 : divisorsE had part prize shares = 0
  · have hc : checkSharesE had part prize shares = 0 := by
      unfold divisorsE at h0
      by_cases h : checkSharesE had part prize shares = 0
      · exact h
      · rw [if_pos h] at h0; exact h0
    have hp : prize ≠ 0 := by
      intro h
      unfold divisorsE at h0
      rw [if_neg (by simpa using hc), if_pos h] at h0
      cases h0
    have hr : refSharesE had part prize shares = 0 := by rw [← checkShares_law]; exact hc
    have hE : sharedE had part prize shares = 0 := by
      unfold checkSharesE at hc
      by_cases h : sharedE had part prize shares = 0
      · exact h
      · rw [if_pos h] at hc; exact hc
    have O := sharedE_ok.1 hE
    have G := shOk_got O
    have he : ∀ i, i < had.length → (padTo shares).getD i 0 = shares.getD i 0 := fun i hi => padTo_getD (by rw [O.len]; exact hi)
    have hsome : ∃ i, i < had.length ∧ 0 < (padTo shares).getD i 0 := by
      have hz := O.V.z1
      refine Classical.byContradiction fun hn => ?_
      have h0 : ∀ x ∈ shares, x = 0 := fun x hx => by
        obtain ⟨i, hi, rfl⟩ := List.mem_iff_getElem.mp hx
        have h1 := O.rng _ hx
        have h2 : ¬ 0 < (padTo shares).getD i 0 := fun h => hn ⟨i, by rw [← O.len]; exact hi, h⟩
        rw [padTo_getD hi] at h2
        simp only [List.getD, List.getElem?_eq_getElem hi, Option.getD_some] at h2
        omega
      have h3 := O.sum
      have h4 := sum_bd (l := shares) (p := 0) (fun x hx => by have := h0 x hx; omega)
      omega
    rw [divLo, if_pos h0, divHi, if_pos h0, h0, ← refLo_law O.V G he, ← refHi_law O.V G he hsome]
    exact refDiv_good had part prize shares s s2 w O hr hp hs hs2
  · rw [divLo, if_neg h0, divHi, if_neg h0]
    exact refDiv_bad had part prize shares s s2 w hl hl2 hs hs2 h0

end Go.Proofs.Ytfchcikdcnloaaa
