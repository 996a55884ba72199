/- share's Quota. -/
import Derived.Test.YtfchcikdcnloaaaShared
import Derived.Test.YtfchcikdcnloaaaTail
namespace Go.Proofs.Ytfchcikdcnloaaa
open Go.RowKit Go.Proofs
attribute [local go_sem] cell_grow frozen_grow

/-- The error of a pool and an owner. -/
def ownedE (had : List Int) (part prize owner : Int) : Int :=
  if checkPool had part prize ≠ 0 then checkPool had part prize else if owner < 0 ∨ (had.length : Int) ≤ owner then 2 else 0
def quotaLo (had : List Int) (prize : Int) (i : Nat) : Int := had.getD i 0 * prize / had.sum
def quotaHi (had : List Int) (prize : Int) (i : Nat) : Int := if 0 < had.getD i 0 * prize % had.sum then had.getD i 0 * prize / had.sum + 1 else had.getD i 0 * prize / had.sum

theorem had_sum {had : List Int} (h : ∀ x ∈ had, 1 ≤ x ∧ x ≤ 1000000) (hl : had.length ≤ 12) (k : Nat) : 0 ≤ (had.take k).sum ∧ (had.take k).sum ≤ 12000000 := by
  have := sum_bd (l := had.take k) (p := 1000000) (fun x hx => by have := h x (List.mem_of_mem_take hx); omega)
  have h2 : (had.take k).length ≤ 12 := by simp; omega
  omega
theorem had_sum_pos {had : List Int} (h : ∀ x ∈ had, 1 ≤ x ∧ x ≤ 1000000) (hl : 1 ≤ had.length) : 1 ≤ had.sum := by
  cases had with
  | nil => simp at hl
  | cons a l =>
    have h1 := h a (by simp)
    have := sum_bd (l := l) (p := 1000000) (fun x hx => by have := h x (by simp [hx]); omega)
    simp only [List.sum_cons]; omega
theorem Val.mem {had : List Int} {part prize : Int} (V : Val had part prize) : ∀ x ∈ had, 1 ≤ x ∧ x ≤ 1000000 := by
  intro x hx
  obtain ⟨i, hi, rfl⟩ := List.mem_iff_getElem.mp hx
  exact V.h1 i _ (by simp [hi])

set_option maxRecDepth 100000 in
set_option maxHeartbeats 2000000 in
theorem quota_good (had : List Int) (part prize : Int) (i : Nat) (s : Value) (w : World) (V : Val had part prize) (hi : i < had.length) (hs : Ints w s had) :
    Calls Try.prog 37 #[.agg #[s, .int .i64 part, .int .i64 prize], .int .i64 i] w fun e w' => e = .returned (.tuple #[.agg #[.int .i64 (quotaLo had prize i), .int .i64 (quotaHi had prize i)], .int .i64 0]) ∧ Below w.heap.size w w' := by
  have hv2 := V.l2
  have hz1 := V.z1
  have hz2 := V.z2
  obtain ⟨b, off, c, rfl, _, hb, hc⟩ := hs.some V.l1
  obtain ⟨x, hx⟩ := get_at hi
  have hxb := V.h1 i x hx
  have hcx := hc i x hx
  have hgetD : had.getD i 0 = x := by simp [List.getD, hx]
  have HX := hid hgetD
  have Hc := Lib.hid hc
  have hsum := had_sum V.mem hv2
  have hsp := had_sum_pos V.mem V.l1
  have Hsum := Lib.hid hsum
  have hsa := hsum had.length
  rw [List.take_length] at hsa
  clear hc hx hsum hgetD
  go_enter Try.func37, Try.ntmps37
  go_wp2_with fail
  refine (owned_ok had part prize i _ _ V hi (hs.mono (bl_alloc (bl_alloc (bl_refl _) _) _))).mono ?_
  rintro e w1 ⟨⟨g, b', off', c', rfl, hg, T⟩, hb1⟩
  clear T
  have hB1 := bl_trans (bl_alloc (bl_alloc (bl_refl w) _) _) hb1
  obtain ⟨hq1, hqf1⟩ := new_cells (w := w.alloc _) hb1
  obtain ⟨hr1, hrf1⟩ := new_cells (w := w) (bl_trans (bl_alloc (bl_refl _) _) hb1)
  simp only [World.size_alloc] at hq1 hqf1 hg
  have hz := hb1.size
  simp only [World.size_alloc] at hz
  go_wp2
  go_loop [8, 26] (fun a j => ∃ k : Nat, k ≤ had.length ∧ j = .int .i64 k ∧ a = .int .i64 (had.take k).sum) (fun _ j => had.length - (intOf j).toNat)
  case atStart => exact ⟨0, Nat.zero_le _, rfl, by simp⟩
  case round =>
    obtain ⟨k, hk, rfl, rfl⟩ := hrel
    by_cases hlt : k < had.length
    · obtain ⟨y, hy⟩ := get_at hlt
      have hcy := cell_mono (Hc.out k y hy) hB1
      have hyb := V.h1 k y hy
      have hsb := Hsum.out k
      have hsn := hid (sum_take hy)
      clear hy
      go_wp2
      go_round
      case rel => exact ⟨k + 1, by omega, by go_num, by rw [hsn.out]⟩
      case measure => simp [intOf]; omega
    · obtain rfl : k = had.length := by omega
      rw [List.take_length]
      have hcx1 := cell_mono hcx hB1
      have e1 : IntKind.i64.wrap (x * prize) = x * prize := by
        have := Int.mul_le_mul hxb.2 hz2 hz1 (by omega)
        have := Int.mul_nonneg (show 0 ≤ x by omega) hz1
        exact IntWalk.i64_in _ (by omega)
      have hpb : 0 ≤ x * prize ∧ x * prize ≤ 1000000000 := by
        have := Int.mul_le_mul hxb.2 hz2 hz1 (by omega)
        have := Int.mul_nonneg (show 0 ≤ x by omega) hz1
        omega
      have hs0 : (had.sum == 0) = false := by simp; omega
      generalize hS : had.sum = S at *
      have HS := hid hS
      clear hS
      have hlt1 : w.heap.size < w1.heap.size := by omega
      have hlt2 : b < w1.heap.size := by omega
      go_wp2
      refine wp_region_below (by kernel_rfl) (by kernel_rfl) ?_
      repeat (first | go_big_quiet_step (fail) | quiet_step (fail))
      refine wpQuiet_nil ?_
      intro w5 hb5
      clear e1
      go_wp2
      go_region
      have hB5 := bl_trans hB1 hb5
      obtain ⟨hq5, hqf5⟩ := new_cells (w := w.alloc _) (bl_trans hb1 hb5)
      simp only [World.size_alloc] at hq5 hqf5
      have hz5 := hb5.size
      have hlt5 : w.heap.size + 1 < w5.heap.size := by omega
      have hqb : 0 ≤ x * prize / S ∧ x * prize / S ≤ 1000000000 := ⟨Int.ediv_nonneg hpb.1 (by omega), Int.le_trans (Int.ediv_le_self _ hpb.1) hpb.2⟩
      by_cases hm : 0 < x * prize % S
      · have hm1 : decide (0 < x * prize % S) = true := by simpa using hm
        have hhi := hid (show quotaHi had prize i = x * prize / S + 1 by unfold quotaHi; rw [HX.out, HS.out, if_pos hm])
        have hlo := hid (show quotaLo had prize i = x * prize / S by unfold quotaLo; rw [HX.out, HS.out])
        clear hm
        go_wp2
        refine bodyPost_ret (v := .tuple #[.agg #[.int .i64 (x * prize / S), .int .i64 (x * prize / S + 1)], .int .i64 0]) (by simp [results, Try.results37, go_sem, hq5, hlt5]) rfl ⟨by rw [hhi.out, hlo.out], ?_⟩
        exact bl_drew (bl_alloc (bl_set (bl_set hB5 _ (by omega)) _ (by omega)) _)
      · have hm1 : decide (0 < x * prize % S) = false := by simpa using hm
        have hhi := hid (show quotaHi had prize i = x * prize / S by unfold quotaHi; rw [HX.out, HS.out, if_neg hm])
        have hlo := hid (show quotaLo had prize i = x * prize / S by unfold quotaLo; rw [HX.out, HS.out])
        clear hm
        go_wp2
        refine bodyPost_ret (v := .tuple #[.agg #[.int .i64 (x * prize / S), .int .i64 (x * prize / S)], .int .i64 0]) (by simp [results, Try.results37, go_sem, hq5, hlt5]) rfl ⟨by rw [hhi.out, hlo.out], ?_⟩
        exact bl_drew (bl_alloc (bl_set (bl_set hB5 _ (by omega)) _ (by omega)) _)

def quotaE (had : List Int) (part prize owner : Int) : Int := ownedE had part prize owner
def quotaR (had : List Int) (part prize owner : Int) : Int × Int := if ownedE had part prize owner = 0 then (quotaLo had prize owner.toNat, quotaHi had prize owner.toNat) else (0, 0)

theorem ownedE_ok {had : List Int} {part prize owner : Int} : ownedE had part prize owner = 0 ↔ Val had part prize ∧ 0 ≤ owner ∧ owner < had.length := by
  unfold ownedE
  constructor
  · intro h
    split at h
    · omega
    split at h
    · omega
    exact ⟨checkPool_ok.mp (by omega), by omega, by omega⟩
  · rintro ⟨V, h1, h2⟩
    rw [if_neg (by simpa using checkPool_ok.mpr V), if_neg (by omega)]

set_option maxRecDepth 100000 in
set_option maxHeartbeats 2000000 in
theorem quota_any (had : List Int) (part prize owner : Int) (s : Value) (w : World) (hl : had.length ≤ 1000) (hs : Ints w s had) :
    Calls Try.prog 37 #[.agg #[s, .int .i64 part, .int .i64 prize], .int .i64 owner] w fun e w' => e = .returned (.tuple #[encQ (quotaR had part prize owner), .int .i64 (ownedE had part prize owner)]) ∧ Below w.heap.size w w' := by
  by_cases h : ownedE had part prize owner = 0
  · obtain ⟨V, h1, h2⟩ := ownedE_ok.mp h
    obtain ⟨i, rfl⟩ : ∃ i : Nat, owner = i := ⟨owner.toNat, by omega⟩
    have e : quotaR had part prize i = (quotaLo had prize i, quotaHi had prize i) := by simp [quotaR, h]
    rw [h, e]
    exact quota_good had part prize i s w V (by omega) hs
  · have e : quotaR had part prize owner = (0, 0) := by simp [quotaR, h]
    have hcall : ∀ W, Ints W s had → Calls Try.prog 68 #[.agg #[s, .int .i64 part, .int .i64 prize], .int .i64 owner] W fun e w' => e = .returned (.tuple #[.pointer none, .int .i64 (ownedE had part prize owner)]) ∧ Below W.heap.size W w' := by
      intro W hW
      by_cases h0 : checkPool had part prize = 0
      · have V := checkPool_ok.mp h0
        have ho : owner < 0 ∨ (had.length : Int) ≤ owner := by
          have := mt (fun hh => ownedE_ok.mpr ⟨V, hh⟩) h
          omega
        have e2 : ownedE had part prize owner = 2 := by unfold ownedE; rw [if_neg (by simpa using h0), if_pos ho]
        rw [e2]
        exact owned_arg had part prize owner s W V ho hW
      · have e2 : ownedE had part prize owner = checkPool had part prize := by unfold ownedE; rw [if_pos h0]
        rw [e2]
        exact owned_err had part prize owner s W hl h0 hW
    have Hcall := Lib.hid hcall
    have E := hid e
    have hcp : (ownedE had part prize owner != 0) = true := by simpa using h
    clear hcall e h
    obtain ⟨A, c, rfl⟩ := hs.slice
    go_enter Try.func37, Try.ntmps37
    go_wp2_with fail
    refine (Hcall.out _ (hs.mono (bl_alloc (bl_alloc (bl_refl _) _) _))).mono ?_
    rintro e w1 ⟨rfl, hb1⟩
    have hB1 := bl_trans (bl_alloc (bl_alloc (bl_refl w) _) _) hb1
    obtain ⟨hq1, hqf1⟩ := new_cells (w := w.alloc _) hb1
    simp only [World.size_alloc] at hq1 hqf1
    go_wp2
    refine bodyPost_ret (v := .tuple #[.agg #[.int .i64 0, .int .i64 0], .int .i64 (ownedE had part prize owner)]) (by simp [results, Try.results37, go_sem, hq1]) rfl ⟨by rw [E.out]; rfl, ?_⟩
    exact bl_set (bl_set hB1 _ (by omega)) _ (by omega)

end Go.Proofs.Ytfchcikdcnloaaa
