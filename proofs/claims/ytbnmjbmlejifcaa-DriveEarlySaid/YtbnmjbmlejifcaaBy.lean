/- By: the walk. -/
import Derived.Test.YtbnmjbmlejifcaaMost
set_option linter.all false
namespace Go.Proofs.Ytbnmjbmlejifcaa
open Go Go.RowKit Go.Proofs
attribute [local go_sem] cell_grow frozen_grow

/-- The first of so many days, from one on, by which so many are there; 0 if there is none. -/
def byD (f : Nat → Int) (logs : Int) : Nat → Nat → Nat
  | 0, _ => 0
  | n + 1, d => if logs ≤ f d then d else byD f logs n (d + 1)
theorem byD_none {f : Nat → Int} {logs : Int} : ∀ (n d : Nat), (∀ j, j < n → f (d + j) < logs) → byD f logs n d = 0
  | 0, _, _ => rfl
  | n + 1, d, h => by
    have h0 := h 0 (by omega)
    rw [byD, if_neg (by simpa using h0)]
    exact byD_none n (d + 1) fun j hj => by have := h (j + 1) (by omega); rwa [show d + 1 + j = d + (j + 1) by omega]
theorem byD_at {f : Nat → Int} {logs : Int} : ∀ (n d k : Nat), k < n → (∀ j, j < k → f (d + j) < logs) → logs ≤ f (d + k) → byD f logs n d = d + k
  | 0, _, _, hk, _, _ => by omega
  | n + 1, d, 0, _, _, h => by rw [byD, if_pos (by simpa using h)]; rfl
  | n + 1, d, k + 1, hk, h, hx => by
    have h0 := h 0 (by omega)
    rw [byD, if_neg (by simpa using h0), byD_at n (d + 1) k (by omega) (fun j hj => by have := h (j + 1) (by omega); rwa [show d + 1 + j = d + (j + 1) by omega]) (by rwa [show d + 1 + k = d + (k + 1) by omega])]
    omega
def byN (days : Int) (l : List Rch) (logs : Int) : Nat := byD (fun d => mostE days l (d : Int)) logs days.toNat 1
def byErr (days : Int) (l : List Rch) (logs : Int) : Int := if riverE days l ≠ 0 then riverE days l else if logs < 0 then 3 else if byN days l logs = 0 then 20 else 0
def byE (days : Int) (l : List Rch) (logs : Int) : Int := if byErr days l logs = 0 then (byN days l logs : Int) else 0
theorem by_of_first {D : Nat} {l : List Rch} {logs r : Int} {L : List Int} (hL : ∀ (i : Nat), i < D → L[i]? = some (mostE D l ((i : Int) + 1))) (hl : L.length = D) (h : FirstIs logs L r) :
    (r = -1 ∧ byN D l logs = 0) ∨ (∃ k : Nat, r = k ∧ k < D ∧ byN D l logs = k + 1) := by
  rcases h with ⟨rfl, h⟩ | ⟨k, y, rfl, hy, hge, h⟩
  · refine .inl ⟨rfl, ?_⟩
    unfold byN
    rw [Int.toNat_natCast]
    refine byD_none D 1 fun j hj => ?_
    have := h j _ (hL j hj)
    show mostE D l ((1 + j : Nat) : Int) < logs
    rwa [show ((1 + j : Nat) : Int) = (j : Int) + 1 by omega]
  · have hk : k < D := by rw [← hl]; exact (List.getElem?_eq_some_iff.1 hy).1
    refine .inr ⟨k, rfl, hk, ?_⟩
    unfold byN
    rw [Int.toNat_natCast, byD_at D 1 k hk]
    · omega
    · intro j hj
      have := h j _ hj (hL j (by omega))
      show mostE D l ((1 + j : Nat) : Int) < logs
      rwa [show ((1 + j : Nat) : Int) = (j : Int) + 1 by omega]
    · have h1 := hL k hk
      rw [hy] at h1
      injection h1 with h1
      show logs ≤ mostE D l ((1 + k : Nat) : Int)
      rw [show ((1 + k : Nat) : Int) = (k : Int) + 1 by omega, ← h1]
      exact hge

set_option maxHeartbeats 8000000 in
theorem by_any (days : Int) (l : List Rch) (sr : Value) (logs : Int) (w : World) (hl : l.length ≤ 1000) (hs : Rchs w sr l) :
    Calls Try.prog 33 #[.agg #[.int .i64 days, sr], .int .i64 logs] w fun e w' => e = .returned (.tuple #[.int .i64 (byE days l logs), .int .i64 (byErr days l logs)]) ∧ Below w.heap.size w w' := by
  obtain ⟨A, c, rfl⟩ := hs.slice
  have b1 := bl_alloc (bl_refl w) (.cells #[.int .i64 days, .slice A l.length c] 24)
  have b2 := bl_alloc (bl_refl (w.alloc (.cells #[.int .i64 days, .slice A l.length c] 24))) (.cells #[.int .i64 logs] 2)
  have hX2 := World.alloc_heap_new (w.alloc (.cells #[.int .i64 days, .slice A l.length c] 24)) (.cells #[.int .i64 logs] 2)
  rw [World.size_alloc] at hX2
  have HX := hid (heap_mono (World.alloc_heap_new w (.cells #[.int .i64 days, .slice A l.length c] 24)) b2)
  have HL := hid hX2
  have HB := hid (bl_trans b1 b2)
  have HS := hid hs
  clear hs hX2 b1 b2
  go_enter Try.func33, Try.ntmps33
  go_upto_region 1 with (fail)
  obtain ⟨R, hR⟩ : ∃ R, w.heap.size = R := ⟨_, rfl⟩
  obtain ⟨w0, hw0⟩ : ∃ w0, (w.alloc (.cells #[.int .i64 days, .slice A l.length c] 24)).alloc (.cells #[.int .i64 logs] 2) = w0 := ⟨_, rfl⟩
  rw [hR] at HX HL ⊢
  rw [hw0] at HX HL HB ⊢
  clear hw0 hR
  have r0 : w0.cell? ⟨R, 0, none⟩ = some (.int .i64 days) := cell_of_heap HX.out
  have r1 : w0.cell? ⟨R, 1, none⟩ = some (.slice A l.length c) := cell_of_heap HX.out
  have l0 := (Array.getElem?_eq_some_iff.1 HX.out).1
  have hcall := check_any days l _ [] _ w0 hl (HS.out.mono HB.out) (by simp) (.inl ⟨rfl, rfl⟩)
  rw [check_none] at hcall
  go_wp2_with fail
  refine hcall.mono ?_
  rintro e w1 ⟨rfl, hb1⟩
  have HX1 := hid (heap_mono HX.out hb1)
  have HL1 := hid (heap_mono HL.out hb1)
  have HB1 := hid (bl_trans HB.out hb1)
  clear HX HL HB hb1 r0 r1 l0 hcall
  by_cases h0 : riverE days l = 0
  case neg =>
    have he : (riverE days l != 0) = true := by simp [h0]
    have e1 := hid (show byErr days l logs = riverE days l by rw [byErr, if_pos h0])
    have e2 := hid (show byE days l logs = 0 by rw [byE, e1.out, if_neg h0])
    clear h0
    go_wp2
    go_ret2
    exact ⟨by rw [e1.out, e2.out]; rfl, HB1.out⟩
  have he : (riverE days l != 0) = false := by simp [h0]
  have hn0 : ¬ (riverE days l ≠ 0) := by simpa using h0
  have q0 : w1.cell? ⟨R + 1, 0, none⟩ = some (.int .i64 logs) := cell_of_heap HL1.out
  have ql := (Array.getElem?_eq_some_iff.1 HL1.out).1
  by_cases hlg : logs < 0
  · have d1 : decide (logs < 0) = true := by simpa using hlg
    have e1 := hid (show byErr days l logs = 3 by rw [byErr, if_neg hn0, if_pos hlg])
    have e2 := hid (show byE days l logs = 0 by rw [byE, e1.out]; rfl)
    clear h0 hn0 hlg
    go_wp2
    go_ret2
    exact ⟨by rw [e1.out, e2.out]; rfl, HB1.out⟩
  have d1 : decide (logs < 0) = false := by simpa using hlg
  have e1 := hid (show byErr days l logs = if byN days l logs = 0 then 20 else 0 by rw [byErr, if_neg hn0, if_neg hlg])
  have F := fit_of h0
  have f1 := F.d1
  have f2 := F.d2
  obtain ⟨D, rfl⟩ : ∃ D : Nat, days = D := ⟨days.toNat, by omega⟩
  have hcall := early_any D l _ w1 (HS.out.mono HB1.out) F
  have s0 : w1.cell? ⟨R, 0, none⟩ = some (.int .i64 (D : Int)) := cell_of_heap HX1.out
  have s1 : w1.cell? ⟨R, 1, none⟩ = some (.slice A l.length c) := cell_of_heap HX1.out
  have sl0 := (Array.getElem?_eq_some_iff.1 HX1.out).1
  clear h0 hn0 hlg F
  go_wp2_with fail
  refine hcall.mono ?_
  rintro e w2 ⟨Y, rfl, hy, hb2⟩
  obtain ⟨gB, cap, y4, hcap, gl, yl, hbc⟩ := hy.boom
  have HB2 := hid (bl_trans HB1.out hb2)
  have HL2 := hid (heap_mono HL1.out hb2)
  have HBC := Lib.hid hbc
  clear HX1 HL1 HB1 hb2 s0 s1 sl0 hcall hy hbc q0 ql
  have hg1 : (1 : Int) ≤ ((D + 1 : Nat) : Int) := by omega
  have hg2 : ((D + 1 : Nat) : Int) ≤ (cap : Int) := by omega
  go_wp2_with fail
  have hll : ((List.range D).map fun i : Nat => mostE D l ((i : Int) + 1)).length = D := by simp
  have hLi : ∀ (i : Nat), i < D → ((List.range D).map fun i : Nat => mostE D l ((i : Int) + 1))[i]? = some (mostE D l ((i : Int) + 1)) := fun i hi => by simp [hi]
  have hI : Ints w2 (.slice (some ⟨gB, 1, none⟩) D (cap - 1)) ((List.range D).map fun i : Nat => mostE D l ((i : Int) + 1)) := by
    refine .inr ⟨gB, 1, cap - 1, by rw [hll], by rw [hll]; omega, gl, fun i x hx => ?_⟩
    have hi : i < D := by rw [← hll]; exact (List.getElem?_eq_some_iff.1 hx).1
    rw [hLi i hi] at hx
    injection hx with hx
    have h := HBC.out (1 + i) (by omega)
    rw [h, ← hx, show ((1 + i : Nat) : Int) = (i : Int) + 1 by omega]
  refine (first_any _ _ logs (R + 1) w2 (by rw [hll]; omega) hI (cell_of_heap HL2.out)).mono ?_
  rintro e w3 ⟨⟨r, rfl, hr⟩, rfl⟩
  have hby := by_of_first hLi hll hr
  clear hr hI hll hLi
  rcases hby with ⟨rfl, hz⟩ | ⟨k, rfl, hk, hz⟩
  · have e3 := hid (show byErr D l logs = 20 by rw [e1.out, if_pos hz])
    have e4 := hid (show byE D l logs = 0 by rw [byE, e3.out]; rfl)
    clear hz
    go_wp2
    go_ret2
    exact ⟨by rw [e3.out, e4.out]; rfl, HB2.out⟩
  · have e3 := hid (show byErr D l logs = 0 by rw [e1.out, if_neg (by omega)])
    have e4 := hid (show byE D l logs = (k : Int) + 1 by rw [byE, e3.out, if_pos rfl, hz]; omega)
    have hwk : IntKind.i64.wrap ((k : Int) + 1) = (k : Int) + 1 := IntWalk.i64_in _ (by omega)
    clear hz
    go_wp2
    go_ret2
    exact ⟨by rw [e3.out, e4.out]; rfl, HB2.out⟩

end Go.Proofs.Ytbnmjbmlejifcaa
