/- DriveBy: what By answers (plain), and the walk. -/
import Derived.Test.YtbnmjbmlejifcaaLawd
set_option linter.all false
namespace Go.Proofs.Ytbnmjbmlejifcaa
open Go Go.RowKit Go.Proofs
attribute [local go_sem] cell_grow frozen_grow

/-- Most doesn't fall from a day to a later one. -/
theorem most_days {D : Nat} {l : List Rch} (F : Fit (D : Int) l) {s t : Int} (hst : s ≤ t) (ht : t ≤ (D : Int)) : mostE D l s ≤ mostE D l t := by
  unfold mostE brought
  refine sumN_le fun u hu => ?_
  obtain ⟨x, hx⟩ := get_at hu
  have ht' := F.takes u x hx
  rw [riv_at hx]
  split
  · exact gone_mono (D := D) (fun d hd => (planE_range F u d hu (by omega)).1) (by omega) (by omega)
  · exact Int.le_refl _
theorem byD_tot {f : Nat → Int} {logs : Int} : ∀ (n d : Nat), (byD f logs n d = 0 ∧ ∀ j, j < n → f (d + j) < logs) ∨ ∃ k, k < n ∧ byD f logs n d = d + k ∧ logs ≤ f (d + k) ∧ ∀ j, j < k → f (d + j) < logs
  | 0, _ => .inl ⟨rfl, fun j hj => absurd hj (Nat.not_lt_zero j)⟩
  | n + 1, d => by
    by_cases h : logs ≤ f d
    · exact .inr ⟨0, Nat.succ_pos n, byD_here h, h, fun j hj => absurd hj (Nat.not_lt_zero j)⟩
    · rw [byD_step h]
      rcases byD_tot n (d + 1) with ⟨h1, h2⟩ | ⟨k, h1, h2, h3, h4⟩
      · refine .inl ⟨h1, fun j hj => ?_⟩
        cases j with
        | zero => simpa using (Int.not_le.1 h)
        | succ j => have := h2 j (by omega); rwa [show d + 1 + j = d + (j + 1) by omega] at this
      · refine .inr ⟨k + 1, by omega, by omega, by rwa [show d + 1 + k = d + (k + 1) by omega] at h3, fun j hj => ?_⟩
        cases j with
        | zero => simpa using (Int.not_le.1 h)
        | succ j => have := h4 j (by omega); rwa [show d + 1 + j = d + (j + 1) by omega] at this
theorem by_not {D : Nat} {l : List Rch} (h0 : riverE (D : Int) l = 0) {n : Int} (hn : 0 ≤ n) (h : mostE D l (D : Int) < n) : byErr D l n = 20 ∧ byE D l n = 0 := by
  have F := fit_of h0
  have hb : byN D l n = 0 := by
    unfold byN
    refine byD_none _ _ fun j hj => ?_
    have := most_days F (s := ((1 + j : Nat) : Int)) (t := (D : Int)) (by omega) (by omega)
    omega
  have he : byErr D l n = 20 := by
    unfold byErr
    rw [hb, if_neg (by simpa using h0), if_neg (by omega), if_pos rfl]
  exact ⟨he, by unfold byE; rw [he]; rfl⟩
theorem by_is {D : Nat} {l : List Rch} (h0 : riverE (D : Int) l = 0) {n : Int} (hn : 0 ≤ n) (h : n ≤ mostE D l (D : Int)) : ∃ d : Int, 1 ≤ d ∧ d ≤ (D : Int) ∧ byErr D l n = 0 ∧ byE D l n = d ∧ n ≤ mostE D l d ∧ (2 ≤ d → mostE D l (d - 1) < n) := by
  have F := fit_of h0
  have hd := F.d1
  rcases byD_tot (f := fun d : Nat => mostE D l (d : Int)) (logs := n) D 1 with ⟨h1, h2⟩ | ⟨k, h1, h2, h3, h4⟩
  · have := h2 (D - 1) (by omega)
    replace this : mostE D l _ < n := this
    rw [show ((1 + (D - 1) : Nat) : Int) = D by omega] at this
    omega
  · have hb : byN D l n = 1 + k := by unfold byN; rw [Int.toNat_natCast]; exact h2
    have he : byErr D l n = 0 := by
      unfold byErr
      rw [hb, if_neg (by simpa using h0), if_neg (by omega), if_neg (by omega)]
    refine ⟨((1 + k : Nat) : Int), by omega, by omega, he, by unfold byE; rw [he, if_pos rfl, hb], h3, fun hk => ?_⟩
    have := h4 (k - 1) (by omega)
    replace this : mostE D l _ < n := this
    rwa [show ((1 + (k - 1) : Nat) : Int) = ((1 + k : Nat) : Int) - 1 by omega] at this
theorem asked_day {D : Nat} {l : List Rch} (h0 : riverE (D : Int) l = 0) {t : Int} (h1 : 1 ≤ t) (h2 : t ≤ (D : Int)) : askedE (D : Int) l t = 0 := by
  unfold askedE
  rw [if_neg (by simpa using h0), if_neg (by omega)]
theorem most_range {D : Nat} {l : List Rch} (F : Fit (D : Int) l) {t : Int} (h0 : 0 ≤ t) (h1 : t ≤ (D : Int)) : 0 ≤ mostE D l t ∧ mostE D l t ≤ 800000000 := by
  obtain ⟨t, rfl⟩ : ∃ s : Nat, t = s := ⟨t.toNat, by omega⟩
  exact most_nonneg F (by omega)

set_option maxRecDepth 100000 in
set_option maxHeartbeats 8000000 in
theorem driveBy_any (days : Int) (l : List Rch) (sr : Value) (one two logs : Int) (w : World) (hs : Rchs w sr l) (b1 : 0 ≤ one ∧ one < 256) (b2 : 0 ≤ two ∧ two < 256) (b3 : 0 ≤ logs ∧ logs < 4294967296) :
    Calls Try.prog 10 #[.agg #[.int .i64 days, sr], .int .u8 one, .int .u8 two, .int .u32 logs] w fun e w' => e = .returned (.bool true) ∧ Below w.heap.size w w' := by
  obtain ⟨A, c, rfl⟩ := hs.slice
  have HX0 := hid (World.alloc_heap_new w (.cells #[.int .i64 days, .slice A l.length c] 24))
  have HB0 := hid (bl_alloc (bl_refl w) (.cells #[.int .i64 days, .slice A l.length c] 24))
  have HS := hid hs
  clear hs
  go_enter Try.func10, Try.ntmps10
  go_upto_region 1 with (fail)
  obtain ⟨R, hR⟩ : ∃ R, w.heap.size = R := ⟨_, rfl⟩
  obtain ⟨w0, hw0⟩ : ∃ w0, w.alloc (.cells #[.int .i64 days, .slice A l.length c] 24) = w0 := ⟨_, rfl⟩
  rw [hR] at HX0 ⊢
  rw [hw0] at HX0 HB0 ⊢
  clear hw0 hR
  by_cases h0 : ¬ riverE days l = 0
  · have hd0 : decide (riverE days l = 0) = false := by simpa using h0
    have sX0 : w0.cell? ⟨R, 0, none⟩ = some (.int .i64 days) := cell_of_heap HX0.out
    have sX1 : w0.cell? ⟨R, 1, none⟩ = some (.slice A l.length c) := cell_of_heap HX0.out
    have slX := (Array.getElem?_eq_some_iff.1 HX0.out).1
    have hcall := fine_any days l _ w0 (HS.out.mono HB0.out)
    rw [hd0] at hcall
    clear hd0 h0
    go_wp2_with fail
    refine hcall.mono ?_
    rintro e w1 ⟨rfl, hb1⟩
    clear hcall sX0 sX1 slX
    have HX1 := hid (heap_mono HX0.out hb1)
    have HB1 := hid (bl_trans HB0.out hb1)
    clear HX0  hb1
    have hworks := works_any w1
    go_wp2_with fail
    refine hworks.mono ?_
    rintro e w2 ⟨rfl, hb2⟩
    clear hworks
    go_wp2
    go_ret
    exact ⟨rfl, bl_trans HB1.out hb2⟩
  replace h0 := Decidable.not_not.1 h0
  have hd0 : decide (riverE days l = 0) = true := by simpa using h0
  have F0 := fit_of h0
  obtain ⟨D, rfl⟩ : ∃ D : Nat, days = D := ⟨days.toNat, by have := F0.d1; omega⟩
  have hD1 := F0.d1
  have hD2 := F0.d2
  have hl1 := F0.n1
  have hl8 := F0.n2
  have HR0 := hid h0
  have HF := hid F0
  clear F0
  have sX0 : w0.cell? ⟨R, 0, none⟩ = some (.int .i64 (D : Int)) := cell_of_heap HX0.out
  have sX1 : w0.cell? ⟨R, 1, none⟩ = some (.slice A l.length c) := cell_of_heap HX0.out
  have slX := (Array.getElem?_eq_some_iff.1 HX0.out).1
  have hcall := fine_any (D : Int) l _ w0 (HS.out.mono HB0.out)
  rw [hd0] at hcall
  clear hd0 h0
  go_wp2_with fail
  refine hcall.mono ?_
  rintro e w1 ⟨rfl, hb1⟩
  clear hcall sX0 sX1 slX
  have HX1 := hid (heap_mono HX0.out hb1)
  have HB1 := hid (bl_trans HB0.out hb1)
  clear HX0  hb1
  go_upto_region 3 with (fail)
  have sX0 : w1.cell? ⟨R, 0, none⟩ = some (.int .i64 (D : Int)) := cell_of_heap HX1.out
  have sX1 : w1.cell? ⟨R, 1, none⟩ = some (.slice A l.length c) := cell_of_heap HX1.out
  have slX := (Array.getElem?_eq_some_iff.1 HX1.out).1
  have G45 : Hid (∀ (x : Int) (_ : 0 ≤ x ∧ x < 256) W, Below w1.heap.size w1 W → Calls Try.prog 45 #[.agg #[.int .i64 (D : Int), .slice A l.length c], .int .u8 x] W fun e w' => e = .returned (.int .i64 (dayE D x)) ∧ Below W.heap.size W w') := fun x hx W hW => day_any (D : Int) l _ x W (HS.out.mono (bl_trans HB1.out hW)) (by omega) hx
  refine wp_region_below (by kernel_rfl) (by kernel_rfl) ?_
  repeat (first | go_big_quiet_step (first | (go_at_call 45; exact Calls.regrown_of (G45.out _ (by assumption) _ (below_regrown _ _ _)))) | quiet_step (first | (go_at_call 45; exact Calls.regrown_of (G45.out _ (by assumption) _ (below_regrown _ _ _)))))
  refine wpQuiet_nil ?_
  intro w2 hb2
  clear G45 sX0 sX1 slX
  have HX2 := hid (heap_mono HX1.out hb2)
  have HB2 := hid (bl_trans HB1.out hb2)
  clear HX1  hb2
  have p1 := dayE_bd (by_ := one) hD1
  have q1 := dayE_bd (by_ := two) hD1
  generalize dayE (D : Int) one = p at *
  generalize dayE (D : Int) two = q at *
  obtain ⟨lo, hlo⟩ : ∃ lo, (if q < p then q else p) = lo := ⟨_, rfl⟩
  obtain ⟨hi, hhi⟩ : ∃ hi, (if p < q then q else p) = hi := ⟨_, rfl⟩
  have hb : 1 ≤ lo ∧ lo ≤ hi ∧ hi ≤ (D : Int) := by rw [← hlo, ← hhi]; constructor <;> (repeat split) <;> omega
  have ha1 := asked_day HR0.out (t := lo) (by omega) (by omega)
  have ha2 := asked_day HR0.out (t := hi) (by omega) (by omega)
  have ha3 := asked_day HR0.out (t := (D : Int)) (by omega) (by omega)
  have m1 := most_days HF.out (s := lo) (t := hi) (by omega) (by omega)
  have m2 := most_days HF.out (s := hi) (t := (D : Int)) (by omega) (by omega)
  have m3 := most_range HF.out (t := lo) (by omega) (by omega)
  have m4 := most_range HF.out (t := (D : Int)) (by omega) (by omega)
  have HA := hid (show (askedE (D : Int) l lo = 0 ∧ askedE (D : Int) l hi = 0) ∧ askedE (D : Int) l (D : Int) = 0 from ⟨⟨ha1, ha2⟩, ha3⟩)
  have HM := hid (show 0 ≤ mostE (D : Int) l lo ∧ mostE (D : Int) l lo ≤ mostE (D : Int) l hi ∧ mostE (D : Int) l hi ≤ mostE (D : Int) l (D : Int) ∧ mostE (D : Int) l (D : Int) ≤ 800000000 from ⟨m3.1, m1, m2, m4.2⟩)
  have HBD := hid hb
  clear ha1 ha2 ha3 m1 m2 m3 m4 p1 q1 hb
  have sX0 : w2.cell? ⟨R, 0, none⟩ = some (.int .i64 (D : Int)) := cell_of_heap HX2.out
  have sX1 : w2.cell? ⟨R, 1, none⟩ = some (.slice A l.length c) := cell_of_heap HX2.out
  have slX := (Array.getElem?_eq_some_iff.1 HX2.out).1
  have hcall := most_any (D : Int) l _ lo w2 (by omega) (HS.out.mono HB2.out)
  rw [HA.out.1.1, if_pos rfl] at hcall
  go_wp2_with fail
  refine hcall.mono ?_
  rintro e w3 ⟨rfl, hb3⟩
  clear hcall sX0 sX1 slX
  have HX3 := hid (heap_mono HX2.out hb3)
  have HB3 := hid (bl_trans HB2.out hb3)
  clear HX2  hb3
  have sX0 : w3.cell? ⟨R, 0, none⟩ = some (.int .i64 (D : Int)) := cell_of_heap HX3.out
  have sX1 : w3.cell? ⟨R, 1, none⟩ = some (.slice A l.length c) := cell_of_heap HX3.out
  have slX := (Array.getElem?_eq_some_iff.1 HX3.out).1
  have hcall := most_any (D : Int) l _ hi w3 (by omega) (HS.out.mono HB3.out)
  rw [HA.out.1.2, if_pos rfl] at hcall
  go_wp2_with fail
  refine hcall.mono ?_
  rintro e w4 ⟨rfl, hb4⟩
  clear hcall sX0 sX1 slX
  have HX4 := hid (heap_mono HX3.out hb4)
  have HB4 := hid (bl_trans HB3.out hb4)
  clear HX3  hb4
  have sX0 : w4.cell? ⟨R, 0, none⟩ = some (.int .i64 (D : Int)) := cell_of_heap HX4.out
  have sX1 : w4.cell? ⟨R, 1, none⟩ = some (.slice A l.length c) := cell_of_heap HX4.out
  have slX := (Array.getElem?_eq_some_iff.1 HX4.out).1
  have hcall := most_any (D : Int) l _ (D : Int) w4 (by omega) (HS.out.mono HB4.out)
  rw [HA.out.2, if_pos rfl] at hcall
  go_wp2_with fail
  refine hcall.mono ?_
  rintro e w5 ⟨rfl, hb5⟩
  clear hcall sX0 sX1 slX
  have HX5 := hid (heap_mono HX4.out hb5)
  have HB5 := hid (bl_trans HB4.out hb5)
  clear HX4  hb5
  clear hlo hhi
  obtain ⟨m1, m2, m3, m4⟩ := HM.out
  obtain ⟨hb1, hb2, hb3⟩ := HBD.out
  have HBI := hid (fun n hn h => by_not (n := n) HR0.out hn h)
  have HBJ := hid (fun n hn h => by_is (n := n) HR0.out hn h)
  obtain ⟨e8, he8, hb8⟩ : ∃ e8, (mostE (D : Int) l (D : Int)).tdiv 8 = e8 ∧ 0 ≤ e8 ∧ e8 ≤ 100000000 := ⟨_, rfl, by rw [Int.tdiv_eq_ediv_of_nonneg (by omega)]; omega⟩
  obtain ⟨n, hn, hn0⟩ : ∃ n, logs.tmod (mostE (D : Int) l (D : Int) + e8 + 2) = n ∧ 0 ≤ n := ⟨_, rfl, by rw [Int.tmod_eq_emod_of_nonneg b3.1]; exact Int.emod_nonneg _ (by omega)⟩
  have hnl : n ≤ 900000001 := by
    have := Int.emod_lt_of_pos logs (b := mostE (D : Int) l (D : Int) + e8 + 2) (by omega)
    rw [← hn, Int.tmod_eq_emod_of_nonneg b3.1]
    omega
  generalize mostE (D : Int) l lo = a at *
  generalize mostE (D : Int) l hi = b at *
  obtain ⟨all, hall⟩ : ∃ all, mostE (D : Int) l (D : Int) = all := ⟨_, rfl⟩
  have HAL := hid hall
  rw [hall] at m3 m4 he8 hn ⊢
  clear hall
  have t1 : decide (a < 0) = false := by rw [decide_eq_false_iff_not]; omega
  have t2 : decide (b < a) = false := by rw [decide_eq_false_iff_not]; omega
  have t3 : decide (all < b) = false := by rw [decide_eq_false_iff_not]; omega
  have v1 : IntKind.i64.wrap logs = logs := IntWalk.i64_in _ (by omega)
  have v2 : IntKind.i64.wrap e8 = e8 := IntWalk.i64_in _ (by omega)
  have v3 : IntKind.i64.wrap (all + e8) = all + e8 := IntWalk.i64_in _ (by omega)
  obtain ⟨dv, hdv⟩ : ∃ dv, all + e8 + 2 = dv := ⟨_, rfl⟩
  have v4 : IntKind.i64.wrap (all + e8 + 2) = dv := by rw [← hdv]; exact IntWalk.i64_in _ (by omega)
  rw [hdv] at hn
  have v5 : IntKind.i64.wrap n = n := IntWalk.i64_in _ (by omega)
  have v6 : (dv == 0) = false := beq_eq_false_iff_ne.2 (by omega)
  have v7 : ¬ dv = 0 := by omega
  have HN := hid hn0
  clear hdv m1 m2 m3 m4 hb1 hb2 hb3 hb8 hn0 hnl
  go_upto_region 10 with (fail)
  clear t1 t2 t3 v1 v2 v3 v4 v5 v6 v7 he8 hn
  by_cases hna : all < n
  · have hba := HBI.out n HN.out (by rw [HAL.out]; exact hna)
    have tn : decide (all < n) = true := decide_eq_true hna
    clear hna
    have sX0 : w5.cell? ⟨R, 0, none⟩ = some (.int .i64 (D : Int)) := cell_of_heap HX5.out
    have sX1 : w5.cell? ⟨R, 1, none⟩ = some (.slice A l.length c) := cell_of_heap HX5.out
    have slX := (Array.getElem?_eq_some_iff.1 HX5.out).1
    have hcall := by_any (D : Int) l _ n w5 (by omega) (HS.out.mono HB5.out)
    rw [hba.1, hba.2] at hcall
    clear hba
    go_wp2_with fail
    refine hcall.mono ?_
    rintro e w6 ⟨rfl, hb6⟩
    clear hcall sX0 sX1 slX
    have HX6 := hid (heap_mono HX5.out hb6)
    have HB6 := hid (bl_trans HB5.out hb6)
    clear HX5  hb6
    have hworks := works_any w6
    go_wp2_with fail
    refine hworks.mono ?_
    rintro e w7 ⟨rfl, hb7⟩
    clear hworks
    go_wp2
    go_ret
    exact ⟨rfl, bl_trans HB6.out hb7⟩
  have tn : decide (all < n) = false := decide_eq_false hna
  obtain ⟨d, hd1, hd2, he, hv, hm, hm2⟩ := HBJ.out n HN.out (by rw [HAL.out]; omega)
  clear hna
  have HX9 := hid (show (1 ≤ d ∧ d ≤ (D : Int)) ∧ n ≤ mostE (D : Int) l d ∧ (2 ≤ d → mostE (D : Int) l (d - 1) < n) from ⟨⟨hd1, hd2⟩, hm, hm2⟩)
  have HA1 := hid (asked_day HR0.out (t := d) (by omega) (by omega))
  clear hd1 hd2 hm hm2
  have sX0 : w5.cell? ⟨R, 0, none⟩ = some (.int .i64 (D : Int)) := cell_of_heap HX5.out
  have sX1 : w5.cell? ⟨R, 1, none⟩ = some (.slice A l.length c) := cell_of_heap HX5.out
  have slX := (Array.getElem?_eq_some_iff.1 HX5.out).1
  have hcall := by_any (D : Int) l _ n w5 (by omega) (HS.out.mono HB5.out)
  rw [he, hv] at hcall
  clear he hv
  go_wp2_with fail
  refine hcall.mono ?_
  rintro e w6 ⟨rfl, hb6⟩
  clear hcall sX0 sX1 slX
  have HX6 := hid (heap_mono HX5.out hb6)
  have HB6 := hid (bl_trans HB5.out hb6)
  clear HX5  hb6
  have sX0 : w6.cell? ⟨R, 0, none⟩ = some (.int .i64 (D : Int)) := cell_of_heap HX6.out
  have sX1 : w6.cell? ⟨R, 1, none⟩ = some (.slice A l.length c) := cell_of_heap HX6.out
  have slX := (Array.getElem?_eq_some_iff.1 HX6.out).1
  have u1 : decide (d < 1) = false := by have := HX9.out.1; rw [decide_eq_false_iff_not]; omega
  have u2 : decide ((D : Int) < d) = false := by have := HX9.out.1; rw [decide_eq_false_iff_not]; omega
  go_upto_region 15 with (fail)
  clear u1 u2 tn sX0 sX1 slX
  have sX0 : w6.cell? ⟨R, 0, none⟩ = some (.int .i64 (D : Int)) := cell_of_heap HX6.out
  have sX1 : w6.cell? ⟨R, 1, none⟩ = some (.slice A l.length c) := cell_of_heap HX6.out
  have slX := (Array.getElem?_eq_some_iff.1 HX6.out).1
  have hcall := most_any (D : Int) l _ d w6 (by omega) (HS.out.mono HB6.out)
  rw [HA1.out, if_pos rfl] at hcall
  go_wp2_with fail
  refine hcall.mono ?_
  rintro e w7 ⟨rfl, hb7⟩
  clear hcall sX0 sX1 slX
  have HX7 := hid (heap_mono HX6.out hb7)
  have HB7 := hid (bl_trans HB6.out hb7)
  clear HX6  hb7
  have u1 : decide (mostE (D : Int) l d < n) = false := by have := HX9.out.2.1; rw [decide_eq_false_iff_not]; omega
  by_cases hd : d = 1
  · have u2 : (d == 1) = true := by simp [hd]
    clear hd
    have hworks := works_any w7
    go_wp2_with fail
    refine hworks.mono ?_
    rintro e w8 ⟨rfl, hb8⟩
    clear hworks
    go_wp2
    go_ret
    exact ⟨rfl, bl_trans HB7.out hb8⟩
  have u2 : (d == 1) = false := by rw [beq_eq_false_iff_ne]; omega
  have hd2 : 2 ≤ d := by have := HX9.out.1; omega
  have hd3 := HX9.out.1.2
  clear hd
  have HA2 := hid (asked_day HR0.out (t := d - 1) (by omega) (by omega))
  have hw : IntKind.i64.wrap (d - 1) = d - 1 := IntWalk.i64_in _ (by omega)
  have sX0 : w7.cell? ⟨R, 0, none⟩ = some (.int .i64 (D : Int)) := cell_of_heap HX7.out
  have sX1 : w7.cell? ⟨R, 1, none⟩ = some (.slice A l.length c) := cell_of_heap HX7.out
  have slX := (Array.getElem?_eq_some_iff.1 HX7.out).1
  have hcall := most_any (D : Int) l _ (d - 1) w7 (by omega) (HS.out.mono HB7.out)
  rw [HA2.out, if_pos rfl] at hcall
  go_wp2_with fail
  refine hcall.mono ?_
  rintro e w8 ⟨rfl, hb8⟩
  clear hcall sX0 sX1 slX
  have HX8 := hid (heap_mono HX7.out hb8)
  have HB8 := hid (bl_trans HB7.out hb8)
  clear HX7  hb8
  have u3 : decide (mostE (D : Int) l (d - 1) < n) = true := decide_eq_true (HX9.out.2.2 hd2)
  have hworks := works_any w8
  go_wp2_with fail
  refine hworks.mono ?_
  rintro e w9 ⟨rfl, hb9⟩
  clear hworks
  go_wp2
  go_ret
  exact ⟨rfl, bl_trans HB8.out hb9⟩

end Go.Proofs.Ytbnmjbmlejifcaa
