/- The reference's Sticks; BoomPonds: the walks. -/
import Derived.Test.YtlkoadcbolkhoaaRstick
import Derived.Test.YtlkoadcbolkhoaaFacts
set_option linter.all false
namespace Go.Proofs.Ytlkoadcbolkhoaa
open Go Go.RowKit Go.Proofs
attribute [local go_sem] cell_grow frozen_grow

set_option maxRecDepth 100000 in
set_option maxHeartbeats 8000000 in
theorem rsticks_any {wd hg : Int} {sw sk sv : Value} {want keep water : List Int} (w : World) (hlw : want.length ≤ 1000000) (hlk : keep.length ≤ 1000000) (hlv : water.length ≤ 1000000) (hw : Ints w sw want) (hk : Ints w sk keep) (hv : Ints w sv water) :
    Calls Try.prog 20 #[.agg #[.int .i64 wd, .int .i64 hg, sw, sk], sv] w fun e w' => e = .returned (.tuple #[.int .i64 (sticksV wd hg want keep water), .int .i64 (sticksE wd hg want keep water)]) ∧ Below w.heap.size w w' := by
  have hb0 := bl_alloc (bl_refl w) (.cells #[.int .i64 wd, .int .i64 hg, sw, sk] 24)
  have HK := hid (World.alloc_heap_new w (.cells #[.int .i64 wd, .int .i64 hg, sw, sk] 24))
  have HB := hid hb0
  have HW := hid (hw.mono hb0)
  have HKE := hid (hk.mono hb0)
  have HV := hid (hv.mono hb0)
  obtain ⟨P, hP⟩ : ∃ P, pondE wd hg want keep = P := ⟨_, rfl⟩
  have HP := hid hP
  obtain ⟨V, hVV⟩ : ∃ P, sticksV wd hg want keep water = P := ⟨_, rfl⟩
  obtain ⟨E, hE⟩ : ∃ P, sticksE wd hg want keep water = P := ⟨_, rfl⟩
  have HVV := hid hVV
  have HE := hid hE
  rw [hVV, hE]
  clear hP hVV hE hw hk hv hb0
  go_enter Try.func20, Try.ntmps20
  go_upto_region 1 with (fail)
  obtain ⟨w0, hw0⟩ : ∃ w0, w.alloc (.cells #[.int .i64 wd, .int .i64 hg, sw, sk] 24) = w0 := ⟨_, rfl⟩
  obtain ⟨X, hX⟩ : ∃ X, w.heap.size = X := ⟨_, rfl⟩
  rw [hX] at HK ⊢
  rw [hw0] at HB HK HW HKE HV ⊢
  clear hw0 hX
  have q0 : w0.cell? ⟨X, 0, none⟩ = some (.int .i64 wd) := cell_of_heap HK.out
  have q1 : w0.cell? ⟨X, 1, none⟩ = some (.int .i64 hg) := cell_of_heap HK.out
  have q2 : w0.cell? ⟨X, 2, none⟩ = some sw := cell_of_heap HK.out
  have q3 : w0.cell? ⟨X, 3, none⟩ = some sk := cell_of_heap HK.out
  have ql := (Array.getElem?_eq_some_iff.1 HK.out).1
  have hcall := rpond_any (wd := wd) (hg := hg) w0 hlw hlk HW.out HKE.out
  rw [HP.out] at hcall
  go_wp2_with fail
  refine hcall.mono ?_
  rintro e w1 ⟨rfl, hb1⟩
  have HK1 := hid (heap_mono HK.out hb1)
  have HB1 := hid (bl_trans HB.out hb1)
  have HW1 := hid (HW.out.mono hb1)
  have HKE1 := hid (HKE.out.mono hb1)
  have HV1 := hid (HV.out.mono hb1)
  clear hcall hb1 HK HB HW HKE HV q0 q1 q2 q3 ql
  by_cases hp : P = 0
  case neg =>
    have t0 : (P == 0) = false := beq_eq_false_iff_ne.2 hp
    have he : E = P := by rw [← HE.out]; unfold sticksE; rw [HP.out, if_pos hp]
    have hvv : V = 0 := by rw [← HVV.out]; unfold sticksV; rw [HE.out, he, if_neg hp]
    subst he hvv
    clear hp
    have q0 : w1.cell? ⟨X, 0, none⟩ = some (.int .i64 wd) := cell_of_heap HK1.out
    have q1 : w1.cell? ⟨X, 1, none⟩ = some (.int .i64 hg) := cell_of_heap HK1.out
    have q2 : w1.cell? ⟨X, 2, none⟩ = some sw := cell_of_heap HK1.out
    have q3 : w1.cell? ⟨X, 3, none⟩ = some sk := cell_of_heap HK1.out
    have ql := (Array.getElem?_eq_some_iff.1 HK1.out).1
    have hcall := rpond_any (wd := wd) (hg := hg) w1 hlw hlk HW1.out HKE1.out
    rw [HP.out] at hcall
    go_wp2_with fail
    refine hcall.mono ?_
    rintro e w2 ⟨rfl, hb2⟩
    have HB2 := hid (bl_trans HB1.out hb2)
    clear hcall hb2 q0 q1 q2 q3 ql
    go_wp2
    go_ret2
    exact ⟨rfl, HB2.out⟩
  subst hp
  have HVa := hid (pond_valid HP.out)
  have t0 : ((0 : Int) == 0) = true := rfl
  have hE1 : E = if listB (wd * hg) 0 water = false then 2 else if enclB want keep water = false then 19 else 0 := by rw [← HE.out]; unfold sticksE; rw [HP.out, if_neg (by simp)]
  have HE1 := hid hE1
  clear hE1
  have q0 : w1.cell? ⟨X, 0, none⟩ = some (.int .i64 wd) := cell_of_heap HK1.out
  have q1 : w1.cell? ⟨X, 1, none⟩ = some (.int .i64 hg) := cell_of_heap HK1.out
  have q2 : w1.cell? ⟨X, 2, none⟩ = some sw := cell_of_heap HK1.out
  have q3 : w1.cell? ⟨X, 3, none⟩ = some sk := cell_of_heap HK1.out
  have ql := (Array.getElem?_eq_some_iff.1 HK1.out).1
  have hcall := cells_any wd hg sw sk w1 HVa.out.B.w HVa.out.B.h
  obtain ⟨N, hN⟩ : ∃ N, wd * hg = N := ⟨_, rfl⟩
  have HN := hid hN
  rw [hN] at hcall HE1
  clear hN
  go_wp2_with fail
  refine hcall.mono ?_
  rintro e w2 ⟨rfl, hb2⟩
  have HK2 := hid (heap_mono HK1.out hb2)
  have HB2 := hid (bl_trans HB1.out hb2)
  have HW2 := hid (HW1.out.mono hb2)
  have HKE2 := hid (HKE1.out.mono hb2)
  have HV2 := hid (HV1.out.mono hb2)
  clear hcall hb2 HK1 HB1 HW1 HKE1 HV1 q0 q1 q2 q3 ql
  have hcall := rlist_any N water sv w2 hlv HV2.out
  obtain ⟨b1, hb1⟩ : ∃ b, listB N 0 water = b := ⟨_, rfl⟩
  have Hb1 := hid hb1
  rw [hb1] at hcall HE1
  clear hb1
  go_wp2_with fail
  refine hcall.mono ?_
  rintro e w3 ⟨rfl, hb3⟩
  have HK3 := hid (heap_mono HK2.out hb3)
  have HB3 := hid (bl_trans HB2.out hb3)
  have HW3 := hid (HW2.out.mono hb3)
  have HKE3 := hid (HKE2.out.mono hb3)
  have HV3 := hid (HV2.out.mono hb3)
  clear hcall hb3 HK2 HB2 HW2 HKE2 HV2
  cases b1 with
  | false =>
    have he : E = 2 := by rw [HE1.out]; rfl
    have hvv : V = 0 := by rw [← HVV.out]; unfold sticksV; rw [HE.out, he, if_neg (by decide)]
    subst he hvv
    go_wp2
    go_ret2
    exact ⟨rfl, HB3.out⟩
  | true =>
    rw [if_neg (by simp)] at HE1
    have q0 : w3.cell? ⟨X, 0, none⟩ = some (.int .i64 wd) := cell_of_heap HK3.out
    have q1 : w3.cell? ⟨X, 1, none⟩ = some (.int .i64 hg) := cell_of_heap HK3.out
    have q2 : w3.cell? ⟨X, 2, none⟩ = some sw := cell_of_heap HK3.out
    have q3 : w3.cell? ⟨X, 3, none⟩ = some sk := cell_of_heap HK3.out
    have ql := (Array.getElem?_eq_some_iff.1 HK3.out).1
    have hcall := rencl_any (wd := wd) (hg := hg) w3 hlw hlk hlv HW3.out HKE3.out HV3.out
    obtain ⟨b2, hb2⟩ : ∃ b, enclB want keep water = b := ⟨_, rfl⟩
    rw [hb2] at hcall HE1
    clear hb2
    go_wp2_with fail
    refine hcall.mono ?_
    rintro e w4 ⟨rfl, hb4⟩
    have HK4 := hid (heap_mono HK3.out hb4)
    have HB4 := hid (bl_trans HB3.out hb4)
    have HV4 := hid (HV3.out.mono hb4)
    clear hcall hb4 HK3 HB3 HW3 HKE3 HV3 q0 q1 q2 q3 ql
    cases b2 with
    | false =>
      have he : E = 19 := by rw [HE1.out]; rfl
      have hvv : V = 0 := by rw [← HVV.out]; unfold sticksV; rw [HE.out, he, if_neg (by decide)]
      subst he hvv
      go_wp2
      go_ret2
      exact ⟨rfl, HB4.out⟩
    | true =>
      have he : E = 0 := by rw [HE1.out]; rfl
      have hvv : stickN wd hg water water = V := by rw [← HVV.out]; unfold sticksV; rw [HE.out, he, if_pos rfl]
      subst he
      have hin : ∀ x ∈ water, inP wd hg x := fun x hx => by
        have := listB_in Hb1.out x hx
        unfold inP
        rw [HN.out]
        exact ⟨this.1, this.2⟩
      have q0 : w4.cell? ⟨X, 0, none⟩ = some (.int .i64 wd) := cell_of_heap HK4.out
      have q1 : w4.cell? ⟨X, 1, none⟩ = some (.int .i64 hg) := cell_of_heap HK4.out
      have q2 : w4.cell? ⟨X, 2, none⟩ = some sw := cell_of_heap HK4.out
      have q3 : w4.cell? ⟨X, 3, none⟩ = some sk := cell_of_heap HK4.out
      have ql := (Array.getElem?_eq_some_iff.1 HK4.out).1
      have hcall := rsticksOf_any (wd := wd) (hg := hg) (sw := sw) (sk := sk) w4 HVa.out.B hlv hin HV4.out
      rw [hvv] at hcall
      clear hvv hin
      go_wp2_with fail
      refine hcall.mono ?_
      rintro e w5 ⟨rfl, hb5⟩
      have HB5 := hid (bl_trans HB4.out hb5)
      clear hcall hb5 q0 q1 q2 q3 ql
      go_wp2
      go_ret2
      exact ⟨rfl, HB5.out⟩

set_option maxRecDepth 100000 in
set_option maxHeartbeats 8000000 in
theorem boomPonds_any (wd hg : Int) (sw sk : Value) (want keep water : List Int) (sv : Value) (w : World) (hw : Ints w sw want) (hk : Ints w sk keep) (hv : Ints w sv water) :
    Calls Try.prog 3 #[.agg #[.int .i64 wd, .int .i64 hg, sw, sk], sv] w fun e w' => e = .returned (.bool true) ∧ Below w.heap.size w w' := by
  have hb0 := bl_alloc (bl_refl w) (.cells #[.int .i64 wd, .int .i64 hg, sw, sk] 24)
  have HK := hid (World.alloc_heap_new w (.cells #[.int .i64 wd, .int .i64 hg, sw, sk] 24))
  have HB := hid hb0
  have HW := hid (hw.mono hb0)
  have HKE := hid (hk.mono hb0)
  have HV := hid (hv.mono hb0)
  obtain ⟨A, ca, hsv⟩ := hv.slice
  subst hsv
  clear hw hk hv hb0
  go_enter Try.func3, Try.ntmps3
  go_upto_region 1 with (fail)
  obtain ⟨w0, hw0⟩ : ∃ w0, w.alloc (.cells #[.int .i64 wd, .int .i64 hg, sw, sk] 24) = w0 := ⟨_, rfl⟩
  obtain ⟨X, hX⟩ : ∃ X, w.heap.size = X := ⟨_, rfl⟩
  rw [hX] at HK ⊢
  rw [hw0] at HB HK HW HKE HV ⊢
  clear hw0 hX
  have q0 : w0.cell? ⟨X, 0, none⟩ = some (.int .i64 wd) := cell_of_heap HK.out
  have q1 : w0.cell? ⟨X, 1, none⟩ = some (.int .i64 hg) := cell_of_heap HK.out
  have q2 : w0.cell? ⟨X, 2, none⟩ = some sw := cell_of_heap HK.out
  have q3 : w0.cell? ⟨X, 3, none⟩ = some sk := cell_of_heap HK.out
  have ql := (Array.getElem?_eq_some_iff.1 HK.out).1
  have hcall := great_any (wd := wd) (hg := hg) w0 HW.out HKE.out
  obtain ⟨g, hg0⟩ : ∃ g, greatB want keep = g := ⟨_, rfl⟩
  have HG := hid hg0
  rw [hg0] at hcall
  clear hg0
  go_wp2_with fail
  refine hcall.mono ?_
  rintro e w1 ⟨rfl, hb1⟩
  have HK1 := hid (heap_mono HK.out hb1)
  have HB1 := hid (bl_trans HB.out hb1)
  have HW1 := hid (HW.out.mono hb1)
  have HKE1 := hid (HKE.out.mono hb1)
  have HV1 := hid (HV.out.mono hb1)
  clear hcall hb1 HK HB HW HKE HV q0 q1 q2 q3 ql
  cases g with
  | true =>
    have hworks := works_any w1
    go_wp2_with fail
    refine hworks.mono ?_
    rintro e w2 ⟨rfl, hb2⟩
    clear hworks
    go_wp2
    go_ret
    exact ⟨rfl, bl_trans HB1.out hb2⟩
  | false =>
    obtain ⟨hl1, hl2⟩ := great_no HG.out
    by_cases hl : 70 < water.length
    · have t0 : decide ((70 : Int) < (water.length : Int)) = true := decide_eq_true (by omega)
      have hworks := works_any w1
      clear hl hl1 hl2
      go_wp2_with fail
      refine hworks.mono ?_
      rintro e w2 ⟨rfl, hb2⟩
      clear hworks
      go_wp2
      go_ret
      exact ⟨rfl, bl_trans HB1.out hb2⟩
    · have t0 : decide ((70 : Int) < (water.length : Int)) = false := decide_eq_false (by omega)
      have c1 := sticks_any (wd := wd) (hg := hg) w1 (by omega) (by omega) (by omega) HW1.out HKE1.out HV1.out
      obtain ⟨V, hVV⟩ : ∃ P, sticksV wd hg want keep water = P := ⟨_, rfl⟩
      obtain ⟨E, hE⟩ : ∃ P, sticksE wd hg want keep water = P := ⟨_, rfl⟩
      obtain ⟨P, hP⟩ : ∃ P, pondE wd hg want keep = P := ⟨_, rfl⟩
      have C2 : Hid (∀ W, Below w1.heap.size w1 W → Calls Try.prog 20 #[.agg #[.int .i64 wd, .int .i64 hg, sw, sk], .slice A water.length ca] W fun e w' => e = .returned (.tuple #[.int .i64 V, .int .i64 E]) ∧ Below W.heap.size W w') := fun W hW => by
        rw [← hVV, ← hE]; exact rsticks_any (wd := wd) (hg := hg) W (by omega) (by omega) (by omega) (HW1.out.mono hW) (HKE1.out.mono hW) (HV1.out.mono hW)
      have G21 : Hid (∀ W, Below w1.heap.size w1 W → Calls Try.prog 21 #[.agg #[.int .i64 wd, .int .i64 hg, sw, sk]] W fun e w' => e = .returned (.int .i64 P) ∧ Below W.heap.size W w') := fun W hW => by
        rw [← hP]; exact pond_any wd hg want keep sw sk W (by omega) (by omega) (HW1.out.mono hW) (HKE1.out.mono hW)
      have G22 : Hid (∀ W, Below w1.heap.size w1 W → Calls Try.prog 22 #[.agg #[.int .i64 wd, .int .i64 hg, sw, sk]] W fun e w' => e = .returned (.int .i64 P) ∧ Below W.heap.size W w') := fun W hW => by
        rw [← hP]; exact rpond_any (wd := wd) (hg := hg) W (by omega) (by omega) (HW1.out.mono hW) (HKE1.out.mono hW)
      rw [hVV, hE] at c1
      clear hVV hE hP hl hl1 hl2
      have q0 : w1.cell? ⟨X, 0, none⟩ = some (.int .i64 wd) := cell_of_heap HK1.out
      have q1 : w1.cell? ⟨X, 1, none⟩ = some (.int .i64 hg) := cell_of_heap HK1.out
      have q2 : w1.cell? ⟨X, 2, none⟩ = some sw := cell_of_heap HK1.out
      have q3 : w1.cell? ⟨X, 3, none⟩ = some sk := cell_of_heap HK1.out
      have ql := (Array.getElem?_eq_some_iff.1 HK1.out).1
      go_wp2_with fail
      refine c1.mono ?_
      rintro e w2 ⟨rfl, hb2⟩
      have HK2 := hid (heap_mono HK1.out hb2)
      have HB12 := hid hb2
      clear c1 hb2 q0 q1 q2 q3 ql
      have c2 := C2.out w2 HB12.out
      have q0 : w2.cell? ⟨X, 0, none⟩ = some (.int .i64 wd) := cell_of_heap HK2.out
      have q1 : w2.cell? ⟨X, 1, none⟩ = some (.int .i64 hg) := cell_of_heap HK2.out
      have q2 : w2.cell? ⟨X, 2, none⟩ = some sw := cell_of_heap HK2.out
      have q3 : w2.cell? ⟨X, 3, none⟩ = some sk := cell_of_heap HK2.out
      have ql := (Array.getElem?_eq_some_iff.1 HK2.out).1
      go_wp2_with fail
      refine c2.mono ?_
      rintro e w3 ⟨rfl, hb3⟩
      have HK3 := hid (heap_mono HK2.out hb3)
      have HB13 := hid (bl_trans HB12.out hb3)
      clear c2 hb3 q0 q1 q2 q3 ql
      have q0 : w3.cell? ⟨X, 0, none⟩ = some (.int .i64 wd) := cell_of_heap HK3.out
      have q1 : w3.cell? ⟨X, 1, none⟩ = some (.int .i64 hg) := cell_of_heap HK3.out
      have q2 : w3.cell? ⟨X, 2, none⟩ = some sw := cell_of_heap HK3.out
      have q3 : w3.cell? ⟨X, 3, none⟩ = some sk := cell_of_heap HK3.out
      have ql := (Array.getElem?_eq_some_iff.1 HK3.out).1
      have e1 : (P == P) = true := by simp
      have e2 : (V == V) = true := by simp
      have e3 : (E == E) = true := by simp
      have A21 : Hid (∀ W, Below w3.heap.size w3 W → Calls Try.prog 21 #[.agg #[.int .i64 wd, .int .i64 hg, sw, sk]] W fun e w' => e = .returned (.int .i64 P) ∧ Below W.heap.size W w') := fun W hW => G21.out W (bl_trans HB13.out hW)
      have A22 : Hid (∀ W, Below w3.heap.size w3 W → Calls Try.prog 22 #[.agg #[.int .i64 wd, .int .i64 hg, sw, sk]] W fun e w' => e = .returned (.int .i64 P) ∧ Below W.heap.size W w') := fun W hW => G22.out W (bl_trans HB13.out hW)
      have A18 : Hid (∀ W, Below w3.heap.size w3 W → Calls Try.prog 18 #[] W fun e w' => e = .returned (.bool true) ∧ Below W.heap.size W w') := fun W hW => works_any W
      clear G21 G22 C2
      go_upto_region 5 with (fail)
      refine wp_region_below (by kernel_rfl) (by kernel_rfl) ?_
      repeat (first | go_big_quiet_step (first | (go_at_call 21; exact Calls.regrown_of (A21.out _ (below_regrown _ _ _))) | (go_at_call 22; exact Calls.regrown_of (A22.out _ (below_regrown _ _ _))) | (go_at_call 18; exact Calls.regrown_of (A18.out _ (below_regrown _ _ _)))) | quiet_step (first | (go_at_call 21; exact Calls.regrown_of (A21.out _ (below_regrown _ _ _))) | (go_at_call 22; exact Calls.regrown_of (A22.out _ (below_regrown _ _ _))) | (go_at_call 18; exact Calls.regrown_of (A18.out _ (below_regrown _ _ _)))))
      refine wpQuiet_nil ?_
      intro w4 hb4
      have HB4 := hid (bl_trans HB1.out (bl_trans HB13.out hb4))
      clear q0 q1 q2 q3 ql A21 A22 A18 hb4
      go_wp2
      go_ret
      exact ⟨rfl, HB4.out⟩
end Go.Proofs.Ytlkoadcbolkhoaa
