/- The reference: whether water encloses, how many sticks it has: the walks. -/
import Derived.Test.YtlkoadcbolkhoaaRnext
import Derived.Test.YtlkoadcbolkhoaaSticks
import Derived.Test.YtlkoadcbolkhoaaLawa
set_option linter.all false
namespace Go.Proofs.Ytlkoadcbolkhoaa
open Go Go.RowKit Go.Proofs
attribute [local go_sem] cell_grow frozen_grow

theorem encl_want {want keep water : List Int} {k : Nat} {x : Int} (hx : want[k]? = some x) (h : water.contains x = false) : enclB want keep water = false := by
  unfold enclB
  rw [Bool.and_eq_false_iff]
  right
  rw [Bool.not_eq_false', List.any_eq_true]
  exact ⟨x, List.mem_of_getElem? hx, by rw [h]; rfl⟩
theorem encl_keep {want keep water : List Int} {k : Nat} {x : Int} (hx : keep[k]? = some x) (h : water.contains x = true) : enclB want keep water = false := by
  unfold enclB
  rw [Bool.and_eq_false_iff]
  left
  rw [Bool.not_eq_false', List.any_eq_true]
  exact ⟨x, List.mem_of_getElem? hx, h⟩
theorem encl_yes {want keep water : List Int} (h1 : NoP (fun c => !water.contains c) want want.length) (h2 : NoP (fun c => water.contains c) keep keep.length) : enclB want keep water = true := by
  unfold enclB
  rw [noP_all h2, noP_all h1]; rfl

set_option maxRecDepth 100000 in
set_option maxHeartbeats 8000000 in
theorem rencl_any {wd hg : Int} {sw sk sv : Value} {want keep water : List Int} (w : World) (hlw : want.length ≤ 1000000) (hlk : keep.length ≤ 1000000) (hlv : water.length ≤ 1000000) (hw : Ints w sw want) (hk : Ints w sk keep) (hv : Ints w sv water) :
    Calls Try.prog 68 #[.agg #[.int .i64 wd, .int .i64 hg, sw, sk], sv] w fun e w' => e = .returned (.bool (enclB want keep water)) ∧ Below w.heap.size w w' := by
  obtain ⟨A, ca, rfl⟩ := hw.slice
  obtain ⟨B, cb, rfl⟩ := hk.slice
  have hb0 := bl_alloc (bl_refl w) (.cells #[.int .i64 wd, .int .i64 hg, .slice A want.length ca, .slice B keep.length cb] 24)
  have HK := hid (World.alloc_heap_new w (.cells #[.int .i64 wd, .int .i64 hg, .slice A want.length ca, .slice B keep.length cb] 24))
  have HB := hid hb0
  have HW := hid (hw.mono hb0)
  have HKE := hid (hk.mono hb0)
  have HV := hid (hv.mono hb0)
  obtain ⟨E, hE⟩ : ∃ E, enclB want keep water = E := ⟨_, rfl⟩
  have HE := hid hE
  rw [hE]
  clear hE hw hk hv hb0
  go_enter Try.func68, Try.ntmps68
  go_upto_region 1 with (fail)
  obtain ⟨w0, hw0⟩ : ∃ w0, w.alloc (.cells #[.int .i64 wd, .int .i64 hg, .slice A want.length ca, .slice B keep.length cb] 24) = w0 := ⟨_, rfl⟩
  obtain ⟨X, hX⟩ : ∃ X, w.heap.size = X := ⟨_, rfl⟩
  rw [hX] at HK ⊢
  rw [hw0] at HB HK HW HKE HV ⊢
  clear hw0 hX
  have q0 : w0.cell? ⟨X, 0, none⟩ = some (.int .i64 wd) := cell_of_heap HK.out
  have q1 : w0.cell? ⟨X, 1, none⟩ = some (.int .i64 hg) := cell_of_heap HK.out
  have q2 : w0.cell? ⟨X, 2, none⟩ = some (.slice A want.length ca) := cell_of_heap HK.out
  have q3 : w0.cell? ⟨X, 3, none⟩ = some (.slice B keep.length cb) := cell_of_heap HK.out
  have ql := (Array.getElem?_eq_some_iff.1 HK.out).1
  go_wp2
  go_loopw [5] (fun p wr => ∃ k : Nat, k ≤ want.length ∧ p = .int .i64 (k : Int) ∧ NoP (fun c => !water.contains c) want k ∧ wr = w0) (fun p _ => want.length - (intOf p).toNat)
  case atStart => exact ⟨0, Nat.zero_le _, rfl, fun i _ h => by omega, rfl⟩
  case round =>
  obtain ⟨k, hk, rfl, hno, hwr⟩ := hrel
  subst wr
  have HNO := hid hno
  clear hno
  by_cases hlt : k < want.length
  · obtain ⟨x, hx⟩ := get_at hlt
    obtain ⟨b, off, hA, hbb, hcy⟩ : ∃ bb oo, A = some ⟨bb, oo, none⟩ ∧ bb < w0.heap.size ∧ w0.cell? ⟨bb, oo + k, none⟩ = some (.int .i64 x) := by
      rcases HW.out with ⟨hv, h0⟩ | ⟨bb, oo, c3, hv, h4, h5, h6⟩
      · rw [h0] at hlt; simp at hlt
      · injection hv with hv1 hv2 hv3
        exact ⟨bb, oo, hv1, h5, h6 k x hx⟩
    subst hA
    have hkI : (k : Int) < (want.length : Int) := by omega
    have hcall := rhas_any water sv x w0 hlv HV.out
    have Hx := hid hx
    clear hx
    cases hcon : water.contains x with
    | false =>
      have he : E = false := by rw [← HE.out]; exact encl_want Hx.out hcon
      subst he
      rw [hcon] at hcall
      clear hcon
      go_wp2_with fail
      refine hcall.mono ?_
      rintro e w8 ⟨rfl, rfl⟩
      clear hcall
      go_wp2
      go_ret
      exact ⟨rfl, HB.out⟩
    | true =>
      have hno2 := hid (noP_succ HNO.out Hx.out (by simp only [hcon]; rfl))
      rw [hcon] at hcall
      clear hcon
      go_wp2_with fail
      refine hcall.mono ?_
      rintro e w8 ⟨rfl, rfl⟩
      clear hcall
      go_wp2
      go_roundw
      case rel => exact ⟨k + 1, by omega, by go_num, hno2.out, trivial⟩
      case measure => simp [intOf]; omega
  obtain rfl : k = want.length := by omega
  have HN1 := hid HNO.out
  clear HNO hlt
  go_wp2
  go_loopw [6] (fun p wr => ∃ k : Nat, k ≤ keep.length ∧ p = .int .i64 (k : Int) ∧ NoP (fun c => water.contains c) keep k ∧ wr = w0) (fun p _ => keep.length - (intOf p).toNat)
  case atStart => exact ⟨0, Nat.zero_le _, rfl, fun i _ h => by omega, rfl⟩
  case round =>
  obtain ⟨k, hk, rfl, hno, hwr⟩ := hrel
  subst wr
  have HNO := hid hno
  clear hno
  by_cases hlt : k < keep.length
  · obtain ⟨x, hx⟩ := get_at hlt
    obtain ⟨b, off, hA, hbb, hcy⟩ : ∃ bb oo, B = some ⟨bb, oo, none⟩ ∧ bb < w0.heap.size ∧ w0.cell? ⟨bb, oo + k, none⟩ = some (.int .i64 x) := by
      rcases HKE.out with ⟨hv, h0⟩ | ⟨bb, oo, c3, hv, h4, h5, h6⟩
      · rw [h0] at hlt; simp at hlt
      · injection hv with hv1 hv2 hv3
        exact ⟨bb, oo, hv1, h5, h6 k x hx⟩
    subst hA
    have hkI : (k : Int) < (keep.length : Int) := by omega
    have hcall := rhas_any water sv x w0 hlv HV.out
    have Hx := hid hx
    clear hx
    cases hcon : water.contains x with
    | true =>
      have he : E = false := by rw [← HE.out]; exact encl_keep Hx.out hcon
      subst he
      rw [hcon] at hcall
      clear hcon
      go_wp2_with fail
      refine hcall.mono ?_
      rintro e w8 ⟨rfl, rfl⟩
      clear hcall
      go_wp2
      go_ret
      exact ⟨rfl, HB.out⟩
    | false =>
      have hno2 := hid (noP_succ HNO.out Hx.out hcon)
      rw [hcon] at hcall
      clear hcon
      go_wp2_with fail
      refine hcall.mono ?_
      rintro e w8 ⟨rfl, rfl⟩
      clear hcall
      go_wp2
      go_roundw
      case rel => exact ⟨k + 1, by omega, by go_num, hno2.out, trivial⟩
      case measure => simp [intOf]; omega
  obtain rfl : k = keep.length := by omega
  have he : E = true := by rw [← HE.out]; exact encl_yes HN1.out HNO.out
  subst he
  clear hlt
  go_wp2
  go_ret
  exact ⟨rfl, HB.out⟩

/-! ### How many sticks -/
theorem stick_has {wd hg c d : Int} {water : List Int} (hB : Board wd hg) (hc : inP wd hg c) (hin : ∀ x ∈ water, inP wd hg x) : stickC wd hg water c d = if water.contains (nbr wd hg c d) = true then 0 else 1 := by
  unfold stickC
  by_cases h : nbr wd hg c d < 0
  · rw [if_pos (.inl h), if_neg]
    intro hcon
    have := (hin _ (List.contains_iff_mem.1 hcon)).1
    omega
  · cases hcon : water.contains (nbr wd hg c d) with
    | true => rw [if_neg (by simp [h]), if_pos rfl]
    | false => rw [if_pos (.inr rfl), if_neg (by simp)]
def stickF (wd hg : Int) (water : List Int) (c : Int) (d : Nat) : Int := (if d ≤ 0 then stickC wd hg water c 0 else 0) + (if d ≤ 1 then stickC wd hg water c 1 else 0) + (if d ≤ 2 then stickC wd hg water c 2 else 0) + (if d ≤ 3 then stickC wd hg water c 3 else 0)
theorem stickF_step {wd hg c : Int} {water : List Int} {d : Nat} (h : d < 4) : stickF wd hg water c d = stickC wd hg water c d + stickF wd hg water c (d + 1) := by
  match d, h with
  | 0, _ => simp [stickF]; omega
  | 1, _ => simp [stickF]; omega
  | 2, _ => simp [stickF]
  | 3, _ => simp [stickF]
theorem stickF_end {wd hg c : Int} {water : List Int} : stickF wd hg water c 4 = 0 := by simp [stickF]
theorem stickC_rng {wd hg c d : Int} {water : List Int} : 0 ≤ stickC wd hg water c d ∧ stickC wd hg water c d ≤ 1 := by unfold stickC; split <;> omega
theorem stickN_cons {wd hg c : Int} {water l : List Int} : stickN wd hg water (c :: l) = stickF wd hg water c 0 + stickN wd hg water l := by simp [stickN, stickF]
theorem stickF_rng {wd hg c : Int} {water : List Int} {d : Nat} : 0 ≤ stickF wd hg water c d ∧ stickF wd hg water c d ≤ 4 := by
  have h0 := stickC_rng (wd := wd) (hg := hg) (c := c) (d := 0) (water := water)
  have h1 := stickC_rng (wd := wd) (hg := hg) (c := c) (d := 1) (water := water)
  have h2 := stickC_rng (wd := wd) (hg := hg) (c := c) (d := 2) (water := water)
  have h3 := stickC_rng (wd := wd) (hg := hg) (c := c) (d := 3) (water := water)
  unfold stickF
  (repeat' split) <;> omega
theorem stickN_rng {wd hg : Int} {water : List Int} : ∀ l : List Int, 0 ≤ stickN wd hg water l ∧ stickN wd hg water l ≤ 4 * l.length
  | [] => by simp [stickN]
  | c :: l => by
    have := stickN_rng (wd := wd) (hg := hg) (water := water) l
    have h2 := stickF_rng (wd := wd) (hg := hg) (c := c) (d := 0) (water := water)
    rw [stickN_cons, List.length_cons]
    omega

set_option maxRecDepth 100000 in
set_option maxHeartbeats 8000000 in
theorem rsticksOf_any {wd hg : Int} {sw sk sv : Value} {water : List Int} (w : World) (hV : Board wd hg) (hlv : water.length ≤ 1000000) (hin : ∀ x ∈ water, inP wd hg x) (hv : Ints w sv water) :
    Calls Try.prog 48 #[.agg #[.int .i64 wd, .int .i64 hg, sw, sk], sv] w fun e w' => e = .returned (.int .i64 (stickN wd hg water water)) ∧ Below w.heap.size w w' := by
  obtain ⟨A, ca, rfl⟩ := hv.slice
  have hb0 := bl_alloc (bl_refl w) (.cells #[.int .i64 wd, .int .i64 hg, sw, sk] 24)
  have HK := hid (World.alloc_heap_new w (.cells #[.int .i64 wd, .int .i64 hg, sw, sk] 24))
  have HB := hid hb0
  have HV := hid (hv.mono hb0)
  have HIN := hid hin
  have HBo := hid hV
  obtain ⟨T, hT⟩ : ∃ T, stickN wd hg water water = T := ⟨_, rfl⟩
  have HT := hid hT
  have hTr : 0 ≤ T ∧ T ≤ 4000000 := by rw [← hT]; have := stickN_rng (wd := wd) (hg := hg) (water := water) water; omega
  rw [hT]
  clear hT hv hin hV hb0
  go_enter Try.func48, Try.ntmps48
  go_upto_region 1 with (fail)
  obtain ⟨w0, hw0⟩ : ∃ w0, w.alloc (.cells #[.int .i64 wd, .int .i64 hg, sw, sk] 24) = w0 := ⟨_, rfl⟩
  obtain ⟨X, hX⟩ : ∃ X, w.heap.size = X := ⟨_, rfl⟩
  rw [hX] at HK ⊢
  rw [hw0] at HB HK HV ⊢
  clear hw0 hX
  go_wp2
  go_loopw [5, 6, 7] (fun s p _ wr => ∃ (k : Nat) (n : Int), k ≤ water.length ∧ p = .int .i64 (k : Int) ∧ s = .int .i64 n ∧ 0 ≤ n ∧ n + stickN wd hg water (water.drop k) = T ∧ Below w0.heap.size w0 wr) (fun _ p _ _ => water.length - (intOf p).toNat)
  case atStart => exact ⟨0, 0, Nat.zero_le _, rfl, rfl, Int.le_refl _, by rw [List.drop_zero, HT.out]; omega, bl_refl _⟩
  case round =>
  obtain ⟨k, n, hk, rfl, rfl, hn0, hsum, hB⟩ := hrel
  have HBr := hid hB
  clear hB
  by_cases hlt : k < water.length
  · obtain ⟨x, hx⟩ := get_at hlt
    have hdr : water.drop k = x :: water.drop (k + 1) := List.drop_eq_getElem_cons hlt ▸ by rw [(List.getElem?_eq_some_iff.1 hx).2]
    rw [hdr, stickN_cons] at hsum
    obtain ⟨R, hR⟩ : ∃ R, stickN wd hg water (water.drop (k + 1)) = R := ⟨_, rfl⟩
    have hR0 : 0 ≤ R := by rw [← hR]; exact (stickN_rng _).1
    have HR := hid hR
    rw [hR] at hsum
    have hxin := HIN.out x (List.mem_of_getElem? hx)
    have HX := hid hx
    have HXI := hid hxin
    have HS := hid hsum
    have hkI : (k : Int) < (water.length : Int) := by omega
    clear hx hxin hsum hdr hR
    go_wp2
    obtain ⟨wa, rfl⟩ : ∃ wa, wa = wr := ⟨_, rfl⟩
    go_loopw [5, 7] (fun s p wx => ∃ (d : Nat) (n : Int), d ≤ 4 ∧ p = .int .i64 (d : Int) ∧ s = .int .i64 n ∧ 0 ≤ n ∧ n + (stickF wd hg water x d + R) = T ∧ Below w0.heap.size w0 wx) (fun _ p _ => 4 - (intOf p).toNat)
    case atStart => exact ⟨0, n, by omega, rfl, rfl, hn0, HS.out, HBr.out⟩
    case round =>
    clear HBr
    obtain ⟨d, n, hd, rfl, rfl, hn0, hsum, hB⟩ := hrel
    have HBr := hid hB
    clear hB
    by_cases hlt : d < 4
    · have t1 : decide ((d : Int) < 4) = true := decide_eq_true (by omega)
      rw [stickF_step hlt, stick_has HBo.out HXI.out HIN.out] at hsum
      have hF0 := (stickF_rng (wd := wd) (hg := hg) (c := x) (d := d + 1) (water := water)).1
      obtain ⟨F, hF⟩ : ∃ F, stickF wd hg water x (d + 1) = F := ⟨_, rfl⟩
      have HF := hid hF
      rw [hF] at hsum hF0
      obtain ⟨N, hN⟩ : ∃ N, nbr wd hg x (d : Int) = N := ⟨_, rfl⟩
      obtain ⟨q, hq⟩ : ∃ q, water.contains N = q := ⟨_, rfl⟩
      rw [hN, hq] at hsum
      obtain ⟨b, off, hA, hbb, hcy⟩ : ∃ bb oo, A = some ⟨bb, oo, none⟩ ∧ bb < wr.heap.size ∧ wr.cell? ⟨bb, oo + k, none⟩ = some (.int .i64 x) := by
        rcases HV.out.mono HBr.out with ⟨hv, h0⟩ | ⟨bb, oo, c3, hv, h4, h5, h6⟩
        · have := (List.getElem?_eq_some_iff.1 HX.out).1; rw [h0] at this; simp at this
        · injection hv with hv1 hv2 hv3
          exact ⟨bb, oo, hv1, h5, h6 k x HX.out⟩
      subst hA
      have G92 : Hid (∀ W, Below wr.heap.size wr W → Calls Try.prog 92 #[.agg #[.int .i64 wd, .int .i64 hg, sw, sk], .int .i64 x, .int .i64 (d : Int)] W fun e w' => e = .returned (.int .i64 N) ∧ Below W.heap.size W w') := fun W hW => by rw [← hN]; exact rnext_any x (d : Int) W HBo.out HXI.out ⟨by omega, by omega⟩
      have G50 : Hid (∀ W, Below wr.heap.size wr W → Calls Try.prog 50 #[.slice (some ⟨b, off, none⟩) water.length ca, .int .i64 N] W fun e w' => e = .returned (.bool q) ∧ Below W.heap.size W w') := fun W hW => by
        rw [← hq]
        exact (rhas_any water _ N W hlv (HV.out.mono (bl_trans HBr.out hW))).mono fun e w' h => ⟨h.1, by rw [h.2]; exact bl_refl _⟩
      have hK := heap_mono HK.out HBr.out
      have q0 : wr.cell? ⟨X, 0, none⟩ = some (.int .i64 wd) := cell_of_heap hK
      have q1 : wr.cell? ⟨X, 1, none⟩ = some (.int .i64 hg) := cell_of_heap hK
      have q2 : wr.cell? ⟨X, 2, none⟩ = some sw := cell_of_heap hK
      have q3 : wr.cell? ⟨X, 3, none⟩ = some sk := cell_of_heap hK
      have ql := (Array.getElem?_eq_some_iff.1 hK).1
      clear hK hF hN hq
      go_upto_region 8 with (fail)
      refine wp_region_below (by kernel_rfl) (by kernel_rfl) ?_
      repeat (first | go_big_quiet_step (first | (go_at_call 92; exact Calls.regrown_of (G92.out _ (below_regrown _ _ _))) | (go_at_call 50; exact Calls.regrown_of (G50.out _ (below_regrown _ _ _)))) | quiet_step (first | (go_at_call 92; exact Calls.regrown_of (G92.out _ (below_regrown _ _ _))) | (go_at_call 50; exact Calls.regrown_of (G50.out _ (below_regrown _ _ _)))))
      refine wpQuiet_nil ?_
      intro w5 hb5
      have HB5 := hid (bl_trans HBr.out hb5)
      clear q0 q1 q2 q3 ql hcy hb5 G92 G50
      cases q with
      | true =>
        rw [if_pos rfl] at hsum
        have HS2 := hid (show n + (stickF wd hg water x (d + 1) + R) = T by rw [HF.out]; omega)
        clear hsum
        go_wp2
        go_roundw
        case rel => exact ⟨d + 1, n, by omega, by go_num, rfl, hn0, HS2.out, HB5.out⟩
        case measure => simp [intOf]; omega
      | false =>
        rw [if_neg (by simp)] at hsum
        have HS2 := hid (show n + 1 + (stickF wd hg water x (d + 1) + R) = T by rw [HF.out]; omega)
        have hnn : n ≤ 4000000 := by omega
        clear hsum
        go_wp2
        go_roundw
        case rel => exact ⟨d + 1, n + 1, by omega, by go_num, rfl, by omega, HS2.out, HB5.out⟩
        case measure => simp [intOf]; omega
    · obtain rfl : d = 4 := by omega
      have HS2 := hid (show n + stickN wd hg water (water.drop (k + 1)) = T by rw [HR.out]; rw [stickF_end] at hsum; omega)
      clear hsum hlt
      go_wp2
      go_roundw
      case rel => exact ⟨k + 1, n, by omega, by go_num, rfl, hn0, HS2.out, HBr.out⟩
      case measure => simp [intOf]; omega
  · obtain rfl : k = water.length := by omega
    rw [List.drop_length] at hsum
    have hs : n = T := by simp [stickN] at hsum; omega
    subst hs
    have HB5 := hid (bl_trans HB.out HBr.out)
    clear hsum hlt
    go_wp2
    go_ret
    exact ⟨rfl, HB5.out⟩
end Go.Proofs.Ytlkoadcbolkhoaa
