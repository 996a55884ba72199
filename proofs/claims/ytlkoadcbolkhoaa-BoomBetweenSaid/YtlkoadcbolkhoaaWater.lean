/- Water by bits: the walk. -/
import Derived.Test.YtlkoadcbolkhoaaLawd
import Derived.Laws.BitsAllLaws
set_option linter.all false
namespace Go.Proofs.Ytlkoadcbolkhoaa
open Go Go.RowKit Go.Proofs
attribute [local go_sem] cell_grow frozen_grow

def bitB (bits c : Int) : Bool := decide (bits / 2 ^ c.toNat % 2 = 1)
def waterP (want keep : List Int) (bits c : Int) : Bool := !keep.contains c && (bitB bits c || want.contains c)
def waterL (wd hg : Int) (want keep : List Int) (bits : Int) : List Int := pickC (waterP want keep bits) (wd * hg).toNat
theorem and_one {a : Int} (h1 : 0 ≤ a) (h2 : a < 18446744073709551616) : bits .and .u64 a 1 = a % 2 := by
  rw [u64_and a 1 h1 h2 (by decide) (by decide)]
  obtain ⟨n, rfl⟩ : ∃ n : Nat, a = n := ⟨a.toNat, by omega⟩
  rw [Int.toNat_natCast, show (1 : Int).toNat = 1 from rfl, Nat.and_one_is_mod]; rfl
theorem shr_lt {a : Int} (h1 : 0 ≤ a) (h2 : a < 18446744073709551616) (k : Nat) : 0 ≤ a / 2 ^ k ∧ a / 2 ^ k < 18446744073709551616 := by
  have hp : (0 : Int) < 2 ^ k := Int.pow_pos (by decide)
  refine ⟨Int.ediv_nonneg h1 (by omega), ?_⟩
  have := Int.ediv_le_self (2 ^ k) h1
  omega
set_option maxRecDepth 100000 in
set_option maxHeartbeats 8000000 in
theorem water_any {wd hg : Int} {sw sk : Value} {want keep : List Int} (bt : Int) (w : World) (hbt : 0 ≤ bt ∧ bt < 18446744073709551616) (hB : Board wd hg) (hlw : want.length ≤ 1000000) (hlk : keep.length ≤ 1000000) (hw : Ints w sw want) (hk : Ints w sk keep) :
    Calls Try.prog 47 #[.agg #[.int .i64 wd, .int .i64 hg, sw, sk], .int .u64 bt] w fun e w' => (∃ v, e = .returned v ∧ Ints w' v (waterL wd hg want keep bt)) ∧ Below w.heap.size w w' := by
  obtain ⟨i3, hi3, hi30, hi31, hi32⟩ := info_parts info3
  have hn := hB.nat
  have hn64 : (wd * hg).toNat ≤ 64 := by
    have e1 := Int.mul_le_mul hB.w.2 hB.h.2 (by have := hB.h; omega) (by omega)
    omega
  have GC := hid (fun W => cells_any wd hg sw sk W hB.w hB.h)
  unfold waterL
  obtain ⟨N, hN⟩ : ∃ N, (wd * hg).toNat = N := ⟨_, rfl⟩
  rw [hN] at hn hn64 ⊢
  rw [← hn] at GC
  obtain ⟨Q, hQ⟩ : ∃ Q, waterP want keep bt = Q := ⟨_, rfl⟩
  have HQ := hid hQ
  rw [hQ]
  clear hQ hn hN hB
  have HX_0 := hid (World.alloc_heap_new w (.cells #[.int .i64 wd, .int .i64 hg, sw, sk] 24))
  have hb0 := bl_alloc (bl_refl w) (.cells #[.int .i64 wd, .int .i64 hg, sw, sk] 24)
  have HB0 := hid hb0
  have HW_0 := hid (hw.mono hb0)
  have HK_0 := hid (hk.mono hb0)
  clear hb0 hw hk
  go_enter Try.func47, Try.ntmps47
  go_upto_region 1 with (fail)
  obtain ⟨w0, hw0⟩ : ∃ w0, w.alloc (.cells #[.int .i64 wd, .int .i64 hg, sw, sk] 24) = w0 := ⟨_, rfl⟩
  obtain ⟨X, hX⟩ : ∃ X, w.heap.size = X := ⟨_, rfl⟩
  rw [hX] at HX_0 ⊢
  rw [hw0] at HB0 HX_0 HW_0 HK_0 ⊢
  clear hw0 hX
  have HB1 := HB0
  go_wp2
  go_loopw [5, 6] (fun o p wr => ∃ (k : Nat) (v : Value), k ≤ N ∧ p = .int .i64 (k : Int) ∧ o = v ∧ wr.ownsRow w0.heap.size 3 1 v (pickC Q k).length ((pickC Q k).map (Value.int .i64)) ∧ Below w0.heap.size w0 wr) (fun _ p _ => N - (intOf p).toNat)
  case atStart => exact ⟨0, _, Nat.zero_le _, rfl, rfl, World.ownsRow_nil _ _ _ _, bl_refl _⟩
  case round =>
  obtain ⟨k, v, hk, rfl, hov, hown, hB⟩ := hrel
  obtain rfl := hov.symm
  have HOW := hid hown
  have HBr := hid hB
  have hbs := hB.size
  have hK := heap_mono HX_0.out hB
  have q0 : wr.cell? ⟨X, 0, none⟩ = some (.int .i64 wd) := cell_of_heap hK
  have q1 : wr.cell? ⟨X, 1, none⟩ = some (.int .i64 hg) := cell_of_heap hK
  have q2 : wr.cell? ⟨X, 2, none⟩ = some sw := cell_of_heap hK
  have q3 : wr.cell? ⟨X, 3, none⟩ = some sk := cell_of_heap hK
  have ql := (Array.getElem?_eq_some_iff.1 hK).1
  have hcall := GC.out wr
  clear hown hB hK
  go_wp2_with fail
  refine hcall.mono ?_
  rintro e w2 ⟨rfl, hb2⟩
  have HB2 := hid (bl_trans HBr.out hb2)
  have HOW2 := hid (own_mono HOW.out hb2)
  have hbs2 := hb2.size
  clear hcall hb2 q0 q1 q2 q3 ql HBr HOW
  by_cases hlt : k < N
  · have hkI : decide ((k : Int) < (N : Int)) = true := decide_eq_true (by omega)
    have hK := heap_mono HX_0.out HB2.out
    have q0 : w2.cell? ⟨X, 0, none⟩ = some (.int .i64 wd) := cell_of_heap hK
    have q1 : w2.cell? ⟨X, 1, none⟩ = some (.int .i64 hg) := cell_of_heap hK
    have q2 : w2.cell? ⟨X, 2, none⟩ = some sw := cell_of_heap hK
    have q3 : w2.cell? ⟨X, 3, none⟩ = some sk := cell_of_heap hK
    have ql := (Array.getElem?_eq_some_iff.1 hK).1
    have c1 := rhas_any keep sk (k : Int) w2 hlk (HK_0.out.mono HB2.out)
    have c2 := rhas_any want sw (k : Int) w2 hlw (HW_0.out.mono HB2.out)
    have hQk : Q (k : Int) = (!keep.contains (k : Int) && (bitB bt (k : Int) || want.contains (k : Int))) := by rw [← HQ.out]; rfl
    have hln := pickC_len Q k
    have hk64 : (k : Int) ≤ 64 := by omega
    have hsl := shr_lt hbt.1 hbt.2 k
    have hand := and_one hsl.1 hsl.2
    have hbB : bitB bt (k : Int) = decide (bt / 2 ^ k % 2 = 1) := rfl
    clear hK hsl
    cases h1 : keep.contains (k : Int) with
    | true =>
      rw [h1] at c1 hQk
      clear h1 c2 hand hbB
      have hst := hid (pickC_no (show Q (k : Int) = false from hQk))
      clear hQk
      go_wp2_with fail
      refine c1.mono ?_
      rintro e w8 ⟨rfl, hw8⟩
      obtain rfl := hw8.symm
      clear c1
      go_wp2
      go_roundw
      case rel => exact ⟨k + 1, _, by omega, by go_num, rfl, by rw [hst.out]; exact HOW2.out, HB2.out⟩
      case measure => simp [intOf]; omega
    | false =>
      rw [h1] at c1 hQk
      clear h1
      by_cases hbit : bt / 2 ^ k % 2 = 1
      · rw [hbB, decide_eq_true hbit] at hQk
        have tb : (bt / 2 ^ k % 2 == 1) = true := by simp [hbit]
        clear c2 hbB hbit
        have hst := hid (pickC_yes (show Q (k : Int) = true from hQk))
        have oN := HOW2.out.alloc (.cells #[.int .i64 (k : Int)] 3)
        have bN := hid (bl_alloc HB2.out (.cells #[.int .i64 (k : Int)] 3))
        clear hQk
        go_wp2_with fail
        refine c1.mono ?_
        rintro e w8 ⟨rfl, hw8⟩
        obtain rfl := hw8.symm
        clear c1
        go_wp2_with (at_builtin; refine wpList_append_own _ rfl _ _ 22 rfl w0.heap.size 3 i3 (.int .i64 0) 1 8 Try.underlying22 hi3 hi30 hi31 hi32 rfl (by decide) v _ _ rfl oN ⟨w2.heap.size, 0, none⟩ 1 1 [.int .i64 (k : Int)] rfl rfl (cell_one_new w2 (.int .i64 (k : Int)) 3) (fun z hz => by simp at hz; subst hz; rfl) (by unfold maxLen; omega) (by omega) (by simp; omega) ?_; intro v' w5 hown' hgrow5 hnil5; have HB5 := hid (bl_grown bN.out oN (by omega) hgrow5); have HOW5 := hid hown'; clear hown' hgrow5 hnil5)
        go_roundw
        case rel => exact ⟨k + 1, _, by omega, by go_num, rfl, by rw [hst.out, List.length_append, List.map_append]; exact HOW5.out, HB5.out⟩
        case measure => simp [intOf]; omega
      · rw [hbB, decide_eq_false hbit] at hQk
        have tb : (bt / 2 ^ k % 2 == 1) = false := beq_eq_false_iff_ne.2 hbit
        clear hbB hbit
        cases h2 : want.contains (k : Int) with
        | true =>
          rw [h2] at c2 hQk
          clear h2
          have hst := hid (pickC_yes (show Q (k : Int) = true from hQk))
          have oN := HOW2.out.alloc (.cells #[.int .i64 (k : Int)] 3)
          have bN := hid (bl_alloc HB2.out (.cells #[.int .i64 (k : Int)] 3))
          clear hQk
          go_wp2_with fail
          refine c1.mono ?_
          rintro e w8 ⟨rfl, hw8⟩
          obtain rfl := hw8.symm
          clear c1
          go_wp2_with fail
          refine c2.mono ?_
          rintro e w8 ⟨rfl, hw8⟩
          obtain rfl := hw8.symm
          clear c2
          go_wp2_with (at_builtin; refine wpList_append_own _ rfl _ _ 22 rfl w0.heap.size 3 i3 (.int .i64 0) 1 8 Try.underlying22 hi3 hi30 hi31 hi32 rfl (by decide) v _ _ rfl oN ⟨w2.heap.size, 0, none⟩ 1 1 [.int .i64 (k : Int)] rfl rfl (cell_one_new w2 (.int .i64 (k : Int)) 3) (fun z hz => by simp at hz; subst hz; rfl) (by unfold maxLen; omega) (by omega) (by simp; omega) ?_; intro v' w5 hown' hgrow5 hnil5; have HB5 := hid (bl_grown bN.out oN (by omega) hgrow5); have HOW5 := hid hown'; clear hown' hgrow5 hnil5)
          go_roundw
          case rel => exact ⟨k + 1, _, by omega, by go_num, rfl, by rw [hst.out, List.length_append, List.map_append]; exact HOW5.out, HB5.out⟩
          case measure => simp [intOf]; omega
        | false =>
          rw [h2] at c2 hQk
          clear h2
          have hst := hid (pickC_no (show Q (k : Int) = false from hQk))
          clear hQk
          go_wp2_with fail
          refine c1.mono ?_
          rintro e w8 ⟨rfl, hw8⟩
          obtain rfl := hw8.symm
          clear c1
          go_wp2_with fail
          refine c2.mono ?_
          rintro e w8 ⟨rfl, hw8⟩
          obtain rfl := hw8.symm
          clear c2
          go_wp2
          go_roundw
          case rel => exact ⟨k + 1, _, by omega, by go_num, rfl, by rw [hst.out]; exact HOW2.out, HB2.out⟩
          case measure => simp [intOf]; omega
  · obtain rfl : k = N := by omega
    have hkI : decide ((k : Int) < (k : Int)) = false := decide_eq_false (by omega)
    have HI := hid (ints_own rfl HOW2.out)
    have HB5 := hid (bl_trans HB1.out HB2.out)
    clear hlt
    go_wp2
    go_ret
    exact ⟨⟨_, rfl, HI.out⟩, HB5.out⟩
end Go.Proofs.Ytlkoadcbolkhoaa
