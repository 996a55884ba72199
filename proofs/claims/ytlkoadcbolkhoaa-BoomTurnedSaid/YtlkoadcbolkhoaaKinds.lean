/- The largest best water; the kind of a cell: the walks. -/
import Derived.Test.YtlkoadcbolkhoaaLarge
set_option linter.all false
namespace Go.Proofs.Ytlkoadcbolkhoaa
open Go Go.RowKit Go.Proofs
attribute [local go_sem] cell_grow frozen_grow

theorem large_pick {wd hg : Int} {want keep : List Int} {n : Nat} (hn : wd * hg = (n : Int)) : pickC (fun c => decide ((lostL (raft wd hg want keep).1 wd hg keep).getD c.toNat 0 = 0)) n = largeL wd hg want keep := by
  unfold largeL pickC
  rw [hn, Int.toNat_natCast]
def largeV (wd hg : Int) (want keep : List Int) : List Int := if pondE wd hg want keep = 0 then largeL wd hg want keep else []
set_option maxRecDepth 100000 in
set_option maxHeartbeats 8000000 in
theorem largest_any {wd hg : Int} {sw sk : Value} {want keep : List Int} (w : World) (hlw : want.length ≤ 1000000) (hlk : keep.length ≤ 1000000) (hw : Ints w sw want) (hk : Ints w sk keep) :
    Calls Try.prog 28 #[.agg #[.int .i64 wd, .int .i64 hg, sw, sk]] w fun e w' => (∃ s, e = .returned (.tuple #[s, .int .i64 (pondE wd hg want keep)]) ∧ Ints w' s (largeV wd hg want keep)) ∧ Below w.heap.size w w' := by
  obtain ⟨i3, hi3, hi30, hi31, hi32⟩ := info_parts info3
  have hb0 := bl_alloc (bl_refl w) (.cells #[.int .i64 wd, .int .i64 hg, sw, sk] 24)
  have k0 := World.alloc_heap_new w (.cells #[.int .i64 wd, .int .i64 hg, sw, sk] 24)
  have HB0 := hid hb0
  have HK0 := hid k0
  have hcall := open_any (wd := wd) (hg := hg) (w.alloc (.cells #[.int .i64 wd, .int .i64 hg, sw, sk] 24)) hlw hlk (hw.mono hb0) (hk.mono hb0)
  clear hw hk hb0 k0
  obtain ⟨FV, hFV⟩ : ∃ FV, largeV wd hg want keep = FV := ⟨_, rfl⟩
  have HFV := hid hFV
  rw [hFV]
  clear hFV
  obtain ⟨E, hE⟩ : ∃ E, pondE wd hg want keep = E := ⟨_, rfl⟩
  have HE := hid hE
  rw [hE] at hcall ⊢
  clear hE
  go_enter Try.func28, Try.ntmps28
  go_upto_region 1 with (fail)
  obtain ⟨w1, hw1⟩ : ∃ w1, w.alloc (.cells #[.int .i64 wd, .int .i64 hg, sw, sk] 24) = w1 := ⟨_, rfl⟩
  obtain ⟨X, hX⟩ : ∃ X, w.heap.size = X := ⟨_, rfl⟩
  rw [hX] at HK0 ⊢
  rw [hw1] at HB0 HK0 hcall ⊢
  clear hw1
  have q0 : w1.cell? ⟨X, 0, none⟩ = some (.int .i64 wd) := cell_of_heap HK0.out
  have q1 : w1.cell? ⟨X, 1, none⟩ = some (.int .i64 hg) := cell_of_heap HK0.out
  have q2 : w1.cell? ⟨X, 2, none⟩ = some sw := cell_of_heap HK0.out
  have q3 : w1.cell? ⟨X, 3, none⟩ = some sk := cell_of_heap HK0.out
  have ql := (Array.getElem?_eq_some_iff.1 HK0.out).1
  go_wp2_with fail
  refine hcall.mono ?_
  rintro e w2 ⟨hcase, hb2⟩
  have HB2 := hid (bl_trans HB0.out hb2)
  clear q0 q1 q2 q3 ql hcall HB0 HK0 hb2
  rcases hcase with ⟨rfl, RP, MB, rfl, hr, _⟩ | ⟨h0, rfl⟩
  · have hV := pond_valid HE.out
    have hn0 := hV.cells
    obtain ⟨n, hn⟩ : ∃ n : Nat, wd * hg = (n : Int) := ⟨(wd * hg).toNat, by omega⟩
    have hcall := large_any n w2 hr hV hn
    rw [large_pick hn, show largeL wd hg want keep = FV by rw [← HFV.out]; unfold largeV; rw [if_pos HE.out]] at hcall
    clear hr hV hn0 hn
    go_wp2_with fail
    refine hcall.mono ?_
    rintro e w3 ⟨⟨s, rfl, hs⟩, hb3⟩
    have HB3 := hid (bl_trans HB2.out hb3)
    have HS := hid hs
    clear hcall hb3 hs
    go_wp2
    go_ret2
    exact ⟨⟨_, rfl, HS.out⟩, HB3.out⟩
  · have t0 : (E == 0) = false := beq_eq_false_iff_ne.2 h0
    have hf : FV = [] := by rw [← HFV.out]; unfold largeV; rw [if_neg (by rw [HE.out]; exact h0)]
    subst hf
    clear h0
    go_wp2
    go_ret2
    exact ⟨⟨_, rfl, .inl ⟨rfl, rfl⟩⟩, HB2.out⟩

def kindErr (wd hg : Int) (want keep : List Int) (c : Int) : Int := if pondE wd hg want keep ≠ 0 then pondE wd hg want keep else if 0 ≤ c ∧ c ≤ wd * hg - 1 then 0 else 2
def kindV (wd hg : Int) (want keep : List Int) (c : Int) : Int := if kindErr wd hg want keep c = 0 then kindE wd hg want keep c else 0
set_option maxRecDepth 100000 in
set_option maxHeartbeats 8000000 in
theorem kind_any {wd hg : Int} {sw sk : Value} {want keep : List Int} (cell : Int) (w : World) (hlw : want.length ≤ 1000000) (hlk : keep.length ≤ 1000000) (hw : Ints w sw want) (hk : Ints w sk keep) :
    Calls Try.prog 30 #[.agg #[.int .i64 wd, .int .i64 hg, sw, sk], .int .i64 cell] w fun e w' => e = .returned (.tuple #[.int .i64 (kindV wd hg want keep cell), .int .i64 (kindErr wd hg want keep cell)]) ∧ Below w.heap.size w w' := by
  have hb0 := bl_alloc (bl_refl w) (.cells #[.int .i64 wd, .int .i64 hg, sw, sk] 24)
  have k0 := World.alloc_heap_new w (.cells #[.int .i64 wd, .int .i64 hg, sw, sk] 24)
  have HB0 := hid hb0
  have HK0 := hid k0
  have hcall := open_any (wd := wd) (hg := hg) (w.alloc (.cells #[.int .i64 wd, .int .i64 hg, sw, sk] 24)) hlw hlk (hw.mono hb0) (hk.mono hb0)
  clear hw hk hb0 k0
  obtain ⟨KV, hKV⟩ : ∃ KV, kindV wd hg want keep cell = KV := ⟨_, rfl⟩
  have HKV := hid hKV
  obtain ⟨KE, hKE⟩ : ∃ KE, kindErr wd hg want keep cell = KE := ⟨_, rfl⟩
  have HKE := hid hKE
  rw [hKV, hKE]
  clear hKV hKE
  obtain ⟨E, hE⟩ : ∃ E, pondE wd hg want keep = E := ⟨_, rfl⟩
  have HE := hid hE
  rw [hE] at hcall
  clear hE
  go_enter Try.func30, Try.ntmps30
  go_upto_region 1 with (fail)
  obtain ⟨w1, hw1⟩ : ∃ w1, w.alloc (.cells #[.int .i64 wd, .int .i64 hg, sw, sk] 24) = w1 := ⟨_, rfl⟩
  obtain ⟨X, hX⟩ : ∃ X, w.heap.size = X := ⟨_, rfl⟩
  rw [hX] at HK0 ⊢
  rw [hw1] at HB0 HK0 hcall ⊢
  clear hw1
  have q0 : w1.cell? ⟨X, 0, none⟩ = some (.int .i64 wd) := cell_of_heap HK0.out
  have q1 : w1.cell? ⟨X, 1, none⟩ = some (.int .i64 hg) := cell_of_heap HK0.out
  have q2 : w1.cell? ⟨X, 2, none⟩ = some sw := cell_of_heap HK0.out
  have q3 : w1.cell? ⟨X, 3, none⟩ = some sk := cell_of_heap HK0.out
  have ql := (Array.getElem?_eq_some_iff.1 HK0.out).1
  go_wp2_with fail
  refine hcall.mono ?_
  rintro e w2 ⟨hcase, hb2⟩
  have HB2 := hid (bl_trans HB0.out hb2)
  have HK2 := hid (heap_mono HK0.out hb2)
  clear q0 q1 q2 q3 ql hcall HB0 HK0 hb2
  rcases hcase with ⟨rfl, RP, MB, rfl, hr, _⟩ | ⟨h0, rfl⟩
  · have hV := pond_valid HE.out
    have hn0 := hV.cells
    obtain ⟨n, hn⟩ : ∃ n : Nat, wd * hg = (n : Int) := ⟨(wd * hg).toNat, by omega⟩
    have HV := hid hV
    have HN := hid hn
    have HR := hid hr
    have hmul : IntKind.i64.wrap (wd * hg) = (n : Int) := by rw [hn]; exact IntWalk.i64_in _ (by omega)
    have hsub : IntKind.i64.wrap ((n : Int) - 1) = (n : Int) - 1 := IntWalk.i64_in _ (by omega)
    have q0 : w2.cell? ⟨X, 0, none⟩ = some (.int .i64 wd) := cell_of_heap HK2.out
    have q1 : w2.cell? ⟨X, 1, none⟩ = some (.int .i64 hg) := cell_of_heap HK2.out
    have ql := (Array.getElem?_eq_some_iff.1 HK2.out).1
    have hb3 := bl_alloc (bl_refl w2) (.cells #[.int .i64 cell] 3)
    have hcall := within_any 0 ((n : Int) - 1) [cell] (.slice (some ⟨w2.heap.size, 0, none⟩) 1 1) (w2.alloc (.cells #[.int .i64 cell] 3)) (by simp) (ints_row (l := [cell]) (World.alloc_heap_new w2 _))
    rw [within_one] at hcall
    have HB3 := hid (bl_trans HB2.out hb3)
    have HR3 := hid (hr.mono hb3)
    clear hV hn hr hn0 hb3 HR HB2 HK2
    by_cases hc : 0 ≤ cell ∧ cell ≤ (n : Int) - 1
    · have hb : (decide (0 ≤ cell) && decide (cell ≤ (n : Int) - 1)) = true := by simp [hc]
      rw [hb] at hcall
      have he : KE = 0 := by rw [← HKE.out]; unfold kindErr; rw [HE.out, if_neg (by simp), HN.out, if_pos hc]
      have hv : kindE wd hg want keep cell = KV := by rw [← HKV.out]; unfold kindV; rw [HKE.out, he, if_pos rfl]
      have HVV := hid hv
      subst he
      clear hb hv hc
      go_wp2_with fail
      refine hcall.mono ?_
      rintro e w4 ⟨rfl, hb4⟩
      have HB4 := hid (bl_trans HB3.out hb4)
      have HR4 := hid (HR3.out.mono hb4)
      clear hcall hb4 q0 q1 ql HB3 HR3 hmul hsub
      have hcall := small_any n w4 HR4.out HV.out HN.out
      rw [small_pick HN.out] at hcall
      have hlen : (smallL wd hg want keep).length ≤ 1000000 := by
        have h1 := pickC_len (fun c => decide (0 ≤ (at_ (reachU (raft wd hg want keep).1 wd hg want keep).1 c).1)) n
        rw [small_pick HN.out] at h1
        have h2 := HV.out.cells
        rw [HN.out] at h2
        omega
      have hlen2 : (largeL wd hg want keep).length ≤ 1000000 := by
        have h1 := pickC_len (fun c => decide ((lostL (raft wd hg want keep).1 wd hg keep).getD c.toNat 0 = 0)) n
        rw [large_pick HN.out] at h1
        have h2 := HV.out.cells
        rw [HN.out] at h2
        omega
      have HL2 := hid hlen2
      clear hlen2
      go_wp2_with fail
      refine hcall.mono ?_
      rintro e w5 ⟨⟨s, rfl, hs⟩, hb5⟩
      have HB5 := hid (bl_trans HB4.out hb5)
      have HR5 := hid (HR4.out.mono hb5)
      have hcall2 := has_any (smallL wd hg want keep) s cell w5 hlen hs
      clear hcall hb5 hs hlen HB4 HR4
      cases hin : (smallL wd hg want keep).contains cell with
      | true =>
        rw [hin] at hcall2
        have hk : KV = 2 := by rw [← HVV.out]; unfold kindE; rw [if_pos hin]
        subst hk
        clear hin
        go_wp2_with fail
        refine hcall2.mono ?_
        rintro e w6 ⟨rfl, rfl⟩
        clear hcall2
        go_wp2
        go_ret2
        exact ⟨rfl, HB5.out⟩
      | false =>
        rw [hin] at hcall2
        have hkk : kindE wd hg want keep cell = if (largeL wd hg want keep).contains cell = true then 1 else 0 := by unfold kindE; rw [hin]; rfl
        have HKK := hid hkk
        clear hin hkk
        go_wp2_with fail
        refine hcall2.mono ?_
        rintro e w6 ⟨rfl, rfl⟩
        clear hcall2
        have hcall := large_any n w6 HR5.out HV.out HN.out
        rw [large_pick HN.out] at hcall
        go_wp2_with fail
        refine hcall.mono ?_
        rintro e w7 ⟨⟨s2, rfl, hs2⟩, hb7⟩
        have HB7 := hid (bl_trans HB5.out hb7)
        have hcall2 := has_any (largeL wd hg want keep) s2 cell w7 HL2.out hs2
        clear hcall hb7 hs2
        cases hin : (largeL wd hg want keep).contains cell with
        | true =>
          rw [hin] at hcall2 HKK
          have hk : KV = 1 := by rw [← HVV.out, HKK.out]; rfl
          subst hk
          clear hin
          go_wp2_with fail
          refine hcall2.mono ?_
          rintro e w8 ⟨rfl, rfl⟩
          clear hcall2
          go_wp2
          go_ret2
          exact ⟨rfl, HB7.out⟩
        | false =>
          rw [hin] at hcall2 HKK
          have hk : KV = 0 := by rw [← HVV.out, HKK.out]; rfl
          subst hk
          clear hin
          go_wp2_with fail
          refine hcall2.mono ?_
          rintro e w8 ⟨rfl, rfl⟩
          clear hcall2
          go_wp2
          go_ret2
          exact ⟨rfl, HB7.out⟩
    · have hb : (decide (0 ≤ cell) && decide (cell ≤ (n : Int) - 1)) = false := by
        cases h : (decide (0 ≤ cell) && decide (cell ≤ (n : Int) - 1)) with
        | false => rfl
        | true => simp at h; exact absurd (by omega) hc
      rw [hb] at hcall
      have he : KE = 2 := by rw [← HKE.out]; unfold kindErr; rw [HE.out, if_neg (by simp), HN.out, if_neg hc]
      have hv : KV = 0 := by rw [← HKV.out]; unfold kindV; rw [HKE.out, he, if_neg (by decide)]
      subst he hv
      clear hb hc
      go_wp2_with fail
      refine hcall.mono ?_
      rintro e w4 ⟨rfl, hb4⟩
      have HB4 := hid (bl_trans HB3.out hb4)
      clear hcall hb4 q0 q1 ql
      go_wp2
      go_ret2
      exact ⟨rfl, HB4.out⟩
  · have t0 : (E == 0) = false := beq_eq_false_iff_ne.2 h0
    have he : KE = E := by rw [← HKE.out]; unfold kindErr; rw [HE.out, if_pos h0]
    have hv : KV = 0 := by rw [← HKV.out]; unfold kindV; rw [HKE.out, he, if_neg h0]
    subst he hv
    clear h0
    go_wp2
    go_ret2
    exact ⟨rfl, HB2.out⟩
end Go.Proofs.Ytlkoadcbolkhoaa
