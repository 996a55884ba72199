/- As many ways as there can be: the walk; the fewest sticks. -/
import Derived.Test.YtlkoadcbolkhoaaOne
set_option linter.all false
namespace Go.Proofs.Ytlkoadcbolkhoaa
open Go Go.RowKit Go.Proofs
attribute [local go_sem] cell_grow frozen_grow

theorem MapOnly.bl {MB : Nat} {w0 w w' : World} (h : MapOnly MB w w') (h0 : w0.heap.size ≤ MB) (hb : Below w0.heap.size w0 w) : Below w0.heap.size w0 w' := h.below w0 h0 hb
theorem RaftAt.more {W : World} {RP MB : Nat} {wd hg : Int} {sw sk : Value} {want keep : List Int} {m : Int} {u : Used} (h : RaftAt W RP MB wd hg sw sk want keep m u) (m' : Int)
    (h1 : Ints (W.setCell ⟨RP, 5, none⟩ (.int .i64 m')) sw want) (h2 : Ints (W.setCell ⟨RP, 5, none⟩ (.int .i64 m')) sk keep) : RaftAt (W.setCell ⟨RP, 5, none⟩ (.int .i64 m')) RP MB wd hg sw sk want keep m' u := by
  refine ⟨?_, ?_, h1, h2⟩
  · rw [heap_setCell_same _ _ _ _ _ _ h.box]; rfl
  · refine h.map.keep fun o ho => past_set ?_ ho
    rintro rfl
    obtain ⟨es, clk, h3, _⟩ := h.map
    rw [h.box] at h3
    cases h3

set_option maxRecDepth 100000 in
set_option maxHeartbeats 8000000 in
theorem newRaft_any {wd hg : Int} {sw sk : Value} {want keep : List Int} (n : Nat) (w : World) (hw : Ints w sw want) (hk : Ints w sk keep) (hV : Valid wd hg want keep) (hn : wd * hg = (n : Int)) :
    Calls Try.prog 97 #[.agg #[.int .i64 wd, .int .i64 hg, sw, sk]] w fun e w' => (∃ RP MB, e = .returned (.pointer (some ⟨RP, 0, none⟩)) ∧ RaftAt w' RP MB wd hg sw sk want keep (raft wd hg want keep).2 (raft wd hg want keep).1 ∧ w.heap.size ≤ MB) ∧ Below w.heap.size w w' := by
  have hmm := @run_makeMap Try.prog
  have b0 := bl_alloc (bl_refl w) (.cells #[.int .i64 wd, .int .i64 hg, sw, sk] 24)
  have b1 := bl_alloc (bl_refl (w.alloc (.cells #[.int .i64 wd, .int .i64 hg, sw, sk] 24))) (.map #[] 0)
  have b2 := bl_alloc (bl_refl ((w.alloc (.cells #[.int .i64 wd, .int .i64 hg, sw, sk] 24)).alloc (.map #[] 0))) (.cells #[.int .i64 wd, .int .i64 hg, sw, sk, .map (some (w.heap.size + 1)), .int .i64 0] 90)
  have k1 := SpotMap.made (w.alloc (.cells #[.int .i64 wd, .int .i64 hg, sw, sk] 24))
  have k2 := World.alloc_heap_new ((w.alloc (.cells #[.int .i64 wd, .int .i64 hg, sw, sk] 24)).alloc (.map #[] 0)) (.cells #[.int .i64 wd, .int .i64 hg, sw, sk, .map (some (w.heap.size + 1)), .int .i64 0] 90)
  simp only [World.size_alloc] at k1 k2
  have HB := hid (bl_trans (bl_trans b0 b1) b2)
  have HR := hid (show RaftAt _ (w.heap.size + 1 + 1) (w.heap.size + 1) wd hg sw sk want keep (0 : Nat) _ from ⟨k2, k1.mono b2, hw.mono HB.out, hk.mono HB.out⟩)
  have HW := hid hw
  have HK := hid hk
  have hl := hV.klen
  have HF := hid (show ∃ (m f : Nat) (u : Used), RaftAt (((w.alloc (.cells #[.int .i64 wd, .int .i64 hg, sw, sk] 24)).alloc (.map #[] 0)).alloc (.cells #[.int .i64 wd, .int .i64 hg, sw, sk, .map (some (w.heap.size + 1)), .int .i64 0] 90)) (w.heap.size + 1 + 1) (w.heap.size + 1) wd hg sw sk want keep m u ∧ Flow u wd hg want keep ∧ val u wd hg want = m ∧ raftU wd hg want keep f u m = raft wd hg want keep ∧ m + f = 257 ∧ Below w.heap.size w (((w.alloc (.cells #[.int .i64 wd, .int .i64 hg, sw, sk] 24)).alloc (.map #[] 0)).alloc (.cells #[.int .i64 wd, .int .i64 hg, sw, sk, .map (some (w.heap.size + 1)), .int .i64 0] 90)) from ⟨0, 257, _, HR.out, flow_zero, val_zero, rfl, rfl, HB.out⟩)
  have HV := hid hV
  have HN := hid hn
  have HL := hid hl
  clear b0 b1 b2 k1 k2 hw hk HB HR hl hV hn
  go_enter Try.func97, Try.ntmps97
  go_wp2
  obtain ⟨w1, hw1⟩ : ∃ w1, (((w.alloc (.cells #[.int .i64 wd, .int .i64 hg, sw, sk] 24)).alloc (.map #[] 0)).alloc (.cells #[.int .i64 wd, .int .i64 hg, sw, sk, .map (some (w.heap.size + 1)), .int .i64 0] 90)) = w1 := ⟨_, rfl⟩
  rw [hw1] at HF ⊢
  clear hw1 hmm
  obtain ⟨MB, hMB⟩ : ∃ MB, w.heap.size + 1 = MB := ⟨_, rfl⟩
  have hMBw : w.heap.size ≤ MB := by omega
  rw [hMB] at HF ⊢
  obtain ⟨RP, hRP⟩ : ∃ RP, MB + 1 = RP := ⟨_, rfl⟩
  have hRPw : w.heap.size ≤ RP := by omega
  rw [hRP] at HF ⊢
  clear hMB hRP
  go_loopw [] (fun wr => ∃ (m f : Nat) (u : Used), RaftAt wr RP MB wd hg sw sk want keep m u ∧ Flow u wd hg want keep ∧ val u wd hg want = m ∧ raftU wd hg want keep f u m = raft wd hg want keep ∧ m + f = 257 ∧ Below w.heap.size w wr) (fun wr => 257 - (intOf ((wr.cell? ⟨RP, 5, none⟩).getD undef)).toNat)
  case atStart => exact HF.out
  case round =>
    clear HF
    obtain ⟨m, f, u, hr, hf, hv, hu, hm, hb⟩ := hrel
    have HR := hid hr
    have HF := hid hf
    have HVL := hid hv
    have HU := hid hu
    have HB := hid hb
    have hcall := one_any n wr hr HV.out HN.out
    have hm256 : m ≤ 256 := by
      have h1 := val_le hf.s want
      have := HL.out.1
      unfold val at hv
      omega
    clear hr hf hv hu hb
    obtain ⟨f, rfl⟩ : ∃ f', f = f' + 1 := ⟨f - 1, by omega⟩
    cases ho : oneU u wd hg want keep with
    | none =>
      rw [ho] at hcall
      have hd : raft wd hg want keep = (u, m) := by rw [← HU.out]; unfold raftU; rw [ho]
      have HD := hid hd
      clear hd ho
      go_wp2_with fail
      refine hcall.mono ?_
      rintro e w2 ⟨rfl, hr2, hm2⟩
      have HR2 := hid hr2
      have HB2 := hid (hm2.bl hMBw HB.out)
      clear hcall hr2 hm2
      go_wp2
      go_ret
      exact ⟨⟨RP, MB, rfl, by rw [HD.out]; exact HR2.out, hMBw⟩, HB2.out⟩
    | some u' =>
      rw [ho] at hcall
      have hfl := one_flow HV.out HF.out ho
      have hd : raftU wd hg want keep f u' (m + 1) = raft wd hg want keep := by
        rw [← HU.out]
        conv => rhs; unfold raftU
        rw [ho]
      have HD := hid hd
      have HFL := hid hfl
      clear hd ho hfl
      go_wp2_with fail
      refine hcall.mono ?_
      rintro e w2 ⟨rfl, hr2, hm2⟩
      have hb2 := hm2.bl hMBw HB.out
      have r5 : w2.cell? ⟨RP, 5, none⟩ = some (.int .i64 (m : Int)) := hr2.c5
      have rf : w2.frozen? ⟨RP, 5, none⟩ = false := frozen_of_heap hr2.box
      have rl := hr2.lt
      have hb3 := bl_set (o := 5) hb2 (.int .i64 ((m + 1 : Nat) : Int)) hRPw
      have HR3 := hid (hr2.more ((m + 1 : Nat) : Int) (HW.out.mono hb3) (HK.out.mono hb3))
      have HB3 := hid hb3
      have hmm : IntKind.i64.wrap ((m : Int) + 1) = ((m + 1 : Nat) : Int) := IntWalk.i64_in _ (by omega)
      clear hcall hr2 hm2 hb2 hb3
      go_wp2
      go_roundw
      case rel => exact ⟨m + 1, f, u', HR3.out, HFL.out.1, by rw [HFL.out.2, HVL.out]; omega, HD.out, by omega, HB3.out⟩
      case measure =>
        have e1 := HR.out.c5
        have e2 : (w2.setCell ⟨RP, 5, none⟩ (.int .i64 ((m : Int) + 1))).cell? ⟨RP, 5, none⟩ = some (.int .i64 ((m : Int) + 1)) := HR3.out.c5
        rw [e1, e2]
        simp only [intOf, Option.getD_some]
        omega

theorem pond_valid {wd hg : Int} {want keep : List Int} (h : pondE wd hg want keep = 0) : Valid wd hg want keep := by
  unfold pondE at h
  split at h
  · omega
  · next h1 =>
    split at h
    · omega
    · next h2 =>
      split at h
      · omega
      · next h3 =>
        have h1 : 1 ≤ wd ∧ wd ≤ 8 ∧ 1 ≤ hg ∧ hg ≤ 8 := by omega
        refine ⟨⟨⟨h1.1, h1.2.1⟩, h1.2.2⟩, ?_, ?_, fun x hx hk => h3 ?_⟩
        · cases hq : listB (wd * hg) 0 want with
          | true => rfl
          | false => exact absurd (.inl hq) h2
        · cases hq : listB (wd * hg) 0 keep with
          | true => rfl
          | false => exact absurd (.inr hq) h2
        · rw [List.any_eq_true]
          exact ⟨x, hx, by simpa using hk⟩

set_option maxRecDepth 100000 in
set_option maxHeartbeats 8000000 in
theorem open_any {wd hg : Int} {sw sk : Value} {want keep : List Int} (w : World) (hlw : want.length ≤ 1000000) (hlk : keep.length ≤ 1000000) (hw : Ints w sw want) (hk : Ints w sk keep) :
    Calls Try.prog 71 #[.agg #[.int .i64 wd, .int .i64 hg, sw, sk]] w fun e w' => ((pondE wd hg want keep = 0 ∧ ∃ RP MB, e = .returned (.tuple #[.pointer (some ⟨RP, 0, none⟩), .int .i64 0]) ∧ RaftAt w' RP MB wd hg sw sk want keep (raft wd hg want keep).2 (raft wd hg want keep).1 ∧ w.heap.size ≤ MB) ∨
      (pondE wd hg want keep ≠ 0 ∧ e = .returned (.tuple #[.pointer none, .int .i64 (pondE wd hg want keep)]))) ∧ Below w.heap.size w w' := by
  have hb0 := bl_alloc (bl_refl w) (.cells #[.int .i64 wd, .int .i64 hg, sw, sk] 24)
  have k0 := World.alloc_heap_new w (.cells #[.int .i64 wd, .int .i64 hg, sw, sk] 24)
  have HB0 := hid hb0
  have HK0 := hid k0
  have hcall := pond_any wd hg want keep sw sk (w.alloc (.cells #[.int .i64 wd, .int .i64 hg, sw, sk] 24)) hlw hlk (hw.mono hb0) (hk.mono hb0)
  have HW := hid (hw.mono hb0)
  have HK := hid (hk.mono hb0)
  clear hw hk hb0 k0
  obtain ⟨E, hE⟩ : ∃ E, pondE wd hg want keep = E := ⟨_, rfl⟩
  have HE := hid hE
  rw [hE] at hcall ⊢
  clear hE
  go_enter Try.func71, Try.ntmps71
  go_upto_region 1 with (fail)
  obtain ⟨w1, hw1⟩ : ∃ w1, w.alloc (.cells #[.int .i64 wd, .int .i64 hg, sw, sk] 24) = w1 := ⟨_, rfl⟩
  obtain ⟨X, hX⟩ : ∃ X, w.heap.size = X := ⟨_, rfl⟩
  rw [hX] at HK0 ⊢
  rw [hw1] at HB0 HK0 HW HK hcall ⊢
  clear hw1
  have q0 : w1.cell? ⟨X, 0, none⟩ = some (.int .i64 wd) := cell_of_heap HK0.out
  have q1 : w1.cell? ⟨X, 1, none⟩ = some (.int .i64 hg) := cell_of_heap HK0.out
  have q2 : w1.cell? ⟨X, 2, none⟩ = some sw := cell_of_heap HK0.out
  have q3 : w1.cell? ⟨X, 3, none⟩ = some sk := cell_of_heap HK0.out
  have ql := (Array.getElem?_eq_some_iff.1 HK0.out).1
  go_wp2_with fail
  refine hcall.mono ?_
  rintro e w2 ⟨rfl, hb2⟩
  have HB2 := hid (bl_trans HB0.out hb2)
  have HW2 := hid (HW.out.mono hb2)
  have HK2 := hid (HK.out.mono hb2)
  have k2 := heap_mono HK0.out hb2
  clear q0 q1 q2 q3 ql hcall HW HK HB0 HK0 hb2
  by_cases h0 : E = 0
  · subst h0
    have hV := pond_valid HE.out
    have hn0 := hV.cells
    obtain ⟨n, hn⟩ : ∃ n : Nat, wd * hg = (n : Int) := ⟨(wd * hg).toNat, by omega⟩
    have hcall := newRaft_any n w2 HW2.out HK2.out hV hn
    have q0 : w2.cell? ⟨X, 0, none⟩ = some (.int .i64 wd) := cell_of_heap k2
    have q1 : w2.cell? ⟨X, 1, none⟩ = some (.int .i64 hg) := cell_of_heap k2
    have q2 : w2.cell? ⟨X, 2, none⟩ = some sw := cell_of_heap k2
    have q3 : w2.cell? ⟨X, 3, none⟩ = some sk := cell_of_heap k2
    have ql := (Array.getElem?_eq_some_iff.1 k2).1
    clear k2 hV hn0 hn
    go_wp2_with fail
    refine hcall.mono ?_
    rintro e w3 ⟨⟨RP, MB, rfl, hr, hmb⟩, hb3⟩
    have HMB := hid (show w.heap.size ≤ MB from Nat.le_trans HB2.out.size hmb)
    clear hmb
    have HR := hid hr
    have HB3 := hid (bl_trans HB2.out hb3)
    clear hcall hr hb3
    go_wp2
    go_ret2
    exact ⟨⟨RP, rfl, MB, HR.out, by rw [← hX]; exact HMB.out⟩, by rw [← hX]; exact HB3.out⟩
  · have HN := hid h0
    have t0 : (E == 0) = false := beq_eq_false_iff_ne.2 h0
    clear h0 k2
    go_wp2
    go_ret2
    exact ⟨.inr ⟨HN.out, rfl⟩, HB2.out⟩

def fewestV (wd hg : Int) (want keep : List Int) : Int := if pondE wd hg want keep = 0 then (raft wd hg want keep).2 else 0
set_option maxRecDepth 100000 in
set_option maxHeartbeats 8000000 in
theorem fewest_any {wd hg : Int} {sw sk : Value} {want keep : List Int} (w : World) (hlw : want.length ≤ 1000000) (hlk : keep.length ≤ 1000000) (hw : Ints w sw want) (hk : Ints w sk keep) :
    Calls Try.prog 24 #[.agg #[.int .i64 wd, .int .i64 hg, sw, sk]] w fun e w' => e = .returned (.tuple #[.int .i64 (fewestV wd hg want keep), .int .i64 (pondE wd hg want keep)]) ∧ Below w.heap.size w w' := by
  have hb0 := bl_alloc (bl_refl w) (.cells #[.int .i64 wd, .int .i64 hg, sw, sk] 24)
  have k0 := World.alloc_heap_new w (.cells #[.int .i64 wd, .int .i64 hg, sw, sk] 24)
  have HB0 := hid hb0
  have HK0 := hid k0
  have hcall := open_any (wd := wd) (hg := hg) (w.alloc (.cells #[.int .i64 wd, .int .i64 hg, sw, sk] 24)) hlw hlk (hw.mono hb0) (hk.mono hb0)
  clear hw hk hb0 k0
  obtain ⟨FV, hFV⟩ : ∃ FV, fewestV wd hg want keep = FV := ⟨_, rfl⟩
  have HFV := hid hFV
  rw [hFV]
  clear hFV
  obtain ⟨E, hE⟩ : ∃ E, pondE wd hg want keep = E := ⟨_, rfl⟩
  have HE := hid hE
  rw [hE] at hcall ⊢
  clear hE
  go_enter Try.func24, Try.ntmps24
  go_upto_region 1 with (fail)
  obtain ⟨w1, hw1⟩ : ∃ w1, w.alloc (.cells #[.int .i64 wd, .int .i64 hg, sw, sk] 24) = w1 := ⟨_, rfl⟩
  obtain ⟨X, hX⟩ : ∃ X, w.heap.size = X := ⟨_, rfl⟩
  rw [hX] at HK0 ⊢
  rw [hw1] at HB0 HK0 hcall ⊢
  clear hw1
  have q0 : w1.cell? ⟨X, 0, none⟩ = some (.int .i64 wd) := cell_of_heap HK0.out
  have q1 : w1.cell? ⟨X, 1, none⟩ = some (.int .i64 hg) := cell_of_heap HK0.out
  have q2 : w1.cell? ⟨X, 2, none⟩ = some sw := cell_of_heap HK0.out
  have q3 : w1.cell? ⟨X, 3, none⟩ = some sk := cell_of_heap HK0.out
  have ql := (Array.getElem?_eq_some_iff.1 HK0.out).1
  go_wp2_with fail
  refine hcall.mono ?_
  rintro e w2 ⟨hcase, hb2⟩
  have HB2 := hid (bl_trans HB0.out hb2)
  clear q0 q1 q2 q3 ql hcall HB0 HK0 hb2
  rcases hcase with ⟨rfl, RP, MB, rfl, hr, _⟩ | ⟨h0, rfl⟩
  · have r5 := hr.c5
    have rl := hr.lt
    have hf : ((raft wd hg want keep).2 : Int) = FV := by rw [← HFV.out]; unfold fewestV; rw [if_pos HE.out]
    rw [hf] at r5
    clear hr hf
    go_wp2
    go_ret2
    exact ⟨rfl, HB2.out⟩
  · have t0 : (E == 0) = false := beq_eq_false_iff_ne.2 h0
    have hf : FV = 0 := by rw [← HFV.out]; unfold fewestV; rw [if_neg (by rw [HE.out]; exact h0)]
    subst hf
    clear h0
    go_wp2
    go_ret2
    exact ⟨rfl, HB2.out⟩
end Go.Proofs.Ytlkoadcbolkhoaa
