/- As many ways as there can be, one after another: the walk. -/
import Derived.Test.YtlkoadcbolkhoaaTake
set_option linter.all false
namespace Go.Proofs.Ytlkoadcbolkhoaa
open Go Go.RowKit Go.Proofs
attribute [local go_sem] Oper.semAt_some cell_grow frozen_grow

theorem info81 : (Try.prog.info? 81).map (fun i => (i.zero, i.size, i.bytes)) = some (some (.agg #[.slice none 0 0, .int .i64 0]), 2, 32) := by kernel_rfl
/-- The slice value v holds the ways l, in a row of the call's own. -/
def WaysV (W : World) (v : Value) (l : List Way) : Prop :=
  (v = .slice none 0 0 ∧ l = []) ∨ ∃ (g cap : Nat) (vs : List Value), v = .slice (some ⟨g, 0, none⟩) l.length cap ∧ (0 < l.length ∧ l.length ≤ cap) ∧ g < W.heap.size ∧ vs.length = l.length * 2 ∧ (∀ (j : Nat) (u : Value), vs[j]? = some u → W.cell? ⟨g, j, none⟩ = some u) ∧ ∀ (i : Nat) (x : Way), l[i]? = some x → ∃ s, vs[i * 2]? = some s ∧ vs[i * 2 + 1]? = some (.int .i64 x.out) ∧ Ints W s x.cells
theorem WaysV.mono {W W' : World} {v : Value} {l : List Way} (h : WaysV W v l) (hb : Below W.heap.size W W') : WaysV W' v l := by
  rcases h with h | ⟨g, cap, vs, h1, h2, h3, h4, h5, h6⟩
  · exact .inl h
  · refine .inr ⟨g, cap, vs, h1, h2, Nat.lt_of_lt_of_le h3 hb.size, h4, fun j u hu => cell_mono (h5 j u hu) hb, fun i x hx => ?_⟩
    obtain ⟨s, a, b, c⟩ := h6 i x hx
    exact ⟨s, a, b, c.mono hb⟩
theorem WaysV.turn {W W' : World} {MB : Nat} {v : Value} {l : List Way} {f : Used} (h : WaysV W v l) (hm : MapOnly MB W W') (hf : SpotMap W MB f) : WaysV W' v l := by
  rcases h with h | ⟨g, cap, vs, h1, h2, h3, h4, h5, h6⟩
  · exact .inl h
  · refine .inr ⟨g, cap, vs, h1, h2, Nat.lt_of_lt_of_le h3 hm.size, h4, fun j u hu => hm.cell hf (h5 j u hu), fun i x hx => ?_⟩
    obtain ⟨s, a, b, c⟩ := h6 i x hx
    exact ⟨s, a, b, hm.ints hf c⟩
theorem WaysV.ways {W : World} {v : Value} {l : List Way} (h : WaysV W v l) : WaysI W v l := by
  rcases h with h | ⟨g, cap, vs, h1, h2, h3, h4, h5, h6⟩
  · exact .inl h
  · refine .inr ⟨g, 0, cap, h1, h2.2, h3, fun i x hx => ?_⟩
    obtain ⟨s, a, b, c⟩ := h6 i x hx
    refine ⟨s, ?_, c, ?_⟩
    · rw [Nat.zero_add]; exact h5 _ _ a
    · rw [Nat.zero_add]; exact h5 _ _ b
theorem WaysV.slice {W : World} {v : Value} {l : List Way} (h : WaysV W v l) : ∃ A c, v = .slice A l.length c := h.ways.slice
/-- One more appended, without room: a new row. -/
theorem WaysV.more {W : World} {l : List Way} {x : Way} {A : Option Addr} {c : Nat} {s : Value} {X : Nat} (h : WaysV W (.slice A l.length c) l) (hl : l.length ≤ 1000) (hi : Ints W s x.cells)
    (hX : W.heap[X]? = some (.cells #[s, .int .i64 x.out] 81 (0, 0))) : ∃ v' W', (Builtin.append_ #[38, 38] 38 #[.slice A l.length l.length, .slice (some ⟨X, 0, none⟩) 1 1]).run Try.prog W = .ok v' W' ∧ WaysV W' v' (l ++ [x]) ∧ Below W.heap.size W W' := by
  obtain ⟨i81, hii, hz0, hz1, hz2⟩ := info_parts info81
  have hnews : ∀ j u, [s, Value.int .i64 x.out][j]? = some u → W.cell? ((⟨X, 0, none⟩ : Addr).add j) = some u := fun j u hj => by
    rw [Addr.add_lit, Nat.zero_add, cell_of_heap hX]
    simpa using hj
  rcases h with ⟨h, rfl⟩ | ⟨g, cap, vs, h1, h2, h3, h4, h5, h6⟩
  · injection h with e1 e2 e3
    subst e1
    have hr := run_append_nil (P := Try.prog) W 38 38 81 i81 (.agg #[.slice none 0 0, .int .i64 0]) Try.underlying38 hii hz0 ⟨X, 0, none⟩ 1 1 [s, .int .i64 x.out] (by rw [hz1]; rfl) hnews (by omega) (by omega) (by rw [hz2]; omega)
    refine ⟨_, _, hr, .inr ⟨W.heap.size, _, [s, .int .i64 x.out], rfl, ?_, by simp, rfl, fun j u hu => ?_, fun i y hy => ?_⟩, bl_alloc (bl_drew (bl_refl _)) _⟩
    · exact ⟨by simp, grownCap_ge W 1 0 81⟩
    · have hj : j < 2 := (List.getElem?_eq_some_iff.1 hu).1
      refine Eq.trans (World.cell?_alloc_new W.drew _ 81 j) ?_
      rw [Array.getElem?_append_left (by simpa using hj)]
      simpa using hu
    · have hi0 : i = 0 := by have := (List.getElem?_eq_some_iff.1 hy).1; simp at this; omega
      subst hi0
      simp at hy; subst hy
      exact ⟨s, rfl, rfl, hi.mono (bl_alloc (bl_drew (bl_refl _)) _)⟩
  · injection h1 with e1 e2 e3
    subst e1
    have hr := run_append_grow (P := Try.prog) W 38 38 81 i81 (.agg #[.slice none 0 0, .int .i64 0]) Try.underlying38 hii hz0 ⟨g, 0, none⟩ l.length l.length vs (by rw [hz1]; exact h4) (fun j u hu => by rw [Addr.add_lit, Nat.zero_add]; exact h5 j u hu) ⟨X, 0, none⟩ 1 1 [s, .int .i64 x.out] (by rw [hz1]; rfl) hnews (by omega) (by omega) (by rw [hz2]; have := nextslicecap_le (need := l.length + 1) (old := l.length) (by omega); omega)
    refine ⟨_, _, hr, .inr ⟨W.heap.size, _, vs ++ [s, .int .i64 x.out], by rw [List.length_append]; rfl, ?_, by simp, by simp [h4]; omega, fun j u hu => ?_, fun i y hy => ?_⟩, bl_alloc (bl_drew (bl_refl _)) _⟩
    · rw [List.length_append]; exact ⟨by simp, grownCap_ge W (l.length + 1) l.length 81⟩
    · have hj : j < (vs ++ [s, Value.int .i64 x.out]).length := (List.getElem?_eq_some_iff.1 hu).1
      refine Eq.trans (World.cell?_alloc_new W.drew _ 81 j) ?_
      rw [Array.getElem?_append_left (by simpa using hj)]
      simpa using hu
    · by_cases hil : i < l.length
      · rw [List.getElem?_append_left hil] at hy
        obtain ⟨s', a, b, c'⟩ := h6 i y hy
        exact ⟨s', by rw [List.getElem?_append_left (by omega)]; exact a, by rw [List.getElem?_append_left (by omega)]; exact b, c'.mono (bl_alloc (bl_drew (bl_refl _)) _)⟩
      · have hi0 : i = l.length := by have := (List.getElem?_eq_some_iff.1 hy).1; simp at this; omega
        subst hi0
        rw [List.getElem?_append_right (Nat.le_refl _)] at hy
        simp at hy; subst hy
        exact ⟨s, by rw [List.getElem?_append_right (by omega), h4]; simp, by rw [List.getElem?_append_right (by omega), h4]; simp, hi.mono (bl_alloc (bl_drew (bl_refl _)) _)⟩
/-- A way in a row of one. -/
def RowW (base : Nat) (W : World) (v : Value) (s : Value) (out : Int) : Prop := ∃ g, v = .slice (some ⟨g, 0, none⟩) 1 1 ∧ base ≤ g ∧ W.heap[g]? = some (.cells #[s, .int .i64 out] 81 (0, 0))
theorem RowW.mono {base : Nat} {W W' : World} {v s : Value} {out : Int} (h : RowW base W v s out) (hb : Below W.heap.size W W') : RowW base W' v s out := by
  obtain ⟨g, h1, h2, h3⟩ := h
  exact ⟨g, h1, h2, heap_mono h3 hb⟩
theorem takeU_bit {wd hg : Int} {keep : List Int} : ∀ {f : Nat} {u : Used} {c : Int} {l : List Int}, Bit u → Bit (takeU wd hg keep f u c l).1
  | 0, _, _, _, h => h
  | f + 1, u, c, l, h => by
    unfold takeU
    split
    · exact h
    · split
      · exact h.put _
      · exact takeU_bit (h.put _)
theorem takeC_bit {wd hg : Int} {keep : List Int} {u : Used} {c : Int} (h : Bit u) : Bit (takeC wd hg keep u c).1 := takeU_bit h

set_option maxRecDepth 100000 in
set_option maxHeartbeats 8000000 in
theorem ways_any {RP MB : Nat} {wd hg : Int} {sw sk : Value} {want keep : List Int} {M : Nat} {u0 : Used} (n : Nat) (w : World) (hR : RaftAt w RP MB wd hg sw sk want keep (M : Int) u0) (hV : Valid wd hg want keep) (hn : wd * hg = (n : Int)) (hbit : Bit u0) (hM : M ≤ 256) :
    Calls Try.prog 84 #[.pointer (some ⟨RP, 0, none⟩)] w fun e w' => (∃ v, e = .returned v ∧ WaysI w' v (waysU wd hg want keep M u0 []).2) ∧ MapOnly MB w w' := by
  have hwl := hV.klen.1
  obtain ⟨WA, wc, hsw⟩ := hR.want.slice
  subst hsw
  have HR := hid hR
  have HV := hid hV
  have HN := hid hn
  have HBIT := hid hbit
  obtain ⟨LF, hLF⟩ : ∃ LF, (waysU wd hg want keep M u0 []).2 = LF := ⟨_, rfl⟩
  have HLF := hid hLF
  rw [hLF]
  have r5 := hR.c5
  have rl := hR.lt
  have HIN := hid (show ∀ c ∈ want, inP wd hg c from hV.in_)
  clear hR hV hn hbit hLF
  go_enter Try.func84, Try.ntmps84
  go_wp2
  clear r5 rl
  go_loopw [3, 12] (fun o p wr => ∃ (k : Nat) (us : Used) (l : List Way), k ≤ M ∧ p = .int .i64 (k : Int) ∧ RaftAt wr RP MB wd hg (.slice WA want.length wc) sk want keep (M : Int) us ∧ Bit us ∧ WaysV wr o l ∧ l.length ≤ k ∧ (waysU wd hg want keep (M - k) us l).2 = LF ∧ MapOnly MB w wr) (fun _ p _ => M - (intOf p).toNat)
  case atStart => exact ⟨0, u0, [], Nat.zero_le _, rfl, HR.out, HBIT.out, .inl ⟨rfl, rfl⟩, Nat.le_refl _, HLF.out, MapOnly.refl _ _⟩
  case round =>
  obtain ⟨k, us, l, hk, rfl, hr, hb, hwv, hlk, hwu, hmo⟩ := hrel
  obtain ⟨A, c, hAc⟩ := hwv.slice
  have HRr := hid hr
  have HB := hid hb
  have HWV := hid hwv
  have HWU := hid hwu
  have HMO := hid hmo
  subst hAc
  by_cases hlt : k < M
  · have r2 := hr.c2
    have rl := hr.lt
    have hkI : (k : Int) < (M : Int) := by omega
    clear hr hb hwv hwu hmo
    go_wp2
    clear r2 rl
    obtain ⟨FR, hFR⟩ : ∃ FR, firstW wd hg keep want us = FR := ⟨_, rfl⟩
    have HFR := hid hFR
    have HFR0 := hid hFR
    clear hFR
    go_loopw [3, 20] (fun o p wr => ∃ (j : Nat) (u1 : Used), j ≤ want.length ∧ p = .int .i64 (j : Int) ∧ o = .slice A l.length c ∧ RaftAt wr RP MB wd hg (.slice WA want.length wc) sk want keep (M : Int) u1 ∧ Bit u1 ∧ WaysV wr (.slice A l.length c) l ∧ firstW wd hg keep (want.drop j) u1 = FR ∧ MapOnly MB w wr) (fun _ p _ => want.length - (intOf p).toNat)
    case atStart => exact ⟨0, us, Nat.zero_le _, rfl, rfl, HRr.out, HB.out, HWV.out, HFR.out, HMO.out⟩
    case round =>
    clear HRr HB HWV HMO HFR
    obtain ⟨j, u1, hj, rfl, rfl, hr, hb, hwv, hfr, hmo⟩ := hrel
    have HRr := hid hr
    have HB := hid hb
    have HWV := hid hwv
    have HMO := hid hmo
    have HFR := hid hfr
    by_cases hlt2 : j < want.length
    · obtain ⟨q, hq⟩ := get_at hlt2
      have hqi := HIN.out q (List.mem_of_getElem? hq)
      have hdr : want.drop j = q :: want.drop (j + 1) := List.drop_eq_getElem_cons hlt2 ▸ by rw [(List.getElem?_eq_some_iff.1 hq).2]
      rw [hdr] at hfr
      have HF2 := hid hfr
      have hcall := take_any n q wr hr HV.out HN.out hb hqi
      have hbt := takeC_bit (wd := wd) (hg := hg) (keep := keep) (c := q) hb
      obtain ⟨TU, TW, TO, hT⟩ : ∃ TU TW TO, takeC wd hg keep u1 q = (TU, TW, TO) := ⟨_, _, _, rfl⟩
      rw [hT] at hcall hbt
      simp only at hcall hbt
      have HTT := hid hT
      have HBT := hid hbt
      obtain ⟨wb, wo, hA, hcc, hwb, hcell⟩ : ∃ b off, WA = some ⟨b, off, none⟩ ∧ want.length ≤ wc ∧ b < wr.heap.size ∧ wr.cell? ⟨b, off + j, none⟩ = some (.int .i64 q) := by
        rcases hr.want with ⟨hv, h0⟩ | ⟨b, off, cc, hv, h4, h5, h6⟩
        · rw [h0] at hlt2; simp at hlt2
        · injection hv with hv1 hv2 hv3
          subst hv3
          exact ⟨b, off, hv1, h4, h5, h6 j q hq⟩
      subst hA
      clear hr hb hwv hfr hmo hq hdr hT hbt hqi
      go_wp2_with fail
      refine hcall.mono ?_
      rintro e w4 ⟨⟨s, rfl, hsi⟩, hr4, hmo4⟩
      obtain ⟨SA, sc, rfl⟩ := hsi.slice
      have bX := bl_alloc (bl_refl w4) (.cells #[.slice SA TW.cells.length sc, .int .i64 TW.out] 81)
      have HX := hid (World.alloc_heap_new w4 (.cells #[.slice SA TW.cells.length sc, .int .i64 TW.out] 81))
      have HSI := hid (hsi.mono bX)
      have HR5 := hid (hr4.mono bX)
      have HMO5 := hid ((HMO.out.trans hmo4).trans (.of bX))
      have HWV5 := hid ((HWV.out.turn hmo4 HRr.out.map).mono bX)
      clear hcall hsi hr4 hmo4 bX hcell HRr HMO HWV
      cases TO with
      | false =>
        have hf2 : firstW wd hg keep (want.drop (j + 1)) TU = FR := by rw [← HF2.out]; conv => rhs; unfold firstW; rw [HTT.out]
        have HF3 := hid hf2
        clear hf2
        go_wp2
        go_roundw
        case rel => exact ⟨j + 1, TU, by omega, by go_num, rfl, HR5.out, HBT.out, HWV5.out, HF3.out, HMO5.out⟩
        case measure => simp [intOf]; omega
      | true =>
        have hf2 : FR = (TU, some TW) := by rw [← HF2.out]; unfold firstW; rw [HTT.out]
        have HF3 := hid hf2
        clear hf2
        go_upto_region 9 with (fail)
        obtain ⟨XB, hXB⟩ : ∃ XB, w4.heap.size = XB := ⟨_, rfl⟩
        obtain ⟨w5, hw5⟩ : ∃ w5, w4.alloc (.cells #[.slice SA TW.cells.length sc, .int .i64 TW.out] 81) = w5 := ⟨_, rfl⟩
        rw [hXB] at HX ⊢
        rw [hw5] at HX HSI HR5 HMO5 HWV5 ⊢
        clear hw5 hXB
        have HLK := hid hlk
        have hcase : (A = none ∧ l = [] ∧ c = 0) ∨ ∃ g, A = some ⟨g, 0, none⟩ ∧ 0 < l.length ∧ l.length ≤ c := by
          rcases HWV5.out with ⟨h1, h2⟩ | ⟨g, cap, vs, h1, h2, _⟩
          · injection h1 with e1 e2 e3; exact .inl ⟨e1, h2, e3⟩
          · injection h1 with e1 e2 e3; subst e3; exact .inr ⟨g, e1, h2⟩
        rcases hcase with ⟨rfl, rfl, rfl⟩ | ⟨g, rfl, hl0, hlc⟩
        · skip
          refine wp_region_valsG w5 (bl_refl _) [31, 32, 33, 34, 35, 36, 37, 38, 39, 3] (fun seen u W => (seen 0 = true → u 31 = .slice (none) (0) (0)) ∧
            (seen 1 = true → u 32 = .slice (none) (0) (0)) ∧
            (seen 2 = true → u 33 = .int .i64 (((0 : Nat) : Int))) ∧
            (seen 3 = true → u 34 = .slice (none) (0) (0)) ∧
            (seen 4 = true → u 35 = .int .i64 (((0 : Nat) : Int))) ∧
            (seen 5 = true → u 36 = .slice (none) (0) (0)) ∧
            (seen 6 = true → u 37 = .agg #[.slice SA TW.cells.length sc, .int .i64 TW.out]) ∧
            (seen 7 = true → RowW w5.heap.size W (u 38) (.slice SA TW.cells.length sc) TW.out) ∧
            (seen 8 = true → WaysV W (u 39) (([] : List Way) ++ [TW])) ∧
            (seen 9 = true → WaysV W (u 3) (([] : List Way) ++ [TW])) ∧
            (seen 9 = false → u 3 = .slice (none) (0) (0)) ∧
            (seen 9 = true → seen 0 = true) ∧
            (seen 9 = true → seen 1 = true) ∧
            (seen 9 = true → seen 3 = true))
            (by kernel_rfl) (by kernel_rfl) (by kernel_rfl) (by simp) (by simp [valsOf]) ?_ ?_
          · intro i o ho seen a' w9 hb9 ⟨F0, F1, F2, F3, F4, F5, F6, F7, F8, F9, F10, F11, F12, F13⟩ hv hsi hdep
            have z0 : w9.cell? ⟨XB, 0, none⟩ = some (.slice SA TW.cells.length sc) := cell_of_heap (heap_mono HX.out hb9)
            have z1 : w9.cell? ⟨XB, 1, none⟩ = some (.int .i64 TW.out) := cell_of_heap (heap_mono HX.out hb9)
            have zl := (Array.getElem?_eq_some_iff.1 (heap_mono HX.out hb9)).1
            rcases i with _ | _ | _ | _ | _ | _ | _ | _ | _ | _ | i <;> simp only [List.getElem?_cons_zero, List.getElem?_cons_succ, List.getElem?_nil, Option.some.injEq, reduceCtorEq] at ho <;> subst ho
            · refine if_free rfl ?_
              have hs9 : seen 9 = false := by { cases hq : seen 9 with | false => rfl | true => exact absurd (F11 hq) (by rw [hsi]; decide) }
              have x3 := val_at (F10 hs9)
              refine wp_value (.slice (none) (0) (0)) (w' := w9) (by simp [execOp, x3, go_sem, z0, z1, zl]) ⟨_, rfl, hb9, ?_⟩
              exact ⟨by simp, by simpa using F1, by simpa using F2, by simpa using F3, by simpa using F4, by simpa using F5, by simpa using F6, by simpa using F7, by simpa using F8, by simpa using F9, by simpa using F10, by simp, by simpa using F12, by simpa using F13⟩
            · refine if_free rfl ?_
              have hs9 : seen 9 = false := by { cases hq : seen 9 with | false => rfl | true => exact absurd (F12 hq) (by rw [hsi]; decide) }
              have x3 := val_at (F10 hs9)
              refine wp_value (.slice (none) (0) (0)) (w' := w9) (by simp [execOp, x3, go_sem, z0, z1, zl]) ⟨_, rfl, hb9, ?_⟩
              exact ⟨by simpa using F0, by simp, by simpa using F2, by simpa using F3, by simpa using F4, by simpa using F5, by simpa using F6, by simpa using F7, by simpa using F8, by simpa using F9, by simpa using F10, by simpa using F11, by simp, by simpa using F13⟩
            · refine if_free rfl ?_
              have d1 := hdep ⟨1, .data⟩ (by simp) rfl
              have e1 := val_at (F1 d1)
              refine wp_value (.int .i64 (((0 : Nat) : Int))) (w' := w9) (by simp [execOp, e1, go_sem, z0, z1, zl]) ⟨_, rfl, hb9, ?_⟩
              exact ⟨by simpa using F0, by simpa using F1, by simp, by simpa using F3, by simpa using F4, by simpa using F5, by simpa using F6, by simpa using F7, by simpa using F8, by simpa using F9, by simpa using F10, by simpa using F11, by simpa using F12, by simpa using F13⟩
            · refine if_free rfl ?_
              have hs9 : seen 9 = false := by { cases hq : seen 9 with | false => rfl | true => exact absurd (F13 hq) (by rw [hsi]; decide) }
              have x3 := val_at (F10 hs9)
              refine wp_value (.slice (none) (0) (0)) (w' := w9) (by simp [execOp, x3, go_sem, z0, z1, zl]) ⟨_, rfl, hb9, ?_⟩
              exact ⟨by simpa using F0, by simpa using F1, by simpa using F2, by simp, by simpa using F4, by simpa using F5, by simpa using F6, by simpa using F7, by simpa using F8, by simpa using F9, by simpa using F10, by simpa using F11, by simpa using F12, by simp⟩
            · refine if_free rfl ?_
              have d3 := hdep ⟨3, .data⟩ (by simp) rfl
              have e3 := val_at (F3 d3)
              refine wp_value (.int .i64 (((0 : Nat) : Int))) (w' := w9) (by simp [execOp, e3, go_sem, z0, z1, zl]) ⟨_, rfl, hb9, ?_⟩
              exact ⟨by simpa using F0, by simpa using F1, by simpa using F2, by simpa using F3, by simp, by simpa using F5, by simpa using F6, by simpa using F7, by simpa using F8, by simpa using F9, by simpa using F10, by simpa using F11, by simpa using F12, by simpa using F13⟩
            · refine if_free rfl ?_
              have d0 := hdep ⟨0, .data⟩ (by simp) rfl
              have e0 := val_at (F0 d0)
              have d2 := hdep ⟨2, .data⟩ (by simp) rfl
              have e2 := val_at (F2 d2)
              have d4 := hdep ⟨4, .data⟩ (by simp) rfl
              have e4 := val_at (F4 d4)
              refine wp_value (.slice (none) (0) (0)) (w' := w9) (by simp [execOp, e0, e2, e4, go_sem, z0, z1, zl]) ⟨_, rfl, hb9, ?_⟩
              exact ⟨by simpa using F0, by simpa using F1, by simpa using F2, by simpa using F3, by simpa using F4, by simp, by simpa using F6, by simpa using F7, by simpa using F8, by simpa using F9, by simpa using F10, by simpa using F11, by simpa using F12, by simpa using F13⟩
            · refine if_free rfl ?_
              have x6 := val_at (hv 6 (by simp))
              simp [valsOf] at x6
              refine wp_value (.agg #[.slice SA TW.cells.length sc, .int .i64 TW.out]) (w' := w9) (by simp [execOp, x6, go_sem, z0, z1, zl]) ⟨_, rfl, hb9, ?_⟩
              exact ⟨by simpa using F0, by simpa using F1, by simpa using F2, by simpa using F3, by simpa using F4, by simpa using F5, by simp, by simpa using F7, by simpa using F8, by simpa using F9, by simpa using F10, by simpa using F11, by simpa using F12, by simpa using F13⟩
            · refine if_free rfl ?_
              have d6 := hdep ⟨6, .data⟩ (by simp) rfl
              have e6 := val_at (F6 d6)
              have hg : Below w9.heap.size w9 (w9.alloc (.cells #[.slice SA TW.cells.length sc, .int .i64 TW.out] 81)) := bl_alloc (bl_refl _) _
              have hn : RowW w5.heap.size (w9.alloc (.cells #[.slice SA TW.cells.length sc, .int .i64 TW.out] 81)) (.slice (some ⟨w9.heap.size, 0, none⟩) 1 1) (.slice SA TW.cells.length sc) TW.out := ⟨_, rfl, hb9.size, World.alloc_heap_new w9 _⟩
              refine wp_value (.slice (some ⟨w9.heap.size, 0, none⟩) 1 1) (w' := w9.alloc (.cells #[.slice SA TW.cells.length sc, .int .i64 TW.out] 81)) (by simp [execOp, e6, go_sem]) ⟨_, rfl, bl_trans hb9 hg, ?_⟩
              exact ⟨by simpa using F0, by simpa using F1, by simpa using F2, by simpa using F3, by simpa using F4, by simpa using F5, by simpa using F6, by simpa using hn, by simpa using fun h => (F8 h).mono hg, by simpa using fun h => (F9 h).mono hg, by simpa using F10, by simpa using F11, by simpa using F12, by simpa using F13⟩
            · refine if_free rfl ?_
              have d5 := hdep ⟨5, .data⟩ (by simp) rfl
              have e5 := val_at (F5 d5)
              have d7 := hdep ⟨7, .data⟩ (by simp) rfl
              obtain ⟨g8, hg8, _, hr8⟩ := F7 d7
              have e38 := val_at hg8
              obtain ⟨v', w', hrun, hwv', hg⟩ := WaysV.more (x := TW) (HWV5.out.mono hb9) (by first | (have := HLK.out; omega) | simp) (HSI.out.mono hb9) hr8
              refine wp_append_run _ _ 38 rfl _ _ v' w' (by simp [go_sem, e5]) (by simp [go_sem, e38]) hrun ⟨_, rfl, bl_trans hb9 hg, ?_⟩
              exact ⟨by simpa using F0, by simpa using F1, by simpa using F2, by simpa using F3, by simpa using F4, by simpa using F5, by simpa using F6, by simpa using fun h => (F7 h).mono hg, by simpa using hwv', by simpa using fun h => (F9 h).mono hg, by simpa using F10, by simpa using F11, by simpa using F12, by simpa using F13⟩
            · refine if_free rfl ?_
              have d8 := hdep ⟨8, .data⟩ (by simp) rfl
              refine wp_value (valsOf a' 39) (w' := w9) (by simp [execOp, go_sem, valsOf]) ⟨_, rfl, hb9, ?_⟩
              exact ⟨by simpa using F0, by simpa using F1, by simpa using F2, by simpa using F3, by simpa using F4, by simpa using F5, by simpa using F6, by simpa using F7, by simpa using F8, by simpa using F8 d8, by simp, by simpa using hdep ⟨0, .phase⟩ (by simp) rfl, by simpa using hdep ⟨1, .phase⟩ (by simp) rfl, by simpa using hdep ⟨3, .phase⟩ (by simp) rfl⟩
          intro u w5 hb5 seen hall ⟨F0, F1, F2, F3, F4, F5, F6, F7, F8, F9, F10, F11, F12, F13⟩
          replace F0 := F0 (hall 0 (by decide))
          replace F1 := F1 (hall 1 (by decide))
          replace F2 := F2 (hall 2 (by decide))
          replace F3 := F3 (hall 3 (by decide))
          replace F4 := F4 (hall 4 (by decide))
          replace F5 := F5 (hall 5 (by decide))
          replace F6 := F6 (hall 6 (by decide))
          replace F7 := F7 (hall 7 (by decide))
          replace F8 := F8 (hall 8 (by decide))
          replace F9 := F9 (hall 9 (by decide))
          simp only [setAll, List.setIfInBounds_toArray, List.set_cons_zero, List.set_cons_succ]
          have HW9 := hid F9
          have HR9 := hid (HR5.out.mono hb5)
          have HMO9 := hid (HMO5.out.trans (.of hb5))
          have HW3 := hid (show (waysU wd hg want keep (M - (k + 1)) TU (([] : List Way) ++ [TW])).2 = LF by
            rw [← HWU.out, show M - k = (M - (k + 1)) + 1 by omega]
            conv => rhs; unfold waysU
            rw [HFR0.out, HF3.out])
          clear F0 F1 F2 F3 F4 F5 F6 F7 F8 F9 F10 F11 F12 F13 hall seen hb5
          go_wp2
          go_roundw
          case rel => exact ⟨k + 1, TU, _, by omega, by go_num, HR9.out, HBT.out, HW9.out, by rw [List.length_append]; first | (simp; done) | (simp; omega), HW3.out, HMO9.out⟩
          case measure => simp [intOf]; omega
        · have hlcI : (l.length : Int) ≤ (c : Int) := by omega
          have hlne : ¬ l.length = 0 := by omega
          refine wp_region_valsG w5 (bl_refl _) [31, 32, 33, 34, 35, 36, 37, 38, 39, 3] (fun seen u W => (seen 0 = true → u 31 = .slice (some ⟨g, 0, none⟩) (l.length) (c)) ∧
            (seen 1 = true → u 32 = .slice (some ⟨g, 0, none⟩) (l.length) (c)) ∧
            (seen 2 = true → u 33 = .int .i64 (((l.length : Nat) : Int))) ∧
            (seen 3 = true → u 34 = .slice (some ⟨g, 0, none⟩) (l.length) (c)) ∧
            (seen 4 = true → u 35 = .int .i64 (((l.length : Nat) : Int))) ∧
            (seen 5 = true → u 36 = .slice (some ⟨g, 0, none⟩) (l.length) (l.length)) ∧
            (seen 6 = true → u 37 = .agg #[.slice SA TW.cells.length sc, .int .i64 TW.out]) ∧
            (seen 7 = true → RowW w5.heap.size W (u 38) (.slice SA TW.cells.length sc) TW.out) ∧
            (seen 8 = true → WaysV W (u 39) (l ++ [TW])) ∧
            (seen 9 = true → WaysV W (u 3) (l ++ [TW])) ∧
            (seen 9 = false → u 3 = .slice (some ⟨g, 0, none⟩) (l.length) (c)) ∧
            (seen 9 = true → seen 0 = true) ∧
            (seen 9 = true → seen 1 = true) ∧
            (seen 9 = true → seen 3 = true))
            (by kernel_rfl) (by kernel_rfl) (by kernel_rfl) (by simp) (by simp [valsOf]) ?_ ?_
          · intro i o ho seen a' w9 hb9 ⟨F0, F1, F2, F3, F4, F5, F6, F7, F8, F9, F10, F11, F12, F13⟩ hv hsi hdep
            have z0 : w9.cell? ⟨XB, 0, none⟩ = some (.slice SA TW.cells.length sc) := cell_of_heap (heap_mono HX.out hb9)
            have z1 : w9.cell? ⟨XB, 1, none⟩ = some (.int .i64 TW.out) := cell_of_heap (heap_mono HX.out hb9)
            have zl := (Array.getElem?_eq_some_iff.1 (heap_mono HX.out hb9)).1
            rcases i with _ | _ | _ | _ | _ | _ | _ | _ | _ | _ | i <;> simp only [List.getElem?_cons_zero, List.getElem?_cons_succ, List.getElem?_nil, Option.some.injEq, reduceCtorEq] at ho <;> subst ho
            · refine if_free rfl ?_
              have hs9 : seen 9 = false := by { cases hq : seen 9 with | false => rfl | true => exact absurd (F11 hq) (by rw [hsi]; decide) }
              have x3 := val_at (F10 hs9)
              refine wp_value (.slice (some ⟨g, 0, none⟩) (l.length) (c)) (w' := w9) (by simp [execOp, x3, go_sem, z0, z1, zl, hlcI, hlne, hl0]) ⟨_, rfl, hb9, ?_⟩
              exact ⟨by simp, by simpa using F1, by simpa using F2, by simpa using F3, by simpa using F4, by simpa using F5, by simpa using F6, by simpa using F7, by simpa using F8, by simpa using F9, by simpa using F10, by simp, by simpa using F12, by simpa using F13⟩
            · refine if_free rfl ?_
              have hs9 : seen 9 = false := by { cases hq : seen 9 with | false => rfl | true => exact absurd (F12 hq) (by rw [hsi]; decide) }
              have x3 := val_at (F10 hs9)
              refine wp_value (.slice (some ⟨g, 0, none⟩) (l.length) (c)) (w' := w9) (by simp [execOp, x3, go_sem, z0, z1, zl, hlcI, hlne, hl0]) ⟨_, rfl, hb9, ?_⟩
              exact ⟨by simpa using F0, by simp, by simpa using F2, by simpa using F3, by simpa using F4, by simpa using F5, by simpa using F6, by simpa using F7, by simpa using F8, by simpa using F9, by simpa using F10, by simpa using F11, by simp, by simpa using F13⟩
            · refine if_free rfl ?_
              have d1 := hdep ⟨1, .data⟩ (by simp) rfl
              have e1 := val_at (F1 d1)
              refine wp_value (.int .i64 (((l.length : Nat) : Int))) (w' := w9) (by simp [execOp, e1, go_sem, z0, z1, zl, hlcI, hlne, hl0]) ⟨_, rfl, hb9, ?_⟩
              exact ⟨by simpa using F0, by simpa using F1, by simp, by simpa using F3, by simpa using F4, by simpa using F5, by simpa using F6, by simpa using F7, by simpa using F8, by simpa using F9, by simpa using F10, by simpa using F11, by simpa using F12, by simpa using F13⟩
            · refine if_free rfl ?_
              have hs9 : seen 9 = false := by { cases hq : seen 9 with | false => rfl | true => exact absurd (F13 hq) (by rw [hsi]; decide) }
              have x3 := val_at (F10 hs9)
              refine wp_value (.slice (some ⟨g, 0, none⟩) (l.length) (c)) (w' := w9) (by simp [execOp, x3, go_sem, z0, z1, zl, hlcI, hlne, hl0]) ⟨_, rfl, hb9, ?_⟩
              exact ⟨by simpa using F0, by simpa using F1, by simpa using F2, by simp, by simpa using F4, by simpa using F5, by simpa using F6, by simpa using F7, by simpa using F8, by simpa using F9, by simpa using F10, by simpa using F11, by simpa using F12, by simp⟩
            · refine if_free rfl ?_
              have d3 := hdep ⟨3, .data⟩ (by simp) rfl
              have e3 := val_at (F3 d3)
              refine wp_value (.int .i64 (((l.length : Nat) : Int))) (w' := w9) (by simp [execOp, e3, go_sem, z0, z1, zl, hlcI, hlne, hl0]) ⟨_, rfl, hb9, ?_⟩
              exact ⟨by simpa using F0, by simpa using F1, by simpa using F2, by simpa using F3, by simp, by simpa using F5, by simpa using F6, by simpa using F7, by simpa using F8, by simpa using F9, by simpa using F10, by simpa using F11, by simpa using F12, by simpa using F13⟩
            · refine if_free rfl ?_
              have d0 := hdep ⟨0, .data⟩ (by simp) rfl
              have e0 := val_at (F0 d0)
              have d2 := hdep ⟨2, .data⟩ (by simp) rfl
              have e2 := val_at (F2 d2)
              have d4 := hdep ⟨4, .data⟩ (by simp) rfl
              have e4 := val_at (F4 d4)
              refine wp_value (.slice (some ⟨g, 0, none⟩) (l.length) (l.length)) (w' := w9) (by simp [execOp, e0, e2, e4, go_sem, z0, z1, zl, hlcI, hlne, hl0]) ⟨_, rfl, hb9, ?_⟩
              exact ⟨by simpa using F0, by simpa using F1, by simpa using F2, by simpa using F3, by simpa using F4, by simp, by simpa using F6, by simpa using F7, by simpa using F8, by simpa using F9, by simpa using F10, by simpa using F11, by simpa using F12, by simpa using F13⟩
            · refine if_free rfl ?_
              have x6 := val_at (hv 6 (by simp))
              simp [valsOf] at x6
              refine wp_value (.agg #[.slice SA TW.cells.length sc, .int .i64 TW.out]) (w' := w9) (by simp [execOp, x6, go_sem, z0, z1, zl, hlcI, hlne, hl0]) ⟨_, rfl, hb9, ?_⟩
              exact ⟨by simpa using F0, by simpa using F1, by simpa using F2, by simpa using F3, by simpa using F4, by simpa using F5, by simp, by simpa using F7, by simpa using F8, by simpa using F9, by simpa using F10, by simpa using F11, by simpa using F12, by simpa using F13⟩
            · refine if_free rfl ?_
              have d6 := hdep ⟨6, .data⟩ (by simp) rfl
              have e6 := val_at (F6 d6)
              have hg : Below w9.heap.size w9 (w9.alloc (.cells #[.slice SA TW.cells.length sc, .int .i64 TW.out] 81)) := bl_alloc (bl_refl _) _
              have hn : RowW w5.heap.size (w9.alloc (.cells #[.slice SA TW.cells.length sc, .int .i64 TW.out] 81)) (.slice (some ⟨w9.heap.size, 0, none⟩) 1 1) (.slice SA TW.cells.length sc) TW.out := ⟨_, rfl, hb9.size, World.alloc_heap_new w9 _⟩
              refine wp_value (.slice (some ⟨w9.heap.size, 0, none⟩) 1 1) (w' := w9.alloc (.cells #[.slice SA TW.cells.length sc, .int .i64 TW.out] 81)) (by simp [execOp, e6, go_sem]) ⟨_, rfl, bl_trans hb9 hg, ?_⟩
              exact ⟨by simpa using F0, by simpa using F1, by simpa using F2, by simpa using F3, by simpa using F4, by simpa using F5, by simpa using F6, by simpa using hn, by simpa using fun h => (F8 h).mono hg, by simpa using fun h => (F9 h).mono hg, by simpa using F10, by simpa using F11, by simpa using F12, by simpa using F13⟩
            · refine if_free rfl ?_
              have d5 := hdep ⟨5, .data⟩ (by simp) rfl
              have e5 := val_at (F5 d5)
              have d7 := hdep ⟨7, .data⟩ (by simp) rfl
              obtain ⟨g8, hg8, _, hr8⟩ := F7 d7
              have e38 := val_at hg8
              obtain ⟨v', w', hrun, hwv', hg⟩ := WaysV.more (x := TW) (HWV5.out.mono hb9) (by first | (have := HLK.out; omega) | simp) (HSI.out.mono hb9) hr8
              refine wp_append_run _ _ 38 rfl _ _ v' w' (by simp [go_sem, e5]) (by simp [go_sem, e38]) hrun ⟨_, rfl, bl_trans hb9 hg, ?_⟩
              exact ⟨by simpa using F0, by simpa using F1, by simpa using F2, by simpa using F3, by simpa using F4, by simpa using F5, by simpa using F6, by simpa using fun h => (F7 h).mono hg, by simpa using hwv', by simpa using fun h => (F9 h).mono hg, by simpa using F10, by simpa using F11, by simpa using F12, by simpa using F13⟩
            · refine if_free rfl ?_
              have d8 := hdep ⟨8, .data⟩ (by simp) rfl
              refine wp_value (valsOf a' 39) (w' := w9) (by simp [execOp, go_sem, valsOf]) ⟨_, rfl, hb9, ?_⟩
              exact ⟨by simpa using F0, by simpa using F1, by simpa using F2, by simpa using F3, by simpa using F4, by simpa using F5, by simpa using F6, by simpa using F7, by simpa using F8, by simpa using F8 d8, by simp, by simpa using hdep ⟨0, .phase⟩ (by simp) rfl, by simpa using hdep ⟨1, .phase⟩ (by simp) rfl, by simpa using hdep ⟨3, .phase⟩ (by simp) rfl⟩
          intro u w5 hb5 seen hall ⟨F0, F1, F2, F3, F4, F5, F6, F7, F8, F9, F10, F11, F12, F13⟩
          replace F0 := F0 (hall 0 (by decide))
          replace F1 := F1 (hall 1 (by decide))
          replace F2 := F2 (hall 2 (by decide))
          replace F3 := F3 (hall 3 (by decide))
          replace F4 := F4 (hall 4 (by decide))
          replace F5 := F5 (hall 5 (by decide))
          replace F6 := F6 (hall 6 (by decide))
          replace F7 := F7 (hall 7 (by decide))
          replace F8 := F8 (hall 8 (by decide))
          replace F9 := F9 (hall 9 (by decide))
          simp only [setAll, List.setIfInBounds_toArray, List.set_cons_zero, List.set_cons_succ]
          have HW9 := hid F9
          have HR9 := hid (HR5.out.mono hb5)
          have HMO9 := hid (HMO5.out.trans (.of hb5))
          have HW3 := hid (show (waysU wd hg want keep (M - (k + 1)) TU (l ++ [TW])).2 = LF by
            rw [← HWU.out, show M - k = (M - (k + 1)) + 1 by omega]
            conv => rhs; unfold waysU
            rw [HFR0.out, HF3.out])
          clear F0 F1 F2 F3 F4 F5 F6 F7 F8 F9 F10 F11 F12 F13 hall seen hb5
          go_wp2
          go_roundw
          case rel => exact ⟨k + 1, TU, _, by omega, by go_num, HR9.out, HBT.out, HW9.out, by rw [List.length_append]; first | (simp; done) | (simp; omega), HW3.out, HMO9.out⟩
          case measure => simp [intOf]; omega
    · obtain rfl : j = want.length := by omega
      rw [List.drop_length] at hfr
      have hwu2 : (waysU wd hg want keep (M - (k + 1)) u1 l).2 = LF := by
        rw [← HWU.out, show M - k = (M - (k + 1)) + 1 by omega]
        conv => rhs; unfold waysU
        have : firstW wd hg keep want us = (u1, none) := by rw [HFR0.out, ← hfr]; rfl
        rw [this]
      have HW2 := hid hwu2
      clear hr hb hwv hfr hmo hwu2 hlt2
      go_wp2
      go_roundw
      case rel => exact ⟨k + 1, u1, l, by omega, by go_num, HRr.out, HB.out, HWV.out, by omega, HW2.out, HMO.out⟩
      case measure => simp [intOf]; omega
  · obtain rfl : k = M := by omega
    rw [Nat.sub_self] at hwu
    have hl : l = LF := hwu
    subst hl
    clear hr hb hwv hwu hmo hlt
    go_wp2
    go_ret
    exact ⟨⟨_, rfl, HWV.out.ways⟩, HMO.out⟩
end Go.Proofs.Ytlkoadcbolkhoaa

/- As many ways that are apart as there can be: the walk. -/
namespace Go.Proofs.Ytlkoadcbolkhoaa
open Go Go.RowKit Go.Proofs
attribute [local go_sem] cell_grow frozen_grow

def waysS (wd hg : Int) (want keep : List Int) : List Way := if pondE wd hg want keep = 0 then waysL wd hg want keep else []
set_option maxRecDepth 100000 in
set_option maxHeartbeats 8000000 in
theorem allways_any {wd hg : Int} {sw sk : Value} {want keep : List Int} (w : World) (hlw : want.length ≤ 1000000) (hlk : keep.length ≤ 1000000) (hw : Ints w sw want) (hk : Ints w sk keep) :
    Calls Try.prog 36 #[.agg #[.int .i64 wd, .int .i64 hg, sw, sk]] w fun e w' => (∃ s, e = .returned (.tuple #[s, .int .i64 (pondE wd hg want keep)]) ∧ WaysI w' s (waysS wd hg want keep)) ∧ Below w.heap.size w w' := by
  obtain ⟨i3, hi3, hi30, hi31, hi32⟩ := info_parts info3
  have hb0 := bl_alloc (bl_refl w) (.cells #[.int .i64 wd, .int .i64 hg, sw, sk] 24)
  have k0 := World.alloc_heap_new w (.cells #[.int .i64 wd, .int .i64 hg, sw, sk] 24)
  have HB0 := hid hb0
  have HK0 := hid k0
  have hcall := open_any (wd := wd) (hg := hg) (w.alloc (.cells #[.int .i64 wd, .int .i64 hg, sw, sk] 24)) hlw hlk (hw.mono hb0) (hk.mono hb0)
  clear hw hk hb0 k0
  obtain ⟨FV, hFV⟩ : ∃ FV, waysS wd hg want keep = FV := ⟨_, rfl⟩
  have HFV := hid hFV
  rw [hFV]
  clear hFV
  obtain ⟨E, hE⟩ : ∃ E, pondE wd hg want keep = E := ⟨_, rfl⟩
  have HE := hid hE
  rw [hE] at hcall ⊢
  clear hE
  go_enter Try.func36, Try.ntmps36
  go_upto_region 1 with (fail)
  obtain ⟨w1, hw1⟩ : ∃ w1, w.alloc (.cells #[.int .i64 wd, .int .i64 hg, sw, sk] 24) = w1 := ⟨_, rfl⟩
  obtain ⟨X, hX⟩ : ∃ X, w.heap.size = X := ⟨_, rfl⟩
  rw [hX] at HK0 ⊢
  rw [hw1] at HB0 HK0 hcall ⊢
  clear hw1
  have q0 : w1.cell? ⟨X, 0, none⟩ = some (.int .i64 wd) := cell_of_heap HK0.out
  have q1 : w1.cell? ⟨X, 1, none⟩ = some (.int .i64 hg) := cell_of_heap HK0.out
  have q2 : w1.cell? ⟨X, 2, none⟩ = some sw := cell_of_heap HK0.out
  have q3 : w1.cell? ⟨X, 3, none⟩ = some sk := cell_of_heap HK0.out
  have ql := (Array.getElem?_eq_some_iff.1 HK0.out).1
  have HB0s := HB0.out.size
  go_wp2_with fail
  refine hcall.mono ?_
  rintro e w2 ⟨hcase, hb2⟩
  have HB2 := hid (bl_trans HB0.out hb2)
  clear q0 q1 q2 q3 ql hcall HB0 HK0 hb2
  rcases hcase with ⟨rfl, RP, MB, rfl, hr, hmb0⟩ | ⟨h0, rfl⟩
  · have hmb : X ≤ MB := by have := HB0s; omega
    have hV := pond_valid HE.out
    have hn0 := hV.cells
    obtain ⟨n, hn⟩ : ∃ n : Nat, wd * hg = (n : Int) := ⟨(wd * hg).toNat, by omega⟩
    have HV := hid hV
    have HN := hid hn
    have hrk := raft_known hV
    have hvl := val_le hrk.1.s want
    have hkl := hV.klen.1
    have hM : (raft wd hg want keep).2 ≤ 256 := by
      have h1 := hrk.2.1
      unfold val at h1
      omega
    have hcall := ways_any n w2 hr hV hn (fun s => hrk.1.s.b s) hM
    have hwl : (waysU wd hg want keep (raft wd hg want keep).2 (raft wd hg want keep).1 []).2 = FV := by rw [← HFV.out]; unfold waysS waysL; rw [if_pos HE.out]
    rw [hwl] at hcall
    have HMB := hid hmb
    have hb2s := HB2.out.size
    clear hr hV hn0 hn hwl hrk hvl hkl hM
    go_wp2_with fail
    refine hcall.mono ?_
    rintro e w3 ⟨⟨v, rfl, hs⟩, hmo⟩
    have HB3 := hid (hmo.bl (w0 := w) (by rw [hX]; exact hmb) HB2.out)
    have HS := hid hs
    clear hcall hs hmo
    go_wp2
    go_ret2
    exact ⟨⟨_, rfl, HS.out⟩, HB3.out⟩
  · have t0 : (E == 0) = false := beq_eq_false_iff_ne.2 h0
    have hf : FV = [] := by rw [← HFV.out]; unfold waysS; rw [if_neg (by rw [HE.out]; exact h0)]
    subst hf
    clear h0
    go_wp2
    go_ret2
    exact ⟨⟨_, rfl, .inl ⟨rfl, rfl⟩⟩, HB2.out⟩

end Go.Proofs.Ytlkoadcbolkhoaa
