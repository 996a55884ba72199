/- How many sticks water has: the walk. -/
import Derived.Laws.EntriesVeiled
import Derived.Test.YtlkoadcbolkhoaaLoopm
import Derived.Test.YtlkoadcbolkhoaaDir
import Derived.Test.YtlkoadcbolkhoaaNewr
set_option linter.all false
namespace Go.Proofs.Ytlkoadcbolkhoaa
open Go Go.RowKit Go.Proofs
attribute [local go_sem] Oper.semAt_some cell_grow frozen_grow

def stickP (wd hg : Int) (water : List Int) (c : Int) : Nat → Int
  | 0 => 0
  | j + 1 => stickP wd hg water c j + stickC wd hg water c (j : Int)
theorem stickC_bd (wd hg : Int) (water : List Int) (c d : Int) : 0 ≤ stickC wd hg water c d ∧ stickC wd hg water c d ≤ 1 := by unfold stickC; split <;> omega
theorem stickP_bd (wd hg : Int) (water : List Int) (c : Int) : ∀ j : Nat, 0 ≤ stickP wd hg water c j ∧ stickP wd hg water c j ≤ j
  | 0 => by simp [stickP]
  | j + 1 => by
    have h1 := stickP_bd wd hg water c j
    have h2 := stickC_bd wd hg water c (j : Int)
    simp only [stickP]
    omega
theorem stickN_take (wd hg : Int) (water : List Int) : ∀ (l : List Int) (k : Nat) (c : Int), l[k]? = some c → stickN wd hg water (l.take (k + 1)) = stickN wd hg water (l.take k) + stickP wd hg water c 4
  | [], k, c, h => by simp at h
  | x :: l, 0, c, h => by
    simp at h; subst h
    simp [stickN, stickP]
  | x :: l, k + 1, c, h => by
    have := stickN_take wd hg water l k c (by simpa using h)
    rw [List.take_succ_cons, List.take_succ_cons]
    simp only [stickN]
    rw [this]
    omega
theorem stickN_bd (wd hg : Int) (water : List Int) : ∀ l : List Int, 0 ≤ stickN wd hg water l ∧ stickN wd hg water l ≤ 4 * l.length
  | [] => by simp [stickN]
  | x :: l => by
    have := stickN_bd wd hg water l
    have h0 := stickC_bd wd hg water x 0
    have h1 := stickC_bd wd hg water x 1
    have h2 := stickC_bd wd hg water x 2
    have h3 := stickC_bd wd hg water x 3
    simp only [stickN, List.length_cons]
    omega
/-- What lies there. -/
structure StkSt (w : World) (X Y F : Nat) (wd hg : Int) (sw sk sv : Value) (W : World) : Prop where
  x : W.heap[X]? = some (.cells #[.int .i64 wd, .int .i64 hg, sw, sk] 24 (0, 0))
  y : W.heap[Y]? = some (.cells #[sv] 22 (0, 0))
  f : W.heap[F]? = some (.cells #[.func (.func 61) #[] #[.pointer (some ⟨Y, 0, none⟩)]] 83 (0, 0))
  old : Below w.heap.size w W
section
variable {w W W' : World} {X Y F : Nat} {wd hg : Int} {sw sk sv : Value}
theorem StkSt.mono (h : StkSt w X Y F wd hg sw sk sv W) (hb : Below W.heap.size W W') : StkSt w X Y F wd hg sw sk sv W' := ⟨heap_mono h.x hb, heap_mono h.y hb, heap_mono h.f hb, bl_trans h.old hb⟩
theorem StkSt.put {r : Nat} {x o : Obj} (h : StkSt w X Y F wd hg sw sk sv W) (hr : W.heap[r]? = some x) (hx : x.isCells = false) (hl : w.heap.size ≤ r) : StkSt w X Y F wd hg sw sk sv (W.putObj r o) := ⟨heap_put h.x rfl hr hx, heap_put h.y rfl hr hx, heap_put h.f rfl hr hx, below_put h.old hl⟩
theorem StkSt.set {B o : Nat} {cs : Array Value} (h : StkSt w X Y F wd hg sw sk sv W) (hB : W.heap[B]? = some (.cells cs 3 (0, 0))) (hl : w.heap.size ≤ B) (u : Value) : StkSt w X Y F wd hg sw sk sv (W.setCell ⟨B, o, none⟩ u) :=
  ⟨past_set (ne_type h.x hB (by decide)) h.x, past_set (ne_type h.y hB (by decide)) h.y, past_set (ne_type h.f hB (by decide)) h.f, bl_set h.old _ hl⟩
end
/-- Between two directions of a cell. -/
structure StkDir (w : World) (X Y F NB RP : Nat) (wd hg : Int) (sw sk sv : Value) (n : Int) (D : List Deferred) (W : World) : Prop where
  st : StkSt w X Y F wd hg sw sk sv W
  nb : W.heap[NB]? = some (.cells #[.int .i64 n] 3 (0, 0))
  rp : W.heap[RP]? = some (.cells #[.int .i64 wd, .int .i64 hg, sw, sk, .map none, .int .i64 0] 90 (0, 0))
  mks : MarksOk w.heap.size W D
theorem StkDir.stable {w : World} {X Y F NB RP : Nat} {wd hg : Int} {sw sk sv : Value} {n : Int} {D : List Deferred} : Stable w.heap.size (StkDir w X Y F NB RP wd hg sw sk sv n D) :=
  ⟨fun W W' h hb => ⟨h.st.mono hb, heap_mono h.nb hb, heap_mono h.rp hb, h.mks.mono hb⟩, fun W r x o h hr hx hx1 hx2 hl => ⟨h.st.put hr hx hl, heap_put h.nb rfl hr hx, heap_put h.rp rfl hr hx, h.mks.put hr hx1⟩⟩
theorem StkDir.set {w W : World} {X Y F NB RP : Nat} {wd hg : Int} {sw sk sv : Value} {n : Int} {D : List Deferred} (h : StkDir w X Y F NB RP wd hg sw sk sv n D W) (hl : w.heap.size ≤ NB) (n' : Int) : StkDir w X Y F NB RP wd hg sw sk sv n' D (W.setCell ⟨NB, 0, none⟩ (.int .i64 n')) :=
  ⟨h.st.set h.nb hl _, set_one h.nb _, past_set (ne_type h.rp h.nb (by decide)) h.rp, h.mks.set _ _⟩

set_option maxRecDepth 100000 in
set_option maxHeartbeats 8000000 in
theorem sticks_any {wd hg : Int} {sw sk sv : Value} {want keep water : List Int} (w : World) (hlw : want.length ≤ 1000000) (hlk : keep.length ≤ 1000000) (hlv : water.length ≤ 1000000) (hw : Ints w sw want) (hk : Ints w sk keep) (hv : Ints w sv water) :
    Calls Try.prog 19 #[.agg #[.int .i64 wd, .int .i64 hg, sw, sk], sv] w fun e w' => e = .returned (.tuple #[.int .i64 (sticksV wd hg want keep water), .int .i64 (sticksE wd hg want keep water)]) ∧ Below w.heap.size w w' := by
  obtain ⟨A, c, rfl⟩ : ∃ A c, sv = .slice A water.length c := by
    rcases hv with ⟨rfl, rfl⟩ | ⟨b, off, c, rfl, _⟩
    · exact ⟨none, 0, rfl⟩
    · exact ⟨_, _, rfl⟩
  have b0 := bl_alloc (bl_refl w) (.cells #[.int .i64 wd, .int .i64 hg, sw, sk] 24)
  have b1 := bl_alloc (bl_refl (w.alloc (.cells #[.int .i64 wd, .int .i64 hg, sw, sk] 24))) (.cells #[.slice A water.length c] 22)
  have k0 := heap_mono (World.alloc_heap_new w (.cells #[.int .i64 wd, .int .i64 hg, sw, sk] 24)) b1
  have k1 := World.alloc_heap_new (w.alloc (.cells #[.int .i64 wd, .int .i64 hg, sw, sk] 24)) (.cells #[.slice A water.length c] 22)
  rw [World.size_alloc] at k1
  have HB := hid (bl_trans b0 b1)
  have K0 := hid k0
  have K1 := hid k1
  have HW := hid hw
  have HK := hid hk
  have HV := hid hv
  have hcall := pond_any wd hg want keep sw sk _ hlw hlk (hw.mono HB.out) (hk.mono HB.out)
  obtain ⟨E, hE⟩ : ∃ E, pondE wd hg want keep = E := ⟨_, rfl⟩
  have HE := hid hE
  rw [hE] at hcall
  obtain ⟨SV, hSV⟩ : ∃ SV, sticksV wd hg want keep water = SV := ⟨_, rfl⟩
  have HSV := hid hSV
  obtain ⟨SE, hSE⟩ : ∃ SE, sticksE wd hg want keep water = SE := ⟨_, rfl⟩
  have HSE := hid hSE
  rw [hSV, hSE]
  clear hE hSV hSE hw hk hv b0 b1 k0 k1
  refine calls_marks Try.func19 rfl ?_
  simp only [Try.ntmps19, List.size_toArray, List.length_cons, List.length_nil, Nat.reduceAdd, Nat.reduceSub, Array.replicate_succ, Array.replicate_zero, List.push_toArray, List.append_toArray, List.nil_append, List.cons_append]
  go_upto_region 1 with (fail)
  obtain ⟨w1, hw1⟩ : ∃ w1, (w.alloc (.cells #[.int .i64 wd, .int .i64 hg, sw, sk] 24)).alloc (.cells #[.slice A water.length c] 22) = w1 := ⟨_, rfl⟩
  rw [hw1] at HB K0 K1 hcall ⊢
  clear hw1
  obtain ⟨X, hX⟩ : ∃ X, w.heap.size = X := ⟨_, rfl⟩
  have HX := hid hX
  rw [hX] at K0 K1 ⊢
  obtain ⟨Y, hY⟩ : ∃ Y, X + 1 = Y := ⟨_, rfl⟩
  rw [hY] at K1 ⊢
  have q0 : w1.cell? ⟨X, 0, none⟩ = some (.int .i64 wd) := cell_of_heap K0.out
  have q1 : w1.cell? ⟨X, 1, none⟩ = some (.int .i64 hg) := cell_of_heap K0.out
  have q2 : w1.cell? ⟨X, 2, none⟩ = some sw := cell_of_heap K0.out
  have q3 : w1.cell? ⟨X, 3, none⟩ = some sk := cell_of_heap K0.out
  have ql := (Array.getElem?_eq_some_iff.1 K0.out).1
  go_wp2_with fail
  refine hcall.mono ?_
  rintro e w2 ⟨rfl, hb2⟩
  have hbF := bl_alloc (bl_refl w2) (.cells #[.func (.func 61) #[] #[.pointer (some ⟨Y, 0, none⟩)]] 83)
  have HST := hid (show StkSt w X Y w2.heap.size wd hg sw sk (.slice A water.length c) _ from ⟨heap_mono (heap_mono K0.out hb2) hbF, heap_mono (heap_mono K1.out hb2) hbF, World.alloc_heap_new w2 _, bl_trans (bl_trans HB.out hb2) hbF⟩)
  clear hcall q0 q1 q2 q3 ql K0 K1 HB hb2 hbF
  go_upto_region 3 with (fail)
  obtain ⟨F, hF⟩ : ∃ F, w2.heap.size = F := ⟨_, rfl⟩
  obtain ⟨w3, hw3⟩ : ∃ w3, w2.alloc (.cells #[.func (.func 61) #[] #[.pointer (some ⟨Y, 0, none⟩)]] 83) = w3 := ⟨_, rfl⟩
  rw [hF] at HST ⊢
  rw [hw3] at HST ⊢
  clear hw3 hF
  by_cases h0 : E = 0
  · subst h0
    have hVa := pond_valid HE.out
    have HVa := hid hVa
    have q0 : w3.cell? ⟨X, 0, none⟩ = some (.int .i64 wd) := cell_of_heap HST.out.x
    have q1 : w3.cell? ⟨X, 1, none⟩ = some (.int .i64 hg) := cell_of_heap HST.out.x
    have q2 : w3.cell? ⟨X, 2, none⟩ = some sw := cell_of_heap HST.out.x
    have q3 : w3.cell? ⟨X, 3, none⟩ = some sk := cell_of_heap HST.out.x
    have ql := (Array.getElem?_eq_some_iff.1 HST.out.x).1
    have y0 : w3.cell? ⟨Y, 0, none⟩ = some (.slice A water.length c) := cell_of_heap HST.out.y
    have yl := (Array.getElem?_eq_some_iff.1 HST.out.y).1
    have hcall := isList_any wd hg sw sk water (.slice A water.length c) w3 hVa.B.w hVa.B.h hlv (HV.out.mono HST.out.old)
    clear hVa
    cases hlist : listB (wd * hg) 0 water with
    | false =>
      rw [hlist] at hcall
      have h1 : SE = 2 := by rw [← HSE.out]; unfold sticksE; rw [HE.out, if_neg (by simp), if_pos hlist]
      have h2 : SV = 0 := by rw [← HSV.out]; unfold sticksV; rw [HSE.out, h1, if_neg (by decide)]
      subst h1 h2
      clear hlist
      go_wp2_with fail
      refine hcall.mono ?_
      rintro e w4 ⟨rfl, hb4⟩
      have HB4 := hid (bl_trans HST.out.old hb4)
      clear hcall hb4 q0 q1 q2 q3 ql y0 yl
      go_wp2
      refine leave_many (v := .tuple #[.int .i64 0, .int .i64 2]) (base := w.heap.size) [] rfl trivial (.refl _) fun W' hW' => ⟨?_, rfl, hW'.bl HB4.out (Nat.le_refl _)⟩
      simp [results, Try.results19, go_sem]
    | true =>
    rw [hlist] at hcall
    have HLI := hid hlist
    clear hlist
    go_wp2_with fail
    refine hcall.mono ?_
    rintro e w4 ⟨rfl, hb4⟩
    have HST4 := hid (HST.out.mono hb4)
    clear hcall hb4 q0 q1 q2 q3 ql y0 yl HST
    have hin := fun n => inFn_any water (.slice A water.length c) Y n w4 hlv (HV.out.mono HST4.out.old) HST4.out.y
    have hout := fun n => outFn_any water (.slice A water.length c) Y F n w4 hlv (HV.out.mono HST4.out.old) HST4.out.y HST4.out.f
    have hcall1 := anyIn_any (fun n => water.contains n) keep sk Y w4 hlk hin (HK.out.mono HST4.out.old)
    have hcall2 := anyOut_any (fun n => !water.contains n) want sw F w4 hlw hout (HW.out.mono HST4.out.old)
    clear hin hout
    have q2 : w4.cell? ⟨X, 2, none⟩ = some sw := cell_of_heap HST4.out.x
    have q3 : w4.cell? ⟨X, 3, none⟩ = some sk := cell_of_heap HST4.out.x
    have ql := (Array.getElem?_eq_some_iff.1 HST4.out.x).1
    have f0 : w4.cell? ⟨F, 0, none⟩ = some (.func (.func 61) #[] #[.pointer (some ⟨Y, 0, none⟩)]) := cell_of_heap HST4.out.f
    have fl := (Array.getElem?_eq_some_iff.1 HST4.out.f).1
    cases hk1 : keep.any (fun n => water.contains n) with
    | true =>
      rw [hk1] at hcall1
      have h1 : SE = 19 := by rw [← HSE.out]; unfold sticksE; rw [HE.out, if_neg (by simp), if_neg (by rw [HLI.out]; simp), if_pos (by unfold enclB; rw [hk1]; rfl)]
      have h2 : SV = 0 := by rw [← HSV.out]; unfold sticksV; rw [HSE.out, h1, if_neg (by decide)]
      subst h1 h2
      clear hk1 hcall2
      go_wp2_with fail
      refine hcall1.mono ?_
      rintro e w5 ⟨rfl, rfl⟩
      clear hcall1
      go_wp2
      refine leave_many (v := .tuple #[.int .i64 0, .int .i64 19]) (base := w.heap.size) [] rfl trivial (.refl _) fun W' hW' => ⟨?_, rfl, hW'.bl HST4.out.old (Nat.le_refl _)⟩
      simp [results, Try.results19, go_sem]
    | false =>
    rw [hk1] at hcall1
    have HK1 := hid hk1
    clear hk1
    go_wp2_with fail
    refine hcall1.mono ?_
    rintro e w5 ⟨rfl, rfl⟩
    clear hcall1
    cases hk2 : want.any (fun n => !water.contains n) with
    | true =>
      rw [hk2] at hcall2
      have h1 : SE = 19 := by rw [← HSE.out]; unfold sticksE; rw [HE.out, if_neg (by simp), if_neg (by rw [HLI.out]; simp), if_pos (by unfold enclB; rw [HK1.out, hk2]; rfl)]
      have h2 : SV = 0 := by rw [← HSV.out]; unfold sticksV; rw [HSE.out, h1, if_neg (by decide)]
      subst h1 h2
      clear hk2
      go_wp2_with fail
      refine hcall2.mono ?_
      rintro e w6 ⟨rfl, rfl⟩
      clear hcall2
      go_wp2
      refine leave_many (v := .tuple #[.int .i64 0, .int .i64 19]) (base := w.heap.size) [] rfl trivial (.refl _) fun W' hW' => ⟨?_, rfl, hW'.bl HST4.out.old (Nat.le_refl _)⟩
      simp [results, Try.results19, go_sem]
    | false =>
    rw [hk2] at hcall2
    have h1 : SE = 0 := by rw [← HSE.out]; unfold sticksE; rw [HE.out, if_neg (by simp), if_neg (by rw [HLI.out]; simp), if_neg (by unfold enclB; rw [HK1.out, hk2]; decide)]
    have h2 : SV = stickN wd hg water water := by rw [← HSV.out]; unfold sticksV; rw [HSE.out, h1, if_pos rfl]
    subst h1
    have HSN := hid h2
    have y0 : w5.cell? ⟨Y, 0, none⟩ = some (.slice A water.length c) := cell_of_heap HST4.out.y
    have yl := (Array.getElem?_eq_some_iff.1 HST4.out.y).1
    clear hk2 h2
    go_wp2_with fail
    refine hcall2.mono ?_
    rintro e w6 ⟨rfl, rfl⟩
    have bN := bl_alloc (bl_refl w6) (.cells #[.int .i64 0] 3)
    have HNB := hid (World.alloc_heap_new w6 (.cells #[.int .i64 0] 3))
    have HST6 := hid (HST4.out.mono bN)
    have hNBw := HST4.out.old.size
    clear hcall2 bN HST4 q2 q3 ql f0 fl
    go_wp2
    obtain ⟨NB, hNB⟩ : ∃ NB, w6.heap.size = NB := ⟨_, rfl⟩
    obtain ⟨w7, hw7⟩ : ∃ w7, w6.alloc (.cells #[.int .i64 0] 3) = w7 := ⟨_, rfl⟩
    rw [hNB] at HNB hNBw ⊢
    rw [hw7] at HNB HST6 ⊢
    clear hw7 hNB y0 yl
    have HWA := hid (show ∀ x ∈ water, inP wd hg x from fun x hx => ⟨(listB_in HLI.out x hx).1, (listB_in HLI.out x hx).2⟩)
    have hlen64 : water.length ≤ 64 := by
      have h1 := HVa.out.cells
      have h2 := listB_len (by omega) (by omega) HLI.out
      omega
    refine wp_loop_marksu [10, 38, 39, 40, 41, 42, 43, 44, 45, 46, 59] (fun m u D W => ∃ k : Nat, k ≤ water.length ∧ m = water.length - k ∧ u 38 = .int .i64 (k : Int) ∧ StkSt w X Y F wd hg sw sk (.slice A water.length c) W ∧ W.heap[NB]? = some (.cells #[.int .i64 (stickN wd hg water (water.take k))] 3 (0, 0)) ∧ MarksOk w.heap.size W D) water.length (by simp) ⟨0, Nat.zero_le _, rfl, rfl, HST6.out, HNB.out, trivial⟩ ?_
    clear HST6 HNB
    rintro m ux D W K ⟨k, hk, rfl, hu, hst, hnb, hmk⟩ hK
    have HKC := hid hK
    have HST := hid hst
    have HNB := hid hnb
    have HMK := hid hmk
    have hsb := stickN_bd wd hg water (water.take k)
    have htl : (water.take k).length ≤ 64 := by rw [List.length_take]; omega
    have y0 : W.cell? ⟨Y, 0, none⟩ = some (.slice A water.length c) := cell_of_heap hst.y
    have yl := (Array.getElem?_eq_some_iff.1 hst.y).1
    clear hK hst hnb hmk
    simp only [setAll, List.setIfInBounds_toArray, List.set_cons_zero, List.set_cons_succ]
    rw [hu]
    by_cases hlt : k < water.length
    · obtain ⟨q, hq⟩ := get_at hlt
      have hqi := HWA.out q (List.mem_of_getElem? hq)
      have HQT := hid (stickN_take wd hg water water k q hq)
      have HVW := HV.out.mono HST.out.old
      obtain ⟨b, off, hA, hcc, hbl, hcell⟩ : ∃ b off, A = some ⟨b, off, none⟩ ∧ water.length ≤ c ∧ b < W.heap.size ∧ W.cell? ⟨b, off + k, none⟩ = some (.int .i64 q) := by
        rcases HVW with ⟨hv, h0⟩ | ⟨b, off, cc, hv, h4, h5, h6⟩
        · rw [h0] at hlt; simp at hlt
        · injection hv with hv1 hv2 hv3
          subst hv3
          exact ⟨b, off, hv1, h4, h5, h6 k q hq⟩
      subst hA
      have q0 : W.cell? ⟨X, 0, none⟩ = some (.int .i64 wd) := cell_of_heap HST.out.x
      have q1 : W.cell? ⟨X, 1, none⟩ = some (.int .i64 hg) := cell_of_heap HST.out.x
      have q2 : W.cell? ⟨X, 2, none⟩ = some sw := cell_of_heap HST.out.x
      have q3 : W.cell? ⟨X, 3, none⟩ = some sk := cell_of_heap HST.out.x
      have ql := (Array.getElem?_eq_some_iff.1 HST.out.x).1
      have HQI := hid hqi
      have HLT := hid hlt
      have bR := bl_alloc (bl_refl W) (.cells #[.int .i64 wd, .int .i64 hg, sw, sk, .map none, .int .i64 0] 90)
      have HRP := hid (World.alloc_heap_new W (.cells #[.int .i64 wd, .int .i64 hg, sw, sk, .map none, .int .i64 0] 90))
      have HST1 := hid (HST.out.mono bR)
      have HNB1 := hid (heap_mono HNB.out bR)
      have HMK1 := hid (HMK.out.mono bR)
      clear bR hq HVW hqi
      go_wp2_with fail
      obtain ⟨RP, hRPs⟩ : ∃ RP, W.heap.size = RP := ⟨_, rfl⟩
      obtain ⟨W1, hW1⟩ : ∃ W1, W.alloc (.cells #[.int .i64 wd, .int .i64 hg, sw, sk, .map none, .int .i64 0] 90) = W1 := ⟨_, rfl⟩
      rw [hRPs] at HRP ⊢
      rw [hW1] at HRP HST1 HNB1 HMK1 ⊢
      clear hW1 hRPs q0 q1 q2 q3 ql hcell y0 yl hbl
      refine (around_any RP q W1).mono ?_
      rintro e w2 ⟨rfl, hw2⟩
      have bA := bl_alloc (bl_refl W1) (.cells #[.pointer (some ⟨RP, 0, none⟩)] 87)
      have bB := bl_alloc (bl_refl (W1.alloc (.cells #[.pointer (some ⟨RP, 0, none⟩)] 87))) (.cells #[.int .i64 q] 3)
      have e1 := heap_mono (World.alloc_heap_new W1 (.cells #[.pointer (some ⟨RP, 0, none⟩)] 87)) bB
      have e2 := World.alloc_heap_new (W1.alloc (.cells #[.pointer (some ⟨RP, 0, none⟩)] 87)) (.cells #[.int .i64 q] 3)
      rw [World.size_alloc] at e2
      have b3 := bl_trans bA bB
      rw [← hw2] at e1 e2 b3
      have HDR := hid (show StkDir w X Y F NB RP wd hg sw sk (.slice (some ⟨b, off, none⟩) water.length c) (stickN wd hg water (water.take k)) D w2 from ⟨HST1.out.mono b3, heap_mono HNB1.out b3, heap_mono HRP.out b3, HMK1.out.mono b3⟩)
      have hNZ : NB < W1.heap.size := (Array.getElem?_eq_some_iff.1 HNB1.out).1
      obtain ⟨Z, hZ⟩ : ∃ Z, W1.heap.size = Z := ⟨_, rfl⟩
      rw [hZ] at e1 e2 hNZ ⊢
      clear hw2 bA bB b3 HST1 HNB1 HMK1 HRP hZ HST HNB HMK
      have HNZ := hid hNZ
      have E1 := hid e1
      have E2 := hid e2
      clear hNZ e1 e2
      go_wp2
      refine wp_range_around (base := w.heap.size) (RP := RP) [NB] rfl rfl HVa.out.B.w HVa.out.B.h HQI.out E2.out E1.out (by have := HNZ.out; simp; omega) (by have := HNZ.out; simp; omega)
        (fun j W => StkDir w X Y F NB RP wd hg sw sk (.slice (some ⟨b, off, none⟩) water.length c) (stickN wd hg water (water.take k) + stickP wd hg water q j) D W)
        (fun _ => False)
        (fun j => StkDir.stable) ⟨fun _ _ h _ => h, fun _ _ _ _ h _ _ _ _ _ => h⟩ HDR.out.st.old.size (fun j W h => ⟨cell_of_heap h.rp, cell_of_heap h.rp⟩) ?hbs (by simpa [stickP] using HDR.out) ?_ ?assign ?body ?done ?stop
      case hbs =>
        intro j W h bb hbb
        rw [List.mem_singleton] at hbb
        subst hbb
        exact ⟨_, h.nb, (fun cs e => by cases e), (fun r e => by cases e), (fun z e => by cases e)⟩
      case assign =>
        intro l d t W K hK
        gi_wp2
        exact hK
      case stop =>
        intro W h
        exact h.elim
      case body =>
        rintro l j W hj rfl hd ⟨r, hr⟩ hdd
        obtain ⟨tq, hto⟩ : ∃ tq, nbr wd hg q (j : Int) = tq := ⟨_, rfl⟩
        rw [hto]
        have n0 : W.cell? ⟨NB, 0, none⟩ = some (.int .i64 (stickN wd hg water (water.take k) + stickP wd hg water q j)) := cell_of_heap hd.nb
        have nf : W.frozen? ⟨NB, 0, none⟩ = false := frozen_of_heap hd.nb
        have nl := (Array.getElem?_eq_some_iff.1 hd.nb).1
        have f0 : W.cell? ⟨F, 0, none⟩ = some (.func (.func 61) #[] #[.pointer (some ⟨Y, 0, none⟩)]) := cell_of_heap hd.st.f
        have fl := (Array.getElem?_eq_some_iff.1 hd.st.f).1
        have hpb := stickP_bd wd hg water q j
        have hnb : w.heap.size ≤ NB := hNBw
        have hwr : IntKind.i64.wrap (stickN wd hg water (water.take k) + stickP wd hg water q j + 1) = stickN wd hg water (water.take k) + stickP wd hg water q j + 1 := IntWalk.i64_in _ (by omega)
        have HSET := hid (hd.set hnb (stickN wd hg water (water.take k) + stickP wd hg water q j + 1))
        have HD := hid hd
        have HP1 := hid (show stickC wd hg water q (j : Int) = 1 → stickN wd hg water (water.take k) + stickP wd hg water q j + 1 = stickN wd hg water (water.take k) + stickP wd hg water q (j + 1) from fun h => by simp only [stickP]; rw [h]; omega)
        have HP0 := hid (show stickC wd hg water q (j : Int) = 0 → stickN wd hg water (water.take k) + stickP wd hg water q j = stickN wd hg water (water.take k) + stickP wd hg water q (j + 1) from fun h => by simp only [stickP]; rw [h]; omega)
        have HTO := hid hto
        have hcall := inFn_any water (.slice (some ⟨b, off, none⟩) water.length c) Y tq W hlv (HV.out.mono hd.st.old) hd.st.y
        clear hd hr hdd hto hpb
        by_cases hneg : tq < 0
        · have t1 : decide (tq < 0) = true := decide_eq_true hneg
          have hC : stickC wd hg water q (j : Int) = 1 := by unfold stickC; rw [HTO.out, if_pos (.inl hneg)]
          have HC := hid (HP1.out hC)
          clear hcall hneg hC
          gi_wp2_with fail
          refine ⟨fun _ e => (by cases e), ?_⟩
          gi_wp2
          refine ⟨OnlyB.set (by rw [List.mem_singleton]), ?_⟩
          rw [← HC.out]
          exact HSET.out
        · have t1 : decide (tq < 0) = false := decide_eq_false hneg
          cases hin : water.contains tq with
          | true =>
            rw [hin] at hcall
            have hC : stickC wd hg water q (j : Int) = 0 := by unfold stickC; rw [HTO.out, if_neg (by rw [hin]; simp; omega)]
            have HC := hid (HP0.out hC)
            clear hneg hC hin
            gi_wp2_with fail
            refine ⟨trivial, ?_⟩
            refine (CallsIn.inRound _ (callsIn_wide.2 hcall)).mono ?_
            rintro e W5 ⟨rfl, rfl⟩
            clear hcall
            gi_wp2
            refine ⟨OnlyB.refl _ _, ?_⟩
            rw [← HC.out]
            exact HD.out
          | false =>
            rw [hin] at hcall
            have hC : stickC wd hg water q (j : Int) = 1 := by unfold stickC; rw [HTO.out, if_pos (.inr hin)]
            have HC := hid (HP1.out hC)
            clear hneg hC hin
            gi_wp2_with fail
            refine ⟨trivial, ?_⟩
            refine (CallsIn.inRound _ (callsIn_wide.2 hcall)).mono ?_
            rintro e W5 ⟨rfl, rfl⟩
            clear hcall
            gi_wp2
            refine ⟨OnlyB.set (by rw [List.mem_singleton]), ?_⟩
            rw [← HC.out]
            exact HSET.out
      case done =>
        rintro W hd hdd
        rw [← HQT.out] at hd
        have hsz := HDR.out.st.old.size
        have HM := hid (MarksOk.push HDR.out.mks hd.mks (Nat.le_refl _) hsz hdd)
        have HD := hid hd
        have hlt := HLT.out
        have hk1 : IntKind.i64.wrap ((k : Int) + 1) = ((k + 1 : Nat) : Int) := IntWalk.i64_in _ (by omega)
        clear hd hdd
        go_wp2
        refine HKC.out (water.length - (k + 1)) (fun s => Array.getD ?tt s undef) ?tt _ _ ?_ ?J (by omega)
        case J => exact ⟨k + 1, hlt, rfl, rfl, HD.out.st, HD.out.nb, HM.out⟩
        simp only [setAll, List.setIfInBounds_toArray, List.set_cons_zero, List.set_cons_succ]
        rfl
    · obtain rfl : k = water.length := by omega
      have n0 : W.cell? ⟨NB, 0, none⟩ = some (.int .i64 (stickN wd hg water (water.take water.length))) := cell_of_heap HNB.out
      rw [List.take_length, ← HSN.out] at n0
      have nl := (Array.getElem?_eq_some_iff.1 HNB.out).1
      clear hlt hsb
      go_wp2
      refine leave_many (v := .tuple #[.int .i64 SV, .int .i64 0]) (base := w.heap.size) D rfl HMK.out (.refl _) fun W' hW' => ⟨?_, rfl, by rw [← hX]; exact hW'.bl HST.out.old (Nat.le_refl _)⟩
      simp [results, Try.results19, go_sem]
  · have t0 : (E == 0) = false := beq_eq_false_iff_ne.2 h0
    have h1 : SE = E := by rw [← HSE.out]; unfold sticksE; rw [HE.out, if_pos h0]
    have h2 : SV = 0 := by rw [← HSV.out]; unfold sticksV; rw [HSE.out, h1, if_neg h0]
    subst h1 h2
    clear h0
    go_wp2
    refine leave_many (v := .tuple #[.int .i64 0, .int .i64 SE]) (base := w.heap.size) [] rfl trivial (.refl _) fun W' hW' => ⟨?_, rfl, hW'.bl HST.out.old (Nat.le_refl _)⟩
    simp [results, Try.results19, go_sem]
end Go.Proofs.Ytlkoadcbolkhoaa
