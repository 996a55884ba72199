/- How many cells so many sticks enclose at most: the walk. -/
import Derived.Test.YtlkoadcbolkhoaaChkc
import Derived.Test.YtlkoadcbolkhoaaIsway
set_option linter.all false
namespace Go.Proofs.Ytlkoadcbolkhoaa
open Go Go.RowKit Go.Proofs
attribute [local go_sem] cell_grow frozen_grow

def bestC : Corner → List Corner → Corner
  | o, [] => o
  | o, x :: l => if o.1 * o.2 < x.1 * x.2 then bestC x l else bestC o l
def boxH (sticks high w : Int) : Int := min high (Int.tdiv sticks 2 - w)
def mostFrom (sticks high : Int) : Nat → Int → List Corner
  | 0, _ => []
  | f + 1, w => if 0 < boxH sticks high w then (w, boxH sticks high w) :: mostFrom sticks high f (w + 1) else mostFrom sticks high f (w + 1)
def mostL (sticks wide high : Int) : List Corner := mostFrom sticks high wide.toNat 1
def mostE (sticks wide high : Int) : Int := if ¬ (1 ≤ wide ∧ wide ≤ 8 ∧ 1 ≤ high ∧ high ≤ 8) then 3 else if sticks < 4 then 5 else 0
def mostB (sticks wide high : Int) : Corner := if mostE sticks wide high = 0 then (match mostL sticks wide high with | [] => (0, 0) | x :: l => bestC x l) else (0, 0)
def inBox (p : Corner) : Prop := (0 ≤ p.1 ∧ p.1 ≤ 8) ∧ (0 ≤ p.2 ∧ p.2 ≤ 8)

set_option maxHeartbeats 4000000 in
theorem better_any (a b : Corner) (w : World) (ha : inBox a) (hb : inBox b) :
    Calls Try.prog 91 #[.agg #[.int .i64 a.1, .int .i64 a.2], .agg #[.int .i64 b.1, .int .i64 b.2]] w fun e w' => e = .returned (.bool (decide (b.1 * b.2 < a.1 * a.2))) ∧ Below w.heap.size w w' := by
  obtain ⟨a1, a2⟩ := a
  obtain ⟨b1, b2⟩ := b
  simp only [inBox] at ha hb
  simp only
  have hm1 : 0 ≤ a1 * a2 ∧ a1 * a2 ≤ 64 := ⟨Int.mul_nonneg ha.1.1 ha.2.1, by have := Int.mul_le_mul ha.1.2 ha.2.2 ha.2.1 (by omega : (0 : Int) ≤ 8); omega⟩
  have hm2 : 0 ≤ b1 * b2 ∧ b1 * b2 ≤ 64 := ⟨Int.mul_nonneg hb.1.1 hb.2.1, by have := Int.mul_le_mul hb.1.2 hb.2.2 hb.2.1 (by omega : (0 : Int) ≤ 8); omega⟩
  have w1' : IntKind.i64.wrap (a1 * a2) = a1 * a2 := IntWalk.i64_in _ (by omega)
  have w2' : IntKind.i64.wrap (b1 * b2) = b1 * b2 := IntWalk.i64_in _ (by omega)
  have HB := hid (bl_alloc (bl_alloc (bl_refl w) (.cells #[.int .i64 a1, .int .i64 a2] 111)) (.cells #[.int .i64 b1, .int .i64 b2] 111))
  clear ha hb hm1 hm2
  go_enter Try.func91, Try.ntmps91
  go_wp2
  go_ret
  exact ⟨rfl, HB.out⟩

theorem bestC_in {o : Corner} : ∀ {l : List Corner}, inBox o → (∀ x ∈ l, inBox x) → inBox (bestC o l)
  | [], h, _ => h
  | x :: l, h, hl => by
    unfold bestC
    split
    · exact bestC_in (hl x (by simp)) fun y hy => hl y (List.mem_cons_of_mem _ hy)
    · exact bestC_in h fun y hy => hl y (List.mem_cons_of_mem _ hy)
theorem SidesI.tail {W : World} {b off c : Nat} {a : Side} {l : List Side} (h : SidesI W (.slice (some ⟨b, off, none⟩) (l.length + 1) c) (a :: l)) : SidesI W (.slice (some ⟨b, off + 2, none⟩) l.length (c - 1)) l := by
  rcases h with ⟨h, _⟩ | ⟨b', off', c', h1, h2, h3, h4⟩
  · cases h
  · injection h1 with e1 e2 e3
    injection e1 with e1
    injection e1 with e4 e5
    subst e3 e4 e5
    refine .inr ⟨b, off + 2, c - 1, rfl, by simp at h2; omega, h3, fun i x hx => ?_⟩
    have := h4 (i + 1) x (by simpa using hx)
    rw [show off + (i + 1) * 2 = off + 2 + i * 2 by omega] at this
    exact this
theorem SidesI.bare {W : World} {b off : Nat} (h : b < W.heap.size) : SidesI W (.slice (some ⟨b, off, none⟩) 0 0) [] := .inr ⟨b, off, 0, rfl, by simp, h, fun i x hx => by simp at hx⟩

set_option maxRecDepth 100000 in
set_option maxHeartbeats 8000000 in
theorem best_any (a : Corner) (l : List Corner) (s : Value) (w : World) (hl : l.length ≤ 100) (hs : SidesI w s (a :: l)) (hin : ∀ x ∈ a :: l, inBox x) :
    Calls Try.prog 90 #[s, .func (.func 91) #[] #[]] w fun e w' => e = .returned (.agg #[.int .i64 (bestC a l).1, .int .i64 (bestC a l).2]) ∧ Below w.heap.size w w' := by
  obtain ⟨b, off, c, rfl, hcl, hbl, hc0, hc1⟩ : ∃ b off c, s = .slice (some ⟨b, off, none⟩) (l.length + 1) c ∧ l.length + 1 ≤ c ∧ b < w.heap.size ∧ w.cell? ⟨b, off, none⟩ = some (.int .i64 a.1) ∧ w.cell? ⟨b, off + 1, none⟩ = some (.int .i64 a.2) := by
    rcases hs with ⟨_, h⟩ | ⟨b, off, c, h1, h2, h3, h4⟩
    · cases h
    · exact ⟨b, off, c, h1, by simpa using h2, h3, (h4 0 a rfl).1, (h4 0 a rfl).2⟩
  have b0 := bl_alloc (bl_refl w) (.cells #[.int .i64 0, .int .i64 0] 111)
  have b1 := bl_alloc (bl_refl (w.alloc (.cells #[.int .i64 0, .int .i64 0] 111))) (.cells #[.int .i64 a.1, .int .i64 a.2] 111)
  have k0 := heap_mono (World.alloc_heap_new w (.cells #[.int .i64 0, .int .i64 0] 111)) b1
  have k1 := World.alloc_heap_new (w.alloc (.cells #[.int .i64 0, .int .i64 0] 111)) (.cells #[.int .i64 a.1, .int .i64 a.2] 111)
  rw [World.size_alloc] at k1
  have HB := hid (bl_trans b0 b1)
  have K0 := hid k0
  have K1 := hid k1
  have HS := hid hs
  have HIN := hid hin
  have hb3 : b < ((w.alloc (.cells #[.int .i64 0, .int .i64 0] 111)).alloc (.cells #[.int .i64 a.1, .int .i64 a.2] 111)).heap.size := by simp; omega
  clear b0 b1 k0 k1 hs hin
  obtain ⟨BR, hBR⟩ : ∃ BR, bestC a l = BR := ⟨_, rfl⟩
  have HBR := hid hBR
  rw [hBR]
  clear hBR
  go_enter Try.func90, Try.ntmps90
  go_upto_region 2 with (fail)
  obtain ⟨w0, hw0⟩ : ∃ w0, (w.alloc (.cells #[.int .i64 0, .int .i64 0] 111)).alloc (.cells #[.int .i64 a.1, .int .i64 a.2] 111) = w0 := ⟨_, rfl⟩
  rw [hw0] at HB K0 K1 hb3 ⊢
  clear hw0 hc0 hc1
  obtain ⟨R, hR⟩ : ∃ R, w.heap.size = R := ⟨_, rfl⟩
  obtain ⟨O, hO⟩ : ∃ O, R + 1 = O := ⟨_, rfl⟩
  have hRO : R ≠ O := by omega
  have HRw := hid (show w.heap.size ≤ R ∧ w.heap.size ≤ O by omega)
  rw [hR] at K0 K1 ⊢
  rw [hO] at K1 ⊢
  have hlI : IntKind.i64.wrap (l.length : Int) = (l.length : Int) := IntWalk.i64_in _ (by omega)
  go_cut [12, 13, 14] from 11 to 14 (fun s ln z wx => (∃ A cc, s = .slice A l.length cc ∧ SidesI w (.slice A l.length cc) l) ∧ ln = .int .i64 (l.length : Int) ∧ z = .int .i64 0 ∧ wx = w0)
  case first =>
    have hT := HS.out.tail
    by_cases hc1 : c = 1
    · subst hc1
      obtain rfl : l = [] := List.eq_nil_of_length_eq_zero (by omega)
      have HT := hid (SidesI.bare (off := off) hbl)
      clear hT
      go_wp2
      go_meet
      case rel => exact ⟨⟨_, _, rfl, HT.out⟩, rfl, rfl, rfl⟩
    · have HT := hid hT
      obtain ⟨c', rfl⟩ : ∃ c', c = c' + 2 := ⟨c - 2, by omega⟩
      clear hT
      go_wp2
      go_meet
      case rel => exact ⟨⟨_, _, rfl, HT.out⟩, rfl, rfl, rfl⟩
  case rest =>
  obtain ⟨⟨A, cc, rfl, hil⟩, rfl, rfl, hwc⟩ := hcut
  subst wc
  have HIL := hid hil
  clear hil
  have HOR0 := hid (OnlyB.refl [O] w0)
  go_wp2
  go_loopw [14] (fun p wr => ∃ (k : Nat) (o : Corner), k ≤ l.length ∧ p = .int .i64 (k : Int) ∧ inBox o ∧ wr.heap[O]? = some (.cells #[.int .i64 o.1, .int .i64 o.2] 111 (0, 0)) ∧ bestC o (l.drop k) = BR ∧ OnlyB [O] w0 wr ∧ Below w.heap.size w wr) (fun p _ => l.length - (intOf p).toNat)
  case atStart => exact ⟨0, a, Nat.zero_le _, rfl, HIN.out a (by simp), K1.out, HBR.out, HOR0.out, HB.out⟩
  case round =>
    obtain ⟨k, o, hk, rfl, hbo, ho, hbr, hob, hB⟩ := hrel
    have HBO := hid hbo
    have HO := hid ho
    have HBRk := hid hbr
    have HOB := hid hob
    have HBr := hid hB
    have o0 : wr.cell? ⟨O, 0, none⟩ = some (.int .i64 o.1) := cell_of_heap ho
    have o1 : wr.cell? ⟨O, 1, none⟩ = some (.int .i64 o.2) := cell_of_heap ho
    have ol := (Array.getElem?_eq_some_iff.1 ho).1
    have hilr := HIL.out.mono hB
    by_cases hlt : k < l.length
    · obtain ⟨y, hy⟩ := get_at hlt
      have hyi := HIN.out y (by simp [List.mem_of_getElem? hy])
      have hdr : l.drop k = y :: l.drop (k + 1) := List.drop_eq_getElem_cons hlt ▸ by rw [(List.getElem?_eq_some_iff.1 hy).2]
      rw [hdr] at hbr
      have hbr2 : (if o.1 * o.2 < y.1 * y.2 then bestC y (l.drop (k + 1)) else bestC o (l.drop (k + 1))) = BR := hbr
      have HBR2 := hid hbr2
      obtain ⟨bb, oo, hA, hbb, h0, h1⟩ : ∃ bb oo, A = some ⟨bb, oo, none⟩ ∧ bb < wr.heap.size ∧ wr.cell? ⟨bb, oo + k * 2, none⟩ = some (.int .i64 y.1) ∧ wr.cell? ⟨bb, oo + k * 2 + 1, none⟩ = some (.int .i64 y.2) := by
        rcases hilr with ⟨hv, h0⟩ | ⟨bb, oo, c3, hv, h4, h5, h6⟩
        · rw [h0] at hlt; simp at hlt
        · injection hv with hv1 hv2 hv3
          exact ⟨bb, oo, hv1, h5, (h6 k y hy).1, (h6 k y hy).2⟩
      subst hA
      have bY := bl_alloc (bl_refl wr) (.cells #[.int .i64 y.1, .int .i64 y.2] 111)
      have HY := hid (World.alloc_heap_new wr (.cells #[.int .i64 y.1, .int .i64 y.2] 111))
      have HO2 := hid (heap_mono HO.out bY)
      have HOB2 := hid (HOB.out.trans (OnlyB.below bY))
      have HB2 := hid (bl_trans HBr.out bY)
      have HYI := hid hyi
      have hOl : O < wr.heap.size := ol
      clear hilr hy hdr hbr hbr2 hbo ho hob hB hyi bY HO HOB HBr
      go_upto_region 5 with (fail)
      obtain ⟨Y, hY⟩ : ∃ Y, wr.heap.size = Y := ⟨_, rfl⟩
      obtain ⟨w1, hw1⟩ : ∃ w1, wr.alloc (.cells #[.int .i64 y.1, .int .i64 y.2] 111) = w1 := ⟨_, rfl⟩
      rw [hY] at HY hOl ⊢
      rw [hw1] at HY HO2 HOB2 HB2 ⊢
      have hOY : O ≠ Y := by omega
      clear hw1 hY o0 o1 ol h0 h1 hbb
      have o0 : w1.cell? ⟨O, 0, none⟩ = some (.int .i64 o.1) := cell_of_heap HO2.out
      have o1 : w1.cell? ⟨O, 1, none⟩ = some (.int .i64 o.2) := cell_of_heap HO2.out
      have ol := (Array.getElem?_eq_some_iff.1 HO2.out).1
      have y0 : w1.cell? ⟨Y, 0, none⟩ = some (.int .i64 y.1) := cell_of_heap HY.out
      have y1 : w1.cell? ⟨Y, 1, none⟩ = some (.int .i64 y.2) := cell_of_heap HY.out
      have yl := (Array.getElem?_eq_some_iff.1 HY.out).1
      have hcall := better_any y o w1 HYI.out HBO.out
      by_cases hbt : o.1 * o.2 < y.1 * y.2
      · rw [decide_eq_true hbt] at hcall
        have HBR3 := hid (show bestC y (l.drop (k + 1)) = BR by have h := HBR2.out; rw [if_pos hbt] at h; exact h)
        clear hbt
        go_wp2_with fail
        refine hcall.mono ?_
        rintro e w2 ⟨rfl, hb2⟩
        have HO3 := hid (heap_mono HO2.out hb2)
        have HY3 := hid (heap_mono HY.out hb2)
        have HOB3 := hid (HOB2.out.trans (OnlyB.below hb2))
        have HB3 := hid (bl_trans HB2.out hb2)
        have of' : ∀ i, w2.frozen? ⟨O, i, none⟩ = false := fun i => frozen_of_heap HO3.out
        have ol2 := (Array.getElem?_eq_some_iff.1 HO3.out).1
        have oc0 : w2.cell? ⟨O, 0, none⟩ = some (.int .i64 o.1) := cell_of_heap HO3.out
        have oc1 : w2.cell? ⟨O, 1, none⟩ = some (.int .i64 o.2) := cell_of_heap HO3.out
        have yc0 : w2.cell? ⟨Y, 0, none⟩ = some (.int .i64 y.1) := cell_of_heap HY3.out
        have yc1 : w2.cell? ⟨Y, 1, none⟩ = some (.int .i64 y.2) := cell_of_heap HY3.out
        have yl2 := (Array.getElem?_eq_some_iff.1 HY3.out).1
        have HO4 := hid (set_two HO3.out (.int .i64 y.1) (.int .i64 y.2))
        have HOB4 := hid (HOB3.out.trans ((OnlyB.set (bs := [O]) (B := O) (o := 0) (u := .int .i64 y.1) (by simp)).trans (OnlyB.set (bs := [O]) (B := O) (o := 1) (u := .int .i64 y.2) (by simp))))
        have HB4 := hid (bl_set (o := 1) (bl_set (o := 0) HB3.out (.int .i64 y.1) HRw.out.2) (.int .i64 y.2) HRw.out.2)
        clear hcall hb2 o0 o1 ol y0 y1 yl
        go_wp2
        go_roundw
        case rel => exact ⟨k + 1, y, by omega, by go_num, HYI.out, HO4.out, HBR3.out, HOB4.out, HB4.out⟩
        case measure => simp [intOf]; omega
      · rw [decide_eq_false hbt] at hcall
        have HBR3 := hid (show bestC o (l.drop (k + 1)) = BR by have h := HBR2.out; rw [if_neg hbt] at h; exact h)
        clear hbt
        go_wp2_with fail
        refine hcall.mono ?_
        rintro e w2 ⟨rfl, hb2⟩
        have HO3 := hid (heap_mono HO2.out hb2)
        have HOB3 := hid (HOB2.out.trans (OnlyB.below hb2))
        have HB3 := hid (bl_trans HB2.out hb2)
        clear hcall hb2 o0 o1 ol y0 y1 yl
        go_wp2
        go_roundw
        case rel => exact ⟨k + 1, o, by omega, by go_num, HBO.out, HO3.out, HBR3.out, HOB3.out, HB3.out⟩
        case measure => simp [intOf]; omega
    · obtain rfl : k = l.length := by omega
      rw [List.drop_length] at hbr
      have hbo2 : o = BR := hbr
      subst hbo2
      have hr := heap_only hob K0.out (by simp; exact hRO)
      have r0 : wr.cell? ⟨R, 0, none⟩ = some (.int .i64 0) := cell_of_heap hr
      have r1 : wr.cell? ⟨R, 1, none⟩ = some (.int .i64 0) := cell_of_heap hr
      have rf : ∀ i, wr.frozen? ⟨R, i, none⟩ = false := fun i => frozen_of_heap hr
      have rl := (Array.getElem?_eq_some_iff.1 hr).1
      have HRS := hid (set_two hr (.int .i64 o.1) (.int .i64 o.2))
      have HB4 := hid (bl_set (o := 1) (bl_set (o := 0) hB (.int .i64 o.1) HRw.out.1) (.int .i64 o.2) HRw.out.1)
      clear hilr hbr hbo ho hob hB hr hlt
      go_wp2
      have c0 := cell_of_heap (i := 0) HRS.out
      have c1 := cell_of_heap (i := 1) HRS.out
      refine bodyPost_ret (v := .agg #[.int .i64 o.1, .int .i64 o.2]) (by simp [results, Try.results90, go_sem, c0, c1]) rfl ⟨rfl, HB4.out⟩

theorem min_run (a b : Int) (ty : TypeId) (W : World) : (Builtin.min_ #[3, 3] ty #[.int .i64 a, .int .i64 b]).run Try.prog W = .ok (.int .i64 (min a b)) W := by
  have h : (Builtin.min2 (.int .i64 a) (.int .i64 b)).run Try.prog W = .ok (.int .i64 (min a b)) W := by
    unfold Builtin.min2
    simp only
    by_cases hab : a ≤ b
    · rw [Int.min_eq_left hab]; simp; try omega
    · rw [Int.min_eq_right (by omega)]; simp; try omega
  simp [Builtin.min_, go_sem, h]
theorem sides_own_any {w : World} {base n : Nat} {e : TypeId} {v : Value} {l : List Side} (hl : l.length = n) (h : w.ownsRow base e 2 v n (byC l)) : SidesI w v l := by
  subst hl
  rcases h.2 with ⟨rfl, h0⟩ | ⟨g, cap, cur, rfl, _, hg, hc, _, _, ht⟩
  · exact .inl ⟨rfl, List.eq_nil_of_length_eq_zero h0⟩
  · refine .inr ⟨g, 0, cap, rfl, hc, (Array.getElem?_eq_some_iff.1 hg).1, fun i x hx => ?_⟩
    have h2 := h.cells (g := g) rfl (i * 2) (.int .i64 x.1) (byC_at hx).1
    have h3 := h.cells (g := g) rfl (i * 2 + 1) (.int .i64 x.2) (byC_at hx).2
    rw [Addr.add_lit] at h2 h3
    rw [Nat.zero_add] at *
    exact ⟨h2, h3⟩
theorem info111 : (Try.prog.info? 111).map (fun i => (i.zero, i.size, i.bytes)) = some (some (.agg #[.int .i64 0, .int .i64 0]), 2, 16) := by kernel_rfl
theorem most_ne {sticks wide high : Int} (hw : 1 ≤ wide ∧ wide ≤ 8) (hh : 1 ≤ high ∧ high ≤ 8) (hs : 4 ≤ sticks) : ∃ x l, mostL sticks wide high = x :: l := by
  unfold mostL
  obtain ⟨f, hf⟩ : ∃ f, wide.toNat = f + 1 := ⟨wide.toNat - 1, by omega⟩
  rw [hf]
  unfold mostFrom
  have h2 : 2 ≤ Int.tdiv sticks 2 := by
    rw [Int.tdiv_eq_ediv_of_nonneg (by omega)]; omega
  rw [if_pos (by unfold boxH; omega)]
  exact ⟨_, _, rfl⟩
theorem mostFrom_in {sticks high : Int} (hh : high ≤ 8) : ∀ (f : Nat) (w : Int), 0 ≤ w → w + f ≤ 9 → ∀ x ∈ mostFrom sticks high f w, inBox x
  | 0, _, _, _, x, hx => by simp [mostFrom] at hx
  | f + 1, w, h0, h1, x, hx => by
    unfold mostFrom at hx
    split at hx
    · next h =>
      rcases List.mem_cons.1 hx with rfl | hx
      · unfold boxH at h; unfold inBox boxH; simp only; omega
      · exact mostFrom_in hh f (w + 1) (by omega) (by omega) x hx
    · exact mostFrom_in hh f (w + 1) (by omega) (by omega) x hx
theorem mostFrom_len {sticks high : Int} : ∀ (f : Nat) (w : Int), (mostFrom sticks high f w).length ≤ f
  | 0, _ => by simp [mostFrom]
  | f + 1, w => by
    unfold mostFrom
    have := mostFrom_len (sticks := sticks) (high := high) f (w + 1)
    split
    · simp; omega
    · omega

set_option maxRecDepth 100000 in
set_option maxHeartbeats 8000000 in
theorem most_any (sticks wide high : Int) (w : World) (hst : -9223372036854775808 ≤ sticks ∧ sticks ≤ 9223372036854775807) :
    Calls Try.prog 43 #[.int .i64 sticks, .int .i64 wide, .int .i64 high] w fun e w' => e = .returned (.tuple #[.int .i64 ((mostB sticks wide high).1 * (mostB sticks wide high).2), .int .i64 (mostB sticks wide high).1, .int .i64 (mostB sticks wide high).2, .int .i64 (mostE sticks wide high)]) ∧ Below w.heap.size w w' := by
  obtain ⟨i111, hi, hj0, hj1, hj2⟩ := info_parts info111
  have hb0 := hid (bl_alloc (bl_refl w) (.cells #[.int .i64 wide, .int .i64 high] 3))
  have hcall := within_any 1 8 [wide, high] (.slice (some ⟨w.heap.size, 0, none⟩) 2 2) (w.alloc (.cells #[.int .i64 wide, .int .i64 high] 3)) (by simp) (ints_row (l := [wide, high]) (World.alloc_heap_new w _))
  rw [within_two] at hcall
  obtain ⟨ME, hME⟩ : ∃ ME, mostE sticks wide high = ME := ⟨_, rfl⟩
  have HME := hid hME
  obtain ⟨MB, hMB⟩ : ∃ MB, mostB sticks wide high = MB := ⟨_, rfl⟩
  have HMB := hid hMB
  rw [hME, hMB]
  clear hME hMB
  go_enter Try.func43, Try.ntmps43
  by_cases hr : 1 ≤ wide ∧ wide ≤ 8 ∧ 1 ≤ high ∧ high ≤ 8
  case neg =>
    have hd : (decide (1 ≤ wide ∧ wide ≤ 8) && decide (1 ≤ high ∧ high ≤ 8)) = false := by
      cases h : (decide (1 ≤ wide ∧ wide ≤ 8) && decide (1 ≤ high ∧ high ≤ 8)) with
      | false => rfl
      | true => simp at h; exact absurd (by omega) hr
    rw [hd] at hcall
    have e1 : ME = 3 := by rw [← HME.out]; unfold mostE; rw [if_pos hr]
    have e2 : MB = (0, 0) := by rw [← HMB.out]; unfold mostB; rw [HME.out, e1]; rfl
    subst e1 e2
    clear hd hr
    go_wp2_with fail
    refine hcall.mono ?_
    rintro e w1 ⟨rfl, hb1⟩
    have HB1 := hid (bl_trans hb0.out hb1)
    clear hcall hb1
    go_wp2
    refine bodyPost_ret (v := .tuple #[.int .i64 (0 * 0), .int .i64 0, .int .i64 0, .int .i64 3]) (by simp [results, Try.results43, go_sem]) rfl ⟨rfl, HB1.out⟩
  have hd : (decide (1 ≤ wide ∧ wide ≤ 8) && decide (1 ≤ high ∧ high ≤ 8)) = true := by simp; omega
  rw [hd] at hcall
  clear hd
  go_wp2_with fail
  refine hcall.mono ?_
  rintro e w1 ⟨rfl, hb1⟩
  have HB1 := hid (bl_trans hb0.out hb1)
  clear hcall hb1
  by_cases h4 : sticks < 4
  · have t1 : decide (sticks < 4) = true := decide_eq_true h4
    have e1 : ME = 5 := by rw [← HME.out]; unfold mostE; rw [if_neg (by simpa using hr), if_pos h4]
    have e2 : MB = (0, 0) := by rw [← HMB.out]; unfold mostB; rw [HME.out, e1]; rfl
    subst e1 e2
    clear h4
    go_wp2
    refine bodyPost_ret (v := .tuple #[.int .i64 (0 * 0), .int .i64 0, .int .i64 0, .int .i64 5]) (by simp [results, Try.results43, go_sem]) rfl ⟨rfl, HB1.out⟩
  have t1 : decide (sticks < 4) = false := decide_eq_false h4
  have e1 : ME = 0 := by rw [← HME.out]; unfold mostE; rw [if_neg (by simpa using hr), if_neg h4]
  obtain ⟨x0, l0, hml⟩ := most_ne (sticks := sticks) (wide := wide) (high := high) ⟨hr.1, hr.2.1⟩ hr.2.2 (by omega)
  have e2 : bestC x0 l0 = MB := by rw [← HMB.out]; unfold mostB; rw [HME.out, e1, if_pos rfl, hml]
  have HBC := hid e2
  have HML := hid hml
  subst e1
  clear e2 hml
  obtain ⟨wn, rfl⟩ : ∃ wn : Nat, wide = (wn : Int) := ⟨wide.toNat, by omega⟩
  go_wp2
  have HL0 := hid (show ([] : List Corner) ++ mostFrom sticks high (wn - 0) (((0 : Nat) : Int) + 1) = mostL sticks (wn : Int) high by unfold mostL; simp)
  go_loopw [10, 11] (fun o p wr => ∃ (k : Nat) (v : Value) (L : List Corner), k ≤ wn ∧ p = .int .i64 ((k : Int) + 1) ∧ o = v ∧ L ++ mostFrom sticks high (wn - k) ((k : Int) + 1) = mostL sticks (wn : Int) high ∧ L.length ≤ k ∧ wr.ownsRow w1.heap.size 111 2 v L.length (byC L) ∧ Below w1.heap.size w1 wr) (fun _ p _ => wn + 1 - (intOf p).toNat)
  case atStart => exact ⟨0, _, [], Nat.zero_le _, rfl, rfl, HL0.out, Nat.le_refl _, World.ownsRow_nil _ _ _ _, bl_refl _⟩
  case round =>
    clear HL0
    obtain ⟨k, v, L, hk, rfl, hov, hL, hLk, hown, hB⟩ := hrel
    obtain rfl := hov.symm
    have HL := hid hL
    have HOW := hid hown
    have HB := hid hB
    obtain ⟨OA, oc, hov2⟩ : ∃ A c, v = .slice A L.length c := by
      rcases hown.2 with ⟨rfl, h0⟩ | ⟨g, cap, cur, rfl, _⟩
      · rw [h0]; exact ⟨none, 0, rfl⟩
      · exact ⟨_, _, rfl⟩
    subst hov2
    have htd : Int.tdiv sticks 2 = sticks / 2 := Int.tdiv_eq_ediv_of_nonneg (by omega)
    have wt1 : IntKind.i64.wrap (sticks / 2) = sticks / 2 := IntWalk.i64_in _ (by omega)
    have wt2 : IntKind.i64.wrap (sticks / 2 - ((k : Int) + 1)) = sticks / 2 - ((k : Int) + 1) := IntWalk.i64_in _ (by omega)
    have wt3 : IntKind.i64.wrap ((k : Int) + 1 + 1) = (k : Int) + 1 + 1 := IntWalk.i64_in _ (by omega)
    have hmn := min_run high (sticks / 2 - ((k : Int) + 1)) 3
    have hbh : boxH sticks high ((k : Int) + 1) = min high (sticks / 2 - ((k : Int) + 1)) := by unfold boxH; rw [htd]
    obtain ⟨H, hH⟩ : ∃ H, min high (sticks / 2 - ((k : Int) + 1)) = H := ⟨_, rfl⟩
    rw [hH] at hmn hbh
    have hbs := hB.size
    clear hL hown hB hH
    by_cases hlt : k < wn
    · have t2 : decide ((k : Int) + 1 ≤ (wn : Int)) = true := decide_eq_true (by omega)
      have hf : mostFrom sticks high (wn - k) ((k : Int) + 1) = if 0 < H then ((k : Int) + 1, H) :: mostFrom sticks high (wn - (k + 1)) (((k + 1 : Nat) : Int) + 1) else mostFrom sticks high (wn - (k + 1)) (((k + 1 : Nat) : Int) + 1) := by
        rw [show wn - k = (wn - (k + 1)) + 1 by omega]
        conv => lhs; unfold mostFrom
        rw [hbh]; rfl
      by_cases hp : 0 < H
      · have t3 : decide (0 < H) = true := decide_eq_true hp
        rw [if_pos hp] at hf
        have HL2 := hid (show (L ++ [((k : Int) + 1, H)]) ++ mostFrom sticks high (wn - (k + 1)) (((k + 1 : Nat) : Int) + 1) = mostL sticks (wn : Int) high by rw [← HL.out, hf, List.append_assoc]; rfl)
        have oN := HOW.out.alloc (.cells #[.int .i64 ((k : Int) + 1), .int .i64 H] 111)
        have bN := hid (bl_alloc HB.out (.cells #[.int .i64 ((k : Int) + 1), .int .i64 H] 111))
        clear hp hf hbh
        go_wp2_with (at_builtin; first | (refine wpList_append_own _ rfl _ _ 120 rfl w1.heap.size 111 i111 (.agg #[.int .i64 0, .int .i64 0]) 2 16 Try.underlying120 hi hj0 hj1 hj2 rfl (by decide) (.slice OA L.length oc) L.length (byC L) rfl oN ⟨wr.heap.size, 0, none⟩ 1 1 [.int .i64 ((k : Int) + 1), .int .i64 H] rfl rfl (new_two (World.alloc_heap_new wr _)) (fun z hz => by simp at hz; rcases hz with rfl | rfl <;> rfl) (by unfold maxLen; omega) (by omega) (by simp; omega) ?_; intro v' w8 hown' hgrow hnil; have HB8 := hid (bl_grown bN.out oN (by omega) hgrow); have HOW8 := hid hown'; clear hown' hgrow hnil) | fail)
        go_roundw
        case rel => exact ⟨k + 1, _, L ++ [((k : Int) + 1, H)], by omega, by go_num, rfl, HL2.out, by simp; omega, by rw [byC_app, List.length_append]; exact HOW8.out, HB8.out⟩
        case measure => simp [intOf]; omega
      · have t3 : decide (0 < H) = false := decide_eq_false hp
        rw [if_neg hp] at hf
        have HL2 := hid (show L ++ mostFrom sticks high (wn - (k + 1)) (((k + 1 : Nat) : Int) + 1) = mostL sticks (wn : Int) high by rw [← HL.out, hf])
        clear hp hf hbh
        go_wp2
        go_roundw
        case rel => exact ⟨k + 1, _, L, by omega, by go_num, rfl, HL2.out, by omega, HOW.out, HB.out⟩
        case measure => simp [intOf]; omega
    · obtain rfl : k = wn := by omega
      have t2 : decide ((k : Int) + 1 ≤ (k : Int)) = false := decide_eq_false (by omega)
      have hL2 : L = x0 :: l0 := by rw [← HML.out, ← HL.out, Nat.sub_self]; simp [mostFrom]
      subst hL2
      have hinb : ∀ x ∈ x0 :: l0, inBox x := fun x hx => by
        rw [← HML.out] at hx
        exact mostFrom_in (by omega) _ 1 (by omega) (by omega) x hx
      have hln : (x0 :: l0).length ≤ 8 := by rw [← HML.out]; have := mostFrom_len (sticks := sticks) (high := high) ((k : Int)).toNat 1; unfold mostL; omega
      have hcall := best_any x0 l0 (.slice OA (x0 :: l0).length oc) wr (by simp at hln; omega) (sides_own_any rfl HOW.out) hinb
      rw [HBC.out] at hcall
      have hmi : inBox MB := by rw [← HBC.out]; exact bestC_in (hinb x0 (by simp)) fun x hx => hinb x (List.mem_cons_of_mem _ hx)
      obtain ⟨m1, m2⟩ := MB
      simp only [inBox] at hmi
      simp only at hcall ⊢
      have hmm : 0 ≤ m1 * m2 ∧ m1 * m2 ≤ 64 := ⟨Int.mul_nonneg hmi.1.1 hmi.2.1, by have := Int.mul_le_mul hmi.1.2 hmi.2.2 hmi.2.1 (by omega : (0 : Int) ≤ 8); omega⟩
      have wm : IntKind.i64.wrap (m1 * m2) = m1 * m2 := IntWalk.i64_in _ (by omega)
      have HBW := hid (bl_trans HB1.out HB.out)
      clear hinb hln hmi hmm hlt hmn hbh HL HOW HB
      go_wp2_with fail
      refine hcall.mono ?_
      rintro e w2 ⟨rfl, hb2⟩
      have bS := bl_alloc (bl_refl w2) (.cells #[.int .i64 m1, .int .i64 m2] 111)
      have HS := hid (World.alloc_heap_new w2 (.cells #[.int .i64 m1, .int .i64 m2] 111))
      have HB3 := hid (bl_trans HBW.out (bl_trans hb2 bS))
      clear hcall hb2 bS
      go_upto_region 13 with (fail)
      obtain ⟨S, hS⟩ : ∃ S, w2.heap.size = S := ⟨_, rfl⟩
      obtain ⟨w3, hw3⟩ : ∃ w3, w2.alloc (.cells #[.int .i64 m1, .int .i64 m2] 111) = w3 := ⟨_, rfl⟩
      rw [hS] at HS ⊢
      rw [hw3] at HS HB3 ⊢
      clear hS hw3
      have s0 : w3.cell? ⟨S, 0, none⟩ = some (.int .i64 m1) := cell_of_heap HS.out
      have s1 : w3.cell? ⟨S, 1, none⟩ = some (.int .i64 m2) := cell_of_heap HS.out
      have sl := (Array.getElem?_eq_some_iff.1 HS.out).1
      refine wp_region_below (by kernel_rfl) (by kernel_rfl) ?_
      repeat (first | go_big_quiet_step (fail) | quiet_step (fail))
      refine wpQuiet_nil ?_
      intro w4 hb4
      have HB4 := hid (bl_trans HB3.out hb4)
      clear s0 s1 sl hb4
      go_wp2
      refine bodyPost_ret (v := .tuple #[.int .i64 (m1 * m2), .int .i64 m1, .int .i64 m2, .int .i64 0]) (by simp [results, Try.results43, go_sem]) rfl ⟨rfl, HB4.out⟩
end Go.Proofs.Ytlkoadcbolkhoaa
