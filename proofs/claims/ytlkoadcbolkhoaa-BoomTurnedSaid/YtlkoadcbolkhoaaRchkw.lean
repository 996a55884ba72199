/- The reference's CheckWays: the walk. -/
import Derived.Maps.AppendAt
import Derived.Test.YtlkoadcbolkhoaaRsides
import Derived.Test.YtlkoadcbolkhoaaChkw
set_option linter.all false
namespace Go.Proofs.Ytlkoadcbolkhoaa
open Go Go.RowKit Go.Proofs
attribute [local go_sem] cell_grow frozen_grow

def sidesXR (wd hg : Int) (x : Way) : List Int := match x.cells with
  | [] => []
  | a :: t => sidesR wd hg a t x.out
def dupR : List Int → List Int → Bool
  | _, [] => false
  | u, x :: l => if u.contains x = true then true else dupR (u ++ [x]) l
def waysRE (wd hg : Int) (want keep : List Int) (l : List Way) : Int :=
  if pondE wd hg want keep ≠ 0 then pondE wd hg want keep
  else if 256 < l.length ∨ l.any wayLong = true then 6
  else if l.any (wayStray (wd * hg)) = true then 2
  else if l.any (fun x => !isWayB wd hg want keep x) = true then 16
  else if dupR [] (l.flatMap (sidesXR wd hg)) = true then 11 else 0
def waysRV (wd hg : Int) (want keep : List Int) (l : List Way) : Int := if waysRE wd hg want keep l = 0 then (l.length : Int) else 0
theorem dupR_app {u l m : List Int} : dupR u (l ++ m) = (dupR u l || dupR (u ++ l) m) := by
  induction l generalizing u with
  | nil => simp [dupR]
  | cons x l ih =>
    show (if u.contains x = true then true else dupR (u ++ [x]) (l ++ m)) = ((if u.contains x = true then true else dupR (u ++ [x]) l) || dupR (u ++ x :: l) m)
    split
    · rfl
    · rw [ih, List.append_assoc]; rfl
/-- A row of the call's own that reads as the list. -/
def OwnI (base : Nat) (W : World) (v : Value) (L : List Int) : Prop := W.ownsRow base 3 1 v L.length (L.map (Value.int .i64))
theorem OwnI.mono {base : Nat} {W W' : World} {v : Value} {L : List Int} (h : OwnI base W v L) (hb : Below W.heap.size W W') : OwnI base W' v L := own_mono h hb
theorem wayLong_yes {x : Way} (h : (x.cells.length : Int) < 1 ∨ 64 < (x.cells.length : Int)) : wayLong x = true := by
  unfold wayLong; rw [within_one, Bool.not_eq_true', Bool.and_eq_false_iff]
  rcases h with h | h
  · exact .inl (decide_eq_false (by omega))
  · exact .inr (decide_eq_false (by omega))
theorem wayLong_no {x : Way} (h : ¬ (x.cells.length : Int) < 1) (h2 : ¬ 64 < (x.cells.length : Int)) : wayLong x = false := by
  unfold wayLong; rw [within_one, decide_eq_true (by omega), decide_eq_true (by omega)]; rfl
theorem wayLong_len {x : Way} (h : wayLong x = false) : x.cells.length ≤ 64 := by
  unfold wayLong at h
  rw [within_one, Bool.not_eq_false', Bool.and_eq_true] at h
  have := of_decide_eq_true h.2
  omega
theorem wayStray_cell {n : Int} {x : Way} {c : Int} (hc : c ∈ x.cells) (h : c < 0 ∨ n ≤ c) : wayStray n x = true := by
  unfold wayStray withinB badB
  rw [Bool.or_eq_true]
  left
  simp only [Bool.not_not, List.any_eq_true]
  exact ⟨c, hc, by simp; omega⟩
theorem wayStray_out {n : Int} {x : Way} (h : x.out < -1 ∨ 3 < x.out) : wayStray n x = true := by
  unfold wayStray
  rw [Bool.or_eq_true]
  right
  rw [within_one, Bool.not_eq_true', Bool.and_eq_false_iff]
  rcases h with h | h
  · exact .inl (decide_eq_false (by omega))
  · exact .inr (decide_eq_false (by omega))
theorem wayStray_no {n : Int} {x : Way} (h : NoP (fun c => decide (c < 0) || decide (n ≤ c)) x.cells x.cells.length) (h2 : ¬ x.out < -1) (h3 : ¬ 3 < x.out) : wayStray n x = false := by
  unfold wayStray
  rw [within_one, decide_eq_true (by omega), decide_eq_true (by omega)]
  have : withinB 0 (n - 1) x.cells = true := by
    unfold withinB
    rw [Bool.not_eq_true', List.any_eq_false]
    intro c hc
    obtain ⟨i, hi, rfl⟩ := List.mem_iff_getElem.mp hc
    have := h i (x.cells[i]) hi (by simp [hi])
    simp only [Bool.or_eq_false_iff, decide_eq_false_iff_not] at this
    unfold badB
    simp; omega
  rw [this]; rfl

set_option maxRecDepth 100000 in
set_option maxHeartbeats 8000000 in
theorem rchkw_any {wd hg : Int} {sw sk sv : Value} {want keep : List Int} {l : List Way} (w : World) (hlw : want.length ≤ 1000000) (hlk : keep.length ≤ 1000000) (hll : l.length ≤ 1000000) (hlc : ∀ x ∈ l, x.cells.length ≤ 1000000) (hw : Ints w sw want) (hk : Ints w sk keep) (hv : WaysI w sv l) :
    Calls Try.prog 35 #[.agg #[.int .i64 wd, .int .i64 hg, sw, sk], sv] w fun e w' => e = .returned (.tuple #[.int .i64 (waysRV wd hg want keep l), .int .i64 (waysRE wd hg want keep l)]) ∧ Below w.heap.size w w' := by
  obtain ⟨i3, hi3, hi30, hi31, hi32⟩ := info_parts info3
  obtain ⟨A, c, rfl⟩ := hv.slice
  have hb0 := bl_alloc (bl_refl w) (.cells #[.int .i64 wd, .int .i64 hg, sw, sk] 24)
  have k0 := World.alloc_heap_new w (.cells #[.int .i64 wd, .int .i64 hg, sw, sk] 24)
  have HB0 := hid hb0
  have HK0 := hid k0
  have HW := hid (hw.mono hb0)
  have HKp := hid (hk.mono hb0)
  have HV := hid (hv.mono hb0)
  have HLC := hid hlc
  clear hw hk hv hb0 k0 hlc
  obtain ⟨E, hE⟩ : ∃ E, pondE wd hg want keep = E := ⟨_, rfl⟩
  have HE := hid hE
  obtain ⟨VV, hVV⟩ : ∃ V, waysRV wd hg want keep l = V := ⟨_, rfl⟩
  have HVV := hid hVV
  obtain ⟨VE, hVE⟩ : ∃ V, waysRE wd hg want keep l = V := ⟨_, rfl⟩
  have HVE := hid hVE
  rw [hVV, hVE]
  clear hE hVV hVE
  go_enter Try.func35, Try.ntmps35
  go_upto_region 1 with (fail)
  obtain ⟨w1, hw1⟩ : ∃ w1, w.alloc (.cells #[.int .i64 wd, .int .i64 hg, sw, sk] 24) = w1 := ⟨_, rfl⟩
  obtain ⟨X, hX⟩ : ∃ X, w.heap.size = X := ⟨_, rfl⟩
  have HXs := hid hX
  rw [hX] at HK0 ⊢
  rw [hw1] at HB0 HK0 HW HKp HV ⊢
  clear hw1 hX
  have hcall := rpond_any (wd := wd) (hg := hg) w1 hlw hlk HW.out HKp.out
  rw [HE.out] at hcall
  have q0 : w1.cell? ⟨X, 0, none⟩ = some (.int .i64 wd) := cell_of_heap HK0.out
  have q1 : w1.cell? ⟨X, 1, none⟩ = some (.int .i64 hg) := cell_of_heap HK0.out
  have q2 : w1.cell? ⟨X, 2, none⟩ = some sw := cell_of_heap HK0.out
  have q3 : w1.cell? ⟨X, 3, none⟩ = some sk := cell_of_heap HK0.out
  have ql := (Array.getElem?_eq_some_iff.1 HK0.out).1
  go_wp2_with fail
  refine hcall.mono ?_
  rintro e w2 ⟨rfl, hb2⟩
  have HB2 := hid (bl_trans HB0.out hb2)
  have HK2 := hid (heap_mono HK0.out hb2)
  have HW2 := hid (HW.out.mono hb2)
  have HKp2 := hid (HKp.out.mono hb2)
  have HV2 := hid (HV.out.mono hb2)
  clear q0 q1 q2 q3 ql hcall HB0 HK0 hb2 HW HKp HV
  by_cases h0 : E = 0
  case neg =>
    have t0 : (E == 0) = false := beq_eq_false_iff_ne.2 h0
    have he : VE = E := by rw [← HVE.out]; unfold waysRE; rw [HE.out, if_pos h0]
    have hvv : VV = 0 := by rw [← HVV.out]; unfold waysRV; rw [HVE.out, he, if_neg h0]
    subst he hvv
    have hcall := rpond_any (wd := wd) (hg := hg) w2 hlw hlk HW2.out HKp2.out
    rw [HE.out] at hcall
    have q0 : w2.cell? ⟨X, 0, none⟩ = some (.int .i64 wd) := cell_of_heap HK2.out
    have q1 : w2.cell? ⟨X, 1, none⟩ = some (.int .i64 hg) := cell_of_heap HK2.out
    have q2 : w2.cell? ⟨X, 2, none⟩ = some sw := cell_of_heap HK2.out
    have q3 : w2.cell? ⟨X, 3, none⟩ = some sk := cell_of_heap HK2.out
    have ql := (Array.getElem?_eq_some_iff.1 HK2.out).1
    clear h0
    go_wp2_with fail
    refine hcall.mono ?_
    rintro e w3 ⟨rfl, hb3⟩
    have HB3 := hid (bl_trans HB2.out hb3)
    clear q0 q1 q2 q3 ql hcall hb3
    go_wp2
    go_ret2
    exact ⟨rfl, HB3.out⟩
  subst h0
  have HVa := hid (pond_valid HE.out)
  have hn0 := HVa.out.cells
  have HN := hid hn0
  by_cases hmany : 256 < l.length
  · have t1 : decide ((256 : Int) < (l.length : Int)) = true := decide_eq_true (by omega)
    have he : VE = 6 := by rw [← HVE.out]; unfold waysRE; rw [HE.out, if_neg (by simp), if_pos (.inl hmany)]
    have hvv : VV = 0 := by rw [← HVV.out]; unfold waysRV; rw [HVE.out, he, if_neg (by decide)]
    subst he hvv
    clear hmany hn0
    go_wp2
    go_ret2
    exact ⟨rfl, HB2.out⟩
  have t1 : decide ((256 : Int) < (l.length : Int)) = false := decide_eq_false (by omega)
  have hmn : l.length ≤ 256 := by omega
  have HE1 := hid (show VE = if l.any wayLong = true then 6 else if l.any (wayStray (wd * hg)) = true then 2 else if l.any (fun x => !isWayB wd hg want keep x) = true then 16 else if dupR [] (l.flatMap (sidesXR wd hg)) = true then 11 else 0 by
    rw [← HVE.out]; unfold waysRE; rw [HE.out, if_neg (by simp)]; simp only [hmany, false_or])
  clear hn0 hmany
  have Elem : Hid (∀ W k x, Below w2.heap.size w2 W → l[k]? = some x → ∃ b off, A = some ⟨b, off, none⟩ ∧ l.length ≤ c ∧ b < W.heap.size ∧ WayAt W b (off + k * 2) x) := fun W k x hb hx => by
    rcases HV2.out.mono hb with ⟨hv, h0⟩ | ⟨b, off, cc, hv, h4, h5, h6⟩
    · rw [h0] at hx; simp at hx
    · injection hv with hv1 hv2 hv3
      subst hv3
      exact ⟨b, off, hv1, h4, h5, h6 k x hx⟩
  go_wp2
  clear t1
  go_loopw [6] (fun p wr => ∃ k : Nat, k ≤ l.length ∧ p = .int .i64 (k : Int) ∧ NoPA wayLong l k ∧ wr = w2) (fun p _ => l.length - (intOf p).toNat)
  case atStart => exact ⟨0, Nat.zero_le _, rfl, fun i _ h => by omega, rfl⟩
  case round =>
  obtain ⟨k, hk, rfl, hno, hwr⟩ := hrel
  subst wr
  have HNO := hid hno
  clear hno
  by_cases hlt : k < l.length
  · obtain ⟨x, hx⟩ := get_at hlt
    obtain ⟨b, off, hA, hcc, hbl, s, hc0, hsi, hc1⟩ := Elem.out w2 k x (bl_refl _) hx
    subst hA
    obtain ⟨SA, sc, rfl⟩ := hsi.slice
    have HX := hid hx
    have hkI : (k : Int) < (l.length : Int) := by omega
    clear hx hsi
    by_cases a1 : (x.cells.length : Int) < 1
    · have t1 : decide ((x.cells.length : Int) < 1) = true := decide_eq_true a1
      have he : VE = 6 := by rw [HE1.out, if_pos (noPA_any HX.out (wayLong_yes (.inl a1)))]
      have hvv : VV = 0 := by rw [← HVV.out]; unfold waysRV; rw [HVE.out, he, if_neg (by decide)]
      subst he hvv
      clear a1
      go_wp2
      go_ret2
      exact ⟨rfl, HB2.out⟩
    have t1 : decide ((x.cells.length : Int) < 1) = false := decide_eq_false a1
    by_cases a2 : 64 < (x.cells.length : Int)
    · have t2 : decide (64 < (x.cells.length : Int)) = true := decide_eq_true a2
      have he : VE = 6 := by rw [HE1.out, if_pos (noPA_any HX.out (wayLong_yes (.inr a2)))]
      have hvv : VV = 0 := by rw [← HVV.out]; unfold waysRV; rw [HVE.out, he, if_neg (by decide)]
      subst he hvv
      clear a1 a2
      go_wp2
      go_ret2
      exact ⟨rfl, HB2.out⟩
    · have t2 : decide (64 < (x.cells.length : Int)) = false := decide_eq_false a2
      have hno2 := hid (noPA_succ HNO.out HX.out (wayLong_no a1 a2))
      clear a1 a2
      go_wp2
      go_roundw
      case rel => exact ⟨k + 1, by omega, by go_num, hno2.out, trivial⟩
      case measure => simp [intOf]; omega
  obtain rfl : k = l.length := by omega
  have HLO := hid (noPA_all HNO.out)
  have HE2 := hid (show VE = if l.any (wayStray (wd * hg)) = true then 2 else if l.any (fun x => !isWayB wd hg want keep x) = true then 16 else if dupR [] (l.flatMap (sidesXR wd hg)) = true then 11 else 0 by rw [HE1.out, HLO.out, if_neg (by simp)])
  clear HNO HE1 hlt
  go_wp2
  go_loopw [7] (fun p wx => ∃ k : Nat, k ≤ l.length ∧ p = .int .i64 (k : Int) ∧ NoPA (wayStray (wd * hg)) l k ∧ Below w2.heap.size w2 wx) (fun p _ => l.length - (intOf p).toNat)
  case atStart => exact ⟨0, Nat.zero_le _, rfl, fun i _ h => by omega, bl_refl _⟩
  case round =>
  obtain ⟨k, hk, rfl, hno, hB⟩ := hrel
  have HNO := hid hno
  have HBr := hid hB
  by_cases hlt : k < l.length
  · obtain ⟨x, hx⟩ := get_at hlt
    obtain ⟨b, off, hA, hcc, hbl, s, hc0, hsi, hc1⟩ := Elem.out wr k x hB hx
    subst hA
    obtain ⟨SA, sc, rfl⟩ := hsi.slice
    have HX := hid hx
    have HSI := hid hsi
    have HC0 := hid hc0
    have HC1 := hid hc1
    have hkI : (k : Int) < (l.length : Int) := by omega
    have hxl := wayLong_len (show wayLong x = false by have := List.any_eq_false.1 HLO.out x (List.mem_of_getElem? hx); simpa using this)
    clear hx hsi hc0 hc1 hno hB
    go_upto_region 14 with (fail)
    obtain ⟨wa, rfl⟩ : ∃ wa, wa = wr := ⟨_, rfl⟩
    go_loopw [8] (fun p wx => ∃ j : Nat, j ≤ x.cells.length ∧ p = .int .i64 (j : Int) ∧ NoP (fun c => decide (c < 0) || decide (wd * hg ≤ c)) x.cells j ∧ Below wa.heap.size wa wx) (fun p _ => x.cells.length - (intOf p).toNat)
    case atStart => exact ⟨0, Nat.zero_le _, rfl, fun i _ h => by omega, bl_refl _⟩
    case round =>
    obtain ⟨j, hj, rfl, hnp, hB⟩ := hrel
    have HNP := hid hnp
    have HBj := hid hB
    have hc0 := cell_mono HC0.out hB
    have hc1 := cell_mono HC1.out hB
    have hbw : b < wr.heap.size := by have := hB.size; omega
    by_cases hlj : j < x.cells.length
    · obtain ⟨y, hy⟩ := get_at hlj
      obtain ⟨bb, oo, hSA, hbb, hcy⟩ : ∃ bb oo, SA = some ⟨bb, oo, none⟩ ∧ bb < wr.heap.size ∧ wr.cell? ⟨bb, oo + j, none⟩ = some (.int .i64 y) := by
        rcases HSI.out.mono hB with ⟨hv, h0⟩ | ⟨bb, oo, c3, hv, h4, h5, h6⟩
        · rw [h0] at hlj; simp at hlj
        · injection hv with hv1 hv2 hv3
          exact ⟨bb, oo, hv1, h5, h6 j y hy⟩
      subst hSA
      have HY := hid hy
      have hjI : (j : Int) < (x.cells.length : Int) := by omega
      have hK := heap_mono HK2.out (bl_trans HBr.out hB)
      have q0 : wr.cell? ⟨X, 0, none⟩ = some (.int .i64 wd) := cell_of_heap hK
      have q1 : wr.cell? ⟨X, 1, none⟩ = some (.int .i64 hg) := cell_of_heap hK
      have q2 : wr.cell? ⟨X, 2, none⟩ = some sw := cell_of_heap hK
      have q3 : wr.cell? ⟨X, 3, none⟩ = some sk := cell_of_heap hK
      have ql := (Array.getElem?_eq_some_iff.1 hK).1
      obtain ⟨N, hNN⟩ : ∃ N, wd * hg = N := ⟨_, rfl⟩
      have GC : Hid (∀ W, Below wr.heap.size wr W → Calls Try.prog 51 #[.agg #[.int .i64 wd, .int .i64 hg, sw, sk]] W fun e w' => e = .returned (.int .i64 N) ∧ Below W.heap.size W w') := fun W hW => by rw [← hNN]; exact cells_any wd hg _ _ W HVa.out.B.w HVa.out.B.h
      have HNN := hid hNN
      rw [hNN] at HNP
      clear hy hK hnp hB hNN
      by_cases a1 : y < 0
      · have t1 : decide (y < 0) = true := decide_eq_true a1
        have he : VE = 2 := by rw [HE2.out, if_pos (noPA_any HX.out (wayStray_cell (List.mem_of_getElem? HY.out) (.inl a1)))]
        have hvv : VV = 0 := by rw [← HVV.out]; unfold waysRV; rw [HVE.out, he, if_neg (by decide)]
        subst he hvv
        clear a1
        go_upto_region 16 with (fail)
        refine wp_region_below (by kernel_rfl) (by kernel_rfl) ?_
        repeat (first | go_big_quiet_step (first | (go_at_call 51; exact Calls.regrown_of (GC.out _ (below_regrown _ _ _)))) | quiet_step (first | (go_at_call 51; exact Calls.regrown_of (GC.out _ (below_regrown _ _ _)))))
        refine wpQuiet_nil ?_
        intro w5 hb5
        have HB5 := hid (bl_trans HB2.out (bl_trans HBr.out (bl_trans HBj.out hb5)))
        clear q0 q1 q2 q3 ql hcy hc0 hc1 hb5 GC
        go_wp2
        go_ret2
        exact ⟨rfl, HB5.out⟩
      have t1 : decide (y < 0) = false := decide_eq_false a1
      by_cases a2 : N ≤ y
      · have t2 : decide (N ≤ y) = true := decide_eq_true a2
        have he : VE = 2 := by rw [HE2.out, if_pos (noPA_any HX.out (wayStray_cell (List.mem_of_getElem? HY.out) (.inr (by rw [HNN.out]; exact a2))))]
        have hvv : VV = 0 := by rw [← HVV.out]; unfold waysRV; rw [HVE.out, he, if_neg (by decide)]
        subst he hvv
        clear a1 a2
        go_upto_region 16 with (fail)
        refine wp_region_below (by kernel_rfl) (by kernel_rfl) ?_
        repeat (first | go_big_quiet_step (first | (go_at_call 51; exact Calls.regrown_of (GC.out _ (below_regrown _ _ _)))) | quiet_step (first | (go_at_call 51; exact Calls.regrown_of (GC.out _ (below_regrown _ _ _)))))
        refine wpQuiet_nil ?_
        intro w5 hb5
        have HB5 := hid (bl_trans HB2.out (bl_trans HBr.out (bl_trans HBj.out hb5)))
        clear q0 q1 q2 q3 ql hcy hc0 hc1 hb5 GC
        go_wp2
        go_ret2
        exact ⟨rfl, HB5.out⟩
      · have t2 : decide (N ≤ y) = false := decide_eq_false a2
        have HNP2 := hid (show NoP (fun c => decide (c < 0) || decide (wd * hg ≤ c)) x.cells (j + 1) by rw [HNN.out]; exact noP_succ HNP.out HY.out (by simp only [t1, t2]; rfl))
        clear a1 a2
        go_upto_region 16 with (fail)
        refine wp_region_below (by kernel_rfl) (by kernel_rfl) ?_
        repeat (first | go_big_quiet_step (first | (go_at_call 51; exact Calls.regrown_of (GC.out _ (below_regrown _ _ _)))) | quiet_step (first | (go_at_call 51; exact Calls.regrown_of (GC.out _ (below_regrown _ _ _)))))
        refine wpQuiet_nil ?_
        intro w5 hb5
        have HB5 := hid (bl_trans HBj.out hb5)
        clear q0 q1 q2 q3 ql hcy hc0 hc1 hb5 GC
        go_wp2
        go_roundw
        case rel => exact ⟨j + 1, by omega, by go_num, HNP2.out, HB5.out⟩
        case measure => simp [intOf]; omega
    obtain rfl : j = x.cells.length := by omega
    have HBW := hid (bl_trans HBr.out hB)
    clear hnp hB hlj
    by_cases a1 : x.out < -1
    · have t1 : decide (x.out < -1) = true := decide_eq_true a1
      have he : VE = 2 := by rw [HE2.out, if_pos (noPA_any HX.out (wayStray_out (.inl a1)))]
      have hvv : VV = 0 := by rw [← HVV.out]; unfold waysRV; rw [HVE.out, he, if_neg (by decide)]
      have HB5 := hid (bl_trans HB2.out HBW.out)
      subst he hvv
      clear a1
      go_wp2
      go_ret2
      exact ⟨rfl, HB5.out⟩
    have t1 : decide (x.out < -1) = false := decide_eq_false a1
    by_cases a2 : 3 < x.out
    · have t2 : decide (3 < x.out) = true := decide_eq_true a2
      have he : VE = 2 := by rw [HE2.out, if_pos (noPA_any HX.out (wayStray_out (.inr a2)))]
      have hvv : VV = 0 := by rw [← HVV.out]; unfold waysRV; rw [HVE.out, he, if_neg (by decide)]
      have HB5 := hid (bl_trans HB2.out HBW.out)
      subst he hvv
      clear a1 a2
      go_wp2
      go_ret2
      exact ⟨rfl, HB5.out⟩
    · have t2 : decide (3 < x.out) = false := decide_eq_false a2
      have hno2 := hid (noPA_succ HNO.out HX.out (wayStray_no HNP.out a1 a2))
      clear a1 a2
      go_wp2
      go_roundw
      case rel => exact ⟨k + 1, by omega, by go_num, hno2.out, HBW.out⟩
      case measure => simp [intOf]; omega
  obtain rfl : k = l.length := by omega
  have HST := hid (noPA_all HNO.out)
  have HE3 := hid (show VE = if l.any (fun x => !isWayB wd hg want keep x) = true then 16 else if dupR [] (l.flatMap (sidesXR wd hg)) = true then 11 else 0 by rw [HE2.out, HST.out, if_neg (by simp)])
  have HFI := hid (show ∀ x ∈ l, (∃ a t, x.cells = a :: t ∧ t.length ≤ 63) ∧ (∀ c ∈ x.cells, inP wd hg c) ∧ (-1 ≤ x.out ∧ x.out ≤ 3) from fun x hx => by
    have h := way_fine (n := wd * hg) (x := x) (by have := List.any_eq_false.1 HLO.out x hx; simpa using this) (by have := List.any_eq_false.1 HST.out x hx; simpa using this)
    exact ⟨h.1, fun c hc => h.2.1 c hc, h.2.2⟩)
  clear HNO HE2 hlt hno hB
  go_wp2
  obtain ⟨wa, rfl⟩ : ∃ wa, wa = wr := ⟨_, rfl⟩
  go_loopw [9] (fun p wx => ∃ k : Nat, k ≤ l.length ∧ p = .int .i64 (k : Int) ∧ NoPA (fun x => !isWayB wd hg want keep x) l k ∧ Below w2.heap.size w2 wx) (fun p _ => l.length - (intOf p).toNat)
  case atStart => exact ⟨0, Nat.zero_le _, rfl, fun i _ h => by omega, HBr.out⟩
  case round =>
  clear HBr
  obtain ⟨k, hk, rfl, hno, hB⟩ := hrel
  have HNO := hid hno
  have HBr := hid hB
  by_cases hlt : k < l.length
  · obtain ⟨x, hx⟩ := get_at hlt
    obtain ⟨b, off, hA, hcc, hbl, s, hc0, hsi, hc1⟩ := Elem.out wr k x hB hx
    subst hA
    obtain ⟨SA, sc, rfl⟩ := hsi.slice
    have HX := hid hx
    have hkI : (k : Int) < (l.length : Int) := by omega
    obtain ⟨⟨a, t, hxc, ht⟩, hxi, hxo⟩ := HFI.out x (List.mem_of_getElem? hx)
    obtain ⟨qb, hqb⟩ : ∃ q, isWayB wd hg want keep x = q := ⟨_, rfl⟩
    have GI : Hid (∀ W, Below wr.heap.size wr W → Calls Try.prog 82 #[.agg #[.int .i64 wd, .int .i64 hg, sw, sk], .agg #[.slice SA x.cells.length sc, .int .i64 x.out]] W fun e w' => e = .returned (.bool qb) ∧ Below W.heap.size W w') := fun W hW => by
      have h := risWay_any (wd := wd) (hg := hg) (sw := sw) (sk := sk) (want := want) (keep := keep) a t x.out (.slice SA x.cells.length sc) W HVa.out hlw hlk (HW2.out.mono (bl_trans hB hW)) (HKp2.out.mono (bl_trans hB hW)) (by rw [← hxc]; exact hsi.mono hW) (by omega) (by rw [← hxc]; exact hxi) hxo
      rw [← hxc] at h
      rw [← hqb]
      exact h
    have hK := heap_mono HK2.out hB
    have q0 : wr.cell? ⟨X, 0, none⟩ = some (.int .i64 wd) := cell_of_heap hK
    have q1 : wr.cell? ⟨X, 1, none⟩ = some (.int .i64 hg) := cell_of_heap hK
    have q2 : wr.cell? ⟨X, 2, none⟩ = some sw := cell_of_heap hK
    have q3 : wr.cell? ⟨X, 3, none⟩ = some sk := cell_of_heap hK
    have ql := (Array.getElem?_eq_some_iff.1 hK).1
    have HQB := hid hqb
    have tf : qb = false ∨ qb = true := by cases qb <;> simp
    clear hx hsi hno hB hxc ht hxi hxo hK hqb
    go_upto_region 23 with (fail)
    refine wp_region_below (by kernel_rfl) (by kernel_rfl) ?_
    repeat (first | go_big_quiet_step (first | (go_at_call 82; exact Calls.regrown_of (GI.out _ (below_regrown _ _ _)))) | quiet_step (first | (go_at_call 82; exact Calls.regrown_of (GI.out _ (below_regrown _ _ _)))))
    refine wpQuiet_nil ?_
    intro w5 hb5
    have HB5 := hid (bl_trans HBr.out hb5)
    clear q0 q1 q2 q3 ql hc0 hc1 hb5 GI
    rcases tf with rfl | rfl
    · have he : VE = 16 := by rw [HE3.out, if_pos (noPA_any HX.out (by show (!isWayB wd hg want keep x) = true; rw [HQB.out]; rfl))]
      have hvv : VV = 0 := by rw [← HVV.out]; unfold waysRV; rw [HVE.out, he, if_neg (by decide)]
      have HB6 := hid (bl_trans HB2.out HB5.out)
      subst he hvv
      go_wp2
      go_ret2
      exact ⟨rfl, HB6.out⟩
    · have hno2 := hid (noPA_succ HNO.out HX.out (by show (!isWayB wd hg want keep x) = false; rw [HQB.out]; rfl))
      go_wp2
      go_roundw
      case rel => exact ⟨k + 1, by omega, by go_num, hno2.out, HB5.out⟩
      case measure => simp [intOf]; omega
  obtain rfl : k = l.length := by omega
  have HNW := hid (noPA_all HNO.out)
  have HE4 := hid (show VE = if dupR [] (l.flatMap (sidesXR wd hg)) = true then 11 else 0 by rw [HE3.out, HNW.out, if_neg (by simp)])
  clear HNO HE3 hlt hno hB
  go_wp2
  obtain ⟨wB, rfl⟩ : ∃ wa, wa = wr := ⟨_, rfl⟩
  have HB5 := hid (bl_trans HB2.out HBr.out)
  have HD0 := hid (show dupR [] ((l.drop 0).flatMap (sidesXR wd hg)) = dupR [] (l.flatMap (sidesXR wd hg)) from rfl)
  obtain ⟨D, hD⟩ : ∃ D, dupR [] (l.flatMap (sidesXR wd hg)) = D := ⟨_, rfl⟩
  rw [hD] at HE4 HD0
  clear hD
  have HO0 := hid (World.ownsRow_nil wB wB.heap.size 3 1)
  go_loopw [10, 11] (fun o p wx => ∃ (k : Nat) (U : List Int) (v : Value), k ≤ l.length ∧ p = .int .i64 (k : Int) ∧ o = v ∧ dupR U ((l.drop k).flatMap (sidesXR wd hg)) = D ∧ U.length ≤ k * 64 ∧ wx.ownsRow wB.heap.size 3 1 v U.length (U.map (Value.int .i64)) ∧ Below wB.heap.size wB wx) (fun _ p _ => l.length - (intOf p).toNat)
  case atStart => exact ⟨0, [], _, Nat.zero_le _, rfl, rfl, HD0.out, by simp, HO0.out, bl_refl _⟩
  case round =>
  clear HO0 HD0
  obtain ⟨k, U, v, hk, rfl, hov, hD, hUk, hown, hB⟩ := hrel
  obtain rfl := hov.symm
  have HOW := hid hown
  have HB6 := hid hB
  have HBa := hid (bl_trans HBr.out hB)
  by_cases hlt : k < l.length
  · obtain ⟨x, hx⟩ := get_at hlt
    obtain ⟨b, off, hA, hcc, hbl, s, hc0, hsi, hc1⟩ := Elem.out wr k x HBa.out hx
    subst hA
    obtain ⟨SA, sc, rfl⟩ := hsi.slice
    have hkI : (k : Int) < (l.length : Int) := by omega
    obtain ⟨⟨a, t, hxc, ht⟩, hxi, hxo⟩ := HFI.out x (List.mem_of_getElem? hx)
    have hdr : l.drop k = x :: l.drop (k + 1) := List.drop_eq_getElem_cons hlt ▸ by rw [(List.getElem?_eq_some_iff.1 hx).2]
    rw [hdr, List.flatMap_cons] at hD
    obtain ⟨LS, hLS⟩ : ∃ LS, sidesXR wd hg x = LS := ⟨_, rfl⟩
    have hLl : LS.length ≤ 64 := by
      rw [← hLS]; unfold sidesXR; rw [hxc]; simp only [sidesR, List.length_append, sidesRF_len]
      split <;> simp <;> omega
    rw [hLS] at hD
    have HDD := hid hD
    have hSX : sidesXR wd hg x = sidesR wd hg a t x.out := by unfold sidesXR; rw [hxc]
    have GS : Hid (∀ W, Below wr.heap.size wr W → Calls Try.prog 83 #[.agg #[.int .i64 wd, .int .i64 hg, sw, sk], .agg #[.slice SA x.cells.length sc, .int .i64 x.out]] W fun e w' => (∃ v, e = .returned v ∧ w'.ownsRow W.heap.size 3 1 v LS.length (LS.map (Value.int .i64))) ∧ Below W.heap.size W w') := fun W hW => by
      have h := rsides_any (wd := wd) (hg := hg) (sw := sw) (sk := sk) (want := want) (keep := keep) a t x.out (.slice SA x.cells.length sc) W HVa.out (by rw [← hxc]; exact hsi.mono hW) (by omega) (by rw [← hxc]; exact hxi) hxo
      rw [← hLS, hSX]
      exact h
    have hK := heap_mono HK2.out HBa.out
    have q0 : wr.cell? ⟨X, 0, none⟩ = some (.int .i64 wd) := cell_of_heap hK
    have q1 : wr.cell? ⟨X, 1, none⟩ = some (.int .i64 hg) := cell_of_heap hK
    have q2 : wr.cell? ⟨X, 2, none⟩ = some sw := cell_of_heap hK
    have q3 : wr.cell? ⟨X, 3, none⟩ = some sk := cell_of_heap hK
    have ql := (Array.getElem?_eq_some_iff.1 hK).1
    have HC0 := hid hc0
    have HC1 := hid hc1
    have hlcI : (l.length : Int) ≤ (c : Int) := by omega
    have hkn : ¬ ((l.length : Int) ≤ (k : Int)) := by omega
    clear hx hsi hown hB hxc ht hxi hxo hLS hSX hdr hD hc0 hc1 q0 q1 q2 q3 ql
    have HXC := hid hK
    clear hK
    obtain ⟨w6, rfl⟩ : ∃ wa, wa = wr := ⟨_, rfl⟩
    go_upto_region 29 with (fail)
    refine wp_region_valsG w6 (bl_refl _) [115, 116, 117, 118, 119, 120, 12] (fun seen u W => (seen 0 = true → u 115 = .agg #[.int .i64 wd, .int .i64 hg, sw, sk]) ∧
      (seen 1 = true → u 116 = .slice (some ⟨b, off, none⟩) l.length c) ∧
      (seen 2 = true → u 117 = .int .i64 (k : Int)) ∧
      (seen 3 = true → u 118 = .pointer (some ⟨b, off + k * 2, none⟩)) ∧
      (seen 4 = true → u 119 = .agg #[.slice SA x.cells.length sc, .int .i64 x.out]) ∧
      (seen 5 = true → OwnI w6.heap.size W (u 120) LS) ∧
      (seen 6 = true → u 12 = u 120) ∧
      (seen 6 = true → seen 5 = true))
      (by kernel_rfl) (by kernel_rfl) (by kernel_rfl) (by simp) (by simp) ?_ ?_
    · intro i o ho seen a' w9 hb9 ⟨F0, F1, F2, F3, F4, F5, F6, F7⟩ hv hsi hdep
      have hbx := heap_mono HXC.out hb9
      have c0 : w9.cell? ⟨X, 0, none⟩ = some (.int .i64 wd) := cell_of_heap hbx
      have c1 : w9.cell? ⟨X, 1, none⟩ = some (.int .i64 hg) := cell_of_heap hbx
      have c2 : w9.cell? ⟨X, 2, none⟩ = some (sw) := cell_of_heap hbx
      have c3 : w9.cell? ⟨X, 3, none⟩ = some (sk) := cell_of_heap hbx
      have hXl := (Array.getElem?_eq_some_iff.1 hbx).1
      have d0 := cell_mono HC0.out hb9
      have d1 := cell_mono HC1.out hb9
      have hbl9 := Nat.lt_of_lt_of_le hbl hb9.size
      rcases i with _ | _ | _ | _ | _ | _ | _ | i <;> simp only [List.getElem?_cons_zero, List.getElem?_cons_succ, List.getElem?_nil, Option.some.injEq, reduceCtorEq] at ho <;> subst ho
      · refine if_free rfl ?_
        have x2 := val_at (hv 2 (by simp))
        simp [valsOf] at x2
        refine wp_value (.agg #[.int .i64 wd, .int .i64 hg, sw, sk]) (w' := w9) (by simp [execOp, x2, go_sem, c0, c1, c2, c3, hXl, d0, d1, hbl9, hkI, hlcI, hkn]) ⟨_, rfl, hb9, ?_⟩
        exact ⟨by simp, by simpa using F1, by simpa using F2, by simpa using F3, by simpa using F4, by simpa using F5, by simpa using F6, by simpa using F7⟩
      · refine if_free rfl ?_
        have x1 := val_at (hv 1 (by simp))
        simp [valsOf] at x1
        refine wp_value (.slice (some ⟨b, off, none⟩) l.length c) (w' := w9) (by simp [execOp, x1, go_sem, c0, c1, c2, c3, hXl, d0, d1, hbl9, hkI, hlcI, hkn]) ⟨_, rfl, hb9, ?_⟩
        exact ⟨by simpa using F0, by simp, by simpa using F2, by simpa using F3, by simpa using F4, by simpa using F5, by simpa using F6, by simpa using F7⟩
      · refine if_free rfl ?_
        have x11 := val_at (hv 11 (by simp))
        simp [valsOf] at x11
        refine wp_value (.int .i64 (k : Int)) (w' := w9) (by simp [execOp, x11, go_sem, c0, c1, c2, c3, hXl, d0, d1, hbl9, hkI, hlcI, hkn]) ⟨_, rfl, hb9, ?_⟩
        exact ⟨by simpa using F0, by simpa using F1, by simp, by simpa using F3, by simpa using F4, by simpa using F5, by simpa using F6, by simpa using F7⟩
      · refine if_free rfl ?_
        have d1 := hdep ⟨1, .data⟩ (by simp) rfl
        have e1 := val_at (F1 d1)
        have d2 := hdep ⟨2, .data⟩ (by simp) rfl
        have e2 := val_at (F2 d2)
        refine wp_value (.pointer (some ⟨b, off + k * 2, none⟩)) (w' := w9) (by simp [execOp, e1, e2, go_sem, c0, c1, c2, c3, hXl, d0, d1, hbl9, hkI, hlcI, hkn]) ⟨_, rfl, hb9, ?_⟩
        exact ⟨by simpa using F0, by simpa using F1, by simpa using F2, by simp, by simpa using F4, by simpa using F5, by simpa using F6, by simpa using F7⟩
      · refine if_free rfl ?_
        have d3 := hdep ⟨3, .data⟩ (by simp) rfl
        have e3 := val_at (F3 d3)
        refine wp_value (.agg #[.slice SA x.cells.length sc, .int .i64 x.out]) (w' := w9) (by simp [execOp, e3, go_sem, c0, c1, c2, c3, hXl, d0, d1, hbl9, hkI, hlcI, hkn]) ⟨_, rfl, hb9, ?_⟩
        exact ⟨by simpa using F0, by simpa using F1, by simpa using F2, by simpa using F3, by simp, by simpa using F5, by simpa using F6, by simpa using F7⟩
      · refine if_free rfl ?_
        have d0 := hdep ⟨0, .data⟩ (by simp) rfl
        have e0 := val_at (F0 d0)
        have d4 := hdep ⟨4, .data⟩ (by simp) rfl
        have e4 := val_at (F4 d4)
        have hcl := GS.out w9 hb9
        refine wp_calls (f := 83) (args := #[.agg #[.int .i64 wd, .int .i64 hg, sw, sk], .agg #[.slice SA x.cells.length sc, .int .i64 x.out]]) (w' := w9) (by simp [execOp, e0, e4, go_sem, valsOf]) hcl ?_
        rintro e w10 ⟨⟨vl, rfl, hvl⟩, hg⟩
        have hvl2 : OwnI w6.heap.size w10 vl LS := own_low hvl hb9.size
        refine ⟨_, rfl, _, rfl, bl_trans hb9 hg, ?_⟩
        exact ⟨by simpa using F0, by simpa using F1, by simpa using F2, by simpa using F3, by simpa using F4, by simpa using hvl2, by simpa using fun h => absurd (F7 h) (by rw [hsi]; decide), by simpa using F7⟩
      · refine if_free rfl ?_
        have d5 := hdep ⟨5, .data⟩ (by simp) rfl
        refine wp_value (valsOf a' 120) (w' := w9) (by simp [execOp, go_sem, valsOf]) ⟨_, rfl, hb9, ?_⟩
        exact ⟨by simpa using F0, by simpa using F1, by simpa using F2, by simpa using F3, by simpa using F4, by simpa using F5, by simp, by simpa using d5⟩
    intro u w5 hb5 seen hall ⟨F0, F1, F2, F3, F4, F5, F6, F7⟩
    replace F0 := F0 (hall 0 (by decide))
    replace F1 := F1 (hall 1 (by decide))
    replace F2 := F2 (hall 2 (by decide))
    replace F3 := F3 (hall 3 (by decide))
    replace F4 := F4 (hall 4 (by decide))
    replace F5 := F5 (hall 5 (by decide))
    replace F6 := F6 (hall 6 (by decide))
    have HVL := hid F5
    simp only [setAll, F6]
    clear hall seen F0 F1 F2 F3 F4 F5 F6 F7
    generalize u 115 = u115 at *
    generalize u 116 = u116 at *
    generalize u 117 = u117 at *
    generalize u 118 = u118 at *
    generalize u 119 = u119 at *
    generalize u 120 = u120 at *
    have HB7 := hid (bl_trans HB6.out hb5)
    have HOW7 := hid (own_mono HOW.out hb5)
    have hne : ∀ g, v.ownBlock = some g → u120.ownBlock ≠ some g := fun g h1 h2 => by
      have e1 := (HOW.out.lt g h1).2
      have e2 := (HVL.out.lt g h2).1
      omega
    have HNE := hid hne
    obtain ⟨LA, lc, rfl⟩ := own_slice HVL.out
    obtain ⟨REST, hREST⟩ : ∃ R, (l.drop (k + 1)).flatMap (sidesXR wd hg) = R := ⟨_, rfl⟩
    have HREST := hid hREST
    rw [hREST] at HDD
    clear hne hb5 hREST GS HC0 HC1 HXC HOW HB6 HBa
    go_wp2
    obtain ⟨w7, rfl⟩ : ∃ wa, wa = w5 := ⟨_, rfl⟩
    go_loopw [10, 13] (fun o p wx => ∃ (j : Nat) (U2 : List Int) (v2 : Value), j ≤ LS.length ∧ p = .int .i64 (j : Int) ∧ o = v2 ∧ dupR U2 (LS.drop j ++ REST) = D ∧ U2.length ≤ k * 64 + j ∧ wx.ownsRow wB.heap.size 3 1 v2 U2.length (U2.map (Value.int .i64)) ∧ wx.ownsRow w6.heap.size 3 1 (.slice LA LS.length lc) LS.length (LS.map (Value.int .i64)) ∧ (∀ g, v2.ownBlock = some g → (Value.slice LA LS.length lc).ownBlock ≠ some g) ∧ Below wB.heap.size wB wx) (fun _ p _ => LS.length - (intOf p).toNat)
    case atStart => exact ⟨0, U, _, Nat.zero_le _, rfl, rfl, HDD.out, by omega, HOW7.out, HVL.out, HNE.out, HB7.out⟩
    case round =>
    clear HOW7 HVL HNE HB7 HDD
    obtain ⟨j, U2, v2, hj, rfl, hov2, hD, hU2, hown, hownL, hne, hB⟩ := hrel
    obtain rfl := hov2.symm
    have HOW := hid hown
    have HOL := hid hownL
    have HNE := hid hne
    have HB8 := hid hB
    by_cases hlj : j < LS.length
    · obtain ⟨y, hy⟩ := get_at hlj
      have hdr : LS.drop j = y :: LS.drop (j + 1) := List.drop_eq_getElem_cons hlj ▸ by rw [(List.getElem?_eq_some_iff.1 hy).2]
      rw [hdr, List.cons_append] at hD
      obtain ⟨bb, oo, hLA, hbb, hcy⟩ : ∃ bb oo, LA = some ⟨bb, oo, none⟩ ∧ bb < wr.heap.size ∧ wr.cell? ⟨bb, oo + j, none⟩ = some (.int .i64 y) := by
        rcases ints_own rfl hownL with ⟨hv, h0⟩ | ⟨bb, oo, c3, hv, h4, h5, h6⟩
        · rw [h0] at hlj; simp at hlj
        · injection hv with hv1 hv2 hv3
          exact ⟨bb, oo, hv1, h5, h6 j y hy⟩
      subst hLA
      have hjI : (j : Int) < (LS.length : Int) := by omega
      have hcall := rhas_any U2 v2 y wr (by omega) (ints_own rfl hown)
      clear hy hdr hown hownL hne hB
      cases hcon : U2.contains y with
      | true =>
        have he : VE = 11 := by rw [HE4.out, if_pos]; rw [← hD]; unfold dupR; rw [if_pos hcon]
        have hvv : VV = 0 := by rw [← HVV.out]; unfold waysRV; rw [HVE.out, he, if_neg (by decide)]
        have HB9 := hid (bl_trans HB5.out HB8.out)
        subst he hvv
        rw [hcon] at hcall
        clear hcon hD
        go_wp2_with fail
        refine hcall.mono ?_
        rintro e w8 ⟨rfl, rfl⟩
        clear hcall
        go_wp2
        go_ret2
        exact ⟨rfl, HB9.out⟩
      | false =>
        have HD2 := hid (show dupR (U2 ++ [y]) (LS.drop (j + 1) ++ REST) = D by rw [← hD]; conv => rhs; unfold dupR; rw [hcon]; simp)
        rw [hcon] at hcall
        obtain ⟨v', w', hrun, hown', hgrow, hnil, hblk⟩ := run_append_own_at (P := Try.prog) (wr.alloc (.cells #[.int .i64 y] 3)) wB.heap.size 22 22 3 i3 (.int .i64 0) 1 8 Try.underlying22 hi3 hi30 hi31 hi32 rfl (by decide) v2 _ _ (HOW.out.alloc _) ⟨wr.heap.size, 0, none⟩ 1 1 [.int .i64 y] rfl (cell_one_new wr (.int .i64 y) 3) (fun u hu => by simp at hu; subst hu; rfl) (by unfold maxLen; omega) (by omega) (by have := HB8.out.size; simp; omega)
        have HOW9 := hid hown'
        have HOL9 := hid ((HOL.out.alloc (.cells #[.int .i64 y] 3)).kept hgrow (by
          cases hq : v2.ownBlock with
          | none =>
            cases hq2 : (Value.slice (some ⟨bb, oo, none⟩) LS.length lc).ownBlock with
            | none => exact .inl rfl
            | some g => exact .inr (by simp)
          | some g => exact .inr (HNE.out g hq)))
        have HNE9 := hid (show ∀ g, v'.ownBlock = some g → (Value.slice (some ⟨bb, oo, none⟩) LS.length lc).ownBlock ≠ some g from fun g h1 h2 => by
          rcases hblk with hk | hk
          · exact HNE.out g (by rw [← hk]; exact h1) h2
          · rw [hk] at h1
            injection h1 with h1
            have := (HOL.out.lt g h2).2
            rw [World.size_alloc] at h1
            omega)
        have HB9 := hid (bl_grown (bl_alloc HB8.out (.cells #[.int .i64 y] 3)) (HOW.out.alloc _) (Nat.le_refl _) hgrow)
        clear hcon hD hown' hgrow hnil hblk
        go_wp2_with fail
        refine hcall.mono ?_
        rintro e w8 ⟨rfl, rfl⟩
        clear hcall
        go_wp2_with (at_builtin; refine wpList_append_run rfl _ _ 22 rfl v2 _ v' w' rfl rfl hrun ?_)
        clear hrun
        go_roundw
        case rel => exact ⟨j + 1, U2 ++ [y], _, by omega, by go_num, rfl, HD2.out, by simp; omega, by rw [List.length_append, List.map_append]; exact HOW9.out, HOL9.out, HNE9.out, HB9.out⟩
        case measure => simp [intOf]; omega
    · obtain rfl : j = LS.length := by omega
      rw [List.drop_length, List.nil_append] at hD
      have HD2 := hid (show dupR U2 ((l.drop (k + 1)).flatMap (sidesXR wd hg)) = D by rw [HREST.out]; exact hD)
      clear hown hownL hne hB hD hlj
      go_wp2
      go_roundw
      case rel => exact ⟨k + 1, U2, _, by omega, by go_num, rfl, HD2.out, by omega, HOW.out, HB8.out⟩
      case measure => simp [intOf]; omega
  · obtain rfl : k = l.length := by omega
    rw [List.drop_length] at hD
    have he : VE = 0 := by rw [HE4.out, ← hD]; simp [dupR]
    have hvv : VV = (l.length : Int) := by rw [← HVV.out]; unfold waysRV; rw [HVE.out, he, if_pos rfl]
    have HB9 := hid (bl_trans HB5.out HB6.out)
    subst he hvv
    clear hown hB hD hlt
    go_wp2
    go_ret2
    exact ⟨rfl, HB9.out⟩
end Go.Proofs.Ytlkoadcbolkhoaa
