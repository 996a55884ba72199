/- CheckPlan: the walk. -/
import Derived.Test.YtbnmjbmlejifcaaChka
import Derived.Test.YtbnmjbmlejifcaaRund
set_option linter.all false
namespace Go.Proofs.Ytbnmjbmlejifcaa
open Go Go.RowKit Go.Proofs
attribute [local go_sem] cell_grow frozen_grow

/-- Whether the numbers of the first so many lists can be. -/
def capB (l : List Rch) (L : List (List Int)) (k : Nat) : Bool := (List.range k).all fun i => withinB 0 (rivP l i).pass (L.getD i [])
/-- Whether none enters on a day of the first so many that is not open. -/
def ruleR (x : Rch) (r : List Int) (m : Nat) : Bool := (List.range m).all fun k => !(decide (0 < r.getD k 0)) || openB x ((k : Int) + 1)
def ruleB (l : List Rch) (L : List (List Int)) (k : Nat) : Bool := (List.range k).all fun i => ruleR (rivP l i) (L.getD i []) (L.getD i []).length
/-- Whether no more enter than have come. -/
def sumB (l : List Rch) (L : List (List Int)) (D : Nat) : Bool := (List.range l.length).all fun i => (List.range D).all fun d : Nat => decide (gone (planP L) i ((d : Int) + 1) ≤ come (rivP l) (planP L) i ((d : Int) + 1))
def fullB (days : Int) (l : List Rch) (L : List (List Int)) : Bool := decide (L.length = l.length) && !(L.any (shortB days))
def cpErr (days : Int) (l : List Rch) (L : List (List Int)) (day : Int) : Int :=
  if askedE days l day ≠ 0 then askedE days l day else if fullB days l L = false then 15 else if capB l L l.length = false then 3 else if ruleB l L l.length = false then 16 else if sumB l L days.toNat = false then 14 else 0
def cpVal (days : Int) (l : List Rch) (L : List (List Int)) (day : Int) : Int := if cpErr days l L day = 0 then brought (rivP l) l.length (planP L) day else 0

theorem sumB_iff (l : List Rch) (L : List (List Int)) (D : Nat) : sumB l L D = true ↔ okTo l (planP L) D 0 := by
  unfold sumB okTo
  simp only [List.all_eq_true, List.mem_range, decide_eq_true_eq]
  exact ⟨fun h j e hj he => h j hj e (by unfold Done at he; omega), fun h j hj e he => h j e hj (.inl he)⟩
theorem fullB_full {D : Nat} {l : List Rch} {L : List (List Int)} (h : fullB (D : Int) l L = true) : Full l.length D L := by
  unfold fullB at h
  simp only [Bool.and_eq_true, decide_eq_true_eq, Bool.not_eq_true', List.any_eq_false] at h
  refine ⟨h.1, fun r hr => ?_⟩
  have := h.2 r hr
  simp only [shortB, decide_eq_true_eq] at this
  omega
theorem cap_small {D : Nat} {l : List Rch} {L : List (List Int)} (F : Fit (D : Int) l) (hf : Full l.length D L) (h : capB l L l.length = true) : Small L := by
  intro r hr
  obtain ⟨i, hi⟩ := List.getElem?_of_mem hr
  have hil : i < l.length := by rw [← hf.1]; exact (List.getElem?_eq_some_iff.1 hi).1
  have h1 := all_range_get h hil
  obtain ⟨x, hx⟩ := get_at hil
  have hp := F.pass i x hx
  have hd := F.d2
  rw [riv_at hx] at h1
  have h2 : L.getD i [] = r := by simp [List.getD, hi]
  rw [h2] at h1
  refine ⟨by rw [hf.2 r hr]; omega, fun y hy => ?_⟩
  have h3 : r.any (badB 0 x.pass) = false := by simpa [withinB] using h1
  rw [List.any_eq_false] at h3
  have h4 := h3 y hy
  simp only [badB, Bool.or_eq_true, decide_eq_true_eq] at h4
  omega
theorem rule_closed {l : List Rch} {L : List (List Int)} {D : Nat} (hf : Full l.length D L) (hsm : Small L) (h : ruleB l L l.length = true) {i d : Nat} (hi : i < l.length) (hd : d < D) (ho : openB (rivP l i) ((d : Int) + 1) = false) : planP L i (d + 1) = 0 := by
  have h1 := all_range_get h hi
  unfold ruleR at h1
  obtain ⟨q, hq⟩ := get_at (l := L) (k := i) (by rw [hf.1]; exact hi)
  have hql := hf.2 q (List.mem_of_getElem? hq)
  have h2 : L.getD i [] = q := by simp [List.getD, hq]
  rw [h2] at h1
  have h3 := all_range_get h1 (k := d) (by omega)
  have hb := plan_bd hsm i (d + 1)
  have h4 : planP L i (d + 1) = q.getD d 0 := by unfold planP; rw [h2]; rfl
  rw [ho] at h3
  simp only [Bool.or_false, Bool.not_eq_true', decide_eq_false_iff_not] at h3
  omega

set_option maxRecDepth 100000 in
set_option maxHeartbeats 8000000 in
theorem checkPlan_any (days : Int) (l : List Rch) (sr : Value) (L : List (List Int)) (sp : Value) (day : Int) (w : World) (hl : l.length ≤ 1000) (hs : Rchs w sr l) (hLl : L.length ≤ 1000) (hrl : ∀ r ∈ L, r.length ≤ 1000) (hp : Rows0 w sp L) :
    Calls Try.prog 21 #[.agg #[.int .i64 days, sr], sp, .int .i64 day] w fun e w' => e = .returned (.tuple #[.int .i64 (cpVal days l L day), .int .i64 (cpErr days l L day)]) ∧ Below w.heap.size w w' := by
  obtain ⟨A, c, rfl⟩ := hs.slice
  obtain ⟨A2, c2, rfl⟩ := hp.slice
  have b1 := bl_alloc (bl_refl w) (.cells #[.int .i64 days, .slice A l.length c] 24)
  have b2 := bl_alloc (bl_refl (w.alloc (.cells #[.int .i64 days, .slice A l.length c] 24))) (.cells #[.slice A2 L.length c2] 25)
  have hX2 := World.alloc_heap_new (w.alloc (.cells #[.int .i64 days, .slice A l.length c] 24)) (.cells #[.slice A2 L.length c2] 25)
  rw [World.size_alloc] at hX2
  have HX := hid (heap_mono (World.alloc_heap_new w (.cells #[.int .i64 days, .slice A l.length c] 24)) b2)
  have HL := hid hX2
  have HB := hid (bl_trans b1 b2)
  have HS := hid hs
  have HP := hid hp
  have HRL := Lib.hid hrl
  clear hs hp hX2 b1 b2 hrl
  go_enter Try.func21, Try.ntmps21
  go_upto_region 1 with (fail)
  obtain ⟨R, hR⟩ : ∃ R, w.heap.size = R := ⟨_, rfl⟩
  obtain ⟨w0, hw0⟩ : ∃ w0, (w.alloc (.cells #[.int .i64 days, .slice A l.length c] 24)).alloc (.cells #[.slice A2 L.length c2] 25) = w0 := ⟨_, rfl⟩
  rw [hR] at HX HL ⊢
  rw [hw0] at HX HL HB ⊢
  clear hw0 hR
  have r0 : w0.cell? ⟨R, 0, none⟩ = some (.int .i64 days) := cell_of_heap HX.out
  have r1 : w0.cell? ⟨R, 1, none⟩ = some (.slice A l.length c) := cell_of_heap HX.out
  have l0 := (Array.getElem?_eq_some_iff.1 HX.out).1
  have ba := bl_alloc (bl_refl w0) (.cells #[.int .i64 day] 2)
  have hcall := check_any days l _ [day] _ _ hl (HS.out.mono (bl_trans HB.out ba)) (by simp) (Ints.one (W := w0) day 2 rfl)
  rw [check_one] at hcall
  have BA := hid ba
  clear ba
  go_wp2_with fail
  refine hcall.mono ?_
  rintro e w1 ⟨rfl, hb1⟩
  have hb01 := bl_trans BA.out hb1
  have HX1 := hid (heap_mono HX.out hb01)
  have HL1 := hid (heap_mono HL.out hb01)
  have HB1 := hid (bl_trans HB.out hb01)
  clear HX HL HB hb1 hb01 r0 r1 l0 hcall BA
  by_cases h0 : askedE days l day = 0
  case neg =>
    have he : (askedE days l day != 0) = true := by simp [h0]
    have e1 := hid (show cpErr days l L day = askedE days l day by rw [cpErr, if_pos h0])
    have e2 := hid (show cpVal days l L day = 0 by rw [cpVal, e1.out, if_neg h0])
    clear h0
    go_wp2
    go_ret2
    exact ⟨by rw [e1.out, e2.out]; rfl, HB1.out⟩
  have he : (askedE days l day != 0) = false := by simp [h0]
  have hn0 : ¬ (askedE days l day ≠ 0) := by simpa using h0
  have E1 := hid (show cpErr days l L day = if fullB days l L = false then 15 else if capB l L l.length = false then 3 else if ruleB l L l.length = false then 16 else if sumB l L days.toNat = false then 14 else 0 by rw [cpErr, if_neg hn0])
  obtain ⟨g0, g1, g2⟩ := asked_zero h0
  have F := fit_of g0
  have f1 := F.d1
  have f2 := F.d2
  have f3 := F.n1
  have f4 := F.n2
  obtain ⟨D, rfl⟩ : ∃ D : Nat, days = D := ⟨days.toNat, by omega⟩
  obtain ⟨t, rfl⟩ : ∃ t : Nat, day = t := ⟨day.toNat, by omega⟩
  have htI : (t : Int) < ((D + 1 : Nat) : Int) := by omega
  have htD : t ≤ D := by omega
  have HF := hid F
  clear h0 hn0 g0 g1 g2 F
  have r1 : w1.cell? ⟨R, 1, none⟩ = some (.slice A l.length c) := cell_of_heap HX1.out
  have l0 := (Array.getElem?_eq_some_iff.1 HX1.out).1
  have s0 : w1.cell? ⟨R + 1, 0, none⟩ = some (.slice A2 L.length c2) := cell_of_heap HL1.out
  have sl0 := (Array.getElem?_eq_some_iff.1 HL1.out).1
  by_cases hlen : L.length = l.length
  case neg =>
    have d1 : ((L.length : Int) != (l.length : Int)) = true := by simp; omega
    have e1 := hid (show cpErr D l L t = 15 by rw [E1.out, if_pos (by simp [fullB, hlen])])
    have e2 := hid (show cpVal D l L t = 0 by rw [cpVal, e1.out]; rfl)
    clear hlen
    go_wp2
    go_ret2
    exact ⟨by rw [e1.out, e2.out]; rfl, HB1.out⟩
  have d1 : ((L.length : Int) != (l.length : Int)) = false := by simp [hlen]
  have HLEN := hid hlen
  clear hlen
  have hcall := containsS_any (D : Int) _ R L _ w1 hLl HX1.out (HP.out.mono HB1.out)
  cases hsh : L.any (shortB (D : Int))
  case true =>
    rw [hsh] at hcall
    have e1 := hid (show cpErr D l L t = 15 by rw [E1.out, if_pos (by simp only [fullB, hsh]; simp)])
    have e2 := hid (show cpVal D l L t = 0 by rw [cpVal, e1.out]; rfl)
    clear hsh
    go_wp2_with fail
    refine hcall.mono ?_
    rintro e w2 ⟨rfl, rfl⟩
    go_wp2
    go_ret2
    exact ⟨by rw [e1.out, e2.out]; rfl, HB1.out⟩
  rw [hsh] at hcall
  have hfu : fullB (D : Int) l L = true := by simp only [fullB, hsh, HLEN.out]; simp
  have E2 := hid (show cpErr D l L t = if capB l L l.length = false then 3 else if ruleB l L l.length = false then 16 else if sumB l L (D : Int).toNat = false then 14 else 0 by rw [E1.out, if_neg (by simp [hfu])])
  have HFU := hid (fullB_full hfu)
  have HPR := hid (HP.out.rows fun r hr => by have := HFU.out.2 r hr; omega)
  clear hsh hfu E1
  go_wp2_with fail
  refine hcall.mono ?_
  rintro e w2 ⟨rfl, rfl⟩
  clear hcall
  clear d1
  obtain ⟨b, off, c', e5, hlc, hb, hcell⟩ := HS.out.some f3
  simp only [Value.slice.injEq, true_and] at e5
  obtain ⟨rfl, rfl⟩ := e5
  obtain ⟨bp, offp, cp', e5, hlcp, hbp, hcellp⟩ := HPR.out.some (by rw [HLEN.out]; omega)
  simp only [Value.slice.injEq, true_and] at e5
  obtain ⟨rfl, rfl⟩ := e5
  have HC := Lib.hid hcell
  have HCP := Lib.hid hcellp
  clear hcell hcellp
  go_wp2
  go_loopw [41] (fun p wr => ∃ k : Nat, k ≤ l.length ∧ p = .int .i64 k ∧ capB l L k = true ∧ wr.heap[R]? = some (.cells #[.int .i64 (D : Int), .slice (some ⟨b, off, none⟩) l.length c] 24 (0, 0)) ∧ wr.heap[R + 1]? = some (.cells #[.slice (some ⟨bp, offp, none⟩) L.length c2] 25 (0, 0)) ∧ Below w.heap.size w wr) (fun p _ => l.length - (intOf p).toNat)
  case atStart => exact ⟨0, Nat.zero_le _, rfl, by simp [capB], HX1.out, HL1.out, HB1.out⟩
  case round =>
    obtain ⟨k, hk, rfl, hd, hR, hR1, hB⟩ := hrel
    clear HX1 HL1 HB1 r1 l0 s0 sl0
    by_cases hlt : k < l.length
    · obtain ⟨x, hx⟩ := get_at hlt
      obtain ⟨q, hq⟩ := get_at (l := L) (k := k) (by rw [HLEN.out]; exact hlt)
      obtain ⟨q0, q1, q2, q3, q4, q5, q6, q7⟩ := (HC.out k x hx).mono hB
      obtain ⟨v, hv, hiv⟩ := HCP.out k q hq
      have hql := HRL.out q (List.mem_of_getElem? hq)
      have hkI : (k : Int) < (l.length : Int) := by omega
      have hkI2 : (k : Int) < (L.length : Int) := by rw [HLEN.out]; omega
      have ba := bl_alloc (bl_refl wr) (.cells #[.int .i64 x.down, .int .i64 x.pass, .int .i64 x.takes, .int .i64 x.lo, .int .i64 x.hi, .int .i64 x.every, .int .i64 x.logs, .int .i64 x.ready] 59)
      have HR3 := hid (heap_mono hR ba)
      have HR13 := hid (heap_mono hR1 ba)
      have HB3 := hid (bl_trans hB ba)
      have HX3 := hid (World.alloc_heap_new wr (.cells #[.int .i64 x.down, .int .i64 x.pass, .int .i64 x.takes, .int .i64 x.lo, .int .i64 x.hi, .int .i64 x.every, .int .i64 x.logs, .int .i64 x.ready] 59))
      have HD := hid hd
      have Hx := hid hx
      have Hq := hid hq
      obtain ⟨Av, cv, rfl⟩ := hiv.slice
      have HV := hid (cell_mono hv HB3.out)
      have HIV := hid (hiv.mono HB3.out)
      clear hd hx hR hR1 hB ba hq hv hiv
      go_upto_region 10 with (fail)
      obtain ⟨X, hX⟩ : ∃ X, wr.heap.size = X := ⟨_, rfl⟩
      obtain ⟨w3, hw3⟩ : ∃ w3, wr.alloc (.cells #[.int .i64 x.down, .int .i64 x.pass, .int .i64 x.takes, .int .i64 x.lo, .int .i64 x.hi, .int .i64 x.every, .int .i64 x.logs, .int .i64 x.ready] 59) = w3 := ⟨_, rfl⟩
      rw [hX] at HX3 ⊢
      rw [hw3] at HR3 HR13 HB3 HX3 HV HIV ⊢
      clear hw3 hX q0 q1 q2 q3 q4 q5 q6 q7
      have y1 : w3.cell? ⟨X, 1, none⟩ = some (.int .i64 x.pass) := cell_of_heap HX3.out
      have yl := (Array.getElem?_eq_some_iff.1 HX3.out).1
      have z1 : w3.cell? ⟨R + 1, 0, none⟩ = some (.slice (some ⟨bp, offp, none⟩) L.length c2) := cell_of_heap HR13.out
      have zl := (Array.getElem?_eq_some_iff.1 HR13.out).1
      have vc := HV.out
      have hbp3 : bp < w3.heap.size := by have := HB3.out.size; omega
      have Gen : Hid (∀ W, Below w3.heap.size w3 W → Calls Try.prog 59 #[.int .i64 0, .int .i64 x.pass, .slice Av q.length cv] W fun e w' => e = .returned (.bool (withinB 0 x.pass q)) ∧ Below W.heap.size W w') := fun W hW => within_any 0 x.pass q _ W (by omega) (HIV.out.mono hW)
      have hcs : Hid (capB l L (k + 1) = (capB l L k && withinB 0 x.pass q)) := by
        show capB l L (k + 1) = _
        unfold capB
        rw [all_range_succ, riv_at Hx.out]
        congr 2
        simp [List.getD, Hq.out]
      refine wp_region_below (by kernel_rfl) (by kernel_rfl) ?_
      repeat (first | go_big_quiet_step (first | (go_at_call 59; exact Calls.regrown_of (Gen.out _ (below_regrown _ _ _)))) | quiet_step (first | (go_at_call 59; exact Calls.regrown_of (Gen.out _ (below_regrown _ _ _)))))
      refine wpQuiet_nil ?_
      intro w4 hb4
      have HR4 := hid (heap_mono HR3.out hb4)
      have HR14 := hid (heap_mono HR13.out hb4)
      have HB4 := hid (bl_trans HB3.out hb4)
      clear HR3 HR13 HB3 y1 yl z1 zl vc Gen HX3 HV HIV hbp3
      cases h4 : withinB 0 x.pass q
      · have e1 := hid (show cpErr D l L t = 3 by
          rw [E2.out, if_pos]
          have h := hcs.out
          rw [h4, Bool.and_false] at h
          refine all_range_at hlt ?_
          rw [riv_at Hx.out, show L.getD k [] = q by simp [List.getD, Hq.out]]
          exact h4)
        have e2 := hid (show cpVal D l L t = 0 by rw [cpVal, e1.out]; rfl)
        clear h4
        go_wp2
        go_ret2
        exact ⟨by rw [e1.out, e2.out]; rfl, HB4.out⟩
      · have hn2 := hid (show capB l L (k + 1) = true by rw [hcs.out, HD.out, h4]; rfl)
        clear h4
        go_wp2
        go_roundw
        case rel => exact ⟨k + 1, by omega, by go_num, hn2.out, HR4.out, HR14.out, HB4.out⟩
        case measure => simp [intOf]; omega
    · obtain rfl : k = l.length := by omega
      have E3 := hid (show cpErr D l L t = if ruleB l L l.length = false then 16 else if sumB l L (D : Int).toNat = false then 14 else 0 by rw [E2.out, if_neg (by simp [hd])])
      have HSM := hid (cap_small HF.out HFU.out hd)
      have r1 : wr.cell? ⟨R, 1, none⟩ = some (.slice (some ⟨b, off, none⟩) l.length c) := cell_of_heap hR
      have l0 := (Array.getElem?_eq_some_iff.1 hR).1
      have HX2 := hid hR
      have HL2 := hid hR1
      have HB2 := hid hB
      clear hd hR hR1 hB E2
      go_wp2
      go_loopw [58] (fun p wr => ∃ k : Nat, k ≤ l.length ∧ p = .int .i64 k ∧ ruleB l L k = true ∧ wr.heap[R]? = some (.cells #[.int .i64 (D : Int), .slice (some ⟨b, off, none⟩) l.length c] 24 (0, 0)) ∧ wr.heap[R + 1]? = some (.cells #[.slice (some ⟨bp, offp, none⟩) L.length c2] 25 (0, 0)) ∧ Below w.heap.size w wr) (fun p _ => l.length - (intOf p).toNat)
      case atStart => exact ⟨0, Nat.zero_le _, rfl, by simp [ruleB], HX2.out, HL2.out, HB2.out⟩
      case round =>
        obtain ⟨k, hk, rfl, hd, hR, hR1, hB⟩ := hrel
        clear HX2 HL2 HB2 r1 l0
        by_cases hlt : k < l.length
        · obtain ⟨x, hx⟩ := get_at hlt
          obtain ⟨q, hq⟩ := get_at (l := L) (k := k) (by rw [HLEN.out]; exact hlt)
          obtain ⟨q0, q1, q2, q3, q4, q5, q6, q7⟩ := (HC.out k x hx).mono hB
          obtain ⟨v, hv, hiv⟩ := HCP.out k q hq
          have hql : q.length = D := HFU.out.2 q (List.mem_of_getElem? hq)
          have hkI : (k : Int) < (l.length : Int) := by omega
          have hkI2 : (k : Int) < (L.length : Int) := by rw [HLEN.out]; omega
          have ba := bl_alloc (bl_refl wr) (.cells #[.int .i64 x.down, .int .i64 x.pass, .int .i64 x.takes, .int .i64 x.lo, .int .i64 x.hi, .int .i64 x.every, .int .i64 x.logs, .int .i64 x.ready] 59)
          have HR3 := hid (heap_mono hR ba)
          have HR13 := hid (heap_mono hR1 ba)
          have HB3 := hid (bl_trans hB ba)
          have HX3 := hid (World.alloc_heap_new wr (.cells #[.int .i64 x.down, .int .i64 x.pass, .int .i64 x.takes, .int .i64 x.lo, .int .i64 x.hi, .int .i64 x.every, .int .i64 x.logs, .int .i64 x.ready] 59))
          have HD := hid hd
          have Hx := hid hx
          have Hq := hid hq
          have g1 := HF.out.every k x hx
          have g2 := HF.out.water k x hx
          obtain ⟨bv, ov, cv, rfl, hcv, hbv, hvcell⟩ := hiv.some (by omega)
          have HVC := Lib.hid hvcell
          have HV := hid (cell_mono hv HB3.out)
          have HQL := hid hql
          clear hd hx hR hR1 hB ba hq hv hiv hvcell hql
          go_upto_region 16 with (fail)
          obtain ⟨X, hX⟩ : ∃ X, wr.heap.size = X := ⟨_, rfl⟩
          obtain ⟨w3, hw3⟩ : ∃ w3, wr.alloc (.cells #[.int .i64 x.down, .int .i64 x.pass, .int .i64 x.takes, .int .i64 x.lo, .int .i64 x.hi, .int .i64 x.every, .int .i64 x.logs, .int .i64 x.ready] 59) = w3 := ⟨_, rfl⟩
          rw [hX] at HX3 ⊢
          rw [hw3] at HR3 HR13 HB3 HX3 HV ⊢
          clear hw3 hX q0 q1 q2 q3 q4 q5 q6 q7
          have z1 : w3.cell? ⟨R + 1, 0, none⟩ = some (.slice (some ⟨bp, offp, none⟩) L.length c2) := cell_of_heap HR13.out
          have zl := (Array.getElem?_eq_some_iff.1 HR13.out).1
          have vc := HV.out
          have hbp3 : bp < w3.heap.size := by have := HB3.out.size; omega
          have hqI : (q.length : Int) = (D : Int) := by rw [HQL.out]
          go_wp2
          clear hqI
          go_loopw [68] (fun p wr => ∃ m : Nat, m ≤ D ∧ p = .int .i64 m ∧ ruleR x q m = true ∧ wr.heap[R]? = some (.cells #[.int .i64 (D : Int), .slice (some ⟨b, off, none⟩) l.length c] 24 (0, 0)) ∧ wr.heap[R + 1]? = some (.cells #[.slice (some ⟨bp, offp, none⟩) L.length c2] 25 (0, 0)) ∧ wr.heap[X]? = some (.cells #[.int .i64 x.down, .int .i64 x.pass, .int .i64 x.takes, .int .i64 x.lo, .int .i64 x.hi, .int .i64 x.every, .int .i64 x.logs, .int .i64 x.ready] 59 (0, 0)) ∧ Below w.heap.size w wr) (fun p _ => D - (intOf p).toNat)
          case atStart => exact ⟨0, Nat.zero_le _, rfl, by simp [ruleR], HR3.out, HR13.out, HX3.out, HB3.out⟩
          case round =>
            obtain ⟨m, hm, rfl, hd, hR, hR1, hX, hB⟩ := hrel
            clear HR3 HR13 HX3 HB3 z1 zl vc hbp3 HV
            have HQLI : Hid ((q.length : Int) = (D : Int)) := by show (q.length : Int) = (D : Int); rw [HQL.out]
            by_cases hmt : m < D
            · obtain ⟨y, hy⟩ := get_at (l := q) (k := m) (by rw [HQL.out]; exact hmt)
              have hyc := cell_mono (HVC.out m y hy) hB
              have hmI : (m : Int) < (q.length : Int) := by rw [HQLI.out]; omega
              have hwm : IntKind.i64.wrap ((m : Int) + 1) = (m : Int) + 1 := IntWalk.i64_in _ (by omega)
              obtain ⟨y0, y1, y2, y3, y4, y5, y6, y7⟩ : RchAt wr X 0 x := ⟨cell_of_heap hX, cell_of_heap hX, cell_of_heap hX, cell_of_heap hX, cell_of_heap hX, cell_of_heap hX, cell_of_heap hX, cell_of_heap hX⟩
              have yl := (Array.getElem?_eq_some_iff.1 hX).1
              have hrs : Hid (ruleR x q (m + 1) = (ruleR x q m && (!(decide (0 < y)) || openB x ((m : Int) + 1)))) := by
                show ruleR x q (m + 1) = _
                unfold ruleR
                rw [all_range_succ]
                congr 2
                simp [List.getD, hy]
              have Hy := hid hy
              have HD2 := hid hd
              have HR4 := hid hR
              have HR14 := hid hR1
              have HX4 := hid hX
              have HB4 := hid hB
              clear hy hd hR hR1 hX hB
              simp only [Nat.zero_add] at y1 y2 y3 y4 y5 y6 y7
              by_cases hpos : 0 < y
              · have d1 : decide (0 < y) = true := by simpa using hpos
                have hcall := open_any x ((m : Int) + 1) wr ⟨g1.1, by omega⟩ (by omega) (by omega)
                unfold encR at hcall
                cases ho : openB x ((m : Int) + 1)
                · rw [ho] at hcall
                  have e1 := hid (show cpErr D l L t = 16 by
                    rw [E3.out, if_pos]
                    refine all_range_at hlt ?_
                    rw [riv_at Hx.out, show L.getD k [] = q by simp [List.getD, Hq.out], HQL.out]
                    have h := hrs.out
                    rw [ho, d1] at h
                    refine all_range_at hmt ?_
                    rw [show q.getD m 0 = y by simp [List.getD, Hy.out], ho, d1]; rfl)
                  have e2 := hid (show cpVal D l L t = 0 by rw [cpVal, e1.out]; rfl)
                  clear ho hpos
                  go_wp2_with fail
                  refine hcall.mono ?_
                  rintro e w5 ⟨rfl, hb5⟩
                  clear hcall y0 y1 y2 y3 y4 y5 y6 y7 yl hyc
                  go_wp2
                  go_ret2
                  exact ⟨by rw [e1.out, e2.out]; rfl, bl_trans HB4.out hb5⟩
                · rw [ho] at hcall
                  have hn2 := hid (show ruleR x q (m + 1) = true by rw [hrs.out, HD2.out, ho]; simp)
                  clear ho hpos
                  go_wp2_with fail
                  refine hcall.mono ?_
                  rintro e w5 ⟨rfl, hb5⟩
                  clear hcall y0 y1 y2 y3 y4 y5 y6 y7 yl hyc
                  go_wp2
                  go_roundw
                  case rel => exact ⟨m + 1, by omega, by go_num, hn2.out, heap_mono HR4.out hb5, heap_mono HR14.out hb5, heap_mono HX4.out hb5, bl_trans HB4.out hb5⟩
                  case measure => simp [intOf]; omega
              · have d1 : decide (0 < y) = false := by simpa using hpos
                have hn2 := hid (show ruleR x q (m + 1) = true by rw [hrs.out, HD2.out, d1]; rfl)
                clear hpos
                go_wp2
                go_roundw
                case rel => exact ⟨m + 1, by omega, by go_num, hn2.out, HR4.out, HR14.out, HX4.out, HB4.out⟩
                case measure => simp [intOf]; omega
            · obtain rfl : m = D := by omega
              have hn2 := hid (show ruleB l L (k + 1) = true by
                have h := HD.out
                unfold ruleB at h ⊢
                rw [all_range_succ, h, riv_at Hx.out, show L.getD k [] = q by simp [List.getD, Hq.out], HQL.out, hd]; rfl)
              have HR4 := hid hR
              have HR14 := hid hR1
              have HB4 := hid hB
              clear hd hR hR1 hX hB
              go_wp2
              go_roundw
              case rel => exact ⟨k + 1, by omega, by go_num, hn2.out, HR4.out, HR14.out, HB4.out⟩
              case measure => simp [intOf]; omega
        · obtain rfl : k = l.length := by omega
          have E4 := hid (show cpErr D l L t = if sumB l L D = false then 14 else 0 by rw [E3.out, if_neg (by simp [hd]), Int.toNat_natCast])
          have HRU := hid hd
          have r0 : wr.cell? ⟨R, 0, none⟩ = some (.int .i64 (D : Int)) := cell_of_heap hR
          have r1 : wr.cell? ⟨R, 1, none⟩ = some (.slice (some ⟨b, off, none⟩) l.length c) := cell_of_heap hR
          have l0 := (Array.getElem?_eq_some_iff.1 hR).1
          have HX2 := hid hR
          have HL2 := hid hR1
          have HB2 := hid hB
          have hr1 := HS.out.mono hB
          have hnew := newYear_any D l _ wr hr1 HF.out
          clear hd hR hR1 hB E3
          go_wp2_with fail
          refine hnew.mono ?_
          rintro e w2 ⟨Y, vp, vc, vb, Bs, rfl, hY⟩
          have hrun := run_plan D l _ HF.out L HFU.out HSM.out wr w2 Y vp vc vb Bs hr1 hY (R + 1) (fun i d hi hd ho => rule_closed HFU.out HSM.out HRU.out hi hd ho) (fun i d W hi hd ho hW hc1 => by
            exact enter_any L _ (R + 1) i d D _ W (heap_mono HL2.out hW) ((HPR.out.mono HB2.out).mono hW) ⟨rfl, HFU.out.2⟩ (by rw [HLEN.out]; exact hi) hd (by omega) hLl)
          clear hY hnew r0 r1 l0
          go_wp2_with fail
          refine hrun.mono ?_
          rintro e w3 ⟨hb3, h⟩
          clear hrun
          rcases h with ⟨hok, rfl, vc', vb', hy⟩ | ⟨hno, rfl⟩
          · have e1 := hid (show cpErr D l L t = 0 by rw [E4.out, if_neg (by simpa using (sumB_iff l L D).2 hok)])
            have e2 := hid (show cpVal D l L t = brought (rivP l) l.length (planP L) (t : Int) by rw [cpVal, e1.out]; rfl)
            have y4 := hy.c4
            have yl := hy.lt
            have hbl : (boomRow l (planP L) (D + 1)).length = D + 1 := by simp [boomRow]
            obtain ⟨gB, cap, rfl, hcap, gl, hct⟩ : ∃ gB cap, vb' = .slice (some ⟨gB, 0, none⟩) (D + 1) cap ∧ D + 1 ≤ cap ∧ gB < w3.heap.size ∧ w3.cell? ⟨gB, t, none⟩ = some (.int .i64 (brought (rivP l) l.length (planP L) (t : Int))) := by
              rcases hy.boom.2 with ⟨_, h2⟩ | ⟨g, cap, cur, h1, _, hg, hcap, _⟩
              · rw [hbl] at h2; omega
              · refine ⟨g, cap, by rw [h1, hbl], by omega, (Array.getElem?_eq_some_iff.1 hg).1, ?_⟩
                have h3 := hy.boom.cells (g := g) (by rw [h1]; rfl) t (.int .i64 (brought (rivP l) l.length (planP L) (t : Int))) (by simp [ints, boomRow, show t < D + 1 by omega])
                rw [Addr.add_lit, Nat.zero_add] at h3
                exact h3
            have HB3 := hid (bl_trans HB2.out hb3)
            clear hy hok hbl hb3
            go_wp2
            go_ret2
            exact ⟨by rw [e1.out, e2.out]; rfl, HB3.out⟩
          · have e1 := hid (show cpErr D l L t = 14 by rw [E4.out, if_pos (by have h := hno; rw [← sumB_iff] at h; simpa using h)])
            have e2 := hid (show cpVal D l L t = 0 by rw [cpVal, e1.out]; rfl)
            have HB3 := hid (bl_trans HB2.out hb3)
            clear hno hb3
            go_wp2
            go_ret2
            exact ⟨by rw [e1.out, e2.out]; rfl, HB3.out⟩

end Go.Proofs.Ytbnmjbmlejifcaa
