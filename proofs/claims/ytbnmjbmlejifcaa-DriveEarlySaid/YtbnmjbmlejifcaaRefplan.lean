/- The reference's CheckPlan: the walk. -/
import Derived.Test.YtbnmjbmlejifcaaRefcut
import Derived.Test.YtbnmjbmlejifcaaChkb
set_option linter.all false
namespace Go.Proofs.Ytbnmjbmlejifcaa
open Go Go.RowKit Go.Proofs
attribute [local go_sem] cell_grow frozen_grow

def sumR (l : List Rch) (L : List (List Int)) (i m : Nat) : Bool := (List.range m).all fun d : Nat => decide (gone (planP L) i ((d : Int) + 1) ≤ come (rivP l) (planP L) i ((d : Int) + 1))
theorem sumB_eq (l : List Rch) (L : List (List Int)) (D : Nat) : sumB l L D = (List.range l.length).all fun i => sumR l L i D := rfl

set_option maxRecDepth 100000 in
set_option maxHeartbeats 16000000 in
theorem refCheckPlan_any (days : Int) (l : List Rch) (sr : Value) (L : List (List Int)) (sp : Value) (day : Int) (w : World) (hs : Rchs w sr l) (hLl : L.length ≤ 1000) (hrl : ∀ r ∈ L, r.length ≤ 1000) (hp : Rows0 w sp L) :
    Calls Try.prog 22 #[.agg #[.int .i64 days, sr], sp, .int .i64 day] w fun e w' => e = .returned (.tuple #[.int .i64 (cpVal days l L day), .int .i64 (cpErr days l L day)]) ∧ Below w.heap.size w w' := by
  obtain ⟨A, c, rfl⟩ := hs.slice
  obtain ⟨A2, c2, rfl⟩ := hp.slice
  have HX := hid (World.alloc_heap_new w (.cells #[.int .i64 days, .slice A l.length c] 24))
  have HB := hid (bl_alloc (bl_refl w) (.cells #[.int .i64 days, .slice A l.length c] 24))
  have HS := hid hs
  have HP := hid hp
  have HRL := Lib.hid hrl
  clear hs hp hrl
  go_enter Try.func22, Try.ntmps22
  go_upto_region 1 with (fail)
  obtain ⟨R, hR⟩ : ∃ R, w.heap.size = R := ⟨_, rfl⟩
  obtain ⟨w0, hw0⟩ : ∃ w0, w.alloc (.cells #[.int .i64 days, .slice A l.length c] 24) = w0 := ⟨_, rfl⟩
  rw [hR] at HX ⊢
  rw [hw0] at HX HB ⊢
  clear hw0 hR
  have r0 : w0.cell? ⟨R, 0, none⟩ = some (.int .i64 days) := cell_of_heap HX.out
  have r1 : w0.cell? ⟨R, 1, none⟩ = some (.slice A l.length c) := cell_of_heap HX.out
  have l0 := (Array.getElem?_eq_some_iff.1 HX.out).1
  go_wp2_with fail
  refine (refAsked_any days l _ day _ (HS.out.mono HB.out)).mono ?_
  rintro e w1 ⟨rfl, hb1⟩
  have HX1 := hid (heap_mono HX.out hb1)
  have HB1 := hid (bl_trans HB.out hb1)
  clear HX HB hb1 r0 r1 l0
  have r0 : w1.cell? ⟨R, 0, none⟩ = some (.int .i64 days) := cell_of_heap HX1.out
  have r1 : w1.cell? ⟨R, 1, none⟩ = some (.slice A l.length c) := cell_of_heap HX1.out
  have l0 := (Array.getElem?_eq_some_iff.1 HX1.out).1
  by_cases h0 : askedE days l day = 0
  case neg =>
    have he : (askedE days l day != 0) = true := by simp [h0]
    have e1 := hid (show cpErr days l L day = askedE days l day by rw [cpErr, if_pos h0])
    have e2 := hid (show cpVal days l L day = 0 by rw [cpVal, e1.out, if_neg h0])
    clear h0
    go_wp2_with fail
    refine (refAsked_any days l _ day w1 (HS.out.mono HB1.out)).mono ?_
    rintro e w2 ⟨rfl, hb2⟩
    clear r0 r1 l0
    go_wp2
    go_ret2
    exact ⟨by rw [e1.out, e2.out]; rfl, bl_trans HB1.out hb2⟩
  have he : (askedE days l day != 0) = false := by simp [h0]
  have hn0 : ¬ (askedE days l day ≠ 0) := by simpa using h0
  have E1 := hid (show cpErr days l L day = if fullB days l L = false then 15 else if capB l L l.length = false then 3 else if ruleB l L l.length = false then 16 else if sumB l L days.toNat = false then 14 else 0 by rw [cpErr, if_neg hn0])
  obtain ⟨g0, g1, g2⟩ := asked_zero h0
  have HF := hid (fit_of g0)
  have f1 := HF.out.d1
  have f2 := HF.out.d2
  have f3 := HF.out.n1
  have f4 := HF.out.n2
  obtain ⟨D, rfl⟩ : ∃ D : Nat, days = D := ⟨days.toNat, by omega⟩
  obtain ⟨t, rfl⟩ : ∃ t : Nat, day = t := ⟨day.toNat, by omega⟩
  have htD : t ≤ D := by omega
  clear h0 hn0 g0 g1 g2
  by_cases hlen : L.length = l.length
  case neg =>
    have d1 : ((L.length : Int) != (l.length : Int)) = true := by simp; omega
    have e1 := hid (show cpErr D l L t = 15 by rw [E1.out, if_pos (by simp [fullB, hlen])])
    have e2 := hid (show cpVal D l L t = 0 by rw [cpVal, e1.out]; rfl)
    clear hlen
    go_wp2
    go_ret2
    exact ⟨by rw [e1.out, e2.out]; rfl, HB1.out⟩
  have d1 : ((L.length : Int) != (l.length : Int)) = false := by simp [hlen]
  have HLEN := hid hlen
  clear hlen
  obtain ⟨b, off, c', e5, hlc, hb, hcell⟩ := HS.out.some f3
  simp only [Value.slice.injEq, true_and] at e5
  obtain ⟨rfl, rfl⟩ := e5
  obtain ⟨bp, offp, cp', e5, hlcp, hbp, hcellp⟩ := HP.out.some (by rw [HLEN.out]; omega)
  simp only [Value.slice.injEq, true_and] at e5
  obtain ⟨rfl, rfl⟩ := e5
  have HC := Lib.hid hcell
  have HCP := Lib.hid hcellp
  clear hcell hcellp
  go_wp2
  clear r0 r1 l0 d1
  -- the lists' lengths
  go_loopw [8] (fun p wr => ∃ k : Nat, k ≤ L.length ∧ p = .int .i64 k ∧ NoShort (D : Int) L k ∧ wr.heap[R]? = some (.cells #[.int .i64 (D : Int), .slice (some ⟨b, off, none⟩) l.length c] 24 (0, 0)) ∧ Below w.heap.size w wr) (fun p _ => L.length - (intOf p).toNat)
  case atStart => exact ⟨0, Nat.zero_le _, rfl, fun i r h => by omega, HX1.out, HB1.out⟩
  case round =>
    obtain ⟨k, hk, rfl, hall, hR, hB⟩ := hrel
    clear HX1 HB1
    have HALL := hid hall
    have HX2 := hid hR
    have HB2 := hid hB
    clear hall hR hB
    by_cases hlt : k < L.length
    · obtain ⟨q, hq⟩ := get_at hlt
      obtain ⟨Av, cv, hv, hiv⟩ := HCP.out k q hq
      have hkI : (k : Int) < (L.length : Int) := by omega
      have vc := cell_mono hv HB2.out
      have hbpr : bp < wr.heap.size := by have := HB2.out.size; omega
      have s0 : wr.cell? ⟨R, 0, none⟩ = some (.int .i64 (D : Int)) := cell_of_heap HX2.out
      have sl := (Array.getElem?_eq_some_iff.1 HX2.out).1
      have Hq := hid hq
      clear hq hv hiv
      go_upto_region 8 with (fail)
      by_cases hql : (q.length : Int) = (D : Int)
      · have d1 : ((q.length : Int) != (D : Int)) = false := by simp [hql]
        have hn2 : Hid (NoShort (D : Int) L (k + 1)) := by
          intro i r hi hr
          by_cases e : i = k
          · subst e; have h := Hq.out; rw [hr] at h; injection h with h; subst h; simp [shortB, hql]
          · exact HALL.out i r (by omega) hr
        clear hql
        refine wp_region_below (by kernel_rfl) (by kernel_rfl) ?_
        repeat (first | go_big_quiet_step (fail) | quiet_step (fail))
        refine wpQuiet_nil ?_
        intro w4 hb4
        have HX3 := hid (heap_mono HX2.out hb4)
        have HB3 := hid (bl_trans HB2.out hb4)
        clear vc hbpr s0 sl HX2 HB2 hb4
        go_wp2
        go_roundw
        case rel => exact ⟨k + 1, by omega, by go_num, hn2.out, HX3.out, HB3.out⟩
        case measure => simp [intOf]; omega
      · have d1 : ((q.length : Int) != (D : Int)) = true := by simp [hql]
        have e1 := hid (show cpErr D l L t = 15 by
          rw [E1.out, if_pos]
          have h := short_some (days := (D : Int)) Hq.out (by simp [shortB, hql])
          simp [fullB, h])
        have e2 := hid (show cpVal D l L t = 0 by rw [cpVal, e1.out]; rfl)
        clear hql
        refine wp_region_below (by kernel_rfl) (by kernel_rfl) ?_
        repeat (first | go_big_quiet_step (fail) | quiet_step (fail))
        refine wpQuiet_nil ?_
        intro w4 hb4
        have HB3 := hid (bl_trans HB2.out hb4)
        clear vc hbpr s0 sl HX2 HB2 hb4
        go_wp2
        go_ret2
        exact ⟨by rw [e1.out, e2.out]; rfl, HB3.out⟩
    · obtain rfl : k = L.length := by omega
      have hfu : fullB (D : Int) l L = true := by simp only [fullB, noShort_all HALL.out, HLEN.out]; simp
      have E2 := hid (show cpErr D l L t = if capB l L l.length = false then 3 else if ruleB l L l.length = false then 16 else if sumB l L (D : Int).toNat = false then 14 else 0 by rw [E1.out, if_neg (by simp [hfu])])
      have HFU := hid (fullB_full hfu)
      have HPR := hid (HP.out.rows fun r hr => by have := HFU.out.2 r hr; omega)
      have HCP : Hid (∀ (i : Nat) (r : List Int), L[i]? = some r → ∃ v, w.cell? ⟨bp, offp + i, none⟩ = some v ∧ Ints w v r) := by
        intro i r hr
        obtain ⟨A, c', h5, h6⟩ := HCP.out i r hr
        exact ⟨_, h5, h6 (by have := HFU.out.2 r (List.mem_of_getElem? hr); omega)⟩
      clear hfu E1 HALL hlt
      go_wp2
      -- the numbers
      go_loopw [9] (fun p wr => ∃ k : Nat, k ≤ L.length ∧ p = .int .i64 k ∧ capB l L k = true ∧ wr.heap[R]? = some (.cells #[.int .i64 (D : Int), .slice (some ⟨b, off, none⟩) l.length c] 24 (0, 0)) ∧ Below w.heap.size w wr) (fun p _ => L.length - (intOf p).toNat)
      case atStart => exact ⟨0, Nat.zero_le _, rfl, by simp [capB], HX2.out, HB2.out⟩
      case round =>
        obtain ⟨k, hk, rfl, hd, hR, hB⟩ := hrel
        clear HX2 HB2
        have HD := hid hd
        have HX3 := hid hR
        have HB3 := hid hB
        clear hd hR hB
        by_cases hlt : k < L.length
        · obtain ⟨x, hx⟩ := get_at (l := l) (k := k) (by rw [← HLEN.out]; exact hlt)
          obtain ⟨q, hq⟩ := get_at hlt
          obtain ⟨v, hv, hiv⟩ := HCP.out k q hq
          have hql : q.length = D := HFU.out.2 q (List.mem_of_getElem? hq)
          obtain ⟨bv, ov, cv, rfl, hcv, hbv, hvcell⟩ := hiv.some (by omega)
          have HVC := Lib.hid hvcell
          have HV := hid hv
          have HQL := hid hql
          have HQLI : Hid ((q.length : Int) = (D : Int)) := by show (q.length : Int) = (D : Int); rw [hql]
          have Hx := hid hx
          have Hq := hid hq
          have hkI : (k : Int) < (L.length : Int) := by omega
          have hkI2 : (k : Int) < (l.length : Int) := by rw [← HLEN.out]; omega
          clear hx hq hv hiv hvcell hql
          go_wp2
          go_loopw [10] (fun p wr => ∃ m : Nat, m ≤ q.length ∧ p = .int .i64 m ∧ (∀ (i : Nat) (z : Int), i < m → q[i]? = some z → 0 ≤ z ∧ z ≤ x.pass) ∧ wr.heap[R]? = some (.cells #[.int .i64 (D : Int), .slice (some ⟨b, off, none⟩) l.length c] 24 (0, 0)) ∧ Below w.heap.size w wr) (fun p _ => q.length - (intOf p).toNat)
          case atStart => exact ⟨0, Nat.zero_le _, rfl, fun i z h => by omega, HX3.out, HB3.out⟩
          case round =>
            obtain ⟨m, hm, rfl, hall, hR, hB⟩ := hrel
            clear HX3 HB3
            have HALL := Lib.hid hall
            have HX4 := hid hR
            have HB4 := hid hB
            clear hall hR hB
            have vc := cell_mono HV.out HB4.out
            have hbpr : bp < wr.heap.size := by have := HB4.out.size; omega
            by_cases hmt : m < q.length
            · obtain ⟨y, hy⟩ := get_at hmt
              have hmD : m < D := by rw [← HQL.out]; exact hmt
              have hyc := cell_mono (HVC.out m y hy) HB4.out
              have hbvr : bv < wr.heap.size := by have := HB4.out.size; omega
              have hblr : b < wr.heap.size := by have := HB4.out.size; omega
              have hmI : (m : Int) < (q.length : Int) := by omega
              have s1 : wr.cell? ⟨R, 1, none⟩ = some (.slice (some ⟨b, off, none⟩) l.length c) := cell_of_heap HX4.out
              have sl := (Array.getElem?_eq_some_iff.1 HX4.out).1
              have x1 := ((HC.out k x Hx.out).mono HB4.out).c1
              have Hy := hid hy
              clear hy
              go_upto_region 16 with (fail)
              by_cases h1 : y < 0
              · have d1 : decide (y < 0) = true := by simpa using h1
                have e1 := hid (show cpErr D l L t = 3 by
                  rw [E2.out, if_pos]
                  refine all_range_at (by rw [← HLEN.out]; exact hlt) ?_
                  rw [riv_at Hx.out, show L.getD k [] = q by simp [List.getD, Hq.out]]
                  exact within_bad Hy.out (.inl h1))
                have e2 := hid (show cpVal D l L t = 0 by rw [cpVal, e1.out]; rfl)
                clear h1
                refine wp_region_below (by kernel_rfl) (by kernel_rfl) ?_
                repeat (first | go_big_quiet_step (fail) | quiet_step (fail))
                refine wpQuiet_nil ?_
                intro w4 hb4
                have HB5 := hid (bl_trans HB4.out hb4)
                clear vc hbpr hyc hbvr hblr s1 sl x1 HX4 HB4 hb4
                go_wp2
                go_ret2
                exact ⟨by rw [e1.out, e2.out]; rfl, HB5.out⟩
              · have d1 : decide (y < 0) = false := by simpa using h1
                by_cases h2 : x.pass < y
                · have d2 : decide (x.pass < y) = true := by simpa using h2
                  have e1 := hid (show cpErr D l L t = 3 by
                    rw [E2.out, if_pos]
                    refine all_range_at (by rw [← HLEN.out]; exact hlt) ?_
                    rw [riv_at Hx.out, show L.getD k [] = q by simp [List.getD, Hq.out]]
                    exact within_bad Hy.out (.inr h2))
                  have e2 := hid (show cpVal D l L t = 0 by rw [cpVal, e1.out]; rfl)
                  clear h1 h2
                  refine wp_region_below (by kernel_rfl) (by kernel_rfl) ?_
                  repeat (first | go_big_quiet_step (fail) | quiet_step (fail))
                  refine wpQuiet_nil ?_
                  intro w4 hb4
                  have HB5 := hid (bl_trans HB4.out hb4)
                  clear vc hbpr hyc hbvr hblr s1 sl x1 HX4 HB4 hb4
                  go_wp2
                  go_ret2
                  exact ⟨by rw [e1.out, e2.out]; rfl, HB5.out⟩
                · have d2 : decide (x.pass < y) = false := by simpa using h2
                  have hn2 : Hid (∀ (i : Nat) (z : Int), i < m + 1 → q[i]? = some z → 0 ≤ z ∧ z ≤ x.pass) := by
                    intro i z hi hz
                    by_cases e : i = m
                    · subst e; have h := Hy.out; rw [hz] at h; injection h with h; subst h; omega
                    · exact HALL.out i z (by omega) hz
                  clear h1 h2
                  refine wp_region_below (by kernel_rfl) (by kernel_rfl) ?_
                  repeat (first | go_big_quiet_step (fail) | quiet_step (fail))
                  refine wpQuiet_nil ?_
                  intro w4 hb4
                  have HX5 := hid (heap_mono HX4.out hb4)
                  have HB5 := hid (bl_trans HB4.out hb4)
                  clear vc hbpr hyc hbvr hblr s1 sl x1 HX4 HB4 hb4
                  go_wp2
                  go_roundw
                  case rel => exact ⟨m + 1, by omega, by go_num, hn2.out, HX5.out, HB5.out⟩
                  case measure => simp [intOf]; omega
            · obtain rfl : m = q.length := by omega
              have hn2 := hid (show capB l L (k + 1) = true by
                have h := HD.out
                unfold capB at h ⊢
                rw [all_range_succ, h, riv_at Hx.out, show L.getD k [] = q by simp [List.getD, Hq.out], within_of HALL.out]; rfl)
              clear hmt
              go_wp2
              go_roundw
              case rel => exact ⟨k + 1, by omega, by go_num, hn2.out, HX4.out, HB4.out⟩
              case measure => simp [intOf]; omega
        · obtain rfl : k = L.length := by omega
          have hcp : capB l L l.length = true := by rw [← HLEN.out]; exact HD.out
          have E3 := hid (show cpErr D l L t = if ruleB l L l.length = false then 16 else if sumB l L (D : Int).toNat = false then 14 else 0 by rw [E2.out, if_neg (by simp [hcp])])
          have HSM := hid (cap_small HF.out HFU.out hcp)
          clear hcp HD E2 hlt
          go_wp2
          -- the open days
          go_loopw [11] (fun p wr => ∃ k : Nat, k ≤ L.length ∧ p = .int .i64 k ∧ ruleB l L k = true ∧ wr.heap[R]? = some (.cells #[.int .i64 (D : Int), .slice (some ⟨b, off, none⟩) l.length c] 24 (0, 0)) ∧ Below w.heap.size w wr) (fun p _ => L.length - (intOf p).toNat)
          case atStart => exact ⟨0, Nat.zero_le _, rfl, by simp [ruleB], HX3.out, HB3.out⟩
          case round =>
            obtain ⟨k, hk, rfl, hd, hR, hB⟩ := hrel
            clear HX3 HB3
            have HD := hid hd
            have HX4 := hid hR
            have HB4 := hid hB
            clear hd hR hB
            by_cases hlt : k < L.length
            · obtain ⟨x, hx⟩ := get_at (l := l) (k := k) (by rw [← HLEN.out]; exact hlt)
              obtain ⟨q, hq⟩ := get_at hlt
              obtain ⟨v, hv, hiv⟩ := HCP.out k q hq
              have hql : q.length = D := HFU.out.2 q (List.mem_of_getElem? hq)
              obtain ⟨bv, ov, cv, rfl, hcv, hbv, hvcell⟩ := hiv.some (by omega)
              have g1 := HF.out.every k x hx
              have g2 := HF.out.water k x hx
              have HVC := Lib.hid hvcell
              have HV := hid hv
              have HQL := hid hql
              have Hx := hid hx
              have Hq := hid hq
              have hkI : (k : Int) < (L.length : Int) := by omega
              have hkI2 : (k : Int) < (l.length : Int) := by rw [← HLEN.out]; omega
              clear hx hq hv hiv hvcell hql
              go_wp2
              go_loopw [12] (fun p wr => ∃ m : Nat, m ≤ q.length ∧ p = .int .i64 m ∧ ruleR x q m = true ∧ wr.heap[R]? = some (.cells #[.int .i64 (D : Int), .slice (some ⟨b, off, none⟩) l.length c] 24 (0, 0)) ∧ Below w.heap.size w wr) (fun p _ => q.length - (intOf p).toNat)
              case atStart => exact ⟨0, Nat.zero_le _, rfl, by simp [ruleR], HX4.out, HB4.out⟩
              case round =>
                obtain ⟨m, hm, rfl, hrl0, hR, hB⟩ := hrel
                clear HX4 HB4
                have HRR := hid hrl0
                have HX5 := hid hR
                have HB5 := hid hB
                clear hrl0 hR hB
                have vc := cell_mono HV.out HB5.out
                have hbpr : bp < wr.heap.size := by have := HB5.out.size; omega
                by_cases hmt : m < q.length
                · obtain ⟨y, hy⟩ := get_at hmt
                  have hyc := cell_mono (HVC.out m y hy) HB5.out
                  have hbvr : bv < wr.heap.size := by have := HB5.out.size; omega
                  have hblr : b < wr.heap.size := by have := HB5.out.size; omega
                  have hmI : (m : Int) < (q.length : Int) := by omega
                  have hmD : m < D := by rw [← HQL.out]; exact hmt
                  have hwm : IntKind.i64.wrap ((m : Int) + 1) = (m : Int) + 1 := IntWalk.i64_in _ (by omega)
                  have s1 : wr.cell? ⟨R, 1, none⟩ = some (.slice (some ⟨b, off, none⟩) l.length c) := cell_of_heap HX5.out
                  have sl := (Array.getElem?_eq_some_iff.1 HX5.out).1
                  obtain ⟨y0, y1, y2, y3, y4, y5, y6, y7⟩ := (HC.out k x Hx.out).mono HB5.out
                  have hrs : Hid (ruleR x q (m + 1) = (ruleR x q m && (!(decide (0 < y)) || openB x ((m : Int) + 1)))) := by
                    show ruleR x q (m + 1) = _
                    unfold ruleR
                    rw [all_range_succ]
                    congr 2
                    simp [List.getD, hy]
                  have Hy := hid hy
                  clear hy
                  by_cases hpos : 0 < y
                  · have d1 : decide (0 < y) = true := by simpa using hpos
                    have hop := isOpen_any x ((m : Int) + 1) wr ⟨g2.1, by omega⟩ ⟨g1.1, by omega⟩ ⟨by omega, by omega⟩
                    unfold encR at hop
                    cases ho : openB x ((m : Int) + 1)
                    · rw [ho] at hop
                      have e1 := hid (show cpErr D l L t = 16 by
                        rw [E3.out, if_pos]
                        refine all_range_at (by rw [← HLEN.out]; exact hlt) ?_
                        rw [riv_at Hx.out, show L.getD k [] = q by simp [List.getD, Hq.out]]
                        refine all_range_at hmt ?_
                        rw [show q.getD m 0 = y by simp [List.getD, Hy.out], ho, d1]; rfl)
                      have e2 := hid (show cpVal D l L t = 0 by rw [cpVal, e1.out]; rfl)
                      clear ho hpos
                      go_wp2_with fail
                      refine hop.mono ?_
                      rintro e w6 ⟨rfl, hb6⟩
                      clear hop y0 y1 y2 y3 y4 y5 y6 y7 sl hyc vc s1
                      go_wp2
                      go_ret2
                      exact ⟨by rw [e1.out, e2.out]; rfl, bl_trans HB5.out hb6⟩
                    · rw [ho] at hop
                      have hn2 := hid (show ruleR x q (m + 1) = true by rw [hrs.out, HRR.out, ho]; simp)
                      clear ho hpos
                      go_wp2_with fail
                      refine hop.mono ?_
                      rintro e w6 ⟨rfl, hb6⟩
                      clear hop y0 y1 y2 y3 y4 y5 y6 y7 sl hyc vc s1
                      go_wp2
                      go_roundw
                      case rel => exact ⟨m + 1, by omega, by go_num, hn2.out, heap_mono HX5.out hb6, bl_trans HB5.out hb6⟩
                      case measure => simp [intOf]; omega
                  · have d1 : decide (0 < y) = false := by simpa using hpos
                    have hn2 := hid (show ruleR x q (m + 1) = true by rw [hrs.out, HRR.out, d1]; rfl)
                    clear hpos
                    go_wp2
                    go_roundw
                    case rel => exact ⟨m + 1, by omega, by go_num, hn2.out, HX5.out, HB5.out⟩
                    case measure => simp [intOf]; omega
                · obtain rfl : m = q.length := by omega
                  have hn2 := hid (show ruleB l L (k + 1) = true by
                    have h := HD.out
                    unfold ruleB at h ⊢
                    rw [all_range_succ, h, riv_at Hx.out, show L.getD k [] = q by simp [List.getD, Hq.out], HRR.out]; rfl)
                  clear hmt
                  go_wp2
                  go_roundw
                  case rel => exact ⟨k + 1, by omega, by go_num, hn2.out, HX5.out, HB5.out⟩
                  case measure => simp [intOf]; omega
            · obtain rfl : k = L.length := by omega
              have hru : ruleB l L l.length = true := by rw [← HLEN.out]; exact HD.out
              have E4 := hid (show cpErr D l L t = if sumB l L D = false then 14 else 0 by rw [E3.out, if_neg (by simp [hru]), Int.toNat_natCast])
              clear hru HD E3 hlt
              go_wp2
              -- no more enter than have come
              go_loopw [13] (fun p wr => ∃ k : Nat, k ≤ L.length ∧ p = .int .i64 k ∧ (∀ i, i < k → sumR l L i D = true) ∧ wr.heap[R]? = some (.cells #[.int .i64 (D : Int), .slice (some ⟨b, off, none⟩) l.length c] 24 (0, 0)) ∧ Below w.heap.size w wr) (fun p _ => L.length - (intOf p).toNat)
              case atStart => exact ⟨0, Nat.zero_le _, rfl, fun i h => by omega, HX4.out, HB4.out⟩
              case round =>
                obtain ⟨k, hk, rfl, hd, hR, hB⟩ := hrel
                clear HX4 HB4
                have HD := Lib.hid hd
                have HX5 := hid hR
                have HB5 := hid hB
                clear hd hR hB
                by_cases hlt : k < L.length
                · have hkl : k < l.length := by rw [← HLEN.out]; exact hlt
                  go_wp2
                  go_loopw [14] (fun p wr => ∃ m : Nat, m ≤ D ∧ p = .int .i64 ((m : Int) + 1) ∧ sumR l L k m = true ∧ wr.heap[R]? = some (.cells #[.int .i64 (D : Int), .slice (some ⟨b, off, none⟩) l.length c] 24 (0, 0)) ∧ Below w.heap.size w wr) (fun p _ => D + 1 - (intOf p).toNat)
                  case atStart => exact ⟨0, Nat.zero_le _, rfl, by simp [sumR], HX5.out, HB5.out⟩
                  case round =>
                    obtain ⟨m, hm, rfl, hsr, hR, hB⟩ := hrel
                    clear HX5 HB5
                    have HSR := hid hsr
                    have HX6 := hid hR
                    have HB6 := hid hB
                    clear hsr hR hB
                    have s0 : wr.cell? ⟨R, 0, none⟩ = some (.int .i64 (D : Int)) := cell_of_heap HX6.out
                    have s1 : wr.cell? ⟨R, 1, none⟩ = some (.slice (some ⟨b, off, none⟩) l.length c) := cell_of_heap HX6.out
                    have sl := (Array.getElem?_eq_some_iff.1 HX6.out).1
                    by_cases hmt : m < D
                    · have dI : decide ((m : Int) + 1 ≤ (D : Int)) = true := by simp; omega
                      go_upto_region 32 with (fail)
                      have G48 : Hid (∀ W, Below wr.heap.size wr W → Calls Try.prog 48 #[.slice (some ⟨bp, offp, none⟩) L.length c2, .int .i64 (k : Int), .int .i64 ((m : Int) + 1)] W fun e w' => e = .returned (.int .i64 (gone (planP L) k ((m : Int) + 1))) ∧ Below W.heap.size W w') := fun W hW => (gone_any L _ k ((m : Int) + 1) W ((HPR.out.mono HB6.out).mono hW) hlt HSM.out (by omega)).mono fun e w' h => ⟨h.1, by rw [h.2]; exact bl_refl _⟩
                      have G64 : Hid (∀ W, Below wr.heap.size wr W → Calls Try.prog 64 #[.agg #[.int .i64 (D : Int), .slice (some ⟨b, off, none⟩) l.length c], .slice (some ⟨bp, offp, none⟩) L.length c2, .int .i64 (k : Int), .int .i64 ((m : Int) + 1)] W fun e w' => e = .returned (.int .i64 (come (rivP l) (planP L) k ((m : Int) + 1))) ∧ Below W.heap.size W w') := fun W hW => come_any D l _ L _ k ((m : Int) + 1) W ((HS.out.mono HB6.out).mono hW) ((HPR.out.mono HB6.out).mono hW) HF.out HLEN.out hkl HSM.out (by omega)
                      have hstep : Hid (sumR l L k (m + 1) = (sumR l L k m && decide (gone (planP L) k ((m : Int) + 1) ≤ come (rivP l) (planP L) k ((m : Int) + 1)))) := by
                        show sumR l L k (m + 1) = _
                        unfold sumR
                        rw [all_range_succ]
                      have hbad : Hid (¬ gone (planP L) k ((m : Int) + 1) ≤ come (rivP l) (planP L) k ((m : Int) + 1) → sumB l L D = false) := fun h => by
                        rw [sumB_eq]
                        refine all_range_at hkl ?_
                        exact all_range_at hmt (by simpa using h)
                      generalize gone (planP L) k ((m : Int) + 1) = gn at *
                      generalize come (rivP l) (planP L) k ((m : Int) + 1) = cm at *
                      have hwm : IntKind.i64.wrap ((m : Int) + 1 + 1) = ((m + 1 : Nat) : Int) + 1 := by rw [IntWalk.i64_in _ (by omega)]; omega
                      by_cases hgt : gn ≤ cm
                      · have d1 : decide (cm < gn) = false := by simp; omega
                        have hn2 := hid (show sumR l L k (m + 1) = true by rw [hstep.out, HSR.out]; simpa using hgt)
                        clear hgt
                        refine wp_region_below (by kernel_rfl) (by kernel_rfl) ?_
                        repeat (first | go_big_quiet_step (first | (go_at_call 48; exact Calls.regrown_of (G48.out _ (below_regrown _ _ _))) | (go_at_call 64; exact Calls.regrown_of (G64.out _ (below_regrown _ _ _)))) | quiet_step (first | (go_at_call 48; exact Calls.regrown_of (G48.out _ (below_regrown _ _ _))) | (go_at_call 64; exact Calls.regrown_of (G64.out _ (below_regrown _ _ _)))))
                        refine wpQuiet_nil ?_
                        intro w4 hb4
                        have HX7 := hid (heap_mono HX6.out hb4)
                        have HB7 := hid (bl_trans HB6.out hb4)
                        clear s0 s1 sl G48 G64 HX6 HB6 hb4
                        go_wp2
                        go_roundw
                        case rel => exact ⟨m + 1, by omega, rfl, hn2.out, HX7.out, HB7.out⟩
                        case measure => simp [intOf]; omega
                      · have d1 : decide (cm < gn) = true := by simp; omega
                        have e1 := hid (show cpErr D l L t = 14 by rw [E4.out, if_pos (hbad.out hgt)])
                        have e2 := hid (show cpVal D l L t = 0 by rw [cpVal, e1.out]; rfl)
                        clear hgt
                        refine wp_region_below (by kernel_rfl) (by kernel_rfl) ?_
                        repeat (first | go_big_quiet_step (first | (go_at_call 48; exact Calls.regrown_of (G48.out _ (below_regrown _ _ _))) | (go_at_call 64; exact Calls.regrown_of (G64.out _ (below_regrown _ _ _)))) | quiet_step (first | (go_at_call 48; exact Calls.regrown_of (G48.out _ (below_regrown _ _ _))) | (go_at_call 64; exact Calls.regrown_of (G64.out _ (below_regrown _ _ _)))))
                        refine wpQuiet_nil ?_
                        intro w4 hb4
                        have HB7 := hid (bl_trans HB6.out hb4)
                        clear s0 s1 sl G48 G64 HX6 HB6 hb4
                        go_wp2
                        go_ret2
                        exact ⟨by rw [e1.out, e2.out]; rfl, HB7.out⟩
                    · obtain rfl : m = D := by omega
                      have dI : decide ((m : Int) + 1 ≤ (m : Int)) = false := by rw [decide_eq_false_iff_not]; omega
                      have hn2 : Hid (∀ i, i < k + 1 → sumR l L i m = true) := by
                        intro i hi
                        by_cases e : i = k
                        · subst e; exact HSR.out
                        · exact HD.out i (by omega)
                      go_wp2
                      go_roundw
                      case rel => exact ⟨k + 1, by omega, by go_num, hn2.out, HX6.out, HB6.out⟩
                      case measure => simp [intOf]; omega
                · obtain rfl : k = L.length := by omega
                  have hsb : sumB l L D = true := by
                    rw [sumB_eq, List.all_eq_true]
                    intro i hi
                    exact HD.out i (by rw [HLEN.out]; exact List.mem_range.1 hi)
                  have e1 := hid (show cpErr D l L t = 0 by rw [E4.out, if_neg (by simp [hsb])])
                  have e2 := hid (show cpVal D l L t = brought (rivP l) l.length (planP L) (t : Int) by rw [cpVal, e1.out]; rfl)
                  have s0 : wr.cell? ⟨R, 0, none⟩ = some (.int .i64 (D : Int)) := cell_of_heap HX5.out
                  have s1 : wr.cell? ⟨R, 1, none⟩ = some (.slice (some ⟨b, off, none⟩) l.length c) := cell_of_heap HX5.out
                  have sl := (Array.getElem?_eq_some_iff.1 HX5.out).1
                  have hcall := brought_any D l _ L _ (t : Int) wr (HS.out.mono HB5.out) (HPR.out.mono HB5.out) HF.out HLEN.out HSM.out (by omega)
                  clear hsb hlt
                  go_wp2_with fail
                  refine hcall.mono ?_
                  rintro e w6 ⟨rfl, hb6⟩
                  clear hcall s0 s1 sl
                  go_wp2
                  go_ret2
                  exact ⟨by rw [e1.out, e2.out]; rfl, bl_trans HB5.out hb6⟩

end Go.Proofs.Ytbnmjbmlejifcaa
