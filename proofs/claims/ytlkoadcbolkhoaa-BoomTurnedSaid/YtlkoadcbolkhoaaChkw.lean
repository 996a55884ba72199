/- How many ways are apart: the walk. -/
import Derived.Test.YtlkoadcbolkhoaaIsway
set_option linter.all false
namespace Go.Proofs.Ytlkoadcbolkhoaa
open Go Go.RowKit Go.Proofs
attribute [local go_sem] cell_grow frozen_grow

def sidesX (wd hg : Int) (x : Way) : List Side := match x.cells with
  | [] => []
  | a :: t => sidesL wd hg a t x.out
def dupB : Used → List Side → Bool
  | _, [] => false
  | u, s :: l => if 0 < u s then true else dupB (putU u s 1) l
def waysE (wd hg : Int) (want keep : List Int) (l : List Way) : Int :=
  if pondE wd hg want keep ≠ 0 then pondE wd hg want keep
  else if 256 < l.length ∨ l.any wayLong = true then 6
  else if l.any (wayStray (wd * hg)) = true then 2
  else if l.any (fun x => !isWayB wd hg want keep x) = true then 16
  else if dupB (fun _ => 0) (l.flatMap (sidesX wd hg)) = true then 11 else 0
def waysV (wd hg : Int) (want keep : List Int) (l : List Way) : Int := if waysE wd hg want keep l = 0 then (l.length : Int) else 0
theorem within_all {lo hi : Int} {l : List Int} (h : withinB lo hi l = true) : ∀ c ∈ l, lo ≤ c ∧ c ≤ hi := fun c hc => by
  have h1 : l.any (badB lo hi) = false := by simpa [withinB] using h
  have := List.any_eq_false.1 h1 c hc
  simp [badB] at this
  omega
theorem way_fine {n : Int} {x : Way} (h1 : wayLong x = false) (h2 : wayStray n x = false) : (∃ a t, x.cells = a :: t ∧ t.length ≤ 63) ∧ (∀ c ∈ x.cells, 0 ≤ c ∧ c < n) ∧ (-1 ≤ x.out ∧ x.out ≤ 3) := by
  have e1 := within_all (show withinB 1 64 [(x.cells.length : Int)] = true by simpa [wayLong] using h1) (x.cells.length : Int) (by simp)
  unfold wayStray at h2
  rw [Bool.or_eq_false_iff] at h2
  have e2 := within_all (show withinB 0 (n - 1) x.cells = true by simpa using h2.1)
  have e3 := within_all (show withinB (-1) 3 [x.out] = true by simpa using h2.2) x.out (by simp)
  refine ⟨?_, fun c hc => by have := e2 c hc; omega, e3⟩
  cases hx : x.cells with
  | nil => rw [hx] at e1; simp at e1
  | cons a t => rw [hx] at e1; simp at e1; exact ⟨a, t, rfl, by omega⟩
theorem path_of {wd hg : Int} {want keep : List Int} {x : Way} {a : Int} {t : List Int} (hx : x.cells = a :: t) (h : isWayB wd hg want keep x = true) : pathB wd hg a t = true := by
  unfold isWayB at h
  rw [hx] at h
  simp only [Bool.and_eq_true] at h
  exact h.1.2
theorem sidesF_len (wd hg : Int) : ∀ (l : List Int) (a : Int), (sidesF wd hg a l).length = l.length
  | [], _ => rfl
  | c :: l, a => by simp [sidesF, sidesF_len wd hg l c]
theorem SidesI.turn {W W' : World} {MB : Nat} {v : Value} {l : List Side} {f : Used} (h : SidesI W v l) (hm : MapOnly MB W W') (hf : SpotMap W MB f) : SidesI W' v l := by
  rcases h with h | ⟨b, off, c, h1, h2, h3, h4⟩
  · exact .inl h
  · exact .inr ⟨b, off, c, h1, h2, Nat.lt_of_lt_of_le h3 hm.size, fun i x hx => ⟨hm.cell hf (h4 i x hx).1, hm.cell hf (h4 i x hx).2⟩⟩

set_option maxRecDepth 100000 in
set_option maxHeartbeats 8000000 in
theorem chkways_any {wd hg : Int} {sw sk sv : Value} {want keep : List Int} {l : List Way} (w : World) (hlw : want.length ≤ 1000000) (hlk : keep.length ≤ 1000000) (hll : l.length ≤ 1000000) (hlc : ∀ x ∈ l, x.cells.length ≤ 1000000) (hw : Ints w sw want) (hk : Ints w sk keep) (hv : WaysI w sv l) :
    Calls Try.prog 34 #[.agg #[.int .i64 wd, .int .i64 hg, sw, sk], sv] w fun e w' => e = .returned (.tuple #[.int .i64 (waysV wd hg want keep l), .int .i64 (waysE wd hg want keep l)]) ∧ Below w.heap.size w w' := by
  obtain ⟨A, c, rfl⟩ := hv.slice
  have hb0 := bl_alloc (bl_refl w) (.cells #[.int .i64 wd, .int .i64 hg, sw, sk] 24)
  have k0 := World.alloc_heap_new w (.cells #[.int .i64 wd, .int .i64 hg, sw, sk] 24)
  have HB0 := hid hb0
  have HK0 := hid k0
  have hcall := pond_any wd hg want keep sw sk (w.alloc (.cells #[.int .i64 wd, .int .i64 hg, sw, sk] 24)) hlw hlk (hw.mono hb0) (hk.mono hb0)
  have HW := hid hw
  have HKp := hid hk
  have HV := hid hv
  have HLC := hid hlc
  clear hw hk hv hb0 k0 hlc
  obtain ⟨E, hE⟩ : ∃ E, pondE wd hg want keep = E := ⟨_, rfl⟩
  have HE := hid hE
  rw [hE] at hcall
  obtain ⟨VV, hVV⟩ : ∃ V, waysV wd hg want keep l = V := ⟨_, rfl⟩
  have HVV := hid hVV
  obtain ⟨VE, hVE⟩ : ∃ V, waysE wd hg want keep l = V := ⟨_, rfl⟩
  have HVE := hid hVE
  rw [hVV, hVE]
  clear hE hVV hVE
  go_enter Try.func34, Try.ntmps34
  go_upto_region 1 with (fail)
  obtain ⟨w1, hw1⟩ : ∃ w1, w.alloc (.cells #[.int .i64 wd, .int .i64 hg, sw, sk] 24) = w1 := ⟨_, rfl⟩
  obtain ⟨X, hX⟩ : ∃ X, w.heap.size = X := ⟨_, rfl⟩
  rw [hX] at HK0 ⊢
  rw [hw1] at HB0 HK0 hcall ⊢
  clear hw1
  have q0 : w1.cell? ⟨X, 0, none⟩ = some (.int .i64 wd) := cell_of_heap HK0.out
  have q1 : w1.cell? ⟨X, 1, none⟩ = some (.int .i64 hg) := cell_of_heap HK0.out
  have q2 : w1.cell? ⟨X, 2, none⟩ = some sw := cell_of_heap HK0.out
  have q3 : w1.cell? ⟨X, 3, none⟩ = some sk := cell_of_heap HK0.out
  have ql := (Array.getElem?_eq_some_iff.1 HK0.out).1
  go_wp2_with fail
  refine hcall.mono ?_
  rintro e w2 ⟨rfl, hb2⟩
  have HB2 := hid (bl_trans HB0.out hb2)
  have HK2 := hid (heap_mono HK0.out hb2)
  clear q0 q1 q2 q3 ql hcall HB0 HK0 hb2
  by_cases h0 : E = 0
  · subst h0
    have HVa := hid (pond_valid HE.out)
    have hn0 := HVa.out.cells
    obtain ⟨n, hn⟩ : ∃ n : Nat, wd * hg = (n : Int) := ⟨(wd * hg).toNat, by omega⟩
    have HN := hid hn
    have hn64 : n ≤ 64 := by omega
    clear hn hn0
    by_cases hmany : 256 < l.length
    · have t1 : decide ((256 : Int) < (l.length : Int)) = true := decide_eq_true (by omega)
      have he : VE = 6 := by rw [← HVE.out]; unfold waysE; rw [HE.out, if_neg (by simp), if_pos (.inl hmany)]
      have hvv : VV = 0 := by rw [← HVV.out]; unfold waysV; rw [HVE.out, he, if_neg (by decide)]
      subst he hvv
      clear hmany
      go_wp2
      go_ret2
      exact ⟨rfl, HB2.out⟩
    have t1 : decide ((256 : Int) < (l.length : Int)) = false := decide_eq_false (by omega)
    have hcall := anyLong_any wayLong l (.slice A l.length c) w2 hll (fun x s W hx hW hs => long_any x s W (HLC.out x hx) hs) (HV.out.mono HB2.out)
    cases hlong : l.any wayLong with
    | true =>
      have he : VE = 6 := by rw [← HVE.out]; unfold waysE; rw [HE.out, if_neg (by simp), if_pos (.inr hlong)]
      have hvv : VV = 0 := by rw [← HVV.out]; unfold waysV; rw [HVE.out, he, if_neg (by decide)]
      subst he hvv
      rw [hlong] at hcall
      clear hlong
      go_wp2_with fail
      refine hcall.mono ?_
      rintro e w3 ⟨rfl, hb3⟩
      have HB3 := hid (bl_trans HB2.out hb3)
      clear hcall hb3
      go_wp2
      go_ret2
      exact ⟨rfl, HB3.out⟩
    | false =>
    have HLO := hid hlong
    rw [hlong] at hcall
    have hnm := hid (show ¬ (256 < l.length ∨ l.any wayLong = true) from fun h => by rcases h with h | h; exact hmany h; rw [hlong] at h; cases h)
    clear hlong
    go_wp2_with fail
    refine hcall.mono ?_
    rintro e w3 ⟨rfl, hb3⟩
    have HB3 := hid (bl_trans HB2.out hb3)
    have HK3 := hid (heap_mono HK2.out hb3)
    clear hcall hb3 HB2 HK2
    have hcall := anyStray_any (wayStray (n : Int)) l (.slice A l.length c) X w3 hll (fun x s W hx hW hs => stray_any n wd hg sw sk X x s W HN.out hn64 (HLC.out x hx) hs (heap_mono HK3.out hW)) (HV.out.mono HB3.out)
    cases hstray : l.any (wayStray (n : Int)) with
    | true =>
      have he : VE = 2 := by rw [← HVE.out]; unfold waysE; rw [HE.out, if_neg (by simp), if_neg hnm.out, HN.out, if_pos hstray]
      have hvv : VV = 0 := by rw [← HVV.out]; unfold waysV; rw [HVE.out, he, if_neg (by decide)]
      subst he hvv
      rw [hstray] at hcall
      clear hstray
      go_wp2_with fail
      refine hcall.mono ?_
      rintro e w4 ⟨rfl, hb4⟩
      have HB4 := hid (bl_trans HB3.out hb4)
      clear hcall hb4
      go_wp2
      go_ret2
      exact ⟨rfl, HB4.out⟩
    | false =>
    rw [hstray] at hcall
    have HFI := hid (show ∀ x ∈ l, (∃ a t, x.cells = a :: t ∧ t.length ≤ 63) ∧ (∀ c ∈ x.cells, inP wd hg c) ∧ (-1 ≤ x.out ∧ x.out ≤ 3) from fun x hx => by
      have h := way_fine (n := (n : Int)) (x := x) (by have := List.any_eq_false.1 HLO.out x hx; simpa using this) (by have := List.any_eq_false.1 hstray x hx; simpa using this)
      exact ⟨h.1, fun c hc => by have := h.2.1 c hc; unfold inP; rw [HN.out]; exact this, h.2.2⟩)
    have HVE2 := hid (show VE = if l.any (fun x => !isWayB wd hg want keep x) = true then 16 else if dupB (fun _ => 0) (l.flatMap (sidesX wd hg)) = true then 11 else 0 by
      rw [← HVE.out]; unfold waysE; rw [HE.out, if_neg (by simp), if_neg hnm.out, HN.out, if_neg (by rw [hstray]; simp)])
    clear hstray HLO hnm
    go_wp2_with fail
    refine hcall.mono ?_
    rintro e w4 ⟨rfl, hb4⟩
    have HB4 := hid (bl_trans HB3.out hb4)
    have HK4 := hid (heap_mono HK3.out hb4)
    clear hcall hb4 HB3 HK3
    have hmm := @run_makeMap Try.prog
    have q0 : w4.cell? ⟨X, 0, none⟩ = some (.int .i64 wd) := cell_of_heap HK4.out
    have q1 : w4.cell? ⟨X, 1, none⟩ = some (.int .i64 hg) := cell_of_heap HK4.out
    have q2 : w4.cell? ⟨X, 2, none⟩ = some sw := cell_of_heap HK4.out
    have q3 : w4.cell? ⟨X, 3, none⟩ = some sk := cell_of_heap HK4.out
    have ql := (Array.getElem?_eq_some_iff.1 HK4.out).1
    have b1 := bl_alloc (bl_refl w4) (.map #[] 0)
    have b2 := bl_alloc (bl_refl (w4.alloc (.map #[] 0))) (.cells #[.int .i64 wd, .int .i64 hg, sw, sk, .map (some w4.heap.size), .int .i64 0] 90)
    have k1 := SpotMap.made w4
    have k2 := World.alloc_heap_new (w4.alloc (.map #[] 0)) (.cells #[.int .i64 wd, .int .i64 hg, sw, sk, .map (some w4.heap.size), .int .i64 0] 90)
    rw [World.size_alloc] at k2
    have HB5 := hid (bl_trans HB4.out (bl_trans b1 b2))
    have HR5 := hid (show RaftAt _ (w4.heap.size + 1) w4.heap.size wd hg sw sk want keep 0 (fun _ => 0) from ⟨k2, k1.mono b2, HW.out.mono HB5.out, HKp.out.mono HB5.out⟩)
    have hwMB := HB4.out.size
    clear b1 b2 k1 k2
    go_wp2
    obtain ⟨w5, hw5⟩ : ∃ w5, (w4.alloc (.map #[] 0)).alloc (.cells #[.int .i64 wd, .int .i64 hg, sw, sk, .map (some w4.heap.size), .int .i64 0] 90) = w5 := ⟨_, rfl⟩
    rw [hw5] at HR5 HB5 ⊢
    obtain ⟨MB, hMB⟩ : ∃ MB, w4.heap.size = MB := ⟨_, rfl⟩
    rw [hMB] at HR5 hwMB ⊢
    obtain ⟨RP, hRP⟩ : ∃ RP, MB + 1 = RP := ⟨_, rfl⟩
    rw [hRP] at HR5 ⊢
    clear hw5 hMB hRP hmm q0 q1 q2 q3 ql HB4 HK4
    go_loopw [42] (fun p wr => ∃ k : Nat, k ≤ l.length ∧ p = .int .i64 (k : Int) ∧ NoPA (fun x => !isWayB wd hg want keep x) l k ∧ Below w5.heap.size w5 wr) (fun p _ => l.length - (intOf p).toNat)
    case atStart => exact ⟨0, Nat.zero_le _, rfl, fun i _ h => by omega, bl_refl _⟩
    case round =>
    obtain ⟨k, hk, rfl, hno, hB⟩ := hrel
    have HNO := hid hno
    have HB := hid hB
    by_cases hlt : k < l.length
    · obtain ⟨x, hx⟩ := get_at hlt
      have HX := hid hx
      have hwv := HV.out.mono (bl_trans HB5.out hB)
      obtain ⟨b, off, hA, hcc, hbl, s, hc0, hsi, hc1⟩ : ∃ b off, A = some ⟨b, off, none⟩ ∧ l.length ≤ c ∧ b < wr.heap.size ∧ WayAt wr b (off + k * 2) x := by
        rcases hwv with ⟨hv, h0⟩ | ⟨b, off, cc, hv, h4, h5, h6⟩
        · rw [h0] at hlt; simp at hlt
        · injection hv with hv1 hv2 hv3
          subst hv3
          exact ⟨b, off, hv1, h4, h5, h6 k x hx⟩
      subst hA
      obtain ⟨SA, sc, rfl⟩ := hsi.slice
      have hbX := bl_alloc (bl_refl wr) (.cells #[.slice SA x.cells.length sc, .int .i64 x.out] 81)
      obtain ⟨⟨a, t, hxc, ht⟩, hxi, hxo⟩ := HFI.out x (List.mem_of_getElem? hx)
      have hcall := isway_any x (.slice SA x.cells.length sc) a t (wr.alloc (.cells #[.slice SA x.cells.length sc, .int .i64 x.out] 81)) ((HR5.out.mono hB).mono hbX) HVa.out hxc hxi hxo (by omega) (hsi.mono hbX)
      have HBX := hid (bl_trans hB hbX)
      clear hwv hx hsi hbX hxc hxi hxo hno hB ht
      cases hwB : isWayB wd hg want keep x with
      | false =>
        have he : VE = 16 := by rw [HVE2.out, if_pos (noPA_any HX.out (by show (!isWayB wd hg want keep x) = true; rw [hwB]; rfl))]
        have hvv : VV = 0 := by rw [← HVV.out]; unfold waysV; rw [HVE.out, he, if_neg (by decide)]
        subst he hvv
        rw [hwB] at hcall
        clear hwB
        go_wp2_with fail
        refine hcall.mono ?_
        rintro e w6 ⟨rfl, hb6⟩
        have HB6 := hid (bl_trans HB5.out (bl_trans HBX.out hb6))
        clear hcall hb6 hc0 hc1
        go_wp2
        go_ret2
        exact ⟨rfl, HB6.out⟩
      | true =>
        have hno2 := hid (noPA_succ HNO.out HX.out (by show (!isWayB wd hg want keep x) = false; rw [hwB]; rfl))
        rw [hwB] at hcall
        clear hwB
        go_wp2_with fail
        refine hcall.mono ?_
        rintro e w6 ⟨rfl, hb6⟩
        have HB6 := hid (bl_trans HBX.out hb6)
        clear hcall hb6 hc0 hc1
        go_wp2
        go_roundw
        case rel => exact ⟨k + 1, by omega, by go_num, hno2.out, HB6.out⟩
        case measure => simp [intOf]; omega
    · obtain rfl : k = l.length := by omega
      have hall := noPA_all hno
      have HALL := hid (show ∀ x ∈ l, isWayB wd hg want keep x = true from fun x hx => by
        obtain ⟨i, hi, rfl⟩ := List.mem_iff_getElem.mp hx
        have := HNO.out i (l[i]) hi (by simp [hi])
        simpa using this)
      have HVE3 := hid (show VE = if dupB (fun _ => 0) (l.flatMap (sidesX wd hg)) = true then 11 else 0 by rw [HVE2.out, hall]; rfl)
      clear hno hB hall hlt HNO HVE2
      go_wp2
      go_loopw [53] (fun p wr => ∃ (k : Nat) (u : Used), k ≤ l.length ∧ p = .int .i64 (k : Int) ∧ dupB u ((l.drop k).flatMap (sidesX wd hg)) = dupB (fun _ => 0) (l.flatMap (sidesX wd hg)) ∧ RaftAt wr RP MB wd hg sw sk want keep 0 u ∧ Below w.heap.size w wr) (fun p _ => l.length - (intOf p).toNat)
      case atStart => exact ⟨0, _, Nat.zero_le _, rfl, rfl, HR5.out.mono HB.out, bl_trans HB5.out HB.out⟩
      case round =>
      obtain ⟨k, u, hk, rfl, hdu, hr, hB⟩ := hrel
      have HDU := hid hdu
      have HR := hid hr
      have HBB := hid hB
      by_cases hlt : k < l.length
      · obtain ⟨x, hx⟩ := get_at hlt
        have hwv := HV.out.mono hB
        obtain ⟨b, off, hA, hcc, hbl, s, hc0, hsi, hc1⟩ : ∃ b off, A = some ⟨b, off, none⟩ ∧ l.length ≤ c ∧ b < wr.heap.size ∧ WayAt wr b (off + k * 2) x := by
          rcases hwv with ⟨hv, h0⟩ | ⟨b, off, cc, hv, h4, h5, h6⟩
          · rw [h0] at hlt; simp at hlt
          · injection hv with hv1 hv2 hv3
            subst hv3
            exact ⟨b, off, hv1, h4, h5, h6 k x hx⟩
        subst hA
        obtain ⟨SA, sc, rfl⟩ := hsi.slice
        have hbX := bl_alloc (bl_refl wr) (.cells #[.slice SA x.cells.length sc, .int .i64 x.out] 81)
        obtain ⟨⟨a, t, hxc, ht⟩, hxi, hxo⟩ := HFI.out x (List.mem_of_getElem? hx)
        have hcall := sides_any x (.slice SA x.cells.length sc) a t (wr.alloc (.cells #[.slice SA x.cells.length sc, .int .i64 x.out] 81)) (hr.mono hbX) HVa.out hxc hxi (path_of hxc (HALL.out x (List.mem_of_getElem? hx))) hxo (by omega) (hsi.mono hbX)
        have hsx : sidesX wd hg x = sidesL wd hg a t x.out := by unfold sidesX; rw [hxc]
        rw [← hsx] at hcall
        have hsl : (sidesX wd hg x).length ≤ 64 := by
          rw [hsx]; unfold sidesL
          rw [List.length_append, sidesF_len]
          split <;> simp <;> omega
        have hdr : l.drop k = x :: l.drop (k + 1) := List.drop_eq_getElem_cons hlt ▸ by rw [(List.getElem?_eq_some_iff.1 hx).2]
        rw [hdr, List.flatMap_cons] at hdu
        have HDU2 := hid hdu
        have HBX := hid (bl_trans hB hbX)
        have HRX := hid (hr.mono hbX)
        obtain ⟨S, hS⟩ : ∃ S, sidesX wd hg x = S := ⟨_, rfl⟩
        rw [hS] at hcall hsl HDU2
        clear hwv hx hsi hbX hxc hxi hxo hB ht hsx hdr hdu hr hS HDU HR HBB
        go_wp2_with fail
        refine hcall.mono ?_
        rintro e w6 ⟨⟨v, rfl, hsv⟩, hb6⟩
        have HB6 := hid (bl_trans HBX.out hb6)
        have HR6 := hid (HRX.out.mono hb6)
        obtain ⟨VA, vc, rfl⟩ := hsv.slice
        have HSV := hid hsv
        clear hcall hb6 hc0 hc1 hsv HBX HRX
        go_wp2
        go_loopw [61] (fun p wr => ∃ (j : Nat) (u : Used), j ≤ S.length ∧ p = .int .i64 (j : Int) ∧ dupB u (S.drop j ++ (l.drop (k + 1)).flatMap (sidesX wd hg)) = dupB (fun _ => 0) (l.flatMap (sidesX wd hg)) ∧ RaftAt wr RP MB wd hg sw sk want keep 0 u ∧ SidesI wr (.slice VA S.length vc) S ∧ Below w.heap.size w wr) (fun p _ => S.length - (intOf p).toNat)
        case atStart => exact ⟨0, _, Nat.zero_le _, rfl, HDU2.out, HR6.out, HSV.out, HB6.out⟩
        case round =>
        clear HDU2 HR6 HSV HB6
        obtain ⟨j, u, hj, rfl, hdu, hr, hsv, hB⟩ := hrel
        have HSV := hid hsv
        have HDU := hid hdu
        have HRR := hid hr
        have HBB := hid hB
        by_cases hlt2 : j < S.length
        · obtain ⟨⟨sx, sy⟩, hxy⟩ := get_at hlt2
          have hdr : S.drop j = (sx, sy) :: S.drop (j + 1) := List.drop_eq_getElem_cons hlt2 ▸ by rw [(List.getElem?_eq_some_iff.1 hxy).2]
          rw [hdr] at hdu
          have hdup : (if 0 < u (sx, sy) then true else dupB (putU u (sx, sy) 1) (S.drop (j + 1) ++ (l.drop (k + 1)).flatMap (sidesX wd hg))) = dupB (fun _ => 0) (l.flatMap (sidesX wd hg)) := hdu
          have HDUP := hid hdup
          obtain ⟨bb, oo, hA, hcc2, hbb, h0, h1⟩ : ∃ bb oo, VA = some ⟨bb, oo, none⟩ ∧ S.length ≤ vc ∧ bb < wr.heap.size ∧ wr.cell? ⟨bb, oo + j * 2, none⟩ = some (.int .i64 sx) ∧ wr.cell? ⟨bb, oo + j * 2 + 1, none⟩ = some (.int .i64 sy) := by
            rcases hsv with ⟨hv, h0⟩ | ⟨bb, oo, c3, hv, h4, h5, h6⟩
            · rw [h0] at hlt2; simp at hlt2
            · injection hv with hv1 hv2 hv3
              subst hv3
              exact ⟨bb, oo, hv1, h4, h5, (h6 j _ hxy).1, (h6 j _ hxy).2⟩
          subst hA
          have bS := bl_alloc (bl_refl wr) (.cells #[.int .i64 sx, .int .i64 sy] 104)
          have HQ := hid (World.alloc_heap_new wr (.cells #[.int .i64 sx, .int .i64 sy] 104))
          have HR7 := hid (hr.mono bS)
          have HS7 := hid (hsv.mono bS)
          have HB7 := hid (bl_trans hB bS)
          clear hsv hdu hr hB hxy hdr hdup bS HSV HDU HRR HBB
          go_upto_region 23 with (fail)
          obtain ⟨Q, hQ⟩ : ∃ Q, wr.heap.size = Q := ⟨_, rfl⟩
          obtain ⟨w7, hw7⟩ : ∃ w7, wr.alloc (.cells #[.int .i64 sx, .int .i64 sy] 104) = w7 := ⟨_, rfl⟩
          rw [hQ] at HQ ⊢
          rw [hw7] at HQ HR7 HS7 HB7 ⊢
          clear hw7 hQ h0 h1
          have c4 := HR7.out.c4
          have rl := HR7.out.lt
          have q0 : w7.cell? ⟨Q, 0, none⟩ = some (.int .i64 sx) := cell_of_heap HQ.out
          have q1 : w7.cell? ⟨Q, 1, none⟩ = some (.int .i64 sy) := cell_of_heap HQ.out
          have ql := (Array.getElem?_eq_some_iff.1 HQ.out).1
          have hlk : ∀ (dd : Nat) (os : Array Obj), (Instr.lookup 88 (.map (some MB)) (.agg #[.int .i64 sx, .int .i64 sy]) false).run Try.prog (Sort.grow (redrawn w7 dd) os) = .ok (.int .i64 (u (sx, sy))) (Sort.grow (redrawn w7 dd) os) := fun dd os =>
            (HR7.out.map.mono (below_regrown w7 dd os)).lookup (sx, sy)
          obtain ⟨z, hz⟩ : ∃ z, u (sx, sy) = z := ⟨_, rfl⟩
          rw [hz] at hlk HDUP
          clear hz
          refine wp_region_below (by kernel_rfl) (by kernel_rfl) ?_
          repeat (first | go_big_quiet_step (fail) | quiet_step (fail))
          refine wpQuiet_nil ?_
          intro w8 hb8
          have HR8 := hid (HR7.out.mono hb8)
          have HS8 := hid (HS7.out.mono hb8)
          have HB8 := hid (bl_trans HB7.out hb8)
          have HQ8 := hid (heap_mono HQ.out hb8)
          clear hlk c4 rl q0 q1 ql hb8 HR7 HS7 HB7 HQ
          by_cases hz0 : 0 < z
          · have t1 : decide (0 < z) = true := decide_eq_true hz0
            have hd := HDUP.out
            rw [if_pos hz0] at hd
            have he : VE = 11 := by rw [HVE3.out, ← hd]; rfl
            have hvv : VV = 0 := by rw [← HVV.out]; unfold waysV; rw [HVE.out, he, if_neg (by decide)]
            subst he hvv
            clear hz0 hd
            rw [t1]
            go_wp2
            go_ret2
            exact ⟨rfl, HB8.out⟩
          · have t1 : decide (0 < z) = false := decide_eq_false hz0
            have hd := HDUP.out
            rw [if_neg hz0] at hd
            have HD2 := hid hd
            clear hz0 hd
            rw [t1]
            go_upto_region 25 with (fail)
            have c4 := HR8.out.c4
            have rl := HR8.out.lt
            have q0 : w8.cell? ⟨Q, 0, none⟩ = some (.int .i64 sx) := cell_of_heap HQ8.out
            have q1 : w8.cell? ⟨Q, 1, none⟩ = some (.int .i64 sy) := cell_of_heap HQ8.out
            have ql := (Array.getElem?_eq_some_iff.1 HQ8.out).1
            refine wp_region_below_tail 5 (by kernel_rfl) (by kernel_rfl) ?_
            simp only [List.take_succ_cons, List.take_zero, List.drop_succ_cons, List.drop_zero]
            repeat (first | go_big_quiet_step (fail) | quiet_step (fail))
            refine wpQuiet_nil ?_
            intro w9 hb9
            obtain ⟨w10, o10, hup, hw10, hS10⟩ := (HR8.out.map.mono hb9).update (sx, sy) 1
            simp only [encS] at hup
            have hmo : MapOnly MB w9 w10 := by rw [hw10]; exact MapOnly.put MB w9 o10
            have HR10 := hid ((HR8.out.mono hb9).turn hmo hS10)
            have HS10 := hid ((HS8.out.mono hb9).turn hmo (HR8.out.map.mono hb9))
            have HB10 := hid (hmo.bl hwMB (bl_trans HB8.out hb9))
            clear c4 rl q0 q1 ql hb9 hw10 hS10 HR8 HS8 HB8 HQ8 hmo
            go_wp2
            go_roundw
            case rel => exact ⟨j + 1, _, by omega, by go_num, HD2.out, HR10.out, HS10.out, HB10.out⟩
            case measure => simp [intOf]; omega
        · obtain rfl : j = S.length := by omega
          rw [List.drop_length, List.nil_append] at hdu
          have HD2 := hid hdu
          clear hdu hr hsv hB hlt2
          go_wp2
          go_roundw
          case rel => exact ⟨k + 1, u, by omega, by go_num, HD2.out, HRR.out, HBB.out⟩
          case measure => simp [intOf]; omega
      · obtain rfl : k = l.length := by omega
        rw [List.drop_length] at hdu
        have he : VE = 0 := by rw [HVE3.out, ← hdu]; rfl
        have hvv : VV = (l.length : Int) := by rw [← HVV.out]; unfold waysV; rw [HVE.out, he, if_pos rfl]
        subst he hvv
        clear hdu hr hB hlt
        go_wp2
        go_ret2
        exact ⟨rfl, HBB.out⟩
  · have t0 : (E == 0) = false := beq_eq_false_iff_ne.2 h0
    have he : VE = E := by rw [← HVE.out]; unfold waysE; rw [HE.out, if_pos h0]
    have hvv : VV = 0 := by rw [← HVV.out]; unfold waysV; rw [HVE.out, he, if_neg h0]
    subst he hvv
    clear h0
    go_wp2
    go_ret2
    exact ⟨rfl, HB2.out⟩
end Go.Proofs.Ytlkoadcbolkhoaa
