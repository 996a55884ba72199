/- One more way is led: the walk. -/
import Derived.Test.YtlkoadcbolkhoaaReach
import Derived.Test.YtlkoadcbolkhoaaFlow
set_option linter.all false
namespace Go.Proofs.Ytlkoadcbolkhoaa
open Go Go.RowKit Go.Proofs
attribute [local go_sem] cell_grow frozen_grow

theorem SidesAt.turn {W W' : World} {G MB : Nat} {l : List Side} {f : Used} (h : SidesAt W G l) (hm : MapOnly MB W W') (hf : SpotMap W MB f) : SidesAt W' G l := hm.cells hf h
theorem Valid.in_ {wd hg : Int} {want keep : List Int} (hV : Valid wd hg want keep) : ∀ c ∈ want, inP wd hg c := fun c hc => ⟨(listB_in hV.w c hc).1, (listB_in hV.w c hc).2⟩
theorem listB_len {n : Int} : ∀ {l : List Int} {k : Int}, 0 ≤ k → k ≤ n → listB n k l = true → (l.length : Int) ≤ n - k
  | [], _, _, _, _ => by simp; omega
  | x :: l, k, h0, hk, h => by
    simp only [listB, Bool.and_eq_true, decide_eq_true_eq] at h
    have := listB_len (l := l) (k := x + 1) (by omega) (by omega) h.2
    rw [List.length_cons]
    omega
theorem Valid.klen {wd hg : Int} {want keep : List Int} (hV : Valid wd hg want keep) : want.length ≤ 64 ∧ keep.length ≤ 64 := by
  have h1 := hV.cells
  have h2 := listB_len (by omega) (by omega) hV.w
  have h3 := listB_len (by omega) (by omega) hV.k
  omega
/-- From where each cell is reached, in a valid pond. -/
theorem reach_of {RP MB : Nat} {wd hg : Int} {sw sk : Value} {want keep : List Int} {m : Int} {u : Used} (n : Nat) (w : World) (hR : RaftAt w RP MB wd hg sw sk want keep m u) (hV : Valid wd hg want keep) (hn : wd * hg = (n : Int)) {b : List Side} {x y : Int} {o : Bool} (hT : reachU u wd hg want keep = (b, (x, y), o)) :
    Calls Try.prog 99 #[.pointer (some ⟨RP, 0, none⟩)] w fun e w' => (∃ G, e = .returned (.tuple #[.slice (some ⟨G, 0, none⟩) n n, .agg #[.int .i64 x, .int .i64 y], .bool o]) ∧ SidesAt w' G b) ∧ Below w.heap.size w w' := by
  have hl := hV.klen
  have h := reach_any n w hR hV.B.w hV.B.h hn hl.1 (fun c hc => by have := hV.in_ c hc; rw [← hn]; exact this) hl.2 (by have := by0_unr (wd := wd) (hg := hg) hV.w; rw [hn, Int.toNat_natCast] at this; omega)
  rw [hT] at h
  exact h

set_option maxRecDepth 100000 in
set_option maxHeartbeats 8000000 in
theorem one_any {RP MB : Nat} {wd hg : Int} {sw sk : Value} {want keep : List Int} {m : Int} {u : Used} (n : Nat) (w : World) (hR : RaftAt w RP MB wd hg sw sk want keep m u) (hV : Valid wd hg want keep) (hn : wd * hg = (n : Int)) :
    Calls Try.prog 107 #[.pointer (some ⟨RP, 0, none⟩)] w fun e w' => e = .returned (.bool (oneU u wd hg want keep).isSome) ∧ RaftAt w' RP MB wd hg sw sk want keep m ((oneU u wd hg want keep).getD u) ∧ MapOnly MB w w' := by
  obtain ⟨b, ⟨x, y⟩, o, hT⟩ : ∃ b l o, reachU u wd hg want keep = (b, l, o) := ⟨_, _, _, rfl⟩
  have hcall := reach_of n w hR hV hn hT
  have hRe := reached (u := u) (keep := keep) hV.B hV.w
  rw [hT] at hRe
  have hone : oneU u wd hg want keep = match (b, ((x, y) : Side), o) with
    | (_, _, false) => none
    | (by_, last, true) => some (chainU by_ (wd * hg).toNat last.1 (if 0 ≤ last.2 then overU u last (-1) else u)) := by unfold oneU; rw [hT]; cases o <;> rfl
  have hc64 := hV.cells
  rw [hn] at hc64
  have HC := hid hc64
  have HR := hid hR
  have HRe := hid hRe
  have HN := hid hn
  clear hT hRe hR hc64
  cases o with
  | false =>
    simp only at hone
    have HO := hid hone
    clear hone
    rw [HO.out]
    go_enter Try.func107, Try.ntmps107
    go_wp2_with fail
    refine hcall.mono ?_
    rintro e w1 ⟨⟨G, rfl, _⟩, hb⟩
    have hb2 := hid (bl_alloc hb (.cells #[.int .i64 x, .int .i64 y] 104))
    clear hb hcall
    go_wp2
    go_ret
    exact ⟨rfl, HR.out.mono hb2.out, .of hb2.out⟩
  | true =>
    simp only at hone
    have HO := hid hone
    clear hone
    obtain ⟨⟨k, hk, hbk⟩, hlast⟩ := HRe.out.2.2.2.1 rfl
    simp only at hk hbk hlast
    obtain ⟨u1, hu1⟩ : ∃ u1, (if 0 ≤ y then overU u (x, y) (-1) else u) = u1 := ⟨_, rfl⟩
    have hO : oneU u wd hg want keep = some (chainU b n x u1) := by rw [HO.out, hn, Int.toNat_natCast]; show some (chainU b n x (if 0 ≤ y then overU u (x, y) (-1) else u)) = _; rw [hu1]
    have HU := hid (show 0 ≤ y → overU u (x, y) (-1) = u1 from fun h => by rw [if_pos h] at hu1; exact hu1)
    have HU0 := hid (show ¬ 0 ≤ y → u = u1 from fun h => by rw [if_neg h] at hu1; exact hu1)
    have hyr := hid (show 0 ≤ y → 0 ≤ y ∧ y ≤ 3 from fun h => by rcases hlast with ⟨h1, _⟩ | ⟨_, h1, _⟩; omega; exact h1)
    have hx := hbk.inp
    have HBK := hid hbk
    have HKN := hid (show k ≤ n by rw [HN.out, Int.toNat_natCast] at hk; exact hk)
    have HX := hid hx
    have HO2 := hid hO
    have HL : Hid (b.length = n) := hid (by have := HRe.out.1; rw [HN.out, Int.toNat_natCast] at this; exact this)
    clear hu1 hO HO hlast hbk hx hk HRe hn
    obtain ⟨q, hq⟩ : ∃ q : Nat, x = (q : Int) := ⟨x.toNat, by have := HX.out.1; omega⟩
    subst hq
    obtain ⟨F, hF⟩ : ∃ F, chainU b n (q : Int) u1 = F := ⟨_, rfl⟩
    rw [hF] at HO2
    have HF := hid hF
    clear hF
    rw [HO2.out]
    go_enter Try.func107, Try.ntmps107
    go_wp2_with fail
    refine hcall.mono ?_
    rintro e w1 ⟨⟨G, rfl, hs⟩, hb⟩
    have hbb := bl_alloc (bl_refl w1) (.cells #[.int .i64 (q : Int), .int .i64 y] 104)
    have hb2 := bl_trans hb hbb
    have hk := World.alloc_heap_new w1 (.cells #[.int .i64 (q : Int), .int .i64 y] 104)
    have HS := hid (hs.mono hbb)
    have HR2 := hid (HR.out.mono hb2)
    have HM2 := hid (MapOnly.of (MB := MB) hb2)
    have HK := hid hk
    clear hcall hs hbb hb2 hb
    go_upto_region 2 with (fail)
    obtain ⟨B, hB⟩ : ∃ B, w1.heap.size = B := ⟨_, rfl⟩
    obtain ⟨w2, hw2⟩ : ∃ w2, w1.alloc (.cells #[.int .i64 (q : Int), .int .i64 y] 104) = w2 := ⟨_, rfl⟩
    rw [hB] at HK ⊢
    rw [hw2] at HK HS HR2 HM2 ⊢
    clear hw2 hB hk HR
    have q0 : w2.cell? ⟨B, 0, none⟩ = some (.int .i64 (q : Int)) := cell_of_heap HK.out
    have q1 : w2.cell? ⟨B, 1, none⟩ = some (.int .i64 y) := cell_of_heap HK.out
    have ql := (Array.getElem?_eq_some_iff.1 HK.out).1
    by_cases hy : 0 ≤ y
    have t1 : decide (0 ≤ y) = true := decide_eq_true hy
    have ho := over_any (q : Int) y (-1) w2 (hyr.out hy) HR2.out
    rw [HU.out hy] at ho
    clear hy
    go_wp2_with fail
    refine ho.mono ?_
    rintro e w3 ⟨rfl, hr3, hm3⟩
    have HR3 := hid hr3
    have HS3 := hid (HS.out.turn hm3 HR2.out.map)
    have HM3 := hid (HM2.out.trans hm3)
    have q0 : w3.cell? ⟨B, 0, none⟩ = some (.int .i64 (q : Int)) := cell_of_heap (hm3.cells HR2.out.map HK.out)
    have ql := (Array.getElem?_eq_some_iff.1 (hm3.cells HR2.out.map HK.out)).1
    clear ho t1 hr3 hm3 HR2 HS HM2 HK HU HU0 hyr
    go_upto_region 6 with (fail)
    rotate_left
    have t1 : decide (0 ≤ y) = false := decide_eq_false (by omega)
    have HR3 := HR2
    rw [HU0.out (by omega)] at HR3
    have HS3 := HS
    have HM3 := HM2
    clear hy HR2 HS HM2 HK HU HU0 hyr
    go_upto_region 6 with (fail)
    all_goals (
    go_wp2
    clear q0 ql
    go_loopw [6] (fun p wr => ∃ (k f q : Nat) (u' : Used), p = .int .i64 (q : Int) ∧ Bk u wd hg want keep b k (q : Int) ∧ k ≤ f ∧ chainU b f (q : Int) u' = F ∧ RaftAt wr RP MB wd hg sw sk want keep m u' ∧ SidesAt wr G b ∧ MapOnly MB w wr) (fun p _ => leastN fun k => Bk u wd hg want keep b k (intOf p))
    case atStart => exact ⟨k, n, q, u1, rfl, HBK.out, HKN.out, HF.out, HR3.out, HS3.out, HM3.out⟩
    case round =>
      clear HR3 HS3 HM3 HF HBK HKN HX
      obtain ⟨k, f, q, u', rfl, hbk, hkf, hch, hr, hs, hm⟩ := hrel
      have hq : q < n := by have h1 := hbk.inp; have h2 := HN.out; unfold inP at h1; omega
      have hqb : q < b.length := by rw [HL.out]; exact hq
      obtain ⟨⟨c, d⟩, hcd⟩ := get_at hqb
      have hat : at_ b (q : Int) = (c, d) := by unfold at_; rw [Int.toNat_natCast, List.getD_eq_getElem?_getD, hcd]; rfl
      have g0 := hs.c0 hcd
      have g1 := hs.c1 hcd
      have gl := hs.lt
      have hc2 := HC.out.2
      have hqI : (q : Int) < (n : Int) := by omega
      have HR := hid hr
      have HS := hid hs
      have HM := hid hm
      have HCH := hid hch
      have HBK := hid hbk
      have HKF := hid hkf
      have HAT := hid hat
      clear hr hs hm hch hkf hat hcd hqb
      cases k with
      | zero =>
        have hd : d = -1 := by have h1 := HBK.out.2.2; rw [HAT.out] at h1; injection h1
        subst hd
        have hF : u' = F := by
          rw [← HCH.out]
          cases f with
          | zero => rfl
          | succ f => unfold chainU; rw [show b.getD (q : Int).toNat (0, 0) = (c, -1) from HAT.out, if_neg (show ¬ (0 : Int) ≤ -1 by decide)]
        have HF := hid hF
        clear hbk hF
        go_wp2
        go_ret
        refine ⟨rfl, ?_, HM.out⟩
        rw [HF.out] at HR
        exact HR.out
      | succ k =>
        obtain ⟨_, c', d', h1, h2, h3, h4, h5, h6, h7⟩ := hbk
        rw [HAT.out] at h1
        injection h1 with h1 h1'
        subst h1 h1'
        have t1 : decide (0 ≤ d) = true := decide_eq_true h2.1
        obtain ⟨f', rfl⟩ : ∃ f', f = f' + 1 := ⟨f - 1, by have := HKF.out; omega⟩
        have hF : chainU b f' c (overU u' (c, d) (q : Int)) = F := by
          rw [← HCH.out]
          conv => rhs; unfold chainU
          rw [show b.getD (q : Int).toNat (0, 0) = (c, d) from HAT.out, if_pos h2.1]
        have HF := hid hF
        have ho := over_any c d (q : Int) wr h2 HR.out
        have H7 := hid h7
        have H3 := hid h3
        clear hF h4 h5 h6 h7 h2 h3
        go_wp2_with fail
        refine ho.mono ?_
        rintro e w4 ⟨rfl, hr4, hm4⟩
        have HR4 := hid hr4
        have HS4 := hid (HS.out.turn hm4 HR.out.map)
        have HM4 := hid (HM.out.trans hm4)
        have hqb : q < b.length := by rw [HL.out]; exact hq
        obtain ⟨⟨c2, d2⟩, hcd⟩ := get_at hqb
        have hat2 : at_ b (q : Int) = (c2, d2) := by unfold at_; rw [Int.toNat_natCast, List.getD_eq_getElem?_getD, hcd]; rfl
        rw [HAT.out] at hat2
        injection hat2 with e1 e2
        subst e1 e2
        clear g0 g1 gl
        have g0 := HS4.out.c0 hcd
        have g1 := HS4.out.c1 hcd
        have gl := HS4.out.lt
        obtain ⟨p, hp⟩ : ∃ p : Nat, c = (p : Int) := ⟨c.toNat, by have := H3.out.1; omega⟩
        subst hp
        clear ho t1 hr4 hm4 HR HS HM hcd hqb
        go_wp2
        go_roundw
        case rel => exact ⟨k, f', p, _, rfl, H7.out, by have := HKF.out; omega, HF.out, HR4.out, HS4.out, HM4.out⟩
        case measure =>
          have e1 := (leastN_spec (p := fun k => Bk u wd hg want keep b k (q : Int)) ⟨_, HBK.out⟩).1.uniq HBK.out
          have e2 := (leastN_spec (p := fun k => Bk u wd hg want keep b k (p : Int)) ⟨_, H7.out⟩).1.uniq H7.out
          simp only [intOf]
          omega)
end Go.Proofs.Ytlkoadcbolkhoaa
