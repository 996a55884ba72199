/- Plan: the walk. -/
import Derived.Test.YtbnmjbmlejifcaaBy
import Derived.Laws.CopyRow
import Derived.Deep.WholeRow
set_option linter.all false
namespace Go.Proofs.Ytbnmjbmlejifcaa
open Go Go.RowKit Go.Proofs
attribute [local go_sem] cell_grow frozen_grow

/-- The slice value v holds the values vs. -/
def RowsV (W : World) (v : Value) (vs : List Value) : Prop :=
  (v = .slice none 0 0 ∧ vs = []) ∨ ∃ g cap, v = .slice (some ⟨g, 0, none⟩) vs.length cap ∧ vs.length ≤ cap ∧ g < W.heap.size ∧ ∀ (j : Nat) (u : Value), vs[j]? = some u → W.cell? ⟨g, j, none⟩ = some u
theorem RowsV.mono {W W' : World} {v : Value} {vs : List Value} (h : RowsV W v vs) (hb : Below W.heap.size W W') : RowsV W' v vs := by
  rcases h with h | ⟨g, cap, h1, h2, h3, h4⟩
  · exact .inl h
  · exact .inr ⟨g, cap, h1, h2, Nat.lt_of_lt_of_le h3 hb.size, fun j u hu => cell_mono (h4 j u hu) hb⟩
/-- One more appended to a slice without room: a new row. -/
theorem RowsV.more {W : World} {vs : List Value} {x : Value} {v : Value} {X : Nat} (h : (v = .slice none 0 0 ∧ vs = []) ∨ ∃ g, v = .slice (some ⟨g, 0, none⟩) vs.length vs.length ∧ ∀ (j : Nat) (u : Value), vs[j]? = some u → W.cell? ⟨g, j, none⟩ = some u) (hl : vs.length ≤ 1000)
    (hX : W.cell? ⟨X, 0, none⟩ = some x) : ∃ v' W', (Builtin.append_ #[25, 25] 25 #[v, .slice (some ⟨X, 0, none⟩) 1 1]).run Try.prog W = .ok v' W' ∧ RowsV W' v' (vs ++ [x]) ∧ Below W.heap.size W W' := by
  obtain ⟨i36, hi, hz0, hz1, hz2⟩ := info_parts info36
  have hnews : ∀ j u, [x][j]? = some u → W.cell? ((⟨X, 0, none⟩ : Addr).add j) = some u := fun j u hu => by
    cases j with
    | zero => simp only [List.getElem?_cons_zero, Option.some.injEq] at hu; subst hu; exact hX
    | succ j => simp at hu
  rcases h with ⟨rfl, rfl⟩ | ⟨g, rfl, hc⟩
  · have hr := run_append_nil (P := Try.prog) W 25 25 36 i36 (.slice none 0 0) Try.underlying25 hi hz0 ⟨X, 0, none⟩ 1 1 [x] (by rw [hz1]; rfl) hnews (by omega) (by omega) (by rw [hz2]; omega)
    refine ⟨_, _, hr, .inr ⟨W.heap.size, _, rfl, ?_, by simp, fun j u hu => ?_⟩, bl_alloc (bl_drew (bl_refl _)) _⟩
    · exact grownCap_ge W 1 0 36
    · have hj : j < 1 := (List.getElem?_eq_some_iff.1 hu).1
      refine Eq.trans (World.cell?_alloc_new W.drew _ 36 j) ?_
      rw [Array.getElem?_append_left (by simpa using hj)]
      simpa using hu
  · have hr := run_append_grow (P := Try.prog) W 25 25 36 i36 (.slice none 0 0) Try.underlying25 hi hz0 ⟨g, 0, none⟩ vs.length vs.length vs (by rw [hz1]; omega) (fun j u hu => by rw [Addr.add_lit, Nat.zero_add]; exact hc j u hu) ⟨X, 0, none⟩ 1 1 [x] (by rw [hz1]; rfl) hnews (by omega) (by omega) (by rw [hz2]; have := nextslicecap_le (need := vs.length + 1) (old := vs.length) (by omega); omega)
    refine ⟨_, _, hr, .inr ⟨W.heap.size, _, by rw [List.length_append]; rfl, ?_, by simp, fun j u hu => ?_⟩, bl_alloc (bl_drew (bl_refl _)) _⟩
    · rw [List.length_append]; exact grownCap_ge W (vs.length + 1) vs.length 36
    · have hj : j < (vs ++ [x]).length := (List.getElem?_eq_some_iff.1 hu).1
      refine Eq.trans (World.cell?_alloc_new W.drew _ 36 j) ?_
      rw [Array.getElem?_append_left (by simpa using hj)]
      simpa using hu
/-- A row that has just been made is filled. -/
theorem copy_made {W : World} {b o D c : Nat} {r : List Int} (hr : r.length = D) (hc : ∀ (i : Nat) (x : Int), r[i]? = some x → W.cell? ⟨b, o + i, none⟩ = some (.int .i64 x)) :
    (Builtin.copy_ #[36, 36] 3 #[.slice (some ⟨W.heap.size, 0, none⟩) D D, .slice (some ⟨b, o, none⟩) D c]).run Try.prog (W.alloc (.cells (ints (List.replicate D (0 : Int))).toArray 2)) = .ok (.int .i64 (D : Int)) (W.alloc (.cells (ints r).toArray 2)) := by
  have hl : (ints r).length = D := by simp [ints, hr]
  have hb : ∀ (i : Nat) (x : Int), r[i]? = some x → (W.alloc (.cells (ints (List.replicate D (0 : Int))).toArray 2)).cell? ⟨b, o + i, none⟩ = some (.int .i64 x) := fun i x hx => cell_mono (hc i x hx) (bl_alloc (bl_refl _) _)
  have h := run_copy_row (P := Try.prog) (W.alloc (.cells (ints (List.replicate D (0 : Int))).toArray 2)) 36 36 3 2 W.heap.size 0 D D ⟨b, o, none⟩ D c (ints (List.replicate D (0 : Int))).toArray 2 (ints r) Try.underlying36 (by kernel_rfl) (World.alloc_heap_new W _) (by rw [hl]; simp)
    (fun j v hv => by
      rw [ints, List.getElem?_map] at hv
      obtain ⟨y, hy, rfl⟩ := Option.map_eq_some_iff.mp hv
      rw [Addr.add_lit]
      exact hb j y hy) (by rw [hl]; simp [ints]) (ints_one r)
  rw [h, World.setRow_alloc_new, hl]
  simp [ints, goInt]

def planErr (days : Int) (l : List Rch) : Int := riverE days l
def planL (days : Int) (l : List Rch) : List (List Int) := if riverE days l = 0 then planE days l else []

set_option maxRecDepth 100000 in
set_option maxHeartbeats 8000000 in
theorem plan_any (days : Int) (l : List Rch) (sr : Value) (w : World) (hl : l.length ≤ 1000) (hs : Rchs w sr l) :
    Calls Try.prog 25 #[.agg #[.int .i64 days, sr]] w fun e w' => (∃ v, e = .returned (.tuple #[v, .int .i64 (riverE days l)]) ∧ Rows w' v (planL days l)) ∧ Below w.heap.size w w' := by
  obtain ⟨A, c, rfl⟩ := hs.slice
  have HX := hid (World.alloc_heap_new w (.cells #[.int .i64 days, .slice A l.length c] 24))
  have HB := hid (bl_alloc (bl_refl w) (.cells #[.int .i64 days, .slice A l.length c] 24))
  have HS := hid hs
  clear hs
  go_enter Try.func25, Try.ntmps25
  go_upto_region 1 with (fail)
  obtain ⟨R, hR⟩ : ∃ R, w.heap.size = R := ⟨_, rfl⟩
  obtain ⟨w0, hw0⟩ : ∃ w0, w.alloc (.cells #[.int .i64 days, .slice A l.length c] 24) = w0 := ⟨_, rfl⟩
  rw [hR] at HX ⊢
  rw [hw0] at HX HB ⊢
  clear hw0 hR
  have r0 : w0.cell? ⟨R, 0, none⟩ = some (.int .i64 days) := cell_of_heap HX.out
  have r1 : w0.cell? ⟨R, 1, none⟩ = some (.slice A l.length c) := cell_of_heap HX.out
  have l0 := (Array.getElem?_eq_some_iff.1 HX.out).1
  have hcall := check_any days l _ [] _ w0 hl (HS.out.mono HB.out) (by simp) (.inl ⟨rfl, rfl⟩)
  rw [check_none] at hcall
  go_wp2_with fail
  refine hcall.mono ?_
  rintro e w1 ⟨rfl, hb1⟩
  have HX1 := hid (heap_mono HX.out hb1)
  have HB1 := hid (bl_trans HB.out hb1)
  clear HX HB hb1 r0 r1 l0 hcall
  by_cases h0 : riverE days l = 0
  case neg =>
    have he : (riverE days l != 0) = true := by simp [h0]
    have e1 := hid (show planL days l = [] by rw [planL, if_neg h0])
    clear h0
    go_wp2
    go_ret2
    exact ⟨⟨_, rfl, .inl ⟨rfl, e1.out⟩⟩, HB1.out⟩
  have he : (riverE days l != 0) = false := by simp [h0]
  have e1 := hid (show planL days l = planE days l by rw [planL, if_pos h0])
  have F := fit_of h0
  have f1 := F.d1
  have f2 := F.d2
  have f3 := F.n1
  have f4 := F.n2
  obtain ⟨D, rfl⟩ : ∃ D : Nat, days = D := ⟨days.toNat, by omega⟩
  have hcall := early_any D l _ w1 (HS.out.mono HB1.out) F
  have s0 : w1.cell? ⟨R, 0, none⟩ = some (.int .i64 (D : Int)) := cell_of_heap HX1.out
  have s1 : w1.cell? ⟨R, 1, none⟩ = some (.slice A l.length c) := cell_of_heap HX1.out
  have sl0 := (Array.getElem?_eq_some_iff.1 HX1.out).1
  have H0 := hid h0
  clear h0 F
  go_wp2_with fail
  refine hcall.mono ?_
  rintro e w2 ⟨Y, rfl, ⟨wb, vp, vc, vb, Bs, hy⟩, hb2⟩
  have hpl := (planE_full (D : Int) l).1
  have y2 := hy.c2
  have yl := hy.lt
  have HP := hid hy.plan
  have HB2 := hid (bl_trans HB1.out hb2)
  obtain ⟨gP, capP, curP, rfl, _, hgP, _⟩ : ∃ gP capP curP, vp = .slice (some ⟨gP, 0, none⟩) l.length capP ∧ l.length ≤ capP ∧ w2.heap[gP]? = some (.cells curP 36 (0, 0)) ∧ True := by
    rcases hy.plan.own.2 with ⟨_, h⟩ | ⟨g, cap, cur, h1, _, h2, h3, _⟩
    · omega
    · exact ⟨g, cap, cur, by rw [h1, hpl], by omega, h2, trivial⟩
  clear HX1 HB1 hb2 s0 s1 sl0 hcall hy hgP
  obtain ⟨i2, hi', hj0, hj1, hj2⟩ := info_parts info2'
  obtain ⟨i36, hi36, hz36, hs36, hb36⟩ := info_parts info36
  go_wp2
  go_loopw [5, 20] (fun v p wr => ∃ (k : Nat) (vs : List Value), k ≤ l.length ∧ p = .int .i64 k ∧ vs.length = k ∧ RowsV wr v vs ∧ (∀ (i : Nat) (u : Value) (r : List Int), vs[i]? = some u → (planE D l)[i]? = some r → Ints wr u r) ∧ Below w2.heap.size w2 wr) (fun _ p _ => l.length - (intOf p).toNat)
  case atStart => exact ⟨0, [], Nat.zero_le _, rfl, rfl, .inl ⟨rfl, rfl⟩, fun i u r h => by simp at h, bl_refl _⟩
  case round =>
    obtain ⟨k, vs, hk, rfl, hvl, hv, hvs, hB⟩ := hrel
    clear y2 yl
    by_cases hlt : k < l.length
    · obtain ⟨q, hq⟩ := get_at (l := planE D l) (k := k) (by omega)
      obtain ⟨B0, hB0⟩ := get_at (l := Bs) (k := k) (by rw [HP.out.len]; omega)
      have hP := HP.out.mono hB
      obtain ⟨_, hq2, hq3⟩ := hP.rows k B0 q hB0 hq
      have hgk : wr.cell? ⟨gP, k, none⟩ = some (rowVal D B0) := by
        have h3 := hP.own.cells (g := gP) rfl k (rowVal D B0) (by rw [List.getElem?_map, hB0]; rfl)
        rw [Addr.add_lit, Nat.zero_add] at h3
        exact h3
      unfold rowVal at hgk
      have hkI : (k : Int) < (l.length : Int) := by omega
      have hmk := run_makeSlice wr 36 2 i2 (.int .i64 0) Try.underlying36 hi' hj0 .i64 .i64 (D : Int) (D : Int) (by omega) (by omega) (by rw [hj1]; omega) (by rw [hj2]; omega) (by omega)
      rw [Int.toNat_natCast, hj1, Nat.mul_one, made_zero] at hmk
      have hcp := copy_made (W := wr) (b := B0) (o := 0) (c := D) hq3 (fun i x hx => by rw [cell_of_heap hq2]; simp [ints, hx])
      have HV := hid hv
      have HVS := Lib.hid hvs
      have Hq := hid hq
      have hgl : gP < wr.heap.size := by
        unfold World.cell? at hgk
        cases h : wr.heap[gP]? with
        | none => simp [h] at hgk
        | some o => exact (Array.getElem?_eq_some_iff.1 h).1
      clear hv hvs hq hP hq2 hB0
      go_upto_region 9 with (fail)
      go_upto_region 10 with (fail)
      clear hmk hcp hgk
      obtain ⟨w4, hw4⟩ : ∃ w4, wr.alloc (.cells (ints q).toArray 2) = w4 := ⟨_, rfl⟩
      have hb4 : Below wr.heap.size wr w4 := by rw [← hw4]; exact bl_alloc (bl_refl _) _
      have hn4 : w4.heap[wr.heap.size]? = some (.cells (ints q).toArray 2 (0, 0)) := by rw [← hw4]; exact World.alloc_heap_new wr _
      obtain ⟨B, hBn⟩ : ∃ B, wr.heap.size = B := ⟨_, rfl⟩
      rw [hBn] at hn4 ⊢
      rw [hw4] at ⊢
      clear hw4 hBn
      have b5 := bl_alloc (bl_refl w4) (.cells #[.slice (some ⟨B, 0, none⟩) D D] 36)
      have hX5 : (w4.alloc (.cells #[.slice (some ⟨B, 0, none⟩) D D] 36)).cell? ⟨w4.heap.size, 0, none⟩ = some (.slice (some ⟨B, 0, none⟩) D D) := cell_of_heap (World.alloc_heap_new w4 _)
      have hv5 := (HV.out.mono hb4).mono b5
      have hn5 := heap_mono hn4 b5
      have hB5 := bl_trans (bl_trans hB hb4) b5
      have hIn : Ints (w4.alloc (.cells #[.slice (some ⟨B, 0, none⟩) D D] 36)) (.slice (some ⟨B, 0, none⟩) D D) q := .inr ⟨B, 0, D, by rw [hq3], by omega, (Array.getElem?_eq_some_iff.1 hn5).1, fun i x hx => by rw [cell_of_heap hn5, Nat.zero_add]; simp [ints, hx]⟩
      have HIN := hid hIn
      have HB5 := hid hB5
      have HV45 := hid (bl_trans hb4 b5)
      clear hIn hn5 hB5 b5 hb4 hn4
      rcases hv5 with ⟨rfl, rfl⟩ | ⟨g, cap, rfl, hcap, hgl, hgc⟩
      case inl =>
        obtain ⟨v', W', hrun, hv', hb'⟩ := RowsV.more (v := .slice none 0 0) (.inl ⟨rfl, rfl⟩) (by simp; try omega) hX5
        have HVL := hid hvl
        have HV' := hid hv'
        have HB' := hid hb'
        have HVS' : Hid (∀ (i : Nat) (u : Value) (r : List Int), (([] : List Value) ++ [.slice (some ⟨B, 0, none⟩) D D])[i]? = some u → (planE D l)[i]? = some r → Ints W' u r) := by
          intro i u r hu hr
          by_cases hi : i < (([] : List Value) : List Value).length
          · rw [List.getElem?_append_left hi] at hu
            exact ((HVS.out i u r hu hr).mono HV45.out).mono HB'.out
          · rw [List.getElem?_append_right (by omega)] at hu
            have h0 : i - (([] : List Value) : List Value).length = 0 := by have := (List.getElem?_eq_some_iff.1 hu).1; simp at this; omega
            rw [h0] at hu
            simp only [List.getElem?_cons_zero, Option.some.injEq] at hu
            subst hu
            obtain rfl : i = k := by have h1 := (List.getElem?_eq_some_iff.1 hr).1; omega
            rw [Hq.out] at hr
            injection hr with hr
            subst hr
            exact HIN.out.mono HB'.out
        clear hv' hb' hX5 hvl
        go_upto_region 11 with (at_builtin; refine wpList_append_run rfl _ _ 25 rfl _ _ _ _ rfl rfl hrun ?_)
        clear hrun
        go_wp2
        go_roundw
        case rel => exact ⟨k + 1, ([] : List Value) ++ [.slice (some ⟨B, 0, none⟩) D D], by omega, by go_num, by rw [List.length_append, HVL.out]; rfl, HV'.out, HVS'.out, bl_trans HB5.out HB'.out⟩
        case measure => simp [intOf]; omega
      case inr =>
        obtain ⟨v', W', hrun, hv', hb'⟩ := RowsV.more (v := .slice (some ⟨g, 0, none⟩) vs.length vs.length) (.inr ⟨g, rfl, hgc⟩) (by omega) hX5
        have HVL := hid hvl
        have HV' := hid hv'
        have HB' := hid hb'
        have HVS' : Hid (∀ (i : Nat) (u : Value) (r : List Int), (vs ++ [.slice (some ⟨B, 0, none⟩) D D])[i]? = some u → (planE D l)[i]? = some r → Ints W' u r) := by
          intro i u r hu hr
          by_cases hi : i < (vs : List Value).length
          · rw [List.getElem?_append_left hi] at hu
            exact ((HVS.out i u r hu hr).mono HV45.out).mono HB'.out
          · rw [List.getElem?_append_right (by omega)] at hu
            have h0 : i - (vs : List Value).length = 0 := by have := (List.getElem?_eq_some_iff.1 hu).1; simp at this; omega
            rw [h0] at hu
            simp only [List.getElem?_cons_zero, Option.some.injEq] at hu
            subst hu
            obtain rfl : i = k := by have h1 := (List.getElem?_eq_some_iff.1 hr).1; omega
            rw [Hq.out] at hr
            injection hr with hr
            subst hr
            exact HIN.out.mono HB'.out
        clear hv' hb' hX5 hvl
        go_upto_region 11 with (at_builtin; refine wpList_append_run rfl _ _ 25 rfl _ _ _ _ rfl rfl hrun ?_)
        clear hrun
        go_wp2
        go_roundw
        case rel => exact ⟨k + 1, vs ++ [.slice (some ⟨B, 0, none⟩) D D], by omega, by go_num, by rw [List.length_append, HVL.out]; rfl, HV'.out, HVS'.out, bl_trans HB5.out HB'.out⟩
        case measure => simp [intOf]; omega
    · obtain rfl : k = l.length := by omega
      have hrows : Rows wr u5 (planE D l) := by
        rcases hv with ⟨_, rfl⟩ | ⟨g, cap, rfl, hcap, hgl, hgc⟩
        · simp at hvl; omega
        · refine .inr ⟨g, 0, cap, by rw [hvl, hpl], by omega, hgl, fun i r hr => ?_⟩
          have hi : i < vs.length := by rw [hvl, ← hpl]; exact (List.getElem?_eq_some_iff.1 hr).1
          obtain ⟨u, hu⟩ := get_at hi
          exact ⟨u, by rw [Nat.zero_add]; exact hgc i u hu, hvs i u r hu hr⟩
      have HR := hid hrows
      clear hv hvs hrows
      go_wp2
      go_ret2
      exact ⟨⟨_, by rw [H0.out]; rfl, by rw [e1.out]; exact HR.out⟩, bl_trans HB2.out hB⟩

end Go.Proofs.Ytbnmjbmlejifcaa
