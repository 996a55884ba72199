/- The reference: whether a list has a number; whether it is one of cells; how many cells: the walks. -/
import Derived.Test.YtlkoadcbolkhoaaEncl
set_option linter.all false
namespace Go.Proofs.Ytlkoadcbolkhoaa
open Go Go.RowKit Go.Proofs
attribute [local go_sem] cell_grow frozen_grow

theorem noEq_has {n : Int} {l : List Int} {k : Nat} (h : l[k]? = some n) : l.contains n = true := by
  rw [List.contains_iff_mem]; exact List.mem_of_getElem? h

set_option maxHeartbeats 1000000 in
theorem rhas_any (l : List Int) (s : Value) (n : Int) (w : World) (hl : l.length ≤ 1000000) (hs : Ints w s l) :
    Calls Try.prog 50 #[s, .int .i64 n] w fun e w' => e = .returned (.bool (l.contains n)) ∧ w' = w := by
  obtain ⟨A, c, hsl⟩ : ∃ A c, s = .slice A l.length c := by
    rcases hs with ⟨rfl, rfl⟩ | ⟨b, off, c, rfl, _⟩
    · exact ⟨_, _, rfl⟩
    · exact ⟨_, _, rfl⟩
  subst hsl
  have HS := hid hs
  obtain ⟨q, hq⟩ : ∃ q, l.contains n = q := ⟨_, rfl⟩
  have HQ := hid hq
  rw [hq]
  clear hs hq
  go_enter Try.func50, Try.ntmps50
  go_wp2
  go_loop [5] (fun i => ∃ k : Nat, k ≤ l.length ∧ i = .int .i64 k ∧ NoEq n l k) (fun i => l.length - (intOf i).toNat)
  case atStart => exact ⟨0, Nat.zero_le _, rfl, fun i _ h => by omega⟩
  case round =>
    obtain ⟨k, hk, rfl, hn⟩ := hrel
    by_cases hlt : k < l.length
    · obtain ⟨x, hx⟩ := get_at hlt
      obtain ⟨bb, oo, hA, hbb, hcc⟩ : ∃ bb oo, A = some ⟨bb, oo, none⟩ ∧ bb < w.heap.size ∧ w.cell? ⟨bb, oo + k, none⟩ = some (.int .i64 x) := by
        rcases HS.out with ⟨hv, h0⟩ | ⟨bb, oo, c3, hv, h4, h5, h6⟩
        · rw [h0] at hlt; simp at hlt
        · injection hv with hv1 hv2 hv3
          exact ⟨bb, oo, hv1, h5, h6 k x hx⟩
      subst hA
      have Hx := hid hx
      have HN := hid hn
      have hkI : (k : Int) < (l.length : Int) := by omega
      clear hx hn
      by_cases he : x = n
      · have t1 : (x == n) = true := by simp [he]
        have hres := hid (show q = true by rw [← HQ.out]; exact noEq_has (k := k) (by rw [Hx.out, he]))
        clear he
        go_wp2
        go_ret
        exact ⟨by rw [hres.out]; rfl, rfl⟩
      · have t1 : (x == n) = false := beq_eq_false_iff_ne.2 he
        have hn2 := hid (noEq_succ HN.out Hx.out he)
        clear he
        go_wp2
        go_round
        case rel => exact ⟨k + 1, by omega, by go_num, hn2.out⟩
        case measure => simp [intOf]; omega
    · obtain rfl : k = l.length := by omega
      have hres := hid (show q = false by rw [← HQ.out]; exact noEq_all hn)
      clear hn
      go_wp2
      go_ret
      exact ⟨by rw [hres.out]; rfl, rfl⟩

set_option maxRecDepth 100000 in
set_option maxHeartbeats 4000000 in
theorem rlist_any (N : Int) (l : List Int) (s : Value) (w : World) (hl : l.length ≤ 1000000) (hs : Ints w s l) :
    Calls Try.prog 67 #[s, .int .i64 N] w fun e w' => e = .returned (.bool (listB N 0 l)) ∧ Below w.heap.size w w' := by
  obtain ⟨A, c, hsl⟩ : ∃ A c, s = .slice A l.length c := by
    rcases hs with ⟨rfl, rfl⟩ | ⟨b, off, c, rfl, _⟩
    · exact ⟨_, _, rfl⟩
    · exact ⟨_, _, rfl⟩
  subst hsl
  have HS := hid hs
  obtain ⟨q, hq⟩ : ∃ q, listB N 0 l = q := ⟨_, rfl⟩
  have HQ := hid hq
  rw [hq]
  clear hs hq
  go_enter Try.func67, Try.ntmps67
  go_wp2
  go_loopw [5] (fun i wr => ∃ (k : Nat) (nx : Int), k ≤ l.length ∧ i = .int .i64 (k : Int) ∧ 0 ≤ nx ∧ ((k = 0 ∧ nx = 0) ∨ (0 < k ∧ l[k - 1]? = some (nx - 1))) ∧ listB N nx (l.drop k) = q ∧ Below w.heap.size w wr) (fun i _ => l.length - (intOf i).toNat)
  case atStart => exact ⟨0, 0, Nat.zero_le _, rfl, Int.le_refl _, .inl ⟨rfl, rfl⟩, HQ.out, bl_refl _⟩
  case round =>
    obtain ⟨k, nx, hk, rfl, hn0, hpr, hrec, hB⟩ := hrel
    have HB := hid hB
    have HIS := hid (HS.out.mono hB)
    by_cases hlt : k < l.length
    · obtain ⟨x, hx⟩ := get_at hlt
      have hdr : l.drop k = x :: l.drop (k + 1) := List.drop_eq_getElem_cons hlt ▸ by rw [(List.getElem?_eq_some_iff.1 hx).2]
      rw [hdr, show listB N nx (x :: l.drop (k + 1)) = (decide (nx ≤ x) && decide (x ≤ N - 1) && listB N (x + 1) (l.drop (k + 1))) from rfl] at hrec
      obtain ⟨bb, oo, hA, hbb, hcells⟩ : ∃ bb oo, A = some ⟨bb, oo, none⟩ ∧ bb < wr.heap.size ∧ ∀ i x, l[i]? = some x → wr.cell? ⟨bb, oo + i, none⟩ = some (.int .i64 x) := by
        rcases HIS.out with ⟨hv, h0⟩ | ⟨bb, oo, c3, hv, h4, h5, h6⟩
        · rw [h0] at hlt; simp at hlt
        · injection hv with hv1 hv2 hv3
          exact ⟨bb, oo, hv1, h5, h6⟩
      subst hA
      have hcc := hcells k x hx
      have hkI : (k : Int) < (l.length : Int) := by omega
      have HX := hid hx
      clear hx hdr hB
      by_cases h1 : x < 0
      · have t1 : decide (x < 0) = true := decide_eq_true h1
        have hres := hid (show q = false by rw [← hrec, show decide (nx ≤ x) = false from decide_eq_false (by omega)]; rfl)
        clear h1 hrec hcells hpr
        go_upto_region 4 with (fail)
        refine wp_region_below (by kernel_rfl) (by kernel_rfl) ?_
        repeat (first | go_big_quiet_step (fail) | quiet_step (fail))
        refine wpQuiet_nil ?_
        intro w4 hb4
        have HB4 := hid (bl_trans HB.out hb4)
        clear hcc hb4
        go_wp2
        go_ret
        exact ⟨by rw [hres.out]; rfl, HB4.out⟩
      have t1 : decide (x < 0) = false := decide_eq_false h1
      by_cases h2 : N ≤ x
      · have t2 : decide (N ≤ x) = true := decide_eq_true h2
        have hres := hid (show q = false by rw [← hrec, show decide (x ≤ N - 1) = false from decide_eq_false (by omega)]; simp)
        clear h1 h2 hrec hcells hpr
        go_upto_region 4 with (fail)
        refine wp_region_below (by kernel_rfl) (by kernel_rfl) ?_
        repeat (first | go_big_quiet_step (fail) | quiet_step (fail))
        refine wpQuiet_nil ?_
        intro w4 hb4
        have HB4 := hid (bl_trans HB.out hb4)
        clear hcc hb4
        go_wp2
        go_ret
        exact ⟨by rw [hres.out]; rfl, HB4.out⟩
      have t2 : decide (N ≤ x) = false := decide_eq_false h2
      rcases hpr with ⟨rfl, rfl⟩ | ⟨h0, hpx⟩
      · have HR := hid (show listB N (x + 1) (l.drop (0 + 1)) = q by rw [← hrec, decide_eq_true (show (0 : Int) ≤ x by omega), decide_eq_true (show x ≤ N - 1 by omega)]; simp)
        have hx0 : (0 : Int) ≤ x := by omega
        rw [Nat.add_zero] at hcc
        clear h1 h2 hrec hcells
        go_upto_region 4 with (fail)
        refine wp_region_below (by kernel_rfl) (by kernel_rfl) ?_
        repeat (first | go_big_quiet_step (fail) | quiet_step (fail))
        refine wpQuiet_nil ?_
        intro w4 hb4
        have HB4 := hid (bl_trans HB.out hb4)
        clear hcc hb4
        go_wp2
        go_roundw
        case rel => exact ⟨1, x + 1, by omega, by go_num, by omega, .inr ⟨by omega, by rw [HX.out]; simp⟩, HR.out, HB4.out⟩
        case measure => simp [intOf]; omega
      have hcp := hcells (k - 1) (nx - 1) hpx
      obtain ⟨k', rfl⟩ : ∃ k', k = k' + 1 := ⟨k - 1, by omega⟩
      rw [Nat.add_sub_cancel] at hcp
      have wk : IntKind.i64.wrap (((k' + 1 : Nat) : Int) - 1) = ((k' : Nat) : Int) := by rw [IntWalk.i64_in _ (by omega)]; omega
      have t3 : decide (0 < ((k' + 1 : Nat) : Int)) = true := decide_eq_true (by omega)
      by_cases h3 : x ≤ nx - 1
      · have t4 : decide (x ≤ nx - 1) = true := decide_eq_true h3
        have hres := hid (show q = false by rw [← hrec, show decide (nx ≤ x) = false from decide_eq_false (by omega)]; rfl)
        clear h1 h2 h3 hrec hcells hpx
        go_upto_region 4 with (fail)
        refine wp_region_below (by kernel_rfl) (by kernel_rfl) ?_
        repeat (first | go_big_quiet_step (fail) | quiet_step (fail))
        refine wpQuiet_nil ?_
        intro w4 hb4
        have HB4 := hid (bl_trans HB.out hb4)
        clear hcc hcp hb4
        go_wp2
        go_ret
        exact ⟨by rw [hres.out]; rfl, HB4.out⟩
      · have t4 : decide (x ≤ nx - 1) = false := decide_eq_false h3
        have HR := hid (show listB N (x + 1) (l.drop (k' + 1 + 1)) = q by rw [← hrec, decide_eq_true (show nx ≤ x by omega), decide_eq_true (show x ≤ N - 1 by omega)]; simp)
        have hx0 : (0 : Int) ≤ x := by omega
        clear h1 h2 h3 hrec hcells hpx
        go_upto_region 4 with (fail)
        refine wp_region_below (by kernel_rfl) (by kernel_rfl) ?_
        repeat (first | go_big_quiet_step (fail) | quiet_step (fail))
        refine wpQuiet_nil ?_
        intro w4 hb4
        have HB4 := hid (bl_trans HB.out hb4)
        clear hcc hcp hb4
        go_wp2
        go_roundw
        case rel => exact ⟨k' + 1 + 1, x + 1, by omega, by go_num, by omega, .inr ⟨by omega, by rw [show k' + 1 + 1 - 1 = k' + 1 by omega, HX.out]; simp⟩, HR.out, HB4.out⟩
        case measure => simp [intOf]; omega
    · obtain rfl : k = l.length := by omega
      have hres := hid (show q = true by rw [← hrec, List.drop_length]; rfl)
      clear hrec hpr hB
      go_wp2
      go_ret
      exact ⟨by rw [hres.out]; rfl, HB.out⟩

theorem cells_any (wd hg : Int) (sw sk : Value) (w : World) (h1 : 1 ≤ wd ∧ wd ≤ 8) (h2 : 1 ≤ hg ∧ hg ≤ 8) :
    Calls Try.prog 51 #[.agg #[.int .i64 wd, .int .i64 hg, sw, sk]] w fun e w' => e = .returned (.int .i64 (wd * hg)) ∧ Below w.heap.size w w' := by
  have hm1 := Int.mul_le_mul h1.2 h2.2 (by omega) (by omega)
  have hm2 := Int.mul_le_mul h1.1 h2.1 (by omega) (by omega)
  have u1 : IntKind.i64.wrap (wd * hg) = wd * hg := IntWalk.i64_in _ (by omega)
  have k0 := World.alloc_heap_new w (.cells #[.int .i64 wd, .int .i64 hg, sw, sk] 24)
  have HB := hid (bl_alloc (bl_refl w) (.cells #[.int .i64 wd, .int .i64 hg, sw, sk] 24))
  have HK := hid k0
  clear k0
  go_enter Try.func51, Try.ntmps51
  go_wp2
  go_ret
  exact ⟨rfl, HB.out⟩
end Go.Proofs.Ytlkoadcbolkhoaa

/- The reference: which pond is valid: the walk. -/
namespace Go.Proofs.Ytlkoadcbolkhoaa
open Go Go.RowKit Go.Proofs
attribute [local go_sem] cell_grow frozen_grow

set_option maxRecDepth 100000 in
set_option maxHeartbeats 8000000 in
theorem rpond_any {wd hg : Int} {sw sk : Value} {want keep : List Int} (w : World) (hlw : want.length ≤ 1000000) (hlk : keep.length ≤ 1000000) (hw : Ints w sw want) (hk : Ints w sk keep) :
    Calls Try.prog 22 #[.agg #[.int .i64 wd, .int .i64 hg, sw, sk]] w fun e w' => e = .returned (.int .i64 (pondE wd hg want keep)) ∧ Below w.heap.size w w' := by
  obtain ⟨A, c, hsl⟩ : ∃ A c, sw = .slice A want.length c := by
    rcases hw with ⟨rfl, rfl⟩ | ⟨b, off, c, rfl, _⟩
    · exact ⟨_, _, rfl⟩
    · exact ⟨_, _, rfl⟩
  subst hsl
  have hb0 := bl_alloc (bl_refl w) (.cells #[.int .i64 wd, .int .i64 hg, .slice A want.length c, sk] 24)
  have k0 := World.alloc_heap_new w (.cells #[.int .i64 wd, .int .i64 hg, .slice A want.length c, sk] 24)
  have HB := hid hb0
  have HK := hid k0
  have HW := hid (hw.mono hb0)
  have HKE := hid (hk.mono hb0)
  obtain ⟨E, hE⟩ : ∃ E, pondE wd hg want keep = E := ⟨_, rfl⟩
  have HE := hid hE
  rw [hE]
  clear hE hw hk hb0 k0
  go_enter Try.func22, Try.ntmps22
  go_upto_region 1 with (fail)
  obtain ⟨w0, hw0⟩ : ∃ w0, w.alloc (.cells #[.int .i64 wd, .int .i64 hg, .slice A want.length c, sk] 24) = w0 := ⟨_, rfl⟩
  obtain ⟨X, hX⟩ : ∃ X, w.heap.size = X := ⟨_, rfl⟩
  rw [hX] at HK ⊢
  rw [hw0] at HB HK HW HKE ⊢
  clear hw0
  have q0 : w0.cell? ⟨X, 0, none⟩ = some (.int .i64 wd) := cell_of_heap HK.out
  have q1 : w0.cell? ⟨X, 1, none⟩ = some (.int .i64 hg) := cell_of_heap HK.out
  have q2 : w0.cell? ⟨X, 2, none⟩ = some (.slice A want.length c) := cell_of_heap HK.out
  have q3 : w0.cell? ⟨X, 3, none⟩ = some sk := cell_of_heap HK.out
  have ql := (Array.getElem?_eq_some_iff.1 HK.out).1
  by_cases hr : 1 ≤ wd ∧ wd ≤ 8 ∧ 1 ≤ hg ∧ hg ≤ 8
  case neg =>
    have HE3 := hid (show E = 3 by rw [← HE.out]; unfold pondE; rw [if_pos hr])
    by_cases a1 : wd < 1
    · have t1 : decide (wd < 1) = true := decide_eq_true a1
      clear hr a1
      go_wp2
      go_ret
      exact ⟨by rw [HE3.out]; rfl, HB.out⟩
    have t1 : decide (wd < 1) = false := decide_eq_false a1
    by_cases a2 : 8 < wd
    · have t2 : decide (8 < wd) = true := decide_eq_true a2
      clear hr a1 a2
      go_wp2
      go_ret
      exact ⟨by rw [HE3.out]; rfl, HB.out⟩
    have t2 : decide (8 < wd) = false := decide_eq_false a2
    by_cases a3 : hg < 1
    · have t3 : decide (hg < 1) = true := decide_eq_true a3
      clear hr a1 a2 a3
      go_wp2
      go_ret
      exact ⟨by rw [HE3.out]; rfl, HB.out⟩
    have t3 : decide (hg < 1) = false := decide_eq_false a3
    have t4 : decide (8 < hg) = true := decide_eq_true (by omega)
    clear hr a1 a2 a3
    go_wp2
    go_ret
    exact ⟨by rw [HE3.out]; rfl, HB.out⟩
  have t1 : decide (wd < 1) = false := decide_eq_false (by omega)
  have t2 : decide (8 < wd) = false := decide_eq_false (by omega)
  have t3 : decide (hg < 1) = false := decide_eq_false (by omega)
  have t4 : decide (8 < hg) = false := decide_eq_false (by omega)
  obtain ⟨N, hN⟩ : ∃ N, wd * hg = N := ⟨_, rfl⟩
  have GC : Hid (∀ W, Below w0.heap.size w0 W → Calls Try.prog 51 #[.agg #[.int .i64 wd, .int .i64 hg, .slice A want.length c, sk]] W fun e w' => e = .returned (.int .i64 N) ∧ Below W.heap.size W w') := fun W hW => by rw [← hN]; exact cells_any wd hg _ _ W ⟨hr.1, hr.2.1⟩ ⟨hr.2.2.1, hr.2.2.2⟩
  obtain ⟨b1, hb1⟩ : ∃ b, listB N 0 want = b := ⟨_, rfl⟩
  obtain ⟨b2, hb2⟩ : ∃ b, listB N 0 keep = b := ⟨_, rfl⟩
  have GW : Hid (∀ W s b, (s = Value.slice A want.length c ∧ b = b1) ∨ (s = sk ∧ b = b2) → Below w0.heap.size w0 W → Calls Try.prog 67 #[s, .int .i64 N] W fun e w' => e = .returned (.bool b) ∧ Below W.heap.size W w') := by
    rintro W s b (⟨rfl, rfl⟩ | ⟨rfl, rfl⟩) hW
    · rw [← hb1]; exact rlist_any N want _ W hlw (HW.out.mono hW)
    · rw [← hb2]; exact rlist_any N keep _ W hlk (HKE.out.mono hW)
  have HE2 : Hid (E = if b1 = false ∨ b2 = false then 2 else if want.any (fun n => keep.contains n) = true then 11 else 0) := by
    unfold Hid
    rw [← HE.out, ← hb1, ← hb2, ← hN]; unfold pondE; rw [if_neg (by simpa using hr)]
  clear hb1 hb2 hN hr
  have tf1 : b1 = false ∨ b1 = true := by cases b1 <;> simp
  have tf2 : b2 = false ∨ b2 = true := by cases b2 <;> simp
  go_upto_region 3 with (fail)
  clear t1 t2 t3 t4
  rcases tf1 with rfl | rfl
  · skip
    refine wp_region_below (by kernel_rfl) (by kernel_rfl) ?_
    repeat (first | go_big_quiet_step (first | (go_at_call 51; exact Calls.regrown_of (GC.out _ (below_regrown _ _ _))) | (go_at_call 67; exact Calls.regrown_of (GW.out _ _ _ (by first | exact .inl ⟨rfl, rfl⟩ | exact .inr ⟨rfl, rfl⟩) (below_regrown _ _ _)))) | quiet_step (first | (go_at_call 51; exact Calls.regrown_of (GC.out _ (below_regrown _ _ _))) | (go_at_call 67; exact Calls.regrown_of (GW.out _ _ _ (by first | exact .inl ⟨rfl, rfl⟩ | exact .inr ⟨rfl, rfl⟩) (below_regrown _ _ _)))))
    refine wpQuiet_nil ?_
    intro w2 hb2
    have HB2 := hid (bl_trans HB.out hb2)
    have HE3 := hid (show E = 2 by rw [HE2.out, if_pos (.inl rfl)])
    clear q0 q1 q2 q3 ql hb2 GC GW
    go_wp2
    go_ret
    exact ⟨by rw [HE3.out]; rfl, by rw [← hX]; exact HB2.out⟩
  refine wp_region_below (by kernel_rfl) (by kernel_rfl) ?_
  repeat (first | go_big_quiet_step (first | (go_at_call 51; exact Calls.regrown_of (GC.out _ (below_regrown _ _ _))) | (go_at_call 67; exact Calls.regrown_of (GW.out _ _ _ (by first | exact .inl ⟨rfl, rfl⟩ | exact .inr ⟨rfl, rfl⟩) (below_regrown _ _ _)))) | quiet_step (first | (go_at_call 51; exact Calls.regrown_of (GC.out _ (below_regrown _ _ _))) | (go_at_call 67; exact Calls.regrown_of (GW.out _ _ _ (by first | exact .inl ⟨rfl, rfl⟩ | exact .inr ⟨rfl, rfl⟩) (below_regrown _ _ _)))))
  refine wpQuiet_nil ?_
  intro w2 hb2
  have HB2 := hid (bl_trans HB.out hb2)
  have HK2 := hid (heap_mono HK.out hb2)
  have HW2 := hid (HW.out.mono hb2)
  have HKE2 := hid (HKE.out.mono hb2)
  clear q0 q1 q2 q3 ql hb2 GC GW HB HK HW HKE
  rcases tf2 with rfl | rfl
  · skip
    have HE3 := hid (show E = 2 by rw [HE2.out, if_pos (.inr rfl)])
    go_wp2
    go_ret
    exact ⟨by rw [HE3.out]; rfl, by rw [← hX]; exact HB2.out⟩
  have HE3 := hid (show E = if want.any (fun n => keep.contains n) = true then 11 else 0 by rw [HE2.out, if_neg (by simp)])
  simp only [Bool.not_true]
  go_wp2
  go_loopw [3] (fun i wr => ∃ k : Nat, k ≤ want.length ∧ i = .int .i64 (k : Int) ∧ NoP (fun n => keep.contains n) want k ∧ Below w2.heap.size w2 wr) (fun i _ => want.length - (intOf i).toNat)
  case atStart => exact ⟨0, Nat.zero_le _, rfl, fun i _ h => by omega, bl_refl _⟩
  case round =>
    obtain ⟨k, hk, rfl, hnp, hB⟩ := hrel
    have HBr := hid hB
    have HKr := hid (heap_mono HK2.out hB)
    have HWr := hid (HW2.out.mono hB)
    have HKEr := hid (HKE2.out.mono hB)
    have HNP := hid hnp
    have q2 : wr.cell? ⟨X, 2, none⟩ = some (.slice A want.length c) := cell_of_heap HKr.out
    have q3 : wr.cell? ⟨X, 3, none⟩ = some sk := cell_of_heap HKr.out
    have ql := (Array.getElem?_eq_some_iff.1 HKr.out).1
    by_cases hlt : k < want.length
    · obtain ⟨x, hx⟩ := get_at hlt
      obtain ⟨bb, oo, hA, hbb, hcc⟩ : ∃ bb oo, A = some ⟨bb, oo, none⟩ ∧ bb < wr.heap.size ∧ wr.cell? ⟨bb, oo + k, none⟩ = some (.int .i64 x) := by
        rcases HWr.out with ⟨hv, h0⟩ | ⟨bb, oo, c3, hv, h4, h5, h6⟩
        · rw [h0] at hlt; simp at hlt
        · injection hv with hv1 hv2 hv3
          exact ⟨bb, oo, hv1, h5, h6 k x hx⟩
      subst hA
      have hkI : (k : Int) < (want.length : Int) := by omega
      obtain ⟨b, hbq⟩ : ∃ b, keep.contains x = b := ⟨_, rfl⟩
      have GH : Hid (∀ W, Below wr.heap.size wr W → Calls Try.prog 50 #[sk, .int .i64 x] W fun e w' => e = .returned (.bool b) ∧ Below W.heap.size W w') := fun W hW => by rw [← hbq]; exact (rhas_any keep sk x W hlk (HKEr.out.mono hW)).mono fun e w' h => ⟨h.1, by rw [h.2]; exact bl_refl _⟩
      have HX := hid hx
      have HBQ := hid hbq
      clear hx hnp hB hbq
      go_upto_region 8 with (fail)
      refine wp_region_below (by kernel_rfl) (by kernel_rfl) ?_
      repeat (first | go_big_quiet_step (first | (go_at_call 50; exact Calls.regrown_of (GH.out _ (below_regrown _ _ _)))) | quiet_step (first | (go_at_call 50; exact Calls.regrown_of (GH.out _ (below_regrown _ _ _)))))
      refine wpQuiet_nil ?_
      intro w3 hb3
      have HB3 := hid (bl_trans HBr.out hb3)
      clear q2 q3 ql hcc hb3 GH
      cases b with
      | true =>
        have HE4 := hid (show E = 11 by rw [HE3.out, if_pos (noP_any (p := fun n => keep.contains n) HX.out HBQ.out)])
        have HB4 := hid (bl_trans HB2.out HB3.out)
        go_wp2
        go_ret
        exact ⟨by rw [HE4.out]; rfl, by first | exact HB4.out | (rw [← hX]; exact HB4.out)⟩
      | false =>
        have HN2 := hid (noP_succ HNP.out HX.out HBQ.out)
        go_wp2
        go_roundw
        case rel => exact ⟨k + 1, by omega, by go_num, HN2.out, HB3.out⟩
        case measure => simp [intOf]; omega
    · obtain rfl : k = want.length := by omega
      have HE4 := hid (show E = 0 by rw [HE3.out, if_neg (by rw [noP_all hnp]; simp)])
      have HB4 := hid (bl_trans HB2.out hB)
      clear hnp hB
      go_wp2
      go_ret
      exact ⟨by rw [HE4.out]; rfl, by first | exact HB4.out | (rw [← hX]; exact HB4.out)⟩
end Go.Proofs.Ytlkoadcbolkhoaa
