/- share's greatest, least, fair. -/
import Derived.Test.YtfchcikdcnloaaaLists
namespace Go.Proofs.Ytfchcikdcnloaaa
open Go.RowKit Go.Proofs

theorem quo_small {a b : Int} (h1 : 0 ≤ a) (h2 : a ≤ 100000000) (h3 : 1 ≤ b) (h4 : b ≤ 100100) : Small (quo a b) ∧ 1 ≤ (quo a b).2 := by
  unfold quo Small
  have hg : (0 : Int) < (Int.gcd a b : Int) := by
    have : 0 < Int.gcd a b := Int.gcd_pos_of_ne_zero_right a (by omega)
    omega
  have hd := Int.gcd_dvd_right a b
  refine ⟨⟨Int.ediv_nonneg h1 (by omega), ?_, Int.ediv_nonneg (by omega) (by omega), ?_⟩, ?_⟩
  · exact Int.le_trans (Int.ediv_le_self _ h1) h2
  · exact Int.le_trans (Int.ediv_le_self _ (by omega)) h4
  · obtain ⟨k, hk⟩ := hd
    simp only
    rw [Int.le_ediv_iff_mul_le hg]
    have hk0 : 0 < k := by
      rcases Int.lt_or_le 0 k with h | h
      · exact h
      · have := Int.mul_nonpos_of_nonneg_of_nonpos (Int.le_of_lt hg) h
        omega
    have := Int.mul_le_mul_of_nonneg_left (show 1 ≤ k by omega) (Int.le_of_lt hg)
    omega

theorem byQ_small {had : List Int} {part prize : Int} (V : Val had part prize) {i : Nat} (hi : i < had.length) {k : Int} (hk : 0 ≤ k) (hk2 : k ≤ 1000) : Small (byQ had part i k) := by
  obtain ⟨x, hx⟩ := get_at hi
  have := V.h1 i x hx
  have h1 := V.p1
  have h2 := V.p2
  unfold byQ
  rw [show had.getD i 0 = x by simp [List.getD, hx]]
  exact (quo_small (by omega) (by omega) (by omega) (by omega)).1

theorem got_get {got : List Int} (G : GotOk got) {i : Nat} (hi : i < 12) : 0 ≤ got.getD i 0 ∧ got.getD i 0 ≤ 1000 := by
  obtain ⟨x, hx⟩ := get_at (l := got) (k := i) (by have := G.1; omega)
  rw [show got.getD i 0 = x by simp [List.getD, hx]]
  exact G.2 i x hx

theorem nextQ_small {had got : List Int} {part prize : Int} (V : Val had part prize) (G : GotOk got) {i : Nat} (hi : i < had.length) : Small (nextQ had part got i) :=
  byQ_small V hi (got_get G (by have := V.l2; omega)).1 (got_get G (by have := V.l2; omega)).2
theorem lastQ_small {had got : List Int} {part prize : Int} (V : Val had part prize) (G : GotOk got) {i : Nat} (hi : i < had.length) : Small (lastQ had part got i) := by
  have := got_get G (i := i) (by have := V.l2; omega)
  unfold lastQ
  split
  · unfold Small; decide
  · exact byQ_small V hi (by omega) (by omega)

theorem nexts_small {had got : List Int} {part prize : Int} (V : Val had part prize) (G : GotOk got) {x : Int × Int} (hx : x ∈ nextsQ had part got had.length) : Small x := by
  simp only [nextsQ, List.mem_map, List.mem_range] at hx
  obtain ⟨i, hi, rfl⟩ := hx
  exact nextQ_small V G hi
theorem lasts_small {had got : List Int} {part prize : Int} (V : Val had part prize) (G : GotOk got) {x : Int × Int} (hx : x ∈ lastsQ had part got had.length) : Small x := by
  simp only [lastsQ, List.mem_map, List.mem_filter, List.mem_range] at hx
  obtain ⟨i, ⟨hi, _⟩, rfl⟩ := hx
  exact lastQ_small V G hi

def bestOf (better : Int × Int → Int × Int → Bool) (l : List (Int × Int)) : Int × Int := (l[(bestAt better l l.length).toNat]?).getD (0, 0)
def gtB (a b : Int × Int) : Bool := lessB b a
def greatQ (had : List Int) (part : Int) (got : List Int) : Int × Int := bestOf gtB (nextsQ had part got had.length)
def leastQ (had : List Int) (part : Int) (got : List Int) : Int × Int := bestOf lessB (lastsQ had part got had.length)

theorem Quos.get {w : World} {v : Value} {l : List (Int × Int)} (h : Quos w v l) (hl : 0 < l.length) : ∃ b c, v = .slice (some ⟨b, 0, none⟩) l.length c ∧ b < w.heap.size ∧ ∀ (i : Nat) (q : Int × Int), l[i]? = some q → w.cell? ⟨b, i * 2, none⟩ = some (.int .i64 q.1) ∧ w.cell? ⟨b, i * 2 + 1, none⟩ = some (.int .i64 q.2) := by
  rcases h with ⟨_, rfl⟩ | h
  · simp at hl
  · exact h

theorem best_idx {better : Int × Int → Int × Int → Bool} {l : List (Int × Int)} (h : 0 < l.length) : ∃ (j : Nat), bestAt better l l.length = j ∧ l[j]? = some (bestOf better l) := by
  obtain ⟨n, hn⟩ : ∃ n, l.length = n + 1 := ⟨l.length - 1, by omega⟩
  have h0 := bestAt_nonneg better l n (by omega)
  have hr := bestAt_range better l (n + 1)
  rw [← hn] at h0 hr
  have hlt : (bestAt better l l.length).toNat < l.length := by omega
  refine ⟨(bestAt better l l.length).toNat, by omega, ?_⟩
  unfold bestOf
  simp [hlt]

set_option maxHeartbeats 400000 in
theorem greatest_any {g b off c : Nat} {had got : List Int} {part prize : Int} {w : World} (T : TabIs w g b off c had part prize got) (V : Val had part prize) (G : GotOk got) :
    Calls Try.prog 60 #[.pointer (some ⟨g, 0, none⟩)] w fun e w' => e = .returned (encQ (greatQ had part got)) ∧ Below w.heap.size w w' := by
  have hlen : (nextsQ had part got had.length).length = had.length := by simp [nextsQ]
  have hl1 := V.l1
  have hl2 := V.l2
  obtain ⟨j, hj, hjq⟩ := best_idx (better := gtB) (l := nextsQ had part got had.length) (by omega)
  have hjl := (List.getElem?_eq_some_iff.mp hjq).1
  have hjl' : j < had.length := by omega
  have HL := hid hlen
  have HJ := hid hj
  have HJQ := hid hjq
  clear hlen hj hjq hjl
  go_enter Try.func60, Try.ntmps60
  go_wp2_with fail
  refine (nexts_any (T.mono (bl_alloc (bl_refl _) _)) V G).mono ?_
  rintro e w1 ⟨⟨v, rfl, hown⟩, hb1⟩
  have hQ := Quos.of_own (by rw [HL.out]; exact hown)
  clear hown
  obtain ⟨bq, cq, rfl, hbq, hcq⟩ := hQ.get (by rw [HL.out]; omega)
  have Hcq := Lib.hid hcq
  clear hcq
  have hs1 := hb1.size
  simp only [World.size_alloc] at hs1
  have hs1' : w.heap.size < w1.heap.size := by omega
  go_wp2_with fail
  refine (best_any 79 enters79 gtB (nextsQ had part got had.length) _ _ (by rw [HL.out]; omega) (fun x y W hx hy => less1_any x y W (nexts_small V G hx) (nexts_small V G hy)) hQ).mono ?_
  rintro e w2 ⟨rfl, hb2⟩
  rw [HJ.out]
  have hq1 := cell_mono (Hcq.out j _ HJQ.out).1 hb2
  have hq2 := cell_mono (Hcq.out j _ HJQ.out).2 hb2
  obtain ⟨hn, hnf⟩ := new_cells (bl_trans hb1 hb2)
  have hjq : j < (nextsQ had part got had.length).length := by rw [HL.out]; exact hjl'
  go_wp2
  refine bodyPost_ret (v := encQ (bestOf gtB (nextsQ had part got had.length))) (by simp [results, Try.results60, go_sem, hn, encQ]) rfl ⟨rfl, ?_⟩
  exact bl_set (bl_set (bl_trans (bl_trans (bl_alloc (bl_refl _) _) hb1) hb2) _ (Nat.le_refl _)) _ (Nat.le_refl _)

set_option maxHeartbeats 400000 in
theorem least_any {g b off c : Nat} {had got : List Int} {part prize : Int} {w : World} (T : TabIs w g b off c had part prize got) (V : Val had part prize) (G : GotOk got) :
    Calls Try.prog 61 #[.pointer (some ⟨g, 0, none⟩)] w fun e w' => e = .returned (encQ (leastQ had part got)) ∧ Below w.heap.size w w' := by
  have hlen := lastsQ_len had part got had.length
  have hl2 := V.l2
  by_cases hl0 : 0 < (lastsQ had part got had.length).length
  · obtain ⟨j, hj, hjq⟩ := best_idx (better := lessB) hl0
    have hjl := (List.getElem?_eq_some_iff.mp hjq).1
    have HJ := hid hj
    have HJQ := hid hjq
    clear hj hjq
    go_enter Try.func61, Try.ntmps61
    go_wp2_with fail
    refine (lasts_any (T.mono (bl_alloc (bl_refl _) _)) V G).mono ?_
    rintro e w1 ⟨⟨v, rfl, hown⟩, hb1⟩
    have hQ := Quos.of_own hown
    clear hown
    obtain ⟨bq, cq, rfl, hbq, hcq⟩ := hQ.get hl0
    have Hcq := Lib.hid hcq
    clear hcq
    have hs1 := hb1.size
    simp only [World.size_alloc] at hs1
    have hs1' : w.heap.size < w1.heap.size := by omega
    go_wp2_with fail
    refine (best_any 74 enters74 lessB (lastsQ had part got had.length) _ _ (by omega) (fun x y W hx hy => less_any x y W (lasts_small V G hx) (lasts_small V G hy)) hQ).mono ?_
    rintro e w2 ⟨rfl, hb2⟩
    rw [HJ.out]
    have hq1 := cell_mono (Hcq.out j _ HJQ.out).1 hb2
    have hq2 := cell_mono (Hcq.out j _ HJQ.out).2 hb2
    obtain ⟨hn, hnf⟩ := new_cells (bl_trans hb1 hb2)
    go_wp2
    refine bodyPost_ret (v := encQ (bestOf lessB (lastsQ had part got had.length))) (by simp [results, Try.results61, go_sem, hn, encQ]) rfl ⟨rfl, ?_⟩
    exact bl_set (bl_set (bl_trans (bl_trans (bl_alloc (bl_refl _) _) hb1) hb2) _ (Nat.le_refl _)) _ (Nat.le_refl _)
  · have he : lastsQ had part got had.length = [] := List.length_eq_zero_iff.mp (by omega)
    have HE := hid he
    clear he
    go_enter Try.func61, Try.ntmps61
    go_wp2_with fail
    refine (lasts_any (T.mono (bl_alloc (bl_refl _) _)) V G).mono ?_
    rintro e w1 ⟨⟨v, rfl, hown⟩, hb1⟩
    have hQ := Quos.of_own hown
    clear hown
    rw [HE.out] at hQ
    go_wp2_with fail
    refine (best_any 74 enters74 lessB [] _ _ (by simp) (fun x y W hx hy => by simp at hx) hQ).mono ?_
    rintro e w2 ⟨rfl, hb2⟩
    have hba : bestAt lessB ([] : List (Int × Int)) ([] : List (Int × Int)).length = -1 := rfl
    rw [hba]
    clear hba
    obtain ⟨hn, hnf⟩ := new_cells (bl_trans hb1 hb2)
    go_wp2
    refine bodyPost_ret (v := encQ (0, 0)) (by simp [results, Try.results61, go_sem, hn, encQ]) rfl ⟨by simp [leastQ, HE.out, bestOf], ?_⟩
    exact bl_set (bl_set (bl_trans (bl_trans (bl_alloc (bl_refl _) _) hb1) hb2) _ (Nat.le_refl _)) _ (Nat.le_refl _)

def allZ (l : List Int) : Bool := l.all fun x => decide (x = 0)

set_option maxHeartbeats 1000000 in
theorem eq82 (x0 x1 x2 x3 x4 x5 x6 x7 x8 x9 x10 x11 : Int) (w : World) : (Op.equalIn 10000 82 (.agg #[.int .i64 x0, .int .i64 x1, .int .i64 x2, .int .i64 x3, .int .i64 x4, .int .i64 x5, .int .i64 x6, .int .i64 x7, .int .i64 x8, .int .i64 x9, .int .i64 x10, .int .i64 x11]) (.agg #[.int .i64 0, .int .i64 0, .int .i64 0, .int .i64 0, .int .i64 0, .int .i64 0, .int .i64 0, .int .i64 0, .int .i64 0, .int .i64 0, .int .i64 0, .int .i64 0])).run Try.prog w = .ok (allZ [x0, x1, x2, x3, x4, x5, x6, x7, x8, x9, x10, x11]) w := by
  have u2 := Try.underlying2
  have a2 := Try.isAgg2
  have z2 := Try.sizeOf2
  rw [show (10000 : Nat) = 9999 + 1 from rfl, Op.equalIn]
  simp only [Sem.run_bind, run_underlying Try.underlying82, Result.andThen_ok]
  simp only [Std.Legacy.Range.forIn_eq_forIn_range', Std.Legacy.Range.size, Nat.sub_zero, Nat.add_sub_cancel, Nat.div_one, List.range'_succ, List.range'_zero, List.forIn_cons, List.forIn_nil]
  go_simp
  clear u2 a2 z2
  by_cases h0 : x0 = 0
  case neg => rw [if_neg h0]; simp [allZ, h0]
  by_cases h1 : x1 = 0
  case neg => rw [if_pos h0]; rw [if_neg h1]; simp [allZ, h1]
  by_cases h2 : x2 = 0
  case neg => rw [if_pos h0]; rw [if_pos h1]; rw [if_neg h2]; simp [allZ, h2]
  by_cases h3 : x3 = 0
  case neg => rw [if_pos h0]; rw [if_pos h1]; rw [if_pos h2]; rw [if_neg h3]; simp [allZ, h3]
  by_cases h4 : x4 = 0
  case neg => rw [if_pos h0]; rw [if_pos h1]; rw [if_pos h2]; rw [if_pos h3]; rw [if_neg h4]; simp [allZ, h4]
  by_cases h5 : x5 = 0
  case neg => rw [if_pos h0]; rw [if_pos h1]; rw [if_pos h2]; rw [if_pos h3]; rw [if_pos h4]; rw [if_neg h5]; simp [allZ, h5]
  by_cases h6 : x6 = 0
  case neg => rw [if_pos h0]; rw [if_pos h1]; rw [if_pos h2]; rw [if_pos h3]; rw [if_pos h4]; rw [if_pos h5]; rw [if_neg h6]; simp [allZ, h6]
  by_cases h7 : x7 = 0
  case neg => rw [if_pos h0]; rw [if_pos h1]; rw [if_pos h2]; rw [if_pos h3]; rw [if_pos h4]; rw [if_pos h5]; rw [if_pos h6]; rw [if_neg h7]; simp [allZ, h7]
  by_cases h8 : x8 = 0
  case neg => rw [if_pos h0]; rw [if_pos h1]; rw [if_pos h2]; rw [if_pos h3]; rw [if_pos h4]; rw [if_pos h5]; rw [if_pos h6]; rw [if_pos h7]; rw [if_neg h8]; simp [allZ, h8]
  by_cases h9 : x9 = 0
  case neg => rw [if_pos h0]; rw [if_pos h1]; rw [if_pos h2]; rw [if_pos h3]; rw [if_pos h4]; rw [if_pos h5]; rw [if_pos h6]; rw [if_pos h7]; rw [if_pos h8]; rw [if_neg h9]; simp [allZ, h9]
  by_cases h10 : x10 = 0
  case neg => rw [if_pos h0]; rw [if_pos h1]; rw [if_pos h2]; rw [if_pos h3]; rw [if_pos h4]; rw [if_pos h5]; rw [if_pos h6]; rw [if_pos h7]; rw [if_pos h8]; rw [if_pos h9]; rw [if_neg h10]; simp [allZ, h10]
  by_cases h11 : x11 = 0
  case neg => rw [if_pos h0]; rw [if_pos h1]; rw [if_pos h2]; rw [if_pos h3]; rw [if_pos h4]; rw [if_pos h5]; rw [if_pos h6]; rw [if_pos h7]; rw [if_pos h8]; rw [if_pos h9]; rw [if_pos h10]; rw [if_neg h11]; simp [allZ, h11]
  rw [if_pos h0]; rw [if_pos h1]; rw [if_pos h2]; rw [if_pos h3]; rw [if_pos h4]; rw [if_pos h5]; rw [if_pos h6]; rw [if_pos h7]; rw [if_pos h8]; rw [if_pos h9]; rw [if_pos h10]; rw [if_pos h11]; simp [allZ, h0, h1, h2, h3, h4, h5, h6, h7, h8, h9, h10, h11]

theorem build82 (w : World) : (Instr.build 82 #[]).run Try.prog w = .ok (.agg #[.int .i64 0, .int .i64 0, .int .i64 0, .int .i64 0, .int .i64 0, .int .i64 0, .int .i64 0, .int .i64 0, .int .i64 0, .int .i64 0, .int .i64 0, .int .i64 0]) w := by kernel_rfl

def fairB (had : List Int) (part : Int) (got : List Int) : Bool := if allZ got = true then true else !lessB (leastQ had part got) (greatQ had part got)

theorem bestOf_mem {better : Int × Int → Int × Int → Bool} {l : List (Int × Int)} (h : 0 < l.length) : bestOf better l ∈ l := by
  obtain ⟨j, _, hj⟩ := best_idx (better := better) h
  exact List.mem_of_getElem? hj
theorem greatQ_small {had got : List Int} {part prize : Int} (V : Val had part prize) (G : GotOk got) : Small (greatQ had part got) :=
  nexts_small V G (bestOf_mem (by have := V.l1; simp [nextsQ]; omega))
theorem leastQ_small {had got : List Int} {part prize : Int} (V : Val had part prize) (G : GotOk got) : Small (leastQ had part got) := by
  by_cases h : 0 < (lastsQ had part got had.length).length
  · exact lasts_small V G (bestOf_mem h)
  · have he : lastsQ had part got had.length = [] := List.length_eq_zero_iff.mp (by omega)
    simp [leastQ, he, bestOf, Small]

set_option maxHeartbeats 1000000 in
theorem fair_any {g b off c : Nat} {had got : List Int} {part prize : Int} {w : World} (T : TabIs w g b off c had part prize got) (V : Val had part prize) (G : GotOk got) :
    Calls Try.prog 52 #[.pointer (some ⟨g, 0, none⟩)] w fun e w' => e = .returned (.bool (fairB had part got)) ∧ Below w.heap.size w w' := by
  have hGl := G.1
  obtain ⟨x0, x1, x2, x3, x4, x5, x6, x7, x8, x9, x10, x11, rfl⟩ : ∃ x0 x1 x2 x3 x4 x5 x6 x7 x8 x9 x10 x11, got = [x0, x1, x2, x3, x4, x5, x6, x7, x8, x9, x10, x11] := by
    match got, hGl with
    | [x0, x1, x2, x3, x4, x5, x6, x7, x8, x9, x10, x11], _ => exact ⟨x0, x1, x2, x3, x4, x5, x6, x7, x8, x9, x10, x11, rfl⟩
  have k0 := T.cg (i := 0) (x := x0) rfl
  have k1 := T.cg (i := 1) (x := x1) rfl
  have k2 := T.cg (i := 2) (x := x2) rfl
  have k3 := T.cg (i := 3) (x := x3) rfl
  have k4 := T.cg (i := 4) (x := x4) rfl
  have k5 := T.cg (i := 5) (x := x5) rfl
  have k6 := T.cg (i := 6) (x := x6) rfl
  have k7 := T.cg (i := 7) (x := x7) rfl
  have k8 := T.cg (i := 8) (x := x8) rfl
  have k9 := T.cg (i := 9) (x := x9) rfl
  have k10 := T.cg (i := 10) (x := x10) rfl
  have k11 := T.cg (i := 11) (x := x11) rfl
  simp only [Nat.reduceAdd] at k0 k1 k2 k3 k4 k5 k6 k7 k8 k9 k10 k11
  have hb82 := build82
  have he82 := eq82 x0 x1 x2 x3 x4 x5 x6 x7 x8 x9 x10 x11
  cases hz : allZ [x0, x1, x2, x3, x4, x5, x6, x7, x8, x9, x10, x11]
  · have hfin := hid (show fairB had part [x0, x1, x2, x3, x4, x5, x6, x7, x8, x9, x10, x11] = !lessB (leastQ had part [x0, x1, x2, x3, x4, x5, x6, x7, x8, x9, x10, x11]) (greatQ had part [x0, x1, x2, x3, x4, x5, x6, x7, x8, x9, x10, x11]) by simp only [fairB, hz]; rfl)
    simp only [hz] at he82
    clear hz
    go_enter Try.func52, Try.ntmps52
    go_wp2_with fail
    refine (least_any T V G).mono ?_
    rintro e w1 ⟨rfl, hb1⟩
    go_wp2_with fail
    refine (greatest_any (T.mono hb1) V G).mono ?_
    rintro e w2 ⟨rfl, hb2⟩
    go_wp2_with fail
    refine (less_any _ _ _ (leastQ_small V G) (greatQ_small V G)).mono ?_
    rintro e w3 ⟨rfl, hb3⟩
    go_wp2
    go_ret
    exact ⟨by rw [hfin.out]; rfl, bl_trans (bl_trans hb1 hb2) hb3⟩
  · have hfin := hid (show fairB had part [x0, x1, x2, x3, x4, x5, x6, x7, x8, x9, x10, x11] = true by simp only [fairB, hz]; rfl)
    simp only [hz] at he82
    clear hz
    go_enter Try.func52, Try.ntmps52
    go_wp2
    go_ret
    exact ⟨by rw [hfin.out]; rfl, bl_refl _⟩

end Go.Proofs.Ytfchcikdcnloaaa
