/- share's Span. -/
import Derived.Test.YtfchcikdcnloaaaShares
import Derived.Test.YtfchcikdcnloaaaQuota
namespace Go.Proofs.Ytfchcikdcnloaaa
open Go Go.RowKit Go.Proofs
attribute [local go_sem] cell_grow frozen_grow

def spanLo (had : List Int) (part prize : Int) (i : Nat) : Int :=
  let got := gotEnd had part prize
  if prize ≠ 0 ∧ greatQ had part got = leastQ had part got ∧ leastQ had part got ≠ nextQ had part got i ∧ leastQ had part got = lastQ had part got i then got.getD i 0 - 1 else got.getD i 0
def spanHi (had : List Int) (part prize : Int) (i : Nat) : Int :=
  let got := gotEnd had part prize
  if prize ≠ 0 ∧ greatQ had part got = leastQ had part got ∧ leastQ had part got = nextQ had part got i then got.getD i 0 + 1 else got.getD i 0

theorem eql86_run (a b : Int × Int) (v : Bool) (h : decide (a = b) = v) (w : World) : (binOp .eql 86 (.agg #[.int .i64 a.1, .int .i64 a.2]) (.agg #[.int .i64 b.1, .int .i64 b.2])).run Try.prog w = .ok (.bool v) w := by
  subst h
  have := eq86 a b w
  unfold encQ at this
  show ((do pure (.bool (← Op.equal 86 _ _))) : Sem Value).run Try.prog w = _
  rw [Sem.run_bind, this]
  rfl
theorem neq86_run (a b : Int × Int) (v : Bool) (h : decide (a = b) = v) (w : World) : (binOp .neq 86 (.agg #[.int .i64 a.1, .int .i64 a.2]) (.agg #[.int .i64 b.1, .int .i64 b.2])).run Try.prog w = .ok (.bool (!v)) w := by
  subst h
  have := eq86 a b w
  unfold encQ at this
  show ((do pure (.bool (!(← Op.equal 86 _ _)))) : Sem Value).run Try.prog w = _
  rw [Sem.run_bind, this]
  rfl

theorem gotEnd_ok {had : List Int} {part prize : Int} (V : Val had part prize) : GotOk (gotEnd had part prize) := gotOf_ok (by rw [ordN_len]; have := V.z2; omega)

set_option maxRecDepth 100000 in
set_option maxHeartbeats 2000000 in
theorem span_good (had : List Int) (part prize : Int) (i : Nat) (s : Value) (w : World) (V : Val had part prize) (hi : i < had.length) (hs : Ints w s had) :
    Calls Try.prog 35 #[.agg #[s, .int .i64 part, .int .i64 prize], .int .i64 i] w fun e w' => e = .returned (.tuple #[.agg #[.int .i64 (spanLo had part prize i), .int .i64 (spanHi had part prize i)], .int .i64 0]) ∧ Below w.heap.size w w' := by
  have hv2 := V.l2
  have hz1 := V.z1
  have hz2 := V.z2
  obtain ⟨A, c, rfl⟩ := hs.slice
  go_enter Try.func35, Try.ntmps35
  go_wp2_with fail
  refine (owned_ok had part prize i _ _ V hi (hs.mono (bl_alloc (bl_alloc (bl_refl _) _) _))).mono ?_
  rintro e w1 ⟨⟨g, b', off', c', rfl, hg, T⟩, hb1⟩
  have hB1 := bl_trans (bl_alloc (bl_alloc (bl_refl w) _) _) hb1
  obtain ⟨hq1, hqf1⟩ := new_cells (w := w.alloc _) hb1
  obtain ⟨hr1, hrf1⟩ := new_cells (w := w) (bl_trans (bl_alloc (bl_refl _) _) hb1)
  simp only [World.size_alloc] at hq1 hqf1 hg
  have hgl := T.glt
  go_wp2_with fail
  refine (all_any T V).mono ?_
  rintro e w2 ⟨rfl, T2, hO⟩
  have hB2 := hO.since hB1 (by omega)
  have hk1 := hO.block (w.heap.size + 1) (by omega) (by omega)
  have hk0 := hO.block w.heap.size (by omega) (by omega)
  have hq2 : ∀ i, w2.cell? ⟨w.heap.size + 1, i, none⟩ = #[Value.int .i64 0, .int .i64 0][i]? := fun i => (World.cell?_of_block hk1).trans (hq1 i)
  have hqf2 : ∀ i, w2.frozen? ⟨w.heap.size + 1, i, none⟩ = false := fun i => by have := hqf1 i; unfold World.frozen? at this ⊢; rw [hk1]; exact this
  have hr2 := (World.cell?_of_block hk0).trans (hr1 2)
  have G := gotEnd_ok V
  obtain ⟨x, hx⟩ := get_at (l := gotEnd had part prize) (k := i) (by have := G.1; omega)
  have hxb := G.2 i x hx
  have hcx : w2.cell? ⟨g, 3 + i, none⟩ = some (.int .i64 x) := T2.cg hx
  have hgetD : (gotEnd had part prize).getD i 0 = x := by simp [List.getD, hx]
  generalize ((runSt had part (ordN had part prize.toNat)).map (·.2)).getD 0 = res at *
  have HX := hid hgetD
  have hi12 : i < 12 := by omega
  have hgl2 := T2.glt
  change TabIs w2 g b' off' c' had part prize (gotEnd had part prize) at T2
  clear hgetD hx hk0 hk1 hq1 hqf1 hr1 hrf1 hO T
  go_wp2
  go_region
  obtain ⟨w3, hw3⟩ : ∃ w3, (w2.alloc (.cells #[.int .i64 x, .int .i64 x] 47)).drew = w3 := ⟨_, rfl⟩
  have hb3 : Below w2.heap.size w2 w3 := by rw [← hw3]; exact bl_drew (bl_alloc (bl_refl _) _)
  have hn3 : (∀ i, w3.cell? ⟨w2.heap.size, i, none⟩ = #[Value.int .i64 x, .int .i64 x][i]?) ∧ (∀ i, w3.frozen? ⟨w2.heap.size, i, none⟩ = false) := by rw [← hw3]; exact new_cells (w := w2) (bl_drew (bl_refl _))
  have hsz3 : w2.heap.size < w3.heap.size := by rw [← hw3]; simp
  have T3 := T2.mono hb3
  have hB3 := bl_trans hB2 hb3
  have hr3 : w3.cell? ⟨w.heap.size, 2, none⟩ = some (.int .i64 prize) := cell_mono hr2 hb3
  have hq3 : ∀ i, w3.cell? ⟨w.heap.size + 1, i, none⟩ = #[Value.int .i64 0, .int .i64 0][i]? := fun i => (hb3.cell (p := ⟨w.heap.size + 1, i, none⟩) (by simp; omega)).trans (hq2 i)
  have hqf3 : ∀ i, w3.frozen? ⟨w.heap.size + 1, i, none⟩ = false := fun i => (hb3.frozen (p := ⟨w.heap.size + 1, i, none⟩) (by simp; omega)).trans (hqf2 i)
  obtain ⟨hn3, hnf3⟩ := hn3
  have hpl : w.heap.size + 1 < w2.heap.size := by omega
  rw [hw3]
  clear hw3 hq2 hqf2 hr2 T2 hcx hb1 hgl
  have hLo := hid (show spanLo had part prize i = if prize ≠ 0 ∧ greatQ had part (gotEnd had part prize) = leastQ had part (gotEnd had part prize) ∧ leastQ had part (gotEnd had part prize) ≠ nextQ had part (gotEnd had part prize) i ∧ leastQ had part (gotEnd had part prize) = lastQ had part (gotEnd had part prize) i then x - 1 else x by unfold spanLo; simp only [HX.out])
  have hHi := hid (show spanHi had part prize i = if prize ≠ 0 ∧ greatQ had part (gotEnd had part prize) = leastQ had part (gotEnd had part prize) ∧ leastQ had part (gotEnd had part prize) = nextQ had part (gotEnd had part prize) i then x + 1 else x by unfold spanHi; simp only [HX.out])
  by_cases hp0 : prize = 0
  · have hlo := hid (show spanLo had part prize i = x by rw [hLo.out, if_neg (fun h => h.1 hp0)])
    have hhi := hid (show spanHi had part prize i = x by rw [hHi.out, if_neg (fun h => h.1 hp0)])
    have hp0' : (prize == 0) = true := by simpa using hp0
    clear hLo hHi
    go_wp2
    refine bodyPost_ret (v := .tuple #[.agg #[.int .i64 x, .int .i64 x], .int .i64 0]) (by simp [results, Try.results35, go_sem, hq3]) rfl ⟨by rw [hlo.out, hhi.out], ?_⟩
    exact bl_set (bl_set hB3 _ (by omega)) _ (by omega)
  have hp0' : (prize == 0) = false := by simpa using hp0
  go_wp2_with fail
  refine (greatest_any T3 V G).mono ?_
  rintro e w4 ⟨rfl, hb4⟩
  have T4 := T3.mono hb4
  go_wp2_with fail
  refine (least_any T4 V G).mono ?_
  rintro e w5 ⟨rfl, hb5⟩
  have T5 := T4.mono hb5
  have hb35 := bl_trans hb4 hb5
  have hB5 := bl_trans hB3 hb35
  have hq5 : ∀ i, w5.cell? ⟨w.heap.size + 1, i, none⟩ = #[Value.int .i64 0, .int .i64 0][i]? := fun i => (hb35.cell (p := ⟨w.heap.size + 1, i, none⟩) (by simp; omega)).trans (hq3 i)
  have hqf5 : ∀ i, w5.frozen? ⟨w.heap.size + 1, i, none⟩ = false := fun i => (hb35.frozen (p := ⟨w.heap.size + 1, i, none⟩) (by simp; omega)).trans (hqf3 i)
  have hn5 : ∀ i, w5.cell? ⟨w2.heap.size, i, none⟩ = #[Value.int .i64 x, .int .i64 x][i]? := fun i => (hb35.cell (p := ⟨w2.heap.size, i, none⟩) hsz3).trans (hn3 i)
  have hnf5 : ∀ i, w5.frozen? ⟨w2.heap.size, i, none⟩ = false := fun i => (hb35.frozen (p := ⟨w2.heap.size, i, none⟩) hsz3).trans (hnf3 i)
  have hsz5 : w2.heap.size < w5.heap.size := Nat.lt_of_lt_of_le hsz3 hb35.size
  clear hq3 hqf3 hn3 hnf3 T3 T4 hr3 hb3
  by_cases h1 : greatQ had part (gotEnd had part prize) = leastQ had part (gotEnd had part prize)
  · have heq := neq86_run (greatQ had part (gotEnd had part prize)) (leastQ had part (gotEnd had part prize)) true (by simpa using h1)
    have H1 := hid h1
    clear h1
    unfold encQ
    go_wp2_with fail
    refine (least_any T5 V G).mono ?_
    rintro e w6 ⟨rfl, hb6⟩
    have T6 := T5.mono hb6
    unfold encQ
    clear heq
    go_wp2_with fail
    refine (next_any T6 V G i hi).mono ?_
    rintro e w7 ⟨rfl, hb7⟩
    have T7 := T6.mono hb7
    have hb57 := bl_trans hb6 hb7
    have hB7 := bl_trans hB5 hb57
    have hq7 : ∀ i, w7.cell? ⟨w.heap.size + 1, i, none⟩ = #[Value.int .i64 0, .int .i64 0][i]? := fun i => (hb57.cell (p := ⟨w.heap.size + 1, i, none⟩) (by simp; omega)).trans (hq5 i)
    have hqf7 : ∀ i, w7.frozen? ⟨w.heap.size + 1, i, none⟩ = false := fun i => (hb57.frozen (p := ⟨w.heap.size + 1, i, none⟩) (by simp; omega)).trans (hqf5 i)
    have hn7 : ∀ i, w7.cell? ⟨w2.heap.size, i, none⟩ = #[Value.int .i64 x, .int .i64 x][i]? := fun i => (hb57.cell (p := ⟨w2.heap.size, i, none⟩) hsz5).trans (hn5 i)
    have hnf7 : ∀ i, w7.frozen? ⟨w2.heap.size, i, none⟩ = false := fun i => (hb57.frozen (p := ⟨w2.heap.size, i, none⟩) hsz5).trans (hnf5 i)
    have hsz7 : w2.heap.size < w7.heap.size := Nat.lt_of_lt_of_le hsz5 hb57.size
    clear hq5 hqf5 hn5 hnf5 T5 T6
    have hne : w2.heap.size ≠ w.heap.size + 1 := by omega
    by_cases h2 : leastQ had part (gotEnd had part prize) = nextQ had part (gotEnd had part prize) i
    · have heq := eql86_run (leastQ had part (gotEnd had part prize)) (nextQ had part (gotEnd had part prize) i) true (by simpa using h2)
      have hlo := hid (show spanLo had part prize i = x by rw [hLo.out, if_neg (fun h => h.2.2.1 h2)])
      have hhi := hid (show spanHi had part prize i = x + 1 by rw [hHi.out, if_pos ⟨hp0, H1.out, h2⟩])
      clear h2 hLo hHi
      unfold encQ
      go_wp2
      refine bodyPost_ret (v := .tuple #[.agg #[.int .i64 x, .int .i64 (x + 1)], .int .i64 0]) (by simp [results, Try.results35, go_sem, hq7]) rfl ⟨by rw [hlo.out, hhi.out], ?_⟩
      exact bl_set (bl_set (bl_set hB7 _ (by omega)) _ (by omega)) _ (by omega)
    · have heq := eql86_run (leastQ had part (gotEnd had part prize)) (nextQ had part (gotEnd had part prize) i) false (by simpa using h2)
      have hhi := hid (show spanHi had part prize i = x by rw [hHi.out, if_neg (fun h => h2 h.2.2)])
      have H2 := hid h2
      clear h2
      unfold encQ
      go_wp2_with fail
      refine (last_any T7 V G i hi).mono ?_
      rintro e w8 ⟨rfl, hb8⟩
      have hB8 := bl_trans hB7 hb8
      have hq8 : ∀ i, w8.cell? ⟨w.heap.size + 1, i, none⟩ = #[Value.int .i64 0, .int .i64 0][i]? := fun i => (hb8.cell (p := ⟨w.heap.size + 1, i, none⟩) (by simp; omega)).trans (hq7 i)
      have hqf8 : ∀ i, w8.frozen? ⟨w.heap.size + 1, i, none⟩ = false := fun i => (hb8.frozen (p := ⟨w.heap.size + 1, i, none⟩) (by simp; omega)).trans (hqf7 i)
      have hn8 : ∀ i, w8.cell? ⟨w2.heap.size, i, none⟩ = #[Value.int .i64 x, .int .i64 x][i]? := fun i => (hb8.cell (p := ⟨w2.heap.size, i, none⟩) hsz7).trans (hn7 i)
      have hnf8 : ∀ i, w8.frozen? ⟨w2.heap.size, i, none⟩ = false := fun i => (hb8.frozen (p := ⟨w2.heap.size, i, none⟩) hsz7).trans (hnf7 i)
      clear hq7 hqf7 hn7 hnf7 T7 heq
      by_cases h3 : leastQ had part (gotEnd had part prize) = lastQ had part (gotEnd had part prize) i
      · have heq := eql86_run (leastQ had part (gotEnd had part prize)) (lastQ had part (gotEnd had part prize) i) true (by simpa using h3)
        have hlo := hid (show spanLo had part prize i = x - 1 by rw [hLo.out, if_pos ⟨hp0, H1.out, H2.out, h3⟩])
        clear h3 hLo hHi
        unfold encQ
        go_wp2
        refine bodyPost_ret (v := .tuple #[.agg #[.int .i64 (x - 1), .int .i64 x], .int .i64 0]) (by simp [results, Try.results35, go_sem, hq8]) rfl ⟨by rw [hlo.out, hhi.out], ?_⟩
        exact bl_set (bl_set (bl_set hB8 _ (by omega)) _ (by omega)) _ (by omega)
      · have heq := eql86_run (leastQ had part (gotEnd had part prize)) (lastQ had part (gotEnd had part prize) i) false (by simpa using h3)
        have hlo := hid (show spanLo had part prize i = x by rw [hLo.out, if_neg (fun h => h3 h.2.2.2)])
        clear h3 hLo hHi
        unfold encQ
        go_wp2
        refine bodyPost_ret (v := .tuple #[.agg #[.int .i64 x, .int .i64 x], .int .i64 0]) (by simp [results, Try.results35, go_sem, hq8]) rfl ⟨by rw [hlo.out, hhi.out], ?_⟩
        exact bl_set (bl_set hB8 _ (by omega)) _ (by omega)
  · have heq := neq86_run (greatQ had part (gotEnd had part prize)) (leastQ had part (gotEnd had part prize)) false (by simpa using h1)
    have hlo := hid (show spanLo had part prize i = x by rw [hLo.out, if_neg (fun h => h1 h.2.1)])
    have hhi := hid (show spanHi had part prize i = x by rw [hHi.out, if_neg (fun h => h1 h.2.1)])
    clear h1 hLo hHi
    unfold encQ
    go_wp2
    refine bodyPost_ret (v := .tuple #[.agg #[.int .i64 x, .int .i64 x], .int .i64 0]) (by simp [results, Try.results35, go_sem, hq5]) rfl ⟨by rw [hlo.out, hhi.out], ?_⟩
    exact bl_set (bl_set hB5 _ (by omega)) _ (by omega)

def spanR (had : List Int) (part prize owner : Int) : Int × Int := if ownedE had part prize owner = 0 then (spanLo had part prize owner.toNat, spanHi had part prize owner.toNat) else (0, 0)

set_option maxRecDepth 100000 in
set_option maxHeartbeats 2000000 in
theorem span_any (had : List Int) (part prize owner : Int) (s : Value) (w : World) (hl : had.length ≤ 1000) (hs : Ints w s had) :
    Calls Try.prog 35 #[.agg #[s, .int .i64 part, .int .i64 prize], .int .i64 owner] w fun e w' => e = .returned (.tuple #[encQ (spanR had part prize owner), .int .i64 (ownedE had part prize owner)]) ∧ Below w.heap.size w w' := by
  by_cases h : ownedE had part prize owner = 0
  · obtain ⟨V, h1, h2⟩ := ownedE_ok.mp h
    obtain ⟨i, rfl⟩ : ∃ i : Nat, owner = i := ⟨owner.toNat, by omega⟩
    have e : spanR had part prize i = (spanLo had part prize i, spanHi had part prize i) := by simp [spanR, h]
    rw [h, e]
    exact span_good had part prize i s w V (by omega) hs
  · have e : spanR had part prize owner = (0, 0) := by simp [spanR, h]
    have hcall : ∀ W, Ints W s had → Calls Try.prog 68 #[.agg #[s, .int .i64 part, .int .i64 prize], .int .i64 owner] W fun e w' => e = .returned (.tuple #[.pointer none, .int .i64 (ownedE had part prize owner)]) ∧ Below W.heap.size W w' := by
      intro W hW
      by_cases h0 : checkPool had part prize = 0
      · have V := checkPool_ok.mp h0
        have ho : owner < 0 ∨ (had.length : Int) ≤ owner := by
          have := mt (fun hh => ownedE_ok.mpr ⟨V, hh⟩) h
          omega
        have e2 : ownedE had part prize owner = 2 := by unfold ownedE; rw [if_neg (by simpa using h0), if_pos ho]
        rw [e2]
        exact owned_arg had part prize owner s W V ho hW
      · have e2 : ownedE had part prize owner = checkPool had part prize := by unfold ownedE; rw [if_pos h0]
        rw [e2]
        exact owned_err had part prize owner s W hl h0 hW
    have Hcall := Lib.hid hcall
    have E := hid e
    have hcp : (ownedE had part prize owner != 0) = true := by simpa using h
    clear hcall e h
    obtain ⟨A, c, rfl⟩ := hs.slice
    go_enter Try.func35, Try.ntmps35
    go_wp2_with fail
    refine (Hcall.out _ (hs.mono (bl_alloc (bl_alloc (bl_refl _) _) _))).mono ?_
    rintro e w1 ⟨rfl, hb1⟩
    have hB1 := bl_trans (bl_alloc (bl_alloc (bl_refl w) _) _) hb1
    obtain ⟨hq1, hqf1⟩ := new_cells (w := w.alloc _) hb1
    simp only [World.size_alloc] at hq1 hqf1
    go_wp2
    refine bodyPost_ret (v := .tuple #[.agg #[.int .i64 0, .int .i64 0], .int .i64 (ownedE had part prize owner)]) (by simp [results, Try.results35, go_sem, hq1]) rfl ⟨by rw [E.out]; rfl, ?_⟩
    exact bl_set (bl_set hB1 _ (by omega)) _ (by omega)

end Go.Proofs.Ytfchcikdcnloaaa
