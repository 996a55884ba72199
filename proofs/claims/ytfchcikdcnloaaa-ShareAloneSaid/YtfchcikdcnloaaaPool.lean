/- share.CheckPool, great, and the reference's CheckPool: whether a pool is valid. -/
import Derived.Test.YtfchcikdcnloaaaWithin
namespace Go.Proofs.Ytfchcikdcnloaaa
open Go.RowKit Go.Proofs

theorem Ints.one {W : World} {n : Nat} (x : Int) (t : TypeId) (hn : n = W.heap.size) : Ints (W.alloc (.cells #[.int .i64 x] t)) (.slice (some ⟨n, 0, none⟩) 1 1) [x] := by
  subst hn
  refine .inr ⟨W.heap.size, 0, 1, rfl, Nat.le_refl _, by simp, fun i y hy => ?_⟩
  have hi : i = 0 := by
    have := (List.getElem?_eq_some_iff.mp hy).1; simp at this; omega
  subst hi
  simp at hy; subst hy
  simp [go_sem]

def checkPool (had : List Int) (part prize : Int) : Int :=
  if withinB 1 12 [(had.length : Int)] = false then 6
  else if withinB 1 1000000 had = false ∨ withinB 1 100 [part] = false ∨ withinB 0 1000 [prize] = false then 3
  else 0


theorem Ints.slice {w : World} {s : Value} {l : List Int} (h : Ints w s l) : ∃ A c, s = .slice A l.length c := by
  rcases h with ⟨rfl, rfl⟩ | ⟨b, off, c, rfl, _⟩
  · exact ⟨_, _, rfl⟩
  · exact ⟨_, _, rfl⟩


set_option maxHeartbeats 4000000 in
theorem checkPool_any (had : List Int) (part prize : Int) (s : Value) (w : World) (hl : had.length ≤ 1000) (hs : Ints w s had) :
    Calls Try.prog 19 #[.agg #[s, .int .i64 part, .int .i64 prize]] w fun e w' => e = .returned (.int .i64 (checkPool had part prize)) ∧ Below w.heap.size w w' := by
  obtain ⟨A, c, rfl⟩ := hs.slice
  go_enter Try.func19, Try.ntmps19
  go_wp2_with fail
  refine (within_any 1 12 [(had.length : Int)] _ _ (by simp) (Ints.one _ _ (by first | rfl | simp))).mono ?_
  rintro e w1 ⟨rfl, hb1⟩
  have hB1 := bl_trans (bl_alloc (bl_alloc (bl_refl _) _) _) hb1
  have hz1 := hb1.size
  obtain ⟨hc1, hf1⟩ := bcell hb1
  simp only [World.size_alloc] at hz1 hc1
  have hs1 : w.heap.size < w1.heap.size := by omega
  cases h1 : withinB 1 12 [(had.length : Int)]
  · have hfin := hid (show checkPool had part prize = 6 by simp [checkPool, h1])
    clear h1
    go_wp2
    go_ret
    exact ⟨by rw [hfin.out]; rfl, hB1⟩
  have H1 := hid h1
  clear h1
  go_wp2_with fail
  refine (within_any 1 1000000 had _ _ (by omega) (hs.mono hB1)).mono ?_
  rintro e w2 ⟨rfl, hb2⟩
  have hB2 := bl_trans hB1 hb2
  have hz2 := hb2.size
  obtain ⟨hc2, hf2⟩ := bcell hb2
  have hs2 : w.heap.size < w2.heap.size := by omega
  cases h2 : withinB 1 1000000 had
  · have hfin := hid (show checkPool had part prize = 3 by simp [checkPool, H1.out, h2])
    clear h2
    go_wp2
    go_ret
    exact ⟨by rw [hfin.out]; rfl, hB2⟩
  have H2 := hid h2
  clear h2
  go_wp2_with fail
  refine (within_any 1 100 [part] _ _ (by simp) (Ints.one _ _ (by first | rfl | simp))).mono ?_
  rintro e w3 ⟨rfl, hb3⟩
  have hB3 := bl_trans (bl_alloc hB2 _) hb3
  have hz3 := hb3.size
  obtain ⟨hc3, hf3⟩ := bcell hb3
  simp only [World.size_alloc] at hz3 hc3
  cases h3 : withinB 1 100 [part]
  · have hfin := hid (show checkPool had part prize = 3 by simp [checkPool, H1.out, H2.out, h3])
    clear h3
    go_wp2
    go_ret
    exact ⟨by rw [hfin.out]; rfl, hB3⟩
  have H3 := hid h3
  clear h3
  go_wp2_with fail
  refine (within_any 0 1000 [prize] _ _ (by simp) (Ints.one _ _ (by first | rfl | simp))).mono ?_
  rintro e w4 ⟨rfl, hb4⟩
  have hB4 := bl_trans (bl_alloc hB3 _) hb4
  cases h4 : withinB 0 1000 [prize]
  · have hfin := hid (show checkPool had part prize = 3 by simp [checkPool, H1.out, H2.out, H3.out, h4])
    clear h4
    go_wp2
    go_ret
    exact ⟨by rw [hfin.out]; rfl, hB4⟩
  · have hfin := hid (show checkPool had part prize = 0 by simp [checkPool, H1.out, H2.out, H3.out, h4])
    clear h4
    go_wp2
    go_ret
    exact ⟨by rw [hfin.out]; rfl, hB4⟩
end Go.Proofs.Ytfchcikdcnloaaa
