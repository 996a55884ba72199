/- The reference: Divisors. -/
import Derived.Test.YtfchcikdcnloaaaRefg
import Derived.Test.YtfchcikdcnloaaaTail
namespace Go.Proofs.Ytfchcikdcnloaaa
open Go Go.RowKit Go.Proofs
attribute [local go_sem] cell_grow frozen_grow

/-- What lies there between two owners. -/
structure DInv (w wr : World) (B : Nat) (cs : Array Value) (lo hi : Int × Int) : Prop where
  pool : wr.heap[w.heap.size]? = some (.cells cs 24 (0, 0))
  r1 : wr.heap[w.heap.size + 1]? = some (.cells #[.int .i64 0, .int .i64 0] 39 (0, 0))
  r2 : wr.heap[w.heap.size + 2]? = some (.cells #[.int .i64 0, .int .i64 0] 39 (0, 0))
  lo : wr.heap[B]? = some (.cells #[.int .i64 lo.1, .int .i64 lo.2] 39 (0, 0))
  hi : wr.heap[B + 1]? = some (.cells #[.int .i64 hi.1, .int .i64 hi.2] 39 (0, 0))
  old : Below w.heap.size w wr
theorem DInv.mono {w wr W : World} {B : Nat} {cs : Array Value} {lo hi : Int × Int} (h : DInv w wr B cs lo hi) (hb : Below wr.heap.size wr W) : DInv w W B cs lo hi :=
  ⟨heap_mono h.pool hb, heap_mono h.r1 hb, heap_mono h.r2 hb, heap_mono h.lo hb, heap_mono h.hi hb, bl_trans h.old hb⟩
theorem set2 {W : World} {k : Nat} {a b : Value} {t : TypeId} (h : W.heap[k]? = some (.cells #[a, b] t (0, 0))) (x y : Value) : ((W.setCell ⟨k, 0, none⟩ x).setCell ⟨k, 1, none⟩ y).heap[k]? = some (.cells #[x, y] t (0, 0)) := by
  simp only [World.setCell, Array.getElem?_modify, if_true, h]
  rfl
theorem set2_other {W : World} {k j : Nat} {o : Obj} (h : W.heap[j]? = some o) (hj : j ≠ k) (x y : Value) : ((W.setCell ⟨k, 0, none⟩ x).setCell ⟨k, 1, none⟩ y).heap[j]? = some o :=
  heap_grown h (grown_two (grown_set W k 0 x) (grown_set _ k 1 y)) hj
theorem DInv.setLo {w wr : World} {B : Nat} {cs : Array Value} {lo hi : Int × Int} (h : DInv w wr B cs lo hi) (hB : w.heap.size + 2 < B) (q : Int × Int) : DInv w ((wr.setCell ⟨B, 0, none⟩ (.int .i64 q.1)).setCell ⟨B, 1, none⟩ (.int .i64 q.2)) B cs q hi :=
  ⟨set2_other h.pool (by omega) _ _, set2_other h.r1 (by omega) _ _, set2_other h.r2 (by omega) _ _, set2 h.lo _ _, set2_other h.hi (by omega) _ _, bl_set (bl_set h.old _ (by omega)) _ (by omega)⟩
theorem DInv.setHi {w wr : World} {B : Nat} {cs : Array Value} {lo hi : Int × Int} (h : DInv w wr B cs lo hi) (hB : w.heap.size + 2 < B) (q : Int × Int) : DInv w ((wr.setCell ⟨B + 1, 0, none⟩ (.int .i64 q.1)).setCell ⟨B + 1, 1, none⟩ (.int .i64 q.2)) B cs lo q :=
  ⟨set2_other h.pool (by omega) _ _, set2_other h.r1 (by omega) _ _, set2_other h.r2 (by omega) _ _, set2_other h.lo (by omega) _ _, set2 h.hi _ _, bl_set (bl_set h.old _ (by omega)) _ (by omega)⟩

theorem refDiv_bad (had : List Int) (part prize : Int) (shares : List Int) (s s2 : Value) (w : World) (hl : had.length ≤ 1000) (hl2 : shares.length ≤ 1000) (hs : Ints w s had) (hs2 : Ints w s2 shares) (h0 : divisorsE had part prize shares ≠ 0) :
    Calls Try.prog 30 #[.agg #[s, .int .i64 part, .int .i64 prize], s2] w fun e w' => e = .returned (.tuple #[encQ (0, 0), encQ (0, 0), .int .i64 (divisorsE had part prize shares)]) ∧ Below w.heap.size w w' := by
  obtain ⟨A, c, rfl⟩ := hs.slice
  obtain ⟨A2, c2, rfl⟩ := hs2.slice
  have hbb := bl_alloc (bl_alloc (bl_alloc (bl_refl w) (.cells #[.slice A had.length c, .int .i64 part, .int .i64 prize] 24)) (.cells #[.int .i64 0, .int .i64 0] 39)) (.cells #[.int .i64 0, .int .i64 0] 39)
  have hcall : Hid (∀ W, Below w.heap.size w W → Calls Try.prog 22 #[.agg #[.slice A had.length c, .int .i64 part, .int .i64 prize], .slice A2 shares.length c2] W fun e w' => e = .returned (.int .i64 (refSharesE had part prize shares)) ∧ Below W.heap.size W w') := fun W hW => refCheckShares_any had part prize shares _ _ W hl hl2 (hs.mono hW) (hs2.mono hW)
  by_cases h1 : refSharesE had part prize shares = 0
  · have hp0 : prize = 0 := by
      unfold divisorsE at h0
      rw [checkShares_law, if_neg (by simpa using h1)] at h0
      by_cases h : prize = 0
      · exact h
      · rw [if_neg h] at h0; exact absurd rfl h0
    have hE := hid (show divisorsE had part prize shares = 5 by unfold divisorsE; rw [checkShares_law, if_neg (by simpa using h1), if_pos hp0])
    have hpb : (prize == 0) = true := by simpa using hp0
    have H1 := hid h1
    clear h0 h1 hp0
    go_enter Try.func30, Try.ntmps30
    go_wp2_with fail
    refine (hcall.out _ hbb).mono ?_
    rintro e w1 ⟨rfl, hb1⟩
    rw [H1.out]
    obtain ⟨hr1, hrf1⟩ := new_cells (w := w) (bl_trans (bl_alloc (bl_alloc (bl_refl _) _) _) hb1)
    obtain ⟨hq1, hqf1⟩ := new_cells (w := w.alloc _) (bl_trans (bl_alloc (bl_refl _) _) hb1)
    obtain ⟨hp1, hpf1⟩ := new_cells (w := (w.alloc _).alloc _) hb1
    simp only [World.size_alloc] at hq1 hqf1 hp1 hpf1
    have hB1 := bl_trans hbb hb1
    have hl1 : w.heap.size + 1 + 1 < w1.heap.size := by have := hb1.size; simp at this; omega
    have hl2' : w.heap.size + 1 < w1.heap.size := by omega
    have hl3 : w.heap.size < w1.heap.size := by omega
    have hr12 : w1.cell? ⟨w.heap.size, 2, none⟩ = some (.int .i64 prize) := hr1 2
    go_wp2
    refine bodyPost_ret (v := .tuple #[.agg #[.int .i64 0, .int .i64 0], .agg #[.int .i64 0, .int .i64 0], .int .i64 5]) (by simp [results, Try.results30, go_sem, hq1, hp1]) rfl ⟨by rw [hE.out]; rfl, ?_⟩
    exact bl_set (bl_set (bl_set (bl_set hB1 _ (by omega)) _ (by omega)) _ (by omega)) _ (by omega)
  · have hE := hid (show divisorsE had part prize shares = refSharesE had part prize shares by unfold divisorsE; rw [checkShares_law, if_pos h1])
    have hne : (refSharesE had part prize shares != 0) = true := by simpa using h1
    clear h0 h1
    go_enter Try.func30, Try.ntmps30
    go_wp2_with fail
    refine (hcall.out _ hbb).mono ?_
    rintro e w1 ⟨rfl, hb1⟩
    obtain ⟨hr1, hrf1⟩ := new_cells (w := w) (bl_trans (bl_alloc (bl_alloc (bl_refl _) _) _) hb1)
    obtain ⟨hq1, hqf1⟩ := new_cells (w := w.alloc _) (bl_trans (bl_alloc (bl_refl _) _) hb1)
    obtain ⟨hp1, hpf1⟩ := new_cells (w := (w.alloc _).alloc _) hb1
    simp only [World.size_alloc] at hq1 hqf1 hp1 hpf1
    have hB1 := bl_trans hbb hb1
    have hl1 : w.heap.size + 1 + 1 < w1.heap.size := by have := hb1.size; simp at this; omega
    have hl2' : w.heap.size + 1 < w1.heap.size := by omega
    have hl3 : w.heap.size < w1.heap.size := by omega
    have HQ : Hid (∀ W, Below w1.heap.size w1 W → (∀ i, W.cell? ⟨w.heap.size + 1, i, none⟩ = #[Value.int .i64 0, .int .i64 0][i]?) ∧ (∀ i, W.frozen? ⟨w.heap.size + 1, i, none⟩ = false) ∧ (∀ i, W.cell? ⟨w.heap.size + 1 + 1, i, none⟩ = #[Value.int .i64 0, .int .i64 0][i]?) ∧ (∀ i, W.frozen? ⟨w.heap.size + 1 + 1, i, none⟩ = false)) := fun W hW =>
      ⟨fun i => (hW.cell (p := ⟨w.heap.size + 1, i, none⟩) hl2').trans (hq1 i), fun i => (hW.frozen (p := ⟨w.heap.size + 1, i, none⟩) hl2').trans (hqf1 i), fun i => (hW.cell (p := ⟨w.heap.size + 1 + 1, i, none⟩) hl1).trans (hp1 i), fun i => (hW.frozen (p := ⟨w.heap.size + 1 + 1, i, none⟩) hl1).trans (hpf1 i)⟩
    clear hq1 hqf1 hp1 hpf1
    go_wp2_with fail
    refine (hcall.out _ hB1).mono ?_
    rintro e w2 ⟨rfl, hb2⟩
    obtain ⟨hq2, hqf2, hp2, hpf2⟩ := HQ.out w2 hb2
    have hl1' : w.heap.size + 1 + 1 < w2.heap.size := Nat.lt_of_lt_of_le hl1 hb2.size
    have hl2'' : w.heap.size + 1 < w2.heap.size := by omega
    clear hr1 hrf1
    go_wp2
    refine bodyPost_ret (v := .tuple #[.agg #[.int .i64 0, .int .i64 0], .agg #[.int .i64 0, .int .i64 0], .int .i64 (refSharesE had part prize shares)]) (by simp [results, Try.results30, go_sem, hq2, hp2]) rfl ⟨by rw [hE.out]; rfl, ?_⟩
    exact bl_set (bl_set (bl_set (bl_set (bl_trans hB1 hb2) _ (by omega)) _ (by omega)) _ (by omega)) _ (by omega)

end Go.Proofs.Ytfchcikdcnloaaa
