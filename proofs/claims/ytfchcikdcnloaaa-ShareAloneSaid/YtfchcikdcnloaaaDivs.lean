/- share's Divisors. -/
import Derived.Test.YtfchcikdcnloaaaShared
import Derived.Test.YtfchcikdcnloaaaTail
namespace Go.Proofs.Ytfchcikdcnloaaa
open Go.RowKit Go.Proofs
attribute [local go_sem] cell_grow frozen_grow

theorem ratio_any (q : Int × Int) (w : World) :
    Calls Try.prog 62 #[encQ q] w fun e w' => e = .returned (encQ q) ∧ Below w.heap.size w w' := by
  unfold encQ
  go_enter Try.func62, Try.ntmps62
  go_wp2
  refine bodyPost_ret (v := encQ q) (by simp [results, Try.results62, go_sem, encQ]) rfl ⟨rfl, ?_⟩
  exact bl_alloc (bl_alloc (bl_refl _) _) _

def divisorsE (had : List Int) (part prize : Int) (shares : List Int) : Int :=
  if checkSharesE had part prize shares ≠ 0 then checkSharesE had part prize shares else if prize = 0 then 5 else 0
def divLo (had : List Int) (part prize : Int) (shares : List Int) : Int × Int := if divisorsE had part prize shares = 0 then greatQ had part (padTo shares) else (0, 0)
def divHi (had : List Int) (part prize : Int) (shares : List Int) : Int × Int := if divisorsE had part prize shares = 0 then leastQ had part (padTo shares) else (0, 0)

set_option maxHeartbeats 2000000 in
theorem divisors_good (had : List Int) (part prize : Int) (shares : List Int) (s s2 : Value) (w : World) (hl : had.length ≤ 1000) (hl2 : shares.length ≤ 1000) (hs : Ints w s had) (hs2 : Ints w s2 shares) (h0 : sharedE had part prize shares = 0) (hf : fairB had part (padTo shares) = true) (hp0 : prize ≠ 0) :
    Calls Try.prog 29 #[.agg #[s, .int .i64 part, .int .i64 prize], s2] w fun e w' => e = .returned (.tuple #[encQ (greatQ had part (padTo shares)), encQ (leastQ had part (padTo shares)), .int .i64 0]) ∧ Below w.heap.size w w' := by
  obtain ⟨A, c, rfl⟩ := hs.slice
  have O := sharedE_ok.mp h0
  have H0 := hid h0
  have HF := hid hf
  have hpb : (prize == 0) = false := by simpa using hp0
  clear h0 hf hp0
  go_enter Try.func29, Try.ntmps29
  go_wp2_with fail
  refine (shared_any had part prize shares _ _ _ hl hl2 (hs.mono (bl_alloc (bl_alloc (bl_alloc (bl_refl _) _) _) _)) (hs2.mono (bl_alloc (bl_alloc (bl_alloc (bl_refl _) _) _) _))).mono ?_
  rintro e w1 hp
  obtain ⟨g, b, off, c', rfl, hg, T, hb1⟩ := hp.inv_good H0.out
  clear hp
  obtain ⟨hn0, hnf0⟩ := new_cells (bl_trans (bl_alloc (bl_alloc (bl_refl _) _) _) hb1)
  go_wp2_with fail
  refine (fair_any T O.V O.got).mono ?_
  rintro e w2 ⟨rfl, hb2⟩
  rw [HF.out]
  obtain ⟨hn2, hnf2⟩ := new_cells (bl_trans (bl_trans (bl_alloc (bl_alloc (bl_refl _) _) _) hb1) hb2)
  clear hn0 hnf0
  go_wp2_with fail
  refine (greatest_any (T.mono hb2) O.V O.got).mono ?_
  rintro e w3 ⟨rfl, hb3⟩
  go_wp2_with fail
  refine (least_any (T.mono (bl_trans hb2 hb3)) O.V O.got).mono ?_
  rintro e w4 ⟨rfl, hb4⟩
  have Hr := Lib.hid ratio_any
  obtain ⟨hn4, hnf4⟩ := new_cells (bl_trans (bl_trans (bl_trans (bl_trans (bl_alloc (bl_alloc (bl_refl _) _) _) hb1) hb2) hb3) hb4)
  obtain ⟨hm4, hmf4⟩ := new_cells (w := w.alloc _) (bl_trans (bl_trans (bl_trans (bl_trans (bl_alloc (bl_refl _) _) hb1) hb2) hb3) hb4)
  obtain ⟨hk4, hkf4⟩ := new_cells (w := (w.alloc _).alloc _) (bl_trans (bl_trans (bl_trans hb1 hb2) hb3) hb4)
  simp only [World.size_alloc] at hm4 hk4 hmf4 hkf4
  have hB4 := (bl_trans (bl_trans (bl_trans (bl_trans (bl_alloc (bl_alloc (bl_alloc (bl_refl w) _) _) _) hb1) hb2) hb3) hb4)
  have hB2 := (bl_trans (bl_trans (bl_trans (bl_trans (bl_alloc (bl_refl (World.alloc (World.alloc w _) _)) _) hb1) hb2) hb3) hb4)
  have hB3 := bl_trans (bl_trans (bl_trans hb1 hb2) hb3) hb4
  have hz1 := (bl_trans (bl_trans (bl_trans hb1 hb2) hb3) hb4).size
  simp only [World.size_alloc] at hz1
  have hz2 : w.heap.size < w4.heap.size := by omega
  have hz3 : w.heap.size + 1 < w4.heap.size := by omega
  have hz4 : w.heap.size + 1 + 1 < w4.heap.size := by omega
  have hz5 : w.heap.size + 1 < w4.heap.size + 1 + 1 := by omega
  have hz6 : w.heap.size + 1 + 1 < w4.heap.size + 1 + 1 := by omega
  clear hn2 hnf2 hb1 hb2 hb3 hb4 T hz1
  unfold encQ
  go_wp2_with fail
  refine wp_region_below_tail 4 (by kernel_rfl) (by kernel_rfl) ?_
  simp only [List.take_succ_cons, List.take_zero, List.drop_succ_cons, List.drop_zero]
  repeat (first | go_big_quiet_step (exact Calls.regrown_of (Hr.out _ _)) | quiet_step (exact Calls.regrown_of (Hr.out _ _)))
  refine wpQuiet_nil ?_
  intro w5 hb5
  obtain ⟨hm5, hmf5⟩ := new_cells (w := w.alloc _) (bl_trans (bl_trans hB2 (bl_alloc (bl_alloc (bl_refl _) _) _)) hb5)
  obtain ⟨hk5, hkf5⟩ := new_cells (w := (w.alloc _).alloc _) (bl_trans (bl_trans hB3 (bl_alloc (bl_alloc (bl_refl _) _) _)) hb5)
  simp only [World.size_alloc] at hm5 hk5 hmf5 hkf5
  clear hn4 hnf4 hm4 hmf4 hk4 hkf4 
  unfold encQ
  go_wp2
  refine bodyPost_ret (v := .tuple #[encQ (greatQ had part (padTo shares)), encQ (leastQ had part (padTo shares)), .int .i64 0]) (by simp [results, Try.results29, go_sem, hm5, hk5, encQ]) rfl ⟨rfl, ?_⟩
  exact bl_set (bl_set (bl_set (bl_set (bl_trans (bl_alloc (bl_alloc hB4 _) _) hb5) _ (by omega)) _ (by omega)) _ (by omega)) _ (by omega)

set_option maxHeartbeats 2000000 in
theorem divisors_any (had : List Int) (part prize : Int) (shares : List Int) (s s2 : Value) (w : World) (hl : had.length ≤ 1000) (hl2 : shares.length ≤ 1000) (hs : Ints w s had) (hs2 : Ints w s2 shares) :
    Calls Try.prog 29 #[.agg #[s, .int .i64 part, .int .i64 prize], s2] w fun e w' => e = .returned (.tuple #[encQ (divLo had part prize shares), encQ (divHi had part prize shares), .int .i64 (divisorsE had part prize shares)]) ∧ Below w.heap.size w w' := by
  by_cases h0 : sharedE had part prize shares = 0
  case neg =>
    obtain ⟨A, c, rfl⟩ := hs.slice
    have hfin := hid (show divisorsE had part prize shares = sharedE had part prize shares by simp [divisorsE, checkSharesE, h0])
    have hlo := hid (show divLo had part prize shares = (0, 0) by simp [divLo, hfin.out, h0])
    have hhi := hid (show divHi had part prize shares = (0, 0) by simp [divHi, hfin.out, h0])
    have hcp : (sharedE had part prize shares != 0) = true := by simpa using h0
    have H0 := hid h0
    clear h0
    go_enter Try.func29, Try.ntmps29
    go_wp2_with fail
    refine (shared_any had part prize shares _ _ _ hl hl2 (hs.mono (bl_alloc (bl_alloc (bl_alloc (bl_refl _) _) _) _)) (hs2.mono (bl_alloc (bl_alloc (bl_alloc (bl_refl _) _) _) _))).mono ?_
    rintro e w1 hp
    obtain ⟨rfl, hb1⟩ := hp.inv_bad H0.out
    clear hp
    obtain ⟨hm5, hmf5⟩ := new_cells (w := w.alloc _) (bl_trans (bl_alloc (bl_refl (World.alloc (World.alloc w _) _)) _) hb1)
    obtain ⟨hk5, hkf5⟩ := new_cells (w := (w.alloc _).alloc _) hb1
    simp only [World.size_alloc] at hm5 hk5 hmf5 hkf5
    go_wp2
    refine bodyPost_ret (v := .tuple #[encQ (0, 0), encQ (0, 0), .int .i64 (sharedE had part prize shares)]) (by simp [results, Try.results29, go_sem, hm5, hk5, encQ]) rfl ⟨by rw [hlo.out, hhi.out, hfin.out], ?_⟩
    exact bl_set (bl_set (bl_set (bl_set (bl_trans (bl_alloc (bl_alloc (bl_alloc (bl_refl _) _) _) _) hb1) _ (by omega)) _ (by omega)) _ (by omega)) _ (by omega)
  have O := sharedE_ok.mp h0
  cases hf : fairB had part (padTo shares)
  case false =>
    obtain ⟨A, c, rfl⟩ := hs.slice
    have hfin := hid (show divisorsE had part prize shares = 22 by simp [divisorsE, checkSharesE, h0, hf])
    have hlo := hid (show divLo had part prize shares = (0, 0) by simp [divLo, hfin.out])
    have hhi := hid (show divHi had part prize shares = (0, 0) by simp [divHi, hfin.out])
    have H0 := hid h0
    have HF := hid hf
    clear h0 hf
    go_enter Try.func29, Try.ntmps29
    go_wp2_with fail
    refine (shared_any had part prize shares _ _ _ hl hl2 (hs.mono (bl_alloc (bl_alloc (bl_alloc (bl_refl _) _) _) _)) (hs2.mono (bl_alloc (bl_alloc (bl_alloc (bl_refl _) _) _) _))).mono ?_
    rintro e w1 hp
    obtain ⟨g, b, off, c', rfl, hg, T, hb1⟩ := hp.inv_good H0.out
    clear hp
    go_wp2_with fail
    refine (fair_any T O.V O.got).mono ?_
    rintro e w2 ⟨rfl, hb2⟩
    rw [HF.out]
    obtain ⟨hm5, hmf5⟩ := new_cells (w := w.alloc _) (bl_trans (bl_alloc (bl_refl (World.alloc (World.alloc w _) _)) _) (bl_trans hb1 hb2))
    obtain ⟨hk5, hkf5⟩ := new_cells (w := (w.alloc _).alloc _) (bl_trans hb1 hb2)
    simp only [World.size_alloc] at hm5 hk5 hmf5 hkf5
    go_wp2
    refine bodyPost_ret (v := .tuple #[encQ (0, 0), encQ (0, 0), .int .i64 22]) (by simp [results, Try.results29, go_sem, hm5, hk5, encQ]) rfl ⟨by rw [hlo.out, hhi.out, hfin.out], ?_⟩
    exact bl_set (bl_set (bl_set (bl_set (bl_trans (bl_trans (bl_alloc (bl_alloc (bl_alloc (bl_refl _) _) _) _) hb1) hb2) _ (by omega)) _ (by omega)) _ (by omega)) _ (by omega)
  by_cases hp0 : prize = 0
  case pos =>
    obtain ⟨A, c, rfl⟩ := hs.slice
    subst hp0
    have hfin := hid (show divisorsE had part 0 shares = 5 by simp [divisorsE, checkSharesE, h0, hf])
    have hlo := hid (show divLo had part 0 shares = (0, 0) by simp [divLo, hfin.out])
    have hhi := hid (show divHi had part 0 shares = (0, 0) by simp [divHi, hfin.out])
    have H0 := hid h0
    have HF := hid hf
    clear h0 hf
    go_enter Try.func29, Try.ntmps29
    go_wp2_with fail
    refine (shared_any had part 0 shares _ _ _ hl hl2 (hs.mono (bl_alloc (bl_alloc (bl_alloc (bl_refl _) _) _) _)) (hs2.mono (bl_alloc (bl_alloc (bl_alloc (bl_refl _) _) _) _))).mono ?_
    rintro e w1 hp
    obtain ⟨g, b, off, c', rfl, hg, T, hb1⟩ := hp.inv_good H0.out
    clear hp
    go_wp2_with fail
    refine (fair_any T O.V O.got).mono ?_
    rintro e w2 ⟨rfl, hb2⟩
    rw [HF.out]
    obtain ⟨hn2, hnf2⟩ := new_cells (bl_trans (bl_trans (bl_alloc (bl_alloc (bl_refl _) _) _) hb1) hb2)
    obtain ⟨hm5, hmf5⟩ := new_cells (w := w.alloc _) (bl_trans (bl_alloc (bl_refl (World.alloc (World.alloc w _) _)) _) (bl_trans hb1 hb2))
    obtain ⟨hk5, hkf5⟩ := new_cells (w := (w.alloc _).alloc _) (bl_trans hb1 hb2)
    simp only [World.size_alloc] at hm5 hk5 hmf5 hkf5
    go_wp2
    refine bodyPost_ret (v := .tuple #[encQ (0, 0), encQ (0, 0), .int .i64 5]) (by simp [results, Try.results29, go_sem, hm5, hk5, encQ]) rfl ⟨by rw [hlo.out, hhi.out, hfin.out], ?_⟩
    exact bl_set (bl_set (bl_set (bl_set (bl_trans (bl_trans (bl_alloc (bl_alloc (bl_alloc (bl_refl _) _) _) _) hb1) hb2) _ (by omega)) _ (by omega)) _ (by omega)) _ (by omega)
  have hfin : divisorsE had part prize shares = 0 := by simp [divisorsE, checkSharesE, h0, hf, hp0]
  have hlo : divLo had part prize shares = greatQ had part (padTo shares) := by simp [divLo, hfin]
  have hhi : divHi had part prize shares = leastQ had part (padTo shares) := by simp [divHi, hfin]
  rw [hfin, hlo, hhi]
  exact divisors_good had part prize shares s s2 w hl hl2 hs hs2 h0 hf hp0

end Go.Proofs.Ytfchcikdcnloaaa
