/- Most and By: the walks. -/
import Derived.Test.YtbnmjbmlejifcaaAsk
set_option linter.all false
namespace Go.Proofs.Ytbnmjbmlejifcaa
open Go Go.RowKit Go.Proofs
attribute [local go_sem] cell_grow frozen_grow

/-- A river without an error may be. -/
theorem fit_of {days : Int} {l : List Rch} (h : riverE days l = 0) : Fit days l := by
  unfold riverE at h
  by_cases c1 : days < 1 ∨ 40 < days
  · rw [if_pos c1] at h; cases h
  rw [if_neg c1] at h
  by_cases c2 : l.length < 1 ∨ 8 < l.length
  · rw [if_pos c2] at h; cases h
  rw [if_neg c2] at h
  by_cases c3 : downs l l.length = false
  · rw [if_pos c3] at h; cases h
  rw [if_neg c3] at h
  by_cases c4 : ranges days l l.length = false
  · rw [if_pos c4] at h; cases h
  have c3' : downs l l.length = true := by simpa using c3
  have c4' : ranges days l l.length = true := by simpa using c4
  unfold downs at c3'
  unfold ranges at c4'
  have hr : ∀ (i : Nat) (x : Rch), l[i]? = some x → (0 ≤ x.pass ∧ x.pass ≤ 1000 ∧ 0 ≤ x.takes ∧ x.takes ≤ 10 ∧ 1 ≤ x.every ∧ x.every ≤ 10) ∧ (1 ≤ x.lo ∧ x.hi ≤ days ∧ x.lo ≤ x.hi) ∧ (0 ≤ x.logs ∧ x.logs ≤ 10000 ∧ 1 ≤ x.ready ∧ x.ready ≤ days) := fun i x hx => by
    have h1 := all_range_get c4' (List.getElem?_eq_some_iff.1 hx).1
    have h2 : l.getD i zeroR = x := by simp [List.getD, hx]
    rw [h2] at h1
    simp only [rangedB, Bool.and_eq_true, decide_eq_true_eq] at h1
    exact ⟨h1.1.1, h1.1.2, h1.2⟩
  exact ⟨by omega, by omega, by omega, by omega, fun i x hx => by
    have h1 := all_range_get c3' (List.getElem?_eq_some_iff.1 hx).1
    have h2 : l.getD i zeroR = x := by simp [List.getD, hx]
    rw [h2] at h1
    simpa [downOk] using h1, fun i x hx => by have := hr i x hx; omega, fun i x hx => by have := hr i x hx; omega, fun i x hx => by have := hr i x hx; omega, fun i x hx => by have := hr i x hx; omega, fun i x hx => by have := hr i x hx; omega, fun i x hx => by have := hr i x hx; omega⟩
theorem asked_zero {days : Int} {l : List Rch} {day : Int} (h : askedE days l day = 0) : riverE days l = 0 ∧ 1 ≤ day ∧ day ≤ days := by
  unfold askedE at h
  by_cases h0 : riverE days l = 0
  · have hn : ¬ (riverE days l ≠ 0) := by simpa using h0
    rw [if_neg hn] at h
    refine ⟨h0, ?_⟩
    by_cases h1 : day < 1 ∨ days < day
    · rw [if_pos h1] at h; cases h
    · omega
  · rw [if_pos h0] at h; exact absurd h h0
/-- How many can come by a day. -/
def mostE (days : Int) (l : List Rch) (day : Int) : Int := brought (rivP l) l.length (planP (planE days l)) day
/-- What is at the boom. -/
theorem EarlyYear.boom {D : Nat} {l : List Rch} {sr : Value} {W : World} {Y : Nat} (h : EarlyYear D l sr W Y) :
    ∃ gB cap, W.cell? ⟨Y, 4, none⟩ = some (.slice (some ⟨gB, 0, none⟩) (D + 1) cap) ∧ D + 1 ≤ cap ∧ gB < W.heap.size ∧ Y < W.heap.size ∧ ∀ t, t ≤ D → W.cell? ⟨gB, t, none⟩ = some (.int .i64 (mostE D l (t : Int))) := by
  obtain ⟨wb, vp, vc, vb, Bs, h⟩ := h
  have hl : (boomRow l (planP (planE D l)) (D + 1)).length = D + 1 := by simp [boomRow]
  have h4 := h.c4
  rcases h.boom.2 with ⟨_, h2⟩ | ⟨g, cap, cur, h1, _, hg, hcap, _⟩
  · rw [hl] at h2; omega
  · refine ⟨g, cap, by rw [h4, h1, hl], by omega, (Array.getElem?_eq_some_iff.1 hg).1, h.lt, fun t ht => ?_⟩
    have h3 := h.boom.cells (g := g) (by rw [h1]; rfl) t (.int .i64 (mostE D l (t : Int))) (by simp [ints, boomRow, mostE, show t < D + 1 by omega])
    rw [Addr.add_lit, Nat.zero_add] at h3
    exact h3

set_option maxHeartbeats 4000000 in
theorem most_any (days : Int) (l : List Rch) (sr : Value) (day : Int) (w : World) (hl : l.length ≤ 1000) (hs : Rchs w sr l) :
    Calls Try.prog 31 #[.agg #[.int .i64 days, sr], .int .i64 day] w fun e w' => e = .returned (.tuple #[.int .i64 (if askedE days l day = 0 then mostE days l day else 0), .int .i64 (askedE days l day)]) ∧ Below w.heap.size w w' := by
  obtain ⟨A, c, rfl⟩ := hs.slice
  have HX := hid (World.alloc_heap_new w (.cells #[.int .i64 days, .slice A l.length c] 24))
  have HB := hid (bl_alloc (bl_refl w) (.cells #[.int .i64 days, .slice A l.length c] 24))
  have HS := hid hs
  clear hs
  go_enter Try.func31, Try.ntmps31
  go_upto_region 1 with (fail)
  obtain ⟨R, hR⟩ : ∃ R, w.heap.size = R := ⟨_, rfl⟩
  obtain ⟨w0, hw0⟩ : ∃ w0, w.alloc (.cells #[.int .i64 days, .slice A l.length c] 24) = w0 := ⟨_, rfl⟩
  rw [hR] at HX ⊢
  rw [hw0] at HX HB ⊢
  clear hw0 hR
  have r0 : w0.cell? ⟨R, 0, none⟩ = some (.int .i64 days) := cell_of_heap HX.out
  have r1 : w0.cell? ⟨R, 1, none⟩ = some (.slice A l.length c) := cell_of_heap HX.out
  have l0 := (Array.getElem?_eq_some_iff.1 HX.out).1
  have ba := bl_alloc (bl_refl w0) (.cells #[.int .i64 day] 2)
  have hcall := check_any days l _ [day] _ _ hl (HS.out.mono (bl_trans HB.out ba)) (by simp) (Ints.one (W := w0) day 2 rfl)
  rw [check_one] at hcall
  have BA := hid ba
  clear ba
  go_wp2_with fail
  refine hcall.mono ?_
  rintro e w1 ⟨rfl, hb1⟩
  have hb01 := bl_trans BA.out hb1
  have HX1 := hid (heap_mono HX.out hb01)
  have HB1 := hid (bl_trans HB.out hb01)
  clear HX HB hb1 hb01 r0 r1 l0 hcall BA
  by_cases h0 : askedE days l day = 0
  · have he : (askedE days l day != 0) = false := by simp [h0]
    obtain ⟨g0, g1, g2⟩ := asked_zero h0
    obtain ⟨D, rfl⟩ : ∃ D : Nat, days = D := ⟨days.toNat, by omega⟩
    obtain ⟨t, rfl⟩ : ∃ t : Nat, day = t := ⟨day.toNat, by omega⟩
    have htI : (t : Int) < ((D + 1 : Nat) : Int) := by omega
    have htD : t ≤ D := by omega
    have hcall := early_any D l _ w1 (HS.out.mono HB1.out) (fit_of g0)
    have H0 := hid h0
    clear h0 g0 g1 g2
    have s0 : w1.cell? ⟨R, 0, none⟩ = some (.int .i64 (D : Int)) := cell_of_heap HX1.out
    have s1 : w1.cell? ⟨R, 1, none⟩ = some (.slice A l.length c) := cell_of_heap HX1.out
    have sl0 := (Array.getElem?_eq_some_iff.1 HX1.out).1
    go_wp2_with fail
    refine hcall.mono ?_
    rintro e w2 ⟨Y, rfl, hy, hb2⟩
    obtain ⟨gB, cap, y4, hcap, gl, yl, hbc⟩ := hy.boom
    have hct := hbc t htD
    have HB2 := hid (bl_trans HB1.out hb2)
    clear HX1 HB1 hb2 s0 s1 sl0 hcall hy hbc
    go_wp2
    go_ret2
    exact ⟨rfl, HB2.out⟩
  · have he : (askedE days l day != 0) = true := by simp [h0]
    have H0 := hid h0
    clear h0
    go_wp2
    go_ret2
    exact ⟨rfl, HB1.out⟩

/-- The first number that is no less than another one. -/
def FirstIs (logs : Int) (l : List Int) (r : Int) : Prop := (r = -1 ∧ ∀ (i : Nat) (x : Int), l[i]? = some x → x < logs) ∨ ∃ (k : Nat) (y : Int), r = k ∧ l[k]? = some y ∧ logs ≤ y ∧ ∀ (i : Nat) (x : Int), i < k → l[i]? = some x → x < logs
theorem first1_any (n logs : Int) (B : Nat) (w : World) (hB : w.cell? ⟨B, 0, none⟩ = some (.int .i64 logs)) : Calls Try.prog 72 #[.int .i64 n, .pointer (some ⟨B, 0, none⟩)] w fun e w' => e = .returned (.bool (decide (logs ≤ n))) ∧ w' = w := by
  go_enter Try.func72, Try.ntmps72
  go_wp2
  go_ret
  exact ⟨rfl, rfl⟩
theorem first_any (l : List Int) (s : Value) (logs : Int) (B : Nat) (w : World) (hl : l.length ≤ 1000) (hs : Ints w s l) (hB : w.cell? ⟨B, 0, none⟩ = some (.int .i64 logs)) :
    Calls Try.prog 71 #[s, .func (.func 72) #[] #[.pointer (some ⟨B, 0, none⟩)]] w fun e w' => (∃ r, e = .returned (.int .i64 r) ∧ FirstIs logs l r) ∧ w' = w := by
  rcases hs with ⟨rfl, rfl⟩ | ⟨b, off, c, rfl, hc, hb, hcell⟩
  · go_enter Try.func71, Try.ntmps71
    go_wp2
    go_loop [5, 6, 9] (fun _ _ i => i = .int .i64 0) (fun _ _ _ => 0)
    case atStart => exact rfl
    case round =>
      obtain rfl := hrel
      go_wp2
      go_ret
      exact ⟨⟨_, rfl, .inl ⟨rfl, fun i x h => by simp at h⟩⟩, rfl⟩
  · have HC := Lib.hid hcell
    clear hcell
    go_enter Try.func71, Try.ntmps71
    go_wp2
    go_loop [5, 6, 9] (fun _ _ i => ∃ k : Nat, k ≤ l.length ∧ i = .int .i64 k ∧ ∀ (i : Nat) (x : Int), i < k → l[i]? = some x → x < logs) (fun _ _ i => l.length - (intOf i).toNat)
    case atStart => exact ⟨0, Nat.zero_le _, rfl, fun i _ h => by omega⟩
    case round =>
      obtain ⟨k, hk, rfl, hn⟩ := hrel
      have HN := Lib.hid hn
      clear hn
      by_cases hlt : k < l.length
      · obtain ⟨x, hx⟩ := get_at hlt
        have hck := HC.out k x hx
        have Hx := hid hx
        have hcall := first1_any x logs B w hB
        clear hx
        by_cases hge : logs ≤ x
        · have d1 : decide (logs ≤ x) = true := by simpa using hge
          rw [d1] at hcall
          have HG := hid hge
          clear hge d1
          go_wp2_with (go_at_call 72; refine hcall.mono ?_; rintro e w' ⟨rfl, rfl⟩)
          go_ret
          exact ⟨⟨_, rfl, .inr ⟨k, x, rfl, Hx.out, HG.out, HN.out⟩⟩, rfl⟩
        · have d1 : decide (logs ≤ x) = false := by simpa using hge
          rw [d1] at hcall
          have HG := hid hge
          clear hge d1
          go_wp2_with (go_at_call 72; refine hcall.mono ?_; rintro e w' ⟨rfl, rfl⟩)
          go_round
          case rel => exact ⟨k + 1, by omega, by go_num, fun i y hi hy => by
            by_cases e : i = k
            · subst e; have h := Hx.out; rw [hy] at h; injection h with h; subst h; have := HG.out; omega
            · exact HN.out i y (by omega) hy⟩
          case measure => simp [intOf]; omega
      · obtain rfl : k = l.length := by omega
        go_wp2
        go_ret
        exact ⟨⟨_, rfl, .inl ⟨rfl, fun i x h => HN.out i x (List.getElem?_eq_some_iff.1 h).1 h⟩⟩, rfl⟩

end Go.Proofs.Ytbnmjbmlejifcaa
