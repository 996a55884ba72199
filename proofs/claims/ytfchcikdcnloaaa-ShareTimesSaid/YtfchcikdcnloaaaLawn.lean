/- ShareFair: the walk through the law. -/
import Derived.Test.YtfchcikdcnloaaaLawi
import Derived.Test.YtfchcikdcnloaaaLawc
import Derived.Test.YtfchcikdcnloaaaPlain3
import Derived.Deep.Cut
namespace Go.Proofs.Ytfchcikdcnloaaa
open Go Go.RowKit Go.Proofs
attribute [local go_sem] cell_grow frozen_grow

theorem small_any (a b : Int) (w : World) (h : Tiny (a, b)) : Calls Try.prog 41 #[.agg #[.int .i64 a, .int .i64 b]] w fun e w' => e = .returned (.bool true) ∧ Below w.heap.size w w' := by
  obtain ⟨h1, h2, h3, h4⟩ := h
  simp only at h1 h2 h3 h4
  have d1 : decide (1 ≤ a) = true := by simpa using h1
  have d2 : decide (a ≤ 100000000) = true := by simpa using h2
  have d3 : decide (1 ≤ b) = true := by simpa using h3
  have d4 : decide (b ≤ 100100) = true := by simpa using h4
  go_enter Try.func41, Try.ntmps41
  go_wp2
  go_ret
  exact ⟨rfl, bl_alloc (bl_refl _) _⟩

theorem mul_wrap {x y a b : Int} (hx : 0 ≤ x) (hx2 : x ≤ a) (hy : 0 ≤ y) (hy2 : y ≤ b) (hab : a * b ≤ 9000000000000000000) : IntKind.i64.wrap (x * y) = x * y ∧ 0 ≤ x * y ∧ x * y ≤ a * b := by
  have h1 := Int.mul_le_mul hx2 hy2 hy (by omega)
  have h2 := Int.mul_nonneg hx hy
  exact ⟨IntWalk.i64_in _ (by omega), h2, h1⟩

set_option maxHeartbeats 4000000 in
theorem between_any (lo hi : Int × Int) (by8 : Int) (w : World) (hlo : Tiny lo) (hhi : Tiny hi) (hby : 0 ≤ by8 ∧ by8 < 256) :
    Calls Try.prog 44 #[.agg #[.int .i64 lo.1, .int .i64 lo.2], .agg #[.int .i64 hi.1, .int .i64 hi.2], .int .u8 by8] w fun e w' => e = .returned (.agg #[.int .i64 (betweenQ lo hi (by8 % 8)).1, .int .i64 (betweenQ lo hi (by8 % 8)).2]) ∧ Below w.heap.size w w' := by
  have hpos := between_pos (n := by8 % 8) hlo hhi (by omega) (by omega)
  obtain ⟨a1, a2, a3, a4⟩ := hlo
  obtain ⟨b1, b2, b3, b4⟩ := hhi
  have hn : 0 ≤ by8 % 8 ∧ by8 % 8 < 8 := by omega
  obtain ⟨n, hN⟩ : ∃ n, by8 % 8 = n := ⟨_, rfl⟩
  have e0 : IntKind.i64.wrap (8 - by8 % 8) = 8 - by8 % 8 := IntWalk.i64_in _ (by omega)
  have e1 := mul_wrap (x := 8 - by8 % 8) (y := lo.1) (a := 8) (b := 100000000) (by omega) (by omega) (by omega) a2 (by decide)
  have e2 := mul_wrap (x := (8 - by8 % 8) * lo.1) (y := hi.2) (a := 8 * 100000000) (b := 100100) e1.2.1 e1.2.2 (by omega) b4 (by decide)
  have e3 := mul_wrap (x := by8 % 8) (y := hi.1) (a := 8) (b := 100000000) (by omega) (by omega) (by omega) b2 (by decide)
  have e4 := mul_wrap (x := by8 % 8 * hi.1) (y := lo.2) (a := 8 * 100000000) (b := 100100) e3.2.1 e3.2.2 (by omega) a4 (by decide)
  have e5 := mul_wrap (x := 8) (y := lo.2) (a := 8) (b := 100100) (by omega) (by omega) (by omega) a4 (by decide)
  have e6 := mul_wrap (x := 8 * lo.2) (y := hi.2) (a := 8 * 100100) (b := 100100) e5.2.1 e5.2.2 (by omega) b4 (by decide)
  have e7 : IntKind.i64.wrap ((8 - by8 % 8) * lo.1 * hi.2 + by8 % 8 * hi.1 * lo.2) = (8 - by8 % 8) * lo.1 * hi.2 + by8 % 8 * hi.1 * lo.2 := IntWalk.i64_in _ (by omega)
  have w1 := e1.1
  have w2 := e2.1
  have w3 := e3.1
  have w4 := e4.1
  have w5 := e5.1
  have w6 := e6.1
  have hfr : Hid (∀ W : World, Calls Try.prog 46 #[.int .i64 ((8 - by8 % 8) * lo.1 * hi.2 + by8 % 8 * hi.1 * lo.2), .int .i64 (8 * lo.2 * hi.2)] W fun e w' => e = .returned (encQ (betweenQ lo hi (by8 % 8))) ∧ Below W.heap.size W w') := fun W => refFraction_any _ _ W (by omega) (by omega) (by omega) (by omega)
  clear e1 e2 e3 e4 e5 e6 hpos hN
  go_enter Try.func44, Try.ntmps44
  go_wp2_with fail
  refine (hfr.out _).mono ?_
  rintro e w1' ⟨rfl, hb1⟩
  have k6 := heap_new (w := (w.alloc (.cells #[.int .i64 lo.1, .int .i64 lo.2] 39)).alloc (.cells #[.int .i64 hi.1, .int .i64 hi.2] 39)) hb1
  simp only [World.size_alloc] at k6
  have c6 := fun i => cell_of_heap (i := i) k6
  have f6 : ∀ i, w1'.frozen? ⟨w.heap.size + 1 + 1, i, none⟩ = false := fun i => frozen_of_heap k6
  have l6 := (Array.getElem?_eq_some_iff.1 k6).1
  have hB := bl_trans (bl_alloc (bl_alloc (bl_alloc (bl_refl w) _) _) _) hb1
  unfold encQ
  clear k6 hb1 w1 w2 w3 w4 w5 w6 e7 e0 hfr
  go_wp2
  refine bodyPost_ret (v := .agg #[.int .i64 (betweenQ lo hi (by8 % 8)).1, .int .i64 (betweenQ lo hi (by8 % 8)).2]) (by simp [results, Try.results44, go_sem, c6]) rfl ⟨rfl, ?_⟩
  exact bl_set (bl_set hB _ (by omega)) _ (by omega)

theorem less_any2 (a b c d : Int) (w : World) (h1 : 0 ≤ a ∧ a ≤ 1073741824) (h2 : 0 ≤ b ∧ b ≤ 1073741824) (h3 : 0 ≤ c ∧ c ≤ 1073741824) (h4 : 0 ≤ d ∧ d ≤ 1073741824) :
    Calls Try.prog 42 #[.agg #[.int .i64 a, .int .i64 b], .agg #[.int .i64 c, .int .i64 d]] w fun e w' => e = .returned (.bool (decide (a * d < c * b))) ∧ Below w.heap.size w w' :=
  refLess_any (a, b) (c, d) w (mul_wrap h1.1 h1.2 h4.1 h4.2 (by decide)).1 (mul_wrap h3.1 h3.2 h2.1 h2.2 (by decide)).1

set_option maxRecDepth 100000 in
set_option maxHeartbeats 16000000 in
theorem shareFair_out (had : List Int) (part prize : Int) (xs : List Int) (num den by8 : Int) (s s2 : Value) (w : World) (hs : Ints w s had) (hs2 : Ints w s2 xs) (_hby : 0 ≤ by8 ∧ by8 < 256) (hout : ¬ checkPool had part prize = 0 ∨ 20 < xs.length) :
    Calls Try.prog 7 #[.agg #[s, .int .i64 part, .int .i64 prize], s2, .agg #[.int .i64 num, .int .i64 den], .int .u8 by8] w fun e w' => e = .returned (.bool true) ∧ Below w.heap.size w w' := by
  obtain ⟨A, c, rfl⟩ := hs.slice
  obtain ⟨A2, c2, rfl⟩ := hs2.slice
  have hbb := bl_alloc (bl_alloc (bl_refl w) (.cells #[.slice A had.length c, .int .i64 part, .int .i64 prize] 24)) (.cells #[.int .i64 num, .int .i64 den] 39)
  by_cases h0 : checkPool had part prize = 0
  case neg =>
    have HD := hid (decide_eq_false h0)
    clear h0 hout
    go_enter Try.func7, Try.ntmps7
    go_wp2_with fail
    refine (fine_any had part prize _ _ (hs.mono hbb)).mono ?_
    rintro e w1 ⟨rfl, hb1⟩
    rw [HD.out]
    have k1 := heap_new (w := w) (bl_trans (bl_alloc (bl_refl _) _) hb1)
    have k2 := heap_new (w := w.alloc (.cells #[.slice A had.length c, .int .i64 part, .int .i64 prize] 24)) hb1
    simp only [World.size_alloc] at k2
    have hr1 := fun i => cell_of_heap (i := i) k1
    have hB1 := bl_trans hbb hb1
    have hl1 : w.heap.size < w1.heap.size := (Array.getElem?_eq_some_iff.1 k1).1
    clear k1 k2
    go_wp2_with fail
    refine (works_any _).mono ?_
    rintro e wz ⟨rfl, hbz⟩
    go_wp2
    go_ret
    exact ⟨rfl, bl_trans hB1 hbz⟩
  have HD := hid (decide_eq_true h0)
  have d1 : decide ((20 : Int) < (xs.length : Int)) = true := by
    rcases hout with h | h
    · exact absurd h0 h
    · simp; omega
  clear h0 hout
  go_enter Try.func7, Try.ntmps7
  go_wp2_with fail
  refine (fine_any had part prize _ _ (hs.mono hbb)).mono ?_
  rintro e w1 ⟨rfl, hb1⟩
  rw [HD.out]
  have k1 := heap_new (w := w) (bl_trans (bl_alloc (bl_refl _) _) hb1)
  have k2 := heap_new (w := w.alloc (.cells #[.slice A had.length c, .int .i64 part, .int .i64 prize] 24)) hb1
  simp only [World.size_alloc] at k2
  have hr1 := fun i => cell_of_heap (i := i) k1
  have hB1 := bl_trans hbb hb1
  have hl1 : w.heap.size < w1.heap.size := (Array.getElem?_eq_some_iff.1 k1).1
  clear k1 k2
  go_wp2_with fail
  refine (works_any _).mono ?_
  rintro e wz ⟨rfl, hbz⟩
  go_wp2
  go_ret
  exact ⟨rfl, bl_trans hB1 hbz⟩

set_option maxRecDepth 100000 in
set_option maxHeartbeats 16000000 in
theorem shareFair_none (had : List Int) (part prize : Int) (xs : List Int) (num den by8 : Int) (s s2 : Value) (w : World) (hs : Ints w s had) (hs2 : Ints w s2 xs) (_hby : 0 ≤ by8 ∧ by8 < 256) (h0 : checkPool had part prize = 0) (h1 : xs.length ≤ 20) (hp : prize = 0) :
    Calls Try.prog 7 #[.agg #[s, .int .i64 part, .int .i64 prize], s2, .agg #[.int .i64 num, .int .i64 den], .int .u8 by8] w fun e w' => e = .returned (.bool true) ∧ Below w.heap.size w w' := by
  have V := checkPool_ok.1 h0
  have HD := hid (decide_eq_true h0)
  have hv1 := V.l1
  have hv2 := V.l2
  clear h0
  obtain ⟨b, off, c, rfl, hlc, hb, hcell⟩ := hs.some hv1
  obtain ⟨A2, c2, rfl⟩ := hs2.slice
  have hbb := bl_alloc (bl_alloc (bl_refl w) (.cells #[.slice (some ⟨b, off, none⟩) had.length c, .int .i64 part, .int .i64 prize] 24)) (.cells #[.int .i64 num, .int .i64 den] 39)
  have d1 : decide ((20 : Int) < (xs.length : Int)) = false := by simp; omega
  obtain ⟨hsl, hsb, _⟩ := shares_facts V
  have hown : refSharesE had part prize (sharesE had part prize) = 0 := own_fair V
  have HR1 : Hid (∀ W, Ints W (.slice (some ⟨b, off, none⟩) had.length c) had → Calls Try.prog 40 #[.agg #[.slice (some ⟨b, off, none⟩) had.length c, .int .i64 part, .int .i64 prize]] W fun e w' => (∃ v, e = .returned (.tuple #[v, .bool true]) ∧ Ints w' v (sharesE had part prize)) ∧ Below W.heap.size W w') := fun W hW => right_any had part prize _ W V hW
  have H21 : Hid (∀ W v (l : List Int), l.length ≤ 20 → Ints W (.slice (some ⟨b, off, none⟩) had.length c) had → Ints W v l → Calls Try.prog 21 #[.agg #[.slice (some ⟨b, off, none⟩) had.length c, .int .i64 part, .int .i64 prize], v] W fun e w' => e = .returned (.int .i64 (refSharesE had part prize l)) ∧ Below W.heap.size W w') := fun W v l hl hW hv => by
    have := checkShares_any had part prize l (.slice (some ⟨b, off, none⟩) had.length c) v W (by omega) (by omega) hW hv
    rwa [checkShares_law] at this
  have H29 : Hid (∀ W v (l : List Int), l.length ≤ 20 → Ints W (.slice (some ⟨b, off, none⟩) had.length c) had → Ints W v l → Calls Try.prog 29 #[.agg #[.slice (some ⟨b, off, none⟩) had.length c, .int .i64 part, .int .i64 prize], v] W fun e w' => e = .returned (.tuple #[encQ (divLo had part prize l), encQ (divHi had part prize l), .int .i64 (divisorsE had part prize l)]) ∧ Below W.heap.size W w') := fun W v l hl hW hv => divisors_any had part prize l _ _ W (by omega) (by omega) hW hv
  have hdv : divisorsE had part prize (sharesE had part prize) = 5 := by
    unfold divisorsE
    rw [checkShares_law, hown, if_neg (by simp), if_pos hp]
  have hpb : (prize == 0) = true := by simpa using hp
  have HDV := hid hdv
  have HOWN := hid hown
  generalize sharesE had part prize = sa at *
  have HSL := hid hsl
  clear V hsl hsb hcell hp hdv hown
  go_enter Try.func7, Try.ntmps7
  go_wp2_with fail
  refine (fine_any had part prize _ _ (hs.mono hbb)).mono ?_
  rintro e w1 ⟨rfl, hb1⟩
  rw [HD.out]
  have k1 := heap_new (w := w) (bl_trans (bl_alloc (bl_refl _) _) hb1)
  have k2 := heap_new (w := w.alloc (.cells #[.slice (some ⟨b, off, none⟩) had.length c, .int .i64 part, .int .i64 prize] 24)) hb1
  simp only [World.size_alloc] at k2
  have hr1 := fun i => cell_of_heap (i := i) k1
  have hB1 := bl_trans hbb hb1
  have hl1 : w.heap.size < w1.heap.size := (Array.getElem?_eq_some_iff.1 k1).1
  have K1 := hid k1
  clear k1 k2
  go_wp2_with fail
  refine (HR1.out w1 (hs.mono hB1)).mono ?_
  rintro e w2 ⟨⟨v2, rfl, hI2⟩, hb2⟩
  obtain ⟨A3, c3, rfl⟩ := hI2.slice
  have hr2 := fun i => cell_of_heap (i := i) (heap_mono K1.out hb2)
  have hl2 : w.heap.size < w2.heap.size := (Array.getElem?_eq_some_iff.1 (heap_mono K1.out hb2)).1
  have hB2 := bl_trans hB1 hb2
  clear hr1
  go_wp2_with fail
  refine (H21.out w2 _ sa (by rw [HSL.out]; omega) (hs.mono hB2) hI2).mono ?_
  rintro e w3 ⟨rfl, hb3⟩
  rw [HOWN.out]
  have hb23 := bl_trans hb2 hb3
  have hr3 := fun i => cell_of_heap (i := i) (heap_mono K1.out hb23)
  have hr32 : w3.cell? ⟨w.heap.size, 2, none⟩ = some (.int .i64 prize) := hr3 2
  have hl3 : w.heap.size < w3.heap.size := (Array.getElem?_eq_some_iff.1 (heap_mono K1.out hb23)).1
  have hB3 := bl_trans hB2 hb3
  have hI3 := hI2.mono hb3
  clear hr2 hI2
  go_wp2_with fail
  refine (H29.out w3 _ sa (by rw [HSL.out]; omega) (hs.mono hB3) hI3).mono ?_
  rintro e w4 ⟨rfl, hb4⟩
  rw [HDV.out]
  unfold encQ
  have hB4 := bl_trans hB3 hb4
  clear hr3 hr32
  go_wp2_with fail
  refine (works_any _).mono ?_
  rintro e wz ⟨rfl, hbz⟩
  go_wp2
  go_ret
  exact ⟨rfl, bl_trans (bl_alloc (bl_alloc hB4 _) _) hbz⟩

set_option maxRecDepth 100000 in
set_option maxHeartbeats 16000000 in
theorem shareFair_some (had : List Int) (part prize : Int) (xs : List Int) (num den by8 : Int) (s s2 : Value) (w : World) (hs : Ints w s had) (hs2 : Ints w s2 xs) (hby : 0 ≤ by8 ∧ by8 < 256) (h0 : checkPool had part prize = 0) (h1 : xs.length ≤ 20) (hp : prize ≠ 0) :
    Calls Try.prog 7 #[.agg #[s, .int .i64 part, .int .i64 prize], s2, .agg #[.int .i64 num, .int .i64 den], .int .u8 by8] w fun e w' => e = .returned (.bool true) ∧ Below w.heap.size w w' := by
  have V := checkPool_ok.1 h0
  have HD := hid (decide_eq_true h0)
  have hv1 := V.l1
  have hv2 := V.l2
  clear h0
  obtain ⟨b, off, c, rfl, hlc, hb, hcell⟩ := hs.some hv1
  obtain ⟨A2, c2, rfl⟩ := hs2.slice
  have hbb := bl_alloc (bl_alloc (bl_refl w) (.cells #[.slice (some ⟨b, off, none⟩) had.length c, .int .i64 part, .int .i64 prize] 24)) (.cells #[.int .i64 num, .int .i64 den] 39)
  have d1 : decide ((20 : Int) < (xs.length : Int)) = false := by simp; omega
  obtain ⟨hsl, hsb, _⟩ := shares_facts V
  have hown : refSharesE had part prize (sharesE had part prize) = 0 := own_fair V
  have HR1 : Hid (∀ W, Ints W (.slice (some ⟨b, off, none⟩) had.length c) had → Calls Try.prog 40 #[.agg #[.slice (some ⟨b, off, none⟩) had.length c, .int .i64 part, .int .i64 prize]] W fun e w' => (∃ v, e = .returned (.tuple #[v, .bool true]) ∧ Ints w' v (sharesE had part prize)) ∧ Below W.heap.size W w') := fun W hW => right_any had part prize _ W V hW
  have H21 : Hid (∀ W v (l : List Int), l.length ≤ 20 → Ints W (.slice (some ⟨b, off, none⟩) had.length c) had → Ints W v l → Calls Try.prog 21 #[.agg #[.slice (some ⟨b, off, none⟩) had.length c, .int .i64 part, .int .i64 prize], v] W fun e w' => e = .returned (.int .i64 (refSharesE had part prize l)) ∧ Below W.heap.size W w') := fun W v l hl hW hv => by
    have := checkShares_any had part prize l (.slice (some ⟨b, off, none⟩) had.length c) v W (by omega) (by omega) hW hv
    rwa [checkShares_law] at this
  have H29 : Hid (∀ W v (l : List Int), l.length ≤ 20 → Ints W (.slice (some ⟨b, off, none⟩) had.length c) had → Ints W v l → Calls Try.prog 29 #[.agg #[.slice (some ⟨b, off, none⟩) had.length c, .int .i64 part, .int .i64 prize], v] W fun e w' => e = .returned (.tuple #[encQ (divLo had part prize l), encQ (divHi had part prize l), .int .i64 (divisorsE had part prize l)]) ∧ Below W.heap.size W w') := fun W v l hl hW hv => divisors_any had part prize l _ _ W (by omega) (by omega) hW hv
  have HPZ : Hid (∀ l, divisorsE had part prize l = refSharesE had part prize l) := fun l => div_same hp
  have hpb : (prize == 0) = false := by simpa using hp
  have H22 : Hid (∀ W v (l : List Int), l.length ≤ 20 → Ints W (.slice (some ⟨b, off, none⟩) had.length c) had → Ints W v l → Calls Try.prog 22 #[.agg #[.slice (some ⟨b, off, none⟩) had.length c, .int .i64 part, .int .i64 prize], v] W fun e w' => e = .returned (.int .i64 (refSharesE had part prize l)) ∧ Below W.heap.size W w') := fun W v l hl hW hv => refCheckShares_any had part prize l _ _ W (by omega) (by omega) hW hv
  have H31 : Hid (∀ W v (l : List Int), l.length ≤ 20 → Ints W (.slice (some ⟨b, off, none⟩) had.length c) had → Ints W v l → ∀ n d : Int, Calls Try.prog 31 #[.agg #[.slice (some ⟨b, off, none⟩) had.length c, .int .i64 part, .int .i64 prize], v, .agg #[.int .i64 n, .int .i64 d]] W fun e w' => e = .returned (.int .i64 (checkDivisorE had part prize l n d)) ∧ Below W.heap.size W w') := fun W v l hl hW hv n d => checkDivisor_any had part prize l n d _ _ W (by omega) (by omega) hW hv
  have HBAD : Hid (∀ l n d, refSharesE had part prize l ≠ 0 → checkDivisorE had part prize l n d ≠ 0) := fun l n d h h2 => h (check_fair h2).1
  have HGOOD : Hid (∀ l, refSharesE had part prize l = 0 → Tiny (divLo had part prize l) ∧ Tiny (divHi had part prize l) ∧ lessB (divHi had part prize l) (divLo had part prize l) = false ∧ (∀ n d : Int, isDivB n d = true → lessB (n, d) (divLo had part prize l) = false → lessB (divHi had part prize l) (n, d) = false → checkDivisorE had part prize l n d = 0) ∧
      (∀ n d : Int, checkDivisorE had part prize l n d = 0 → isDivB n d = true ∧ lessB (n, d) (divLo had part prize l) = false ∧ lessB (divHi had part prize l) (n, d) = false)) := fun l h => by
    obtain ⟨O, F⟩ := refShares_ok'.1 h
    have hd : divisorsE had part prize l = 0 := by rw [div_same hp]; exact h
    rw [divLo, divHi, if_pos hd, if_pos hd]
    refine ⟨great_tiny O, least_tiny O hp, great_le_least O F hp, fun n d h1 h2 h3 => ?_, fun n d h1 => ?_⟩
    · refine check_ok O h1 ((rounds_between O hp ?_).2 ⟨h2, h3⟩)
      simp only [isDivB, Bool.and_eq_true, decide_eq_true_eq] at h1
      omega
    · obtain ⟨_, h2, h3⟩ := check_fair h1
      have hd0 : 0 < d := by
        simp only [isDivB, Bool.and_eq_true, decide_eq_true_eq] at h2
        omega
      exact ⟨h2, (rounds_between O hp hd0).1 h3⟩
  have HOWN := hid hown
  generalize sharesE had part prize = sa at *
  have HSL := hid hsl
  clear V hsl hsb hcell hp hown
  go_enter Try.func7, Try.ntmps7
  go_wp2_with fail
  refine (fine_any had part prize _ _ (hs.mono hbb)).mono ?_
  rintro e w1 ⟨rfl, hb1⟩
  rw [HD.out]
  have k1 := heap_new (w := w) (bl_trans (bl_alloc (bl_refl _) _) hb1)
  have k2 := heap_new (w := w.alloc (.cells #[.slice (some ⟨b, off, none⟩) had.length c, .int .i64 part, .int .i64 prize] 24)) hb1
  simp only [World.size_alloc] at k2
  have hr1 := fun i => cell_of_heap (i := i) k1
  have hB1 := bl_trans hbb hb1
  have hl1 : w.heap.size < w1.heap.size := (Array.getElem?_eq_some_iff.1 k1).1
  have K1 := hid k1
  have KX := hid k2
  clear k1 k2
  go_wp2_with fail
  refine (HR1.out w1 (hs.mono hB1)).mono ?_
  rintro e w2 ⟨⟨v2, rfl, hI2⟩, hb2⟩
  obtain ⟨A3, c3, rfl⟩ := hI2.slice
  have hr2 := fun i => cell_of_heap (i := i) (heap_mono K1.out hb2)
  have hl2 : w.heap.size < w2.heap.size := (Array.getElem?_eq_some_iff.1 (heap_mono K1.out hb2)).1
  have hB2 := bl_trans hB1 hb2
  clear hr1
  go_wp2_with fail
  refine (H21.out w2 _ sa (by rw [HSL.out]; omega) (hs.mono hB2) hI2).mono ?_
  rintro e w3 ⟨rfl, hb3⟩
  rw [HOWN.out]
  have hb23 := bl_trans hb2 hb3
  have K13 := hid (heap_mono K1.out hb23)
  have KX3 := hid (heap_mono KX.out hb23)
  have hr3 := fun i => cell_of_heap (i := i) K13.out
  have hr32 : w3.cell? ⟨w.heap.size, 2, none⟩ = some (.int .i64 prize) := hr3 2
  have hl3 : w.heap.size < w3.heap.size := (Array.getElem?_eq_some_iff.1 K13.out).1
  have hB3 := bl_trans hB2 hb3
  have hI3 := hI2.mono hb3
  clear hr2 hI2 K1 KX
  go_upto_region 10 with (fail)
  obtain ⟨w4, hw4⟩ : ∃ w4, w3.alloc (.cells #[.slice A3 sa.length c3, .slice A2 xs.length c2] 22) = w4 := ⟨_, rfl⟩
  have kL := World.alloc_heap_new w3 (.cells #[.slice A3 sa.length c3, .slice A2 xs.length c2] 22)
  have hb4 : Below w3.heap.size w3 w4 := by rw [← hw4]; exact bl_alloc (bl_refl _) _
  rw [hw4] at kL ⊢
  have hB4 := bl_trans hB3 hb4
  have HP : Hid (∀ W, Below w4.heap.size w4 W → (∀ i, W.cell? ⟨w.heap.size, i, none⟩ = #[Value.slice (some ⟨b, off, none⟩) had.length c, .int .i64 part, .int .i64 prize][i]?) ∧ (∀ i, W.cell? ⟨w.heap.size + 1, i, none⟩ = #[Value.int .i64 num, .int .i64 den][i]?) ∧ (∀ i, W.cell? ⟨w3.heap.size, i, none⟩ = #[Value.slice A3 sa.length c3, .slice A2 xs.length c2][i]?) ∧ w.heap.size < W.heap.size ∧ w.heap.size + 1 < W.heap.size ∧ w3.heap.size < W.heap.size) := fun W hW =>
    have hW3 := bl_trans hb4 hW
    ⟨fun i => cell_of_heap (heap_mono K13.out hW3), fun i => cell_of_heap (heap_mono KX3.out hW3), fun i => cell_of_heap (heap_mono kL hW), (Array.getElem?_eq_some_iff.1 (heap_mono K13.out hW3)).1, (Array.getElem?_eq_some_iff.1 (heap_mono KX3.out hW3)).1, (Array.getElem?_eq_some_iff.1 (heap_mono kL hW)).1⟩
  have HI4 := hid (hI3.mono hb4)
  clear hw4 kL K13 KX3 hr3 hr32 hI3 hb4
  generalize w3.heap.size = L at *
  go_wp2
  go_loopw [15] (fun q wr => ∃ k : Nat, k ≤ 2 ∧ q = .int .i64 k ∧ Below w4.heap.size w4 wr) (fun q _ => 2 - (intOf q).toNat)
  case atStart => exact ⟨0, by omega, rfl, bl_refl _⟩
  case round =>
    obtain ⟨k, hk, rfl, hBr⟩ := hrel
    by_cases hlt : k < 2
    · have hlt2 : (k : Int) < 2 := by omega
      have hBw := bl_trans hB4 hBr
      obtain ⟨l, Ak, nk, ck, hck, hnk, hl20, hIk⟩ : ∃ (l : List Int) (Ak : Option Addr) (nk ck : Nat), #[Value.slice A3 sa.length c3, .slice A2 xs.length c2][k]? = some (.slice Ak nk ck) ∧ l.length = nk ∧ l.length ≤ 20 ∧ Ints wr (.slice Ak nk ck) l := by
        by_cases hk0 : k = 0
        · subst hk0
          exact ⟨sa, A3, _, c3, rfl, rfl, by rw [HSL.out]; omega, HI4.out.mono hBr⟩
        · obtain rfl : k = 1 := by omega
          exact ⟨xs, A2, _, c2, rfl, rfl, h1, hs2.mono hBw⟩
      have HQ : Hid (∀ W, Below wr.heap.size wr W → (∀ i, W.cell? ⟨w.heap.size, i, none⟩ = #[Value.slice (some ⟨b, off, none⟩) had.length c, .int .i64 part, .int .i64 prize][i]?) ∧ W.cell? ⟨L, k, none⟩ = some (.slice Ak nk ck) ∧ w.heap.size < W.heap.size ∧ L < W.heap.size) := fun W hW => by
        obtain ⟨h1, h2, h3, h4, h5, h6⟩ := HP.out W (bl_trans hBr hW)
        exact ⟨h1, by rw [h3, hck], h4, h6⟩
      have HQX : Hid (∀ W, Below wr.heap.size wr W → (∀ i, W.cell? ⟨w.heap.size + 1, i, none⟩ = #[Value.int .i64 num, .int .i64 den][i]?) ∧ w.heap.size + 1 < W.heap.size) := fun W hW => by
        obtain ⟨h1, h2, h3, h4, h5, h6⟩ := HP.out W (bl_trans hBr hW)
        exact ⟨h2, h5⟩
      have G21 : Hid (∀ W, Below wr.heap.size wr W → Calls Try.prog 21 #[.agg #[.slice (some ⟨b, off, none⟩) had.length c, .int .i64 part, .int .i64 prize], .slice Ak nk ck] W fun e w' => e = .returned (.int .i64 (refSharesE had part prize l)) ∧ Below W.heap.size W w') := fun W hW => H21.out W _ l hl20 (hs.mono (bl_trans hBw hW)) (hIk.mono hW)
      have G22 : Hid (∀ W, Below wr.heap.size wr W → Calls Try.prog 22 #[.agg #[.slice (some ⟨b, off, none⟩) had.length c, .int .i64 part, .int .i64 prize], .slice Ak nk ck] W fun e w' => e = .returned (.int .i64 (refSharesE had part prize l)) ∧ Below W.heap.size W w') := fun W hW => H22.out W _ l hl20 (hs.mono (bl_trans hBw hW)) (hIk.mono hW)
      have G29 : Hid (∀ W, Below wr.heap.size wr W → Calls Try.prog 29 #[.agg #[.slice (some ⟨b, off, none⟩) had.length c, .int .i64 part, .int .i64 prize], .slice Ak nk ck] W fun e w' => e = .returned (.tuple #[.agg #[.int .i64 (divLo had part prize l).1, .int .i64 (divLo had part prize l).2], .agg #[.int .i64 (divHi had part prize l).1, .int .i64 (divHi had part prize l).2], .int .i64 (refSharesE had part prize l)]) ∧ Below W.heap.size W w') := fun W hW => by
        have := H29.out W _ l hl20 (hs.mono (bl_trans hBw hW)) (hIk.mono hW)
        rwa [HPZ.out l] at this
      have G31 : Hid (∀ (n d : Int) W, Below wr.heap.size wr W → Calls Try.prog 31 #[.agg #[.slice (some ⟨b, off, none⟩) had.length c, .int .i64 part, .int .i64 prize], .slice Ak nk ck, .agg #[.int .i64 n, .int .i64 d]] W fun e w' => e = .returned (.int .i64 (checkDivisorE had part prize l n d)) ∧ Below W.heap.size W w') := fun n d W hW => H31.out W _ l hl20 (hs.mono (bl_trans hBw hW)) (hIk.mono hW) n d
      have GB : Hid (∀ n d, refSharesE had part prize l ≠ 0 → checkDivisorE had part prize l n d ≠ 0) := fun n d => HBAD.out l n d
      have GG := hid (HGOOD.out l)
      clear hck hnk hl20 hIk
      generalize divLo had part prize l = lo at *
      generalize divHi had part prize l = hi at *
      generalize hcx : checkDivisorE had part prize l num den = g at *
      have HCX := hid hcx
      clear hcx
      obtain ⟨hp0, hk0, hz0, hy0⟩ := HQ.out wr (bl_refl _)
      by_cases he : refSharesE had part prize l = 0
      · obtain ⟨tlo, thi, hle, hok, hback⟩ := GG.out he
        rw [he] at G21 G22 G29
        clear GG GB he
        go_wp2
        refine wp_region_below (by kernel_rfl) (by kernel_rfl) ?_
        repeat (first | go_big_quiet_step (exact Calls.regrown_of (G21.out _ (below_regrown _ _ _))) | quiet_step (exact Calls.regrown_of (G21.out _ (below_regrown _ _ _))))
        refine wpQuiet_nil ?_
        intro wa hba
        replace HQ := hid (fun W (hW : Below wa.heap.size wa W) => HQ.out W (bl_trans hba hW))
        replace HQX := hid (fun W (hW : Below wa.heap.size wa W) => HQX.out W (bl_trans hba hW))
        replace G22 := hid (fun W (hW : Below wa.heap.size wa W) => G22.out W (bl_trans hba hW))
        replace G29 := hid (fun W (hW : Below wa.heap.size wa W) => G29.out W (bl_trans hba hW))
        replace G31 := hid (fun (n d : Int) W (hW : Below wa.heap.size wa W) => G31.out n d W (bl_trans hba hW))
        clear hp0 hk0 hz0 hy0 G21
        go_wp2
        refine wp_region_vals [73, 74, 75, 76, 77, 78, 72, 79, 80, 81, 17, 18, 19] (fun seen u W => (seen 0 = true → u 73 = .agg #[.slice (some ⟨b, off, none⟩) had.length c, .int .i64 part, .int .i64 prize]) ∧
          (seen 1 = true → u 74 = .slice (some ⟨L, 0, none⟩) 2 2) ∧
          (seen 2 = true → u 75 = .int .i64 (k : Int)) ∧
          (seen 3 = true → u 76 = .pointer (some ⟨L, k, none⟩)) ∧
          (seen 4 = true → u 77 = .slice Ak nk ck) ∧
          (seen 5 = true → u 78 = .tuple #[.agg #[.int .i64 lo.1, .int .i64 lo.2], .agg #[.int .i64 hi.1, .int .i64 hi.2], .int .i64 0]) ∧
          (seen 6 = true → u 72 = .tuple #[.agg #[.int .i64 lo.1, .int .i64 lo.2], .agg #[.int .i64 hi.1, .int .i64 hi.2], .int .i64 0]) ∧
          (seen 7 = true → u 79 = .agg #[.int .i64 lo.1, .int .i64 lo.2]) ∧
          (seen 8 = true → u 80 = .agg #[.int .i64 hi.1, .int .i64 hi.2]) ∧
          (seen 9 = true → u 81 = .int .i64 0) ∧
          (seen 10 = true → BoxAt wa.heap.size W (u 17) 39 (if seen 12 = true then #[.int .i64 lo.1, .int .i64 lo.2] else #[.int .i64 0, .int .i64 0])) ∧
          (seen 11 = true → BoxAt wa.heap.size W (u 18) 39 (if seen 13 = true then #[.int .i64 hi.1, .int .i64 hi.2] else #[.int .i64 0, .int .i64 0])) ∧
          (seen 12 = true → seen 10 = true) ∧
          (seen 13 = true → seen 11 = true) ∧
          (seen 14 = true → u 19 = .int .i64 0) ∧
          (seen 10 = true → seen 11 = true → u 17 ≠ u 18))
          (by kernel_rfl) (by kernel_rfl) (by kernel_rfl) (by simp) (by simp) ?_ ?_
        · intro i o ho seen a' w9 hb9 ⟨F0, F1, F2, F3, F4, F5, F6, F7, F8, F9, F10, F11, F12, F13, F14, F15⟩ hv hsi hdep
          obtain ⟨hp9, hk9, hz9, hy9⟩ := HQ.out w9 hb9
          rcases i with _ | _ | _ | _ | _ | _ | _ | _ | _ | _ | _ | _ | _ | _ | _ | i <;> simp only [List.getElem?_cons_zero, List.getElem?_cons_succ, List.getElem?_nil, Option.some.injEq, reduceCtorEq] at ho <;> subst ho
          · have x4 := val_at (hv 4 (by simp))
            simp [valsOf] at x4
            refine wp_value (.agg #[.slice (some ⟨b, off, none⟩) had.length c, .int .i64 part, .int .i64 prize]) (w' := w9) (by simp [execOp, x4, go_sem, hp9]) ⟨_, rfl, hb9, ?_⟩
            exact ⟨by simp, by simpa using F1, by simpa using F2, by simpa using F3, by simpa using F4, by simpa using F5, by simpa using F6, by simpa using F7, by simpa using F8, by simpa using F9, by simpa using F10, by simpa using F11, by simpa using F12, by simpa using F13, by simpa using F14, by simpa using F15⟩
          · have x14 := val_at (hv 14 (by simp))
            simp [valsOf] at x14
            refine wp_value (.slice (some ⟨L, 0, none⟩) 2 2) (w' := w9) (by simp [execOp, x14, go_sem]) ⟨_, rfl, hb9, ?_⟩
            exact ⟨by simpa using F0, by simp, by simpa using F2, by simpa using F3, by simpa using F4, by simpa using F5, by simpa using F6, by simpa using F7, by simpa using F8, by simpa using F9, by simpa using F10, by simpa using F11, by simpa using F12, by simpa using F13, by simpa using F14, by simpa using F15⟩
          · have x15 := val_at (hv 15 (by simp))
            simp [valsOf] at x15
            refine wp_value (.int .i64 (k : Int)) (w' := w9) (by simp [execOp, x15, go_sem]) ⟨_, rfl, hb9, ?_⟩
            exact ⟨by simpa using F0, by simpa using F1, by simp, by simpa using F3, by simpa using F4, by simpa using F5, by simpa using F6, by simpa using F7, by simpa using F8, by simpa using F9, by simpa using F10, by simpa using F11, by simpa using F12, by simpa using F13, by simpa using F14, by simpa using F15⟩
          · have d1 := hdep ⟨1, .data⟩ (by simp) rfl
            have e1 := val_at (F1 d1)
            have d2 := hdep ⟨2, .data⟩ (by simp) rfl
            have e2 := val_at (F2 d2)
            refine wp_value (.pointer (some ⟨L, k, none⟩)) (w' := w9) (by simp [execOp, e1, e2, go_sem, hlt2]) ⟨_, rfl, hb9, ?_⟩
            exact ⟨by simpa using F0, by simpa using F1, by simpa using F2, by simp, by simpa using F4, by simpa using F5, by simpa using F6, by simpa using F7, by simpa using F8, by simpa using F9, by simpa using F10, by simpa using F11, by simpa using F12, by simpa using F13, by simpa using F14, by simpa using F15⟩
          · have d3 := hdep ⟨3, .data⟩ (by simp) rfl
            have e3 := val_at (F3 d3)
            refine wp_value (.slice Ak nk ck) (w' := w9) (by simp [execOp, e3, go_sem, hk9]) ⟨_, rfl, hb9, ?_⟩
            exact ⟨by simpa using F0, by simpa using F1, by simpa using F2, by simpa using F3, by simp, by simpa using F5, by simpa using F6, by simpa using F7, by simpa using F8, by simpa using F9, by simpa using F10, by simpa using F11, by simpa using F12, by simpa using F13, by simpa using F14, by simpa using F15⟩
          · have d0 := hdep ⟨0, .data⟩ (by simp) rfl
            have e0 := val_at (F0 d0)
            have d4 := hdep ⟨4, .data⟩ (by simp) rfl
            have e4 := val_at (F4 d4)
            refine wp_calls (f := 29) (args := #[.agg #[.slice (some ⟨b, off, none⟩) had.length c, .int .i64 part, .int .i64 prize], .slice Ak nk ck]) (w' := w9) (by simp [e0, e4, go_sem]) (G29.out w9 hb9) ?_
            rintro e w10 ⟨rfl, hg⟩
            refine ⟨_, rfl, _, rfl, bl_trans hb9 hg, ?_⟩
            exact ⟨by simpa using F0, by simpa using F1, by simpa using F2, by simpa using F3, by simpa using F4, by simp, by simpa using F6, by simpa using F7, by simpa using F8, by simpa using F9, by simpa using fun h => (F10 h).mono hg, by simpa using fun h => (F11 h).mono hg, by simpa using F12, by simpa using F13, by simpa using F14, by simpa using F15⟩
          · have d5 := hdep ⟨5, .data⟩ (by simp) rfl
            have e5 := val_at (F5 d5)
            refine wp_value (.tuple #[.agg #[.int .i64 lo.1, .int .i64 lo.2], .agg #[.int .i64 hi.1, .int .i64 hi.2], .int .i64 0]) (w' := w9) (by simp [execOp, e5, go_sem]) ⟨_, rfl, hb9, ?_⟩
            exact ⟨by simpa using F0, by simpa using F1, by simpa using F2, by simpa using F3, by simpa using F4, by simpa using F5, by simp, by simpa using F7, by simpa using F8, by simpa using F9, by simpa using F10, by simpa using F11, by simpa using F12, by simpa using F13, by simpa using F14, by simpa using F15⟩
          · have d6 := hdep ⟨6, .data⟩ (by simp) rfl
            have e6 := val_at (F6 d6)
            refine wp_value (.agg #[.int .i64 lo.1, .int .i64 lo.2]) (w' := w9) (by simp [execOp, e6, go_sem]) ⟨_, rfl, hb9, ?_⟩
            exact ⟨by simpa using F0, by simpa using F1, by simpa using F2, by simpa using F3, by simpa using F4, by simpa using F5, by simpa using F6, by simp, by simpa using F8, by simpa using F9, by simpa using F10, by simpa using F11, by simpa using F12, by simpa using F13, by simpa using F14, by simpa using F15⟩
          · have d6 := hdep ⟨6, .data⟩ (by simp) rfl
            have e6 := val_at (F6 d6)
            refine wp_value (.agg #[.int .i64 hi.1, .int .i64 hi.2]) (w' := w9) (by simp [execOp, e6, go_sem]) ⟨_, rfl, hb9, ?_⟩
            exact ⟨by simpa using F0, by simpa using F1, by simpa using F2, by simpa using F3, by simpa using F4, by simpa using F5, by simpa using F6, by simpa using F7, by simp, by simpa using F9, by simpa using F10, by simpa using F11, by simpa using F12, by simpa using F13, by simpa using F14, by simpa using F15⟩
          · have d6 := hdep ⟨6, .data⟩ (by simp) rfl
            have e6 := val_at (F6 d6)
            refine wp_value (.int .i64 0) (w' := w9) (by simp [execOp, e6, go_sem]) ⟨_, rfl, hb9, ?_⟩
            exact ⟨by simpa using F0, by simpa using F1, by simpa using F2, by simpa using F3, by simpa using F4, by simpa using F5, by simpa using F6, by simpa using F7, by simpa using F8, by simp, by simpa using F10, by simpa using F11, by simpa using F12, by simpa using F13, by simpa using F14, by simpa using F15⟩
          · have hg : Below w9.heap.size w9 (w9.alloc (.cells #[.int .i64 0, .int .i64 0] 39)) := bl_alloc (bl_refl _) _
            have hs : seen 12 = false := by
              cases h : seen 12 with
              | false => rfl
              | true => have := F12 h; rw [this] at hsi; cases hsi
            refine wp_value (.pointer (some ⟨w9.heap.size, 0, none⟩)) (w' := w9.alloc (.cells #[.int .i64 0, .int .i64 0] 39)) (by simp [execOp, go_sem]) ⟨_, rfl, bl_trans hb9 hg, ?_⟩
            exact ⟨by simpa using F0, by simpa using F1, by simpa using F2, by simpa using F3, by simpa using F4, by simpa using F5, by simpa using F6, by simpa using F7, by simpa using F8, by simpa using F9, by simpa [hs] using BoxAt.new (by have := hb9.size; omega), by simpa using fun h => (F11 h).mono hg, by simp, by simpa using F13, by simpa using F14, by simpa using fun h => (F11 h).ne_new⟩
          · have hg : Below w9.heap.size w9 (w9.alloc (.cells #[.int .i64 0, .int .i64 0] 39)) := bl_alloc (bl_refl _) _
            have hs : seen 13 = false := by
              cases h : seen 13 with
              | false => rfl
              | true => have := F13 h; rw [this] at hsi; cases hsi
            refine wp_value (.pointer (some ⟨w9.heap.size, 0, none⟩)) (w' := w9.alloc (.cells #[.int .i64 0, .int .i64 0] 39)) (by simp [execOp, go_sem]) ⟨_, rfl, bl_trans hb9 hg, ?_⟩
            exact ⟨by simpa using F0, by simpa using F1, by simpa using F2, by simpa using F3, by simpa using F4, by simpa using F5, by simpa using F6, by simpa using F7, by simpa using F8, by simpa using F9, by simpa using fun h => (F10 h).mono hg, by simpa [hs] using BoxAt.new (by have := hb9.size; omega), by simpa using F12, by simp, by simpa using F14, by simpa using fun h => ((F10 h).ne_new).symm⟩
          · have d10 := hdep ⟨10, .data⟩ (by simp) rfl
            have d7 := hdep ⟨7, .data⟩ (by simp) rfl
            have e7 := val_at (F7 d7)
            have e1 := F10 d10
            rw [hsi] at e1
            simp only [Bool.false_eq_true, if_false] at e1
            obtain ⟨B, hB, hB2, hB3⟩ := e1
            have ep := val_at hB
            have c0 := cell_of_heap (i := 0) hB3
            have c1 := cell_of_heap (i := 1) hB3
            have f0 := frozen_of_heap (i := 0) hB3
            have f1 := frozen_of_heap (i := 1) hB3
            have hBl := (Array.getElem?_eq_some_iff.1 hB3).1
            have hst := BoxAt.stored2 hB hB2 hB3 (.int .i64 lo.1) (.int .i64 lo.2)
            refine wp_effect (w' := (w9.setCell ⟨B, 0, none⟩ (.int .i64 lo.1)).setCell ⟨B, 1, none⟩ (.int .i64 lo.2)) (by simp [execOp, e7, ep, go_sem, c0, c1, f0, f1]) ⟨_, rfl, bl_set (bl_set hb9 _ hB2) _ hB2, ?_⟩
            exact ⟨by simpa using F0, by simpa using F1, by simpa using F2, by simpa using F3, by simpa using F4, by simpa using F5, by simpa using F6, by simpa using F7, by simpa using F8, by simpa using F9, by simpa using fun _ => hst.1, by simpa using fun h => hst.2 _ _ _ (F11 h) (fun e => F15 d10 h (hB.trans e.symm)), by simpa using d10, by simpa using F13, by simpa using F14, by simpa using F15⟩
          · have d11 := hdep ⟨11, .data⟩ (by simp) rfl
            have d8 := hdep ⟨8, .data⟩ (by simp) rfl
            have e8 := val_at (F8 d8)
            have e1 := F11 d11
            rw [hsi] at e1
            simp only [Bool.false_eq_true, if_false] at e1
            obtain ⟨B, hB, hB2, hB3⟩ := e1
            have ep := val_at hB
            have c0 := cell_of_heap (i := 0) hB3
            have c1 := cell_of_heap (i := 1) hB3
            have f0 := frozen_of_heap (i := 0) hB3
            have f1 := frozen_of_heap (i := 1) hB3
            have hBl := (Array.getElem?_eq_some_iff.1 hB3).1
            have hst := BoxAt.stored2 hB hB2 hB3 (.int .i64 hi.1) (.int .i64 hi.2)
            refine wp_effect (w' := (w9.setCell ⟨B, 0, none⟩ (.int .i64 hi.1)).setCell ⟨B, 1, none⟩ (.int .i64 hi.2)) (by simp [execOp, e8, ep, go_sem, c0, c1, f0, f1]) ⟨_, rfl, bl_set (bl_set hb9 _ hB2) _ hB2, ?_⟩
            exact ⟨by simpa using F0, by simpa using F1, by simpa using F2, by simpa using F3, by simpa using F4, by simpa using F5, by simpa using F6, by simpa using F7, by simpa using F8, by simpa using F9, by simpa using fun h => hst.2 _ _ _ (F10 h) (fun e => F15 h d11 (e.trans hB.symm)), by simpa using fun _ => hst.1, by simpa using F12, by simpa using d11, by simpa using F14, by simpa using F15⟩
          · have d9 := hdep ⟨9, .data⟩ (by simp) rfl
            have e9 := val_at (F9 d9)
            refine wp_value (.int .i64 0) (w' := w9) (by simp [execOp, e9, go_sem]) ⟨_, rfl, hb9, ?_⟩
            exact ⟨by simpa using F0, by simpa using F1, by simpa using F2, by simpa using F3, by simpa using F4, by simpa using F5, by simpa using F6, by simpa using F7, by simpa using F8, by simpa using F9, by simpa using F10, by simpa using F11, by simpa using F12, by simpa using F13, by simp, by simpa using F15⟩
        intro u w5 hb5 seen hall ⟨F0, F1, F2, F3, F4, F5, F6, F7, F8, F9, F10, F11, F12, F13, F14, F15⟩
        replace F0 := F0 (hall 0 (by decide))
        replace F1 := F1 (hall 1 (by decide))
        replace F2 := F2 (hall 2 (by decide))
        replace F3 := F3 (hall 3 (by decide))
        replace F4 := F4 (hall 4 (by decide))
        replace F5 := F5 (hall 5 (by decide))
        replace F6 := F6 (hall 6 (by decide))
        replace F7 := F7 (hall 7 (by decide))
        replace F8 := F8 (hall 8 (by decide))
        replace F9 := F9 (hall 9 (by decide))
        replace F10 := F10 (hall 10 (by decide))
        replace F11 := F11 (hall 11 (by decide))
        replace F12 := F12 (hall 12 (by decide))
        replace F13 := F13 (hall 13 (by decide))
        replace F14 := F14 (hall 14 (by decide))
        rw [hall 12 (by decide), if_pos rfl] at F10
        rw [hall 13 (by decide), if_pos rfl] at F11
        obtain ⟨B1, hu1, hBb1, m1⟩ := F10
        obtain ⟨B2, hu2, hBb2, m2⟩ := F11
        simp only [setAll, F0, F1, F2, F3, F4, F5, F6, F7, F8, F9, F14, hu1, hu2]
        have M1 := hid m1
        have M2 := hid m2
        replace HQ := hid (fun W (hW : Below w5.heap.size w5 W) => HQ.out W (bl_trans hb5 hW))
        replace HQX := hid (fun W (hW : Below w5.heap.size w5 W) => HQX.out W (bl_trans hb5 hW))
        replace G22 := hid (fun W (hW : Below w5.heap.size w5 W) => G22.out W (bl_trans hb5 hW))
        replace G31 := hid (fun (n d : Int) W (hW : Below w5.heap.size w5 W) => G31.out n d W (bl_trans hb5 hW))
        clear F0 F1 F2 F3 F4 F5 F6 F7 F8 F9 F12 F13 F14 F15 hall hu1 hu2 hBb1 hBb2 m1 m2
        obtain ⟨hp5, hk5, hz5, hy5⟩ := HQ.out w5 (bl_refl _)
        obtain ⟨hxx5, hxl5⟩ := HQX.out w5 (bl_refl _)
        go_wp2
        refine wp_region_below (by kernel_rfl) (by kernel_rfl) ?_
        repeat (first | go_big_quiet_step (exact Calls.regrown_of (G31.out _ _ _ (below_regrown _ _ _))) | quiet_step (exact Calls.regrown_of (G31.out _ _ _ (below_regrown _ _ _))))
        refine wpQuiet_nil ?_
        intro w6 hb6
        rw [HCX.out]
        replace HQ := hid (fun W (hW : Below w6.heap.size w6 W) => HQ.out W (bl_trans hb6 hW))
        replace HQX := hid (fun W (hW : Below w6.heap.size w6 W) => HQX.out W (bl_trans hb6 hW))
        replace G22 := hid (fun W (hW : Below w6.heap.size w6 W) => G22.out W (bl_trans hb6 hW))
        replace G31 := hid (fun (n d : Int) W (hW : Below w6.heap.size w6 W) => G31.out n d W (bl_trans hb6 hW))
        have M16 := hid (heap_mono M1.out hb6)
        have M26 := hid (heap_mono M2.out hb6)
        clear hp5 hk5 hz5 hy5 hxx5 hxl5 M1 M2
        obtain ⟨hp6, hk6, hz6, hy6⟩ := HQ.out w6 (bl_refl _)
        have c17 := fun i => cell_of_heap (i := i) M16.out
        have c18 := fun i => cell_of_heap (i := i) M26.out
        have l17 := (Array.getElem?_eq_some_iff.1 M16.out).1
        have l18 := (Array.getElem?_eq_some_iff.1 M26.out).1
        have x1 : (checkDivisorE had part prize l lo.1 lo.2 != 0) = false := by simpa using hok lo.1 lo.2 tlo.div (less_irr _) hle
        have x2 : (checkDivisorE had part prize l hi.1 hi.2 != 0) = false := by simpa using hok hi.1 hi.2 thi.div hle (less_irr _)
        have x3 : decide (hi.1 * lo.2 < lo.1 * hi.2) = false := by simpa [lessB] using hle
        have TS := hid small_any
        have TL : Hid (∀ W : World, Calls Try.prog 42 #[.agg #[.int .i64 hi.1, .int .i64 hi.2], .agg #[.int .i64 lo.1, .int .i64 lo.2]] W fun e w' => e = .returned (.bool (decide (hi.1 * lo.2 < lo.1 * hi.2))) ∧ Below W.heap.size W w') := fun W => by
          obtain ⟨a1, a2, a3, a4⟩ := tlo
          obtain ⟨b1, b2, b3, b4⟩ := thi
          exact less_any2 _ _ _ _ W (by omega) (by omega) (by omega) (by omega)
        rw [x3] at TL
        have HOK := Lib.hid hok
        have HBK := Lib.hid hback
        have HLE := hid hle
        have T1 := hid tlo
        have T2 := hid thi
        clear hok hback hle tlo thi x3
        go_wp2
        refine wp_region_below (by kernel_rfl) (by kernel_rfl) ?_
        repeat (first | go_big_quiet_step (first | (go_at_call 22; exact Calls.regrown_of (G22.out _ (below_regrown _ _ _))) | (go_at_call 41; first | exact Calls.regrown_of (TS.out _ _ _ T1.out) | exact Calls.regrown_of (TS.out _ _ _ T2.out)) | (go_at_call 42; exact Calls.regrown_of (TL.out _)) | (go_at_call 31; exact Calls.regrown_of (G31.out _ _ _ (below_regrown _ _ _)))) | quiet_step (first | (go_at_call 22; exact Calls.regrown_of (G22.out _ (below_regrown _ _ _))) | (go_at_call 41; first | exact Calls.regrown_of (TS.out _ _ _ T1.out) | exact Calls.regrown_of (TS.out _ _ _ T2.out)) | (go_at_call 42; exact Calls.regrown_of (TL.out _)) | (go_at_call 31; exact Calls.regrown_of (G31.out _ _ _ (below_regrown _ _ _)))))
        refine wpQuiet_nil ?_
        intro w7 hb7
        replace HQ := hid (fun W (hW : Below w7.heap.size w7 W) => HQ.out W (bl_trans hb7 hW))
        replace HQX := hid (fun W (hW : Below w7.heap.size w7 W) => HQX.out W (bl_trans hb7 hW))
        replace G31 := hid (fun (n d : Int) W (hW : Below w7.heap.size w7 W) => G31.out n d W (bl_trans hb7 hW))
        have M17 := hid (heap_mono M16.out hb7)
        have M18 := hid (heap_mono M26.out hb7)
        have hB7 := bl_trans hBr (bl_trans hba (bl_trans hb5 (bl_trans hb6 hb7)))
        clear c17 c18 l17 l18 hp6 hk6 hz6 hy6 x1 x2 TS TL G22 M16 M26
        by_cases hg0 : g = 0
        · have hgb : (g == 0) = true := by simpa using hg0
          obtain ⟨i1, i2, i3⟩ := HBK.out num den (by rw [HCX.out]; exact hg0)
          have I1 := hid i1
          have hnd : (1 ≤ num ∧ num ≤ 1073741824) ∧ (1 ≤ den ∧ den ≤ 1073741824) := by
            simp only [isDivB, Bool.and_eq_true, decide_eq_true_eq] at i1
            omega
          have i2' : decide (num * lo.2 < lo.1 * den) = false := by simpa [lessB] using i2
          have i3' : decide (hi.1 * den < num * hi.2) = false := by simpa [lessB] using i3
          have tt1 := T1.out
          have tt2 := T2.out
          have L1 : Hid (∀ W : World, Calls Try.prog 42 #[.agg #[.int .i64 num, .int .i64 den], .agg #[.int .i64 lo.1, .int .i64 lo.2]] W fun e w' => e = .returned (.bool (decide (num * lo.2 < lo.1 * den))) ∧ Below W.heap.size W w') := fun W => by
            obtain ⟨a1, a2, a3, a4⟩ := tt1
            exact less_any2 _ _ _ _ W (by omega) (by omega) (by omega) (by omega)
          have L2 : Hid (∀ W : World, Calls Try.prog 42 #[.agg #[.int .i64 hi.1, .int .i64 hi.2], .agg #[.int .i64 num, .int .i64 den]] W fun e w' => e = .returned (.bool (decide (hi.1 * den < num * hi.2))) ∧ Below W.heap.size W w') := fun W => by
            obtain ⟨a1, a2, a3, a4⟩ := tt2
            exact less_any2 _ _ _ _ W (by omega) (by omega) (by omega) (by omega)
          rw [i2'] at L1
          rw [i3'] at L2
          obtain ⟨hxx7, hxl7⟩ := HQX.out w7 (bl_refl _)
          clear hg0 i1 i2 i3 i2' i3' tt1 tt2
          go_wp2_with fail
          refine (isDivisor_any num den _).mono ?_
          rintro e w8 ⟨rfl, hb8⟩
          rw [I1.out]
          obtain ⟨hxx8, hxl8⟩ := HQX.out w8 hb8
          have c17 := fun i => cell_of_heap (i := i) (heap_mono M17.out hb8)
          have l17 := (Array.getElem?_eq_some_iff.1 (heap_mono M17.out hb8)).1
          clear hxx7 hxl7
          go_wp2_with fail
          refine (L1.out _).mono ?_
          rintro e w9 ⟨rfl, hb9⟩
          have hb79 := bl_trans hb8 hb9
          obtain ⟨hxx9, hxl9⟩ := HQX.out w9 hb79
          have c18 := fun i => cell_of_heap (i := i) (heap_mono M18.out hb79)
          have l18 := (Array.getElem?_eq_some_iff.1 (heap_mono M18.out hb79)).1
          clear hxx8 hxl8 c17 l17
          go_wp2_with fail
          refine (L2.out _).mono ?_
          rintro e wS ⟨rfl, hbS⟩
          have hb7S := bl_trans hb79 hbS
          have MS1 := hid (heap_mono M17.out hb7S)
          have MS2 := hid (heap_mono M18.out hb7S)
          have hBS := bl_trans hB7 hb7S
          replace HQ := hid (fun W (hW : Below wS.heap.size wS W) => HQ.out W (bl_trans hb7S hW))
          replace HQX := hid (fun W (hW : Below wS.heap.size wS W) => HQX.out W (bl_trans hb7S hW))
          replace G31 := hid (fun (n d : Int) W (hW : Below wS.heap.size wS W) => G31.out n d W (bl_trans hb7S hW))
          clear hxx9 hxl9 c18 l18 M17 M18 hgb
          obtain ⟨hpS, hkS, hzS, hyS⟩ := HQ.out wS (bl_refl _)
          have c17 := fun i => cell_of_heap (i := i) MS1.out
          have c18 := fun i => cell_of_heap (i := i) MS2.out
          have l17 := (Array.getElem?_eq_some_iff.1 MS1.out).1
          have l18 := (Array.getElem?_eq_some_iff.1 MS2.out).1
          go_wp2_with fail
          refine (between_any lo hi by8 _ T1.out T2.out hby).mono ?_
          rintro e wm ⟨rfl, hbm⟩
          have hbw := between_law T1.out T2.out (n := by8 % 8) (by omega) (by omega) HLE.out
          generalize betweenQ lo hi (by8 % 8) = m at *
          obtain ⟨bw1, bw2⟩ := hbw
          have kM := World.alloc_heap_new wm (.cells #[.int .i64 m.1, .int .i64 m.2] 39)
          have hbn := bl_alloc (bl_refl wm) (.cells #[.int .i64 m.1, .int .i64 m.2] 39)
          clear c17 c18 l17 l18 hpS hkS hzS hyS
          go_upto_region 24 with (fail)
          obtain ⟨wn, hwn⟩ : ∃ wn, wm.alloc (.cells #[.int .i64 m.1, .int .i64 m.2] 39) = wn := ⟨_, rfl⟩
          rw [hwn] at kM hbn ⊢
          have hbSn := bl_trans hbm hbn
          obtain ⟨hpn, hkn, hzn, hyn⟩ := HQ.out wn hbSn
          have cM := fun i => cell_of_heap (i := i) kM
          have lM := (Array.getElem?_eq_some_iff.1 kM).1
          have G31n : Hid (∀ W, Below wn.heap.size wn W → Calls Try.prog 31 #[.agg #[.slice (some ⟨b, off, none⟩) had.length c, .int .i64 part, .int .i64 prize], .slice Ak nk ck, .agg #[.int .i64 m.1, .int .i64 m.2]] W fun e w' => e = .returned (.int .i64 (checkDivisorE had part prize l m.1 m.2)) ∧ Below W.heap.size W w') := fun W hW => G31.out m.1 m.2 W (bl_trans hbSn hW)
          have H43 : Hid (∀ W : World, Calls Try.prog 43 #[.agg #[.int .i64 m.1, .int .i64 m.2]] W fun e w' => e = .returned (.bool (isDivB m.1 m.2)) ∧ Below W.heap.size W w') := fun W => isDivisor_any m.1 m.2 W
          have hBn := bl_trans hBS hbSn
          clear hwn kM MS1 MS2 HQ HQX G31 hbm hbn
          cases hdm : isDivB m.1 m.2 with
          | true =>
            have hcm : (checkDivisorE had part prize l m.1 m.2 != 0) = false := by simpa using HOK.out m.1 m.2 hdm bw1 bw2
            rw [hdm] at H43
            clear hdm bw1 bw2
            refine wp_region_below (by kernel_rfl) (by kernel_rfl) ?_
            repeat (first | go_big_quiet_step (first | (go_at_call 43; exact Calls.regrown_of (H43.out _)) | (go_at_call 31; exact Calls.regrown_of (G31n.out _ (below_regrown _ _ _)))) | quiet_step (first | (go_at_call 43; exact Calls.regrown_of (H43.out _)) | (go_at_call 31; exact Calls.regrown_of (G31n.out _ (below_regrown _ _ _)))))
            refine wpQuiet_nil ?_
            intro we hbe
            clear hpn hkn cM
            go_wp2
            go_roundw
            case rel => exact ⟨k + 1, by omega, by go_num, bl_trans hBn hbe⟩
            case measure => simp [intOf]; omega
          | false =>
            rw [hdm] at H43
            clear hdm bw1 bw2
            refine wp_region_below (by kernel_rfl) (by kernel_rfl) ?_
            repeat (first | go_big_quiet_step (first | (go_at_call 43; exact Calls.regrown_of (H43.out _)) | (go_at_call 31; exact Calls.regrown_of (G31n.out _ (below_regrown _ _ _)))) | quiet_step (first | (go_at_call 43; exact Calls.regrown_of (H43.out _)) | (go_at_call 31; exact Calls.regrown_of (G31n.out _ (below_regrown _ _ _)))))
            refine wpQuiet_nil ?_
            intro we hbe
            clear hpn hkn cM
            go_wp2
            go_roundw
            case rel => exact ⟨k + 1, by omega, by go_num, bl_trans hBn hbe⟩
            case measure => simp [intOf]; omega
        · have hgb : (g == 0) = false := by simpa using hg0
          have MS1 := M17
          have MS2 := M18
          have hBS := hB7
          clear hg0 M17 M18
          obtain ⟨hpS, hkS, hzS, hyS⟩ := HQ.out w7 (bl_refl _)
          have c17 := fun i => cell_of_heap (i := i) MS1.out
          have c18 := fun i => cell_of_heap (i := i) MS2.out
          have l17 := (Array.getElem?_eq_some_iff.1 MS1.out).1
          have l18 := (Array.getElem?_eq_some_iff.1 MS2.out).1
          go_wp2_with fail
          refine (between_any lo hi by8 _ T1.out T2.out hby).mono ?_
          rintro e wm ⟨rfl, hbm⟩
          have hbw := between_law T1.out T2.out (n := by8 % 8) (by omega) (by omega) HLE.out
          generalize betweenQ lo hi (by8 % 8) = m at *
          obtain ⟨bw1, bw2⟩ := hbw
          have kM := World.alloc_heap_new wm (.cells #[.int .i64 m.1, .int .i64 m.2] 39)
          have hbn := bl_alloc (bl_refl wm) (.cells #[.int .i64 m.1, .int .i64 m.2] 39)
          clear c17 c18 l17 l18 hpS hkS hzS hyS
          go_upto_region 24 with (fail)
          obtain ⟨wn, hwn⟩ : ∃ wn, wm.alloc (.cells #[.int .i64 m.1, .int .i64 m.2] 39) = wn := ⟨_, rfl⟩
          rw [hwn] at kM hbn ⊢
          have hbSn := bl_trans hbm hbn
          obtain ⟨hpn, hkn, hzn, hyn⟩ := HQ.out wn hbSn
          have cM := fun i => cell_of_heap (i := i) kM
          have lM := (Array.getElem?_eq_some_iff.1 kM).1
          have G31n : Hid (∀ W, Below wn.heap.size wn W → Calls Try.prog 31 #[.agg #[.slice (some ⟨b, off, none⟩) had.length c, .int .i64 part, .int .i64 prize], .slice Ak nk ck, .agg #[.int .i64 m.1, .int .i64 m.2]] W fun e w' => e = .returned (.int .i64 (checkDivisorE had part prize l m.1 m.2)) ∧ Below W.heap.size W w') := fun W hW => G31.out m.1 m.2 W (bl_trans hbSn hW)
          have H43 : Hid (∀ W : World, Calls Try.prog 43 #[.agg #[.int .i64 m.1, .int .i64 m.2]] W fun e w' => e = .returned (.bool (isDivB m.1 m.2)) ∧ Below W.heap.size W w') := fun W => isDivisor_any m.1 m.2 W
          have hBn := bl_trans hBS hbSn
          clear hwn kM MS1 MS2 HQ HQX G31 hbm hbn
          cases hdm : isDivB m.1 m.2 with
          | true =>
            have hcm : (checkDivisorE had part prize l m.1 m.2 != 0) = false := by simpa using HOK.out m.1 m.2 hdm bw1 bw2
            rw [hdm] at H43
            clear hdm bw1 bw2
            refine wp_region_below (by kernel_rfl) (by kernel_rfl) ?_
            repeat (first | go_big_quiet_step (first | (go_at_call 43; exact Calls.regrown_of (H43.out _)) | (go_at_call 31; exact Calls.regrown_of (G31n.out _ (below_regrown _ _ _)))) | quiet_step (first | (go_at_call 43; exact Calls.regrown_of (H43.out _)) | (go_at_call 31; exact Calls.regrown_of (G31n.out _ (below_regrown _ _ _)))))
            refine wpQuiet_nil ?_
            intro we hbe
            clear hpn hkn cM
            go_wp2
            go_roundw
            case rel => exact ⟨k + 1, by omega, by go_num, bl_trans hBn hbe⟩
            case measure => simp [intOf]; omega
          | false =>
            rw [hdm] at H43
            clear hdm bw1 bw2
            refine wp_region_below (by kernel_rfl) (by kernel_rfl) ?_
            repeat (first | go_big_quiet_step (first | (go_at_call 43; exact Calls.regrown_of (H43.out _)) | (go_at_call 31; exact Calls.regrown_of (G31n.out _ (below_regrown _ _ _)))) | quiet_step (first | (go_at_call 43; exact Calls.regrown_of (H43.out _)) | (go_at_call 31; exact Calls.regrown_of (G31n.out _ (below_regrown _ _ _)))))
            refine wpQuiet_nil ?_
            intro we hbe
            clear hpn hkn cM
            go_wp2
            go_roundw
            case rel => exact ⟨k + 1, by omega, by go_num, bl_trans hBn hbe⟩
            case measure => simp [intOf]; omega
      · have hge : (g == 0) = false := by simpa using (show g ≠ 0 by rw [← HCX.out]; exact GB.out num den he)
        have hE0 : (refSharesE had part prize l != 0) = true := by simpa using he
        have hE1 : (refSharesE had part prize l != refSharesE had part prize l) = false := by simp
        generalize refSharesE had part prize l = eD at *
        clear he
        go_wp2
        refine wp_region_below (by kernel_rfl) (by kernel_rfl) ?_
        repeat (first | go_big_quiet_step (exact Calls.regrown_of (G21.out _ (below_regrown _ _ _))) | quiet_step (exact Calls.regrown_of (G21.out _ (below_regrown _ _ _))))
        refine wpQuiet_nil ?_
        intro wa hba
        replace HQ := hid (fun W (hW : Below wa.heap.size wa W) => HQ.out W (bl_trans hba hW))
        replace HQX := hid (fun W (hW : Below wa.heap.size wa W) => HQX.out W (bl_trans hba hW))
        replace G22 := hid (fun W (hW : Below wa.heap.size wa W) => G22.out W (bl_trans hba hW))
        replace G29 := hid (fun W (hW : Below wa.heap.size wa W) => G29.out W (bl_trans hba hW))
        replace G31 := hid (fun (n d : Int) W (hW : Below wa.heap.size wa W) => G31.out n d W (bl_trans hba hW))
        clear hp0 hk0 hz0 hy0 G21
        go_wp2
        refine wp_region_vals [73, 74, 75, 76, 77, 78, 72, 79, 80, 81, 17, 18, 19] (fun seen u W => (seen 0 = true → u 73 = .agg #[.slice (some ⟨b, off, none⟩) had.length c, .int .i64 part, .int .i64 prize]) ∧
          (seen 1 = true → u 74 = .slice (some ⟨L, 0, none⟩) 2 2) ∧
          (seen 2 = true → u 75 = .int .i64 (k : Int)) ∧
          (seen 3 = true → u 76 = .pointer (some ⟨L, k, none⟩)) ∧
          (seen 4 = true → u 77 = .slice Ak nk ck) ∧
          (seen 5 = true → u 78 = .tuple #[.agg #[.int .i64 lo.1, .int .i64 lo.2], .agg #[.int .i64 hi.1, .int .i64 hi.2], .int .i64 eD]) ∧
          (seen 6 = true → u 72 = .tuple #[.agg #[.int .i64 lo.1, .int .i64 lo.2], .agg #[.int .i64 hi.1, .int .i64 hi.2], .int .i64 eD]) ∧
          (seen 7 = true → u 79 = .agg #[.int .i64 lo.1, .int .i64 lo.2]) ∧
          (seen 8 = true → u 80 = .agg #[.int .i64 hi.1, .int .i64 hi.2]) ∧
          (seen 9 = true → u 81 = .int .i64 eD) ∧
          (seen 10 = true → BoxAt wa.heap.size W (u 17) 39 (if seen 12 = true then #[.int .i64 lo.1, .int .i64 lo.2] else #[.int .i64 0, .int .i64 0])) ∧
          (seen 11 = true → BoxAt wa.heap.size W (u 18) 39 (if seen 13 = true then #[.int .i64 hi.1, .int .i64 hi.2] else #[.int .i64 0, .int .i64 0])) ∧
          (seen 12 = true → seen 10 = true) ∧
          (seen 13 = true → seen 11 = true) ∧
          (seen 14 = true → u 19 = .int .i64 eD) ∧
          (seen 10 = true → seen 11 = true → u 17 ≠ u 18))
          (by kernel_rfl) (by kernel_rfl) (by kernel_rfl) (by simp) (by simp) ?_ ?_
        · intro i o ho seen a' w9 hb9 ⟨F0, F1, F2, F3, F4, F5, F6, F7, F8, F9, F10, F11, F12, F13, F14, F15⟩ hv hsi hdep
          obtain ⟨hp9, hk9, hz9, hy9⟩ := HQ.out w9 hb9
          rcases i with _ | _ | _ | _ | _ | _ | _ | _ | _ | _ | _ | _ | _ | _ | _ | i <;> simp only [List.getElem?_cons_zero, List.getElem?_cons_succ, List.getElem?_nil, Option.some.injEq, reduceCtorEq] at ho <;> subst ho
          · have x4 := val_at (hv 4 (by simp))
            simp [valsOf] at x4
            refine wp_value (.agg #[.slice (some ⟨b, off, none⟩) had.length c, .int .i64 part, .int .i64 prize]) (w' := w9) (by simp [execOp, x4, go_sem, hp9]) ⟨_, rfl, hb9, ?_⟩
            exact ⟨by simp, by simpa using F1, by simpa using F2, by simpa using F3, by simpa using F4, by simpa using F5, by simpa using F6, by simpa using F7, by simpa using F8, by simpa using F9, by simpa using F10, by simpa using F11, by simpa using F12, by simpa using F13, by simpa using F14, by simpa using F15⟩
          · have x14 := val_at (hv 14 (by simp))
            simp [valsOf] at x14
            refine wp_value (.slice (some ⟨L, 0, none⟩) 2 2) (w' := w9) (by simp [execOp, x14, go_sem]) ⟨_, rfl, hb9, ?_⟩
            exact ⟨by simpa using F0, by simp, by simpa using F2, by simpa using F3, by simpa using F4, by simpa using F5, by simpa using F6, by simpa using F7, by simpa using F8, by simpa using F9, by simpa using F10, by simpa using F11, by simpa using F12, by simpa using F13, by simpa using F14, by simpa using F15⟩
          · have x15 := val_at (hv 15 (by simp))
            simp [valsOf] at x15
            refine wp_value (.int .i64 (k : Int)) (w' := w9) (by simp [execOp, x15, go_sem]) ⟨_, rfl, hb9, ?_⟩
            exact ⟨by simpa using F0, by simpa using F1, by simp, by simpa using F3, by simpa using F4, by simpa using F5, by simpa using F6, by simpa using F7, by simpa using F8, by simpa using F9, by simpa using F10, by simpa using F11, by simpa using F12, by simpa using F13, by simpa using F14, by simpa using F15⟩
          · have d1 := hdep ⟨1, .data⟩ (by simp) rfl
            have e1 := val_at (F1 d1)
            have d2 := hdep ⟨2, .data⟩ (by simp) rfl
            have e2 := val_at (F2 d2)
            refine wp_value (.pointer (some ⟨L, k, none⟩)) (w' := w9) (by simp [execOp, e1, e2, go_sem, hlt2]) ⟨_, rfl, hb9, ?_⟩
            exact ⟨by simpa using F0, by simpa using F1, by simpa using F2, by simp, by simpa using F4, by simpa using F5, by simpa using F6, by simpa using F7, by simpa using F8, by simpa using F9, by simpa using F10, by simpa using F11, by simpa using F12, by simpa using F13, by simpa using F14, by simpa using F15⟩
          · have d3 := hdep ⟨3, .data⟩ (by simp) rfl
            have e3 := val_at (F3 d3)
            refine wp_value (.slice Ak nk ck) (w' := w9) (by simp [execOp, e3, go_sem, hk9]) ⟨_, rfl, hb9, ?_⟩
            exact ⟨by simpa using F0, by simpa using F1, by simpa using F2, by simpa using F3, by simp, by simpa using F5, by simpa using F6, by simpa using F7, by simpa using F8, by simpa using F9, by simpa using F10, by simpa using F11, by simpa using F12, by simpa using F13, by simpa using F14, by simpa using F15⟩
          · have d0 := hdep ⟨0, .data⟩ (by simp) rfl
            have e0 := val_at (F0 d0)
            have d4 := hdep ⟨4, .data⟩ (by simp) rfl
            have e4 := val_at (F4 d4)
            refine wp_calls (f := 29) (args := #[.agg #[.slice (some ⟨b, off, none⟩) had.length c, .int .i64 part, .int .i64 prize], .slice Ak nk ck]) (w' := w9) (by simp [e0, e4, go_sem]) (G29.out w9 hb9) ?_
            rintro e w10 ⟨rfl, hg⟩
            refine ⟨_, rfl, _, rfl, bl_trans hb9 hg, ?_⟩
            exact ⟨by simpa using F0, by simpa using F1, by simpa using F2, by simpa using F3, by simpa using F4, by simp, by simpa using F6, by simpa using F7, by simpa using F8, by simpa using F9, by simpa using fun h => (F10 h).mono hg, by simpa using fun h => (F11 h).mono hg, by simpa using F12, by simpa using F13, by simpa using F14, by simpa using F15⟩
          · have d5 := hdep ⟨5, .data⟩ (by simp) rfl
            have e5 := val_at (F5 d5)
            refine wp_value (.tuple #[.agg #[.int .i64 lo.1, .int .i64 lo.2], .agg #[.int .i64 hi.1, .int .i64 hi.2], .int .i64 eD]) (w' := w9) (by simp [execOp, e5, go_sem]) ⟨_, rfl, hb9, ?_⟩
            exact ⟨by simpa using F0, by simpa using F1, by simpa using F2, by simpa using F3, by simpa using F4, by simpa using F5, by simp, by simpa using F7, by simpa using F8, by simpa using F9, by simpa using F10, by simpa using F11, by simpa using F12, by simpa using F13, by simpa using F14, by simpa using F15⟩
          · have d6 := hdep ⟨6, .data⟩ (by simp) rfl
            have e6 := val_at (F6 d6)
            refine wp_value (.agg #[.int .i64 lo.1, .int .i64 lo.2]) (w' := w9) (by simp [execOp, e6, go_sem]) ⟨_, rfl, hb9, ?_⟩
            exact ⟨by simpa using F0, by simpa using F1, by simpa using F2, by simpa using F3, by simpa using F4, by simpa using F5, by simpa using F6, by simp, by simpa using F8, by simpa using F9, by simpa using F10, by simpa using F11, by simpa using F12, by simpa using F13, by simpa using F14, by simpa using F15⟩
          · have d6 := hdep ⟨6, .data⟩ (by simp) rfl
            have e6 := val_at (F6 d6)
            refine wp_value (.agg #[.int .i64 hi.1, .int .i64 hi.2]) (w' := w9) (by simp [execOp, e6, go_sem]) ⟨_, rfl, hb9, ?_⟩
            exact ⟨by simpa using F0, by simpa using F1, by simpa using F2, by simpa using F3, by simpa using F4, by simpa using F5, by simpa using F6, by simpa using F7, by simp, by simpa using F9, by simpa using F10, by simpa using F11, by simpa using F12, by simpa using F13, by simpa using F14, by simpa using F15⟩
          · have d6 := hdep ⟨6, .data⟩ (by simp) rfl
            have e6 := val_at (F6 d6)
            refine wp_value (.int .i64 eD) (w' := w9) (by simp [execOp, e6, go_sem]) ⟨_, rfl, hb9, ?_⟩
            exact ⟨by simpa using F0, by simpa using F1, by simpa using F2, by simpa using F3, by simpa using F4, by simpa using F5, by simpa using F6, by simpa using F7, by simpa using F8, by simp, by simpa using F10, by simpa using F11, by simpa using F12, by simpa using F13, by simpa using F14, by simpa using F15⟩
          · have hg : Below w9.heap.size w9 (w9.alloc (.cells #[.int .i64 0, .int .i64 0] 39)) := bl_alloc (bl_refl _) _
            have hs : seen 12 = false := by
              cases h : seen 12 with
              | false => rfl
              | true => have := F12 h; rw [this] at hsi; cases hsi
            refine wp_value (.pointer (some ⟨w9.heap.size, 0, none⟩)) (w' := w9.alloc (.cells #[.int .i64 0, .int .i64 0] 39)) (by simp [execOp, go_sem]) ⟨_, rfl, bl_trans hb9 hg, ?_⟩
            exact ⟨by simpa using F0, by simpa using F1, by simpa using F2, by simpa using F3, by simpa using F4, by simpa using F5, by simpa using F6, by simpa using F7, by simpa using F8, by simpa using F9, by simpa [hs] using BoxAt.new (by have := hb9.size; omega), by simpa using fun h => (F11 h).mono hg, by simp, by simpa using F13, by simpa using F14, by simpa using fun h => (F11 h).ne_new⟩
          · have hg : Below w9.heap.size w9 (w9.alloc (.cells #[.int .i64 0, .int .i64 0] 39)) := bl_alloc (bl_refl _) _
            have hs : seen 13 = false := by
              cases h : seen 13 with
              | false => rfl
              | true => have := F13 h; rw [this] at hsi; cases hsi
            refine wp_value (.pointer (some ⟨w9.heap.size, 0, none⟩)) (w' := w9.alloc (.cells #[.int .i64 0, .int .i64 0] 39)) (by simp [execOp, go_sem]) ⟨_, rfl, bl_trans hb9 hg, ?_⟩
            exact ⟨by simpa using F0, by simpa using F1, by simpa using F2, by simpa using F3, by simpa using F4, by simpa using F5, by simpa using F6, by simpa using F7, by simpa using F8, by simpa using F9, by simpa using fun h => (F10 h).mono hg, by simpa [hs] using BoxAt.new (by have := hb9.size; omega), by simpa using F12, by simp, by simpa using F14, by simpa using fun h => ((F10 h).ne_new).symm⟩
          · have d10 := hdep ⟨10, .data⟩ (by simp) rfl
            have d7 := hdep ⟨7, .data⟩ (by simp) rfl
            have e7 := val_at (F7 d7)
            have e1 := F10 d10
            rw [hsi] at e1
            simp only [Bool.false_eq_true, if_false] at e1
            obtain ⟨B, hB, hB2, hB3⟩ := e1
            have ep := val_at hB
            have c0 := cell_of_heap (i := 0) hB3
            have c1 := cell_of_heap (i := 1) hB3
            have f0 := frozen_of_heap (i := 0) hB3
            have f1 := frozen_of_heap (i := 1) hB3
            have hBl := (Array.getElem?_eq_some_iff.1 hB3).1
            have hst := BoxAt.stored2 hB hB2 hB3 (.int .i64 lo.1) (.int .i64 lo.2)
            refine wp_effect (w' := (w9.setCell ⟨B, 0, none⟩ (.int .i64 lo.1)).setCell ⟨B, 1, none⟩ (.int .i64 lo.2)) (by simp [execOp, e7, ep, go_sem, c0, c1, f0, f1]) ⟨_, rfl, bl_set (bl_set hb9 _ hB2) _ hB2, ?_⟩
            exact ⟨by simpa using F0, by simpa using F1, by simpa using F2, by simpa using F3, by simpa using F4, by simpa using F5, by simpa using F6, by simpa using F7, by simpa using F8, by simpa using F9, by simpa using fun _ => hst.1, by simpa using fun h => hst.2 _ _ _ (F11 h) (fun e => F15 d10 h (hB.trans e.symm)), by simpa using d10, by simpa using F13, by simpa using F14, by simpa using F15⟩
          · have d11 := hdep ⟨11, .data⟩ (by simp) rfl
            have d8 := hdep ⟨8, .data⟩ (by simp) rfl
            have e8 := val_at (F8 d8)
            have e1 := F11 d11
            rw [hsi] at e1
            simp only [Bool.false_eq_true, if_false] at e1
            obtain ⟨B, hB, hB2, hB3⟩ := e1
            have ep := val_at hB
            have c0 := cell_of_heap (i := 0) hB3
            have c1 := cell_of_heap (i := 1) hB3
            have f0 := frozen_of_heap (i := 0) hB3
            have f1 := frozen_of_heap (i := 1) hB3
            have hBl := (Array.getElem?_eq_some_iff.1 hB3).1
            have hst := BoxAt.stored2 hB hB2 hB3 (.int .i64 hi.1) (.int .i64 hi.2)
            refine wp_effect (w' := (w9.setCell ⟨B, 0, none⟩ (.int .i64 hi.1)).setCell ⟨B, 1, none⟩ (.int .i64 hi.2)) (by simp [execOp, e8, ep, go_sem, c0, c1, f0, f1]) ⟨_, rfl, bl_set (bl_set hb9 _ hB2) _ hB2, ?_⟩
            exact ⟨by simpa using F0, by simpa using F1, by simpa using F2, by simpa using F3, by simpa using F4, by simpa using F5, by simpa using F6, by simpa using F7, by simpa using F8, by simpa using F9, by simpa using fun h => hst.2 _ _ _ (F10 h) (fun e => F15 h d11 (e.trans hB.symm)), by simpa using fun _ => hst.1, by simpa using F12, by simpa using d11, by simpa using F14, by simpa using F15⟩
          · have d9 := hdep ⟨9, .data⟩ (by simp) rfl
            have e9 := val_at (F9 d9)
            refine wp_value (.int .i64 eD) (w' := w9) (by simp [execOp, e9, go_sem]) ⟨_, rfl, hb9, ?_⟩
            exact ⟨by simpa using F0, by simpa using F1, by simpa using F2, by simpa using F3, by simpa using F4, by simpa using F5, by simpa using F6, by simpa using F7, by simpa using F8, by simpa using F9, by simpa using F10, by simpa using F11, by simpa using F12, by simpa using F13, by simp, by simpa using F15⟩
        intro u w5 hb5 seen hall ⟨F0, F1, F2, F3, F4, F5, F6, F7, F8, F9, F10, F11, F12, F13, F14, F15⟩
        replace F0 := F0 (hall 0 (by decide))
        replace F1 := F1 (hall 1 (by decide))
        replace F2 := F2 (hall 2 (by decide))
        replace F3 := F3 (hall 3 (by decide))
        replace F4 := F4 (hall 4 (by decide))
        replace F5 := F5 (hall 5 (by decide))
        replace F6 := F6 (hall 6 (by decide))
        replace F7 := F7 (hall 7 (by decide))
        replace F8 := F8 (hall 8 (by decide))
        replace F9 := F9 (hall 9 (by decide))
        replace F10 := F10 (hall 10 (by decide))
        replace F11 := F11 (hall 11 (by decide))
        replace F12 := F12 (hall 12 (by decide))
        replace F13 := F13 (hall 13 (by decide))
        replace F14 := F14 (hall 14 (by decide))
        rw [hall 12 (by decide), if_pos rfl] at F10
        rw [hall 13 (by decide), if_pos rfl] at F11
        obtain ⟨B1, hu1, hBb1, m1⟩ := F10
        obtain ⟨B2, hu2, hBb2, m2⟩ := F11
        simp only [setAll, F0, F1, F2, F3, F4, F5, F6, F7, F8, F9, F14, hu1, hu2]
        have M1 := hid m1
        have M2 := hid m2
        replace HQ := hid (fun W (hW : Below w5.heap.size w5 W) => HQ.out W (bl_trans hb5 hW))
        replace HQX := hid (fun W (hW : Below w5.heap.size w5 W) => HQX.out W (bl_trans hb5 hW))
        replace G22 := hid (fun W (hW : Below w5.heap.size w5 W) => G22.out W (bl_trans hb5 hW))
        replace G31 := hid (fun (n d : Int) W (hW : Below w5.heap.size w5 W) => G31.out n d W (bl_trans hb5 hW))
        clear F0 F1 F2 F3 F4 F5 F6 F7 F8 F9 F12 F13 F14 F15 hall hu1 hu2 hBb1 hBb2 m1 m2
        obtain ⟨hp5, hk5, hz5, hy5⟩ := HQ.out w5 (bl_refl _)
        obtain ⟨hxx5, hxl5⟩ := HQX.out w5 (bl_refl _)
        go_wp2
        refine wp_region_below (by kernel_rfl) (by kernel_rfl) ?_
        repeat (first | go_big_quiet_step (exact Calls.regrown_of (G31.out _ _ _ (below_regrown _ _ _))) | quiet_step (exact Calls.regrown_of (G31.out _ _ _ (below_regrown _ _ _))))
        refine wpQuiet_nil ?_
        intro w6 hb6
        rw [HCX.out]
        replace HQ := hid (fun W (hW : Below w6.heap.size w6 W) => HQ.out W (bl_trans hb6 hW))
        replace HQX := hid (fun W (hW : Below w6.heap.size w6 W) => HQX.out W (bl_trans hb6 hW))
        replace G22 := hid (fun W (hW : Below w6.heap.size w6 W) => G22.out W (bl_trans hb6 hW))
        replace G31 := hid (fun (n d : Int) W (hW : Below w6.heap.size w6 W) => G31.out n d W (bl_trans hb6 hW))
        have M16 := hid (heap_mono M1.out hb6)
        have M26 := hid (heap_mono M2.out hb6)
        clear hp5 hk5 hz5 hy5 hxx5 hxl5 M1 M2
        have hBe := bl_trans hBr (bl_trans hba (bl_trans hb5 hb6))
        clear HQ HQX G22 G31 M16 M26 GG
        go_wp2
        go_roundw
        case rel => exact ⟨k + 1, by omega, by go_num, hBe⟩
        case measure => simp [intOf]; omega
    · obtain rfl : k = 2 := by omega
      go_wp2_with fail
      refine (works_any _).mono ?_
      rintro e wz ⟨rfl, hbz⟩
      go_wp2
      go_ret
      exact ⟨rfl, bl_trans hB4 (bl_trans hBr hbz)⟩

theorem shareFair_any (had : List Int) (part prize : Int) (xs : List Int) (num den by8 : Int) (s s2 : Value) (w : World) (hs : Ints w s had) (hs2 : Ints w s2 xs) (hby : 0 ≤ by8 ∧ by8 < 256) :
    Calls Try.prog 7 #[.agg #[s, .int .i64 part, .int .i64 prize], s2, .agg #[.int .i64 num, .int .i64 den], .int .u8 by8] w fun e w' => e = .returned (.bool true) ∧ Below w.heap.size w w' := by
  by_cases h0 : checkPool had part prize = 0
  · by_cases h1 : xs.length ≤ 20
    · by_cases hp : prize = 0
      · exact shareFair_none had part prize xs num den by8 s s2 w hs hs2 hby h0 h1 hp
      · exact shareFair_some had part prize xs num den by8 s s2 w hs hs2 hby h0 h1 hp
    · exact shareFair_out had part prize xs num den by8 s s2 w hs hs2 hby (.inr (by omega))
  · exact shareFair_out had part prize xs num den by8 s s2 w hs hs2 hby (.inl h0)

end Go.Proofs.Ytfchcikdcnloaaa
