/- Plain law: which divisors round to shares. -/
import Derived.Test.YtfchcikdcnloaaaPlain
import Derived.Test.YtfchcikdcnloaaaRefj
namespace Go.Proofs.Ytfchcikdcnloaaa

theorem less_frac_l {a b n d : Int} (ha : 0 < a) (hb : 0 < b) : lessB (n, d) (quo a b) = decide (n * b < a * d) := by
  obtain ⟨g, hg, e1, e2, _, _, _⟩ := quo_facts ha hb
  simp only [lessB]
  congr 1
  generalize quo a b = q at *
  subst e1 e2
  rw [show n * (q.2 * g) = n * q.2 * g by rw [Int.mul_assoc], show q.1 * g * d = q.1 * d * g by rw [Int.mul_assoc, Int.mul_comm g d, Int.mul_assoc]]
  exact propext ⟨fun h => Int.mul_lt_mul_of_pos_right h hg, fun h => Int.lt_of_mul_lt_mul_right h (by omega)⟩
theorem less_frac_r {a b n d : Int} (ha : 0 < a) (hb : 0 < b) : lessB (quo a b) (n, d) = decide (a * d < n * b) := by
  obtain ⟨g, hg, e1, e2, _, _, _⟩ := quo_facts ha hb
  simp only [lessB]
  congr 1
  generalize quo a b = q at *
  subst e1 e2
  rw [show n * (q.2 * g) = n * q.2 * g by rw [Int.mul_assoc], show q.1 * g * d = q.1 * d * g by rw [Int.mul_assoc, Int.mul_comm g d, Int.mul_assoc]]
  exact propext ⟨fun h => Int.mul_lt_mul_of_pos_right h hg, fun h => Int.lt_of_mul_lt_mul_right h (by omega)⟩

section
variable {had sh : List Int} {part prize : Int}

theorem sh_at (O : ShOk had part prize sh) {i : Nat} (hi : i < had.length) : 0 ≤ sh.getD i 0 ∧ sh.getD i 0 ≤ 1000 := by
  obtain ⟨x, hx⟩ := get_at (l := sh) (k := i) (by rw [O.len]; exact hi)
  have := O.rng x (List.mem_of_getElem? hx)
  have := O.V.z2
  simp only [List.getD, hx, Option.getD_some]
  omega
theorem pad_at (O : ShOk had part prize sh) {i : Nat} (hi : i < had.length) : (padTo sh).getD i 0 = sh.getD i 0 := padTo_getD (by rw [O.len]; exact hi)

theorem sh_some (O : ShOk had part prize sh) (hp : prize ≠ 0) : ∃ i, i < had.length ∧ 0 < (padTo sh).getD i 0 := by
  have hz := O.V.z1
  refine Classical.byContradiction fun hn => ?_
  have h0 : ∀ x ∈ sh, x = 0 := fun x hx => by
    obtain ⟨i, hi, rfl⟩ := List.mem_iff_getElem.mp hx
    have h1 := O.rng _ hx
    have h2 : ¬ 0 < (padTo sh).getD i 0 := fun h => hn ⟨i, by rw [← O.len]; exact hi, h⟩
    rw [padTo_getD hi] at h2
    simp only [List.getD, List.getElem?_eq_getElem hi, Option.getD_some] at h2
    omega
  have h3 := O.sum
  have h4 := sum_bd (l := sh) (p := 0) (fun x hx => by have := h0 x hx; omega)
  omega

theorem allRounds_iff {num den : Int} : allRounds had part sh num den = true ↔ ∀ i, i < sh.length → roundsB (had.getD i 0) part (sh.getD i 0) num den = true := by
  simp [allRounds]

/-- A divisor rounds just if it lies between all quotients. -/
theorem rounds_iff (O : ShOk had part prize sh) {num den : Int} : allRounds had part sh num den = true ↔ (∀ i, i < had.length → lessB (num, den) (nextQ had part (padTo sh) i) = false) ∧ (∀ i, i < had.length → 0 < (padTo sh).getD i 0 → lessB (lastQ had part (padTo sh) i) (num, den) = false) := by
  have G := O.got
  have key : ∀ i, i < had.length → (roundsB (had.getD i 0) part (sh.getD i 0) num den = true ↔ lessB (num, den) (nextQ had part (padTo sh) i) = false ∧ (0 < (padTo sh).getD i 0 → lessB (lastQ had part (padTo sh) i) (num, den) = false)) := fun i hi => by
    have p1 := next_pos O.V G hi
    have s1 := sh_at O hi
    have e := pad_at O hi
    rw [next_quo, less_frac_l p1.1 p1.2, decide_eq_false_iff_not]
    simp only [roundsB, Bool.and_eq_true, Bool.or_eq_true, decide_eq_true_eq]
    by_cases h : 0 < (padTo sh).getD i 0
    · have p2 := last_pos O.V G hi h
      rw [lastQ_eq h, less_frac_r p2.1 p2.2, decide_eq_false_iff_not, e] at *
      rw [Int.mul_comm num, Int.mul_comm num]
      constructor
      · rintro ⟨h1, h2⟩
        exact ⟨by omega, fun _ => by omega⟩
      · rintro ⟨h1, h2⟩
        exact ⟨by omega, .inr (by have := h2 h; omega)⟩
    · rw [e] at h ⊢
      rw [Int.mul_comm num]
      constructor
      · rintro ⟨h1, h2⟩
        exact ⟨by omega, fun h3 => absurd h3 h⟩
      · rintro ⟨h1, h2⟩
        exact ⟨by omega, .inl (by omega)⟩
  rw [allRounds_iff, O.len]
  constructor
  · intro h
    exact ⟨fun i hi => ((key i hi).1 (h i hi)).1, fun i hi hg => ((key i hi).1 (h i hi)).2 hg⟩
  · rintro ⟨h1, h2⟩ i hi
    exact (key i hi).2 ⟨h1 i hi, h2 i hi⟩

theorem fairP_G (O : ShOk had part prize sh) : FairP had part sh ↔ FairG had part (padTo sh) := by
  have G := O.got
  constructor
  · intro F i k hi hk hg
    rw [last_next O.V G hi hk hg, decide_eq_false_iff_not, pad_at O hi, pad_at O hk]
    have := F i k hi hk (by rw [← pad_at O hi]; exact hg)
    omega
  · intro F
    exact fairG_P O.V G F (fun i hi => (pad_at O hi).symm)

/-- What a divisor rounds to is fair. -/
theorem rounds_fair (O : ShOk had part prize sh) {num den : Int} (hd : 0 < den) (h : allRounds had part sh num den = true) : FairP had part sh := by
  have G := O.got
  obtain ⟨h1, h2⟩ := (rounds_iff O).1 h
  refine (fairP_G O).2 fun i k hi hk hg => ?_
  exact ge_trans (y := (num, den)) (lastQ_pos O.V G hi hg) hd (nextQ_pos O.V G hk) (h2 i hi hg) (h1 k hk)

/-- The divisors of fair shares are those between the least and the greatest one. -/
theorem rounds_between (O : ShOk had part prize sh) (hp : prize ≠ 0) {num den : Int} (hd : 0 < den) : allRounds had part sh num den = true ↔ lessB (num, den) (greatQ had part (padTo sh)) = false ∧ lessB (leastQ had part (padTo sh)) (num, den) = false := by
  have G := O.got
  obtain ⟨⟨j, hj, ej⟩, hg⟩ := great_facts O.V G
  obtain ⟨⟨m, hm, hgm, em⟩, hl⟩ := least_facts O.V G (sh_some O hp)
  rw [rounds_iff O]
  constructor
  · rintro ⟨h1, h2⟩
    exact ⟨by rw [ej]; exact h1 j hj, by rw [em]; exact h2 m hm hgm⟩
  · rintro ⟨h1, h2⟩
    refine ⟨fun i hi => ?_, fun i hi hgi => ?_⟩
    · exact ge_trans (y := greatQ had part (padTo sh)) hd (by rw [ej]; exact nextQ_pos O.V G hj) (nextQ_pos O.V G hi) h1 (hg i hi)
    · exact ge_trans (y := leastQ had part (padTo sh)) (lastQ_pos O.V G hi hgi) (by rw [em]; exact lastQ_pos O.V G hm hgm) hd (hl i hi hgi) h2

/-- The numbers of the bounds. -/
def Tiny (q : Int × Int) : Prop := 1 ≤ q.1 ∧ q.1 ≤ 100000000 ∧ 1 ≤ q.2 ∧ q.2 ≤ 100100
theorem tiny_quo {a b : Int} (h1 : 0 < a) (h2 : a ≤ 100000000) (h3 : 0 < b) (h4 : b ≤ 100100) : Tiny (quo a b) := by
  obtain ⟨_, _, _, _, p1, p2, _⟩ := quo_facts h1 h3
  have := (quo_small (a := a) (b := b) (by omega) h2 (by omega) h4).1
  exact ⟨by omega, this.2.1, by omega, this.2.2.2⟩
theorem great_tiny (O : ShOk had part prize sh) : Tiny (greatQ had part (padTo sh)) := by
  obtain ⟨⟨j, hj, ej⟩, _⟩ := great_facts O.V O.got
  have p := next_pos O.V O.got hj
  have a := had_at O.V hj
  have s := sh_at O hj
  have := O.V.p2
  rw [ej, next_quo]
  exact tiny_quo p.1 (by omega) p.2 (by rw [pad_at O hj]; omega)
theorem least_tiny (O : ShOk had part prize sh) (hp : prize ≠ 0) : Tiny (leastQ had part (padTo sh)) := by
  obtain ⟨⟨j, hj, hg, ej⟩, _⟩ := least_facts O.V O.got (sh_some O hp)
  have p := last_pos O.V O.got hj hg
  have a := had_at O.V hj
  have s := sh_at O hj
  have := O.V.p2
  rw [ej, lastQ_eq hg]
  exact tiny_quo p.1 (by omega) p.2 (by rw [pad_at O hj]; omega)
theorem Tiny.div {q : Int × Int} (h : Tiny q) : isDivB q.1 q.2 = true := by
  obtain ⟨h1, h2, h3, h4⟩ := h
  simp [isDivB]
  omega

theorem great_le_least (O : ShOk had part prize sh) (F : FairP had part sh) (hp : prize ≠ 0) : lessB (leastQ had part (padTo sh)) (greatQ had part (padTo sh)) = false := by
  obtain ⟨⟨j, hj, ej⟩, _⟩ := great_facts O.V O.got
  obtain ⟨⟨m, hm, hgm, em⟩, _⟩ := least_facts O.V O.got (sh_some O hp)
  rw [ej, em]
  exact (fairP_G O).1 F m j hm hj hgm

/-- A fraction between two. -/
def betweenQ (lo hi : Int × Int) (n : Int) : Int × Int := quo ((8 - n) * lo.1 * hi.2 + n * hi.1 * lo.2) (8 * lo.2 * hi.2)
theorem between_pos {lo hi : Int × Int} {n : Int} (h1 : Tiny lo) (h2 : Tiny hi) (hn : 0 ≤ n) (hn2 : n < 8) : 0 < (8 - n) * lo.1 * hi.2 + n * hi.1 * lo.2 ∧ 0 < 8 * lo.2 * hi.2 := by
  obtain ⟨a1, a2, a3, a4⟩ := h1
  obtain ⟨b1, b2, b3, b4⟩ := h2
  have c1 := Int.mul_pos (Int.mul_pos (show 0 < 8 - n by omega) (show 0 < lo.1 by omega)) (show 0 < hi.2 by omega)
  have c2 := Int.mul_nonneg (Int.mul_nonneg hn (show 0 ≤ hi.1 by omega)) (show 0 ≤ lo.2 by omega)
  have c3 := Int.mul_pos (Int.mul_pos (show (0 : Int) < 8 by omega) (show 0 < lo.2 by omega)) (show 0 < hi.2 by omega)
  omega
theorem between_law {lo hi : Int × Int} {n : Int} (h1 : Tiny lo) (h2 : Tiny hi) (hn : 0 ≤ n) (hn2 : n < 8) (hle : lessB hi lo = false) : lessB (betweenQ lo hi n) lo = false ∧ lessB hi (betweenQ lo hi n) = false := by
  obtain ⟨p1, p2⟩ := between_pos h1 h2 hn hn2
  obtain ⟨a, b⟩ := lo
  obtain ⟨c, d⟩ := hi
  obtain ⟨a1, a2, a3, a4⟩ := h1
  obtain ⟨b1, b2, b3, b4⟩ := h2
  simp only at a1 a2 a3 a4 b1 b2 b3 b4 p1 p2
  simp only [lessB, decide_eq_false_iff_not] at hle
  unfold betweenQ
  rw [less_frac_r p1 p2, less_frac_l p1 p2, decide_eq_false_iff_not, decide_eq_false_iff_not]
  have q1 : 0 ≤ n * (c * b - a * d) := Int.mul_nonneg hn (by omega)
  have q2 : 0 ≤ (8 - n) * (c * b - a * d) := Int.mul_nonneg (by omega) (by omega)
  rw [Int.mul_sub] at q1 q2
  have r1 : (8 - n) * a * d + n * c * b = (8 - n) * (a * d) + n * (c * b) := by rw [Int.mul_assoc, Int.mul_assoc]
  have r2 : a * (8 * b * d) = 8 * (a * d) * b := by
    rw [Int.mul_assoc 8 b d, Int.mul_left_comm a 8, Int.mul_assoc 8 (a * d) b, Int.mul_assoc a d b, Int.mul_comm b d]
  have r3 : c * (8 * b * d) = 8 * (c * b) * d := by
    rw [Int.mul_assoc 8 b d, Int.mul_left_comm c 8, Int.mul_assoc 8 (c * b) d, Int.mul_assoc c b d]
  have e8 : (8 - n) * (a * d) = 8 * (a * d) - n * (a * d) := Int.sub_mul _ _ _
  have f8 : (8 - n) * (c * b) = 8 * (c * b) - n * (c * b) := Int.sub_mul _ _ _
  rw [r1, r2, r3]
  constructor
  · refine Int.not_lt.2 (Int.mul_le_mul_of_nonneg_right ?_ (by omega))
    omega
  · refine Int.not_lt.2 (Int.mul_le_mul_of_nonneg_right ?_ (by omega))
    omega

theorem div_same (hp : prize ≠ 0) : divisorsE had part prize sh = refSharesE had part prize sh := by
  unfold divisorsE
  rw [checkShares_law, if_neg hp]
  split
  · rfl
  · rename_i h; omega
theorem check_fair {num den : Int} (h : checkDivisorE had part prize sh num den = 0) : refSharesE had part prize sh = 0 ∧ isDivB num den = true ∧ allRounds had part sh num den = true := by
  unfold checkDivisorE at h
  by_cases h0 : sharedE had part prize sh = 0
  · rw [if_neg (by simpa using h0)] at h
    have O := sharedE_ok.1 h0
    by_cases hd : withinB 1 1073741824 [num, den] = false
    · rw [if_pos hd] at h; omega
    rw [if_neg hd] at h
    by_cases hr : allRounds had part sh num den = true
    · have hd' : isDivB num den = true := by rw [isDiv_within]; simpa using hd
      have hden : 0 < den := by
        simp only [isDivB, Bool.and_eq_true, decide_eq_true_eq] at hd'
        omega
      exact ⟨refShares_ok'.2 ⟨O, rounds_fair O hden hr⟩, hd', hr⟩
    · rw [if_neg hr] at h; omega
  · rw [if_pos h0] at h
    exact absurd h h0
theorem check_ok (O : ShOk had part prize sh) {num den : Int} (hd : isDivB num den = true) (hr : allRounds had part sh num den = true) : checkDivisorE had part prize sh num den = 0 := by
  unfold checkDivisorE
  rw [if_neg (by simpa using sharedE_ok.2 O), if_neg (by rw [← isDiv_within, hd]; simp), if_pos hr]
end

end Go.Proofs.Ytfchcikdcnloaaa
