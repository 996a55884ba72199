/- Plain law: the shares that are given are fair, and who comes before whom; if an owner had more. -/
import Derived.Test.YtfchcikdcnloaaaRefl
namespace Go.Proofs.Ytfchcikdcnloaaa

/-- Fair, by products. -/
def FairP (had : List Int) (part : Int) (sh : List Int) : Prop :=
  ∀ i k, i < had.length → k < had.length → 0 < sh.getD i 0 → had.getD k 0 * (100 * (sh.getD i 0 - 1) + part) ≤ had.getD i 0 * (100 * sh.getD k 0 + part)

theorem had_at {had : List Int} {part prize : Int} (V : Val had part prize) {i : Nat} (hi : i < had.length) : 1 ≤ had.getD i 0 ∧ had.getD i 0 ≤ 1000000 := by
  obtain ⟨x, hx⟩ := get_at hi
  have := V.h1 i x hx
  simp only [List.getD, hx, Option.getD_some]
  exact this

theorem fairP_iff {had sh : List Int} {part prize : Int} (V : Val had part prize) (hlen : sh.length = had.length) : isFairR had part sh = true ↔ FairP had part sh := by
  rw [isFairR_true]
  constructor
  · intro h i k hi hk hs
    by_cases e : k = i
    · subst e
      exact Int.mul_le_mul_of_nonneg_left (by omega) (by have := had_at V hi; omega)
    · have := h i k (by omega) (by omega)
      simp only [fairAt, Bool.not_eq_true', Bool.and_eq_false_iff, decide_eq_false_iff_not] at this
      rcases this with (h1 | h1) | h1
      · exact absurd hs h1
      · exact absurd e h1
      · omega
  · intro h i k hi hk
    simp only [fairAt, Bool.not_eq_true', Bool.and_eq_false_iff, decide_eq_false_iff_not]
    by_cases hs : 0 < sh.getD i 0
    · right
      have := h i k (by omega) (by omega) hs
      omega
    · exact .inl (.inl hs)

/-! ### Sums -/
def sumN (f : Nat → Int) : Nat → Int
  | 0 => 0
  | k + 1 => sumN f k + f k
theorem sumN_le {f g : Nat → Int} {n : Nat} (h : ∀ i, i < n → f i ≤ g i) : sumN f n ≤ sumN g n := by
  induction n with
  | zero => exact Int.le_refl _
  | succ n ih => have := ih (fun i hi => h i (by omega)); have := h n (by omega); simp only [sumN]; omega
theorem sumN_lt {f g : Nat → Int} {n j : Nat} (h : ∀ i, i < n → f i ≤ g i) (hj : j < n) (hs : f j < g j) : sumN f n < sumN g n := by
  induction n with
  | zero => omega
  | succ n ih =>
    have h1 := sumN_le (n := n) (fun i hi => h i (by omega))
    have h2 := h n (by omega)
    simp only [sumN]
    by_cases e : j = n
    · subst e; omega
    · have := ih (fun i hi => h i (by omega)) (by omega); omega
theorem sumN_congr {f g : Nat → Int} {n : Nat} (h : ∀ i, i < n → f i = g i) : sumN f n = sumN g n := by
  induction n with
  | zero => rfl
  | succ n ih => simp only [sumN]; rw [ih (fun i hi => h i (by omega)), h n (by omega)]
/-- If the sums are equal and one is less, another one is more. -/
theorem sumN_other {f g : Nat → Int} {n j : Nat} (he : sumN f n = sumN g n) (hj : j < n) (hs : f j < g j) : ∃ k, k < n ∧ g k < f k := by
  refine Classical.byContradiction fun hn => ?_
  have := sumN_lt (f := f) (g := g) (fun i hi => by
    have : ¬ g i < f i := fun h => hn ⟨i, hi, h⟩
    omega) hj hs
  omega
theorem sum_append (a b : List Int) : (a ++ b).sum = a.sum + b.sum := by
  induction a with
  | nil => simp
  | cons x l ih => simp only [List.cons_append, List.sum_cons, ih]; omega
theorem sum_sumN (l : List Int) : l.sum = sumN (fun i => l.getD i 0) l.length := by
  refine from_end (P := fun l => l.sum = sumN (fun i => l.getD i 0) l.length) rfl ?_ l
  intro l x ih
  rw [sum_append, ih, List.length_append, List.length_singleton]
  simp only [sumN]
  rw [sumN_congr (g := fun i => (l ++ [x]).getD i 0) (fun i hi => by simp [List.getD, List.getElem?_append_left hi])]
  simp [List.getD]
theorem sum_set {l : List Int} {x : Nat} {y : Int} (z : Int) (h : l[x]? = some y) : (l.set x z).sum = l.sum - y + z := by
  induction l generalizing x with
  | nil => cases h
  | cons a l ih =>
    cases x with
    | zero => simp at h; subst h; simp; omega
    | succ x => simp at h; have := ih h; simp; omega

theorem cnt_sum (n : Nat) (l : List Nat) : (∀ x ∈ l, x < n) → (cntOf n l).sum = l.length := by
  refine from_end (P := fun l => (∀ x ∈ l, x < n) → (cntOf n l).sum = l.length) ?_ ?_ l
  · intro _
    show (List.replicate n (0 : Int)).sum = 0
    induction n with
    | zero => rfl
    | succ n ih => simp
  · intro l x ih h
    obtain ⟨y, hy⟩ := get_at (l := cntOf n l) (k := x) (by rw [cntOf_len]; exact h x (by simp))
    rw [cntOf_snoc]
    unfold bump
    rw [sum_set _ hy, ih (fun z hz => h z (by simp [hz]))]
    simp only [List.getD, hy, Option.getD_some, List.length_append, List.length_singleton]
    omega

section
variable {had : List Int} {part prize : Int}
theorem own_cnt (V : Val had part prize) : sharesE had part prize = cntOf had.length (ordR had part prize.toNat) := by
  rw [shares_law V, sharesE, if_pos (checkPool_ok.2 V)]
theorem own_ok (V : Val had part prize) : ShOk had part prize (sharesE had part prize) := by
  have hz := V.z1
  have e := own_cnt V
  have hl := ordR_len had part prize.toNat
  refine ⟨V, (shares_facts V).1, fun x hx => ?_, ?_⟩
  · rw [e] at hx
    obtain ⟨i, hi, rfl⟩ := List.mem_iff_getElem.mp hx
    have := cntOf_le had.length (ordR had part prize.toNat) i
    simp only [List.getD, List.getElem?_eq_getElem hi, Option.getD_some] at this
    omega
  · rw [e, cnt_sum _ _ (ordR_lt part V.l1 _), hl]
    omega
theorem fairG_P {got sh : List Int} (V : Val had part prize) (G : GotOk got) (F : FairG had part got) (he : ∀ i, i < had.length → sh.getD i 0 = got.getD i 0) : FairP had part sh := by
  intro i k hi hk hs
  rw [he i hi] at hs ⊢
  rw [he k hk]
  have := F i k hi hk hs
  rw [last_next V G hi hk hs, decide_eq_false_iff_not] at this
  omega
theorem own_fairP (V : Val had part prize) : FairP had part (sharesE had part prize) := fairG_P V (gotEnd_ok V) (end_fair V) (shares_facts V).2.2
theorem own_fair (V : Val had part prize) : refSharesE had part prize (sharesE had part prize) = 0 := by
  unfold refSharesE
  rw [if_neg (by simpa using sharedE_ok.2 (own_ok V)), if_pos ((fairP_iff V (shares_facts V).1).2 (own_fairP V))]
theorem refShares_ok' {sh : List Int} : refSharesE had part prize sh = 0 ↔ ShOk had part prize sh ∧ FairP had part sh := by
  unfold refSharesE
  by_cases h : sharedE had part prize sh = 0
  · have O := sharedE_ok.1 h
    rw [if_neg (by simpa using h)]
    constructor
    · intro h2
      refine ⟨O, (fairP_iff O.V O.len).1 ?_⟩
      by_cases h3 : isFairR had part sh = true
      · exact h3
      · rw [if_neg h3] at h2; cases h2
    · rintro ⟨_, F⟩
      rw [if_pos ((fairP_iff O.V O.len).2 F)]
  · rw [if_pos h]
    exact ⟨fun h2 => absurd h2 h, fun h2 => absurd (sharedE_ok.2 h2.1) h⟩

/-! ### Who comes before whom -/
theorem frac_lt {a b c d e f : Int} (hb : 0 < b) (hd : 0 < d) (hf : 0 < f) (h1 : a * d ≤ c * b) (h2 : c * f < e * d) : a * f < e * b := by
  have k1 := Int.mul_le_mul_of_nonneg_right h1 (show 0 ≤ f by omega)
  have k2 := Int.mul_lt_mul_of_pos_right h2 hb
  have e1 : a * d * f = a * f * d := by rw [Int.mul_assoc, Int.mul_comm d f, Int.mul_assoc]
  have e2 : c * b * f = c * f * b := by rw [Int.mul_assoc, Int.mul_comm b f, Int.mul_assoc]
  have e3 : e * d * b = e * b * d := by rw [Int.mul_assoc, Int.mul_comm d b, Int.mul_assoc]
  exact Int.lt_of_mul_lt_mul_right (a := d) (by omega) (by omega)
theorem frac_le {a b c d e f : Int} (hb : 0 < b) (hd : 0 < d) (hf : 0 < f) (h1 : a * d ≤ c * b) (h2 : c * f ≤ e * d) : a * f ≤ e * b := by
  have k1 := Int.mul_le_mul_of_nonneg_right h1 (show 0 ≤ f by omega)
  have k2 := Int.mul_le_mul_of_nonneg_right h2 (show 0 ≤ b by omega)
  have e1 : a * d * f = a * f * d := by rw [Int.mul_assoc, Int.mul_comm d f, Int.mul_assoc]
  have e2 : c * b * f = c * f * b := by rw [Int.mul_assoc, Int.mul_comm b f, Int.mul_assoc]
  have e3 : e * d * b = e * b * d := by rw [Int.mul_assoc, Int.mul_comm d b, Int.mul_assoc]
  exact Int.le_of_mul_le_mul_right (a := d) (by omega) (by omega)

theorem refBest_best (V : Val had part prize) {sh : List Int} (hs : ∀ i, i < had.length → 0 ≤ sh.getD i 0) : ∀ k, k < had.length → ∀ i, i ≤ k →
    had.getD i 0 * (100 * sh.getD (refBest had part sh k) 0 + part) ≤ had.getD (refBest had part sh k) 0 * (100 * sh.getD i 0 + part) ∧
    (i < refBest had part sh k → had.getD i 0 * (100 * sh.getD (refBest had part sh k) 0 + part) < had.getD (refBest had part sh k) 0 * (100 * sh.getD i 0 + part)) := by
  have hp := V.p1
  intro k
  induction k with
  | zero =>
    intro _ i hi
    obtain rfl : i = 0 := by omega
    exact ⟨Int.le_refl _, fun h => absurd h (by unfold refBest; omega)⟩
  | succ k ih =>
    intro hk i hi
    have hb := refBest_le had part sh k
    rw [refBest]
    have p1 := hs (refBest had part sh k) (by omega)
    have p2 := hs (k + 1) (by omega)
    have p3 := hs i (by omega)
    split
    · rename_i hlt
      by_cases e : i = k + 1
      · subst e; exact ⟨Int.le_refl _, fun h => by omega⟩
      · have := (ih (by omega) i (by omega)).1
        have h2 := frac_lt (show 0 < 100 * sh.getD i 0 + part by omega) (show 0 < 100 * sh.getD (refBest had part sh k) 0 + part by omega) (show 0 < 100 * sh.getD (k + 1) 0 + part by omega) this hlt
        exact ⟨by omega, fun _ => h2⟩
    · rename_i hlt
      by_cases e : i = k + 1
      · subst e; exact ⟨by omega, fun h => by omega⟩
      · exact ih (by omega) i (by omega)

/-- The last log of i came before the next one of k. -/
def Pri (had : List Int) (part : Int) (sh : List Int) (i k : Nat) : Prop :=
  had.getD k 0 * (100 * (sh.getD i 0 - 1) + part) < had.getD i 0 * (100 * sh.getD k 0 + part) ∨ (had.getD k 0 * (100 * (sh.getD i 0 - 1) + part) = had.getD i 0 * (100 * sh.getD k 0 + part) ∧ i < k)

theorem pri_all (V : Val had part prize) : ∀ m, ∀ i k, i < had.length → k < had.length → i ≠ k → 0 < (cntOf had.length (ordR had part m)).getD i 0 → Pri had part (cntOf had.length (ordR had part m)) i k := by
  have hl := V.l1
  intro m
  induction m with
  | zero =>
    intro i k hi _ _ h
    simp [ordR, cntOf, List.getD, hi] at h
  | succ m ih =>
    intro i k hi hk hik h
    have hlen := cntOf_len had.length (ordR had part m)
    have h0 := fun i => (cntOf_le had.length (ordR had part m) i).1
    have hB := fun q (hq : q < had.length) => refBest_best V (fun i _ => h0 i) (had.length - 1) (by omega) q (by omega)
    have hj := refBest_le had part (cntOf had.length (ordR had part m)) (had.length - 1)
    rw [ordR, cntOf_snoc] at h ⊢
    generalize refBest had part (cntOf had.length (ordR had part m)) (had.length - 1) = j at *
    generalize cntOf had.length (ordR had part m) = sh at *
    have hb := fun i => bump_getD sh j i (by omega)
    unfold Pri at ih ⊢
    rw [hb i] at h
    simp only [hb i, hb k]
    by_cases e1 : j = i
    · rw [if_pos e1, if_neg (by omega)]
      subst e1
      obtain ⟨b1, b2⟩ := hB k hk
      rw [show sh.getD j 0 + 1 - 1 = sh.getD j 0 by omega]
      by_cases hkj : k < j
      · exact .inl (b2 hkj)
      · rcases Int.lt_or_eq_of_le b1 with h1 | h1
        · exact .inl h1
        · exact .inr ⟨h1, by omega⟩
    · rw [if_neg e1] at h ⊢
      by_cases e2 : j = k
      · rw [if_pos e2]
        subst e2
        left
        have hh := had_at V hi
        have h2 := ih i j hi hk hik h
        have h3 : had.getD i 0 * (100 * sh.getD j 0 + part) < had.getD i 0 * (100 * (sh.getD j 0 + 1) + part) := Int.mul_lt_mul_of_pos_left (by omega) (by omega)
        rcases h2 with h2 | h2 <;> omega
      · rw [if_neg e2]
        exact ih i k hi hk hik h

theorem own_pri (V : Val had part prize) {i k : Nat} (hi : i < had.length) (hk : k < had.length) (hik : i ≠ k) (h : 0 < (sharesE had part prize).getD i 0) : Pri had part (sharesE had part prize) i k := by
  rw [own_cnt V] at h ⊢
  exact pri_all V _ i k hi hk hik h

theorem own_sumN (V : Val had part prize) : sumN (fun i => (sharesE had part prize).getD i 0) had.length = prize := by
  have O := own_ok V
  have := sum_sumN (sharesE had part prize)
  rw [O.len, O.sum] at this
  exact this.symm
theorem own_nonneg (V : Val had part prize) (i : Nat) : 0 ≤ (sharesE had part prize).getD i 0 := by
  rw [own_cnt V]; exact (cntOf_le _ _ i).1

/-- Of two owners whose Had stayed, or of which the first one had more, the first one does not get fewer while the second one gets more. -/
theorem no_swap {had2 : List Int} (V : Val had part prize) (V2 : Val had2 part prize) {i k : Nat} (hi : i < had.length) (hk : k < had.length) (hl : had2.length = had.length) (hA : had.getD i 0 ≤ had2.getD i 0) (hB : had2.getD k 0 = had.getD k 0)
    (h1 : (sharesE had2 part prize).getD i 0 < (sharesE had part prize).getD i 0) (h2 : (sharesE had part prize).getD k 0 < (sharesE had2 part prize).getD k 0) : False := by
  have hik : i ≠ k := by rintro rfl; omega
  have hp := V.p1
  have n1 := own_nonneg V k
  have n2 := own_nonneg V2 i
  have p1 := own_pri V hi hk hik (by omega)
  have p2 := own_pri V2 (i := k) (k := i) (by omega) (by omega) (Ne.symm hik) (by omega)
  have a1 := had_at V hi
  have a2 := had_at V hk
  unfold Pri at p1 p2
  rw [hB] at p2
  generalize (sharesE had part prize).getD i 0 = x at *
  generalize (sharesE had part prize).getD k 0 = y at *
  generalize (sharesE had2 part prize).getD i 0 = u at *
  generalize (sharesE had2 part prize).getD k 0 = v at *
  generalize had.getD i 0 = A at *
  generalize had.getD k 0 = B at *
  generalize had2.getD i 0 = A' at *
  have c1 : A * (100 * y + part) ≤ A' * (100 * y + part) := Int.mul_le_mul_of_nonneg_right hA (by omega)
  have c2 : A' * (100 * y + part) ≤ A' * (100 * (v - 1) + part) := Int.mul_le_mul_of_nonneg_left (by omega) (by omega)
  have c3 : B * (100 * u + part) ≤ B * (100 * (x - 1) + part) := Int.mul_le_mul_of_nonneg_left (by omega) (by omega)
  rcases p1 with p1 | ⟨p1, q1⟩ <;> rcases p2 with p2 | ⟨p2, q2⟩ <;> omega

/-- If one owner had more, it gets no fewer, and no other one gets more. -/
theorem had_more {had2 : List Int} (V : Val had part prize) (V2 : Val had2 part prize) {i : Nat} (hi : i < had.length) (hl : had2.length = had.length) (hA : had.getD i 0 ≤ had2.getD i 0) (hB : ∀ k, k < had.length → k ≠ i → had2.getD k 0 = had.getD k 0) :
    (sharesE had part prize).getD i 0 ≤ (sharesE had2 part prize).getD i 0 ∧ ∀ k, k < had.length → k ≠ i → (sharesE had2 part prize).getD k 0 ≤ (sharesE had part prize).getD k 0 := by
  have s1 := own_sumN V
  have s2 := own_sumN V2
  rw [hl] at s2
  have se := s1.trans s2.symm
  have first : (sharesE had part prize).getD i 0 ≤ (sharesE had2 part prize).getD i 0 := by
    refine Int.not_lt.1 fun h => ?_
    obtain ⟨k, hk, h2⟩ := sumN_other (j := i) se.symm hi h
    have hki : k ≠ i := by rintro rfl; omega
    exact no_swap V V2 hi hk hl hA (hB k hk hki) h h2
  refine ⟨first, fun k hk hki => ?_⟩
  refine Int.not_lt.1 fun h => ?_
  obtain ⟨m, hm, h2⟩ := sumN_other (j := k) se hk h
  have hmi : m ≠ i := by rintro rfl; omega
  have hmk : m ≠ k := by rintro rfl; omega
  exact no_swap V V2 hm hk hl (by rw [hB m hm hmi]; exact Int.le_refl _) (hB k hk hki) h2 h

/-- With a greater Part not the one that had more gets fewer while the other one gets more. -/
theorem part_law {part2 : Int} {s t : List Int} (V : Val had part prize) (V2 : Val had part2 prize) (hlt : part < part2) (F : FairP had part s) (F2 : FairP had part2 t) (hs : ∀ i, 0 ≤ s.getD i 0) (ht : ∀ i, 0 ≤ t.getD i 0) {i k : Nat} (hi : i < had.length) (hk : k < had.length) (hh : had.getD k 0 < had.getD i 0) (h1 : t.getD i 0 < s.getD i 0) (h2 : s.getD k 0 < t.getD k 0) : False := by
  have n1 := ht i
  have n2 := hs k
  have f1 := F i k hi hk (by omega)
  have f2 := F2 k i hk hi (by omega)
  have a1 := had_at V hi
  have a2 := had_at V hk
  have hp := V.p1
  generalize s.getD i 0 = x at *
  generalize s.getD k 0 = y at *
  generalize t.getD i 0 = u at *
  generalize t.getD k 0 = v at *
  generalize had.getD i 0 = A at *
  generalize had.getD k 0 = B at *
  obtain ⟨d, rfl⟩ : ∃ d, part2 = part + d := ⟨part2 - part, by omega⟩
  have c2 : A * (100 * y + (part + d)) ≤ A * (100 * (v - 1) + (part + d)) := Int.mul_le_mul_of_nonneg_left (by omega) (by omega)
  have c3 : B * (100 * u + (part + d)) ≤ B * (100 * (x - 1) + (part + d)) := Int.mul_le_mul_of_nonneg_left (by omega) (by omega)
  have c4 : B * d < A * d := Int.mul_lt_mul_of_pos_right hh (by omega)
  rw [show A * (100 * y + (part + d)) = A * (100 * y + part) + A * d by rw [← Int.mul_add, Int.add_assoc]] at c2
  rw [show B * (100 * (x - 1) + (part + d)) = B * (100 * (x - 1) + part) + B * d by rw [← Int.mul_add, Int.add_assoc]] at c3
  omega
end

end Go.Proofs.Ytfchcikdcnloaaa
