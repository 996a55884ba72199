/- Plain law: owners joined; the quota; spans. -/
import Derived.Test.YtfchcikdcnloaaaPlain
namespace Go.Proofs.Ytfchcikdcnloaaa

theorem sumN_add (f g : Nat → Int) (n : Nat) : sumN (fun i => f i + g i) n = sumN f n + sumN g n := by
  induction n with
  | zero => rfl
  | succ n ih => simp only [sumN]; rw [ih]; omega
theorem sumN_mul (c : Int) (f : Nat → Int) (n : Nat) : sumN (fun i => c * f i) n = c * sumN f n := by
  induction n with
  | zero => simp [sumN]
  | succ n ih => simp only [sumN]; rw [ih, Int.mul_add]
theorem sumN_mul_r (c : Int) (f : Nat → Int) (n : Nat) : sumN (fun i => f i * c) n = sumN f n * c := by
  induction n with
  | zero => simp [sumN]
  | succ n ih => simp only [sumN]; rw [ih, Int.add_mul]
theorem sumN_zero (n : Nat) : sumN (fun _ => 0) n = 0 := by
  induction n with
  | zero => rfl
  | succ n ih => simp only [sumN]; rw [ih]; rfl
/-- The sum without one. -/
theorem sumN_but (f : Nat → Int) {n j : Nat} (hj : j < n) : sumN (fun i => if i = j then 0 else f i) n = sumN f n - f j := by
  induction n with
  | zero => omega
  | succ n ih =>
    simp only [sumN]
    by_cases e : j = n
    · subst e
      rw [if_pos rfl, sumN_congr (g := f) (fun i hi => by rw [if_neg (by omega)])]
      omega
    · rw [if_neg (fun h => e h.symm), ih (by omega)]
      omega

section
variable {had : List Int} {prize : Int}
theorem had_sumN (had : List Int) : had.sum = sumN (fun i => had.getD i 0) had.length := sum_sumN had

/-- With Part 100 no fair share is less than the quota, rounded down. -/
theorem quota_law {sh : List Int} (V : Val had 100 prize) (O : ShOk had 100 prize sh) (F : FairP had 100 sh) {i : Nat} (hi : i < had.length) : had.getD i 0 * prize / had.sum ≤ sh.getD i 0 := by
  have hS := had_sum_pos V.mem V.l1
  have hsum : sumN (fun k => sh.getD k 0) had.length = prize := by
    have := sum_sumN sh
    rw [O.len, O.sum] at this
    exact this.symm
  have hnn : ∀ k, 0 ≤ sh.getD k 0 := fun k => by
    by_cases hk : k < sh.length
    · obtain ⟨x, hx⟩ := get_at hk
      have := O.rng x (List.mem_of_getElem? hx)
      simp only [List.getD, hx, Option.getD_some]
      exact this.1
    · simp [List.getD, List.getElem?_eq_none (Nat.le_of_not_lt hk)]
  have hp : ∀ k, k < had.length → had.getD i 0 * (if k = i then 0 else sh.getD k 0) ≤ (if k = i then 0 else had.getD k 0) * (sh.getD i 0 + 1) := fun k hk => by
    by_cases e : k = i
    · rw [if_pos e, if_pos e]; simp
    · rw [if_neg e, if_neg e]
      have ak := had_at V hk
      by_cases hs : 0 < sh.getD k 0
      · have := F k i hk hi hs
        rw [show 100 * (sh.getD k 0 - 1) + 100 = 100 * sh.getD k 0 by omega, show 100 * sh.getD i 0 + 100 = 100 * (sh.getD i 0 + 1) by omega, Int.mul_left_comm, Int.mul_left_comm (had.getD k 0)] at this
        omega
      · have h0 : sh.getD k 0 = 0 := by have := hnn k; omega
        rw [h0]
        have := Int.mul_nonneg (show 0 ≤ had.getD k 0 by omega) (show 0 ≤ sh.getD i 0 + 1 by have := hnn i; omega)
        simpa using this
  have h1 := sumN_le hp
  rw [sumN_mul, sumN_mul_r, sumN_but _ hi, sumN_but _ hi, hsum, ← had_sumN] at h1
  have ai := had_at V hi
  have e1 : had.getD i 0 * (prize - sh.getD i 0) = had.getD i 0 * prize - had.getD i 0 * sh.getD i 0 := Int.mul_sub _ _ _
  have e2 : (had.sum - had.getD i 0) * (sh.getD i 0 + 1) = had.sum * (sh.getD i 0 + 1) - (had.getD i 0 * sh.getD i 0 + had.getD i 0) := by rw [Int.sub_mul, Int.mul_add (had.getD i 0), Int.mul_one]
  rw [e1, e2] at h1
  have h2 : had.getD i 0 * prize < had.sum * (sh.getD i 0 + 1) := by omega
  have h3 := Int.ediv_lt_of_lt_mul (a := had.getD i 0 * prize) (b := sh.getD i 0 + 1) (c := had.sum) (by omega) (by rw [Int.mul_comm (sh.getD i 0 + 1)]; exact h2)
  omega

/-- If the owner can lose its last log by right, its quota is below. -/
theorem quota_lose {sh : List Int} (V : Val had 100 prize) (O : ShOk had 100 prize sh) {i k : Nat} (hi : i < had.length) (hk : k < had.length)
    (hle : ∀ m, m < had.length → 0 < sh.getD m 0 → had.getD i 0 * sh.getD m 0 ≤ had.getD m 0 * sh.getD i 0) (hnn : ∀ m, 0 ≤ sh.getD m 0) (he : had.getD i 0 * (sh.getD k 0 + 1) = had.getD k 0 * sh.getD i 0) : had.getD i 0 * prize / had.sum ≤ sh.getD i 0 - 1 := by
  have hS := had_sum_pos V.mem V.l1
  have hsum : sumN (fun k => sh.getD k 0) had.length = prize := by
    have := sum_sumN sh
    rw [O.len, O.sum] at this
    exact this.symm
  have ai := had_at V hi
  have hp : ∀ m, m < had.length → had.getD i 0 * sh.getD m 0 ≤ had.getD m 0 * sh.getD i 0 := fun m hm => by
    by_cases hs : 0 < sh.getD m 0
    · exact hle m hm hs
    · have h0 : sh.getD m 0 = 0 := by have := hnn m; omega
      rw [h0]
      have := Int.mul_nonneg (show 0 ≤ had.getD m 0 by have := had_at V hm; omega) (hnn i)
      simpa using this
  have hst : had.getD i 0 * sh.getD k 0 < had.getD k 0 * sh.getD i 0 := by rw [← he, Int.mul_add]; omega
  have h1 := sumN_lt hp hk hst
  rw [sumN_mul, sumN_mul_r, hsum, ← had_sumN] at h1
  have h3 := Int.ediv_lt_of_lt_mul (a := had.getD i 0 * prize) (b := sh.getD i 0) (c := had.sum) (by omega) (by rw [Int.mul_comm (sh.getD i 0)]; exact h1)
  omega

/-- Two owners joined, first of all, get no fewer. -/
theorem joined_law {had2 : List Int} (V : Val had 100 prize) (V2 : Val had2 100 prize) {a b : Nat} (ha : a < had.length) (hb : b < had.length)
    (hm : ∀ (t : List Int), ∃ u : Nat → Nat, (∀ k, k < had.length → k ≠ a → k ≠ b → u k < had2.length ∧ u k ≠ 0 ∧ had2.getD (u k) 0 = had.getD k 0) ∧ sumN (fun k => if k = a then t.getD 0 0 else if k = b then 0 else t.getD (u k) 0) had.length = sumN (fun k => t.getD k 0) had2.length)
    (h0 : had2.getD 0 0 = had.getD a 0 + had.getD b 0) (hab : a ≠ b) : (sharesE had 100 prize).getD a 0 + (sharesE had 100 prize).getD b 0 ≤ (sharesE had2 100 prize).getD 0 0 := by
  refine Int.not_lt.1 fun hlt => ?_
  have s1 := own_sumN V
  have s2 := own_sumN V2
  have F := own_fairP V
  obtain ⟨u, hu, hsum⟩ := hm (sharesE had2 100 prize)
  have n1 := own_nonneg V
  have n2 := own_nonneg V2
  generalize hs : sharesE had 100 prize = s at *
  generalize ht : sharesE had2 100 prize = t at *
  -- the sum of the others
  have e1 : sumN (fun k => if k = a then s.getD a 0 + s.getD b 0 else if k = b then 0 else s.getD k 0) had.length = sumN (fun k => s.getD k 0) had.length := by
    have q1 := sumN_but (fun k => if k = a then s.getD a 0 + s.getD b 0 else if k = b then 0 else s.getD k 0) ha
    have q2 := sumN_but (fun k => if k = a then 0 else s.getD k 0) hb
    have q3 := sumN_but (fun k => s.getD k 0) ha
    rw [if_neg (fun h => hab h.symm)] at q2
    rw [if_pos rfl] at q1
    have q4 : sumN (fun i => if i = a then 0 else if i = a then s.getD a 0 + s.getD b 0 else if i = b then 0 else s.getD i 0) had.length = sumN (fun i => if i = b then 0 else if i = a then 0 else s.getD i 0) had.length := sumN_congr fun i _ => by
      by_cases x1 : i = a
      · have x2 : ¬ i = b := fun h => hab (x1.symm.trans h)
        simp only [if_pos x1, if_neg x2]
      · simp only [if_neg x1]
    rw [q4] at q1
    omega
  have hsum2 : sumN (fun k => if k = a then s.getD a 0 + s.getD b 0 else if k = b then 0 else s.getD k 0) had.length = sumN (fun k => if k = a then t.getD 0 0 else if k = b then 0 else t.getD (u k) 0) had.length := by rw [e1, s1, hsum, s2]
  obtain ⟨k, hk, h2⟩ := sumN_other (j := a) hsum2.symm ha (by simp only [if_true]; exact hlt)
  have hka : k ≠ a := by rintro rfl; simp only [if_true] at h2; omega
  have hkb : k ≠ b := by rintro rfl; simp only [if_neg hka, if_true] at h2; omega
  simp only [if_neg hka, if_neg hkb] at h2
  obtain ⟨hul, hu0, huh⟩ := hu k hk hka hkb
  have hp := own_pri V2 (i := u k) (k := 0) hul (by have := V2.l1; omega) hu0 (by rw [ht]; have := n1 k; omega)
  unfold Pri at hp
  rw [ht, h0, huh] at hp
  have aa := had_at V ha
  have ab := had_at V hb
  have ak := had_at V hk
  have nk := n1 k
  have na := n1 a
  have nb := n1 b
  have n0 := n2 0
  have fa : had.getD k 0 * (100 * s.getD a 0) ≤ had.getD a 0 * (100 * (s.getD k 0 + 1)) := by
    by_cases h : 0 < s.getD a 0
    · have := F a k ha hk h
      rw [show 100 * (s.getD a 0 - 1) + 100 = 100 * s.getD a 0 by omega, show 100 * s.getD k 0 + 100 = 100 * (s.getD k 0 + 1) by omega] at this
      exact this
    · rw [show s.getD a 0 = 0 by omega]
      have := Int.mul_nonneg (show 0 ≤ had.getD a 0 by omega) (show 0 ≤ 100 * (s.getD k 0 + 1) by omega)
      simpa using this
  have fb : had.getD k 0 * (100 * s.getD b 0) ≤ had.getD b 0 * (100 * (s.getD k 0 + 1)) := by
    by_cases h : 0 < s.getD b 0
    · have := F b k hb hk h
      rw [show 100 * (s.getD b 0 - 1) + 100 = 100 * s.getD b 0 by omega, show 100 * s.getD k 0 + 100 = 100 * (s.getD k 0 + 1) by omega] at this
      exact this
    · rw [show s.getD b 0 = 0 by omega]
      have := Int.mul_nonneg (show 0 ≤ had.getD b 0 by omega) (show 0 ≤ 100 * (s.getD k 0 + 1) by omega)
      simpa using this
  have c1 : (had.getD a 0 + had.getD b 0) * (100 * (s.getD k 0 + 1)) ≤ (had.getD a 0 + had.getD b 0) * (100 * (t.getD (u k) 0 - 1) + 100) := Int.mul_le_mul_of_nonneg_left (by omega) (by omega)
  have c2 : had.getD k 0 * (100 * t.getD 0 0 + 100) ≤ had.getD k 0 * (100 * s.getD a 0 + 100 * s.getD b 0) := Int.mul_le_mul_of_nonneg_left (by omega) (by omega)
  rw [Int.mul_add (had.getD k 0) (100 * s.getD a 0)] at c2
  rw [Int.add_mul] at c1
  omega
end

end Go.Proofs.Ytfchcikdcnloaaa
