/- Plain law: quotas. -/
import Derived.Test.YtfchcikdcnloaaaPlain2
namespace Go.Proofs.Ytfchcikdcnloaaa

theorem h100 (a b : Int) : 100 * a * (100 * b) = 10000 * (a * b) := by
  rw [Int.mul_assoc, Int.mul_left_comm a 100 b]
  omega

section
variable {had : List Int} {part prize : Int}

theorem sum_ge {had : List Int} (V : Val had part prize) {i : Nat} (hi : i < had.length) : had.getD i 0 ≤ had.sum := by
  rw [had_sumN]
  have h1 := sumN_but (fun k => had.getD k 0) hi
  have h2 := sumN_le (f := fun _ => 0) (g := fun k => if k = i then 0 else had.getD k 0) (n := had.length) (fun k hk => by
    by_cases e : k = i
    · simp [e]
    · simp only [if_neg e]; have := had_at V hk; omega)
  rw [sumN_zero] at h2
  omega

theorem quota_facts (V : Val had part prize) {i : Nat} (hi : i < had.length) : 0 ≤ quotaLo had prize i ∧ quotaLo had prize i ≤ quotaHi had prize i ∧ quotaHi had prize i ≤ quotaLo had prize i + 1 ∧ quotaHi had prize i ≤ prize ∧
    quotaLo had prize i * had.sum ≤ had.getD i 0 * prize ∧ had.getD i 0 * prize ≤ quotaHi had prize i * had.sum := by
  have hS := had_sum_pos V.mem V.l1
  have ha := had_at V hi
  have hz := V.z1
  have hn := Int.mul_nonneg (show 0 ≤ had.getD i 0 by omega) hz
  have hle : had.getD i 0 * prize ≤ had.sum * prize := Int.mul_le_mul_of_nonneg_right (sum_ge V hi) hz
  unfold quotaLo quotaHi
  generalize had.getD i 0 * prize = n at *
  generalize had.sum = S at *
  have e := Int.mul_ediv_add_emod n S
  have h1 := Int.emod_nonneg n (b := S) (by omega)
  have h2 := Int.emod_lt_of_pos n (b := S) (by omega)
  have h3 := Int.ediv_nonneg hn (show 0 ≤ S by omega)
  generalize n / S = q at *
  generalize n % S = r at *
  have c1 : q * S = S * q := Int.mul_comm _ _
  have c2 : (q + 1) * S = S * q + S := by rw [Int.add_mul, c1]; omega
  by_cases hr : 0 < r
  · rw [if_pos hr]
    refine ⟨h3, by omega, by omega, ?_, by omega, by omega⟩
    -- S * q < S * prize
    have : S * q < S * prize := by omega
    have := Int.lt_of_mul_lt_mul_left this (by omega)
    omega
  · rw [if_neg hr]
    refine ⟨h3, by omega, by omega, ?_, by omega, by omega⟩
    have : S * q ≤ S * prize := by omega
    exact Int.le_of_mul_le_mul_left this (by omega)

def sumLo (had : List Int) (prize : Int) (k : Nat) : Int := sumN (fun i => quotaLo had prize i) k
def sumHi (had : List Int) (prize : Int) (k : Nat) : Int := sumN (fun i => quotaHi had prize i) k

theorem sumLo_bd (V : Val had part prize) : ∀ k, k ≤ had.length → 0 ≤ sumLo had prize k ∧ sumLo had prize k ≤ 1000 * k ∧ 0 ≤ sumHi had prize k ∧ sumHi had prize k ≤ 1000 * k := by
  intro k
  have hz := V.z2
  induction k with
  | zero => intro _; simp [sumLo, sumHi, sumN]
  | succ k ih =>
    intro hk
    have h := ih (by omega)
    have q := quota_facts V (i := k) (by omega)
    simp only [sumLo, sumHi, sumN] at h ⊢
    omega

/-- The quotas, rounded, are around all shares together. -/
theorem quota_sum (V : Val had part prize) : sumLo had prize had.length ≤ prize ∧ prize ≤ sumHi had prize had.length := by
  have hS := had_sum_pos V.mem V.l1
  have a1 := sumN_le (f := fun i => quotaLo had prize i * had.sum) (g := fun i => had.getD i 0 * prize) (n := had.length) (fun i hi => (quota_facts V hi).2.2.2.2.1)
  have a2 := sumN_le (f := fun i => had.getD i 0 * prize) (g := fun i => quotaHi had prize i * had.sum) (n := had.length) (fun i hi => (quota_facts V hi).2.2.2.2.2)
  rw [sumN_mul_r, sumN_mul_r, ← had_sumN] at a1 a2
  constructor
  · exact Int.le_of_mul_le_mul_right (a := had.sum) (by rw [Int.mul_comm prize]; exact a1) (by omega)
  · exact Int.le_of_mul_le_mul_right (a := had.sum) (by rw [Int.mul_comm prize]; exact a2) (by omega)

theorem span_quota (V : Val had 100 prize) {i : Nat} (hi : i < had.length) : quotaLo had prize i ≤ spanLo had 100 prize i := by
  have G := gotEnd_ok V
  have hsh := (shares_facts V).2.2
  have O := own_ok V
  have h1 := quota_law V O (own_fairP V) hi
  unfold spanLo
  simp only
  split
  · rename_i h
    obtain ⟨hp, hgl, hn, hl⟩ := h
    have hp' : 0 < prize := by have := V.z1; omega
    have hs := ordN_some V hp'
    obtain ⟨⟨m, hm, em⟩, _⟩ := great_facts V G
    obtain ⟨⟨j, hj, hgj, ej⟩, hmin⟩ := least_facts V G hs
    have hg0 := got_get G (i := i) (by have := V.l2; omega)
    have hgi : 0 < (gotEnd had 100 prize).getD i 0 := by
      by_cases h0 : (gotEnd had 100 prize).getD i 0 = 0
      · have a := last_pos V G hj hgj
        obtain ⟨g, _, _, _, q1, _, _⟩ := quo_facts a.1 a.2
        rw [← lastQ_eq hgj, ← ej, hl] at q1
        unfold lastQ at q1
        rw [if_pos h0] at q1
        simp at q1
      · omega
    have li := last_pos V G hi hgi
    have key := quota_lose V O hi hm (fun k hk hgk => by
      rw [hsh k hk] at hgk ⊢
      rw [hsh i hi]
      have b := hmin k hk hgk
      have lk := last_pos V G hk hgk
      rw [hl, lastQ_eq hgk, lastQ_eq hgi, less_quo lk.1 lk.2 li.1 li.2, decide_eq_false_iff_not] at b
      rw [show 100 * ((gotEnd had 100 prize).getD i 0 - 1) + 100 = 100 * (gotEnd had 100 prize).getD i 0 by omega, show 100 * ((gotEnd had 100 prize).getD k 0 - 1) + 100 = 100 * (gotEnd had 100 prize).getD k 0 by omega] at b
      rw [h100, h100] at b
      omega) (own_nonneg V) (by
      have nm := next_pos V G hm
      rw [hsh m hm, hsh i hi]
      have e : lastQ had 100 (gotEnd had 100 prize) i = nextQ had 100 (gotEnd had 100 prize) m := by rw [← hl, ← em, hgl]
      rw [lastQ_eq hgi, next_quo, quo_eq li.1 li.2 nm.1 nm.2] at e
      rw [show 100 * ((gotEnd had 100 prize).getD i 0 - 1) + 100 = 100 * (gotEnd had 100 prize).getD i 0 by omega, show 100 * (gotEnd had 100 prize).getD m 0 + 100 = 100 * ((gotEnd had 100 prize).getD m 0 + 1) by omega] at e
      rw [h100, h100] at e
      omega)
    rw [hsh i hi] at key
    exact key
  · rw [← hsh i hi]; exact h1
end
end Go.Proofs.Ytfchcikdcnloaaa
