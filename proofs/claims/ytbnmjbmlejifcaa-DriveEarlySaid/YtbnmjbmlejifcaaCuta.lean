/- What through counts, by days (plain). -/
import Derived.Test.YtbnmjbmlejifcaaThrough
import Derived.Test.YtbnmjbmlejifcaaMathB
import Derived.Test.YtbnmjbmlejifcaaCome
set_option linter.all false
namespace Go.Proofs.Ytbnmjbmlejifcaa

def anyD (x : Rch) (K : Nat) (e : Int) : Bool := (List.range K).any fun k => decide (dayK x k = e)
theorem anyD_succ (x : Rch) (K : Nat) (e : Int) : anyD x (K + 1) e = (anyD x K e || decide (dayK x K = e)) := by
  unfold anyD
  rw [List.range_succ, List.any_append]
  simp
theorem anyD_lt {x : Rch} (hx : 1 ≤ x.every) {K : Nat} {e : Int} (h : anyD x K e = true) : e < dayK x K := by
  unfold anyD at h
  rw [List.any_eq_true] at h
  obtain ⟨k, hk, he⟩ := h
  have hk' := List.mem_range.1 hk
  simp only [decide_eq_true_eq] at he
  have h1 := day_mono x hx (j := k + 1) (k := K) (by omega)
  have h2 := day_succ x k
  omega
theorem anyD_open {x : Rch} (hx : 1 ≤ x.every) (e : Int) : anyD x (nOpen x) e = openB x e := by
  rw [Bool.eq_iff_iff, open_iff x hx e]
  unfold anyD
  rw [List.any_eq_true]
  constructor
  · rintro ⟨k, hk, he⟩
    exact ⟨k, List.mem_range.1 hk, by simpa using he⟩
  · rintro ⟨k, hk, he⟩
    exact ⟨k, List.mem_range.2 hk, by simpa using he⟩
theorem upTo_thr (x : Rch) (b f : Int) (K : Nat) : thrL x b (upTo x f (K + 1)) = thrL x b (upTo x f K) + if f ≤ dayK x K then (if dayK x K + x.takes < b then x.pass else 0) else 0 := by
  by_cases h : f ≤ dayK x K
  · rw [upTo_yes h, thrL_snoc, if_pos h]
  · rw [upTo_no h, if_neg h]; omega
theorem sum_day (c : Int → Int) (M : Nat) {e : Int} (h1 : 1 ≤ e) (h2 : (M : Int) < e → c e = 0) : sumN (fun d : Nat => if (d : Int) + 1 = e then c e else 0) M = c e := by
  by_cases h : e ≤ (M : Int)
  · obtain ⟨a, rfl⟩ : ∃ a : Nat, e = (a : Int) + 1 := ⟨(e - 1).toNat, by omega⟩
    have h3 := sumN_one (c := fun _ => c ((a : Int) + 1)) (n := M) (a := a) (by omega)
    refine Eq.trans (sumN_congr fun d _ => ?_) h3
    by_cases hd : d = a
    · subst hd; rw [if_pos rfl, if_pos rfl]
    · rw [if_neg (by omega), if_neg hd]
  · rw [h2 (by omega)]
    refine Eq.trans (sumN_congr fun d _ => ?_) (sumN_zero M)
    split <;> rfl
/-- What is counted of the days up to one. -/
theorem thr_upTo {x : Rch} (hx : 1 ≤ x.every) (hlo : 1 ≤ x.lo) (b f : Int) (M : Nat) (hM : b - x.takes - 1 ≤ (M : Int)) : ∀ K, thrL x b (upTo x f K) = sumN (fun d : Nat => if anyD x K ((d : Int) + 1) = true then (if f ≤ (d : Int) + 1 ∧ (d : Int) + 1 + x.takes < b then x.pass else 0) else 0) M
  | 0 => by
    rw [sumN_congr (g := fun _ => 0) fun d _ => by simp [anyD], sumN_zero]
    rfl
  | K + 1 => by
    rw [upTo_thr, thr_upTo hx hlo b f M hM K]
    have hd1 : 1 ≤ dayK x K := by
      have h1 := day_mono x hx (j := 0) (k := K) (by omega)
      have h2 : dayK x 0 = x.lo := by simp [dayK]
      omega
    have h3 := sum_day (fun e => if f ≤ e ∧ e + x.takes < b then x.pass else 0) M hd1 (fun h => by
      show (if f ≤ dayK x K ∧ dayK x K + x.takes < b then x.pass else 0) = 0
      rw [if_neg (by omega)])
    have h4 : (if f ≤ dayK x K then (if dayK x K + x.takes < b then x.pass else 0) else 0) = if f ≤ dayK x K ∧ dayK x K + x.takes < b then x.pass else 0 := by
      by_cases p : f ≤ dayK x K
      · by_cases q : dayK x K + x.takes < b
        · rw [if_pos p, if_pos q, if_pos ⟨p, q⟩]
        · rw [if_pos p, if_neg q, if_neg (fun g => q g.2)]
      · rw [if_neg p, if_neg (fun g => p g.1)]
    rw [h4, ← h3, ← sumN_add]
    refine sumN_congr fun d _ => ?_
    rw [anyD_succ]
    by_cases e : (d : Int) + 1 = dayK x K
    · have h5 : anyD x K ((d : Int) + 1) = false := by
        cases h6 : anyD x K ((d : Int) + 1)
        · rfl
        · have := anyD_lt hx h6; omega
      rw [h5, if_pos e, e]
      simp
    · rw [if_neg e]
      have h5 : decide (dayK x K = (d : Int) + 1) = false := by simp; omega
      rw [h5, Bool.or_false]
      omega
/-- WHAT through COUNTS. -/
theorem thrL_eq {x : Rch} (hx : 1 ≤ x.every) (hlo : 1 ≤ x.lo) (b : Int) (f : Nat) (hf : 1 ≤ f) : thrL x b (openL x (f : Int)) = thr x f b := by
  unfold openL thr
  obtain ⟨M, hM⟩ : ∃ M, max (f - 1) (b - x.takes - 1).toNat = M := ⟨_, rfl⟩
  rw [hM, thr_upTo hx hlo b (f : Int) M (by omega) (nOpen x)]
  obtain ⟨k, hk⟩ : ∃ k, M = (f - 1) + k := ⟨M - (f - 1), by omega⟩
  unfold capN
  rw [hk, sumN_split, sumN_split]
  have h1 : sumN (fun d : Nat => if anyD x (nOpen x) ((d : Int) + 1) = true then (if (f : Int) ≤ (d : Int) + 1 ∧ (d : Int) + 1 + x.takes < b then x.pass else 0) else 0) (f - 1) = 0 := by
    refine Eq.trans (sumN_congr fun d hd => ?_) (sumN_zero (f - 1))
    rw [if_neg (show ¬ ((f : Int) ≤ (d : Int) + 1 ∧ (d : Int) + 1 + x.takes < b) by omega)]
    split <;> rfl
  rw [h1]
  have h2 : sumN (fun i : Nat => if anyD x (nOpen x) (((f - 1 + i : Nat) : Int) + 1) = true then (if (f : Int) ≤ ((f - 1 + i : Nat) : Int) + 1 ∧ ((f - 1 + i : Nat) : Int) + 1 + x.takes < b then x.pass else 0) else 0) k = sumN (fun i : Nat => capD x (((f - 1 + i : Nat) : Int) + 1)) k := by
    refine sumN_congr fun d hd => ?_
    rw [anyD_open hx, if_pos (show (f : Int) ≤ ((f - 1 + d : Nat) : Int) + 1 ∧ ((f - 1 + d : Nat) : Int) + 1 + x.takes < b by omega)]
    rfl
  rw [h2]
  omega
theorem thr_bd {x : Rch} (hp : 0 ≤ x.pass ∧ x.pass ≤ 1001) (f : Nat) (b : Int) (hf : f ≤ 100) (hb : b - x.takes ≤ 100) : 0 ≤ thr x f b ∧ thr x f b ≤ 200000 := by
  have hc : ∀ t, 0 ≤ capN x t ∧ capN x t ≤ t * 1001 := fun t => by
    unfold capN
    refine ⟨sumN_nonneg fun d _ => ?_, sumN_bd fun d _ => ?_⟩
    · unfold capD; split <;> omega
    · unfold capD; split <;> omega
  have hm : capN x (f - 1) ≤ capN x (max (f - 1) (b - x.takes - 1).toNat) := by
    unfold capN
    exact sumN_mono (fun d _ => by unfold capD; split <;> omega) (by omega)
  have h1 := hc (f - 1)
  have h2 := hc (max (f - 1) (b - x.takes - 1).toNat)
  unfold thr
  omega

end Go.Proofs.Ytbnmjbmlejifcaa
