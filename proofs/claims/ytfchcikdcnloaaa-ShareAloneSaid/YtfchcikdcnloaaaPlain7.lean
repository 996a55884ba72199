/- Plain law: of a row, those alone that are wanted; ShareAlone, ShareJoined. -/
import Derived.Test.YtfchcikdcnloaaaPlain2
import Derived.Test.YtfchcikdcnloaaaPlain3
namespace Go.Proofs.Ytfchcikdcnloaaa

/-- Of the first so many, those that are wanted. -/
def keepL (P : Nat → Bool) (l : List Int) : Nat → List Int
  | 0 => []
  | k + 1 => if P k = true then keepL P l k ++ [l.getD k 0] else keepL P l k
/-- How many they are. -/
def keepN (P : Nat → Bool) : Nat → Nat
  | 0 => 0
  | k + 1 => if P k = true then keepN P k + 1 else keepN P k
theorem keepL_succ (P : Nat → Bool) (l : List Int) (k : Nat) : keepL P l (k + 1) = if P k = true then keepL P l k ++ [l.getD k 0] else keepL P l k := rfl
theorem keepN_succ (P : Nat → Bool) (k : Nat) : keepN P (k + 1) = if P k = true then keepN P k + 1 else keepN P k := rfl
theorem keep_len (P : Nat → Bool) (l : List Int) (k : Nat) : (keepL P l k).length = keepN P k := by
  induction k with
  | zero => rfl
  | succ k ih => rw [keepL_succ, keepN_succ]; split <;> simp [ih]
theorem keepN_le (P : Nat → Bool) (k : Nat) : keepN P k ≤ k := by
  induction k with
  | zero => exact Nat.le_refl _
  | succ k ih => rw [keepN_succ]; split <;> omega
theorem keepN_mono (P : Nat → Bool) {k m : Nat} (h : k ≤ m) : keepN P k ≤ keepN P m := by
  induction m with
  | zero => rw [show k = 0 by omega]; exact Nat.le_refl _
  | succ m ih =>
    by_cases e : k = m + 1
    · subst e; exact Nat.le_refl _
    · have := ih (by omega)
      rw [keepN_succ]
      split <;> omega
theorem keep_at (P : Nat → Bool) (l : List Int) {k m : Nat} (hk : k < m) (hP : P k = true) : (keepL P l m).getD (keepN P k) 0 = l.getD k 0 ∧ keepN P k < keepN P m := by
  induction m with
  | zero => omega
  | succ m ih =>
    by_cases e : k = m
    · subst e
      rw [keepL_succ, keepN_succ, if_pos hP, if_pos hP]
      refine ⟨?_, by omega⟩
      simp [List.getD, keep_len]
    · obtain ⟨h1, h2⟩ := ih (by omega)
      rw [keepL_succ]
      have h3 := keepN_mono P (show m ≤ m + 1 by omega)
      refine ⟨?_, by omega⟩
      split
      · rw [← h1]
        have : keepN P k < (keepL P l m).length := by rw [keep_len]; exact h2
        simp only [List.getD, List.getElem?_append_left this]
      · exact h1
theorem keep_from (P : Nat → Bool) {m j : Nat} (hj : j < keepN P m) : ∃ k, k < m ∧ P k = true ∧ keepN P k = j := by
  induction m with
  | zero => simp [keepN] at hj
  | succ m ih =>
    by_cases hP : P m = true
    · rw [keepN_succ, if_pos hP] at hj
      by_cases e : j = keepN P m
      · exact ⟨m, by omega, hP, e.symm⟩
      · obtain ⟨k, h1, h2, h3⟩ := ih (by omega)
        exact ⟨k, by omega, h2, h3⟩
    · rw [keepN_succ, if_neg hP] at hj
      obtain ⟨k, h1, h2, h3⟩ := ih hj
      exact ⟨k, by omega, h2, h3⟩
theorem keep_sum (P : Nat → Bool) (t : Nat → Int) (m : Nat) : sumN (fun k => if P k = true then t (keepN P k) else 0) m = sumN t (keepN P m) := by
  induction m with
  | zero => rfl
  | succ m ih =>
    show sumN _ m + _ = _
    rw [ih]
    by_cases hP : P m = true
    · rw [keepN_succ, if_pos hP]; simp only [if_pos hP]; rfl
    · rw [keepN_succ, if_neg hP]; simp only [if_neg hP]; omega
theorem keep_sumL (P : Nat → Bool) (l : List Int) (m : Nat) : (keepL P l m).sum = sumN (fun k => if P k = true then l.getD k 0 else 0) m := by
  induction m with
  | zero => rfl
  | succ m ih =>
    show _ = sumN _ m + _
    rw [← ih]
    rw [keepL_succ]
    by_cases hP : P m = true
    · rw [if_pos hP, sum_append]; simp only [if_pos hP]; simp
    · rw [if_neg hP]; simp only [if_neg hP]; omega
theorem sumN_one (c : Int) {n a : Nat} (ha : a < n) : sumN (fun i => if i = a then c else 0) n = c := by
  induction n with
  | zero => omega
  | succ n ih =>
    show sumN _ n + _ = _
    by_cases e : n = a
    · subst e
      have : sumN (fun i => if i = n then c else 0) n = sumN (fun _ => 0) n := sumN_congr fun i hi => by rw [if_neg (by omega)]
      rw [this, sumN_zero]
      show (0 : Int) + (if n = n then c else 0) = c
      rw [if_pos rfl]; omega
    · rw [ih (by omega)]
      show c + (if n = a then c else 0) = c
      rw [if_neg e]; omega
theorem sumN_first (t : Nat → Int) (n : Nat) : sumN t (n + 1) = t 0 + sumN (fun j => t (j + 1)) n := by
  induction n with
  | zero => show (0 : Int) + t 0 = t 0 + 0; omega
  | succ n ih =>
    show sumN t (n + 1) + t (n + 1) = t 0 + (sumN (fun j => t (j + 1)) n + t (n + 1))
    rw [ih]; omega

theorem mem_sum_le {l : List Int} (h : ∀ x ∈ l, 0 ≤ x) : ∀ x ∈ l, x ≤ l.sum := by
  induction l with
  | nil => intro x hx; cases hx
  | cons a l ih =>
    intro x hx
    have h1 := ih (fun x hx => h x (by simp [hx]))
    have h2 : 0 ≤ l.sum := by
      cases l with
      | nil => simp
      | cons b m => have a1 := h1 b (by simp); have a2 := h b (by simp); omega
    have h3 := h a (by simp)
    simp only [List.mem_cons] at hx
    simp only [List.sum_cons]
    rcases hx with rfl | hx
    · omega
    · have := h1 x hx; omega

section
variable {had : List Int} {part prize : Int}
theorem keep_mem {P : Nat → Bool} {l : List Int} {m : Nat} {x : Int} (h : x ∈ keepL P l m) : ∃ k, k < m ∧ P k = true ∧ x = l.getD k 0 := by
  induction m with
  | zero => cases h
  | succ m ih =>
    rw [keepL_succ] at h
    by_cases hP : P m = true
    · rw [if_pos hP] at h
      rcases List.mem_append.1 h with h | h
      · obtain ⟨k, a, b, c⟩ := ih h
        exact ⟨k, by omega, b, c⟩
      · exact ⟨m, by omega, hP, List.mem_singleton.1 h⟩
    · rw [if_neg hP] at h
      obtain ⟨k, a, b, c⟩ := ih h
      exact ⟨k, by omega, b, c⟩

/-! ### Two owners joined -/
/-- All but two. -/
def butB (a b k : Nat) : Bool := decide (k ≠ a) && decide (k ≠ b)
def joinL (had : List Int) (a b k : Nat) : List Int := (had.getD a 0 + had.getD b 0) :: keepL (butB a b) had k
theorem butB_true {a b k : Nat} : butB a b k = true ↔ k ≠ a ∧ k ≠ b := by simp [butB]
theorem joined_val (V : Val had part prize) {a b : Nat} (ha : a < had.length) (hb : b < had.length) (_hab : a ≠ b) (hmax : had.getD a 0 + had.getD b 0 ≤ 1000000) : Val (joinL had a b had.length) part prize := by
  refine ⟨by simp [joinL], ?_, ?_, V.p1, V.p2, V.z1, V.z2⟩
  · have h1 : keepN (butB a b) had.length < had.length := by
      have h2 : ∀ m, a < m → keepN (butB a b) m < m := fun m => by
        induction m with
        | zero => intro h; omega
        | succ m ih =>
          intro h
          by_cases e : a = m
          · subst e
            have := keepN_le (butB a b) a
            rw [keepN_succ, if_neg (by rw [butB_true]; omega)]
            omega
          · have := ih (by omega)
            rw [keepN_succ]
            split <;> omega
      exact h2 _ ha
    have := V.l2
    simp only [joinL, List.length_cons, keep_len]
    omega
  · intro i x hx
    have hm := List.mem_of_getElem? hx
    rcases List.mem_cons.1 hm with rfl | hm
    · have := (had_at V ha).1
      have := (had_at V hb).1
      omega
    · obtain ⟨k, h1, _, rfl⟩ := keep_mem hm
      exact had_at V h1
theorem joined_more (V : Val had 100 prize) {a b : Nat} (ha : a < had.length) (hb : b < had.length) (hab : a ≠ b) (hmax : had.getD a 0 + had.getD b 0 ≤ 1000000) :
    (sharesE had 100 prize).getD a 0 + (sharesE had 100 prize).getD b 0 ≤ (sharesE (joinL had a b had.length) 100 prize).getD 0 0 := by
  refine joined_law V (joined_val V ha hb hab hmax) ha hb (fun t => ⟨fun k => keepN (butB a b) k + 1, fun k hk h1 h2 => ?_, ?_⟩) rfl hab
  · obtain ⟨e, l⟩ := keep_at (butB a b) had hk (butB_true.2 ⟨h1, h2⟩)
    refine ⟨?_, Nat.succ_ne_zero _, ?_⟩
    · simp only [joinL, List.length_cons, keep_len]; omega
    · simp only [joinL, List.getD, List.getElem?_cons_succ]
      exact e
  · have hl : (joinL had a b had.length).length = keepN (butB a b) had.length + 1 := by simp [joinL, keep_len]
    rw [hl, sumN_first, ← keep_sum (butB a b) (fun j => t.getD (j + 1) 0)]
    have e : sumN (fun k => if k = a then t.getD 0 0 else if k = b then 0 else t.getD (keepN (butB a b) k + 1) 0) had.length = sumN (fun k => (if k = a then t.getD 0 0 else 0) + (if butB a b k = true then t.getD (keepN (butB a b) k + 1) 0 else 0)) had.length := sumN_congr fun k _ => by
      by_cases h1 : k = a
      · rw [if_pos h1, if_pos h1, if_neg (by rw [butB_true]; omega)]; omega
      · by_cases h2 : k = b
        · rw [if_neg h1, if_neg h1, if_pos h2, if_neg (by rw [butB_true]; omega)]; omega
        · rw [if_neg h1, if_neg h1, if_neg h2, if_pos (butB_true.2 ⟨h1, h2⟩)]; omega
    rw [e, sumN_add, sumN_one _ ha]

/-! ### Some owners alone -/
theorem alone_law {sh : List Int} (O : ShOk had part prize sh) (F : FairP had part sh) (P : Nat → Bool) (h1 : 1 ≤ keepN P had.length) :
    ShOk (keepL P had had.length) part (keepL P sh had.length).sum (keepL P sh had.length) ∧ FairP (keepL P had had.length) part (keepL P sh had.length) := by
  have V := O.V
  have hn : ∀ k, k < had.length → 0 ≤ sh.getD k 0 := fun k hk => (sh_at O hk).1
  have hall : sumN (fun i => sh.getD i 0) had.length = prize := by
    have := O.sum
    rw [sum_sumN, O.len] at this
    exact this
  have hs0 : 0 ≤ (keepL P sh had.length).sum := by
    rw [keep_sumL]
    have := sumN_le (f := fun _ => 0) (g := fun k => if P k = true then sh.getD k 0 else 0) (n := had.length) fun i hi => by
      have := hn i hi
      show (0 : Int) ≤ if P i = true then sh.getD i 0 else 0
      split <;> omega
    rwa [sumN_zero] at this
  have hs1 : (keepL P sh had.length).sum ≤ prize := by
    rw [keep_sumL, ← hall]
    exact sumN_le fun i hi => by
      have := hn i hi
      show (if P i = true then sh.getD i 0 else 0) ≤ sh.getD i 0
      split <;> omega
  have hk0 : ∀ x ∈ keepL P sh had.length, 0 ≤ x := fun x hx => by
    obtain ⟨k, hk, _, rfl⟩ := keep_mem hx
    exact hn k hk
  have hlen := keep_len P had had.length
  refine ⟨⟨⟨by omega, by have := keepN_le P had.length; have := V.l2; omega, fun i x hx => ?_, V.p1, V.p2, hs0, by have := V.z2; omega⟩, by rw [keep_len, keep_len], fun x hx => ⟨hk0 x hx, mem_sum_le hk0 x hx⟩, rfl⟩, ?_⟩
  · obtain ⟨k, hk, _, rfl⟩ := keep_mem (List.mem_of_getElem? hx)
    exact had_at V hk
  · intro i k hi hk hp
    rw [hlen] at hi hk
    obtain ⟨i', hi1, hi2, rfl⟩ := keep_from P hi
    obtain ⟨k', hk1, hk2, rfl⟩ := keep_from P hk
    rw [(keep_at P sh hi1 hi2).1] at hp ⊢
    rw [(keep_at P had hi1 hi2).1, (keep_at P sh hk1 hk2).1, (keep_at P had hk1 hk2).1]
    exact F i' k' hi1 hk1 hp
theorem alone_rounds {sh : List Int} (O : ShOk had part prize sh) (P : Nat → Bool) {num den : Int} (h : allRounds had part sh num den = true) : allRounds (keepL P had had.length) part (keepL P sh had.length) num den = true := by
  rw [allRounds_iff] at h ⊢
  intro i hi
  rw [keep_len] at hi
  obtain ⟨k, h1, h2, rfl⟩ := keep_from P hi
  rw [(keep_at P sh h1 h2).1, (keep_at P had h1 h2).1]
  exact h k (by rw [O.len]; exact h1)
end

end Go.Proofs.Ytfchcikdcnloaaa
