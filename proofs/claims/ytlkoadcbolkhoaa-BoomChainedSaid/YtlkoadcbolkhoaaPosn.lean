/- The corners of a chain by their places; which chain is valid, told by them (plain). -/
import Derived.Test.YtlkoadcbolkhoaaRcorn
import Derived.Test.YtlkoadcbolkhoaaGrid
set_option linter.all false
namespace Go.Proofs.Ytlkoadcbolkhoaa

/-- The corner behind so many sticks. -/
def posC : Corner → List Nat → Nat → Corner
  | p, _, 0 => p
  | p, [], _ + 1 => p
  | p, b :: l, i + 1 => posC (stepC p b) l i
theorem cornL_at : ∀ (l : List Nat) (p : Corner) (i : Nat), i ≤ l.length → (cornL p l)[i]? = some (posC p l i)
  | [], p, 0, _ => rfl
  | b :: l, p, 0, _ => rfl
  | b :: l, p, i + 1, h => by
    rw [show cornL p (b :: l) = p :: cornL (stepC p b) l from rfl, List.getElem?_cons_succ]
    exact cornL_at l (stepC p b) i (by simpa using h)
theorem posC_next : ∀ (l : List Nat) (p : Corner) (i b : Nat), l[i]? = some b → posC p l (i + 1) = stepC (posC p l i) b
  | [], _, _, _, h => by simp at h
  | c :: l, p, 0, b, h => by
    simp at h; subst h
    cases l <;> rfl
  | c :: l, p, i + 1, b, h => posC_next l (stepC p c) i b (by simpa using h)
theorem posC_unit {l : List Nat} {p : Corner} (ha : l.all isLet = true) {i : Nat} (hi : i < l.length) : Unit4 (posC p l i) (posC p l (i + 1)) := by
  obtain ⟨b, hb⟩ := get_at hi
  rw [posC_next l p i b hb]
  have hl := List.all_eq_true.1 ha b (List.mem_of_getElem? hb)
  generalize posC p l i = q
  obtain ⟨x, y⟩ := q
  unfold isLet at hl
  unfold stepC Unit4
  simp only [Bool.or_eq_true, decide_eq_true_eq] at hl
  rcases hl with ((rfl | rfl) | rfl) | rfl <;> simp

/-! ### The walk of the implementation -/
def fresh : Corner → Used → List Nat → Prop
  | _, _, [] => True
  | p, u, b :: l => u (stepC p b) = 0 ∧ fresh (stepC p b) (updS u (stepC p b) (u (stepC p b) + 1)) l
theorem fresh_iff : ∀ (l : List Nat) (p : Corner) (u : Used), (∀ q, 0 ≤ u q) → (fresh p u l ↔ (∀ i, 1 ≤ i → i ≤ l.length → u (posC p l i) = 0) ∧ ∀ i j, 1 ≤ i → i < j → j ≤ l.length → posC p l i ≠ posC p l j)
  | [], p, u, hu => by
    simp only [fresh, true_iff, List.length_nil]
    exact ⟨fun i h1 h2 => by omega, fun i j h1 h2 h3 => by omega⟩
  | b :: l, p, u, hu => by
    unfold fresh
    have hu' : ∀ q, 0 ≤ updS u (stepC p b) (u (stepC p b) + 1) q := fun q => by
      unfold updS
      have h1 := hu q
      have h2 := hu (stepC p b)
      split <;> omega
    rw [fresh_iff l (stepC p b) _ hu']
    constructor
    · rintro ⟨h0, h1, h2⟩
      have hp : ∀ i, 1 ≤ i → i ≤ l.length → posC (stepC p b) l i ≠ stepC p b := fun i a b' e => by
        have := h1 i a b'
        rw [e] at this
        unfold updS at this
        rw [if_pos rfl] at this
        omega
      refine ⟨fun i a c => ?_, fun i j a c d => ?_⟩
      · obtain ⟨k, rfl⟩ : ∃ k, i = k + 1 := ⟨i - 1, by omega⟩
        show u (posC (stepC p b) l k) = 0
        by_cases hk : k = 0
        · subst hk; cases l <;> exact h0
        · have hq := h1 k (by omega) (by simpa using c)
          unfold updS at hq
          split at hq
          · omega
          · exact hq
      · obtain ⟨k, rfl⟩ : ∃ k, i = k + 1 := ⟨i - 1, by omega⟩
        obtain ⟨m, rfl⟩ : ∃ k, j = k + 1 := ⟨j - 1, by omega⟩
        show posC (stepC p b) l k ≠ posC (stepC p b) l m
        have hm : m ≤ l.length := by simpa using d
        by_cases hk : k = 0
        · subst hk
          rw [show posC (stepC p b) l 0 = stepC p b by cases l <;> rfl]
          exact fun e => hp m (by omega) hm e.symm
        · exact h2 k m (by omega) (by omega) hm
    · rintro ⟨h1, h2⟩
      have h0 : u (stepC p b) = 0 := by
        have := h1 1 (Nat.le_refl _) (by simp)
        rwa [show posC p (b :: l) 1 = stepC p b by cases l <;> rfl] at this
      refine ⟨h0, fun i a c => ?_, fun i j a c d => ?_⟩
      · have e1 := h1 (i + 1) (by omega) (by simpa using c)
        have e2 := h2 1 (i + 1) (Nat.le_refl _) (by omega) (by simpa using c)
        rw [show posC p (b :: l) 1 = stepC p b by cases l <;> rfl] at e2
        unfold updS
        rw [if_neg fun e => e2 e.symm]
        exact e1
      · exact h2 (i + 1) (j + 1) (by omega) (by omega) (by simpa using d)
theorem chainF_off : ∀ (l : List Nat) (st p : Corner) (n : Nat) (u : Used) (L k : Nat), 1 ≤ k → k ≤ l.length → inC (posC p l k) = false → chainF st n p u L l = 3
  | [], _, _, _, _, _, k, h1, h2, _ => by simp at h2; omega
  | b :: l, st, p, n, u, L, k, h1, h2, h => by
    unfold chainF
    by_cases hc : inC (stepC p b) = false
    · rw [if_pos hc]
    · rw [if_neg hc]
      obtain ⟨m, rfl⟩ : ∃ m, k = m + 1 := ⟨k - 1, by omega⟩
      have hm : inC (posC (stepC p b) l m) = false := h
      by_cases h0 : m = 0
      · subst h0
        rw [show posC (stepC p b) l 0 = stepC p b by cases l <;> rfl] at hm
        exact absurd hm hc
      · exact chainF_off l st _ n _ _ m (by omega) (by simpa using h2) hm
open Classical in
theorem chainF_end : ∀ (l : List Nat) (st p : Corner) (n : Nat) (u : Used) (L : Nat), L + l.length ≤ n → (∀ k, 1 ≤ k → k ≤ l.length → inC (posC p l k) = true) →
    chainF st n p u L l = if posC p l l.length = st ∧ L + l.length = n ∧ fresh p u l then 0 else 19
  | [], st, p, n, u, L, hL, _ => by
    unfold chainF
    simp only [List.length_nil, Nat.add_zero, fresh, and_true]
    show (if p ≠ st ∨ L < n then (19 : Int) else 0) = _
    by_cases h1 : p = st
    · by_cases h2 : L = n
      · rw [if_neg (by rintro (h | h); exact h h1; omega), if_pos ⟨h1, h2⟩]
      · rw [if_pos (.inr (by simp at hL; omega)), if_neg (fun h => h2 h.2)]
    · rw [if_pos (.inl h1), if_neg (fun h => h1 h.1)]
  | b :: l, st, p, n, u, L, hL, hin => by
    unfold chainF
    have hc : inC (stepC p b) = true := by
      have := hin 1 (Nat.le_refl _) (by simp)
      rwa [show posC p (b :: l) 1 = stepC p b by cases l <;> rfl] at this
    have hrest : ∀ k, 1 ≤ k → k ≤ l.length → inC (posC (stepC p b) l k) = true := fun k a c => hin (k + 1) (by omega) (by simpa using c)
    rw [if_neg (by simp [hc])]
    rw [List.length_cons] at hL ⊢
    have hlast : posC p (b :: l) (l.length + 1) = posC (stepC p b) l l.length := rfl
    rw [hlast]
    by_cases h0 : u (stepC p b) = 0
    · rw [if_pos h0, chainF_end l st _ n _ (L + 1) (by omega) hrest]
      have e : (L + 1 + l.length = n) ↔ (L + (l.length + 1) = n) := by omega
      simp only [fresh, h0, true_and, e]
    · rw [if_neg h0, chainF_end l st _ n _ L (by omega) hrest, if_neg (by rintro ⟨_, h, _⟩; omega), if_neg (by rintro ⟨_, _, h⟩; exact h0 h.1)]

/-! ### Which chain is valid -/
section
variable {x y : Int} {s : ByteArray}
theorem isLet_dir {b : Nat} : isLet b = true ↔ 0 ≤ dirB b := by
  unfold isLet dirB
  simp only [Bool.or_eq_true, decide_eq_true_eq]
  (repeat' split) <;> omega
theorem chainE_many (h : ¬ (4 ≤ s.size ∧ s.size ≤ 80)) : chainE x y s = 6 := by unfold chainE; rw [if_pos h]
theorem chainE_form {k b : Nat} (h1 : 4 ≤ s.size ∧ s.size ≤ 80) (hb : (bytesL s)[k]? = some b) (h : dirB b < 0) : chainE x y s = 8 := by
  unfold chainE
  rw [if_neg (by simpa using h1), if_pos]
  rw [List.all_eq_false]
  exact ⟨b, List.mem_of_getElem? hb, fun e => by rw [isLet_dir] at e; omega⟩
theorem chainE_start (h1 : 4 ≤ s.size ∧ s.size ≤ 80) (h2 : (bytesL s).all isLet = true) (h : inC (x, y) = false) : chainE x y s = 3 := by
  unfold chainE
  rw [if_neg (by simpa using h1), if_neg (by simp [h2]), if_pos h]
theorem chainE_walk (h1 : 4 ≤ s.size ∧ s.size ≤ 80) (h2 : (bytesL s).all isLet = true) (h3 : inC (x, y) = true) : chainE x y s = chainF (x, y) s.size (x, y) (fun _ => 0) 0 (bytesL s) := by
  unfold chainE
  rw [if_neg (by simpa using h1), if_neg (by simp [h2]), if_neg (by simp [h3])]
theorem chainE_off {k : Nat} (h1 : 4 ≤ s.size ∧ s.size ≤ 80) (h2 : (bytesL s).all isLet = true) (h3 : inC (x, y) = true) (hk : k ≤ s.size) (h : inC (posC (x, y) (bytesL s) k) = false) : chainE x y s = 3 := by
  rw [chainE_walk h1 h2 h3]
  by_cases h0 : k = 0
  · subst h0
    rw [show posC (x, y) (bytesL s) 0 = (x, y) by cases bytesL s <;> rfl] at h
    rw [h3] at h; cases h
  · exact chainF_off _ _ _ _ _ _ k (by omega) (by rw [bytesL_len]; exact hk) h
open Classical in
theorem chainE_end (h1 : 4 ≤ s.size ∧ s.size ≤ 80) (h2 : (bytesL s).all isLet = true) (h3 : inC (x, y) = true) (hin : ∀ k, k ≤ s.size → inC (posC (x, y) (bytesL s) k) = true) :
    chainE x y s = if posC (x, y) (bytesL s) s.size = (x, y) ∧ (∀ i j, 1 ≤ i → i < j → j ≤ s.size → posC (x, y) (bytesL s) i ≠ posC (x, y) (bytesL s) j) then 0 else 19 := by
  rw [chainE_walk h1 h2 h3, chainF_end _ _ _ _ _ _ (by rw [bytesL_len]; omega) (fun k _ h => hin k (by rwa [bytesL_len] at h))]
  have e := fresh_iff (bytesL s) (x, y) (fun _ => 0) (fun _ => Int.le_refl _)
  rw [bytesL_len] at e ⊢
  have e2 : (fresh (x, y) (fun _ => 0) (bytesL s)) ↔ (∀ i j, 1 ≤ i → i < j → j ≤ s.size → posC (x, y) (bytesL s) i ≠ posC (x, y) (bytesL s) j) := by
    rw [e]; simp
  simp only [Nat.zero_add, true_and, e2]
/-- A valid chain goes round. -/
theorem chain_loop (h : chainE x y s = 0) : Loop (posC (x, y) (bytesL s)) s.size ∧ InBox (posC (x, y) (bytesL s)) s.size 0 8 0 8 := by
  obtain ⟨h1, h3, _, h2⟩ := chain_ok h
  have hin : ∀ k, k ≤ s.size → inC (posC (x, y) (bytesL s) k) = true := fun k hk => by
    cases hc : inC (posC (x, y) (bytesL s) k) with
    | true => rfl
    | false => rw [chainE_off h1 h2 h3 hk hc] at h; cases h
  rw [chainE_end h1 h2 h3 hin] at h
  have p0 : posC (x, y) (bytesL s) 0 = (x, y) := by cases bytesL s <;> rfl
  split at h
  · next hc =>
    refine ⟨⟨h1.1, fun i hi => posC_unit h2 (by rw [bytesL_len]; exact hi), by rw [hc.1, p0], fun i j hi hj e => ?_⟩, fun i hi => inC_bd (hin i hi)⟩
    by_cases hij : i = j
    · exact hij
    · exfalso
      by_cases i0 : i = 0
      · subst i0
        exact hc.2 j s.size (by omega) hj (Nat.le_refl _) (by rw [← e, p0, hc.1])
      · by_cases j0 : j = 0
        · subst j0
          exact hc.2 i s.size (by omega) hi (Nat.le_refl _) (by rw [e, p0, hc.1])
        · by_cases hlt : i < j
          · exact hc.2 i j (by omega) hlt (by omega) e
          · exact hc.2 j i (by omega) (by omega) (by omega) e.symm
  · cases h
end
end Go.Proofs.Ytlkoadcbolkhoaa
