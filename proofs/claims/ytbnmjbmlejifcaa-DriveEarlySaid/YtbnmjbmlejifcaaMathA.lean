/- Plain law of the drive: sums, rivers, plans, and what a cut bounds. -/
set_option linter.all false
namespace Go.Proofs.Ytbnmjbmlejifcaa

/-- The sum of the first so many. -/
def sumN (f : Nat → Int) : Nat → Int
  | 0 => 0
  | k + 1 => sumN f k + f k
theorem sumN_succ (f : Nat → Int) (k : Nat) : sumN f (k + 1) = sumN f k + f k := rfl
theorem sumN_congr {f g : Nat → Int} {n : Nat} (h : ∀ i, i < n → f i = g i) : sumN f n = sumN g n := by
  induction n with
  | zero => rfl
  | succ n ih => rw [sumN_succ, sumN_succ, ih fun i hi => h i (by omega), h n (by omega)]
theorem sumN_add (f g : Nat → Int) (n : Nat) : sumN (fun i => f i + g i) n = sumN f n + sumN g n := by
  induction n with
  | zero => rfl
  | succ n ih => rw [sumN_succ, sumN_succ, sumN_succ, ih]; omega
theorem sumN_sub (f g : Nat → Int) (n : Nat) : sumN (fun i => f i - g i) n = sumN f n - sumN g n := by
  induction n with
  | zero => rfl
  | succ n ih => rw [sumN_succ, sumN_succ, sumN_succ, ih]; omega
theorem sumN_mul (c : Int) (f : Nat → Int) (n : Nat) : sumN (fun i => c * f i) n = c * sumN f n := by
  induction n with
  | zero => simp [sumN]
  | succ n ih => rw [sumN_succ, sumN_succ, ih, Int.mul_add]
theorem sumN_zero (n : Nat) : sumN (fun _ => 0) n = 0 := by
  induction n with
  | zero => rfl
  | succ n ih => rw [sumN_succ, ih]; rfl
theorem sumN_le {f g : Nat → Int} {n : Nat} (h : ∀ i, i < n → f i ≤ g i) : sumN f n ≤ sumN g n := by
  induction n with
  | zero => exact Int.le_refl _
  | succ n ih =>
    have h1 := ih fun i hi => h i (by omega)
    have h2 := h n (by omega)
    rw [sumN_succ, sumN_succ]; omega
theorem sumN_nonneg {f : Nat → Int} {n : Nat} (h : ∀ i, i < n → 0 ≤ f i) : 0 ≤ sumN f n := by
  have := sumN_le (f := fun _ => 0) (g := f) (n := n) h
  rwa [sumN_zero] at this
theorem sumN_mono {f : Nat → Int} {m n : Nat} (h : ∀ i, i < n → 0 ≤ f i) (hmn : m ≤ n) : sumN f m ≤ sumN f n := by
  induction n with
  | zero => rw [show m = 0 by omega]; exact Int.le_refl _
  | succ n ih =>
    by_cases e : m = n + 1
    · subst e; exact Int.le_refl _
    · have h1 := ih (fun i hi => h i (by omega)) (by omega)
      have h2 := h n (by omega)
      rw [sumN_succ]; omega
theorem sumN_bd {f : Nat → Int} {n : Nat} {c : Int} (h : ∀ i, i < n → f i ≤ c) : sumN f n ≤ n * c := by
  induction n with
  | zero => simp [sumN]
  | succ n ih =>
    have h1 := ih fun i hi => h i (by omega)
    have h2 := h n (by omega)
    rw [sumN_succ, Int.natCast_add, Int.add_mul]
    simp only [Int.natCast_one, Int.one_mul]
    omega
/-- The sum from one place to another one. -/
theorem sumN_split (f : Nat → Int) (m k : Nat) : sumN f (m + k) = sumN f m + sumN (fun i => f (m + i)) k := by
  induction k with
  | zero => simp [sumN]
  | succ k ih => rw [← Nat.add_assoc, sumN_succ, ih, sumN_succ]; omega
theorem sumN_swap (f : Nat → Nat → Int) (m n : Nat) : sumN (fun i => sumN (fun k => f i k) n) m = sumN (fun k => sumN (fun i => f i k) m) n := by
  induction m with
  | zero => rw [show (fun k => sumN (fun i => f i k) 0) = fun _ => 0 from rfl, sumN_zero]; rfl
  | succ m ih => rw [sumN_succ, ih, ← sumN_add]; exact sumN_congr fun k _ => rfl
theorem sumN_one {c : Nat → Int} {n a : Nat} (ha : a < n) : sumN (fun i => if i = a then c i else 0) n = c a := by
  induction n with
  | zero => omega
  | succ n ih =>
    rw [sumN_succ]
    by_cases e : n = a
    · subst e
      have : sumN (fun i => if i = n then c i else 0) n = sumN (fun _ => 0) n := sumN_congr fun i hi => by rw [if_neg (by omega)]
      rw [this, sumN_zero, if_pos rfl]; omega
    · rw [ih (by omega), if_neg e]; omega
theorem sumN_tail {f : Nat → Int} {m n : Nat} (hmn : m ≤ n) (h : ∀ i, m ≤ i → i < n → f i = 0) : sumN f n = sumN f m := by
  induction n with
  | zero => rw [show m = 0 by omega]
  | succ n ih =>
    by_cases e : m = n + 1
    · rw [e]
    · rw [sumN_succ, ih (by omega) fun i h1 h2 => h i h1 (by omega), h n (by omega) (by omega)]; omega

/-- A reach. -/
structure Rch where
  down : Int
  pass : Int
  takes : Int
  lo : Int
  hi : Int
  every : Int
  logs : Int
  ready : Int

/-- Whether a day is one of the open days. -/
def openB (x : Rch) (d : Int) : Bool := decide (x.lo ≤ d) && decide (d ≤ x.hi) && decide ((d - x.lo) % x.every = 0)
/-- How many may enter on a day. -/
def capD (x : Rch) (d : Int) : Int := if openB x d = true then x.pass else 0
/-- How many may enter up to a day. -/
def capN (x : Rch) (t : Nat) : Int := sumN (fun d => capD x ((d : Int) + 1)) t

/-- How many have entered up to a day. -/
def gone (P : Nat → Nat → Int) (i : Nat) (t : Int) : Int := sumN (fun d => P i (d + 1)) t.toNat
/-- How many have come above a reach up to a day. -/
def come (R : Nat → Rch) (P : Nat → Nat → Int) (i : Nat) (t : Int) : Int :=
  (if (R i).ready ≤ t then (R i).logs else 0) + sumN (fun u => if (R u).down = (i : Int) then gone P u (t - (R u).takes) else 0) i
/-- How many are at the boom on a day. -/
def brought (R : Nat → Rch) (n : Nat) (P : Nat → Nat → Int) (t : Int) : Int :=
  sumN (fun u => if (R u).down = -1 then gone P u (t - (R u).takes) else 0) n

/-- A river that may be: Pass may be greater, too. -/
structure Riv (R : Nat → Rch) (n D : Nat) : Prop where
  down : ∀ i, i < n → (R i).down = -1 ∨ (i : Int) < (R i).down ∧ (R i).down < n
  pass : ∀ i, i < n → 0 ≤ (R i).pass
  takes : ∀ i, i < n → 0 ≤ (R i).takes
  every : ∀ i, i < n → 1 ≤ (R i).every
  lo : ∀ i, i < n → 1 ≤ (R i).lo
  logs : ∀ i, i < n → 0 ≤ (R i).logs
  ready : ∀ i, i < n → 1 ≤ (R i).ready

/-- A right plan. -/
structure Right (R : Nat → Rch) (n D : Nat) (P : Nat → Nat → Int) : Prop where
  ge : ∀ i d, i < n → d < D → 0 ≤ P i (d + 1)
  cap : ∀ i d, i < n → d < D → P i (d + 1) ≤ capD (R i) ((d : Int) + 1)
  sum : ∀ i d, i < n → d < D → gone P i ((d : Int) + 1) ≤ come R P i ((d : Int) + 1)

/-- The early plan. -/
def IsEarly (R : Nat → Rch) (n D : Nat) (P : Nat → Nat → Int) : Prop :=
  ∀ i d, i < n → d < D → P i (d + 1) = if openB (R i) ((d : Int) + 1) = true then min (R i).pass (come R P i ((d : Int) + 1) - gone P i d) else 0

theorem gone_zero (P : Nat → Nat → Int) (i : Nat) {t : Int} (h : t ≤ 0) : gone P i t = 0 := by
  unfold gone
  rw [show t.toNat = 0 by omega]; rfl
theorem gone_succ (P : Nat → Nat → Int) (i d : Nat) : gone P i ((d : Int) + 1) = gone P i d + P i (d + 1) := by
  unfold gone
  rw [show ((d : Int) + 1).toNat = d + 1 by omega, show ((d : Int)).toNat = d by omega, sumN_succ]
theorem gone_nat (P : Nat → Nat → Int) (i d : Nat) : gone P i (d : Int) = sumN (fun d => P i (d + 1)) d := by
  unfold gone
  rw [show ((d : Int)).toNat = d by omega]
theorem gone_mono {P : Nat → Nat → Int} {i D : Nat} (h : ∀ d, d < D → 0 ≤ P i (d + 1)) {s t : Int} (hst : s ≤ t) (ht : t ≤ D) : gone P i s ≤ gone P i t :=
  sumN_mono (fun d hd => h d (by omega)) (by omega)
theorem gone_nonneg {P : Nat → Nat → Int} {i D : Nat} (h : ∀ d, d < D → 0 ≤ P i (d + 1)) {t : Int} (ht : t ≤ D) : 0 ≤ gone P i t :=
  sumN_nonneg fun d hd => h d (by omega)

section
variable {R : Nat → Rch} {n D : Nat}

theorem capD_nonneg (V : Riv R n D) {i : Nat} (hi : i < n) (d : Int) : 0 ≤ capD (R i) d := by
  unfold capD
  have := V.pass i hi
  split <;> omega
theorem come_mono {P : Nat → Nat → Int} (V : Riv R n D) {i : Nat} (hi : i < n) (h : ∀ u, u < i → ∀ d, d < D → 0 ≤ P u (d + 1)) {s t : Int} (hst : s ≤ t) (ht : t ≤ D) : come R P i s ≤ come R P i t := by
  unfold come
  have h1 : (if (R i).ready ≤ s then (R i).logs else 0) ≤ (if (R i).ready ≤ t then (R i).logs else 0) := by
    have := V.logs i hi
    split <;> split <;> omega
  have h2 := sumN_le (f := fun u => if (R u).down = (i : Int) then gone P u (s - (R u).takes) else 0) (g := fun u => if (R u).down = (i : Int) then gone P u (t - (R u).takes) else 0) (n := i) fun u hu => by
    show (if (R u).down = (i : Int) then gone P u (s - (R u).takes) else 0) ≤ if (R u).down = (i : Int) then gone P u (t - (R u).takes) else 0
    have := V.takes u (by omega)
    split
    · exact gone_mono (h u hu) (by omega) (by omega)
    · exact Int.le_refl _
  omega
theorem come_zero (V : Riv R n D) (P : Nat → Nat → Int) {i : Nat} (hi : i < n) : come R P i 0 = 0 := by
  unfold come
  have h1 := V.ready i hi
  rw [if_neg (by omega)]
  have : sumN (fun u => if (R u).down = (i : Int) then gone P u (0 - (R u).takes) else 0) i = sumN (fun _ => 0) i := sumN_congr fun u hu => by
    have := V.takes u (by omega)
    rw [gone_zero P u (by omega)]
    split <;> rfl
  rw [this, sumN_zero]; rfl

/-- The early plan is right, and brings as much as it can, day by day. -/
theorem early_reach {P : Nat → Nat → Int} (V : Riv R n D) (E : IsEarly R n D P) {i : Nat} (hi : i < n) (h : ∀ u, u < i → ∀ d, d < D → 0 ≤ P u (d + 1)) (t : Nat) (ht : t ≤ D) :
    (∀ d, d < t → 0 ≤ P i (d + 1) ∧ P i (d + 1) ≤ capD (R i) ((d : Int) + 1)) ∧ gone P i t ≤ come R P i t := by
  induction t with
  | zero => exact ⟨fun d hd => by omega, by rw [gone_zero P i (by omega), show ((0 : Nat) : Int) = 0 from rfl, come_zero V P hi]; exact Int.le_refl _⟩
  | succ t ih =>
    obtain ⟨h1, h2⟩ := ih (by omega)
    have hm := come_mono V hi h (s := (t : Int)) (t := ((t : Int) + 1)) (by omega) (by omega)
    have e := E i t hi (by omega)
    have hp := V.pass i hi
    have hP : 0 ≤ P i (t + 1) ∧ P i (t + 1) ≤ capD (R i) ((t : Int) + 1) ∧ gone P i t + P i (t + 1) ≤ come R P i ((t : Int) + 1) := by
      rw [e]
      unfold capD
      split <;> omega
    refine ⟨fun d hd => ?_, ?_⟩
    · by_cases e : d = t
      · subst e; exact ⟨hP.1, hP.2.1⟩
      · exact h1 d (by omega)
    · rw [show ((t + 1 : Nat) : Int) = (t : Int) + 1 by omega, gone_succ]; exact hP.2.2
theorem early_right {P : Nat → Nat → Int} (V : Riv R n D) (E : IsEarly R n D P) : Right R n D P := by
  have key : ∀ k, k ≤ n → ∀ u, u < k → ∀ d, d < D → 0 ≤ P u (d + 1) := by
    intro k
    induction k with
    | zero => intro _ u hu; omega
    | succ k ih =>
      intro hk u hu d hd
      have ih' := ih (by omega)
      by_cases e : u = k
      · subst e; exact ((early_reach V E (by omega) ih' (d + 1) (by omega)).1 d (by omega)).1
      · exact ih' u (by omega) d hd
  have hP := key n (Nat.le_refl _)
  refine ⟨fun i d hi hd => hP i hi d hd, fun i d hi hd => ?_, fun i d hi hd => ?_⟩
  · exact ((early_reach V E hi (fun u hu => hP u (by omega)) (d + 1) (by omega)).1 d (by omega)).2
  · have := (early_reach V E hi (fun u hu => hP u (by omega)) (d + 1) (by omega)).2
    rwa [show ((d + 1 : Nat) : Int) = (d : Int) + 1 by omega] at this
/-- No more enter up to a day than have come. -/
theorem right_sum {P : Nat → Nat → Int} (V : Riv R n D) (H : Right R n D P) {i t : Nat} (hi : i < n) (ht : t ≤ D) : gone P i t ≤ come R P i t := by
  cases t with
  | zero => rw [gone_zero P i (by omega)]; rw [show ((0 : Nat) : Int) = 0 from rfl, come_zero V P hi]; exact Int.le_refl _
  | succ t => have := H.sum i t hi (by omega); rwa [show ((t + 1 : Nat) : Int) = (t : Int) + 1 by omega]

/-- What a right plan lets in up to a day is no more than what came before another one, and what may enter from then on. -/
theorem right_cap {P : Nat → Nat → Int} (H : Right R n D P) {i s t : Nat} (hi : i < n) (hst : s ≤ t) (ht : t ≤ D) : gone P i t ≤ gone P i s + (capN (R i) t - capN (R i) s) := by
  obtain ⟨k, rfl⟩ : ∃ k, t = s + k := ⟨t - s, by omega⟩
  rw [gone_nat, gone_nat, sumN_split]
  unfold capN
  rw [sumN_split]
  have := sumN_le (f := fun d => P i (s + d + 1)) (g := fun d => capD (R i) (((s + d : Nat) : Int) + 1)) (n := k) fun d hd => H.cap i (s + d) hi (by omega)
  omega
/-- The early plan: as much as that for one day. -/
theorem early_cap {P : Nat → Nat → Int} (V : Riv R n D) (E : IsEarly R n D P) {i t : Nat} (hi : i < n) (ht : t ≤ D) : ∃ s, s ≤ t ∧ gone P i t = come R P i s + (capN (R i) t - capN (R i) s) := by
  induction t with
  | zero => exact ⟨0, Nat.le_refl _, by rw [gone_zero P i (by omega), show ((0 : Nat) : Int) = 0 from rfl, come_zero V P hi]; omega⟩
  | succ t ih =>
    obtain ⟨s, hs, e⟩ := ih (by omega)
    have e2 := E i t hi (by omega)
    have e3 : gone P i ((t + 1 : Nat) : Int) = gone P i t + P i (t + 1) := by rw [show ((t + 1 : Nat) : Int) = (t : Int) + 1 by omega, gone_succ]
    have e4 : capN (R i) (t + 1) = capN (R i) t + capD (R i) ((t : Int) + 1) := rfl
    by_cases ho : openB (R i) ((t : Int) + 1) = true
    · rw [if_pos ho] at e2
      have e5 : capD (R i) ((t : Int) + 1) = (R i).pass := by unfold capD; rw [if_pos ho]
      by_cases hm : (R i).pass ≤ come R P i ((t : Int) + 1) - gone P i t
      · exact ⟨s, by omega, by rw [e3, e2, e4, e5, e]; omega⟩
      · refine ⟨t + 1, Nat.le_refl _, ?_⟩
        rw [e3, e2, show ((t + 1 : Nat) : Int) = (t : Int) + 1 by omega]
        omega
    · rw [if_neg ho] at e2
      have e5 : capD (R i) ((t : Int) + 1) = 0 := by unfold capD; rw [if_neg ho]
      exact ⟨s, by omega, by rw [e3, e2, e4, e5, e]; omega⟩

/-- By the early plan as many have entered as by any right plan, or more. -/
theorem early_most {P Q : Nat → Nat → Int} (V : Riv R n D) (E : IsEarly R n D P) (H : Right R n D Q) : ∀ i, i < n → ∀ t : Int, t ≤ D → gone Q i t ≤ gone P i t := by
  intro i
  induction i using Nat.strongRecOn with
  | ind i ih =>
    intro hi t ht
    by_cases h0 : t ≤ 0
    · rw [gone_zero Q i h0, gone_zero P i h0]; exact Int.le_refl _
    obtain ⟨k, rfl⟩ : ∃ k : Nat, t = k := ⟨t.toNat, by omega⟩
    obtain ⟨s, hs, e⟩ := early_cap V E hi (t := k) (by omega)
    have h1 := right_cap H hi hs (by omega)
    have h2 := right_sum V H hi (t := s) (by omega)
    have h3 : come R Q i s ≤ come R P i s := by
      unfold come
      have := sumN_le (f := fun u => if (R u).down = (i : Int) then gone Q u (s - (R u).takes) else 0) (g := fun u => if (R u).down = (i : Int) then gone P u (s - (R u).takes) else 0) (n := i) fun u hu => by
        show (if (R u).down = (i : Int) then gone Q u (s - (R u).takes) else 0) ≤ if (R u).down = (i : Int) then gone P u (s - (R u).takes) else 0
        have := V.takes u (by omega)
        split
        · exact ih u hu (by omega) _ (by omega)
        · exact Int.le_refl _
      omega
    omega
end

end Go.Proofs.Ytbnmjbmlejifcaa
