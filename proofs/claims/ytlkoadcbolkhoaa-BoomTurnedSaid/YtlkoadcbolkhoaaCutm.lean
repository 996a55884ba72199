/- As many ways as there can be are as many as the fewest sticks (plain). -/
import Derived.Test.YtlkoadcbolkhoaaJordan
import Derived.Test.YtlkoadcbolkhoaaKinds
set_option linter.all false
namespace Go.Proofs.Ytlkoadcbolkhoaa

/-! ### Sums over cells -/
def cellS (n : Nat) (f : Int → Int) : Int := sumN (fun i => f (i : Int)) n
theorem cellS_congr {n : Nat} {f g : Int → Int} (h : ∀ c : Int, 0 ≤ c → c < n → f c = g c) : cellS n f = cellS n g := sumN_congr fun i hi => h i (by omega) (by omega)
theorem cellS_add (n : Nat) (f g : Int → Int) : cellS n (fun c => f c + g c) = cellS n f + cellS n g := sumN_add _ _ _
theorem cellS_sub (n : Nat) (f g : Int → Int) : cellS n (fun c => f c - g c) = cellS n f - cellS n g := sumN_sub _ _ _
theorem sumN_le {f g : Nat → Int} : ∀ {n : Nat}, (∀ i, i < n → f i ≤ g i) → sumN f n ≤ sumN g n
  | 0, _ => Int.le_refl _
  | n + 1, h => by
    have h1 := sumN_le (n := n) fun i hi => h i (by omega)
    have h2 := h n (by omega)
    rw [sumN, sumN]; omega
theorem cellS_le {n : Nat} {f g : Int → Int} (h : ∀ c : Int, 0 ≤ c → c < n → f c ≤ g c) : cellS n f ≤ cellS n g := sumN_le fun i hi => h i (by omega) (by omega)
theorem sumN_le_eq {f g : Nat → Int} : ∀ {n : Nat}, (∀ i, i < n → f i ≤ g i) → sumN f n = sumN g n → ∀ i, i < n → f i = g i
  | n + 1, h, e, i, hi => by
    have h1 := sumN_le (n := n) fun i hi => h i (by omega)
    have h2 := h n (by omega)
    rw [sumN, sumN] at e
    by_cases hin : i = n
    · subst hin; omega
    · exact sumN_le_eq (n := n) (fun i hi => h i (by omega)) (by omega) i (by omega)
theorem cellS_le_eq {n : Nat} {f g : Int → Int} (h : ∀ c : Int, 0 ≤ c → c < n → f c ≤ g c) (e : cellS n f = cellS n g) (c : Int) (h0 : 0 ≤ c) (h1 : c < n) : f c = g c := by
  have := sumN_le_eq (f := fun i => f (i : Int)) (g := fun i => g (i : Int)) (fun i hi => h i (by omega) (by omega)) e c.toNat (by omega)
  simpa [show ((c.toNat : Nat) : Int) = c by omega] using this
theorem cellS_one {n : Nat} {x : Int} {v : Int} (h : 0 ≤ x ∧ x < n) : cellS n (fun c => if x = c then v else 0) = v := by
  unfold cellS
  rw [sumN_one (k := x.toNat) (by omega) fun i hi hik => by dsimp only; rw [if_neg (by omega)]]
  dsimp only
  rw [if_pos (by omega)]
theorem cellS_none {n : Nat} {x : Int} {v : Int} (h : ¬ (0 ≤ x ∧ x < n)) : cellS n (fun c => if x = c then v else 0) = 0 := sumN_zero _ _ fun i hi => by dsimp only; rw [if_neg (by omega)]

/-! ### Sides seen from both ends -/
section
variable {wd hg : Int}
theorem Board.nat (hB : Board wd hg) : (((wd * hg).toNat : Nat) : Int) = wd * hg := by
  have := Int.mul_nonneg (show 0 ≤ wd by have := hB.w; omega) (show 0 ≤ hg by have := hB.h; omega)
  omega
theorem turn_one (hB : Board wd hg) (g : Int → Int → Int) {d : Int} (hd : 0 ≤ d ∧ d ≤ 3) :
    cellS (wd * hg).toNat (fun c => if 0 ≤ nbr wd hg c d then g (nbr wd hg c d) (back d) else 0) = cellS (wd * hg).toNat (fun x => if 0 ≤ nbr wd hg x (back d) then g x (back d) else 0) := by
  have hn := hB.nat
  have e1 : ∀ c : Int, 0 ≤ c → c < (wd * hg).toNat → (if 0 ≤ nbr wd hg c d then g (nbr wd hg c d) (back d) else 0) = cellS (wd * hg).toNat (fun x => if nbr wd hg c d = x then g x (back d) else 0) := fun c h0 h1 => by
    have hc : inP wd hg c := ⟨h0, by omega⟩
    by_cases h : 0 ≤ nbr wd hg c d
    · have hi := nbr_in hB hc h
      rw [if_pos h]
      unfold cellS
      rw [sumN_one (k := (nbr wd hg c d).toNat) (by have := hi.2; omega) fun i hi' hik => by dsimp only; rw [if_neg (by omega)]]
      dsimp only
      rw [if_pos (by omega), show (((nbr wd hg c d).toNat : Nat) : Int) = nbr wd hg c d by omega]
    · rw [if_neg h]
      exact (sumN_zero _ _ fun i hi => by dsimp only; rw [if_neg (by omega)]).symm
  rw [cellS_congr e1]
  have e2 : cellS (wd * hg).toNat (fun c => cellS (wd * hg).toNat (fun x => if nbr wd hg c d = x then g x (back d) else 0)) = cellS (wd * hg).toNat (fun x => cellS (wd * hg).toNat (fun c => if nbr wd hg c d = x then g x (back d) else 0)) := sumN_swap _ _ _
  rw [e2]
  refine cellS_congr fun x h0 h1 => ?_
  have hx : inP wd hg x := ⟨h0, by omega⟩
  rw [cellS_congr (g := fun c => if nbr wd hg x (back d) = c then g x (back d) else 0) fun c h0 h1 => by
    have := nbr_iff hB (c := c) ⟨h0, by omega⟩ hx hd
    by_cases h : nbr wd hg c d = x
    · rw [if_pos h, if_pos (this.2 h)]
    · rw [if_neg h, if_neg fun k => h (this.1 k)]]
  by_cases h : 0 ≤ nbr wd hg x (back d)
  · rw [if_pos h]
    have hi := nbr_in hB hx h
    exact cellS_one ⟨h, by have := hi.2; omega⟩
  · rw [if_neg h]
    exact cellS_none fun k => h k.1
theorem cellS_dsum (n : Nat) (f : Int → Int → Int) : cellS n (fun c => dsum fun d => f c d) = cellS n (fun c => f c 0) + cellS n (fun c => f c 1) + cellS n (fun c => f c 2) + cellS n (fun c => f c 3) := by
  unfold dsum
  rw [cellS_add, cellS_add, cellS_add]
theorem turned_sum (hB : Board wd hg) (g : Int → Int → Int) :
    cellS (wd * hg).toNat (fun c => dsum fun d => if 0 ≤ nbr wd hg c d then g (nbr wd hg c d) (back d) else 0) = cellS (wd * hg).toNat (fun c => dsum fun d => if 0 ≤ nbr wd hg c d then g c d else 0) := by
  rw [cellS_dsum, cellS_dsum, turn_one hB g (d := 0) (by omega), turn_one hB g (d := 1) (by omega), turn_one hB g (d := 2) (by omega), turn_one hB g (d := 3) (by omega)]
  have b0 : back 0 = 2 := rfl
  have b1 : back 1 = 3 := rfl
  have b2 : back 2 = 0 := rfl
  have b3 : back 3 = 1 := rfl
  rw [b0, b1, b2, b3]
  omega

/-! ### The sticks of a set of cells -/
/-- A side of a cell that leads out of the set. -/
def outS (wd hg : Int) (X : Int → Bool) (c d : Int) : Bool := decide (nbr wd hg c d < 0) || !X (nbr wd hg c d)
def cutX (wd hg : Int) (X : Int → Bool) : Int := cellS (wd * hg).toNat fun c => if X c = true then dsum (fun d => if outS wd hg X c d = true then 1 else 0) else 0
theorem outS_no {X : Int → Bool} {c d : Int} (h : outS wd hg X c d = false) : 0 ≤ nbr wd hg c d ∧ X (nbr wd hg c d) = true := by
  unfold outS at h
  rw [Bool.or_eq_false_iff] at h
  exact ⟨by have := of_decide_eq_false h.1; omega, by simpa using h.2⟩
theorem net_sum (hB : Board wd hg) (u : Used) (X : Int → Bool) : cellS (wd * hg).toNat (fun c => if X c = true then net u wd hg c else 0) = cellS (wd * hg).toNat (fun c => if X c = true then dsum (fun d => if outS wd hg X c d = true then u (c, d) - innD u wd hg c d else 0) else 0) := by
  have hn := hB.nat
  have ht := turned_sum hB (fun c d => if X c = true ∧ X (nbr wd hg c d) = true then u (c, d) else 0)
  have hs : cellS (wd * hg).toNat (fun c => if X c = true then net u wd hg c else 0) = cellS (wd * hg).toNat (fun c => (if X c = true then dsum (fun d => if outS wd hg X c d = true then u (c, d) - innD u wd hg c d else 0) else 0) +
      ((dsum fun d => if 0 ≤ nbr wd hg c d then (if X c = true ∧ X (nbr wd hg c d) = true then u (c, d) else 0) else 0) - (dsum fun d => if 0 ≤ nbr wd hg c d then (if X (nbr wd hg c d) = true ∧ X (nbr wd hg (nbr wd hg c d) (back d)) = true then u (nbr wd hg c d, back d) else 0) else 0))) := by
    refine cellS_congr fun c h0 h1 => ?_
    have hc : inP wd hg c := ⟨h0, by omega⟩
    by_cases hX : X c = true
    · rw [if_pos hX, if_pos hX]
      have each : ∀ d, 0 ≤ d ∧ d ≤ 3 → u (c, d) - innD u wd hg c d = (if outS wd hg X c d = true then u (c, d) - innD u wd hg c d else 0) + ((if 0 ≤ nbr wd hg c d then (if X c = true ∧ X (nbr wd hg c d) = true then u (c, d) else 0) else 0) - (if 0 ≤ nbr wd hg c d then (if X (nbr wd hg c d) = true ∧ X (nbr wd hg (nbr wd hg c d) (back d)) = true then u (nbr wd hg c d, back d) else 0) else 0)) := fun d hd => by
        cases ho : outS wd hg X c d with
        | false =>
          obtain ⟨h2, h3⟩ := outS_no ho
          rw [if_neg (by simp), if_pos h2, if_pos ⟨hX, h3⟩, if_pos h2, nbr_back hB hc hd h2, if_pos ⟨h3, hX⟩]
          unfold innD
          rw [if_pos h2]; omega
        | true =>
          rw [if_pos rfl]
          by_cases h2 : 0 ≤ nbr wd hg c d
          · have h3 : X (nbr wd hg c d) = false := by
              unfold outS at ho
              rw [decide_eq_false (by omega), Bool.false_or] at ho
              simpa using ho
            rw [if_pos h2, if_pos h2, if_neg (by simp [h3]), if_neg (by simp [h3])]; omega
          · rw [if_neg h2, if_neg h2]; omega
      unfold net outU innU dsum
      have e0 := each 0 (by omega)
      have e1 := each 1 (by omega)
      have e2 := each 2 (by omega)
      have e3 := each 3 (by omega)
      dsimp only
      omega
    · rw [if_neg hX, if_neg hX]
      have z1 : (dsum fun d => if 0 ≤ nbr wd hg c d then (if X c = true ∧ X (nbr wd hg c d) = true then u (c, d) else 0) else 0) = 0 := by
        rw [dsum_congr (g := fun _ => 0) fun d _ => by rw [if_neg (show ¬ (X c = true ∧ X (nbr wd hg c d) = true) from fun h => hX h.1)]; split <;> rfl]; rfl
      have z2 : (dsum fun d => if 0 ≤ nbr wd hg c d then (if X (nbr wd hg c d) = true ∧ X (nbr wd hg (nbr wd hg c d) (back d)) = true then u (nbr wd hg c d, back d) else 0) else 0) = 0 := by
        rw [dsum_congr (g := fun _ => 0) fun d hd => by
          by_cases h2 : 0 ≤ nbr wd hg c d
          · rw [if_pos h2, nbr_back hB hc hd h2, if_neg fun h => hX h.2]
          · rw [if_neg h2]]
        rfl
      rw [z1, z2]; rfl
  rw [hs, cellS_add, cellS_sub, ht]
  omega

/-! ### Lists of cells -/
theorem filt_succ {N : Int} : ∀ {l : List Int} {k : Int}, listB N k l = true → ∀ m : Int, k ≤ m + 1 → l.filter (fun c => decide (c < m + 1)) = l.filter (fun c => decide (c < m)) ++ if l.contains m = true then [m] else []
  | [], _, _, m, _ => by simp
  | x :: l, k, h, m, hm => by
    simp only [listB, Bool.and_eq_true, decide_eq_true_eq] at h
    by_cases h1 : x < m
    · rw [List.filter_cons_of_pos (by simp; omega), List.filter_cons_of_pos (by simp; omega), filt_succ h.2 m (by omega)]
      have : (x :: l).contains m = l.contains m := by
        rw [List.contains_cons, beq_eq_false_iff_ne.2 (by omega), Bool.false_or]
      rw [this]; rfl
    · have hge : ∀ y ∈ l, m < y := fun y hy => by have := (listB_in h.2 y hy).1; omega
      have hf1 : l.filter (fun c => decide (c < m + 1)) = [] := List.filter_eq_nil_iff.2 fun y hy => by have := hge y hy; simp; omega
      have hf2 : l.filter (fun c => decide (c < m)) = [] := List.filter_eq_nil_iff.2 fun y hy => by have := hge y hy; simp; omega
      have hnc : l.contains m = false := by
        rw [Bool.eq_false_iff]
        intro hc
        have := hge m (List.contains_iff_mem.1 hc); omega
      by_cases h2 : x = m
      · subst h2
        rw [List.filter_cons_of_pos (by simp; omega), List.filter_cons_of_neg (by simp), hf1, hf2]
        simp
      · rw [List.filter_cons_of_neg (by simp; omega), List.filter_cons_of_neg (by simp; omega), hf1, hf2, List.contains_cons, beq_eq_false_iff_ne.2 (by omega), hnc]
        simp
theorem pick_filter {N : Int} {l : List Int} (h : listB N 0 l = true) : ∀ m : Nat, pickC (fun c => l.contains c) m = l.filter (fun c => decide (c < (m : Int)))
  | 0 => by
    have : l.filter (fun c => decide (c < ((0 : Nat) : Int))) = [] := List.filter_eq_nil_iff.2 fun y hy => by have := (listB_in h y hy).1; simp; omega
    rw [this]; rfl
  | m + 1 => by
    have e := filt_succ h (m : Int) (by omega)
    rw [show (((m + 1 : Nat) : Int)) = (m : Int) + 1 by omega, e, ← pick_filter h m]
    cases hc : l.contains (m : Int) with
    | true => rw [pickC_yes hc]; rfl
    | false => rw [pickC_no hc]; exact (List.append_nil _).symm
/-- A list of cells by its cells. -/
theorem list_pick {N : Int} {l : List Int} (h : listB N 0 l = true) : l = pickC (fun c => l.contains c) N.toNat := by
  rw [pick_filter h N.toNat]
  refine (List.filter_eq_self.2 fun y hy => ?_).symm
  have := listB_in h y hy
  simp; omega
theorem pick_sum (p : Int → Bool) (f : Int → Int) : ∀ n : Nat, ((pickC p n).map f).sum = cellS n fun c => if p c = true then f c else 0
  | 0 => rfl
  | n + 1 => by
    have ih := pick_sum p f n
    show _ = cellS n (fun c => if p c = true then f c else 0) + (if p (n : Int) = true then f (n : Int) else 0)
    cases h : p (n : Int) with
    | true => rw [pickC_yes h, List.map_append, List.sum_append, ih]; simp
    | false => rw [pickC_no h, ih]; simp
theorem pick_has (p : Int → Bool) (n : Nat) {c : Int} (h : 0 ≤ c ∧ c < n) : (pickC p n).contains c = p c := by
  unfold pickC
  cases hp : p c with
  | true =>
    rw [List.contains_iff_mem, List.mem_filter, List.mem_map]
    exact ⟨⟨c.toNat, by simp; omega, by omega⟩, hp⟩
  | false =>
    rw [Bool.eq_false_iff]
    intro hc
    rw [List.contains_iff_mem, List.mem_filter] at hc
    rw [hp] at hc
    exact absurd hc.2 (by simp)
theorem pick_mem {p : Int → Bool} {n : Nat} {c : Int} (h : c ∈ pickC p n) : (0 ≤ c ∧ c < n) ∧ p c = true := by
  unfold pickC at h
  rw [List.mem_filter, List.mem_map] at h
  obtain ⟨⟨i, hi, rfl⟩, hp⟩ := h
  have : i < n := by simpa using hi
  exact ⟨by omega, hp⟩
theorem pick_list (p : Int → Bool) : ∀ (n : Nat) (N : Int), (n : Int) ≤ N → listB N 0 (pickC p n) = true
  | n, N, h => by
    have key : ∀ (m k : Nat), m + k = n → listB N (k : Int) (((List.range' k m).map fun (i : Nat) => (i : Int)).filter p) = true := fun m => by
      induction m with
      | zero => intro k _; rfl
      | succ m ih =>
        intro k hk
        have := ih (k + 1) (by omega)
        rw [List.range'_succ, List.map_cons]
        by_cases hp : p (k : Int) = true
        · rw [List.filter_cons_of_pos hp]
          unfold listB
          rw [decide_eq_true (Int.le_refl _), decide_eq_true (show (k : Int) ≤ N - 1 by omega)]
          simpa using this
        · rw [List.filter_cons_of_neg hp]
          exact listB_down (by simpa using this) (by omega)
    have := key n 0 (by omega)
    unfold pickC
    rw [List.range_eq_range']
    simpa using this
where
  listB_down {N : Int} : ∀ {l : List Int} {k j : Int}, listB N k l = true → j ≤ k → listB N j l = true := fun {l k j} h hj => by
    cases l with
    | nil => rfl
    | cons x l =>
      simp only [listB, Bool.and_eq_true, decide_eq_true_eq] at h ⊢
      exact ⟨⟨by omega, h.1.2⟩, h.2⟩
theorem stickN_sum (wd hg : Int) (W : List Int) : ∀ l : List Int, stickN wd hg W l = (l.map fun c => dsum fun d => stickC wd hg W c d).sum
  | [] => rfl
  | c :: l => by
    rw [List.map_cons, List.sum_cons, ← stickN_sum wd hg W l]
    rfl
theorem stickC_out (wd hg : Int) (W : List Int) (c d : Int) : stickC wd hg W c d = if outS wd hg (fun c => W.contains c) c d = true then 1 else 0 := by
  unfold stickC outS
  by_cases h1 : nbr wd hg c d < 0
  · rw [if_pos (.inl h1), decide_eq_true h1]; rfl
  · rw [decide_eq_false h1, Bool.false_or]
    show _ = if (!W.contains (nbr wd hg c d)) = true then 1 else 0
    by_cases h2 : W.contains (nbr wd hg c d) = true
    · rw [if_neg (by rintro (h | h); exact h1 h; rw [h2] at h; cases h), h2]; rfl
    · have h3 : W.contains (nbr wd hg c d) = false := by simpa using h2
      rw [if_pos (.inr h3), h3]; rfl
theorem stick_cut {water : List Int} (h : listB (wd * hg) 0 water = true) : stickN wd hg water water = cutX wd hg fun c => water.contains c := by
  rw [stickN_sum]
  have e := list_pick h
  conv => lhs; rw [show (water.map fun c => dsum fun d => stickC wd hg water c d) = (pickC (fun c => water.contains c) (wd * hg).toNat).map (fun c => dsum fun d => stickC wd hg water c d) by rw [← e]]
  rw [pick_sum]
  unfold cutX
  refine cellS_congr fun c _ _ => ?_
  split
  · exact dsum_congr fun d _ => stickC_out wd hg water c d
  · rfl
theorem cutX_congr (hB : Board wd hg) {X Y : Int → Bool} (h : ∀ c, inP wd hg c → X c = Y c) : cutX wd hg X = cutX wd hg Y := by
  have hn := hB.nat
  refine cellS_congr fun c h0 h1 => ?_
  have hc : inP wd hg c := ⟨h0, by omega⟩
  rw [h c hc]
  split
  · refine dsum_congr fun d _ => ?_
    have : outS wd hg X c d = outS wd hg Y c d := by
      unfold outS
      by_cases h2 : nbr wd hg c d < 0
      · rw [decide_eq_true h2]; rfl
      · rw [h _ (nbr_in hB hc (by omega))]
    rw [this]
  · rfl
end
end Go.Proofs.Ytlkoadcbolkhoaa
