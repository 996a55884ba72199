/- In a pond that is wider or higher no more sticks are needed (plain). -/
import Derived.Test.YtlkoadcbolkhoaaSubm
set_option linter.all false
namespace Go.Proofs.Ytlkoadcbolkhoaa

def tau (wd wd2 c : Int) : Int := c / wd * wd2 + c % wd
def wideX (wd hg wd2 : Int) (X : Int → Bool) (c : Int) : Bool := decide (c % wd2 < wd) && decide (c / wd2 < hg) && X (c / wd2 * wd + c % wd2)
structure Wide (wd hg wd2 hg2 : Int) : Prop where
  b1 : Board wd hg
  b2 : Board wd2 hg2
  w : wd ≤ wd2
  h : hg ≤ hg2
section
variable {wd hg wd2 hg2 : Int}
theorem Wide.tau_at (h : Wide wd hg wd2 hg2) {x y : Int} (hx : 0 ≤ x ∧ x < wd) : tau wd wd2 (y * wd + x) = y * wd2 + x := by
  unfold tau
  rw [(cell_parts hx).1, (cell_parts hx).2]
theorem Wide.x_at (h : Wide wd hg wd2 hg2) (X : Int → Bool) {x y : Int} (hx : 0 ≤ x ∧ x < wd2) : wideX wd hg wd2 X (y * wd2 + x) = (decide (x < wd) && decide (y < hg) && X (y * wd + x)) := by
  unfold wideX
  rw [(cell_parts hx).1, (cell_parts hx).2]
theorem Wide.tau_in (h : Wide wd hg wd2 hg2) {c : Int} (hc : inP wd hg c) : inP wd2 hg2 (tau wd wd2 c) := by
  obtain ⟨x, y, rfl, h1, h2, h3, h4, _, _⟩ := split_cell h.b1.w.1 hc
  rw [h.tau_at ⟨h1, h2⟩]
  have := h.w; have := h.h
  exact cell_rng ⟨h1, by omega⟩ ⟨h3, by omega⟩
theorem mul_step {a b w x y : Int} (hab : a + 1 ≤ b) (hx : x < w) (hy : 0 ≤ y) (hw : 0 ≤ w) : a * w + x < b * w + y := by
  have h1 := Int.mul_le_mul_of_nonneg_right hab hw
  rw [Int.add_mul, Int.one_mul] at h1
  omega
theorem Wide.tau_lt (h : Wide wd hg wd2 hg2) {c e : Int} (hc : inP wd hg c) (he : inP wd hg e) (hlt : c < e) : tau wd wd2 c < tau wd wd2 e := by
  obtain ⟨x, y, rfl, h1, h2, h3, h4, _, _⟩ := split_cell h.b1.w.1 hc
  obtain ⟨x', y', rfl, k1, k2, k3, k4, _, _⟩ := split_cell h.b1.w.1 he
  rw [h.tau_at ⟨h1, h2⟩, h.tau_at ⟨k1, k2⟩]
  have hw := h.w
  by_cases hy : y < y'
  · exact mul_step (by omega) (by omega) k1 (by omega)
  · by_cases hy2 : y = y'
    · subst hy2; omega
    · have := mul_step (a := y') (b := y) (w := wd) (x := x') (y := x) (by omega) k2 h1 (by omega)
      omega
theorem Wide.list (h : Wide wd hg wd2 hg2) : ∀ {l : List Int} {k k2 : Int}, 0 ≤ k → listB (wd * hg) k l = true → (∀ x ∈ l, k2 ≤ tau wd wd2 x) → listB (wd2 * hg2) k2 (l.map (tau wd wd2)) = true
  | [], _, _, _, _, _ => rfl
  | x :: l, k, k2, h0, hl, hk => by
    have hin := listB_in hl
    simp only [listB, Bool.and_eq_true, decide_eq_true_eq] at hl
    have hx : inP wd hg x := ⟨by omega, by omega⟩
    have htx := h.tau_in hx
    rw [List.map_cons]
    unfold listB
    rw [decide_eq_true (hk x (by simp)), decide_eq_true (show tau wd wd2 x ≤ wd2 * hg2 - 1 by have := htx.2; omega)]
    have := h.list (k := x + 1) (k2 := tau wd wd2 x + 1) (by omega) hl.2 fun y hy => by
      have hy2 := listB_in hl.2 y hy
      have := h.tau_lt hx ⟨by omega, hy2.2⟩ (by omega)
      omega
    rw [this]; rfl
theorem nbr_E {wd hg x y : Int} (hx : 0 ≤ x ∧ x < wd) : nbr wd hg (y * wd + x) 0 = if x + 1 < wd then y * wd + (x + 1) else -1 := by rw [nbr_at hx, if_pos rfl]
theorem nbr_N {wd hg x y : Int} (hx : 0 ≤ x ∧ x < wd) : nbr wd hg (y * wd + x) 1 = if y + 1 < hg then (y + 1) * wd + x else -1 := by rw [nbr_at hx, if_neg (show ¬ (1 : Int) = 0 by decide), if_pos rfl]
theorem nbr_W {wd hg x y : Int} (hx : 0 ≤ x ∧ x < wd) : nbr wd hg (y * wd + x) 2 = if 0 < x then y * wd + (x - 1) else -1 := by rw [nbr_at hx, if_neg (show ¬ (2 : Int) = 0 by decide), if_neg (show ¬ (2 : Int) = 1 by decide), if_pos rfl]
theorem nbr_S {wd hg x y : Int} (hx : 0 ≤ x ∧ x < wd) : nbr wd hg (y * wd + x) 3 = if 0 < y then (y - 1) * wd + x else -1 := by rw [nbr_at hx, if_neg (show ¬ (3 : Int) = 0 by decide), if_neg (show ¬ (3 : Int) = 1 by decide), if_neg (show ¬ (3 : Int) = 2 by decide)]
theorem Wide.out (h : Wide wd hg wd2 hg2) (X : Int → Bool) {c d : Int} (hc : inP wd hg c) (hd : 0 ≤ d ∧ d ≤ 3) : outS wd2 hg2 (wideX wd hg wd2 X) (tau wd wd2 c) d = outS wd hg X c d := by
  obtain ⟨x, y, rfl, h1, h2, h3, h4, _, _⟩ := split_cell h.b1.w.1 hc
  have hw := h.w
  have hh := h.h
  rw [h.tau_at ⟨h1, h2⟩]
  have b1 := h.b1.w.1
  have nonneg : ∀ a b w : Int, 0 ≤ a → 0 ≤ b → 1 ≤ w → ¬ (b * w + a < 0) := fun a b w ha hb hw => by have := Int.mul_nonneg hb (show 0 ≤ w by omega); omega
  unfold outS
  rcases dir_cases hd with rfl | rfl | rfl | rfl
  · rw [nbr_E ⟨h1, h2⟩, nbr_E (wd := wd2) ⟨h1, by omega⟩]
    by_cases k : x + 1 < wd
    · rw [if_pos k, if_pos (by omega), h.x_at X ⟨by omega, by omega⟩, decide_eq_true k, decide_eq_true h4, decide_eq_false (nonneg _ _ _ (by omega) h3 b1), decide_eq_false (nonneg _ _ _ (by omega) h3 (by omega))]
      simp
    · rw [if_neg k]
      by_cases k2 : x + 1 < wd2
      · rw [if_pos k2, h.x_at X ⟨by omega, by omega⟩, decide_eq_false k]; simp
      · rw [if_neg k2]; rfl
  · rw [nbr_N ⟨h1, h2⟩, nbr_N (wd := wd2) ⟨h1, by omega⟩]
    by_cases k : y + 1 < hg
    · rw [if_pos k, if_pos (by omega), h.x_at X ⟨h1, by omega⟩, decide_eq_true h2, decide_eq_true k, decide_eq_false (nonneg _ _ _ h1 (by omega) b1), decide_eq_false (nonneg _ _ _ h1 (by omega) (by omega))]
      simp
    · rw [if_neg k]
      by_cases k2 : y + 1 < hg2
      · rw [if_pos k2, h.x_at X ⟨h1, by omega⟩, decide_eq_false k]; simp
      · rw [if_neg k2]; rfl
  · rw [nbr_W ⟨h1, h2⟩, nbr_W (wd := wd2) ⟨h1, by omega⟩]
    by_cases k : 0 < x
    · rw [if_pos k, if_pos k, h.x_at X ⟨by omega, by omega⟩, decide_eq_true (show x - 1 < wd by omega), decide_eq_true h4, decide_eq_false (nonneg _ _ _ (by omega) h3 b1), decide_eq_false (nonneg _ _ _ (by omega) h3 (by omega))]
      simp
    · rw [if_neg k, if_neg k]; rfl
  · rw [nbr_S ⟨h1, h2⟩, nbr_S (wd := wd2) ⟨h1, by omega⟩]
    by_cases k : 0 < y
    · rw [if_pos k, if_pos k, h.x_at X ⟨h1, by omega⟩, decide_eq_true h2, decide_eq_true (show y - 1 < hg by omega), decide_eq_false (nonneg _ _ _ h1 (by omega) b1), decide_eq_false (nonneg _ _ _ h1 (by omega) (by omega))]
      simp
    · rw [if_neg k, if_neg k]; rfl
theorem Wide.x_tau (h : Wide wd hg wd2 hg2) (X : Int → Bool) {c : Int} (hc : inP wd hg c) : wideX wd hg wd2 X (tau wd wd2 c) = X c := by
  obtain ⟨x, y, rfl, h1, h2, h3, h4, _, _⟩ := split_cell h.b1.w.1 hc
  have hw := h.w
  rw [h.tau_at ⟨h1, h2⟩, h.x_at X ⟨h1, by omega⟩, decide_eq_true h2, decide_eq_true h4]; rfl
theorem Wide.x_back (h : Wide wd hg wd2 hg2) (X : Int → Bool) {c : Int} (hc : inP wd2 hg2 c) (hx : wideX wd hg wd2 X c = true) : ∃ e, inP wd hg e ∧ tau wd wd2 e = c := by
  obtain ⟨x, y, rfl, h1, h2, h3, h4, _, _⟩ := split_cell h.b2.w.1 hc
  rw [h.x_at X ⟨h1, h2⟩, Bool.and_eq_true, Bool.and_eq_true, decide_eq_true_eq, decide_eq_true_eq] at hx
  exact ⟨y * wd + x, cell_rng ⟨h1, hx.1.1⟩ ⟨h3, hx.1.2⟩, h.tau_at ⟨h1, hx.1.1⟩⟩
theorem Wide.cut (h : Wide wd hg wd2 hg2) (X : Int → Bool) : cutX wd2 hg2 (wideX wd hg wd2 X) = cutX wd hg X := by
  have hn1 := h.b1.nat
  have hn2 := h.b2.nat
  obtain ⟨F, hF⟩ : ∃ F : Int → Int, (fun c => if wideX wd hg wd2 X c = true then dsum (fun d => if outS wd2 hg2 (wideX wd hg wd2 X) c d = true then (1 : Int) else 0) else 0) = F := ⟨_, rfl⟩
  have e1 : cutX wd2 hg2 (wideX wd hg wd2 X) = cellS (wd2 * hg2).toNat (fun c => cellS (wd * hg).toNat (fun e => if tau wd wd2 e = c then F c else 0)) := by
    unfold cutX
    refine cellS_congr fun c h0 h1 => ?_
    have hc : inP wd2 hg2 c := ⟨h0, by omega⟩
    rw [show (if wideX wd hg wd2 X c = true then dsum (fun d => if outS wd2 hg2 (wideX wd hg wd2 X) c d = true then (1 : Int) else 0) else 0) = F c by rw [← hF]]
    by_cases hx : wideX wd hg wd2 X c = true
    · obtain ⟨e, he, hte⟩ := h.x_back X hc hx
      have he0 := he.1
      have he1 := he.2
      unfold cellS
      rw [sumN_one (k := e.toNat) (by omega) fun i hi hik => ?_]
      · rw [show ((e.toNat : Nat) : Int) = e by omega]
        dsimp only
        rw [if_pos hte]
      · dsimp only
        rw [if_neg]
        intro k
        have hi2 : inP wd hg (i : Int) := ⟨by omega, by omega⟩
        by_cases a1 : (i : Int) < e
        · have := h.tau_lt hi2 he a1; omega
        · by_cases a2 : e < (i : Int)
          · have := h.tau_lt he hi2 a2; omega
          · omega
    · have hz : F c = 0 := by rw [← hF]; dsimp only; rw [if_neg hx]
      rw [hz]
      exact (sumN_zero _ _ fun i hi => by dsimp only; split <;> rfl).symm
  have e2 : cellS (wd2 * hg2).toNat (fun c => cellS (wd * hg).toNat (fun e => if tau wd wd2 e = c then F c else 0)) = cellS (wd * hg).toNat (fun e => cellS (wd2 * hg2).toNat (fun c => if tau wd wd2 e = c then F c else 0)) := sumN_swap _ _ _
  rw [e1, e2]
  unfold cutX
  refine cellS_congr fun e h0 h1 => ?_
  have he : inP wd hg e := ⟨h0, by omega⟩
  have ht := h.tau_in he
  have ht0 := ht.1
  have ht1 := ht.2
  have e3 : cellS (wd2 * hg2).toNat (fun c => if tau wd wd2 e = c then F c else 0) = F (tau wd wd2 e) := by
    unfold cellS
    rw [sumN_one (k := (tau wd wd2 e).toNat) (by omega) fun i hi hik => by dsimp only; rw [if_neg (by omega)]]
    rw [show (((tau wd wd2 e).toNat : Nat) : Int) = tau wd wd2 e by omega]
    dsimp only
    rw [if_pos rfl]
  rw [e3, ← hF]
  dsimp only
  rw [h.x_tau X he]
  split
  · exact dsum_congr fun d hd => by rw [h.out X he hd]
  · rfl
/-- What is not empty has a stick. -/
theorem cut_pos (hB : Board wd hg) (X : Int → Bool) {c : Int} (hc : inP wd hg c) (hx : X c = true) : 1 ≤ cutX wd hg X := by
  have hn := hB.nat
  have key : ∀ (m : Nat) (x y : Int), wd - x ≤ m → 0 ≤ x → x < wd → 0 ≤ y → y < hg → X (y * wd + x) = true → ∃ e, inP wd hg e ∧ X e = true ∧ outS wd hg X e 0 = true := by
    intro m
    induction m with
    | zero => intro x y h1 h2 h3; omega
    | succ m ih =>
      intro x y h1 h2 h3 h4 h5 h6
      cases ho : outS wd hg X (y * wd + x) 0 with
      | true => exact ⟨_, cell_rng ⟨h2, h3⟩ ⟨h4, h5⟩, h6, ho⟩
      | false =>
        obtain ⟨k1, k2⟩ := outS_no ho
        rw [nbr_at ⟨h2, h3⟩, if_pos rfl] at k1 k2
        split at k1
        · next hl => rw [if_pos hl] at k2; exact ih (x + 1) y (by omega) (by omega) hl h4 h5 k2
        · omega
  obtain ⟨x, y, rfl, h1, h2, h3, h4, _, _⟩ := split_cell hB.w.1 hc
  obtain ⟨e, he, hxe, ho⟩ := key (wd - x).toNat x y (by omega) h1 h2 h3 h4 hx
  by_cases hk : 1 ≤ cutX wd hg X
  · exact hk
  · exfalso
    have hnn : ∀ c : Int, 0 ≤ c → c < (wd * hg).toNat → (0 : Int) ≤ if X c = true then dsum (fun d => if outS wd hg X c d = true then (1 : Int) else 0) else 0 := fun c _ _ => by
      split
      · exact dsum_le (f := fun _ => 0) fun d => by split <;> omega
      · omega
    have hz : cellS (wd * hg).toNat (fun _ => (0 : Int)) = 0 := sumN_zero _ _ fun _ _ => rfl
    have hle := cellS_le hnn
    have he0 : cellS (wd * hg).toNat (fun _ => (0 : Int)) = cellS (wd * hg).toNat (fun c => if X c = true then dsum (fun d => if outS wd hg X c d = true then (1 : Int) else 0) else 0) := by
      have : cutX wd hg X = cellS (wd * hg).toNat (fun c => if X c = true then dsum (fun d => if outS wd hg X c d = true then (1 : Int) else 0) else 0) := rfl
      omega
    have := cellS_le_eq hnn he0 e he.1 (by have := he.2; omega)
    rw [if_pos hxe] at this
    have a1 : (if outS wd hg X e 0 = true then (1 : Int) else 0) = 1 := if_pos ho
    have a2 : ∀ d, (0 : Int) ≤ (if outS wd hg X e d = true then (1 : Int) else 0) := fun d => by split <;> omega
    have b1 := a2 1; have b2 := a2 2; have b3 := a2 3
    unfold dsum at this
    dsimp only at this
    omega
theorem wide_known {want keep : List Int} (h : Wide wd hg wd2 hg2) (hV : Valid wd hg want keep) :
    pondE wd2 hg2 (want.map (tau wd wd2)) (keep.map (tau wd wd2)) = 0 ∧ ((raft wd2 hg2 (want.map (tau wd wd2)) (keep.map (tau wd wd2))).2 : Int) ≤ (raft wd hg want keep).2 ∧ (0 < ((raft wd2 hg2 (want.map (tau wd wd2)) (keep.map (tau wd wd2))).2 : Int) ↔ 0 < want.length) := by
  have inj : ∀ x y, inP wd hg x → inP wd hg y → tau wd wd2 x = tau wd wd2 y → x = y := fun x y hx hy e => by
    by_cases a1 : x < y
    · have := h.tau_lt hx hy a1; omega
    · by_cases a2 : y < x
      · have := h.tau_lt hy hx a2; omega
      · omega
  have t0 : ∀ x, inP wd hg x → 0 ≤ tau wd wd2 x := fun x hx => (h.tau_in hx).1
  have hp : pondE wd2 hg2 (want.map (tau wd wd2)) (keep.map (tau wd wd2)) = 0 := by
    refine pond_of h.b2 (h.list (Int.le_refl 0) hV.w fun x hx => t0 x (hV.win hx)) (h.list (Int.le_refl 0) hV.k fun x hx => t0 x (hV.kin hx)) fun x hx hk => ?_
    obtain ⟨a, ha, rfl⟩ := List.mem_map.1 hx
    obtain ⟨b, hb, e⟩ := List.mem_map.1 hk
    have := inj _ _ (hV.kin hb) (hV.win ha) e
    subst this
    exact hV.d _ ha hb
  have v2 := pond_valid hp
  have b1 := best_known hV
  have b2 := best_known v2
  have hen : enclX (want.map (tau wd wd2)) (keep.map (tau wd wd2)) (wideX wd hg wd2 fun c => (smallL wd hg want keep).contains c) := by
    refine ⟨fun x hx => ?_, fun x hx => ?_⟩
    · obtain ⟨a, ha, rfl⟩ := List.mem_map.1 hx
      rw [h.x_tau _ (hV.win ha)]; exact b1.s.1 a ha
    · obtain ⟨a, ha, rfl⟩ := List.mem_map.1 hx
      rw [h.x_tau _ (hV.kin ha)]; exact b1.s.2 a ha
  have hle := b2.least _ hen
  rw [h.cut, b1.ms] at hle
  refine ⟨hp, hle, fun hpos => ?_, fun hpos => ?_⟩
  · cases want with
    | nil =>
      have he : enclX (([] : List Int).map (tau wd wd2)) (keep.map (tau wd wd2)) (fun _ => false) := ⟨fun c hc => by simp at hc, fun _ _ => rfl⟩
      have := b2.least _ he
      have hz : cutX wd2 hg2 (fun _ => false) = 0 := sumN_zero _ _ fun i hi => by dsimp only; rw [if_neg (by simp)]
      rw [hz] at this
      omega
    | cons a l => simp
  · cases want with
    | nil => simp at hpos
    | cons a l =>
      have ha : inP wd hg a := hV.win (by simp)
      have := cut_pos h.b2 _ (h.tau_in ha) (b2.s.1 (tau wd wd2 a) (by simp))
      rw [b2.ms] at this
      omega
end
end Go.Proofs.Ytlkoadcbolkhoaa
