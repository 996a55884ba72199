/- What flows from the cells that are wanted: neighbours, what is reached, one more way, as many ways as there can be (plain). -/
import Derived.Test.YtlkoadcbolkhoaaState
set_option linter.all false
namespace Go.Proofs.Ytlkoadcbolkhoaa

/-! ### Neighbours -/
def back (d : Int) : Int := (d + 2) % 4
theorem back_rng {d : Int} (h : 0 ≤ d ∧ d ≤ 3) : 0 ≤ back d ∧ back d ≤ 3 := by unfold back; omega
theorem back_back {d : Int} (h : 0 ≤ d ∧ d ≤ 3) : back (back d) = d := by unfold back; omega
theorem back_ne {d : Int} (h : 0 ≤ d ∧ d ≤ 3) : back d ≠ d := by unfold back; omega
theorem dir_cases {d : Int} (h : 0 ≤ d ∧ d ≤ 3) : d = 0 ∨ d = 1 ∨ d = 2 ∨ d = 3 := by omega

/-- Where a cell lies. -/
theorem split_cell {wd hg c : Int} (h1 : 1 ≤ wd) (h : 0 ≤ c ∧ c < wd * hg) : ∃ x y, c = y * wd + x ∧ 0 ≤ x ∧ x < wd ∧ 0 ≤ y ∧ y < hg ∧ c % wd = x ∧ c / wd = y := by
  refine ⟨c % wd, c / wd, ?_, Int.emod_nonneg _ (by omega), Int.emod_lt_of_pos _ (by omega), Int.ediv_nonneg h.1 (by omega), ?_, rfl, rfl⟩
  · have := Int.mul_ediv_add_emod c wd
    rw [Int.mul_comm] at this
    omega
  · exact Int.ediv_lt_of_lt_mul (by omega) (by rw [Int.mul_comm]; exact h.2)
theorem cell_parts {wd x y : Int} (h : 0 ≤ x ∧ x < wd) : (y * wd + x) % wd = x ∧ (y * wd + x) / wd = y := by
  constructor
  · rw [Int.add_comm, Int.add_mul_emod_self_right]
    exact Int.emod_eq_of_lt h.1 h.2
  · rw [Int.add_comm, Int.add_mul_ediv_right _ _ (by omega : wd ≠ 0), Int.ediv_eq_zero_of_lt h.1 h.2]
    omega
theorem cell_rng {wd hg x y : Int} (hx : 0 ≤ x ∧ x < wd) (hy : 0 ≤ y ∧ y < hg) : 0 ≤ y * wd + x ∧ y * wd + x < wd * hg := by
  have e1 : 0 ≤ y * wd := Int.mul_nonneg hy.1 (by omega)
  have e2 : y * wd ≤ (hg - 1) * wd := Int.mul_le_mul_of_nonneg_right (by omega) (by omega)
  rw [Int.sub_mul, Int.one_mul, Int.mul_comm hg wd] at e2
  omega
/-- The neighbour of a cell, by its place. -/
theorem nbr_at {wd hg x y d : Int} (hx : 0 ≤ x ∧ x < wd) : nbr wd hg (y * wd + x) d =
    if d = 0 then (if x + 1 < wd then y * wd + (x + 1) else -1) else if d = 1 then (if y + 1 < hg then (y + 1) * wd + x else -1) else if d = 2 then (if 0 < x then y * wd + (x - 1) else -1) else (if 0 < y then (y - 1) * wd + x else -1) := by
  obtain ⟨e1, e2⟩ := cell_parts (y := y) hx
  unfold nbr
  have f1 := Int.add_mul y 1 wd
  have f2 := Int.sub_mul y 1 wd
  rw [Int.one_mul] at f1 f2
  rw [e1, e2, f1, f2]
  by_cases h0 : d = 0
  · simp only [h0, if_true]
    split <;> omega
  · by_cases h1 : d = 1
    · simp only [h1, if_true, if_neg (show ¬ (1 : Int) = 0 by decide)]
      split <;> omega
    · by_cases h2 : d = 2
      · simp only [h2, if_true, if_neg (show ¬ (2 : Int) = 0 by decide), if_neg (show ¬ (2 : Int) = 1 by decide)]
        split <;> omega
      · simp only [h0, h1, h2, if_false]
        split <;> omega
structure Board (wd hg : Int) : Prop where
  w : 1 ≤ wd ∧ wd ≤ 8
  h : 1 ≤ hg ∧ hg ≤ 8
def inP (wd hg c : Int) : Prop := 0 ≤ c ∧ c < wd * hg
theorem nbr_in {wd hg c d : Int} (hB : Board wd hg) (hc : inP wd hg c) (h : 0 ≤ nbr wd hg c d) : inP wd hg (nbr wd hg c d) := by
  obtain ⟨x, y, rfl, hx0, hx1, hy0, hy1, _⟩ := split_cell hB.w.1 hc
  rw [nbr_at ⟨hx0, hx1⟩] at h ⊢
  split
  · split
    · exact cell_rng ⟨by omega, by omega⟩ ⟨by omega, by omega⟩
    · simp_all
  · split
    · split
      · exact cell_rng ⟨by omega, by omega⟩ ⟨by omega, by omega⟩
      · simp_all
    · split
      · split
        · exact cell_rng ⟨by omega, by omega⟩ ⟨by omega, by omega⟩
        · simp_all
      · split
        · exact cell_rng ⟨by omega, by omega⟩ ⟨by omega, by omega⟩
        · simp_all
theorem nbr_ge {wd hg c d : Int} (hB : Board wd hg) (hc : inP wd hg c) : -1 ≤ nbr wd hg c d := by
  obtain ⟨x, y, rfl, hx0, hx1, hy0, hy1, _⟩ := split_cell hB.w.1 hc
  have e1 : 0 ≤ y * wd := Int.mul_nonneg hy0 (by omega)
  rw [nbr_at ⟨hx0, hx1⟩]
  split
  · split <;> omega
  · split
    · split
      · have := (cell_rng (wd := wd) (hg := hg) (x := x) (y := y + 1) ⟨by omega, by omega⟩ ⟨by omega, by omega⟩).1; omega
      · omega
    · split
      · split <;> omega
      · split
        · have := (cell_rng (wd := wd) (hg := hg) (x := x) (y := y - 1) ⟨by omega, by omega⟩ ⟨by omega, by omega⟩).1; omega
        · omega
theorem nbr_back {wd hg c d : Int} (hB : Board wd hg) (hc : inP wd hg c) (hd : 0 ≤ d ∧ d ≤ 3) (h : 0 ≤ nbr wd hg c d) : nbr wd hg (nbr wd hg c d) (back d) = c := by
  obtain ⟨x, y, rfl, hx0, hx1, hy0, hy1, _⟩ := split_cell hB.w.1 hc
  rcases dir_cases hd with rfl | rfl | rfl | rfl
  · rw [nbr_at ⟨hx0, hx1⟩] at h ⊢
    simp only [if_true] at h ⊢
    split at h
    · next h1 =>
      rw [if_pos h1, nbr_at ⟨by omega, h1⟩, show back 0 = 2 from rfl]
      simp
      omega
    · omega
  · rw [nbr_at ⟨hx0, hx1⟩] at h ⊢
    simp at h ⊢
    split at h
    · next h1 =>
      rw [if_pos h1, nbr_at ⟨hx0, hx1⟩, show back 1 = 3 from rfl]
      simp
      omega
    · omega
  · rw [nbr_at ⟨hx0, hx1⟩] at h ⊢
    simp at h ⊢
    split at h
    · next h1 =>
      rw [if_pos h1, nbr_at ⟨by omega, by omega⟩, show back 2 = 0 from rfl]
      simp
      omega
    · omega
  · rw [nbr_at ⟨hx0, hx1⟩] at h ⊢
    simp at h ⊢
    split at h
    · next h1 =>
      rw [if_pos h1, nbr_at ⟨hx0, hx1⟩, show back 3 = 1 from rfl]
      simp
      omega
    · omega
theorem nbr_iff {wd hg c x d : Int} (hB : Board wd hg) (hc : inP wd hg c) (hx : inP wd hg x) (hd : 0 ≤ d ∧ d ≤ 3) : nbr wd hg x (back d) = c ↔ nbr wd hg c d = x := by
  constructor
  · intro h
    have := nbr_back hB hx (back_rng hd) (by rw [h]; exact hc.1)
    rw [h, back_back hd] at this
    exact this
  · intro h
    have := nbr_back hB hc hd (by rw [h]; exact hx.1)
    rw [h] at this
    exact this
/-! ### What flows -/
def dsum (f : Int → Int) : Int := f 0 + f 1 + f 2 + f 3
theorem dsum_one {e v : Int} (h : 0 ≤ e ∧ e ≤ 3) : dsum (fun d => if d = e then v else 0) = v := by
  rcases dir_cases h with rfl | rfl | rfl | rfl <;> simp [dsum]
theorem dsum_add (f g : Int → Int) : dsum (fun d => f d + g d) = dsum f + dsum g := by simp only [dsum]; omega
theorem dsum_zero : dsum (fun _ => 0) = 0 := rfl
theorem dsum_congr {f g : Int → Int} (h : ∀ d, 0 ≤ d ∧ d ≤ 3 → f d = g d) : dsum f = dsum g := by
  unfold dsum
  rw [h 0 (by omega), h 1 (by omega), h 2 (by omega), h 3 (by omega)]
def innD (u : Used) (wd hg c d : Int) : Int := if 0 ≤ nbr wd hg c d then u (nbr wd hg c d, back d) else 0
def outU (u : Used) (c : Int) : Int := dsum fun d => u (c, d)
def innU (u : Used) (wd hg c : Int) : Int := dsum fun d => innD u wd hg c d
def net (u : Used) (wd hg c : Int) : Int := outU u c - innU u wd hg c
theorem net_put {wd hg c d x v : Int} {u : Used} (hB : Board wd hg) (hc : inP wd hg c) (hd : 0 ≤ d ∧ d ≤ 3) (hx : inP wd hg x) :
    net (putU u (c, d) v) wd hg x = net u wd hg x + (if x = c then v - u (c, d) else 0) - (if x = nbr wd hg c d then v - u (c, d) else 0) := by
  have h1 : outU (putU u (c, d) v) x = outU u x + (if x = c then v - u (c, d) else 0) := by
    unfold outU
    by_cases hxc : x = c
    · subst hxc
      rw [if_pos rfl, ← dsum_one (v := v - u (x, d)) hd, ← dsum_add]
      refine dsum_congr fun e _ => ?_
      unfold putU
      by_cases he : e = d
      · subst he; simp; omega
      · rw [if_neg (by simp [he]), if_neg he]; omega
    · rw [if_neg hxc, Int.add_zero]
      refine dsum_congr fun e _ => ?_
      unfold putU
      rw [if_neg (by simp [hxc])]
  have h2 : innU (putU u (c, d) v) wd hg x = innU u wd hg x + (if x = nbr wd hg c d then v - u (c, d) else 0) := by
    unfold innU
    by_cases hxc : x = nbr wd hg c d
    · rw [if_pos hxc, ← dsum_one (v := v - u (c, d)) (back_rng hd), ← dsum_add]
      refine dsum_congr fun e he => ?_
      have hb := (nbr_iff hB hc hx hd).2 hxc.symm
      unfold innD putU
      by_cases hed : e = back d
      · subst hed
        rw [hb, back_back hd, if_pos hc.1, if_pos rfl, if_pos hc.1, if_pos rfl]; omega
      · rw [if_neg hed, Int.add_zero]
        have : back e ≠ d := fun h => hed (by rw [← h, back_back he])
        split
        · rw [if_neg (by simp [this])]
        · rfl
    · rw [if_neg hxc, Int.add_zero]
      refine dsum_congr fun e he => ?_
      unfold innD putU
      split
      · next h0 =>
        rw [if_neg]
        intro h
        injection h with h3 h4
        apply hxc
        have := nbr_back hB hx he h0
        rw [h3, h4] at this
        exact this.symm
      · rfl
  unfold net
  rw [h1, h2]
  omega
/-- What holds of the sides that are used, whatever flows. -/
structure Sane (u : Used) (wd hg : Int) (keep : List Int) : Prop where
  b : ∀ s, u s = 0 ∨ u s = 1
  r : ∀ c d, u (c, d) ≠ 0 → inP wd hg c ∧ 0 ≤ d ∧ d ≤ 3
  a : ∀ c d, u (c, d) = 1 → 0 ≤ nbr wd hg c d → u (nbr wd hg c d, back d) = 0
  k : ∀ c d, c ∈ keep → u (c, d) = 0
/-- A way is led over a free side. -/
theorem over_sane {u : Used} {wd hg c d : Int} {keep : List Int} (hB : Board wd hg) (h : Sane u wd hg keep) (hc : inP wd hg c) (hd : 0 ≤ d ∧ d ≤ 3) (hk : c ∉ keep) (hf : u (c, d) < 1) :
    Sane (overU u (c, d) (nbr wd hg c d)) wd hg keep ∧ (∀ x, inP wd hg x → net (overU u (c, d) (nbr wd hg c d)) wd hg x = net u wd hg x + (if x = c then 1 else 0) - (if x = nbr wd hg c d then 1 else 0)) ∧
    (∀ s, s ≠ (c, d) → s ≠ (nbr wd hg c d, back d) → overU u (c, d) (nbr wd hg c d) s = u s) := by
  have hz : u (c, d) = 0 := by have := h.b (c, d); omega
  have hput : Sane (putU u (c, d) 1) wd hg keep ↔ (0 ≤ nbr wd hg c d → u (nbr wd hg c d, back d) = 0) := by
    constructor
    · intro hs h0
      have h1 := hs.a c d (by unfold putU; rw [if_pos rfl]) h0
      unfold putU at h1
      split at h1
      · omega
      · exact h1
    · intro h1
      refine ⟨fun s => ?_, fun x e => ?_, fun x e => ?_, fun x e hx => ?_⟩ <;> unfold putU
      · split
        · omega
        · exact h.b s
      · split
        · next he => injection he with e1 e2; subst e1 e2; exact fun _ => ⟨hc, hd⟩
        · exact h.r x e
      · split
        · next he =>
          injection he with e1 e2; subst e1 e2
          intro _ h0
          rw [if_neg (by intro he; injection he with _ he; exact back_ne hd he)]
          exact h1 h0
        · intro h2 h0
          rw [if_neg ?_]
          · exact h.a x e h2 h0
          · intro he
            injection he with e1 e2
            have hxe := h.r x e (by omega)
            have h3 := nbr_back hB hxe.1 hxe.2 h0
            rw [e1, e2] at h3
            have h4 := h1 (by rw [h3]; exact hxe.1.1)
            rw [h3, ← e2, back_back hxe.2] at h4
            omega
      · rw [if_neg (by intro he; injection he with e1 e2; exact hk (e1 ▸ hx))]
        exact h.k x e hx
  by_cases h0 : 0 ≤ nbr wd hg c d
  · have ht := nbr_in hB hc h0
    by_cases hu : 0 < u (nbr wd hg c d, (d + 2) % 4)
    · have he : overU u (c, d) (nbr wd hg c d) = putU u (nbr wd hg c d, back d) 0 := by
        unfold overU; rw [if_pos h0, if_pos hu]; rfl
      rw [he]
      have hu1 : u (nbr wd hg c d, back d) = 1 := by have := h.b (nbr wd hg c d, back d); unfold back at *; omega
      refine ⟨⟨fun s => ?_, fun x e => ?_, fun x e => ?_, fun x e hx => ?_⟩, fun x hx => ?_, fun s h1 h2 => ?_⟩
      · unfold putU; split
        · omega
        · exact h.b s
      · unfold putU; split
        · omega
        · exact h.r x e
      · unfold putU; split
        · omega
        · intro h2 h3
          split
          · rfl
          · exact h.a x e h2 h3
      · unfold putU; split
        · rfl
        · exact h.k x e hx
      · rw [net_put hB ht (back_rng hd) hx, hu1, nbr_back hB hc hd h0]
        by_cases hx1 : x = nbr wd hg c d <;> by_cases hx2 : x = c <;> simp [hx1, hx2] <;> omega
      · unfold putU; rw [if_neg h2]
    · have he : overU u (c, d) (nbr wd hg c d) = putU u (c, d) 1 := by
        unfold overU; rw [if_pos h0, if_neg hu]
      rw [he]
      refine ⟨hput.2 fun _ => ?_, fun x hx => ?_, fun s h1 h2 => ?_⟩
      · have := h.b (nbr wd hg c d, back d); unfold back at *; omega
      · rw [net_put hB hc hd hx, hz]; simp
      · unfold putU; rw [if_neg h1]
  · have he : overU u (c, d) (nbr wd hg c d) = putU u (c, d) 1 := by
      unfold overU; rw [if_neg h0]
    rw [he]
    refine ⟨hput.2 fun h1 => absurd h1 h0, fun x hx => ?_, fun s h1 h2 => ?_⟩
    · rw [net_put hB hc hd hx, hz]; simp
    · unfold putU; rw [if_neg h1]
/-! ### What is reached -/
section
variable {u : Used} {wd hg : Int} {want keep : List Int}
def at_ (b : List Side) (c : Int) : Side := b.getD c.toNat (0, 0)
/-- Back in so many steps. -/
def Bk (u : Used) (wd hg : Int) (want keep : List Int) (b : List Side) : Nat → Int → Prop
  | 0, c => inP wd hg c ∧ c ∈ want ∧ at_ b c = (c, -1)
  | k + 1, c => inP wd hg c ∧ ∃ c' d, at_ b c = (c', d) ∧ (0 ≤ d ∧ d ≤ 3) ∧ inP wd hg c' ∧ c' ∉ keep ∧ nbr wd hg c' d = c ∧ u (c', d) < 1 ∧ Bk u wd hg want keep b k c'
theorem Bk.inp {b : List Side} : ∀ {k : Nat} {c : Int}, Bk u wd hg want keep b k c → inP wd hg c
  | 0, _, h => h.1
  | _ + 1, _, h => h.1
theorem Bk.has {b : List Side} : ∀ {k : Nat} {c : Int}, Bk u wd hg want keep b k c → 0 ≤ (at_ b c).1
  | 0, c, h => by rw [h.2.2]; exact h.1.1
  | k + 1, c, ⟨_, c', d, h1, _, h2, _⟩ => by rw [h1]; exact h2.1
theorem at_set {b : List Side} {x c : Int} {s : Side} (hx : 0 ≤ x) (hc : 0 ≤ c) (hl : x.toNat < b.length) : at_ (b.set x.toNat s) c = if c = x then s else at_ b c := by
  unfold at_
  rw [List.getD_eq_getElem?_getD, List.getD_eq_getElem?_getD, List.getElem?_set]
  by_cases h : c = x
  · subst h; simp [hl]
  · rw [if_neg h, if_neg (by omega)]
theorem Bk.set {b : List Side} {x : Int} {s : Side} (hx : 0 ≤ x) (hl : x.toNat < b.length) (hn : (at_ b x).1 < 0) : ∀ {k : Nat} {c : Int}, Bk u wd hg want keep b k c → Bk u wd hg want keep (b.set x.toNat s) k c
  | 0, c, h => by
    have hc := h.has
    refine ⟨h.1, h.2.1, ?_⟩
    rw [at_set hx h.1.1 hl, if_neg (by rintro rfl; omega)]
    exact h.2.2
  | k + 1, c, h => by
    have hc := h.has
    obtain ⟨h0, c', d, h1, h2, h3, h4, h5, h6, h7⟩ := h
    refine ⟨h0, c', d, ?_, h2, h3, h4, h5, h6, h7.set hx hl hn⟩
    rw [at_set hx h0.1 hl, if_neg (by rintro rfl; omega)]
    exact h1
/-- It is known how many steps lead back. -/
theorem Bk.uniq {b : List Side} : ∀ {k j : Nat} {c : Int}, Bk u wd hg want keep b k c → Bk u wd hg want keep b j c → k = j
  | 0, 0, _, _, _ => rfl
  | 0, j + 1, c, h, ⟨_, c', d, h1, h2, _⟩ => by rw [h.2.2] at h1; injection h1 with _ h1; omega
  | k + 1, 0, c, ⟨_, c', d, h1, h2, _⟩, h => by rw [h.2.2] at h1; injection h1 with _ h1; omega
  | k + 1, j + 1, c, ⟨_, c', d, h1, _, _, _, _, _, h2⟩, ⟨_, c2, d2, h3, _, _, _, _, _, h4⟩ => by
    rw [h1] at h3; injection h3 with h3 _; subst h3
    rw [h2.uniq h4]
def Closed (u : Used) (wd hg : Int) (keep : List Int) (b : List Side) (c : Int) (f : Int) : Prop := c ∉ keep ∧ ∀ d, 0 ≤ d → d < f → u (c, d) < 1 → 0 ≤ nbr wd hg c d ∧ 0 ≤ (at_ b (nbr wd hg c d)).1
theorem Closed.set {b : List Side} {x c f : Int} {s : Side} (hx : 0 ≤ x) (hl : x.toNat < b.length) (hs : 0 ≤ s.1) (h : Closed u wd hg keep b c f) : Closed u wd hg keep (b.set x.toNat s) c f := by
  refine ⟨h.1, fun d h0 h1 h2 => ?_⟩
  obtain ⟨h3, h4⟩ := h.2 d h0 h1 h2
  refine ⟨h3, ?_⟩
  rw [at_set hx h3 hl]
  split
  · exact hs
  · exact h4
/-- Between two cells, and between two directions of one. -/
structure PI (u : Used) (wd hg : Int) (want keep : List Int) (i : Nat) (P : Int → Prop) (b : List Side) (wait : List Int) : Prop where
  len : b.length = (wd * hg).toNat
  bk : ∀ c, inP wd hg c → 0 ≤ (at_ b c).1 → ∃ k, k ≤ i ∧ Bk u wd hg want keep b k c
  wt : ∀ c, c ∈ wait → inP wd hg c ∧ 0 ≤ (at_ b c).1
  cl : ∀ c, inP wd hg c → 0 ≤ (at_ b c).1 → c ∈ wait ∨ P c ∨ Closed u wd hg keep b c 4
theorem len_of {b : List Side} {x : Int} (hl : b.length = (wd * hg).toNat) (h : inP wd hg x) : x.toNat < b.length := by
  have := h.1; have := h.2; omega
theorem at_get {b : List Side} {x : Int} (h : x.toNat < b.length) : b[x.toNat]? = some (at_ b x) := by
  unfold at_; rw [List.getD_eq_getElem?_getD, List.getElem?_eq_getElem h]; rfl
theorem dirs_inv (hB : Board wd hg) {c : Int} {i : Nat} (hc : inP wd hg c) (hk : c ∉ keep) : ∀ (f : Nat) (d : Int) (b : List Side) (wait : List Int), d + f = 4 → 0 ≤ d →
    PI u wd hg want keep (i + 1) (fun x => x = c) b wait → (∃ k, k ≤ i ∧ Bk u wd hg want keep b k c) → Closed u wd hg keep b c d →
    match dirsF u wd hg c f d b wait with
    | .go b' wait' => PI u wd hg want keep (i + 1) (fun x => x = c) b' wait' ∧ (∃ k, k ≤ i ∧ Bk u wd hg want keep b' k c) ∧ Closed u wd hg keep b' c 4 ∧ wait'.length + unr b' = wait.length + unr b ∧ (∀ x, inP wd hg x → 0 ≤ (at_ b x).1 → 0 ≤ (at_ b' x).1)
    | .stop b' last => PI u wd hg want keep (i + 1) (fun _ => True) b' [] ∧ (∃ k, k ≤ i ∧ Bk u wd hg want keep b' k c) ∧ (∃ e, last = (c, e) ∧ (0 ≤ e ∧ e ≤ 3) ∧ u (c, e) < 1 ∧ nbr wd hg c e < 0) ∧ (∀ x, inP wd hg x → 0 ≤ (at_ b x).1 → 0 ≤ (at_ b' x).1)
  | 0, d, b, wait, h0, h1, hP, hb, hcl => by
    simp only [dirsF]
    refine ⟨hP, hb, ?_, by first | rfl | trivial, fun _ _ h => h⟩
    have : d = 4 := by omega
    exact this ▸ hcl
  | f + 1, d, b, wait, h0, h1, hP, hb, hcl => by
    unfold dirsF
    by_cases hu : u (c, d) < 1
    · rw [if_neg (by simpa using hu)]
      by_cases hn : nbr wd hg c d < 0
      · rw [if_pos hn]
        exact ⟨⟨hP.len, hP.bk, fun _ h => by simp at h, fun x hx hr => .inr (.inl trivial)⟩, hb, ⟨d, rfl, by omega, hu, hn⟩, fun _ _ h => h⟩
      · rw [if_neg hn]
        have hn0 : 0 ≤ nbr wd hg c d := by omega
        have ht := nbr_in hB hc hn0
        by_cases hr : (b.getD (nbr wd hg c d).toNat (0, 0)).1 < 0
        · rw [if_pos hr]
          have hl := len_of hP.len ht
          have hne : c ≠ nbr wd hg c d := by
            intro e
            obtain ⟨k, _, hk⟩ := hb
            have h := hk.has
            rw [e] at h
            unfold at_ at h
            omega
          obtain ⟨k, hk, hbk⟩ := hb
          have hbk2 := hbk.set (s := (c, d)) hn0 hl hr
          have hmono : ∀ x, inP wd hg x → 0 ≤ (at_ b x).1 → 0 ≤ (at_ (b.set (nbr wd hg c d).toNat (c, d)) x).1 := fun x hx h => by
            rw [at_set hn0 hx.1 hl]; split
            · exact hc.1
            · exact h
          have hP2 : PI u wd hg want keep (i + 1) (fun x => x = c) (b.set (nbr wd hg c d).toNat (c, d)) (wait ++ [nbr wd hg c d]) := by
            refine ⟨by rw [List.length_set]; exact hP.len, fun x hx h => ?_, fun x hx => ?_, fun x hx h => ?_⟩
            · rw [at_set hn0 hx.1 hl] at h
              by_cases hxn : x = nbr wd hg c d
              · refine ⟨k + 1, by omega, hx, c, d, ?_, by omega, hc, by assumption, hxn.symm, hu, hbk2⟩
                rw [at_set hn0 hx.1 hl, if_pos hxn]
              · rw [if_neg hxn] at h
                obtain ⟨k', hk', hb'⟩ := hP.bk x hx h
                exact ⟨k', hk', hb'.set hn0 hl hr⟩
            · rcases List.mem_append.1 hx with hx | hx
              · exact ⟨(hP.wt x hx).1, hmono x (hP.wt x hx).1 (hP.wt x hx).2⟩
              · rw [List.mem_singleton] at hx
                subst hx
                exact ⟨ht, by rw [at_set hn0 ht.1 hl, if_pos rfl]; exact hc.1⟩
            · rw [at_set hn0 hx.1 hl] at h
              by_cases hxn : x = nbr wd hg c d
              · exact .inl (List.mem_append_right _ (by simp [hxn]))
              · rw [if_neg hxn] at h
                rcases hP.cl x hx h with h | h | h
                · exact .inl (List.mem_append_left _ h)
                · exact .inr (.inl h)
                · exact .inr (.inr (h.set hn0 hl hc.1))
          have hcl2 : Closed u wd hg keep (b.set (nbr wd hg c d).toNat (c, d)) c (d + 1) := by
            refine ⟨hcl.1, fun e h2 h3 h4 => ?_⟩
            by_cases hed : e = d
            · subst hed
              exact ⟨hn0, by rw [at_set hn0 hn0 hl, if_pos rfl]; exact hc.1⟩
            · exact (hcl.set hn0 hl hc.1).2 e h2 (by omega) h4
          have ih := dirs_inv hB hc (by assumption) f (d + 1) _ _ (by omega) (by omega) hP2 ⟨k, hk, hbk2⟩ hcl2
          have hus := unr_set (at_get hl) (t := (c, d)) hr (by have := hc.1; simp; omega)
          revert ih
          cases dirsF u wd hg c f (d + 1) (b.set (nbr wd hg c d).toNat (c, d)) (wait ++ [nbr wd hg c d]) with
          | go b' w' =>
            rintro ⟨a1, a2, a3, a4, a5⟩
            refine ⟨a1, a2, a3, ?_, fun x hx h => a5 x hx (hmono x hx h)⟩
            rw [a4, List.length_append]; simp; omega
          | stop b' last => exact fun ⟨a1, a2, a3, a4⟩ => ⟨a1, a2, a3, fun x hx h => a4 x hx (hmono x hx h)⟩
        · rw [if_neg hr]
          refine dirs_inv hB hc hk f (d + 1) _ _ (by omega) (by omega) hP hb ⟨hcl.1, fun e h2 h3 h4 => ?_⟩
          by_cases hed : e = d
          · subst hed
            exact ⟨hn0, by unfold at_; omega⟩
          · exact hcl.2 e h2 (by omega) h4
    · rw [if_pos hu]
      refine dirs_inv hB hc hk f (d + 1) _ _ (by omega) (by omega) hP hb ⟨hcl.1, fun e h2 h3 h4 => ?_⟩
      by_cases hed : e = d
      · subst hed; exact absurd h4 hu
      · exact hcl.2 e h2 (by omega) h4
end
section
variable {u : Used} {wd hg : Int} {want keep : List Int}
/-- What reach tells. -/
def Reached (u : Used) (wd hg : Int) (want keep : List Int) (b0 : List Side) (T : List Side × Side × Bool) : Prop :=
  T.1.length = (wd * hg).toNat ∧ (∀ c, inP wd hg c → 0 ≤ (at_ T.1 c).1 → ∃ k, k ≤ (wd * hg).toNat ∧ Bk u wd hg want keep T.1 k c) ∧ (∀ x, inP wd hg x → 0 ≤ (at_ b0 x).1 → 0 ≤ (at_ T.1 x).1) ∧
  (T.2.2 = true → (∃ k, k ≤ (wd * hg).toNat ∧ Bk u wd hg want keep T.1 k T.2.1.1) ∧ ((T.2.1.2 = -1 ∧ T.2.1.1 ∈ keep) ∨ (T.2.1.1 ∉ keep ∧ (0 ≤ T.2.1.2 ∧ T.2.1.2 ≤ 3) ∧ u T.2.1 < 1 ∧ nbr wd hg T.2.1.1 T.2.1.2 < 0))) ∧
  (T.2.2 = false → ∀ c, inP wd hg c → 0 ≤ (at_ T.1 c).1 → Closed u wd hg keep T.1 c 4)
theorem reach_inv (hB : Board wd hg) (b0 : List Side) : ∀ (f i : Nat) (b : List Side) (wait : List Int), PI u wd hg want keep i (fun _ => False) b wait → wait.length + unr b + i ≤ (wd * hg).toNat → wait.length + unr b < f →
    (∀ x, inP wd hg x → 0 ≤ (at_ b0 x).1 → 0 ≤ (at_ b x).1) → Reached u wd hg want keep b0 (reachF u wd hg keep f b wait)
  | 0, i, b, wait, _, _, h, _ => absurd h (by omega)
  | f + 1, i, b, [], hP, hn, hf, hm => by
    refine ⟨hP.len, fun c h1 h2 => ?_, hm, fun h => by simp [reachF] at h, fun _ c h1 h2 => ?_⟩
    · obtain ⟨k, h3, h4⟩ := hP.bk c h1 h2
      exact ⟨k, by omega, h4⟩
    · rcases hP.cl c h1 h2 with h | h | h
      · simp at h
      · exact h.elim
      · exact h
  | f + 1, i, b, c :: wait, hP, hn, hf, hm => by
    rw [List.length_cons] at hn hf
    obtain ⟨hc, hcr⟩ := hP.wt c (by simp)
    obtain ⟨k, hk, hbk⟩ := hP.bk c hc hcr
    unfold reachF
    by_cases hkc : keep.contains c = true
    · rw [if_pos hkc]
      refine ⟨hP.len, fun c h1 h2 => ?_, hm, fun _ => ⟨⟨k, by omega, hbk⟩, .inl ⟨rfl, by simpa using hkc⟩⟩, fun h => by simp at h⟩
      obtain ⟨k, h3, h4⟩ := hP.bk c h1 h2
      exact ⟨k, by omega, h4⟩
    · rw [if_neg hkc]
      have hkn : c ∉ keep := by simpa using hkc
      have hd := dirs_inv (i := i) hB hc hkn 4 0 b wait (by omega) (by omega) (want := want) (u := u)
        ⟨hP.len, fun x h1 h2 => (hP.bk x h1 h2).imp fun _ h => ⟨by omega, h.2⟩, fun x hx => hP.wt x (List.mem_cons_of_mem _ hx), fun x h1 h2 => by
          rcases hP.cl x h1 h2 with h | h | h
          · rcases List.mem_cons.1 h with h | h
            · exact .inr (.inl h)
            · exact .inl h
          · exact h.elim
          · exact .inr (.inr h)⟩ ⟨k, hk, hbk⟩ ⟨hkn, fun d h1 h2 => by omega⟩
      revert hd
      cases dirsF u wd hg c 4 0 b wait with
      | go b' w' =>
        rintro ⟨a1, _, a3, a4, a5⟩
        refine reach_inv hB b0 f (i + 1) b' w' ⟨a1.len, a1.bk, a1.wt, fun x h1 h2 => ?_⟩ (by omega) (by omega) fun x h1 h2 => a5 x h1 (hm x h1 h2)
        rcases a1.cl x h1 h2 with h | h | h
        · exact .inl h
        · subst h; exact .inr (.inr a3)
        · exact .inr (.inr h)
      | stop b' last =>
        rintro ⟨a1, ⟨k', h1, h2⟩, ⟨e, rfl, h3, h4, h5⟩, h6⟩
        refine ⟨a1.len, fun x hx hr => ?_, fun x hx hr => h6 x hx (hm x hx hr), fun _ => ⟨⟨k', by omega, h2⟩, .inr ⟨hkn, h3, h4, h5⟩⟩, fun h => by simp at h⟩
        obtain ⟨j, h7, h8⟩ := a1.bk x hx hr
        exact ⟨j, by omega, h8⟩
theorem byW_len : ∀ (l : List Int) (b : List Side), (byW l b).length = b.length
  | [], _ => rfl
  | c :: l, b => by unfold byW; rw [byW_len l]; simp
theorem byW_at : ∀ (l : List Int) (b : List Side), b.length = (wd * hg).toNat → (∀ x ∈ l, inP wd hg x) → ∀ c, inP wd hg c → at_ (byW l b) c = if c ∈ l then (c, -1) else at_ b c
  | [], b, _, _, c, _ => by simp [byW]
  | x :: l, b, hl, h, c, hc => by
    unfold byW
    rw [byW_at l _ (by simpa using hl) (fun y hy => h y (List.mem_cons_of_mem _ hy)) c hc]
    have hx := h x (by simp)
    rw [at_set hx.1 hc.1 (len_of hl hx)]
    by_cases h1 : c ∈ l
    · simp [h1]
    · by_cases h2 : c = x
      · subst h2; simp
      · simp [h1, h2]
theorem listB_in {n : Int} : ∀ {l : List Int} {k : Int}, listB n k l = true → ∀ x ∈ l, k ≤ x ∧ x < n
  | [], _, _, x, hx => by simp at hx
  | y :: l, k, h, x, hx => by
    simp only [listB, Bool.and_eq_true, decide_eq_true_eq] at h
    rcases List.mem_cons.1 hx with e | hx
    · subst e; omega
    · have := listB_in h.2 x hx; omega
theorem byW_unr : ∀ (l : List Int) (k : Int) (b : List Side), 0 ≤ k → b.length = (wd * hg).toNat → listB (wd * hg) k l = true → (∀ x, inP wd hg x → k ≤ x → (at_ b x).1 < 0) → unr (byW l b) + l.length = unr b
  | [], _, _, _, _, _, _ => by simp [byW]
  | x :: l, k, b, hk, hl, h, hb => by
    have h' := h
    simp only [listB, Bool.and_eq_true, decide_eq_true_eq] at h'
    have hx : inP wd hg x := ⟨by omega, by omega⟩
    unfold byW
    have h1 := byW_unr l (x + 1) (b.set x.toNat (x, -1)) (by omega) (by simpa using hl) h'.2 (fun y hy hxy => by
      rw [at_set hx.1 hy.1 (len_of hl hx), if_neg (by omega)]
      exact hb y hy (by omega))
    have h2 := unr_set (at_get (len_of hl hx)) (t := (x, -1)) (hb x hx (by omega)) (by simp; omega)
    rw [List.length_cons]
    omega
theorem unr_rep (n : Nat) : unr (List.replicate n (-1, -1)) = n := by
  induction n with
  | zero => rfl
  | succ n ih => rw [List.replicate_succ]; simp [unr, ih]; omega
theorem at_rep {n : Nat} {c : Int} (h : c.toNat < n) : at_ (List.replicate n (-1, -1)) c = (-1, -1) := by
  unfold at_; rw [List.getD_eq_getElem?_getD]; simp [List.getElem?_replicate, h]
theorem by0_unr (hw : listB (wd * hg) 0 want = true) : want.length + unr (by0 (wd * hg).toNat want) = (wd * hg).toNat := by
  have := byW_unr want 0 (List.replicate (wd * hg).toNat (-1, -1)) (by omega) (by simp) hw (fun x hx _ => by rw [at_rep (by have := hx.1; have := hx.2; omega)]; decide)
  rw [unr_rep] at this
  unfold by0
  omega
/-- What reach computes. -/
theorem reached (hB : Board wd hg) (hw : listB (wd * hg) 0 want = true) : Reached u wd hg want keep (by0 (wd * hg).toNat want) (reachU u wd hg want keep) := by
  have hin : ∀ x ∈ want, inP wd hg x := fun x hx => ⟨(listB_in hw x hx).1, (listB_in hw x hx).2⟩
  have hat : ∀ c, inP wd hg c → at_ (by0 (wd * hg).toNat want) c = if c ∈ want then (c, -1) else (-1, -1) := fun c hc => by
    unfold by0
    rw [byW_at want _ (by simp) hin c hc]
    split
    · rfl
    · exact at_rep (by have := hc.1; have := hc.2; omega)
  have hu := by0_unr (wd := wd) (hg := hg) hw
  refine reach_inv hB _ _ 0 _ _ ⟨by unfold by0; rw [byW_len]; simp, fun c hc h => ?_, fun c hc => ⟨hin c hc, ?_⟩, fun c hc h => ?_⟩ (by omega) (by omega) fun _ _ h => h
  · rw [hat c hc] at h
    by_cases hcw : c ∈ want
    · exact ⟨0, Nat.le_refl _, hc, hcw, by rw [hat c hc, if_pos hcw]⟩
    · rw [if_neg hcw] at h; simp at h
  · rw [hat c (hin c hc), if_pos hc]; exact (hin c hc).1
  · rw [hat c hc] at h
    by_cases hcw : c ∈ want
    · exact .inl hcw
    · rw [if_neg hcw] at h; simp at h
theorem by0_has (hw : listB (wd * hg) 0 want = true) {c : Int} (hc : c ∈ want) : 0 ≤ (at_ (by0 (wd * hg).toNat want) c).1 := by
  have hin : ∀ x ∈ want, inP wd hg x := fun x hx => ⟨(listB_in hw x hx).1, (listB_in hw x hx).2⟩
  unfold by0
  rw [byW_at want _ (by simp) hin c (hin c hc), if_pos hc]
  exact (hin c hc).1
end
/-! ### One more way -/
section
variable {u u0 : Used} {wd hg : Int} {want keep : List Int}
theorem Bk.nbr {b : List Side} : ∀ {k : Nat} {x : Int}, Bk u wd hg want keep b (k + 1) x → ∃ c d, at_ b x = (c, d) ∧ inP wd hg c ∧ nbr wd hg c d = x ∧ Bk u wd hg want keep b k c
  | _, _, ⟨_, c, d, h1, _, h3, _, h5, _, h7⟩ => ⟨c, d, h1, h3, h5, h7⟩
theorem chain_flow (hB : Board wd hg) (b : List Side) : ∀ (k f : Nat) (c : Int) (u : Used), Bk u0 wd hg want keep b k c → k ≤ f → Sane u wd hg keep → (∀ j x, j < k → Bk u0 wd hg want keep b (j + 1) x → u (at_ b x) < 1) →
    Sane (chainU b f c u) wd hg keep ∧ ∃ o, o ∈ want ∧ ∀ x, inP wd hg x → net (chainU b f c u) wd hg x = net u wd hg x + (if x = o then 1 else 0) - (if x = c then 1 else 0)
  | 0, f, c, u, hb, _, hs, _ => by
    have he : chainU b f c u = u := by
      cases f with
      | zero => rfl
      | succ f => unfold chainU; rw [show b.getD c.toNat (0, 0) = (c, -1) from hb.2.2, if_neg (show ¬ (0 : Int) ≤ -1 by decide)]
    rw [he]
    exact ⟨hs, c, hb.2.1, fun x _ => by omega⟩
  | k + 1, 0, c, u, _, hf, _, _ => absurd hf (by omega)
  | k + 1, f + 1, c, u, hb, hf, hs, hag => by
    have hb' := hb
    obtain ⟨h0, c', d, h1, h2, h3, h4, h5, h6, h7⟩ := hb
    have hfr := hag k c (by omega) hb'
    rw [h1] at hfr
    obtain ⟨hs1, hn1, ho1⟩ := over_sane hB hs h3 h2 h4 hfr
    rw [h5] at hs1 hn1 ho1
    unfold chainU
    rw [show b.getD c.toNat (0, 0) = (c', d) from h1, if_pos h2.1]
    obtain ⟨r1, o, ho, r2⟩ := chain_flow hB b k f c' _ h7 (by omega) hs1 (fun j x hj hx => by
      rw [ho1]
      · exact hag j x (by omega) hx
      · intro e
        obtain ⟨c2, d2, e1, _, e2, _⟩ := hx.nbr
        rw [e1] at e
        injection e with e3 e4
        rw [e3, e4, h5] at e2
        subst e2
        have := hx.uniq hb'
        omega
      · intro e
        obtain ⟨c2, d2, e1, _, e2, e5⟩ := hx.nbr
        rw [e1] at e
        injection e with e3 e4
        subst e3
        have := e5.uniq hb'
        omega)
    refine ⟨r1, o, ho, fun x hx => ?_⟩
    rw [r2 x hx, hn1 x hx]
    omega
/-- What flows from those that are wanted. -/
structure Flow (u : Used) (wd hg : Int) (want keep : List Int) : Prop where
  s : Sane u wd hg keep
  n : ∀ c, inP wd hg c → c ∉ want → c ∉ keep → net u wd hg c = 0
  w : ∀ c, c ∈ want → 0 ≤ net u wd hg c
def val (u : Used) (wd hg : Int) (want : List Int) : Int := (want.map (net u wd hg)).sum
/-- A valid pond. -/
structure Valid (wd hg : Int) (want keep : List Int) : Prop where
  B : Board wd hg
  w : listB (wd * hg) 0 want = true
  k : listB (wd * hg) 0 keep = true
  d : ∀ x, x ∈ want → x ∉ keep
theorem sum_plus {n : Int} {f g : Int → Int} {o : Int} : ∀ {l : List Int} {k : Int}, listB n k l = true → o ∈ l → (∀ x ∈ l, g x = f x + if x = o then 1 else 0) → (l.map g).sum = (l.map f).sum + 1
  | [], _, _, h, _ => by simp at h
  | y :: l, k, hl, ho, h => by
    simp only [listB, Bool.and_eq_true, decide_eq_true_eq] at hl
    rw [List.map_cons, List.map_cons, List.sum_cons, List.sum_cons, h y (by simp)]
    by_cases hy : y = o
    · subst hy
      have : l.map g = l.map f := List.map_congr_left fun x hx => by
        rw [h x (List.mem_cons_of_mem _ hx), if_neg (by have := (listB_in hl.2 x hx).1; omega)]; omega
      rw [this]; simp; omega
    · rw [if_neg hy]
      have := sum_plus (f := f) (g := g) hl.2 (by rcases List.mem_cons.1 ho with e | e; exact absurd e.symm hy; exact e) fun x hx => h x (List.mem_cons_of_mem _ hx)
      rw [this]; omega
theorem one_flow (hV : Valid wd hg want keep) (hF : Flow u wd hg want keep) {u' : Used} (h : oneU u wd hg want keep = some u') : Flow u' wd hg want keep ∧ val u' wd hg want = val u wd hg want + 1 := by
  obtain ⟨r0, r1, _, r2, _⟩ := reached (u := u) (keep := keep) hV.B hV.w
  revert h
  unfold oneU
  revert r0 r1 r2
  generalize reachU u wd hg want keep = T
  obtain ⟨b, last, o⟩ := T
  intro r0 r1 r2
  cases o with
  | false => intro h; simp at h
  | true =>
    intro h
    simp only [Option.some.injEq] at h
    obtain ⟨⟨k, hk, hbk⟩, h2⟩ := r2 rfl
    simp only at hbk h2 hk
    have key : Sane u' wd hg keep ∧ ∃ o, o ∈ want ∧ ∀ x, inP wd hg x → net u' wd hg x = net u wd hg x + (if x = o then 1 else 0) - (if x = last.1 ∧ last.1 ∈ keep then 1 else 0) := by
      rcases h2 with ⟨e1, e2⟩ | ⟨e1, e2, e3, e4⟩
      · rw [if_neg (by omega)] at h
        obtain ⟨s1, o, ho, s2⟩ := chain_flow hV.B b k (wd * hg).toNat last.1 u hbk hk hF.s fun j x _ hx => by
          obtain ⟨_, c', d, h1, _, _, _, _, h6, _⟩ := hx
          rw [h1]; exact h6
        rw [h] at s1 s2
        exact ⟨s1, o, ho, fun x hx => by rw [s2 x hx]; simp [e2]⟩
      · rw [if_pos e2.1] at h
        have hov : overU u last (-1) = overU u (last.1, last.2) (nbr wd hg last.1 last.2) := by
          unfold overU
          rw [if_neg (by decide), if_neg (by omega)]
        obtain ⟨s1, s2, s3⟩ := over_sane hV.B hF.s hbk.inp e2 e1 e3
        rw [← hov] at s1 s2 s3
        obtain ⟨t1, o, ho, t2⟩ := chain_flow hV.B b k (wd * hg).toNat last.1 _ hbk hk s1 fun j x _ hx => by
          have hx' := hx
          obtain ⟨hx0, c', d, h1, h2, h3, _, h5, h6, _⟩ := hx
          rw [h1, s3]
          · exact h6
          · intro e
            injection e with e5 e6
            rw [e5, e6] at h5
            have := hx0.1
            omega
          · intro e
            injection e with e5 _
            have := h3.1
            omega
        rw [h] at t1 t2
        refine ⟨t1, o, ho, fun x hx => ?_⟩
        rw [t2 x hx, s2 x hx, if_neg (show ¬ (x = last.1 ∧ last.1 ∈ keep) from fun h => e1 h.2), if_neg (show ¬ x = nbr wd hg last.1 last.2 by have := hx.1; omega)]
        omega
    obtain ⟨k1, o, ho, k2⟩ := key
    have hin : ∀ x ∈ want, inP wd hg x := fun x hx => ⟨(listB_in hV.w x hx).1, (listB_in hV.w x hx).2⟩
    have kw : ∀ x ∈ want, net u' wd hg x = net u wd hg x + if x = o then 1 else 0 := fun x hx => by
      rw [k2 x (hin x hx), if_neg (show ¬ (x = last.1 ∧ last.1 ∈ keep) from fun h => hV.d x hx (h.1 ▸ h.2))]
      omega
    refine ⟨⟨k1, fun c hc h1 h2 => ?_, fun c hc => ?_⟩, sum_plus hV.w ho kw⟩
    · rw [k2 c hc, hF.n c hc h1 h2, if_neg (show ¬ c = o by rintro rfl; exact h1 ho), if_neg (show ¬ (c = last.1 ∧ last.1 ∈ keep) from fun h => h2 (h.1 ▸ h.2))]
      rfl
    · have := hF.w c hc
      rw [kw c hc]
      split <;> omega
theorem net_le (h : Sane u wd hg keep) (c : Int) : net u wd hg c ≤ 4 := by
  have h1 : ∀ d, u (c, d) ≤ 1 := fun d => by rcases h.b (c, d) with h | h <;> omega
  have h2 : ∀ d, 0 ≤ innD u wd hg c d := fun d => by
    unfold innD
    split
    · rcases h.b (nbr wd hg c d, back d) with h | h <;> omega
    · omega
  have := h1 0; have := h1 1; have := h1 2; have := h1 3
  have := h2 0; have := h2 1; have := h2 2; have := h2 3
  simp only [net, outU, innU, dsum]
  omega
theorem val_le (h : Sane u wd hg keep) (l : List Int) : (l.map (net u wd hg)).sum ≤ 4 * l.length := by
  induction l with
  | nil => simp
  | cons x l ih =>
    have := net_le h x
    rw [List.map_cons, List.sum_cons, List.length_cons]
    omega
theorem raft_inv (hV : Valid wd hg want keep) : ∀ (f : Nat) (u : Used) (m : Nat), Flow u wd hg want keep → val u wd hg want = m → 4 * want.length < m + f →
    Flow (raftU wd hg want keep f u m).1 wd hg want keep ∧ val (raftU wd hg want keep f u m).1 wd hg want = (raftU wd hg want keep f u m).2 ∧ oneU (raftU wd hg want keep f u m).1 wd hg want keep = none
  | 0, u, m, hF, hv, h => by
    have := val_le hF.s want
    unfold val at hv
    omega
  | f + 1, u, m, hF, hv, h => by
    unfold raftU
    cases ho : oneU u wd hg want keep with
    | none => exact ⟨hF, hv, ho⟩
    | some u' =>
      obtain ⟨h1, h2⟩ := one_flow hV hF ho
      exact raft_inv hV f u' (m + 1) h1 (by rw [h2, hv]; omega) (by omega)
theorem flow_zero : Flow (fun _ => 0) wd hg want keep := by
  have h : ∀ c, net (fun _ => 0) wd hg c = 0 := fun c => by simp [net, outU, innU, dsum, innD]
  exact ⟨⟨fun _ => .inl rfl, fun _ _ h => absurd rfl h, fun _ _ h => by simp at h, fun _ _ _ => rfl⟩, fun c _ _ _ => h c, fun c _ => by rw [h c]; omega⟩
theorem val_zero : val (fun _ => 0) wd hg want = 0 := by
  unfold val
  induction want with
  | nil => rfl
  | cons x l ih => rw [List.map_cons, List.sum_cons, ih]; simp [net, outU, innU, dsum, innD]
theorem Valid.len (hV : Valid wd hg want keep) : want.length ≤ (wd * hg).toNat := by
  have := by0_unr hV.w
  omega
theorem Valid.cells (hV : Valid wd hg want keep) : 1 ≤ wd * hg ∧ wd * hg ≤ 64 := by
  obtain ⟨⟨⟨h1, h2⟩, h3, h4⟩, _⟩ := hV
  have e1 := Int.mul_le_mul h2 h4 (by omega) (by omega)
  have e2 := Int.mul_le_mul h1 h3 (by omega) (by omega)
  omega
/-- What is known of the raft. -/
theorem raft_known (hV : Valid wd hg want keep) : Flow (raft wd hg want keep).1 wd hg want keep ∧ val (raft wd hg want keep).1 wd hg want = (raft wd hg want keep).2 ∧ oneU (raft wd hg want keep).1 wd hg want keep = none := by
  refine raft_inv hV 257 _ 0 flow_zero val_zero ?_
  have := hV.len
  have := hV.cells
  omega
end

end Go.Proofs.Ytlkoadcbolkhoaa
