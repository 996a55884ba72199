/- The references: CheckPool, Shared, IsFair, CheckShares. -/
import Derived.Test.YtfchcikdcnloaaaEqs
namespace Go.Proofs.Ytfchcikdcnloaaa
open Go Go.RowKit Go.Proofs
attribute [local go_sem] cell_grow frozen_grow

theorem refStep_any (s : Value) (part prize k : Int) (w : World) (hk1 : -1000 ≤ k) (hk2 : k ≤ 100000) (hp1 : 1 ≤ part) (hp2 : part ≤ 100) :
    Calls Try.prog 63 #[.agg #[s, .int .i64 part, .int .i64 prize], .int .i64 k] w fun e w' => e = .returned (.int .i64 (100 * k + part)) ∧ Below w.heap.size w w' := by
  have h1 : IntKind.i64.wrap (100 * k) = 100 * k := IntWalk.i64_in _ (by omega)
  have h2 : IntKind.i64.wrap (100 * k + part) = 100 * k + part := IntWalk.i64_in _ (by omega)
  go_enter Try.func63, Try.ntmps63
  go_wp2
  go_ret
  exact ⟨rfl, bl_alloc (bl_refl _) _⟩

theorem checkPool_six {had : List Int} {part prize : Int} (h : (had.length : Int) < 1 ∨ 12 < (had.length : Int)) : checkPool had part prize = 6 := by
  unfold checkPool
  rw [if_pos ((withinB_false _ _ _).2 ⟨_, List.mem_singleton.2 rfl, h⟩)]
theorem checkPool_three {had : List Int} {part prize : Int} (h : 1 ≤ (had.length : Int) ∧ (had.length : Int) ≤ 12) (hb : (∃ x ∈ had, x < 1 ∨ 1000000 < x) ∨ (part < 1 ∨ 100 < part) ∨ (prize < 0 ∨ 1000 < prize)) : checkPool had part prize = 3 := by
  unfold checkPool
  rw [if_neg, if_pos]
  · rcases hb with hb | hb | hb
    · exact .inl ((withinB_false _ _ _).2 hb)
    · exact .inr (.inl ((withinB_false _ _ _).2 ⟨_, List.mem_singleton.2 rfl, hb⟩))
    · exact .inr (.inr ((withinB_false _ _ _).2 ⟨_, List.mem_singleton.2 rfl, hb⟩))
  · rw [Bool.not_eq_false]
    exact (withinB_iff _ _ _).2 fun x hx => by rw [List.mem_singleton.1 hx]; exact h

set_option maxHeartbeats 4000000 in
theorem refCheckPool_any (had : List Int) (part prize : Int) (s : Value) (w : World) (hl : had.length ≤ 1000) (hs : Ints w s had) :
    Calls Try.prog 20 #[.agg #[s, .int .i64 part, .int .i64 prize]] w fun e w' => e = .returned (.int .i64 (checkPool had part prize)) ∧ Below w.heap.size w w' := by
  by_cases hlen : (had.length : Int) < 1 ∨ 12 < (had.length : Int)
  · have h6 := hid (checkPool_six (part := part) (prize := prize) hlen)
    obtain ⟨A, c, rfl⟩ := hs.slice
    go_enter Try.func20, Try.ntmps20
    go_wp2
    all_goals first
      | (go_ret; exact ⟨by rw [h6.out]; rfl, bl_alloc (bl_refl _) _⟩)
      | omega
  · have hlen' : 1 ≤ (had.length : Int) ∧ (had.length : Int) ≤ 12 := by omega
    obtain ⟨b, off, c, rfl, hc, hb, hcell⟩ := hs.some (by omega)
    have hd1 : decide ((had.length : Int) < 1) = false := by simp; omega
    have hd2 : decide (12 < (had.length : Int)) = false := by simp; omega
    have Hcell := Lib.hid hcell
    have H3 : Hid (∀ x ∈ had, x < 1 ∨ 1000000 < x → checkPool had part prize = 3) := fun x hx h => checkPool_three hlen' (.inl ⟨x, hx, h⟩)
    have H3' : Hid ((part < 1 ∨ 100 < part) ∨ (prize < 0 ∨ 1000 < prize) → checkPool had part prize = 3) := fun h => checkPool_three hlen' (.inr h)
    have H0 : Hid ((∀ x ∈ had, 1 ≤ x ∧ x ≤ 1000000) → (1 ≤ part ∧ part ≤ 100) → (0 ≤ prize ∧ prize ≤ 1000) → checkPool had part prize = 0) := fun h1 h2 h3 => checkPool_ok.2 ⟨by omega, by omega, fun i x hx => h1 x (List.mem_of_getElem? hx), h2.1, h2.2, h3.1, h3.2⟩
    clear hcell hlen
    go_enter Try.func20, Try.ntmps20
    go_wp2
    go_loop [3] (fun i => ∃ k : Nat, k ≤ had.length ∧ i = .int .i64 k ∧ Hid (∀ j x, j < k → had[j]? = some x → 1 ≤ x ∧ x ≤ 1000000)) (fun i => had.length - (intOf i).toNat)
    case atStart => exact ⟨0, Nat.zero_le _, rfl, fun j x h => by omega⟩
    case round =>
      obtain ⟨k, hk, rfl, hH⟩ := hrel
      by_cases hlt : k < had.length
      · obtain ⟨x, hx⟩ := get_at hlt
        have hcx := Hcell.out k x hx
        have hbl : b < w.heap.size := hb
        have hmem := List.mem_of_getElem? hx
        by_cases hg : 1 ≤ x ∧ x ≤ 1000000
        · have hd3 : decide (x < 1) = false := by simp; omega
          have hd4 : decide (1000000 < x) = false := by simp; omega
          have hst : Hid (∀ j y, j < k + 1 → had[j]? = some y → 1 ≤ y ∧ y ≤ 1000000) := fun j y hj hy => by
            by_cases e : j = k
            · subst e; rw [hx] at hy; injection hy with hy; rw [← hy]; exact hg
            · exact hH.out j y (by omega) hy
          clear hx hmem hg hH
          go_wp2
          go_round
          case rel => exact ⟨k + 1, by omega, by go_num, hst⟩
          case measure => simp [intOf]; omega
        · have h3 := hid (H3.out x hmem (by omega))
          clear hx hmem
          go_wp2
          all_goals first
            | (go_ret; exact ⟨by rw [h3.out]; rfl, bl_alloc (bl_refl _) _⟩)
            | omega
      · obtain rfl : k = had.length := by omega
        have hall : Hid (∀ x ∈ had, 1 ≤ x ∧ x ≤ 1000000) := fun x hx => by
          obtain ⟨i, hi, rfl⟩ := List.mem_iff_getElem.mp hx
          exact hH.out i _ hi (by simp [hi])
        clear hH
        by_cases hg : (1 ≤ part ∧ part ≤ 100) ∧ (0 ≤ prize ∧ prize ≤ 1000)
        · have h0 := hid (H0.out hall.out hg.1 hg.2)
          have hd5 : decide (part < 1) = false := by simp; omega
          have hd6 : decide (100 < part) = false := by simp; omega
          have hd7 : decide (prize < 0) = false := by simp; omega
          have hd8 : decide (1000 < prize) = false := by simp; omega
          clear hg
          go_wp2
          go_ret
          exact ⟨by rw [h0.out]; rfl, bl_alloc (bl_refl _) _⟩
        · have h3 := hid (H3'.out (by omega))
          go_wp2
          all_goals first
            | (go_ret; exact ⟨by rw [h3.out]; rfl, bl_alloc (bl_refl _) _⟩)
            | omega

end Go.Proofs.Ytfchcikdcnloaaa
