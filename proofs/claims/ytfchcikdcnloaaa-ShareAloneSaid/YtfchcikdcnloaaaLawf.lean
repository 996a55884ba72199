/- What the outright laws share: fine, right, small, between; ShareOneMore. -/
import Derived.Test.YtfchcikdcnloaaaPlain
import Derived.Test.YtfchcikdcnloaaaLawb
namespace Go.Proofs.Ytfchcikdcnloaaa
open Go Go.RowKit Go.Proofs
attribute [local go_sem] cell_grow frozen_grow

theorem checkPool_great {had : List Int} {part prize : Int} (h : 20 < had.length) : ¬ checkPool had part prize = 0 := fun h0 => by
  have := (checkPool_ok.1 h0).l2
  omega

theorem fine_any (had : List Int) (part prize : Int) (s : Value) (w : World) (hs : Ints w s had) :
    Calls Try.prog 39 #[.agg #[s, .int .i64 part, .int .i64 prize]] w fun e w' => e = .returned (.bool (decide (checkPool had part prize = 0))) ∧ Below w.heap.size w w' := by
  obtain ⟨A, c, rfl⟩ := hs.slice
  by_cases hg : 20 < had.length
  · have hE := hid (decide_eq_false (checkPool_great (part := part) (prize := prize) hg))
    have hd : decide (20 < had.length) = true := by simpa using hg
    clear hg
    go_enter Try.func39, Try.ntmps39
    go_wp2_with fail
    refine (great_law had part prize _ _ (hs.mono (bl_alloc (bl_refl _) _))).mono ?_
    rintro e w1 ⟨rfl, hb1⟩
    rw [hd]
    go_wp2
    go_ret
    exact ⟨by rw [hE.out]; rfl, bl_trans (bl_alloc (bl_refl w) _) hb1⟩
  · have hd : decide (20 < had.length) = false := by simpa using hg
    have hcall := fun W (hW : Ints W (.slice A had.length c) had) => refCheckPool_any had part prize (.slice A had.length c) W (by omega) hW
    clear hg
    have hb : (checkPool had part prize == 0) = decide (checkPool had part prize = 0) := by
      by_cases h : checkPool had part prize = 0 <;> simp [h]
    cases hcp : decide (checkPool had part prize = 0)
    all_goals
      rw [hcp] at hb
      have HE := hid hcp
      clear hcp
      generalize checkPool had part prize = cp at *
      go_enter Try.func39, Try.ntmps39
      go_wp2_with fail
      refine (great_law had part prize _ _ (hs.mono (bl_alloc (bl_refl _) _))).mono ?_
      rintro e w1 ⟨rfl, hb1⟩
      rw [hd]
      have hr1 := (new_cells hb1).1
      have hB1 := bl_trans (bl_alloc (bl_refl w) _) hb1
      have hl1 : w.heap.size < w1.heap.size := by have := hb1.size; simp at this; omega
      go_wp2_with fail
      refine (hcall _ (hs.mono hB1)).mono ?_
      rintro e w2 ⟨rfl, hb2⟩
      clear hcall
      go_wp2
      go_ret
      exact ⟨rfl, bl_trans hB1 hb2⟩

theorem right_any (had : List Int) (part prize : Int) (s : Value) (w : World) (V : Val had part prize) (hs : Ints w s had) :
    Calls Try.prog 40 #[.agg #[s, .int .i64 part, .int .i64 prize]] w fun e w' => (∃ v, e = .returned (.tuple #[v, .bool true]) ∧ Ints w' v (sharesE had part prize)) ∧ Below w.heap.size w w' := by
  obtain ⟨A, c, rfl⟩ := hs.slice
  have hv2 := V.l2
  have hsc := shares_any had part prize (.slice A had.length c) (w.alloc (.cells #[.slice A had.length c, .int .i64 part, .int .i64 prize] 24)) (by omega) (hs.mono (bl_alloc (bl_refl _) _))
  rw [checkPool_ok.2 V] at hsc
  have hcs : Hid (∀ W v, Ints W v (sharesE had part prize) → Ints W (.slice A had.length c) had → Calls Try.prog 22 #[.agg #[.slice A had.length c, .int .i64 part, .int .i64 prize], v] W fun e w' => e = .returned (.int .i64 0) ∧ Below W.heap.size W w') := fun W v hv hW => by
    have := refCheckShares_any had part prize (sharesE had part prize) (.slice A had.length c) v W (by omega) (by rw [(shares_facts V).1]; omega) hW hv
    rwa [own_fair V] at this
  generalize sharesE had part prize = sh at *
  clear V
  go_enter Try.func40, Try.ntmps40
  go_wp2_with fail
  refine hsc.mono ?_
  rintro e w1 ⟨⟨v, rfl, hI⟩, hb1⟩
  obtain ⟨A2, c2, rfl⟩ := hI.slice
  have hr1 := (new_cells hb1).1
  have hB1 := bl_trans (bl_alloc (bl_refl w) _) hb1
  have hl1 : w.heap.size < w1.heap.size := by have := hb1.size; simp at this; omega
  clear hsc
  go_wp2_with fail
  refine (hcs.out _ _ hI (hs.mono hB1)).mono ?_
  rintro e w2 ⟨rfl, hb2⟩
  have hI2 := hI.mono hb2
  go_wp2
  go_ret2
  exact ⟨⟨_, rfl, hI2⟩, bl_trans hB1 hb2⟩

/-- The first part of a list, as a slice expression leaves it. -/
theorem Ints.front {w : World} {A : Option Addr} {n c k : Nat} {l : List Int} (h : Ints w (.slice A n c) l) (hk : k ≤ l.length) (h1 : 1 ≤ l.length) : Ints w (.slice A k c) (l.take k) := by
  obtain ⟨b, off, c', he, hc, hb, hcell⟩ := h.some h1
  injection he with q1 q2 q3
  subst q1 q2 q3
  have hlen : (l.take k).length = k := by simp; omega
  refine .inr ⟨b, off, _, by rw [hlen], by rw [hlen]; omega, hb, fun i x hx => hcell i x ?_⟩
  rw [List.getElem?_take] at hx
  split at hx
  · exact hx
  · cases hx

section
variable {had : List Int} {part prize : Int}
theorem order_more (V : Val had part prize) (V2 : Val had part (prize + 1)) : ∃ j : Nat, j < had.length ∧ orderE had part (prize + 1) = orderE had part prize ++ [(j : Int)] ∧ ∀ i, i < had.length → (sharesE had part (prize + 1)).getD i 0 = (sharesE had part prize).getD i 0 + if j = i then 1 else 0 := by
  have hz := V.z1
  have e : (prize + 1).toNat = prize.toNat + 1 := by omega
  have hj := nextOwner_lt part (gotOf (ordN had part prize.toNat)) V.l1
  refine ⟨nextOwner had part (gotOf (ordN had part prize.toNat)), hj, ?_, fun i hi => ?_⟩
  · rw [orderE, orderE, if_pos (checkPool_ok.2 V), if_pos (checkPool_ok.2 V2), e, ordN, List.map_append]
    rfl
  · rw [(shares_facts V).2.2 i hi, (shares_facts V2).2.2 i hi]
    unfold gotEnd
    rw [e, ordN, gotOf_snoc, bump_at _ _ _ (by rw [gotOf_len]; have := V.l2; omega)]
    split
    · rename_i h; subst h; rfl
    · omega
end
theorem order_len {had : List Int} {part prize : Int} (V : Val had part prize) : (orderE had part prize).length = prize.toNat := by
  rw [orderE, if_pos (checkPool_ok.2 V), List.length_map, ordN_len]

end Go.Proofs.Ytfchcikdcnloaaa
