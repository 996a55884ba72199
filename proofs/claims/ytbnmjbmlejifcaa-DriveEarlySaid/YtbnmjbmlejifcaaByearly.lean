/- The early plan's year: the walk. -/
import Derived.Test.YtbnmjbmlejifcaaRunc
set_option linter.all false
namespace Go.Proofs.Ytbnmjbmlejifcaa
open Go Go.RowKit Go.Proofs
attribute [local go_sem] cell_grow frozen_grow

theorem may_any (Y i : Nat) (day above : Int) (sr : Value) (l : List Rch) (x : Rch) (w : World) (hr : Rchs w sr l) (hY : w.cell? ⟨Y, 1, none⟩ = some sr) (hi : l[i]? = some x) (hl : l.length ≤ 100) :
    Calls Try.prog 86 #[.pointer (some ⟨Y, 0, none⟩), .int .i64 (i : Int), .int .i64 day, .int .i64 above] w fun e w' => e = .returned (.int .i64 (min x.pass above)) ∧ Below w.heap.size w w' := by
  have hil : i < l.length := (List.getElem?_eq_some_iff.1 hi).1
  obtain ⟨b, off, c, rfl, hlc, hb, hcell⟩ := hr.some (by omega)
  have q1 := (hcell i x hi).c1
  have hII : (i : Int) < (l.length : Int) := by omega
  have hYl : Y < w.heap.size := by
    unfold World.cell? at hY
    cases h : w.heap[Y]? with
    | none => simp [h] at hY
    | some o => exact (Array.getElem?_eq_some_iff.1 h).1
  have hm : min x.pass above = if above < x.pass then above else x.pass := by split <;> omega
  have HM := hid hm
  clear hcell hm
  go_enter Try.func86, Try.ntmps86
  go_wp2
  all_goals
    go_ret
    exact ⟨ret_i64 (by omega), bl_refl _⟩

/-- A year by the early plan. -/
def EarlyYear (D : Nat) (l : List Rch) (sr : Value) (W : World) (Y : Nat) : Prop :=
  ∃ wb vp vc vb Bs, Year wb W Y (D : Int) sr D vp vc vb Bs (planE D l) (comeRows l (planP (planE D l)) (D + 1)) (boomRow l (planP (planE D l)) (D + 1)) (row8 (goneF l (planP (planE D l)) D 0))
theorem EarlyYear.mono {D : Nat} {l : List Rch} {sr : Value} {W W' : World} {Y : Nat} (h : EarlyYear D l sr W Y) (hb : Below W.heap.size W W') : EarlyYear D l sr W' Y := by
  obtain ⟨wb, vp, vc, vb, Bs, h⟩ := h
  exact ⟨wb, vp, vc, vb, Bs, h.mono hb⟩
theorem early_any (D : Nat) (l : List Rch) (sr : Value) (w : World) (hr : Rchs w sr l) (F : Fit (D : Int) l) :
    Calls Try.prog 69 #[.agg #[.int .i64 (D : Int), sr]] w fun e w' => ∃ Y, e = .returned (.pointer (some ⟨Y, 0, none⟩)) ∧ EarlyYear D l sr w' Y ∧ Below w.heap.size w w' := by
  have hE : IsEarly (rivP l) l.length D (planP (planE D l)) := by have := planE_early F; rwa [Int.toNat_natCast] at this
  have hV : Riv (rivP l) l.length D := by have := fit_riv F; rwa [Int.toNat_natCast] at this
  have hR := early_right hV hE
  have hfull : Full l.length D (planE D l) := by have := planE_full D l; rwa [Int.toNat_natCast] at this
  have hsm := planE_small F
  have hn2 := F.n2
  have hcl0 : ∀ (i d : Nat), i < l.length → d < D → openB (rivP l i) ((d : Int) + 1) = false → planP (planE D l) i (d + 1) = 0 := fun i d hi hd ho => by
    rw [hE i d hi hd, ho]; rfl
  have hok : okTo l (planP (planE D l)) D 0 := fun j e hj he => hR.sum j e hj (by unfold Done at he; omega)
  have HE := hid hE
  have b0 := bl_alloc (bl_refl w) (.cells #[.int .i64 (D : Int), sr] 24)
  have hr1 := hr.mono b0
  obtain ⟨A, c, hsl⟩ := hr.slice
  have hnew := newYear_any D l sr _ hr1 F
  clear hE hV hR
  subst hsl
  go_enter Try.func69, Try.ntmps69
  go_wp2_with fail
  refine hnew.mono ?_
  rintro e w2 ⟨Y, vp, vc, vb, Bs, rfl, hY⟩
  have hrun := run_may D l _ F (planE D l) hfull hsm _ w2 Y vp vc vb Bs hr1 hY hcl0 (fun i d W hi hd ho hW hc1 => by
    obtain ⟨x, hx⟩ := get_at hi
    have h := may_any Y i ((d : Int) + 1) (come (rivP l) (planP (planE D l)) i ((d : Int) + 1) - gone (planP (planE D l)) i d) _ l x W (hr1.mono hW) hc1 hx (by omega)
    rw [HE.out i d hi hd, if_pos ho, riv_at hx]
    exact h)
  have HB := hid b0
  clear hY hnew b0 hcl0
  go_wp2_with fail
  refine hrun.mono ?_
  rintro e w3 ⟨hb3, h⟩
  rcases h with ⟨_, rfl, vc', vb', hy⟩ | ⟨hno, _⟩
  · have HY := hid hy
    clear hy hok hrun
    go_wp2
    go_ret
    exact ⟨Y, rfl, ⟨_, vp, vc', vb', Bs, HY.out⟩, bl_trans HB.out hb3⟩
  · exact absurd hok hno

end Go.Proofs.Ytbnmjbmlejifcaa
