/- What has come above a reach, and to the boom (the reference). -/
import Derived.Test.YtbnmjbmlejifcaaPlans
set_option linter.all false
namespace Go.Proofs.Ytbnmjbmlejifcaa
open Go Go.RowKit Go.Proofs
attribute [local go_sem] cell_grow frozen_grow

/-- A river that may be; Pass may be one more. -/
structure Fit (days : Int) (l : List Rch) : Prop where
  d1 : 1 ≤ days
  d2 : days ≤ 40
  n1 : 1 ≤ l.length
  n2 : l.length ≤ 8
  down : ∀ (i : Nat) (x : Rch), l[i]? = some x → x.down = -1 ∨ (i : Int) < x.down ∧ x.down < (l.length : Int)
  pass : ∀ (i : Nat) (x : Rch), l[i]? = some x → 0 ≤ x.pass ∧ x.pass ≤ 1001
  takes : ∀ (i : Nat) (x : Rch), l[i]? = some x → 0 ≤ x.takes ∧ x.takes ≤ 10
  every : ∀ (i : Nat) (x : Rch), l[i]? = some x → 1 ≤ x.every ∧ x.every ≤ 10
  water : ∀ (i : Nat) (x : Rch), l[i]? = some x → 1 ≤ x.lo ∧ x.lo ≤ x.hi ∧ x.hi ≤ days
  logs : ∀ (i : Nat) (x : Rch), l[i]? = some x → 0 ≤ x.logs ∧ x.logs ≤ 10000
  ready : ∀ (i : Nat) (x : Rch), l[i]? = some x → 1 ≤ x.ready ∧ x.ready ≤ days
theorem riv_at {l : List Rch} {i : Nat} {x : Rch} (h : l[i]? = some x) : rivP l i = x := by simp [rivP, List.getD, h]

theorem gone_range {L : List (List Int)} (h : Small L) (i : Nat) (t : Int) (ht : t ≤ 1000) : 0 ≤ gone (planP L) i t ∧ gone (planP L) i t ≤ 100000000 := by
  have := gone_bd h i t.toNat
  unfold gone
  omega

/-- What comes to a reach from those above it, of the first so many. -/
def comeN (l : List Rch) (L : List (List Int)) (i : Nat) (t : Int) (k : Nat) : Int := sumN (fun u => if (rivP l u).down = (i : Int) then gone (planP L) u (t - (rivP l u).takes) else 0) k
def broughtN (l : List Rch) (L : List (List Int)) (t : Int) (k : Nat) : Int := sumN (fun u => if (rivP l u).down = -1 then gone (planP L) u (t - (rivP l u).takes) else 0) k
theorem comeN_bd {days : Int} {l : List Rch} {L : List (List Int)} (F : Fit days l) (h : Small L) (i : Nat) (t : Int) (ht : t ≤ 900) (k : Nat) (hk : k ≤ l.length) : 0 ≤ comeN l L i t k ∧ comeN l L i t k ≤ 800000000 := by
  have hf : ∀ u, u < k → 0 ≤ (if (rivP l u).down = (i : Int) then gone (planP L) u (t - (rivP l u).takes) else 0) ∧ (if (rivP l u).down = (i : Int) then gone (planP L) u (t - (rivP l u).takes) else 0) ≤ 100000000 := fun u hu => by
    obtain ⟨x, hx⟩ := get_at (l := l) (k := u) (by omega)
    have h1 := F.takes u x hx
    rw [riv_at hx]
    have h2 := gone_range h u (t - x.takes) (by omega)
    split <;> omega
  have h1 := sumN_nonneg fun u hu => (hf u hu).1
  have h2 := sumN_bd fun u hu => (hf u hu).2
  have := F.n2
  unfold comeN
  omega
theorem broughtN_bd {days : Int} {l : List Rch} {L : List (List Int)} (F : Fit days l) (h : Small L) (t : Int) (ht : t ≤ 900) (k : Nat) (hk : k ≤ l.length) : 0 ≤ broughtN l L t k ∧ broughtN l L t k ≤ 800000000 := by
  have hf : ∀ u, u < k → 0 ≤ (if (rivP l u).down = -1 then gone (planP L) u (t - (rivP l u).takes) else 0) ∧ (if (rivP l u).down = -1 then gone (planP L) u (t - (rivP l u).takes) else 0) ≤ 100000000 := fun u hu => by
    obtain ⟨x, hx⟩ := get_at (l := l) (k := u) (by omega)
    have h1 := F.takes u x hx
    rw [riv_at hx]
    have h2 := gone_range h u (t - x.takes) (by omega)
    split <;> omega
  have h1 := sumN_nonneg fun u hu => (hf u hu).1
  have h2 := sumN_bd fun u hu => (hf u hu).2
  have := F.n2
  unfold broughtN
  omega

set_option maxRecDepth 100000 in
set_option maxHeartbeats 8000000 in
theorem come_any (days : Int) (l : List Rch) (sr : Value) (L : List (List Int)) (sp : Value) (i : Nat) (t : Int) (w : World) (hr : Rchs w sr l) (hp : Rows w sp L) (F : Fit days l) (hL : L.length = l.length) (hi : i < l.length) (hsm : Small L) (ht : -900 ≤ t ∧ t ≤ 900) :
    Calls Try.prog 64 #[.agg #[.int .i64 days, sr], sp, .int .i64 i, .int .i64 t] w fun e w' => e = .returned (.int .i64 (come (rivP l) (planP L) i t)) ∧ Below w.heap.size w w' := by
  have hn1 := F.n1
  have hn2 := F.n2
  obtain ⟨b, off, c, rfl, hlc, hb, hcell⟩ := hr.some hn1
  obtain ⟨x, hx⟩ := get_at hi
  have hc := hcell i x hx
  have hxl := F.logs i x hx
  have q7 := hc.c7
  have q6 := hc.c6
  have hiI : (i : Int) < (l.length : Int) := by omega
  have HB := Lib.hid (fun k (hk : k ≤ l.length) => comeN_bd F hsm i t ht.2 k hk)
  have HE : Hid (come (rivP l) (planP L) i t = (if x.ready ≤ t then x.logs else 0) + comeN l L i t i) := by
    show come (rivP l) (planP L) i t = _
    unfold come comeN
    rw [riv_at hx]
  have HC := Lib.hid hcell
  have HT := Lib.hid F.takes
  have HG := Lib.hid (fun (u : Nat) (hu : u < l.length) (t' : Int) (h1 : -1000 ≤ t') (h2 : t' ≤ 1000) (W : World) (hW : Rows W sp L) => gone_any L sp u t' W hW (by omega) hsm ⟨h1, h2⟩)
  have HGB := Lib.hid (fun (u : Nat) (t' : Int) (h : t' ≤ 1000) => gone_range hsm u t' h)
  clear hcell hc hx
  obtain ⟨n0, hn0⟩ : ∃ n0, (if x.ready ≤ t then x.logs else 0) = n0 := ⟨_, rfl⟩
  have hn0b : 0 ≤ n0 ∧ n0 ≤ 10000 := by rw [← hn0]; split <;> omega
  rw [hn0] at HE
  by_cases hrt : x.ready ≤ t
  case' pos =>
    rw [if_pos hrt] at hn0
    rw [hn0] at q6
    clear hn0 hxl
  case' neg =>
    rw [if_neg hrt] at hn0
    have hrt' : decide (x.ready ≤ t) = false := by simpa using hrt
    have HN : Hid (n0 = 0) := hn0.symm
    clear hrt hn0
  all_goals
    go_enter Try.func64, Try.ntmps64
    go_wp2
    go_loopw [9, 10] (fun n p wr => ∃ k : Nat, k ≤ i ∧ p = .int .i64 k ∧ n = .int .i64 (n0 + comeN l L i t k) ∧ wr = w.alloc (.cells #[.int .i64 days, .slice (some ⟨b, off, none⟩) l.length c] 24)) (fun _ p _ => i - (intOf p).toNat)
    case atStart => exact ⟨0, Nat.zero_le _, rfl, by first | (simp [comeN, sumN]; done) | (rw [HN.out]; simp [comeN, sumN]), rfl⟩
    case round =>
      obtain ⟨k, hk, rfl, rfl, rfl⟩ := hrel
      by_cases hlt : k < i
      · obtain ⟨y, hy⟩ := get_at (l := l) (k := k) (by omega)
        have hcy := (HC.out k y hy).mono (bl_alloc (bl_refl w) (.cells #[.int .i64 days, .slice (some ⟨b, off, none⟩) l.length c] 24))
        have y0 := hcy.c0
        have y2 := hcy.c2
        have hyt := HT.out k y hy
        have hkI : (k : Int) < (l.length : Int) := by omega
        have hkb := HB.out k (by omega)
        have hw1 : IntKind.i64.wrap (t - y.takes) = t - y.takes := IntWalk.i64_in _ (by omega)
        have hS : Hid (comeN l L i t (k + 1) = comeN l L i t k + if y.down = (i : Int) then gone (planP L) k (t - y.takes) else 0) := by
          show comeN l L i t (k + 1) = _
          unfold comeN
          rw [sumN_succ, riv_at hy]
        by_cases hdn : y.down = (i : Int)
        · have hgb := HGB.out k (t - y.takes) (by omega)
          have HS : Hid (comeN l L i t (k + 1) = comeN l L i t k + gone (planP L) k (t - y.takes)) := by
            have := hS.out; rwa [if_pos hdn] at this
          have dd : (y.down == (i : Int)) = true := by simp [hdn]
          have hcall := HG.out k (by omega) (t - y.takes) (by omega) (by omega) _ (hp.mono (bl_alloc (bl_refl w) (.cells #[.int .i64 days, .slice (some ⟨b, off, none⟩) l.length c] 24)))
          clear hS hdn hy hcy
          generalize comeN l L i t k = cm at *
          generalize gone (planP L) k (t - y.takes) = gn at *
          go_wp2_with fail
          refine hcall.mono ?_
          rintro e w' ⟨rfl, rfl⟩
          go_wp2
          go_roundw
          case rel => exact ⟨k + 1, by omega, by go_num, by rw [HS.out]; go_num, by first | rfl | trivial⟩
          case measure => simp [intOf]; omega
        · have HS : Hid (comeN l L i t (k + 1) = comeN l L i t k) := by
            have := hS.out; rw [if_neg hdn] at this; show comeN l L i t (k + 1) = _; omega
          have dd : (y.down == (i : Int)) = false := beq_eq_false_iff_ne.2 hdn
          clear hS hdn hy hcy
          go_wp2
          go_roundw
          case rel => exact ⟨k + 1, by omega, by go_num, by rw [HS.out], by first | rfl | trivial⟩
          case measure => simp [intOf]; omega
      · obtain rfl : k = i := by omega
        go_wp2
        go_ret
        exact ⟨ret_i64 (by rw [HE.out]), bl_alloc (bl_refl _) _⟩

set_option maxRecDepth 100000 in
set_option maxHeartbeats 8000000 in
theorem brought_any (days : Int) (l : List Rch) (sr : Value) (L : List (List Int)) (sp : Value) (t : Int) (w : World) (hr : Rchs w sr l) (hp : Rows w sp L) (F : Fit days l) (hL : L.length = l.length) (hsm : Small L) (ht : -900 ≤ t ∧ t ≤ 900) :
    Calls Try.prog 65 #[.agg #[.int .i64 days, sr], sp, .int .i64 t] w fun e w' => e = .returned (.int .i64 (brought (rivP l) l.length (planP L) t)) ∧ Below w.heap.size w w' := by
  have hn1 := F.n1
  have hn2 := F.n2
  obtain ⟨b, off, c, rfl, hlc, hb, hcell⟩ := hr.some hn1
  have HB := Lib.hid (fun k (hk : k ≤ l.length) => broughtN_bd F hsm t ht.2 k hk)
  have HC := Lib.hid hcell
  have HT := Lib.hid F.takes
  have HG := Lib.hid (fun (u : Nat) (hu : u < l.length) (t' : Int) (h1 : -1000 ≤ t') (h2 : t' ≤ 1000) (W : World) (hW : Rows W sp L) => gone_any L sp u t' W hW (by omega) hsm ⟨h1, h2⟩)
  have HGB := Lib.hid (fun (u : Nat) (t' : Int) (h : t' ≤ 1000) => gone_range hsm u t' h)
  clear hcell
  go_enter Try.func65, Try.ntmps65
  go_wp2
  go_loopw [7, 8] (fun n p wr => ∃ k : Nat, k ≤ l.length ∧ p = .int .i64 k ∧ n = .int .i64 (broughtN l L t k) ∧ wr = w.alloc (.cells #[.int .i64 days, .slice (some ⟨b, off, none⟩) l.length c] 24)) (fun _ p _ => l.length - (intOf p).toNat)
  case atStart => exact ⟨0, Nat.zero_le _, rfl, rfl, rfl⟩
  case round =>
    obtain ⟨k, hk, rfl, rfl, rfl⟩ := hrel
    by_cases hlt : k < l.length
    · obtain ⟨y, hy⟩ := get_at hlt
      have hcy := (HC.out k y hy).mono (bl_alloc (bl_refl w) (.cells #[.int .i64 days, .slice (some ⟨b, off, none⟩) l.length c] 24))
      have y0 := hcy.c0
      have y2 := hcy.c2
      have hyt := HT.out k y hy
      have hkI : (k : Int) < (l.length : Int) := by omega
      have hkb := HB.out k (by omega)
      have hw1 : IntKind.i64.wrap (t - y.takes) = t - y.takes := IntWalk.i64_in _ (by omega)
      have hS : Hid (broughtN l L t (k + 1) = broughtN l L t k + if y.down = -1 then gone (planP L) k (t - y.takes) else 0) := by
        show broughtN l L t (k + 1) = _
        unfold broughtN
        rw [sumN_succ, riv_at hy]
      by_cases hdn : y.down = -1
      · have hgb := HGB.out k (t - y.takes) (by omega)
        have HS : Hid (broughtN l L t (k + 1) = broughtN l L t k + gone (planP L) k (t - y.takes)) := by
          have := hS.out; rwa [if_pos hdn] at this
        have dd : (y.down == -1) = true := by simp [hdn]
        have hcall := HG.out k (by omega) (t - y.takes) (by omega) (by omega) _ (hp.mono (bl_alloc (bl_refl w) (.cells #[.int .i64 days, .slice (some ⟨b, off, none⟩) l.length c] 24)))
        clear hS hdn hy hcy
        generalize broughtN l L t k = cm at *
        generalize gone (planP L) k (t - y.takes) = gn at *
        go_wp2_with fail
        refine hcall.mono ?_
        rintro e w' ⟨rfl, rfl⟩
        go_wp2
        go_roundw
        case rel => exact ⟨k + 1, by omega, by go_num, by rw [HS.out], by first | rfl | trivial⟩
        case measure => simp [intOf]; omega
      · have HS : Hid (broughtN l L t (k + 1) = broughtN l L t k) := by
          have := hS.out; rw [if_neg hdn] at this; show broughtN l L t (k + 1) = _; omega
        have dd : (y.down == -1) = false := beq_eq_false_iff_ne.2 hdn
        clear hS hdn hy hcy
        go_wp2
        go_roundw
        case rel => exact ⟨k + 1, by omega, by go_num, by rw [HS.out], by first | rfl | trivial⟩
        case measure => simp [intOf]; omega
    · obtain rfl : k = l.length := by omega
      go_wp2
      go_ret
      exact ⟨rfl, bl_alloc (bl_refl _) _⟩

end Go.Proofs.Ytbnmjbmlejifcaa
