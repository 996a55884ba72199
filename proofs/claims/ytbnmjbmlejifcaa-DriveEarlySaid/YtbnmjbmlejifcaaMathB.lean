/- Plain law of the drive: no right plan brings more than a cut bounds; the early plan brings as much as the best cut. -/
import Derived.Test.YtbnmjbmlejifcaaMathA
set_option linter.all false
namespace Go.Proofs.Ytbnmjbmlejifcaa

/-- The day before which a log has to be below. -/
def before (R : Nat → Rch) (F : Nat → Nat) (day : Nat) (i : Nat) : Int := if 0 ≤ (R i).down then F (R i).down.toNat else (day : Int) + 1
/-- How many can enter from a day on, so that they are below before another one. -/
def thr (x : Rch) (f : Nat) (b : Int) : Int := capN x (max (f - 1) (b - x.takes - 1).toNat) - capN x (f - 1)
/-- What is counted of a reach. -/
def cutAt (R : Nat → Rch) (F : Nat → Nat) (day : Nat) (i : Nat) : Int := (if (R i).ready < (F i : Int) then (R i).logs else 0) + thr (R i) (F i) (before R F day i)
/-- The bound of a cut. -/
def bound (R : Nat → Rch) (n : Nat) (F : Nat → Nat) (day : Nat) : Int := sumN (cutAt R F day) n

/-- A cut. -/
def IsCut (n : Nat) (F : Nat → Nat) (day : Nat) : Prop := ∀ i, i < n → 1 ≤ F i ∧ F i ≤ day + 1

section
variable {R : Nat → Rch} {n D : Nat}

theorem flow (V : Riv R n D) (S : Nat → Int) : sumN (fun i => sumN (fun u => if (R u).down = (i : Int) then S u else 0) i) n = sumN (fun u => if (R u).down = -1 then 0 else S u) n := by
  have h1 : sumN (fun i => sumN (fun u => if (R u).down = (i : Int) then S u else 0) i) n = sumN (fun i => sumN (fun u => if (R u).down = (i : Int) then S u else 0) n) n := sumN_congr fun i hi => by
    symm
    refine sumN_tail (by omega) fun u h1 h2 => if_neg ?_
    have := V.down u h2
    intro e
    omega
  rw [h1, sumN_swap (fun i u => if (R u).down = (i : Int) then S u else 0)]
  refine sumN_congr fun u hu => ?_
  rcases V.down u hu with e | ⟨e1, e2⟩
  · rw [if_pos e]
    exact Eq.trans (sumN_congr fun i _ => if_neg (by intro h; omega)) (sumN_zero n)
  · rw [if_neg (by omega)]
    have h2 := sumN_one (c := fun _ => S u) (n := n) (a := (R u).down.toNat) (by omega)
    refine Eq.trans (sumN_congr fun i _ => ?_) h2
    show (if (R u).down = (i : Int) then S u else 0) = if i = (R u).down.toNat then S u else 0
    by_cases h : i = (R u).down.toNat
    · rw [if_pos h, if_pos (by omega)]
    · rw [if_neg h, if_neg (by omega)]

theorem flow_le (V : Riv R n D) {S c : Nat → Int} (h : ∀ i, i < n → S i ≤ c i + sumN (fun u => if (R u).down = (i : Int) then S u else 0) i) : sumN (fun u => if (R u).down = -1 then S u else 0) n ≤ sumN c n := by
  have h1 := sumN_le h
  rw [sumN_add, flow V] at h1
  have h2 : sumN S n = sumN (fun u => if (R u).down = -1 then S u else 0) n + sumN (fun u => if (R u).down = -1 then 0 else S u) n := by
    rw [← sumN_add]
    exact sumN_congr fun u _ => by split <;> omega
  omega
theorem flow_eq (V : Riv R n D) {S c : Nat → Int} (h : ∀ i, i < n → S i = c i + sumN (fun u => if (R u).down = (i : Int) then S u else 0) i) : sumN (fun u => if (R u).down = -1 then S u else 0) n = sumN c n := by
  have h1 := sumN_congr h
  rw [sumN_add, flow V] at h1
  have h2 : sumN S n = sumN (fun u => if (R u).down = -1 then S u else 0) n + sumN (fun u => if (R u).down = -1 then 0 else S u) n := by
    rw [← sumN_add]
    exact sumN_congr fun u _ => by split <;> omega
  omega

theorem before_le (V : Riv R n D) {F : Nat → Nat} {day i : Nat} (hF : IsCut n F day) (hi : i < n) : 1 ≤ before R F day i ∧ before R F day i ≤ day + 1 := by
  unfold before
  split
  · have := V.down i hi
    have := hF (R i).down.toNat (by omega)
    omega
  · omega
/-- What has come above a reach before its first day, by what has entered the reaches above it in time. -/
theorem come_cut (P : Nat → Nat → Int) {F : Nat → Nat} {day i : Nat} (hF : 1 ≤ F i) :
    come R P i ((F i - 1 : Nat) : Int) = (if (R i).ready < (F i : Int) then (R i).logs else 0) + sumN (fun u => if (R u).down = (i : Int) then gone P u (before R F day u - (R u).takes - 1) else 0) i := by
  unfold come
  have e1 : (if (R i).ready ≤ ((F i - 1 : Nat) : Int) then (R i).logs else 0) = if (R i).ready < (F i : Int) then (R i).logs else 0 := by
    by_cases h : (R i).ready < (F i : Int)
    · rw [if_pos h, if_pos (by omega)]
    · rw [if_neg h, if_neg (by omega)]
  rw [e1]
  congr 1
  refine sumN_congr fun u _ => ?_
  by_cases h : (R u).down = (i : Int)
  · rw [if_pos h, if_pos h]
    have e : before R F day u = F i := by unfold before; rw [if_pos (by omega), h, Int.toNat_natCast]
    rw [e]
    congr 1
    omega
  · rw [if_neg h, if_neg h]

theorem brought_before (R : Nat → Rch) (n : Nat) (P : Nat → Nat → Int) (F : Nat → Nat) (day : Nat) : brought R n P day = sumN (fun u => if (R u).down = -1 then gone P u (before R F day u - (R u).takes - 1) else 0) n := by
  unfold brought
  refine sumN_congr fun u _ => ?_
  by_cases h : (R u).down = -1
  · rw [if_pos h, if_pos h]
    have e : before R F day u = (day : Int) + 1 := by unfold before; rw [if_neg (by omega)]
    rw [e]
    congr 1
    omega
  · rw [if_neg h, if_neg h]

/-- What a right plan lets in, in time, is no more than what came before a day, and what may enter from it on. -/
theorem right_thr {P : Nat → Nat → Int} (V : Riv R n D) (H : Right R n D P) {i f : Nat} {b : Int} (hi : i < n) (hf : 1 ≤ f) (hf2 : f ≤ D + 1) (hb : b ≤ D + 1) : gone P i (b - (R i).takes - 1) ≤ come R P i ((f - 1 : Nat) : Int) + thr (R i) f b := by
  have ht := V.takes i hi
  have e : gone P i (b - (R i).takes - 1) = gone P i (((b - (R i).takes - 1).toNat : Nat) : Int) := by unfold gone; rw [Int.toNat_natCast]
  rw [e]
  generalize hT : (b - (R i).takes - 1).toNat = T
  have hTD : T ≤ D := by omega
  have h1 := gone_mono (P := P) (i := i) (D := D) (fun d hd => H.ge i d hi hd) (s := (T : Int)) (t := ((max (f - 1) T : Nat) : Int)) (by omega) (by omega)
  have h2 := right_cap H hi (s := f - 1) (t := max (f - 1) T) (by omega) (by omega)
  have h3 := right_sum V H hi (t := f - 1) (by omega)
  unfold thr
  rw [hT]
  omega

/-- NO RIGHT PLAN BRINGS MORE THAN A CUT BOUNDS. -/
theorem weak {Q : Nat → Nat → Int} (V : Riv R n D) (H : Right R n D Q) {F : Nat → Nat} {day : Nat} (hd : day ≤ D) (hF : IsCut n F day) : brought R n Q day ≤ bound R n F day := by
  rw [brought_before R n Q F day]
  refine flow_le V (S := fun u => gone Q u (before R F day u - (R u).takes - 1)) fun i hi => ?_
  have hb := before_le V hF hi
  have h1 := right_thr V H hi (hF i hi).1 (by have := (hF i hi).2; omega) (b := before R F day i) (by omega)
  rw [come_cut Q (F := F) (day := day) (hF i hi).1] at h1
  unfold cutAt
  omega

/-- A cut for which, of each reach, as few are counted as can be. -/
def Best (R : Nat → Rch) (n : Nat) (P : Nat → Nat → Int) (F : Nat → Nat) (day : Nat) : Prop := ∀ i, i < n → gone P i (before R F day i - (R i).takes - 1) = come R P i ((F i - 1 : Nat) : Int) + thr (R i) (F i) (before R F day i)

/-- THE PLAN BRINGS AS MUCH AS SUCH A CUT BOUNDS. -/
theorem strong {P : Nat → Nat → Int} (V : Riv R n D) {F : Nat → Nat} {day : Nat} (hF : IsCut n F day) (B : Best R n P F day) : brought R n P day = bound R n F day := by
  rw [brought_before R n P F day]
  refine flow_eq V (S := fun u => gone P u (before R F day u - (R u).takes - 1)) fun i hi => ?_
  have h1 := B i hi
  rw [come_cut P (F := F) (day := day) (hF i hi).1] at h1
  unfold cutAt
  show gone P i (before R F day i - (R i).takes - 1) = _
  omega

/-! ### The cut that is found, from the boom up -/
/-- The last day that is tried. -/
def lastDay (x : Rch) (b : Int) : Nat := (max 1 (b - x.takes)).toNat
/-- What is counted if this is the first day. -/
def cost (R : Nat → Rch) (P : Nat → Nat → Int) (i : Nat) (b : Int) (d : Nat) : Int := come R P i ((d - 1 : Nat) : Int) + thr (R i) d b

theorem thr_less (x : Rch) (hx : 0 ≤ x.pass) {d : Nat} (hd : 1 ≤ d) (b : Int) (hdl : d < lastDay x b) : thr x (d + 1) b ≤ thr x d b := by
  unfold thr lastDay at *
  have h1 : max (d + 1 - 1) (b - x.takes - 1).toNat = max (d - 1) (b - x.takes - 1).toNat := by omega
  rw [h1]
  have h2 : capN x (d - 1) ≤ capN x (d + 1 - 1) := sumN_mono (fun k _ => by unfold capD; split <;> omega) (by omega)
  omega
theorem thr_last (x : Rch) (b : Int) : thr x (lastDay x b) b = 0 := by
  unfold thr lastDay
  have : max ((max 1 (b - x.takes)).toNat - 1) (b - x.takes - 1).toNat = (max 1 (b - x.takes)).toNat - 1 := by omega
  rw [this]; omega

/-- A day whose cost is least is best. -/
theorem best_of_least {P : Nat → Nat → Int} (V : Riv R n D) (E : IsEarly R n D P) {i f : Nat} {b : Int} (hi : i < n) (hb : b ≤ D + 1) (hf : 1 ≤ f) (hfl : f ≤ lastDay (R i) b) (hD : 1 ≤ D)
    (hmin : ∀ d, 1 ≤ d → d ≤ lastDay (R i) b → cost R P i b f ≤ cost R P i b d) : gone P i (b - (R i).takes - 1) = come R P i ((f - 1 : Nat) : Int) + thr (R i) f b := by
  have ht := V.takes i hi
  have H := early_right V E
  have hl : lastDay (R i) b ≤ D + 1 := by unfold lastDay; omega
  have h1 := right_thr V H hi hf (by omega) hb
  have e : gone P i (b - (R i).takes - 1) = gone P i (((b - (R i).takes - 1).toNat : Nat) : Int) := by unfold gone; rw [Int.toNat_natCast]
  obtain ⟨s, hs, e2⟩ := early_cap V E hi (t := (b - (R i).takes - 1).toNat) (by omega)
  have h2 := hmin (s + 1) (by omega) (by unfold lastDay; omega)
  unfold cost at h2
  have e3 : thr (R i) (s + 1) b = capN (R i) (b - (R i).takes - 1).toNat - capN (R i) s := by
    unfold thr
    rw [show max (s + 1 - 1) (b - (R i).takes - 1).toNat = (b - (R i).takes - 1).toNat by omega, show s + 1 - 1 = s by omega]
  rw [e3, show s + 1 - 1 = s by omega] at h2
  rw [e] at h1 ⊢
  omega

/-! ### With a cut for each, one river brings no less than another one -/
theorem most_le {R' : Nat → Rch} {P P' : Nat → Nat → Int} (V : Riv R n D) (V' : Riv R' n D) (E : IsEarly R n D P) {F : Nat → Nat} {day : Nat} (hd : day ≤ D) (hF : IsCut n F day) (B : Best R' n P' F day) (h : bound R n F day ≤ bound R' n F day) : brought R n P day ≤ brought R' n P' day := by
  rw [strong V' hF B]
  have := weak V (early_right V E) hd hF
  omega
end

end Go.Proofs.Ytbnmjbmlejifcaa
