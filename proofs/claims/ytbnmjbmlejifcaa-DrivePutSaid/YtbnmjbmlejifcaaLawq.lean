/- DrivePut: a reach put in (plain), and the walk. -/
import Derived.Test.YtbnmjbmlejifcaaLawi
import Derived.Test.YtbnmjbmlejifcaaLawe
set_option linter.all false
namespace Go.Proofs.Ytbnmjbmlejifcaa
open Go Go.RowKit Go.Proofs
attribute [local go_sem] cell_grow frozen_grow

/-! ### Another reach put in -/
def upR (i : Nat) (x : Rch) : Rch := if (i : Int) < x.down then { x with down := x.down + 1 } else x
/-- The reach that is put in. -/
def putR (D : Int) (below : Int) : Rch := ⟨below, 1000, 0, 1, D, 1, 0, 1⟩
def putAt (R : Nat → Rch) (D : Int) (i j : Nat) : Rch := if j < i then upR i (R j) else if j = i then { R i with down := (i : Int) + 1 } else if j = i + 1 then putR D (upR i (R i)).down else upR i (R (j - 1))
/-- The river so far. -/
def putTo (l : List Rch) (D : Int) (i : Nat) : Nat → List Rch
  | 0 => []
  | k + 1 => putTo l D i k ++ if k = i then [{ rivP l k with down := (i : Int) + 1 }, putR D (upR i (rivP l k)).down] else [upR i (rivP l k)]
theorem putTo_len (l : List Rch) (D : Int) (i : Nat) : ∀ k, (putTo l D i k).length = k + if i < k then 1 else 0
  | 0 => rfl
  | k + 1 => by
    rw [putTo, List.length_append, putTo_len l D i k]
    by_cases h1 : k = i
    · subst h1
      rw [if_pos rfl, if_neg (by omega), if_pos (by omega)]; rfl
    · rw [if_neg h1]
      by_cases h2 : i < k
      · rw [if_pos h2, if_pos (by omega)]; rfl
      · rw [if_neg h2, if_neg (by omega)]; simp
theorem riv_app {a b : List Rch} {j : Nat} : rivP (a ++ b) j = if j < a.length then rivP a j else rivP b (j - a.length) := by
  unfold rivP
  split
  · rename_i h; simp [List.getD, List.getElem?_append_left h]
  · rename_i h; simp [List.getD, List.getElem?_append_right (Nat.le_of_not_lt h)]
theorem putTo_at (l : List Rch) (D : Int) (i : Nat) : ∀ k j, j < (putTo l D i k).length → rivP (putTo l D i k) j = putAt (rivP l) D i j
  | 0, j, h => absurd h (Nat.not_lt_zero j)
  | k + 1, j, h => by
    have hlk := putTo_len l D i k
    have hlk1 := putTo_len l D i (k + 1)
    rw [putTo, riv_app]
    by_cases hj : j < (putTo l D i k).length
    · rw [if_pos hj]; exact putTo_at l D i k j hj
    · rw [if_neg hj]
      by_cases h1 : k = i
      · subst h1
        rw [if_neg (by omega)] at hlk
        rw [if_pos (by omega)] at hlk1
        rw [if_pos rfl]
        by_cases h2 : j = k
        · subst h2
          rw [hlk, Nat.add_zero, Nat.sub_self]
          unfold putAt
          rw [if_neg (by omega), if_pos rfl]
          rfl
        · obtain rfl : j = k + 1 := by omega
          rw [hlk, show k + 1 - (k + 0) = 1 by omega]
          unfold putAt
          rw [if_neg (by omega), if_neg (by omega), if_pos rfl]
          rfl
      · rw [if_neg h1]
        by_cases h2 : i < k
        · rw [if_pos h2] at hlk
          rw [if_pos (by omega)] at hlk1
          obtain rfl : j = k + 1 := by omega
          rw [hlk, Nat.sub_self]
          unfold putAt
          rw [if_neg (by omega), if_neg (by omega), if_neg (by omega)]
          rfl
        · rw [if_neg h2] at hlk
          rw [if_neg (by omega)] at hlk1
          obtain rfl : j = k := by omega
          rw [hlk, Nat.add_zero, Nat.sub_self]
          unfold putAt
          rw [if_pos (by omega)]
          rfl
/-- The early plan then. -/
def putPl (R : Nat → Rch) (i : Nat) (P : Nat → Nat → Int) (j d : Nat) : Int := if j < i + 1 then P j d else if j = i + 1 then laterP (R i).takes.toNat P i d else P (j - 1) d
section
variable {R R' : Nat → Rch} {n D i : Nat} {P : Nat → Nat → Int}
theorem gone_low {j : Nat} (h1 : j < i + 1) (t : Int) : gone (putPl R i P) j t = gone P j t := by
  unfold gone
  exact sumN_congr fun d _ => by unfold putPl; rw [if_pos h1]
theorem gone_new (htk : 0 ≤ (R i).takes) (t : Int) : gone (putPl R i P) (i + 1) t = gone P i (t - (R i).takes) := by
  have h := gone_later (R i).takes.toNat P i t
  rw [show (((R i).takes.toNat : Nat) : Int) = (R i).takes by omega] at h
  rw [← h]
  unfold gone
  exact sumN_congr fun d _ => by unfold putPl; rw [if_neg (by omega), if_pos rfl]
theorem gone_high {j : Nat} (h1 : i < j) (t : Int) : gone (putPl R i P) (j + 1) t = gone P j t := by
  unfold gone
  exact sumN_congr fun d _ => by unfold putPl; rw [if_neg (by omega), if_neg (by omega), Nat.add_sub_cancel]
theorem up_down {x : Rch} {j : Nat} : ((upR i x).down = (j : Int)) ↔ (if (i : Int) < x.down then x.down + 1 = (j : Int) else x.down = (j : Int)) := by
  unfold upR
  split <;> rfl
theorem up_boom {x : Rch} : ((upR i x).down = -1) ↔ x.down = -1 := by
  unfold upR
  split
  · show x.down + 1 = -1 ↔ x.down = -1
    omega
  · rfl
theorem up_same (x : Rch) : (upR i x).takes = x.takes ∧ (upR i x).pass = x.pass ∧ (upR i x).logs = x.logs ∧ (upR i x).ready = x.ready ∧ ∀ d, openB (upR i x) d = openB x d := by
  unfold upR
  split <;> exact ⟨rfl, rfl, rfl, rfl, fun _ => rfl⟩
/-- One more place, for which nothing is counted. -/
theorem sumN_put {f g : Nat → Int} (h1 : ∀ u, u < i → g u = f u) (h2 : g i = 0) : ∀ m, i ≤ m → (∀ u, i ≤ u → u < m → g (u + 1) = f u) → sumN g (m + 1) = sumN f m
  | 0, hm, _ => by obtain rfl : i = 0 := by omega
                   show sumN g 0 + g 0 = _; rw [h2]; rfl
  | m + 1, hm, h3 => by
    by_cases e : i = m + 1
    · rw [sumN_succ, ← e, h2, sumN_congr h1, Int.add_zero]
    · rw [sumN_succ, sumN_put h1 h2 m (by omega) (fun u a b => h3 u a (by omega)), h3 m (by omega) (by omega), sumN_succ]
theorem put_low (hR : ∀ j, j < n + 1 → R' j = putAt R D i j) {u : Nat} (hu : u < i) (hi : i < n) : R' u = upR i (R u) := by
  rw [hR u (by omega)]; unfold putAt; rw [if_pos hu]
theorem put_self (hR : ∀ j, j < n + 1 → R' j = putAt R D i j) (hi : i < n) : R' i = { R i with down := (i : Int) + 1 } := by
  rw [hR i (by omega)]; unfold putAt; rw [if_neg (by omega), if_pos rfl]
theorem put_new (hR : ∀ j, j < n + 1 → R' j = putAt R D i j) (hi : i < n) : R' (i + 1) = putR D (upR i (R i)).down := by
  rw [hR (i + 1) (by omega)]; unfold putAt; rw [if_neg (by omega), if_neg (by omega), if_pos rfl]
theorem put_high (hR : ∀ j, j < n + 1 → R' j = putAt R D i j) {u : Nat} (hu : i < u) (hun : u < n) : R' (u + 1) = upR i (R u) := by
  rw [hR (u + 1) (by omega)]; unfold putAt; rw [if_neg (by omega), if_neg (by omega), if_neg (by omega), Nat.add_sub_cancel]
variable (V : Riv R n D) (hi : i < n) (hR : ∀ j, j < n + 1 → R' j = putAt R D i j)
include V hi hR
/-- What flows from above is the same, above the new reach. -/
theorem come_low {j : Nat} (hj : j ≤ i) (t : Int) : come R' (putPl R i P) j t = come R P j t := by
  have htk := V.takes i hi
  unfold come
  have e : (R' j).ready = (R j).ready ∧ (R' j).logs = (R j).logs := by
    by_cases h : j = i
    · subst h; rw [put_self hR hi]; exact ⟨rfl, rfl⟩
    · rw [put_low hR (by omega) hi]; exact ⟨(up_same _).2.2.2.1, (up_same _).2.2.1⟩
  rw [e.1, e.2]
  congr 1
  refine sumN_congr fun u hu => ?_
  rw [put_low hR (by omega) hi, gone_low (by omega), (up_same _).1]
  by_cases h : (R u).down = (j : Int)
  · rw [if_pos h, if_pos (up_down.2 (by rw [if_neg (by omega)]; exact h))]
  · rw [if_neg h, if_neg fun hh => by
      have := up_down.1 hh
      split at this <;> omega]
theorem come_new (t : Int) : come R' (putPl R i P) (i + 1) t = gone P i (t - (R i).takes) := by
  have htk := V.takes i hi
  unfold come
  rw [put_new hR hi, sumN_succ]
  have h1 : (if (putR (D : Int) (upR i (R i)).down).ready ≤ t then (putR (D : Int) (upR i (R i)).down).logs else 0) = 0 := by
    show (if (1 : Int) ≤ t then (0 : Int) else 0) = 0
    split <;> rfl
  have h2 : sumN (fun u => if (R' u).down = ((i + 1 : Nat) : Int) then gone (putPl R i P) u (t - (R' u).takes) else 0) i = 0 := by
    refine Eq.trans (sumN_congr fun u hu => ?_) (sumN_zero i)
    rw [put_low hR hu hi, if_neg fun hh => by
      have := up_down.1 hh
      split at this <;> omega]
  rw [h1, h2, put_self hR hi]
  show 0 + (0 + if (i : Int) + 1 = ((i + 1 : Nat) : Int) then gone (putPl R i P) i (t - (R i).takes) else 0) = _
  rw [if_pos (by omega), gone_low (by omega)]
  omega
theorem come_high {j : Nat} (hj : i < j) (hjn : j < n) (t : Int) : come R' (putPl R i P) (j + 1) t = come R P j t := by
  have htk := V.takes i hi
  unfold come
  rw [put_high hR hj hjn, (up_same _).2.2.2.1, (up_same _).2.2.1]
  congr 1
  refine sumN_put (i := i) (fun u hu => ?_) ?_ j (by omega) fun u h1 h2 => ?_
  · rw [put_low hR hu hi, gone_low (by omega), (up_same _).1]
    by_cases h : (R u).down = (j : Int)
    · rw [if_pos h, if_pos (up_down.2 (by rw [if_pos (by omega)]; omega))]
    · rw [if_neg h, if_neg fun hh => by
        have := up_down.1 hh
        split at this <;> omega]
  · rw [put_self hR hi]
    exact if_neg (by show ¬ (i : Int) + 1 = ((j + 1 : Nat) : Int); omega)
  · by_cases e : u = i
    · subst e
      rw [put_new hR hi, gone_new htk]
      show (if (upR u (R u)).down = ((j + 1 : Nat) : Int) then gone P u (t - 0 - (R u).takes) else 0) = _
      rw [Int.sub_zero]
      by_cases h : (R u).down = (j : Int)
      · rw [if_pos h, if_pos (up_down.2 (by rw [if_pos (by omega)]; omega))]
      · rw [if_neg h, if_neg fun hh => by
          have := up_down.1 hh
          split at this <;> omega]
    · rw [put_high hR (by omega) (by omega), gone_high (by omega), (up_same _).1]
      by_cases h : (R u).down = (j : Int)
      · rw [if_pos h, if_pos (up_down.2 (by rw [if_pos (by omega)]; omega))]
      · rw [if_neg h, if_neg fun hh => by
          have := up_down.1 hh
          split at this <;> omega]
theorem brought_put (t : Int) : brought R' (n + 1) (putPl R i P) t = brought R n P t := by
  have htk := V.takes i hi
  unfold brought
  refine sumN_put (i := i) (fun u hu => ?_) ?_ n (by omega) fun u h1 h2 => ?_
  · rw [put_low hR hu hi, gone_low (by omega), (up_same _).1]
    by_cases h : (R u).down = -1
    · rw [if_pos h, if_pos (up_boom.2 h)]
    · rw [if_neg h, if_neg fun hh => h (up_boom.1 hh)]
  · rw [put_self hR hi]
    exact if_neg (by show ¬ (i : Int) + 1 = -1; omega)
  · by_cases e : u = i
    · subst e
      rw [put_new hR hi, gone_new htk]
      show (if (upR u (R u)).down = -1 then gone P u (t - 0 - (R u).takes) else 0) = _
      rw [Int.sub_zero]
      by_cases h : (R u).down = -1
      · rw [if_pos h, if_pos (up_boom.2 h)]
      · rw [if_neg h, if_neg fun hh => h (up_boom.1 hh)]
    · rw [put_high hR (by omega) (by omega), gone_high (by omega), (up_same _).1]
      by_cases h : (R u).down = -1
      · rw [if_pos h, if_pos (up_boom.2 h)]
      · rw [if_neg h, if_neg fun hh => h (up_boom.1 hh)]
theorem early_put (E : IsEarly R n D P) (hp : ∀ d, d < D → 0 ≤ P i (d + 1) ∧ P i (d + 1) ≤ 1000) : IsEarly R' (n + 1) D (putPl R i P) := by
  have htk := V.takes i hi
  intro j d hj hd
  by_cases h1 : j < i + 1
  · rw [come_low V hi hR (by omega), gone_low h1]
    have e : (R' j).pass = (R j).pass ∧ ∀ d, openB (R' j) d = openB (R j) d := by
      by_cases h : j = i
      · subst h; rw [put_self hR hi]; exact ⟨rfl, fun _ => rfl⟩
      · rw [put_low hR (by omega) hi]; exact ⟨(up_same _).2.1, (up_same _).2.2.2.2⟩
    rw [e.1, e.2]
    unfold putPl
    rw [if_pos h1]
    exact E j d (by omega) hd
  by_cases h2 : j = i + 1
  · subst h2
    rw [come_new V hi hR, gone_new htk, put_new hR hi]
    have ho : openB (putR (D : Int) (upR i (R i)).down) ((d : Int) + 1) = true := by
      simp only [openB, putR, Bool.and_eq_true, decide_eq_true_eq]
      refine ⟨⟨?_, ?_⟩, decide_eq_true (Int.emod_one _)⟩
      · exact decide_eq_true (by omega)
      · exact decide_eq_true (by omega)
    rw [ho, if_pos rfl]
    show putPl R i P (i + 1) (d + 1) = min (1000 : Int) _
    unfold putPl laterP
    rw [if_neg h1, if_pos rfl]
    by_cases h3 : d + 1 ≤ (R i).takes.toNat
    · rw [if_pos h3, gone_zero _ _ (by omega), gone_zero _ _ (by omega)]; decide
    · rw [if_neg h3]
      obtain ⟨e, he⟩ : ∃ e : Nat, d = e + (R i).takes.toNat := ⟨d - (R i).takes.toNat, by omega⟩
      have hpe := hp e (by omega)
      rw [show (d : Int) + 1 - (R i).takes = (e : Int) + 1 by omega, show (d : Int) - (R i).takes = (e : Int) by omega, gone_succ, show d + 1 - (R i).takes.toNat = e + 1 by omega]
      omega
  · obtain ⟨k, rfl⟩ : ∃ k, j = k + 1 := ⟨j - 1, by omega⟩
    rw [come_high V hi hR (by omega) (by omega), gone_high (by omega), put_high hR (by omega) (by omega), (up_same _).2.1, (up_same _).2.2.2.2]
    unfold putPl
    rw [if_neg h1, if_neg h2, Nat.add_sub_cancel]
    exact E k d (by omega) hd
end
section
variable {D i : Nat} {l : List Rch}
def putL (l : List Rch) (D : Int) (i : Nat) : List Rch := putTo l D i l.length
theorem putL_len (hi : i < l.length) : (putL l D i).length = l.length + 1 := by
  unfold putL
  rw [putTo_len, if_pos hi]
theorem putL_at (hi : i < l.length) {j : Nat} (hj : j < l.length + 1) : rivP (putL l D i) j = putAt (rivP l) D i j := putTo_at l D i l.length j (by have := putL_len (D := D) hi; unfold putL at this; omega)
theorem put_river (h : riverE (D : Int) l = 0) (hi : i < l.length) (hl : l.length ≤ 7) : riverE (D : Int) (putL l D i) = 0 := by
  have F := fit_of h
  have hd := F.d1
  have hd2 := F.d2
  have hlen := putL_len (D := D) hi
  refine river_mk (by omega) (by omega) (fun j hj => ?_) (fun j hj => ?_)
  · rw [hlen] at hj ⊢
    rw [putL_at hi hj]
    unfold downOk
    rw [decide_eq_true_eq]
    unfold putAt
    split
    · have := (reach_of h (i := j) (by omega)).1
      unfold upR
      split <;> (try dsimp only) <;> omega
    split
    · dsimp only; omega
    split
    · have := (reach_of h hi).1
      unfold upR putR
      split <;> (try dsimp only) <;> omega
    · have := (reach_of h (i := j - 1) (by omega)).1
      unfold upR
      split <;> (try dsimp only) <;> omega
  · rw [hlen] at hj
    rw [putL_at hi hj]
    refine ranged_mk ?_
    unfold putAt
    split
    · have := (reach_of h (i := j) (by omega)).2
      unfold upR
      split <;> (try dsimp only) <;> omega
    split
    · have := (reach_of h hi).2
      dsimp only; omega
    split
    · unfold putR
      dsimp only; omega
    · have := (reach_of h (i := j - 1) (by omega)).2
      unfold upR
      split <;> (try dsimp only) <;> omega
theorem put_most (h : riverE (D : Int) l = 0) (hi : i < l.length) (hl : l.length ≤ 7) {t : Int} (ht : t ≤ (D : Int)) : mostE D (putL l D i) t = mostE D l t := by
  have F := fit_of h
  have hlen := putL_len (D := D) hi
  have hR : ∀ j, j < l.length + 1 → rivP (putL l D i) j = putAt (rivP l) D i j := fun j hj => putL_at hi hj
  have hrt := right_of F
  have hp := (reach_of h hi).2.1
  have E := early_put (riv_of F) hi hR (early_of F) fun d hd => ⟨hrt.ge i d hi hd, by
    have h1 := hrt.cap i d hi hd
    unfold capD at h1
    split at h1 <;> omega⟩
  rw [← hlen] at E
  rw [most_by (fit_of (put_river h hi hl)) E ht, hlen, brought_put (riv_of F) hi hR]
  rfl
theorem put_by (h : riverE (D : Int) l = 0) (hi : i < l.length) (hl : l.length ≤ 7) (n : Int) : byErr (D : Int) (putL l D i) n = byErr (D : Int) l n ∧ byE (D : Int) (putL l D i) n = byE (D : Int) l n := by
  have h2 := put_river h hi hl
  have hN : byN (D : Int) (putL l D i) n = byN (D : Int) l n := by
    unfold byN
    rw [Int.toNat_natCast]
    have key : ∀ m d, (∀ j, j < m → mostE D (putL l D i) ((d + j : Nat) : Int) = mostE D l ((d + j : Nat) : Int)) → byD (fun d => mostE D (putL l D i) (d : Int)) n m d = byD (fun d => mostE D l (d : Int)) n m d := by
      intro m
      induction m with
      | zero => intro d _; rfl
      | succ m ih =>
        intro d hh
        have h0 := hh 0 (by omega)
        rw [Nat.add_zero] at h0
        unfold byD
        rw [h0, ih (d + 1) fun j hj => by have := hh (j + 1) (by omega); rwa [show d + (j + 1) = d + 1 + j by omega] at this]
    exact key D 1 fun j hj => put_most h hi hl (by omega)
  have e1 : byErr (D : Int) (putL l D i) n = byErr (D : Int) l n := by
    unfold byErr
    rw [hN, h, h2]
  exact ⟨e1, by unfold byE; rw [e1, hN]⟩
end

/-! ### The walk -/
/-- What is there while two reaches are appended. -/
structure PutF (base Q PB : Nat) (D : Int) (v : Value) (n : Nat) (xs news : List Value) (ps : Array Value) (s8 s10 : Bool) (u : Value) (W : World) : Prop where
  q : W.heap[Q]? = some (.cells #[.int .i64 D, if s10 = true then u else v] 24 (0, 0))
  p : s8 = false → W.heap[PB]? = some (.cells ps 59 (0, 0))
  a : s8 = false → W.ownsRow base 59 8 v n xs
  b : s8 = true → (∃ g c, u = .slice (some ⟨g, 0, none⟩) (n + 2) c) ∧ W.ownsRow base 59 8 u (n + 2) (xs ++ news)
section
variable {base Q PB : Nat} {D : Int} {v : Value} {n : Nat} {xs news : List Value} {ps : Array Value} {s8 s10 : Bool} {u : Value} {W W' : World}
theorem PutF.start (h1 : W.heap[Q]? = some (.cells #[.int .i64 D, v] 24 (0, 0))) (h2 : W.heap[PB]? = some (.cells ps 59 (0, 0))) (h3 : W.ownsRow base 59 8 v n xs) : PutF base Q PB D v n xs news ps false false u W :=
  ⟨h1, fun _ => h2, fun _ => h3, fun h => by cases h⟩
theorem PutF.mono (h : PutF base Q PB D v n xs news ps s8 s10 u W) (hb : Below W.heap.size W W') : PutF base Q PB D v n xs news ps s8 s10 u W' :=
  ⟨heap_mono h.q hb, fun e => heap_mono (h.p e) hb, fun e => own_mono (h.a e) hb, fun e => ⟨(h.b e).1, own_mono (h.b e).2 hb⟩⟩
theorem PutF.app {v' : Value} (h : PutF base Q PB D v n xs news ps false false u W) (ho : W'.ownsRow base 59 8 v' (n + 2) (xs ++ news)) (hv : ∃ g c, v' = .slice (some ⟨g, 0, none⟩) (n + 2) c) (hg : W.grownBy W' v.ownBlock) : PutF base Q PB D v n xs news ps true false v' W' :=
  ⟨keep_other h.q (h.a rfl) (by decide) hg, (fun e => by cases e), (fun e => by cases e), fun _ => ⟨hv, ho⟩⟩
theorem PutF.put (h : PutF base Q PB D v n xs news ps true false u W) : PutF base Q PB D v n xs news ps true true u (W.setCell ⟨Q, 1, none⟩ u) :=
  ⟨by rw [heap_setCell_same _ _ _ _ _ _ h.q]; rfl, (fun e => by cases e), (fun e => by cases e), fun _ => ⟨(h.b rfl).1, own_set_other h.q (h.b rfl).2 (by decide) _ _⟩⟩
end
/-- Two reaches in a row. -/
def Row2 (W : World) (v : Value) (cs : Array Value) : Prop := ∃ g, v = .slice (some ⟨g, 0, none⟩) 2 2 ∧ W.heap[g]? = some (.cells cs 59 (0, 0))
theorem Row2.mono {W W' : World} {v : Value} {cs : Array Value} (h : Row2 W v cs) (hb : Below W.heap.size W W') : Row2 W' v cs := by
  obtain ⟨g, h1, h2⟩ := h
  exact ⟨g, h1, heap_mono h2 hb⟩
theorem news_at {W : World} {g : Nat} (cs : List Value) (h : W.heap[g]? = some (.cells cs.toArray 59 (0, 0))) : ∀ j u, cs[j]? = some u → W.cell? ((⟨g, 0, none⟩ : Addr).add j) = some u := fun j u hu => by
  rw [Addr.add_lit, Nat.zero_add, cell_of_heap h]
  simpa using hu
theorem put_sum {days : Int} {l : List Rch} (F : Fit days l) {j : Nat} (hj : j ≤ l.length) : 0 ≤ sumN (fun u => (rivP l u).logs) j ∧ sumN (fun u => (rivP l u).logs) j ≤ 80000 := by
  have h8 := F.n2
  have key : ∀ u, u < j → 0 ≤ (rivP l u).logs ∧ (rivP l u).logs ≤ 10000 := fun u hu => by
    obtain ⟨x, hx⟩ := get_at (l := l) (k := u) (by omega)
    rw [riv_at hx]
    exact F.logs u x hx
  have h1 := sumN_nonneg (f := fun u => (rivP l u).logs) (n := j) fun u hu => (key u hu).1
  have h2 := sumN_bd (f := fun u => (rivP l u).logs) (n := j) (c := 10000) fun u hu => (key u hu).2
  refine ⟨h1, ?_⟩
  have : (j : Int) * 10000 ≤ 8 * 10000 := Int.mul_le_mul_of_nonneg_right (by omega) (by decide)
  omega

set_option maxRecDepth 100000 in
set_option maxHeartbeats 16000000 in
theorem drivePut_any (days : Int) (l : List Rch) (sr : Value) (reach day : Int) (w : World) (hs : Rchs w sr l) (b1 : 0 ≤ reach ∧ reach < 256) (b2 : 0 ≤ day ∧ day < 256) :
    Calls Try.prog 16 #[.agg #[.int .i64 days, sr], .int .u8 reach, .int .u8 day] w fun e w' => e = .returned (.bool true) ∧ Below w.heap.size w w' := by
  obtain ⟨i59, hi, hi0, hi1, hi2⟩ := info_parts info59
  obtain ⟨A, c, rfl⟩ := hs.slice
  have HX0 := hid (World.alloc_heap_new w (.cells #[.int .i64 days, .slice A l.length c] 24))
  have HB0 := hid (bl_alloc (bl_refl w) (.cells #[.int .i64 days, .slice A l.length c] 24))
  have HS := hid hs
  clear hs
  go_enter Try.func16, Try.ntmps16
  go_upto_region 1 with (fail)
  obtain ⟨R, hR⟩ : ∃ R, w.heap.size = R := ⟨_, rfl⟩
  obtain ⟨w0, hw0⟩ : ∃ w0, w.alloc (.cells #[.int .i64 days, .slice A l.length c] 24) = w0 := ⟨_, rfl⟩
  rw [hR] at HX0 ⊢
  rw [hw0] at HX0 HB0 ⊢
  clear hw0 hR
  by_cases h0 : ¬ riverE days l = 0
  · have hd0 : decide (riverE days l = 0) = false := by simpa using h0
    have sX0 : w0.cell? ⟨R, 0, none⟩ = some (.int .i64 days) := cell_of_heap HX0.out
    have sX1 : w0.cell? ⟨R, 1, none⟩ = some (.slice A l.length c) := cell_of_heap HX0.out
    have slX := (Array.getElem?_eq_some_iff.1 HX0.out).1
    have hcall := fine_any days l _ w0 (HS.out.mono HB0.out)
    rw [hd0] at hcall
    clear hd0 h0
    go_wp2_with fail
    refine hcall.mono ?_
    rintro e w1 ⟨rfl, hb1⟩
    clear hcall sX0 sX1 slX
    have HX1 := hid (heap_mono HX0.out hb1)
    have HB1 := hid (bl_trans HB0.out hb1)
    clear HX0  hb1
    have hworks := works_any w1
    go_wp2_with fail
    refine hworks.mono ?_
    rintro e w2 ⟨rfl, hb2⟩
    clear hworks
    go_wp2
    go_ret
    exact ⟨rfl, bl_trans HB1.out hb2⟩
  replace h0 := Decidable.not_not.1 h0
  have hd0 : decide (riverE days l = 0) = true := by simpa using h0
  have F0 := fit_of h0
  obtain ⟨D, rfl⟩ : ∃ D : Nat, days = D := ⟨days.toNat, by have := F0.d1; omega⟩
  have hD1 := F0.d1
  have hD2 := F0.d2
  have hl1 := F0.n1
  have hl8 := F0.n2
  have HR0 := hid h0
  have HF := hid F0
  clear F0
  have sX0 : w0.cell? ⟨R, 0, none⟩ = some (.int .i64 (D : Int)) := cell_of_heap HX0.out
  have sX1 : w0.cell? ⟨R, 1, none⟩ = some (.slice A l.length c) := cell_of_heap HX0.out
  have slX := (Array.getElem?_eq_some_iff.1 HX0.out).1
  have hcall := fine_any (D : Int) l _ w0 (HS.out.mono HB0.out)
  rw [hd0] at hcall
  clear hd0 h0
  go_wp2_with fail
  refine hcall.mono ?_
  rintro e w1 ⟨rfl, hb1⟩
  clear hcall sX0 sX1 slX
  have HX1 := hid (heap_mono HX0.out hb1)
  have HB1 := hid (bl_trans HB0.out hb1)
  clear HX0  hb1
  by_cases hl7 : 8 ≤ l.length
  · have hy1 : decide ((8 : Int) ≤ (l.length : Int)) = true := by rw [decide_eq_true_eq]; omega
    have sX0 : w1.cell? ⟨R, 0, none⟩ = some (.int .i64 (D : Int)) := cell_of_heap HX1.out
    have sX1 : w1.cell? ⟨R, 1, none⟩ = some (.slice A l.length c) := cell_of_heap HX1.out
    have slX := (Array.getElem?_eq_some_iff.1 HX1.out).1
    have hworks := works_any w1
    go_wp2_with fail
    refine hworks.mono ?_
    rintro e w2 ⟨rfl, hb2⟩
    clear hworks
    go_wp2
    go_ret
    exact ⟨rfl, bl_trans HB1.out hb2⟩
  have hy1 : decide ((8 : Int) ≤ (l.length : Int)) = false := by rw [decide_eq_false_iff_not]; omega
  have hln : ((l.length : Int) == 0) = false := beq_eq_false_iff_ne.2 (by omega)
  have hln2 : ¬ ((l.length : Int) = 0) := by omega
  obtain ⟨i, hii, hil⟩ : ∃ i : Nat, reach % (l.length : Int) = i ∧ i < l.length := by
    have h1 := Int.emod_nonneg reach (b := (l.length : Int)) (by omega)
    have h2 := Int.emod_lt_of_pos reach (b := (l.length : Int)) (by omega)
    exact ⟨(reach % (l.length : Int)).toNat, by omega, by omega⟩
  have hrt : Int.tmod reach (l.length : Int) = (i : Int) := by rw [Int.tmod_eq_emod_of_nonneg (by omega), hii]
  have hrw1 : IntKind.i64.wrap reach = reach := IntWalk.i64_in _ (by omega)
  have hrw2 : IntKind.i64.wrap (i : Int) = i := IntWalk.i64_in _ (by omega)
  obtain ⟨b, off, c', e5, hlc, hb, hcell⟩ := HS.out.some hl1
  simp only [Value.slice.injEq, true_and] at e5
  obtain ⟨rfl, rfl⟩ := e5
  have HC := hid hcell
  clear hcell
  have sX0 : w1.cell? ⟨R, 0, none⟩ = some (.int .i64 (D : Int)) := cell_of_heap HX1.out
  have sX1 : w1.cell? ⟨R, 1, none⟩ = some (.slice (some ⟨b, off, none⟩) l.length c) := cell_of_heap HX1.out
  have slX := (Array.getElem?_eq_some_iff.1 HX1.out).1
  go_upto_region 6 with (fail)
  clear sX0 sX1 slX hy1 hln hln2 hii hrt hrw1 hrw2
  have hq := World.alloc_heap_new w1 (.cells #[.int .i64 (D : Int), .slice none 0 0] 24)
  have hba := bl_alloc (bl_refl w1) (.cells #[.int .i64 (D : Int), .slice none 0 0] 24)
  obtain ⟨Q, hQ⟩ : ∃ Q, w1.heap.size = Q := ⟨_, rfl⟩
  obtain ⟨w2, hw2⟩ : ∃ w2, w1.alloc (.cells #[.int .i64 (D : Int), .slice none 0 0] 24) = w2 := ⟨_, rfl⟩
  have hsz : w2.heap.size = Q + 1 := by rw [← hw2, World.size_alloc, hQ]
  rw [hQ] at hq ⊢
  rw [hw2] at hq hba ⊢
  clear hw2
  have HQ0 := hid hq
  have HBA := hid hba
  have HQS := hid hQ
  clear hq hba hQ
  go_wp2
  go_loopw [8, 10] (fun ps pk wr => ∃ (j N : Nat) (v : Value), j ≤ l.length ∧ (putTo l (D : Int) i j).length = N ∧ ps = .int .i64 (sumN (fun u => (rivP l u).logs) j) ∧ pk = .int .i64 (j : Int) ∧ wr.heap[Q]? = some (.cells #[.int .i64 (D : Int), v] 24 (0, 0)) ∧ wr.ownsRow (Q + 1) 59 8 v N (rcs (putTo l (D : Int) i j)) ∧ Below w1.heap.size w1 wr) (fun _ pk _ => l.length - (intOf pk).toNat)
  case atStart => exact ⟨0, 0, _, Nat.zero_le _, rfl, rfl, rfl, HQ0.out, World.ownsRow_nil _ _ _ _, HBA.out⟩
  case round =>
    obtain ⟨j, N, v, hj, hN, rfl, rfl, hq, hown, hB⟩ := hrel
    clear HQ0 HBA
    have hkb := heap_mono HX1.out hB
    have s0 : wr.cell? ⟨R, 1, none⟩ = some (.slice (some ⟨b, off, none⟩) l.length c) := cell_of_heap hkb
    have sl := (Array.getElem?_eq_some_iff.1 hkb).1
    clear hkb
    have hqs : Q < wr.heap.size := (Array.getElem?_eq_some_iff.1 hq).1
    have hSb := put_sum HF.out hj
    by_cases hlt : j < l.length
    · obtain ⟨x, hx⟩ := get_at hlt
      have hNb : N ≤ j + 1 := by rw [← hN, putTo_len]; split <;> omega
      have HS1 : Hid (sumN (fun u => (rivP l u).logs) (j + 1) = sumN (fun u => (rivP l u).logs) j + x.logs) := hid (by rw [sumN_succ, riv_at hx])
      have HPT : Hid (putTo l (D : Int) i (j + 1) = putTo l (D : Int) i j ++ if j = i then [{ x with down := (i : Int) + 1 }, putR D (upR i x).down] else [upR i x]) := hid (by rw [putTo, riv_at hx])
      have hSb2 := put_sum HF.out (show j + 1 ≤ l.length by omega)
      rw [HS1.out] at hSb2
      obtain ⟨S, hS⟩ : ∃ S, sumN (fun u => (rivP l u).logs) j = S := ⟨_, rfl⟩
      rw [hS] at hSb hSb2 HS1 ⊢
      clear hS
      have hB0 := bl_trans HB1.out hB
      obtain ⟨q0, q1, q2, q3, q4, q5, q6, q7⟩ := (HC.out j x hx).mono hB0
      have hjI : (j : Int) < (l.length : Int) := by omega
      have hbw : b < wr.heap.size := Nat.lt_of_lt_of_le hb hB0.size
      have hxd := HF.out.down j x hx
      have u1 : IntKind.i64.wrap (S + x.logs) = S + x.logs := IntWalk.i64_in _ (by omega)
      have u2 : IntKind.i64.wrap (x.down + 1) = x.down + 1 := IntWalk.i64_in _ (by omega)
      have u3 : IntKind.i64.wrap ((i : Int) + 1) = (i : Int) + 1 := IntWalk.i64_in _ (by omega)
      have HNN := hid hN
      have HOW := hid hown
      have HQQ := hid hq
      have HBB := hid hB
      clear hown hq hB hB0 hx hN
      by_cases hdn : (i : Int) < x.down
      · have d1 : decide ((i : Int) < x.down) = true := by simpa using hdn
        by_cases hji : j = i
        · have d2 : ((j : Int) == (i : Int)) = true := by rw [beq_iff_eq]; omega
          have HMT : Hid (putTo l (D : Int) i (j + 1) = putTo l (D : Int) i j ++ [{ x with down := (i : Int) + 1 }, putR (D : Int) (x.down + 1)]) := hid (by rw [HPT.out, if_pos hji, upR, if_pos hdn])
          clear hji hdn
          go_upto_region 16 with (fail)
          have hp := World.alloc_heap_new wr (.cells #[.int .i64 ((i : Int) + 1), .int .i64 x.pass, .int .i64 x.takes, .int .i64 x.lo, .int .i64 x.hi, .int .i64 x.every, .int .i64 x.logs, .int .i64 x.ready] 59)
          have ba := bl_alloc (bl_refl wr) (.cells #[.int .i64 ((i : Int) + 1), .int .i64 x.pass, .int .i64 x.takes, .int .i64 x.lo, .int .i64 x.hi, .int .i64 x.every, .int .i64 x.logs, .int .i64 x.ready] 59)
          have ho9 := HOW.out.alloc (.cells #[.int .i64 ((i : Int) + 1), .int .i64 x.pass, .int .i64 x.takes, .int .i64 x.lo, .int .i64 x.hi, .int .i64 x.every, .int .i64 x.logs, .int .i64 x.ready] 59)
          obtain ⟨PB, hPB⟩ : ∃ PB, wr.heap.size = PB := ⟨_, rfl⟩
          obtain ⟨wp, hwp⟩ : ∃ wp, wr.alloc (.cells #[.int .i64 ((i : Int) + 1), .int .i64 x.pass, .int .i64 x.takes, .int .i64 x.lo, .int .i64 x.hi, .int .i64 x.every, .int .i64 x.logs, .int .i64 x.ready] 59) = wp := ⟨_, rfl⟩
          rw [hPB] at hp ⊢
          rw [hwp] at hp ba ho9 ⊢
          have hq9 := heap_mono HQQ.out ba
          have HBP := hid (bl_trans HBB.out ba)
          clear hwp hPB q0 q1 q2 q3 q4 q5 q6 q7 s0 sl HOW HQQ HBB ba hbw hqs u1 u2 u3
          obtain ⟨news, hnw⟩ : ∃ news, rcs [{ x with down := (i : Int) + 1 }, putR (D : Int) (x.down + 1)] = news := ⟨_, rfl⟩
          have HNW := hid hnw
          obtain ⟨xs, hxs⟩ : ∃ xs, rcs (putTo l (D : Int) i j) = xs := ⟨_, rfl⟩
          rw [hxs] at ho9
          have HXS := hid hxs
          have HPF : ∀ u, PutF (Q + 1) Q PB (D : Int) v N xs news #[.int .i64 ((i : Int) + 1), .int .i64 x.pass, .int .i64 x.takes, .int .i64 x.lo, .int .i64 x.hi, .int .i64 x.every, .int .i64 x.logs, .int .i64 x.ready] false false u wp.drew := fun u => (PutF.start hq9 hp ho9).mono (bl_drew (bl_refl wp))
          clear hnw hxs hp hq9 ho9
          have HRA : Hid (∀ W, Calls Try.prog 53 #[.int .i64 (x.down + 1), .int .i64 1000, .int .i64 0, .int .i64 1, .int .i64 (D : Int), .int .i64 1, .int .i64 0, .int .i64 1] W fun e w' => e = .returned (.agg #[.int .i64 (x.down + 1), .int .i64 1000, .int .i64 0, .int .i64 1, .int .i64 (D : Int), .int .i64 1, .int .i64 0, .int .i64 1]) ∧ Below W.heap.size W w') := hid fun W => reach_any (putR (D : Int) (x.down + 1)) W
          refine wp_region_vals0 w1 HBP.out [73, 74, 75, 76, 77, 78, 79, 80, 81, 82] (fun seen u W => (seen 0 = true → u 73 = .pointer (some ⟨Q, 1, none⟩)) ∧
            (seen 1 = true → u 74 = v) ∧
            (seen 2 = true → u 75 = .agg #[.int .i64 ((i : Int) + 1), .int .i64 x.pass, .int .i64 x.takes, .int .i64 x.lo, .int .i64 x.hi, .int .i64 x.every, .int .i64 x.logs, .int .i64 x.ready]) ∧
            (seen 3 = true → u 76 = .int .i64 (x.down + 1)) ∧
            (seen 4 = true → u 77 = .pointer (some ⟨R, 0, none⟩)) ∧
            (seen 5 = true → u 78 = .int .i64 ((D : Int))) ∧
            (seen 6 = true → u 79 = .agg #[.int .i64 (x.down + 1), .int .i64 1000, .int .i64 0, .int .i64 1, .int .i64 (D : Int), .int .i64 1, .int .i64 0, .int .i64 1]) ∧
            (seen 7 = true → (seen 8 = false → Row2 W (u 80) #[.int .i64 ((i : Int) + 1), .int .i64 x.pass, .int .i64 x.takes, .int .i64 x.lo, .int .i64 x.hi, .int .i64 x.every, .int .i64 x.logs, .int .i64 x.ready, .int .i64 (x.down + 1), .int .i64 1000, .int .i64 0, .int .i64 1, .int .i64 (D : Int), .int .i64 1, .int .i64 0, .int .i64 1])) ∧
            (seen 8 = true → True) ∧
            (seen 9 = true → u 82 = .pointer (some ⟨Q, 1, none⟩)) ∧
            (seen 10 = true → True) ∧
            (seen 10 = true → seen 8 = true) ∧
            (seen 8 = true → seen 1 = true) ∧
            (seen 8 = true → seen 2 = true) ∧
            (seen 7 = true → seen 2 = true) ∧
            PutF (Q + 1) Q PB (D : Int) v N xs news #[.int .i64 ((i : Int) + 1), .int .i64 x.pass, .int .i64 x.takes, .int .i64 x.lo, .int .i64 x.hi, .int .i64 x.every, .int .i64 x.logs, .int .i64 x.ready] (seen 8) (seen 10) (u 81) W)
            (by kernel_rfl) (by kernel_rfl) (by kernel_rfl) (by simp) ⟨by simp [valsOf], by simp [valsOf], by simp [valsOf], by simp [valsOf], by simp [valsOf], by simp [valsOf], by simp [valsOf], by simp [valsOf], by simp [valsOf], by simp [valsOf], by simp [valsOf], by simp [valsOf], by simp [valsOf], by simp [valsOf], by simp [valsOf], HPF _⟩ ?_ ?_
          · intro i o ho seen a' w9 hb9 ⟨F0, F1, F2, F3, F4, F5, F6, F7, F8, F9, F10, F11, F12, F13, F14, F15⟩ hv hsi hdep
            have hbx := heap_mono HX1.out hb9
            have c0 : w9.cell? ⟨R, 0, none⟩ = some (.int .i64 (D : Int)) := cell_of_heap hbx
            have hXl := (Array.getElem?_eq_some_iff.1 hbx).1
            have ql := (Array.getElem?_eq_some_iff.1 F15.q).1
            rcases i with _ | _ | _ | _ | _ | _ | _ | _ | _ | _ | _ | i <;> simp only [List.getElem?_cons_zero, List.getElem?_cons_succ, List.getElem?_nil, Option.some.injEq, reduceCtorEq] at ho <;> subst ho
            · have x9 := val_at (hv 9 (by simp))
              simp [valsOf] at x9
              refine wp_value (.pointer (some ⟨Q, 1, none⟩)) (w' := w9) (by simp [execOp, x9, go_sem, c0, hXl, ql]) ⟨_, rfl, hb9, ?_⟩
              exact ⟨by simp, by simpa using F1, by simpa using F2, by simpa using F3, by simpa using F4, by simpa using F5, by simpa using F6, by simpa using F7, by simpa using F8, by simpa using F9, by simpa using F10, by simpa using F11, by simpa using F12, by simpa using F13, by simpa using F14, by simpa using F15⟩
            · have d0 := hdep ⟨0, .data⟩ (by simp) rfl
              have e0 := val_at (F0 d0)
              have hs8 : seen 8 = false := by { cases hq : seen 8 with | false => rfl | true => exact absurd (F12 hq) (by rw [hsi]; decide) }
              have hs10 : seen 10 = false := by { cases hq : seen 10 with | false => rfl | true => exact absurd ((fun h => F12 (F11 h)) hq) (by rw [hsi]; decide) }
              have hq := F15.q
              rw [hs10] at hq
              have cz : w9.cell? ⟨Q, 1, none⟩ = some v := cell_of_heap hq
              refine wp_value v (w' := w9) (by simp [execOp, e0, go_sem, cz, ql]) ⟨_, rfl, hb9, ?_⟩
              exact ⟨by simpa using F0, by simp, by simpa using F2, by simpa using F3, by simpa using F4, by simpa using F5, by simpa using F6, by simpa using F7, by simpa using F8, by simpa using F9, by simpa using F10, by simpa using F11, by simp, by simpa using F13, by simpa using F14, by simpa using F15⟩
            · have x11 := val_at (hv 11 (by simp))
              simp [valsOf] at x11
              have hs8 : seen 8 = false := by { cases hq : seen 8 with | false => rfl | true => exact absurd (F13 hq) (by rw [hsi]; decide) }
              have hp := F15.p hs8
              have p0 := cell_of_heap (i := 0) hp
              have p1 := cell_of_heap (i := 1) hp
              have p2 := cell_of_heap (i := 2) hp
              have p3 := cell_of_heap (i := 3) hp
              have p4 := cell_of_heap (i := 4) hp
              have p5 := cell_of_heap (i := 5) hp
              have p6 := cell_of_heap (i := 6) hp
              have p7 := cell_of_heap (i := 7) hp
              have pl := (Array.getElem?_eq_some_iff.1 hp).1
              refine wp_value (.agg #[.int .i64 ((i : Int) + 1), .int .i64 x.pass, .int .i64 x.takes, .int .i64 x.lo, .int .i64 x.hi, .int .i64 x.every, .int .i64 x.logs, .int .i64 x.ready]) (w' := w9) (by simp [execOp, x11, go_sem, p0, p1, p2, p3, p4, p5, p6, p7, pl]) ⟨_, rfl, hb9, ?_⟩
              exact ⟨by simpa using F0, by simpa using F1, by simp, by simpa using F3, by simpa using F4, by simpa using F5, by simpa using F6, by simpa using F7, by simpa using F8, by simpa using F9, by simpa using F10, by simpa using F11, by simpa using F12, by simp, by simp, by simpa using F15⟩
            · have x12 := val_at (hv 12 (by simp))
              simp [valsOf] at x12
              refine wp_value (.int .i64 (x.down + 1)) (w' := w9) (by simp [execOp, x12, go_sem, c0, hXl, ql]) ⟨_, rfl, hb9, ?_⟩
              exact ⟨by simpa using F0, by simpa using F1, by simpa using F2, by simp, by simpa using F4, by simpa using F5, by simpa using F6, by simpa using F7, by simpa using F8, by simpa using F9, by simpa using F10, by simpa using F11, by simpa using F12, by simpa using F13, by simpa using F14, by simpa using F15⟩
            · have x3 := val_at (hv 3 (by simp))
              simp [valsOf] at x3
              refine wp_value (.pointer (some ⟨R, 0, none⟩)) (w' := w9) (by simp [execOp, x3, go_sem, c0, hXl, ql]) ⟨_, rfl, hb9, ?_⟩
              exact ⟨by simpa using F0, by simpa using F1, by simpa using F2, by simpa using F3, by simp, by simpa using F5, by simpa using F6, by simpa using F7, by simpa using F8, by simpa using F9, by simpa using F10, by simpa using F11, by simpa using F12, by simpa using F13, by simpa using F14, by simpa using F15⟩
            · have d4 := hdep ⟨4, .data⟩ (by simp) rfl
              have e4 := val_at (F4 d4)
              refine wp_value (.int .i64 ((D : Int))) (w' := w9) (by simp [execOp, e4, go_sem, c0, hXl, ql]) ⟨_, rfl, hb9, ?_⟩
              exact ⟨by simpa using F0, by simpa using F1, by simpa using F2, by simpa using F3, by simpa using F4, by simp, by simpa using F6, by simpa using F7, by simpa using F8, by simpa using F9, by simpa using F10, by simpa using F11, by simpa using F12, by simpa using F13, by simpa using F14, by simpa using F15⟩
            · have d3 := hdep ⟨3, .data⟩ (by simp) rfl
              have e3 := val_at (F3 d3)
              have d5 := hdep ⟨5, .data⟩ (by simp) rfl
              have e5 := val_at (F5 d5)
              refine wp_calls (f := 53) (args := #[.int .i64 (x.down + 1), .int .i64 1000, .int .i64 0, .int .i64 1, .int .i64 (D : Int), .int .i64 1, .int .i64 0, .int .i64 1]) (w' := w9) (by simp [execOp, e3, e5, go_sem, valsOf]) (HRA.out w9) ?_
              rintro e w10 ⟨rfl, hg⟩
              refine ⟨_, rfl, _, rfl, bl_trans hb9 hg, ?_⟩
              exact ⟨by simpa using F0, by simpa using F1, by simpa using F2, by simpa using F3, by simpa using F4, by simpa using F5, by simp, by simpa using fun h q => (F7 h q).mono hg, by simpa using F8, by simpa using F9, by simpa using F10, by simpa using F11, by simpa using F12, by simpa using F13, by simpa using F14, by simpa using F15.mono hg⟩
            · have d2 := hdep ⟨2, .data⟩ (by simp) rfl
              have e2 := val_at (F2 d2)
              have d6 := hdep ⟨6, .data⟩ (by simp) rfl
              have e6 := val_at (F6 d6)
              have hg : Below w9.heap.size w9 (w9.alloc (.cells #[.int .i64 ((i : Int) + 1), .int .i64 x.pass, .int .i64 x.takes, .int .i64 x.lo, .int .i64 x.hi, .int .i64 x.every, .int .i64 x.logs, .int .i64 x.ready, .int .i64 (x.down + 1), .int .i64 1000, .int .i64 0, .int .i64 1, .int .i64 (D : Int), .int .i64 1, .int .i64 0, .int .i64 1] 59)) := bl_alloc (bl_refl _) _
              refine wp_value (.slice (some ⟨w9.heap.size, 0, none⟩) 2 2) (w' := w9.alloc (.cells #[.int .i64 ((i : Int) + 1), .int .i64 x.pass, .int .i64 x.takes, .int .i64 x.lo, .int .i64 x.hi, .int .i64 x.every, .int .i64 x.logs, .int .i64 x.ready, .int .i64 (x.down + 1), .int .i64 1000, .int .i64 0, .int .i64 1, .int .i64 (D : Int), .int .i64 1, .int .i64 0, .int .i64 1] 59)) (by simp [execOp, e2, e6, go_sem]) ⟨_, rfl, bl_trans hb9 hg, ?_⟩
              have hn : Row2 (w9.alloc (.cells #[.int .i64 ((i : Int) + 1), .int .i64 x.pass, .int .i64 x.takes, .int .i64 x.lo, .int .i64 x.hi, .int .i64 x.every, .int .i64 x.logs, .int .i64 x.ready, .int .i64 (x.down + 1), .int .i64 1000, .int .i64 0, .int .i64 1, .int .i64 (D : Int), .int .i64 1, .int .i64 0, .int .i64 1] 59)) (.slice (some ⟨w9.heap.size, 0, none⟩) 2 2) #[.int .i64 ((i : Int) + 1), .int .i64 x.pass, .int .i64 x.takes, .int .i64 x.lo, .int .i64 x.hi, .int .i64 x.every, .int .i64 x.logs, .int .i64 x.ready, .int .i64 (x.down + 1), .int .i64 1000, .int .i64 0, .int .i64 1, .int .i64 (D : Int), .int .i64 1, .int .i64 0, .int .i64 1] := ⟨_, rfl, World.alloc_heap_new _ _⟩
              exact ⟨by simpa using F0, by simpa using F1, by simpa using F2, by simpa using F3, by simpa using F4, by simpa using F5, by simpa using F6, by simpa using fun _ => hn, by simpa using F8, by simpa using F9, by simpa using F10, by simpa using F11, by simpa using F12, by simpa using F13, by simpa using d2, by simpa using F15.mono hg⟩
            · have d1 := hdep ⟨1, .data⟩ (by simp) rfl
              have e1 := val_at (F1 d1)
              have d7 := hdep ⟨7, .data⟩ (by simp) rfl
              have hs10 : seen 10 = false := by { cases hq : seen 10 with | false => rfl | true => exact absurd (F11 hq) (by rw [hsi]; decide) }
              obtain ⟨g7, r7, hh7⟩ := F7 d7 hsi
              have e7 := val_at r7
              have F15' := F15
              rw [hsi, hs10] at F15'
              have own9 := F15'.a rfl
              have hnews : ∀ jj u, (rcs [{ x with down := (i : Int) + 1 }, putR (D : Int) (x.down + 1)])[jj]? = some u → w9.cell? ((⟨g7, 0, none⟩ : Addr).add jj) = some u := news_at (rcs [{ x with down := (i : Int) + 1 }, putR (D : Int) (x.down + 1)]) hh7
              rw [HNW.out] at hnews
              refine wp_append_own w9 _ _ 22 rfl (Q + 1) 59 i59 _ 8 64 Try.underlying22 hi hi0 hi1 hi2 rfl (by decide) v N xs (by simp [go_sem, e1]) own9 ⟨g7, 0, none⟩ 2 2 news (by simp [go_sem, e7]) (by rw [← HNW.out, rcs_len]; rfl) hnews (by rw [← HNW.out]; exact rcs_one _) (by unfold maxLen; omega) (by omega) (by omega) ?_
              intro v2 w10 hown2 hgrow hnil
              have hsl := own_some hown2
              have hb10 := bl_grown hb9 own9 (by have := HQS.out; omega) hgrow
              have hm := F15'.app hown2 hsl hgrow
              refine ⟨_, rfl, hb10, ?_⟩
              exact ⟨by simpa using F0, by simpa using F1, by simpa using F2, by simpa using F3, by simpa using F4, by simpa using F5, by simpa using F6, by simp, by simp, by simpa using F9, by simpa using F10, by simp, by simpa using d1, by simpa using F14 d7, by simpa using F14, by simpa [hs10] using hm⟩
            · have x9 := val_at (hv 9 (by simp))
              simp [valsOf] at x9
              refine wp_value (.pointer (some ⟨Q, 1, none⟩)) (w' := w9) (by simp [execOp, x9, go_sem, c0, hXl, ql]) ⟨_, rfl, hb9, ?_⟩
              exact ⟨by simpa using F0, by simpa using F1, by simpa using F2, by simpa using F3, by simpa using F4, by simpa using F5, by simpa using F6, by simpa using F7, by simpa using F8, by simp, by simpa using F10, by simpa using F11, by simpa using F12, by simpa using F13, by simpa using F14, by simpa using F15⟩
            · have d9 := hdep ⟨9, .data⟩ (by simp) rfl
              have e9 := val_at (F9 d9)
              have d8 := hdep ⟨8, .data⟩ (by simp) rfl
              obtain ⟨⟨g8, c8, hu⟩, ho8⟩ := F15.b d8
              have e8 := val_at hu
              have F15' := F15
              rw [hsi, d8] at F15'
              have hq9 := F15'.q
              have cz : w9.cell? ⟨Q, 1, none⟩ = some v := cell_of_heap hq9
              have fz : w9.frozen? ⟨Q, 1, none⟩ = false := frozen_of_heap hq9
              have hm := F15'.put
              have hb10 := bl_set hb9 (valsOf a' 81) (b := Q) (o := 1) (by have := HQS.out; omega)
              rw [hu] at hm hb10
              refine wp_effect (w' := w9.setCell ⟨Q, 1, none⟩ (.slice (some ⟨g8, 0, none⟩) (N + 2) c8)) (by simp [execOp, e9, e8, go_sem, cz, fz, ql]) ⟨_, rfl, hb10, ?_⟩
              exact ⟨by simpa using F0, by simpa using F1, by simpa using F2, by simpa using F3, by simpa using F4, by simpa using F5, by simpa using F6, by simp [d8], by simpa using F8, by simpa using F9, by simp, by simpa using d8, by simpa using F12, by simpa using F13, by simpa using F14, by simpa [d8, hu] using hm⟩
          intro u w5 hb5 seen hall ⟨F0, F1, F2, F3, F4, F5, F6, F7, F8, F9, F10, F11, F12, F13, F14, F15⟩
          replace F0 := F0 (hall 0 (by decide))
          replace F1 := F1 (hall 1 (by decide))
          replace F2 := F2 (hall 2 (by decide))
          replace F3 := F3 (hall 3 (by decide))
          replace F4 := F4 (hall 4 (by decide))
          replace F5 := F5 (hall 5 (by decide))
          replace F6 := F6 (hall 6 (by decide))
          replace F7 := F7 (hall 7 (by decide))
          replace F8 := F8 (hall 8 (by decide))
          replace F9 := F9 (hall 9 (by decide))
          replace F10 := F10 (hall 10 (by decide))
          rw [hall 8 (by decide), hall 10 (by decide)] at F15
          obtain ⟨⟨g5, c5, hu⟩, ho5⟩ := F15.b rfl
          have hq5 := F15.q
          rw [if_pos rfl, hu] at hq5
          rw [hu] at ho5
          rw [← HNW.out, ← HXS.out, show rcs (putTo l (D : Int) i j) ++ rcs [{ x with down := (i : Int) + 1 }, putR (D : Int) (x.down + 1)] = rcs (putTo l (D : Int) i j ++ [{ x with down := (i : Int) + 1 }, putR (D : Int) (x.down + 1)]) from (List.flatMap_append ..).symm, ← HMT.out] at ho5
          have HO3 := hid ho5
          have HQ10 := hid hq5
          have HB10 := hid hb5
          have HNX : Hid ((putTo l (D : Int) i (j + 1)).length = N + 2) := hid (by rw [HMT.out, List.length_append, HNN.out]; rfl)
          simp only [setAll]
          clear F0 F1 F2 F3 F4 F5 F6 F7 F8 F9 F10 F11 F12 F13 F14 F15 hall seen hu ho5 hq5 hb5 HRA HPF HNW HXS HBP
          go_wp2
          go_roundw
          case rel => exact ⟨j + 1, N + 2, _, by omega, HNX.out, by rw [HS1.out], by go_num, HQ10.out, HO3.out, HB10.out⟩
          case measure => simp [intOf]; omega
        · have d2 : ((j : Int) == (i : Int)) = false := by rw [beq_eq_false_iff_ne]; omega
          have HMT : Hid (putTo l (D : Int) i (j + 1) = putTo l (D : Int) i j ++ [{ x with down := x.down + 1 }]) := hid (by rw [HPT.out, if_neg hji, upR, if_pos hdn])
          clear hji hdn
          go_upto_region 17 with (fail)
          have hp := World.alloc_heap_new wr (.cells #[.int .i64 (x.down + 1), .int .i64 x.pass, .int .i64 x.takes, .int .i64 x.lo, .int .i64 x.hi, .int .i64 x.every, .int .i64 x.logs, .int .i64 x.ready] 59)
          have ba := bl_alloc (bl_refl wr) (.cells #[.int .i64 (x.down + 1), .int .i64 x.pass, .int .i64 x.takes, .int .i64 x.lo, .int .i64 x.hi, .int .i64 x.every, .int .i64 x.logs, .int .i64 x.ready] 59)
          have ho9 := HOW.out.alloc (.cells #[.int .i64 (x.down + 1), .int .i64 x.pass, .int .i64 x.takes, .int .i64 x.lo, .int .i64 x.hi, .int .i64 x.every, .int .i64 x.logs, .int .i64 x.ready] 59)
          obtain ⟨PB, hPB⟩ : ∃ PB, wr.heap.size = PB := ⟨_, rfl⟩
          obtain ⟨w9, hw9⟩ : ∃ w9, wr.alloc (.cells #[.int .i64 (x.down + 1), .int .i64 x.pass, .int .i64 x.takes, .int .i64 x.lo, .int .i64 x.hi, .int .i64 x.every, .int .i64 x.logs, .int .i64 x.ready] 59) = w9 := ⟨_, rfl⟩
          rw [hPB] at hp ⊢
          rw [hw9] at hp ba ho9 ⊢
          have hq9 := heap_mono HQQ.out ba
          have HB9 := hid (bl_trans HBB.out ba)
          clear hw9 hPB q0 q1 q2 q3 q4 q5 q6 q7 s0 sl HOW HQQ HBB ba hbw hqs u1 u2 u3
          have p0 := cell_of_heap (i := 0) hp
          have p1 := cell_of_heap (i := 1) hp
          have p2 := cell_of_heap (i := 2) hp
          have p3 := cell_of_heap (i := 3) hp
          have p4 := cell_of_heap (i := 4) hp
          have p5 := cell_of_heap (i := 5) hp
          have p6 := cell_of_heap (i := 6) hp
          have p7 := cell_of_heap (i := 7) hp
          have pl := (Array.getElem?_eq_some_iff.1 hp).1
          have z1 : w9.cell? ⟨Q, 1, none⟩ = some v := cell_of_heap hq9
          have zl := (Array.getElem?_eq_some_iff.1 hq9).1
          have own2 := ho9.alloc (.cells #[.int .i64 (x.down + 1), .int .i64 x.pass, .int .i64 x.takes, .int .i64 x.lo, .int .i64 x.hi, .int .i64 x.every, .int .i64 x.logs, .int .i64 x.ready] 59)
          have HQ9 := hid (heap_mono hq9 (bl_alloc (bl_refl w9) (.cells #[.int .i64 (x.down + 1), .int .i64 x.pass, .int .i64 x.takes, .int .i64 x.lo, .int .i64 x.hi, .int .i64 x.every, .int .i64 x.logs, .int .i64 x.ready] 59)))
          have hnews : ∀ jj u, (rc ({ x with down := x.down + 1 }))[jj]? = some u → (w9.alloc (.cells #[.int .i64 (x.down + 1), .int .i64 x.pass, .int .i64 x.takes, .int .i64 x.lo, .int .i64 x.hi, .int .i64 x.every, .int .i64 x.logs, .int .i64 x.ready] 59)).cell? ((⟨w9.heap.size, 0, none⟩ : Addr).add jj) = some u := news_new w9 (rc ({ x with down := x.down + 1 })) 59
          clear hp hq9 ho9
          go_wp2_with (at_builtin; refine wpList_append_own _ rfl _ _ 22 rfl (Q + 1) 59 i59 _ 8 64 Try.underlying22 hi hi0 hi1 hi2 rfl (by decide) v N _ rfl own2 ⟨w9.heap.size, 0, none⟩ 1 1 (rc ({ x with down := x.down + 1 })) rfl rfl hnews (rc_one _) (by unfold maxLen; omega) (by omega) (by simp; omega) ?_; intro v2 w10 hown2 hgrow hnil; obtain ⟨g5, c5, rfl⟩ := own_some hown2; have hq10 := keep_other HQ9.out own2 (by decide) hgrow; have HB10 := hid (bl_grown (bl_alloc HB9.out _) own2 (by have := HQS.out; omega) hgrow); have y1 : w10.cell? ⟨Q, 1, none⟩ = some v := cell_of_heap hq10; have y2 : w10.frozen? ⟨Q, 1, none⟩ = false := frozen_of_heap hq10; have y3 : Q < w10.heap.size := (Array.getElem?_eq_some_iff.1 hq10).1; have HO10 := hid hown2; have HQ10 := hid hq10; clear hown2 hgrow hnil hq10 own2 hnews HQ9 p0 p1 p2 p3 p4 p5 p6 p7 pl z1 zl)
          have hown3 := HO10.out
          rw [← rcs_snoc, ← HMT.out] at hown3
          have HO3 := hid hown3
          clear hown3 HO10
          have HNX : Hid ((putTo l (D : Int) i (j + 1)).length = N + 1) := hid (by rw [HMT.out, List.length_append, HNN.out]; rfl)
          go_roundw
          case rel => exact ⟨j + 1, N + 1, _, by omega, HNX.out, by rw [HS1.out], by go_num, by rw [heap_setCell_same _ _ _ _ _ _ HQ10.out]; rfl, own_set_other HQ10.out HO3.out (by decide) _ _, bl_set HB10.out _ (by have := HQS.out; omega)⟩
          case measure => simp [intOf]; omega
      · have d1 : decide ((i : Int) < x.down) = false := by simpa using hdn
        by_cases hji : j = i
        · have d2 : ((j : Int) == (i : Int)) = true := by rw [beq_iff_eq]; omega
          have HMT : Hid (putTo l (D : Int) i (j + 1) = putTo l (D : Int) i j ++ [{ x with down := (i : Int) + 1 }, putR (D : Int) x.down]) := hid (by rw [HPT.out, if_pos hji, upR, if_neg hdn])
          clear hji hdn
          go_upto_region 16 with (fail)
          have hp := World.alloc_heap_new wr (.cells #[.int .i64 ((i : Int) + 1), .int .i64 x.pass, .int .i64 x.takes, .int .i64 x.lo, .int .i64 x.hi, .int .i64 x.every, .int .i64 x.logs, .int .i64 x.ready] 59)
          have ba := bl_alloc (bl_refl wr) (.cells #[.int .i64 ((i : Int) + 1), .int .i64 x.pass, .int .i64 x.takes, .int .i64 x.lo, .int .i64 x.hi, .int .i64 x.every, .int .i64 x.logs, .int .i64 x.ready] 59)
          have ho9 := HOW.out.alloc (.cells #[.int .i64 ((i : Int) + 1), .int .i64 x.pass, .int .i64 x.takes, .int .i64 x.lo, .int .i64 x.hi, .int .i64 x.every, .int .i64 x.logs, .int .i64 x.ready] 59)
          obtain ⟨PB, hPB⟩ : ∃ PB, wr.heap.size = PB := ⟨_, rfl⟩
          obtain ⟨wp, hwp⟩ : ∃ wp, wr.alloc (.cells #[.int .i64 ((i : Int) + 1), .int .i64 x.pass, .int .i64 x.takes, .int .i64 x.lo, .int .i64 x.hi, .int .i64 x.every, .int .i64 x.logs, .int .i64 x.ready] 59) = wp := ⟨_, rfl⟩
          rw [hPB] at hp ⊢
          rw [hwp] at hp ba ho9 ⊢
          have hq9 := heap_mono HQQ.out ba
          have HBP := hid (bl_trans HBB.out ba)
          clear hwp hPB q0 q1 q2 q3 q4 q5 q6 q7 s0 sl HOW HQQ HBB ba hbw hqs u1 u2 u3
          obtain ⟨news, hnw⟩ : ∃ news, rcs [{ x with down := (i : Int) + 1 }, putR (D : Int) x.down] = news := ⟨_, rfl⟩
          have HNW := hid hnw
          obtain ⟨xs, hxs⟩ : ∃ xs, rcs (putTo l (D : Int) i j) = xs := ⟨_, rfl⟩
          rw [hxs] at ho9
          have HXS := hid hxs
          have HPF : ∀ u, PutF (Q + 1) Q PB (D : Int) v N xs news #[.int .i64 ((i : Int) + 1), .int .i64 x.pass, .int .i64 x.takes, .int .i64 x.lo, .int .i64 x.hi, .int .i64 x.every, .int .i64 x.logs, .int .i64 x.ready] false false u wp.drew := fun u => (PutF.start hq9 hp ho9).mono (bl_drew (bl_refl wp))
          clear hnw hxs hp hq9 ho9
          have HRA : Hid (∀ W, Calls Try.prog 53 #[.int .i64 x.down, .int .i64 1000, .int .i64 0, .int .i64 1, .int .i64 (D : Int), .int .i64 1, .int .i64 0, .int .i64 1] W fun e w' => e = .returned (.agg #[.int .i64 x.down, .int .i64 1000, .int .i64 0, .int .i64 1, .int .i64 (D : Int), .int .i64 1, .int .i64 0, .int .i64 1]) ∧ Below W.heap.size W w') := hid fun W => reach_any (putR (D : Int) x.down) W
          refine wp_region_vals0 w1 HBP.out [73, 74, 75, 76, 77, 78, 79, 80, 81, 82] (fun seen u W => (seen 0 = true → u 73 = .pointer (some ⟨Q, 1, none⟩)) ∧
            (seen 1 = true → u 74 = v) ∧
            (seen 2 = true → u 75 = .agg #[.int .i64 ((i : Int) + 1), .int .i64 x.pass, .int .i64 x.takes, .int .i64 x.lo, .int .i64 x.hi, .int .i64 x.every, .int .i64 x.logs, .int .i64 x.ready]) ∧
            (seen 3 = true → u 76 = .int .i64 x.down) ∧
            (seen 4 = true → u 77 = .pointer (some ⟨R, 0, none⟩)) ∧
            (seen 5 = true → u 78 = .int .i64 ((D : Int))) ∧
            (seen 6 = true → u 79 = .agg #[.int .i64 x.down, .int .i64 1000, .int .i64 0, .int .i64 1, .int .i64 (D : Int), .int .i64 1, .int .i64 0, .int .i64 1]) ∧
            (seen 7 = true → (seen 8 = false → Row2 W (u 80) #[.int .i64 ((i : Int) + 1), .int .i64 x.pass, .int .i64 x.takes, .int .i64 x.lo, .int .i64 x.hi, .int .i64 x.every, .int .i64 x.logs, .int .i64 x.ready, .int .i64 x.down, .int .i64 1000, .int .i64 0, .int .i64 1, .int .i64 (D : Int), .int .i64 1, .int .i64 0, .int .i64 1])) ∧
            (seen 8 = true → True) ∧
            (seen 9 = true → u 82 = .pointer (some ⟨Q, 1, none⟩)) ∧
            (seen 10 = true → True) ∧
            (seen 10 = true → seen 8 = true) ∧
            (seen 8 = true → seen 1 = true) ∧
            (seen 8 = true → seen 2 = true) ∧
            (seen 7 = true → seen 2 = true) ∧
            PutF (Q + 1) Q PB (D : Int) v N xs news #[.int .i64 ((i : Int) + 1), .int .i64 x.pass, .int .i64 x.takes, .int .i64 x.lo, .int .i64 x.hi, .int .i64 x.every, .int .i64 x.logs, .int .i64 x.ready] (seen 8) (seen 10) (u 81) W)
            (by kernel_rfl) (by kernel_rfl) (by kernel_rfl) (by simp) ⟨by simp [valsOf], by simp [valsOf], by simp [valsOf], by simp [valsOf], by simp [valsOf], by simp [valsOf], by simp [valsOf], by simp [valsOf], by simp [valsOf], by simp [valsOf], by simp [valsOf], by simp [valsOf], by simp [valsOf], by simp [valsOf], by simp [valsOf], HPF _⟩ ?_ ?_
          · intro i o ho seen a' w9 hb9 ⟨F0, F1, F2, F3, F4, F5, F6, F7, F8, F9, F10, F11, F12, F13, F14, F15⟩ hv hsi hdep
            have hbx := heap_mono HX1.out hb9
            have c0 : w9.cell? ⟨R, 0, none⟩ = some (.int .i64 (D : Int)) := cell_of_heap hbx
            have hXl := (Array.getElem?_eq_some_iff.1 hbx).1
            have ql := (Array.getElem?_eq_some_iff.1 F15.q).1
            rcases i with _ | _ | _ | _ | _ | _ | _ | _ | _ | _ | _ | i <;> simp only [List.getElem?_cons_zero, List.getElem?_cons_succ, List.getElem?_nil, Option.some.injEq, reduceCtorEq] at ho <;> subst ho
            · have x9 := val_at (hv 9 (by simp))
              simp [valsOf] at x9
              refine wp_value (.pointer (some ⟨Q, 1, none⟩)) (w' := w9) (by simp [execOp, x9, go_sem, c0, hXl, ql]) ⟨_, rfl, hb9, ?_⟩
              exact ⟨by simp, by simpa using F1, by simpa using F2, by simpa using F3, by simpa using F4, by simpa using F5, by simpa using F6, by simpa using F7, by simpa using F8, by simpa using F9, by simpa using F10, by simpa using F11, by simpa using F12, by simpa using F13, by simpa using F14, by simpa using F15⟩
            · have d0 := hdep ⟨0, .data⟩ (by simp) rfl
              have e0 := val_at (F0 d0)
              have hs8 : seen 8 = false := by { cases hq : seen 8 with | false => rfl | true => exact absurd (F12 hq) (by rw [hsi]; decide) }
              have hs10 : seen 10 = false := by { cases hq : seen 10 with | false => rfl | true => exact absurd ((fun h => F12 (F11 h)) hq) (by rw [hsi]; decide) }
              have hq := F15.q
              rw [hs10] at hq
              have cz : w9.cell? ⟨Q, 1, none⟩ = some v := cell_of_heap hq
              refine wp_value v (w' := w9) (by simp [execOp, e0, go_sem, cz, ql]) ⟨_, rfl, hb9, ?_⟩
              exact ⟨by simpa using F0, by simp, by simpa using F2, by simpa using F3, by simpa using F4, by simpa using F5, by simpa using F6, by simpa using F7, by simpa using F8, by simpa using F9, by simpa using F10, by simpa using F11, by simp, by simpa using F13, by simpa using F14, by simpa using F15⟩
            · have x11 := val_at (hv 11 (by simp))
              simp [valsOf] at x11
              have hs8 : seen 8 = false := by { cases hq : seen 8 with | false => rfl | true => exact absurd (F13 hq) (by rw [hsi]; decide) }
              have hp := F15.p hs8
              have p0 := cell_of_heap (i := 0) hp
              have p1 := cell_of_heap (i := 1) hp
              have p2 := cell_of_heap (i := 2) hp
              have p3 := cell_of_heap (i := 3) hp
              have p4 := cell_of_heap (i := 4) hp
              have p5 := cell_of_heap (i := 5) hp
              have p6 := cell_of_heap (i := 6) hp
              have p7 := cell_of_heap (i := 7) hp
              have pl := (Array.getElem?_eq_some_iff.1 hp).1
              refine wp_value (.agg #[.int .i64 ((i : Int) + 1), .int .i64 x.pass, .int .i64 x.takes, .int .i64 x.lo, .int .i64 x.hi, .int .i64 x.every, .int .i64 x.logs, .int .i64 x.ready]) (w' := w9) (by simp [execOp, x11, go_sem, p0, p1, p2, p3, p4, p5, p6, p7, pl]) ⟨_, rfl, hb9, ?_⟩
              exact ⟨by simpa using F0, by simpa using F1, by simp, by simpa using F3, by simpa using F4, by simpa using F5, by simpa using F6, by simpa using F7, by simpa using F8, by simpa using F9, by simpa using F10, by simpa using F11, by simpa using F12, by simp, by simp, by simpa using F15⟩
            · have x12 := val_at (hv 12 (by simp))
              simp [valsOf] at x12
              refine wp_value (.int .i64 x.down) (w' := w9) (by simp [execOp, x12, go_sem, c0, hXl, ql]) ⟨_, rfl, hb9, ?_⟩
              exact ⟨by simpa using F0, by simpa using F1, by simpa using F2, by simp, by simpa using F4, by simpa using F5, by simpa using F6, by simpa using F7, by simpa using F8, by simpa using F9, by simpa using F10, by simpa using F11, by simpa using F12, by simpa using F13, by simpa using F14, by simpa using F15⟩
            · have x3 := val_at (hv 3 (by simp))
              simp [valsOf] at x3
              refine wp_value (.pointer (some ⟨R, 0, none⟩)) (w' := w9) (by simp [execOp, x3, go_sem, c0, hXl, ql]) ⟨_, rfl, hb9, ?_⟩
              exact ⟨by simpa using F0, by simpa using F1, by simpa using F2, by simpa using F3, by simp, by simpa using F5, by simpa using F6, by simpa using F7, by simpa using F8, by simpa using F9, by simpa using F10, by simpa using F11, by simpa using F12, by simpa using F13, by simpa using F14, by simpa using F15⟩
            · have d4 := hdep ⟨4, .data⟩ (by simp) rfl
              have e4 := val_at (F4 d4)
              refine wp_value (.int .i64 ((D : Int))) (w' := w9) (by simp [execOp, e4, go_sem, c0, hXl, ql]) ⟨_, rfl, hb9, ?_⟩
              exact ⟨by simpa using F0, by simpa using F1, by simpa using F2, by simpa using F3, by simpa using F4, by simp, by simpa using F6, by simpa using F7, by simpa using F8, by simpa using F9, by simpa using F10, by simpa using F11, by simpa using F12, by simpa using F13, by simpa using F14, by simpa using F15⟩
            · have d3 := hdep ⟨3, .data⟩ (by simp) rfl
              have e3 := val_at (F3 d3)
              have d5 := hdep ⟨5, .data⟩ (by simp) rfl
              have e5 := val_at (F5 d5)
              refine wp_calls (f := 53) (args := #[.int .i64 x.down, .int .i64 1000, .int .i64 0, .int .i64 1, .int .i64 (D : Int), .int .i64 1, .int .i64 0, .int .i64 1]) (w' := w9) (by simp [execOp, e3, e5, go_sem, valsOf]) (HRA.out w9) ?_
              rintro e w10 ⟨rfl, hg⟩
              refine ⟨_, rfl, _, rfl, bl_trans hb9 hg, ?_⟩
              exact ⟨by simpa using F0, by simpa using F1, by simpa using F2, by simpa using F3, by simpa using F4, by simpa using F5, by simp, by simpa using fun h q => (F7 h q).mono hg, by simpa using F8, by simpa using F9, by simpa using F10, by simpa using F11, by simpa using F12, by simpa using F13, by simpa using F14, by simpa using F15.mono hg⟩
            · have d2 := hdep ⟨2, .data⟩ (by simp) rfl
              have e2 := val_at (F2 d2)
              have d6 := hdep ⟨6, .data⟩ (by simp) rfl
              have e6 := val_at (F6 d6)
              have hg : Below w9.heap.size w9 (w9.alloc (.cells #[.int .i64 ((i : Int) + 1), .int .i64 x.pass, .int .i64 x.takes, .int .i64 x.lo, .int .i64 x.hi, .int .i64 x.every, .int .i64 x.logs, .int .i64 x.ready, .int .i64 x.down, .int .i64 1000, .int .i64 0, .int .i64 1, .int .i64 (D : Int), .int .i64 1, .int .i64 0, .int .i64 1] 59)) := bl_alloc (bl_refl _) _
              refine wp_value (.slice (some ⟨w9.heap.size, 0, none⟩) 2 2) (w' := w9.alloc (.cells #[.int .i64 ((i : Int) + 1), .int .i64 x.pass, .int .i64 x.takes, .int .i64 x.lo, .int .i64 x.hi, .int .i64 x.every, .int .i64 x.logs, .int .i64 x.ready, .int .i64 x.down, .int .i64 1000, .int .i64 0, .int .i64 1, .int .i64 (D : Int), .int .i64 1, .int .i64 0, .int .i64 1] 59)) (by simp [execOp, e2, e6, go_sem]) ⟨_, rfl, bl_trans hb9 hg, ?_⟩
              have hn : Row2 (w9.alloc (.cells #[.int .i64 ((i : Int) + 1), .int .i64 x.pass, .int .i64 x.takes, .int .i64 x.lo, .int .i64 x.hi, .int .i64 x.every, .int .i64 x.logs, .int .i64 x.ready, .int .i64 x.down, .int .i64 1000, .int .i64 0, .int .i64 1, .int .i64 (D : Int), .int .i64 1, .int .i64 0, .int .i64 1] 59)) (.slice (some ⟨w9.heap.size, 0, none⟩) 2 2) #[.int .i64 ((i : Int) + 1), .int .i64 x.pass, .int .i64 x.takes, .int .i64 x.lo, .int .i64 x.hi, .int .i64 x.every, .int .i64 x.logs, .int .i64 x.ready, .int .i64 x.down, .int .i64 1000, .int .i64 0, .int .i64 1, .int .i64 (D : Int), .int .i64 1, .int .i64 0, .int .i64 1] := ⟨_, rfl, World.alloc_heap_new _ _⟩
              exact ⟨by simpa using F0, by simpa using F1, by simpa using F2, by simpa using F3, by simpa using F4, by simpa using F5, by simpa using F6, by simpa using fun _ => hn, by simpa using F8, by simpa using F9, by simpa using F10, by simpa using F11, by simpa using F12, by simpa using F13, by simpa using d2, by simpa using F15.mono hg⟩
            · have d1 := hdep ⟨1, .data⟩ (by simp) rfl
              have e1 := val_at (F1 d1)
              have d7 := hdep ⟨7, .data⟩ (by simp) rfl
              have hs10 : seen 10 = false := by { cases hq : seen 10 with | false => rfl | true => exact absurd (F11 hq) (by rw [hsi]; decide) }
              obtain ⟨g7, r7, hh7⟩ := F7 d7 hsi
              have e7 := val_at r7
              have F15' := F15
              rw [hsi, hs10] at F15'
              have own9 := F15'.a rfl
              have hnews : ∀ jj u, (rcs [{ x with down := (i : Int) + 1 }, putR (D : Int) x.down])[jj]? = some u → w9.cell? ((⟨g7, 0, none⟩ : Addr).add jj) = some u := news_at (rcs [{ x with down := (i : Int) + 1 }, putR (D : Int) x.down]) hh7
              rw [HNW.out] at hnews
              refine wp_append_own w9 _ _ 22 rfl (Q + 1) 59 i59 _ 8 64 Try.underlying22 hi hi0 hi1 hi2 rfl (by decide) v N xs (by simp [go_sem, e1]) own9 ⟨g7, 0, none⟩ 2 2 news (by simp [go_sem, e7]) (by rw [← HNW.out, rcs_len]; rfl) hnews (by rw [← HNW.out]; exact rcs_one _) (by unfold maxLen; omega) (by omega) (by omega) ?_
              intro v2 w10 hown2 hgrow hnil
              have hsl := own_some hown2
              have hb10 := bl_grown hb9 own9 (by have := HQS.out; omega) hgrow
              have hm := F15'.app hown2 hsl hgrow
              refine ⟨_, rfl, hb10, ?_⟩
              exact ⟨by simpa using F0, by simpa using F1, by simpa using F2, by simpa using F3, by simpa using F4, by simpa using F5, by simpa using F6, by simp, by simp, by simpa using F9, by simpa using F10, by simp, by simpa using d1, by simpa using F14 d7, by simpa using F14, by simpa [hs10] using hm⟩
            · have x9 := val_at (hv 9 (by simp))
              simp [valsOf] at x9
              refine wp_value (.pointer (some ⟨Q, 1, none⟩)) (w' := w9) (by simp [execOp, x9, go_sem, c0, hXl, ql]) ⟨_, rfl, hb9, ?_⟩
              exact ⟨by simpa using F0, by simpa using F1, by simpa using F2, by simpa using F3, by simpa using F4, by simpa using F5, by simpa using F6, by simpa using F7, by simpa using F8, by simp, by simpa using F10, by simpa using F11, by simpa using F12, by simpa using F13, by simpa using F14, by simpa using F15⟩
            · have d9 := hdep ⟨9, .data⟩ (by simp) rfl
              have e9 := val_at (F9 d9)
              have d8 := hdep ⟨8, .data⟩ (by simp) rfl
              obtain ⟨⟨g8, c8, hu⟩, ho8⟩ := F15.b d8
              have e8 := val_at hu
              have F15' := F15
              rw [hsi, d8] at F15'
              have hq9 := F15'.q
              have cz : w9.cell? ⟨Q, 1, none⟩ = some v := cell_of_heap hq9
              have fz : w9.frozen? ⟨Q, 1, none⟩ = false := frozen_of_heap hq9
              have hm := F15'.put
              have hb10 := bl_set hb9 (valsOf a' 81) (b := Q) (o := 1) (by have := HQS.out; omega)
              rw [hu] at hm hb10
              refine wp_effect (w' := w9.setCell ⟨Q, 1, none⟩ (.slice (some ⟨g8, 0, none⟩) (N + 2) c8)) (by simp [execOp, e9, e8, go_sem, cz, fz, ql]) ⟨_, rfl, hb10, ?_⟩
              exact ⟨by simpa using F0, by simpa using F1, by simpa using F2, by simpa using F3, by simpa using F4, by simpa using F5, by simpa using F6, by simp [d8], by simpa using F8, by simpa using F9, by simp, by simpa using d8, by simpa using F12, by simpa using F13, by simpa using F14, by simpa [d8, hu] using hm⟩
          intro u w5 hb5 seen hall ⟨F0, F1, F2, F3, F4, F5, F6, F7, F8, F9, F10, F11, F12, F13, F14, F15⟩
          replace F0 := F0 (hall 0 (by decide))
          replace F1 := F1 (hall 1 (by decide))
          replace F2 := F2 (hall 2 (by decide))
          replace F3 := F3 (hall 3 (by decide))
          replace F4 := F4 (hall 4 (by decide))
          replace F5 := F5 (hall 5 (by decide))
          replace F6 := F6 (hall 6 (by decide))
          replace F7 := F7 (hall 7 (by decide))
          replace F8 := F8 (hall 8 (by decide))
          replace F9 := F9 (hall 9 (by decide))
          replace F10 := F10 (hall 10 (by decide))
          rw [hall 8 (by decide), hall 10 (by decide)] at F15
          obtain ⟨⟨g5, c5, hu⟩, ho5⟩ := F15.b rfl
          have hq5 := F15.q
          rw [if_pos rfl, hu] at hq5
          rw [hu] at ho5
          rw [← HNW.out, ← HXS.out, show rcs (putTo l (D : Int) i j) ++ rcs [{ x with down := (i : Int) + 1 }, putR (D : Int) x.down] = rcs (putTo l (D : Int) i j ++ [{ x with down := (i : Int) + 1 }, putR (D : Int) x.down]) from (List.flatMap_append ..).symm, ← HMT.out] at ho5
          have HO3 := hid ho5
          have HQ10 := hid hq5
          have HB10 := hid hb5
          have HNX : Hid ((putTo l (D : Int) i (j + 1)).length = N + 2) := hid (by rw [HMT.out, List.length_append, HNN.out]; rfl)
          simp only [setAll]
          clear F0 F1 F2 F3 F4 F5 F6 F7 F8 F9 F10 F11 F12 F13 F14 F15 hall seen hu ho5 hq5 hb5 HRA HPF HNW HXS HBP
          go_wp2
          go_roundw
          case rel => exact ⟨j + 1, N + 2, _, by omega, HNX.out, by rw [HS1.out], by go_num, HQ10.out, HO3.out, HB10.out⟩
          case measure => simp [intOf]; omega
        · have d2 : ((j : Int) == (i : Int)) = false := by rw [beq_eq_false_iff_ne]; omega
          have HMT : Hid (putTo l (D : Int) i (j + 1) = putTo l (D : Int) i j ++ [x]) := hid (by rw [HPT.out, if_neg hji, upR, if_neg hdn])
          clear hji hdn
          go_upto_region 17 with (fail)
          have hp := World.alloc_heap_new wr (.cells #[.int .i64 x.down, .int .i64 x.pass, .int .i64 x.takes, .int .i64 x.lo, .int .i64 x.hi, .int .i64 x.every, .int .i64 x.logs, .int .i64 x.ready] 59)
          have ba := bl_alloc (bl_refl wr) (.cells #[.int .i64 x.down, .int .i64 x.pass, .int .i64 x.takes, .int .i64 x.lo, .int .i64 x.hi, .int .i64 x.every, .int .i64 x.logs, .int .i64 x.ready] 59)
          have ho9 := HOW.out.alloc (.cells #[.int .i64 x.down, .int .i64 x.pass, .int .i64 x.takes, .int .i64 x.lo, .int .i64 x.hi, .int .i64 x.every, .int .i64 x.logs, .int .i64 x.ready] 59)
          obtain ⟨PB, hPB⟩ : ∃ PB, wr.heap.size = PB := ⟨_, rfl⟩
          obtain ⟨w9, hw9⟩ : ∃ w9, wr.alloc (.cells #[.int .i64 x.down, .int .i64 x.pass, .int .i64 x.takes, .int .i64 x.lo, .int .i64 x.hi, .int .i64 x.every, .int .i64 x.logs, .int .i64 x.ready] 59) = w9 := ⟨_, rfl⟩
          rw [hPB] at hp ⊢
          rw [hw9] at hp ba ho9 ⊢
          have hq9 := heap_mono HQQ.out ba
          have HB9 := hid (bl_trans HBB.out ba)
          clear hw9 hPB q0 q1 q2 q3 q4 q5 q6 q7 s0 sl HOW HQQ HBB ba hbw hqs u1 u2 u3
          have p0 := cell_of_heap (i := 0) hp
          have p1 := cell_of_heap (i := 1) hp
          have p2 := cell_of_heap (i := 2) hp
          have p3 := cell_of_heap (i := 3) hp
          have p4 := cell_of_heap (i := 4) hp
          have p5 := cell_of_heap (i := 5) hp
          have p6 := cell_of_heap (i := 6) hp
          have p7 := cell_of_heap (i := 7) hp
          have pl := (Array.getElem?_eq_some_iff.1 hp).1
          have z1 : w9.cell? ⟨Q, 1, none⟩ = some v := cell_of_heap hq9
          have zl := (Array.getElem?_eq_some_iff.1 hq9).1
          have own2 := ho9.alloc (.cells #[.int .i64 x.down, .int .i64 x.pass, .int .i64 x.takes, .int .i64 x.lo, .int .i64 x.hi, .int .i64 x.every, .int .i64 x.logs, .int .i64 x.ready] 59)
          have HQ9 := hid (heap_mono hq9 (bl_alloc (bl_refl w9) (.cells #[.int .i64 x.down, .int .i64 x.pass, .int .i64 x.takes, .int .i64 x.lo, .int .i64 x.hi, .int .i64 x.every, .int .i64 x.logs, .int .i64 x.ready] 59)))
          have hnews : ∀ jj u, (rc (x))[jj]? = some u → (w9.alloc (.cells #[.int .i64 x.down, .int .i64 x.pass, .int .i64 x.takes, .int .i64 x.lo, .int .i64 x.hi, .int .i64 x.every, .int .i64 x.logs, .int .i64 x.ready] 59)).cell? ((⟨w9.heap.size, 0, none⟩ : Addr).add jj) = some u := news_new w9 (rc (x)) 59
          clear hp hq9 ho9
          go_wp2_with (at_builtin; refine wpList_append_own _ rfl _ _ 22 rfl (Q + 1) 59 i59 _ 8 64 Try.underlying22 hi hi0 hi1 hi2 rfl (by decide) v N _ rfl own2 ⟨w9.heap.size, 0, none⟩ 1 1 (rc (x)) rfl rfl hnews (rc_one _) (by unfold maxLen; omega) (by omega) (by simp; omega) ?_; intro v2 w10 hown2 hgrow hnil; obtain ⟨g5, c5, rfl⟩ := own_some hown2; have hq10 := keep_other HQ9.out own2 (by decide) hgrow; have HB10 := hid (bl_grown (bl_alloc HB9.out _) own2 (by have := HQS.out; omega) hgrow); have y1 : w10.cell? ⟨Q, 1, none⟩ = some v := cell_of_heap hq10; have y2 : w10.frozen? ⟨Q, 1, none⟩ = false := frozen_of_heap hq10; have y3 : Q < w10.heap.size := (Array.getElem?_eq_some_iff.1 hq10).1; have HO10 := hid hown2; have HQ10 := hid hq10; clear hown2 hgrow hnil hq10 own2 hnews HQ9 p0 p1 p2 p3 p4 p5 p6 p7 pl z1 zl)
          have hown3 := HO10.out
          rw [← rcs_snoc, ← HMT.out] at hown3
          have HO3 := hid hown3
          clear hown3 HO10
          have HNX : Hid ((putTo l (D : Int) i (j + 1)).length = N + 1) := hid (by rw [HMT.out, List.length_append, HNN.out]; rfl)
          go_roundw
          case rel => exact ⟨j + 1, N + 1, _, by omega, HNX.out, by rw [HS1.out], by go_num, by rw [heap_setCell_same _ _ _ _ _ _ HQ10.out]; rfl, own_set_other HQ10.out HO3.out (by decide) _ _, bl_set HB10.out _ (by have := HQS.out; omega)⟩
          case measure => simp [intOf]; omega
    · obtain rfl : j = l.length := by omega
      obtain ⟨S, hS⟩ : ∃ S, sumN (fun u => (rivP l u).logs) l.length = S := ⟨_, rfl⟩
      rw [hS] at hSb ⊢
      clear hS
      have hlen : (putL l (D : Int) i).length = l.length + 1 := putL_len hil
      have hl7b : l.length ≤ 7 := by omega
      have hrm := own_rchs (l := putL l (D : Int) i) hN hown
      clear hown hj hlt hqs hN
      obtain ⟨w2, hwn⟩ : ∃ w2, wr = w2 := ⟨_, rfl⟩
      rw [hwn] at hq hB hrm ⊢
      clear hwn s0 sl
      have hkb := hB
      clear hB
      have HX2 := hid (heap_mono HX1.out hkb)
      have HB2 := hid (bl_trans HB1.out hkb)
      clear HX1  hkb
      have HQ2 := hid hq
      have HM2 := hid hrm
      clear hq hrm
      by_cases hS1 : 1000 < S
      · have t1 : decide (1000 < S) = true := by simpa using hS1
        have sX0 : w2.cell? ⟨R, 0, none⟩ = some (.int .i64 (D : Int)) := cell_of_heap HX2.out
        have sX1 : w2.cell? ⟨R, 1, none⟩ = some (.slice (some ⟨b, off, none⟩) l.length c) := cell_of_heap HX2.out
        have slX := (Array.getElem?_eq_some_iff.1 HX2.out).1
        have hworks := works_any w2
        go_wp2_with fail
        refine hworks.mono ?_
        rintro e w3 ⟨rfl, hb3⟩
        clear hworks
        go_wp2
        go_ret
        exact ⟨rfl, bl_trans HB2.out hb3⟩
      have t1 : decide (1000 < S) = false := by simpa using hS1
      clear hS1
      obtain ⟨p, hp, p1, p2⟩ : ∃ p, dayE (D : Int) day = p ∧ 1 ≤ p ∧ p ≤ (D : Int) := ⟨_, rfl, dayE_bd hD1⟩
      have HR2 := hid (put_river HR0.out hil hl7b)
      have HA1 := hid (day_asked HR0.out p1 p2)
      have HA2 := hid (day_asked HR2.out p1 p2)
      have HMM : Hid (mostE (D : Int) (putL l (D : Int) i) p = mostE (D : Int) l p) := hid (put_most HR0.out hil hl7b p2)
      have hmr : 0 ≤ mostE (D : Int) l p := (most_range HF.out (by omega) p2).1
      obtain ⟨bd, hbd1, hbd2, hbe, hbv, _⟩ := by_is HR0.out hmr (most_days HF.out p2 (Int.le_refl _))
      obtain ⟨hpb1, hpb2⟩ := put_by HR0.out hil hl7b (mostE (D : Int) l p)
      rw [hbe] at hpb1
      rw [hbv] at hpb2
      have HE1 := hid hbe
      have HE2 := hid hbv
      have HE3 := hid hpb1
      have HE4 := hid hpb2
      clear hbe hbv hpb1 hpb2
      have sX0 : w2.cell? ⟨R, 0, none⟩ = some (.int .i64 (D : Int)) := cell_of_heap HX2.out
      have sX1 : w2.cell? ⟨R, 1, none⟩ = some (.slice (some ⟨b, off, none⟩) l.length c) := cell_of_heap HX2.out
      have slX := (Array.getElem?_eq_some_iff.1 HX2.out).1
      have sQ0 : w2.cell? ⟨Q, 0, none⟩ = some (.int .i64 (D : Int)) := cell_of_heap HQ2.out
      have sQ1 : w2.cell? ⟨Q, 1, none⟩ = some (v) := cell_of_heap HQ2.out
      have slQ := (Array.getElem?_eq_some_iff.1 HQ2.out).1
      have hcall := day_any (D : Int) l _ day w2 (HS.out.mono HB2.out) (by omega) b2
      rw [hp] at hcall
      go_wp2_with fail
      refine hcall.mono ?_
      rintro e w3 ⟨rfl, hb3⟩
      clear hcall sX0 sX1 slX sQ0 sQ1 slQ
      have HX3 := hid (heap_mono HX2.out hb3)
      have HQ3 := hid (heap_mono HQ2.out hb3)
      have HB3 := hid (bl_trans HB2.out hb3)
      have HM3 := hid (HM2.out.mono hb3)
      clear HX2 HQ2 HM2 hb3
      clear hp t1
      have sX0 : w3.cell? ⟨R, 0, none⟩ = some (.int .i64 (D : Int)) := cell_of_heap HX3.out
      have sX1 : w3.cell? ⟨R, 1, none⟩ = some (.slice (some ⟨b, off, none⟩) l.length c) := cell_of_heap HX3.out
      have slX := (Array.getElem?_eq_some_iff.1 HX3.out).1
      have sQ0 : w3.cell? ⟨Q, 0, none⟩ = some (.int .i64 (D : Int)) := cell_of_heap HQ3.out
      have sQ1 : w3.cell? ⟨Q, 1, none⟩ = some (v) := cell_of_heap HQ3.out
      have slQ := (Array.getElem?_eq_some_iff.1 HQ3.out).1
      have hcall := most_any (D : Int) l _ p w3 (by omega) (HS.out.mono HB3.out)
      rw [HA1.out, if_pos rfl] at hcall
      go_wp2_with fail
      refine hcall.mono ?_
      rintro e w4 ⟨rfl, hb4⟩
      clear hcall sX0 sX1 slX sQ0 sQ1 slQ
      have HX4 := hid (heap_mono HX3.out hb4)
      have HQ4 := hid (heap_mono HQ3.out hb4)
      have HB4 := hid (bl_trans HB3.out hb4)
      have HM4 := hid (HM3.out.mono hb4)
      clear HX3 HQ3 HM3 hb4
      have sX0 : w4.cell? ⟨R, 0, none⟩ = some (.int .i64 (D : Int)) := cell_of_heap HX4.out
      have sX1 : w4.cell? ⟨R, 1, none⟩ = some (.slice (some ⟨b, off, none⟩) l.length c) := cell_of_heap HX4.out
      have slX := (Array.getElem?_eq_some_iff.1 HX4.out).1
      have sQ0 : w4.cell? ⟨Q, 0, none⟩ = some (.int .i64 (D : Int)) := cell_of_heap HQ4.out
      have sQ1 : w4.cell? ⟨Q, 1, none⟩ = some (v) := cell_of_heap HQ4.out
      have slQ := (Array.getElem?_eq_some_iff.1 HQ4.out).1
      have hcall := most_any (D : Int) _ v p w4 (by omega) HM4.out
      rw [HA2.out, if_pos rfl, HMM.out] at hcall
      go_wp2_with fail
      refine hcall.mono ?_
      rintro e w5 ⟨rfl, hb5⟩
      clear hcall sX0 sX1 slX sQ0 sQ1 slQ
      have HX5 := hid (heap_mono HX4.out hb5)
      have HQ5 := hid (heap_mono HQ4.out hb5)
      have HB5 := hid (bl_trans HB4.out hb5)
      have HM5 := hid (HM4.out.mono hb5)
      clear HX4 HQ4 HM4 hb5
      obtain ⟨mo, hmo⟩ : ∃ mo, mostE (D : Int) l p = mo := ⟨_, rfl⟩
      rw [hmo] at hmr HE1 HE2 HE3 HE4 ⊢
      clear hmo
      have sX0 : w5.cell? ⟨R, 0, none⟩ = some (.int .i64 (D : Int)) := cell_of_heap HX5.out
      have sX1 : w5.cell? ⟨R, 1, none⟩ = some (.slice (some ⟨b, off, none⟩) l.length c) := cell_of_heap HX5.out
      have slX := (Array.getElem?_eq_some_iff.1 HX5.out).1
      have sQ0 : w5.cell? ⟨Q, 0, none⟩ = some (.int .i64 (D : Int)) := cell_of_heap HQ5.out
      have sQ1 : w5.cell? ⟨Q, 1, none⟩ = some (v) := cell_of_heap HQ5.out
      have slQ := (Array.getElem?_eq_some_iff.1 HQ5.out).1
      have hcall := by_any (D : Int) l _ mo w5 (by omega) (HS.out.mono HB5.out)
      rw [HE1.out, HE2.out] at hcall
      go_wp2_with fail
      refine hcall.mono ?_
      rintro e w6 ⟨rfl, hb6⟩
      clear hcall sX0 sX1 slX sQ0 sQ1 slQ
      have HX6 := hid (heap_mono HX5.out hb6)
      have HQ6 := hid (heap_mono HQ5.out hb6)
      have HB6 := hid (bl_trans HB5.out hb6)
      have HM6 := hid (HM5.out.mono hb6)
      clear HX5 HQ5 HM5 hb6
      have sX0 : w6.cell? ⟨R, 0, none⟩ = some (.int .i64 (D : Int)) := cell_of_heap HX6.out
      have sX1 : w6.cell? ⟨R, 1, none⟩ = some (.slice (some ⟨b, off, none⟩) l.length c) := cell_of_heap HX6.out
      have slX := (Array.getElem?_eq_some_iff.1 HX6.out).1
      have sQ0 : w6.cell? ⟨Q, 0, none⟩ = some (.int .i64 (D : Int)) := cell_of_heap HQ6.out
      have sQ1 : w6.cell? ⟨Q, 1, none⟩ = some (v) := cell_of_heap HQ6.out
      have slQ := (Array.getElem?_eq_some_iff.1 HQ6.out).1
      have hcall := by_any (D : Int) _ v mo w6 (by omega) HM6.out
      rw [HE3.out, HE4.out] at hcall
      go_wp2_with fail
      refine hcall.mono ?_
      rintro e w7 ⟨rfl, hb7⟩
      clear hcall sX0 sX1 slX sQ0 sQ1 slQ
      have HX7 := hid (heap_mono HX6.out hb7)
      have HQ7 := hid (heap_mono HQ6.out hb7)
      have HB7 := hid (bl_trans HB6.out hb7)
      have HM7 := hid (HM6.out.mono hb7)
      clear HX6 HQ6 HM6 hb7
      have hworks := works_any w7
      go_wp2_with fail
      refine hworks.mono ?_
      rintro e w8 ⟨rfl, hb8⟩
      clear hworks
      go_wp2
      go_ret
      exact ⟨rfl, bl_trans HB7.out hb8⟩

end Go.Proofs.Ytbnmjbmlejifcaa
