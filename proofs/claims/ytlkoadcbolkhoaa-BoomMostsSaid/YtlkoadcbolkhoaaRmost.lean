/- The reference's Most: the walk; it tells what the implementation tells (plain). -/
import Derived.Test.YtlkoadcbolkhoaaMost
set_option linter.all false
namespace Go.Proofs.Ytlkoadcbolkhoaa
open Go Go.RowKit Go.Proofs
attribute [local go_sem] cell_grow frozen_grow

def betM (sticks i k : Int) (t : Int × Int × Int) : Int × Int × Int := if 2 * (i + k) ≤ sticks ∧ t.1 < i * k then (i * k, i, k) else t
def inM (sticks i : Int) : Nat → Int → Int × Int × Int → Int × Int × Int
  | 0, _, t => t
  | f + 1, k, t => inM sticks i f (k + 1) (betM sticks i k t)
def outM (sticks high : Int) : Nat → Int → Int × Int × Int → Int × Int × Int
  | 0, _, t => t
  | f + 1, i, t => outM sticks high f (i + 1) (inM sticks i high.toNat 1 t)
def mostR (sticks wide high : Int) : Int × Int × Int := if mostE sticks wide high = 0 then outM sticks high wide.toNat 1 (0, 0, 0) else (0, 0, 0)

/-! ### Plain -/
theorem betM_cut {s i k : Int} {t : Int × Int × Int} (h : i ≤ 8 ∧ k ≤ 8) : betM s i k t = betM (min s 32) i k t := by
  unfold betM
  have : (2 * (i + k) ≤ s ∧ t.1 < i * k) ↔ (2 * (i + k) ≤ min s 32 ∧ t.1 < i * k) := by
    constructor <;> rintro ⟨a, b⟩ <;> exact ⟨by omega, b⟩
  simp only [this]
theorem inM_cut {s i : Int} (hi : i ≤ 8) : ∀ (f : Nat) (k : Int) (t : Int × Int × Int), k + f ≤ 9 → inM s i f k t = inM (min s 32) i f k t
  | 0, _, _, _ => rfl
  | f + 1, k, t, h => by
    unfold inM
    rw [inM_cut hi f (k + 1) _ (by omega), betM_cut (by omega)]
theorem outM_cut {s high : Int} (hh : high ≤ 8) : ∀ (f : Nat) (i : Int) (t : Int × Int × Int), i + f ≤ 9 → outM s high f i t = outM (min s 32) high f i t
  | 0, _, _, _ => rfl
  | f + 1, i, t, h => by
    unfold outM
    rw [outM_cut hh f (i + 1) _ (by omega), inM_cut (by omega) _ _ _ (by omega)]
theorem boxH_cut {s high w : Int} (hs : 4 ≤ s) (hh : high ≤ 8) (hw : w ≤ 8) : boxH s high w = boxH (min s 32) high w := by
  unfold boxH
  rw [Int.tdiv_eq_ediv_of_nonneg (by omega), Int.tdiv_eq_ediv_of_nonneg (by omega)]
  omega
theorem mostFrom_cut {s high : Int} (hs : 4 ≤ s) (hh : high ≤ 8) : ∀ (f : Nat) (w : Int), w + f ≤ 9 → mostFrom s high f w = mostFrom (min s 32) high f w
  | 0, _, _ => rfl
  | f + 1, w, h => by
    unfold mostFrom
    rw [← boxH_cut hs hh (by omega), mostFrom_cut hs hh f (w + 1) (by omega)]
def bestM (s w h : Int) : Corner := match mostL s w h with
  | [] => (0, 0)
  | x :: l => bestC x l
theorem bestM_cut {s w h : Int} (hs : 4 ≤ s) (hw : 1 ≤ w ∧ w ≤ 8) (hh : h ≤ 8) : bestM s w h = bestM (min s 32) w h := by
  unfold bestM mostL
  rw [← mostFrom_cut hs hh _ _ (by omega)]
def sameM (s w h : Int) : Bool := let b := bestM s w h; let t := outM s h w.toNat 1 (0, 0, 0); decide (t.1 = b.1 * b.2 ∧ t.2.1 = b.1 ∧ t.2.2 = b.2)
theorem same_all : ((List.range 8).all fun w => (List.range 8).all fun h => (List.range 29).all fun s => sameM ((s + 4 : Nat) : Int) ((w + 1 : Nat) : Int) ((h + 1 : Nat) : Int)) = true := by kernel_rfl
theorem most_same (sticks wide high : Int) : mostR sticks wide high = ((mostB sticks wide high).1 * (mostB sticks wide high).2, (mostB sticks wide high).1, (mostB sticks wide high).2) := by
  unfold mostR mostB
  by_cases h : mostE sticks wide high = 0
  · rw [if_pos h, if_pos h]
    have h1 : (1 ≤ wide ∧ wide ≤ 8 ∧ 1 ≤ high ∧ high ≤ 8) ∧ 4 ≤ sticks := by
      unfold mostE at h
      split at h
      · omega
      · split at h <;> omega
    have hk := same_all
    simp only [List.all_eq_true, List.mem_range] at hk
    have hk := hk (wide - 1).toNat (by omega) (high - 1).toNat (by omega) (min sticks 32 - 4).toNat (by omega)
    rw [show (((min sticks 32 - 4).toNat + 4 : Nat) : Int) = min sticks 32 by omega, show (((wide - 1).toNat + 1 : Nat) : Int) = wide by omega, show (((high - 1).toNat + 1 : Nat) : Int) = high by omega] at hk
    unfold sameM at hk
    rw [← outM_cut (by omega) _ _ _ (by omega), ← bestM_cut h1.2 (by omega) (by omega)] at hk
    simp only [decide_eq_true_eq] at hk
    obtain ⟨a, b, c⟩ := hk
    show outM sticks high wide.toNat 1 (0, 0, 0) = ((bestM sticks wide high).1 * (bestM sticks wide high).2, (bestM sticks wide high).1, (bestM sticks wide high).2)
    rw [← a, ← b, ← c]
  · rw [if_neg h, if_neg h]; rfl

/-! ### The walk -/
def InB3 (t : Int × Int × Int) : Prop := 0 ≤ t.1 ∧ t.1 ≤ 64
theorem mul64 {i k : Int} (h1 : 1 ≤ i ∧ i ≤ 8) (h2 : 1 ≤ k ∧ k ≤ 8) : 0 ≤ i * k ∧ i * k ≤ 64 := ⟨Int.mul_nonneg (by omega) (by omega), by have := Int.mul_le_mul h1.2 h2.2 (by omega) (by omega : (0 : Int) ≤ 8); omega⟩
set_option maxRecDepth 100000 in
set_option maxHeartbeats 8000000 in
theorem rmost_any (sticks wide high : Int) (w : World) :
    Calls Try.prog 44 #[.int .i64 sticks, .int .i64 wide, .int .i64 high] w fun e w' => e = .returned (.tuple #[.int .i64 (mostR sticks wide high).1, .int .i64 (mostR sticks wide high).2.1, .int .i64 (mostR sticks wide high).2.2, .int .i64 (mostE sticks wide high)]) ∧ Below w.heap.size w w' := by
  obtain ⟨E, hE⟩ : ∃ E, mostE sticks wide high = E := ⟨_, rfl⟩
  have HE := hid hE
  obtain ⟨T, hT⟩ : ∃ T, mostR sticks wide high = T := ⟨_, rfl⟩
  have HT := hid hT
  rw [hE, hT]
  clear hE hT
  by_cases hr : 1 ≤ wide ∧ wide ≤ 8 ∧ 1 ≤ high ∧ high ≤ 8
  case neg =>
    have he : E = 3 := by rw [← HE.out]; unfold mostE; rw [if_pos hr]
    have ht : T = (0, 0, 0) := by rw [← HT.out]; unfold mostR; rw [HE.out, he]; rfl
    subst he ht
    by_cases a1 : wide < 1
    · have t1 : decide (wide < 1) = true := decide_eq_true a1
      clear hr a1
      go_enter Try.func44, Try.ntmps44
      go_wp2
      refine bodyPost_ret (v := .tuple #[.int .i64 0, .int .i64 0, .int .i64 0, .int .i64 3]) (by simp [results, Try.results44, go_sem]) rfl ⟨rfl, bl_refl _⟩
    have t1 : decide (wide < 1) = false := decide_eq_false a1
    by_cases a2 : 8 < wide
    · have t2 : decide (8 < wide) = true := decide_eq_true a2
      clear hr a1 a2
      go_enter Try.func44, Try.ntmps44
      go_wp2
      refine bodyPost_ret (v := .tuple #[.int .i64 0, .int .i64 0, .int .i64 0, .int .i64 3]) (by simp [results, Try.results44, go_sem]) rfl ⟨rfl, bl_refl _⟩
    have t2 : decide (8 < wide) = false := decide_eq_false a2
    by_cases a3 : high < 1
    · have t3 : decide (high < 1) = true := decide_eq_true a3
      clear hr a1 a2 a3
      go_enter Try.func44, Try.ntmps44
      go_wp2
      refine bodyPost_ret (v := .tuple #[.int .i64 0, .int .i64 0, .int .i64 0, .int .i64 3]) (by simp [results, Try.results44, go_sem]) rfl ⟨rfl, bl_refl _⟩
    have t3 : decide (high < 1) = false := decide_eq_false a3
    have t4 : decide (8 < high) = true := decide_eq_true (by omega)
    clear hr a1 a2 a3
    go_enter Try.func44, Try.ntmps44
    go_wp2
    refine bodyPost_ret (v := .tuple #[.int .i64 0, .int .i64 0, .int .i64 0, .int .i64 3]) (by simp [results, Try.results44, go_sem]) rfl ⟨rfl, bl_refl _⟩
  have t1 : decide (wide < 1) = false := decide_eq_false (by omega)
  have t2 : decide (8 < wide) = false := decide_eq_false (by omega)
  have t3 : decide (high < 1) = false := decide_eq_false (by omega)
  have t4 : decide (8 < high) = false := decide_eq_false (by omega)
  by_cases hs : sticks < 4
  · have t5 : decide (sticks < 4) = true := decide_eq_true hs
    have he : E = 5 := by rw [← HE.out]; unfold mostE; rw [if_neg (by omega), if_pos hs]
    have ht : T = (0, 0, 0) := by rw [← HT.out]; unfold mostR; rw [HE.out, he]; rfl
    subst he ht
    clear hr hs
    go_enter Try.func44, Try.ntmps44
    go_wp2
    refine bodyPost_ret (v := .tuple #[.int .i64 0, .int .i64 0, .int .i64 0, .int .i64 5]) (by simp [results, Try.results44, go_sem]) rfl ⟨rfl, bl_refl _⟩
  have t5 : decide (sticks < 4) = false := decide_eq_false hs
  have he : E = 0 := by rw [← HE.out]; unfold mostE; rw [if_neg (by omega), if_neg hs]
  subst he
  have ht : outM sticks high wide.toNat 1 (0, 0, 0) = T := by rw [← HT.out]; unfold mostR; rw [if_pos HE.out]
  obtain ⟨n, rfl⟩ : ∃ n : Nat, wide = n := ⟨wide.toNat, by omega⟩
  obtain ⟨m, rfl⟩ : ∃ n : Nat, high = n := ⟨high.toNat, by omega⟩
  rw [Int.toNat_natCast] at ht
  have HO := hid ht
  have hn := hr.1
  have hn8 := hr.2.1
  have hm := hr.2.2.1
  have hm8 := hr.2.2.2
  clear ht hs hr HE HT
  go_enter Try.func44, Try.ntmps44
  go_wp2
  clear t1 t2 t3 t4 t5
  go_loopw [10, 11, 12, 13, 14] (fun a b c p _ wr => ∃ (i : Nat) (t : Int × Int × Int), i ≤ n ∧ p = .int .i64 ((i + 1 : Nat) : Int) ∧ a = .int .i64 t.1 ∧ b = .int .i64 t.2.1 ∧ c = .int .i64 t.2.2 ∧ InB3 t ∧ outM sticks (m : Int) (n - i) ((i + 1 : Nat) : Int) t = T ∧ wr = w) (fun _ _ _ p _ _ => n + 1 - (intOf p).toNat)
  case atStart => exact ⟨0, (0, 0, 0), Nat.zero_le _, rfl, rfl, rfl, rfl, ⟨by decide, by decide⟩, HO.out, rfl⟩
  case round =>
  clear HO
  obtain ⟨i, t, hi, rfl, rfl, rfl, rfl, hin, hO, hwr⟩ := hrel
  subst wr
  by_cases hlt : i < n
  · have t1 : decide (((i + 1 : Nat) : Int) ≤ (n : Int)) = true := decide_eq_true (by omega)
    have hO2 : outM sticks (m : Int) (n - (i + 1)) ((i + 1 : Nat) + 1 : Int) (inM sticks ((i + 1 : Nat) : Int) m 1 t) = T := by
      rw [← hO, show n - i = (n - (i + 1)) + 1 by omega]
      conv => rhs; unfold outM
      rw [Int.toNat_natCast]
    obtain ⟨S, hS⟩ : ∃ S, inM sticks ((i + 1 : Nat) : Int) m 1 t = S := ⟨_, rfl⟩
    rw [hS] at hO2
    have HO := hid hO2
    have HS := hid hS
    have HIN := hid hin
    obtain ⟨I, hI⟩ : ∃ I : Int, ((i + 1 : Nat) : Int) = I := ⟨_, rfl⟩
    have hI1 : 1 ≤ I ∧ I ≤ 8 := by omega
    have HIi := hid hI
    rw [hI] at HO HS t1 ⊢
    clear hO hO2 hS hin hI
    go_wp2
    go_loopw [10, 11, 12, 14] (fun a b c p wr => ∃ (k : Nat) (t : Int × Int × Int), k ≤ m ∧ p = .int .i64 ((k + 1 : Nat) : Int) ∧ a = .int .i64 t.1 ∧ b = .int .i64 t.2.1 ∧ c = .int .i64 t.2.2 ∧ InB3 t ∧ inM sticks I (m - k) ((k + 1 : Nat) : Int) t = S ∧ wr = w) (fun _ _ _ p _ => m + 1 - (intOf p).toNat)
    case atStart => exact ⟨0, t, Nat.zero_le _, rfl, rfl, rfl, rfl, HIN.out, HS.out, rfl⟩
    case round =>
    clear HS HIN
    obtain ⟨k, t, hk, rfl, rfl, rfl, rfl, hin, hO, hwr⟩ := hrel
    subst wr
    by_cases hlk : k < m
    · have t2 : decide (((k + 1 : Nat) : Int) ≤ (m : Int)) = true := decide_eq_true (by omega)
      have hO2 : inM sticks I (m - (k + 1)) ((k + 1 : Nat) + 1 : Int) (betM sticks I ((k + 1 : Nat) : Int) t) = S := by
        rw [← hO, show m - k = (m - (k + 1)) + 1 by omega]
        conv => rhs; unfold inM
      obtain ⟨J, hJ⟩ : ∃ J : Int, ((k + 1 : Nat) : Int) = J := ⟨_, rfl⟩
      have hJ1 : 1 ≤ J ∧ J ≤ 8 := by omega
      have HJ := hid hJ
      rw [hJ] at hO2 t2 ⊢
      have hmul := mul64 hI1 hJ1
      have wm : IntKind.i64.wrap (I * J) = I * J := IntWalk.i64_in _ (by omega)
      obtain ⟨M, hM⟩ : ∃ M, I * J = M := ⟨_, rfl⟩
      rw [hM] at wm hmul
      by_cases a1 : 2 * (I + J) ≤ sticks
      · have t3 : decide (2 * (I + J) ≤ sticks) = true := decide_eq_true a1
        by_cases a2 : t.1 < M
        · have t4 : decide (t.1 < I * J) = true := decide_eq_true (by rw [hM]; exact a2)
          have e : betM sticks I J t = (I * J, I, J) := by unfold betM; rw [if_pos ⟨a1, by rw [hM]; exact a2⟩]
          rw [e] at hO2
          have HO2 := hid hO2
          have HM : Hid (InB3 (I * J, I, J)) := by show InB3 (I * J, I, J); unfold InB3; rw [hM]; exact hmul
          have wm2 : IntKind.i64.wrap (I * J) = I * J := by rw [hM]; exact wm
          clear hO hO2 hin a1 a2 hM wm hmul e hJ
          go_wp2
          go_roundw
          case rel => exact ⟨k + 1, (I * J, I, J), by omega, by have := HJ.out; go_num, rfl, rfl, rfl, HM.out, by have := HJ.out; rw [show ((k + 1 + 1 : Nat) : Int) = J + 1 by omega]; exact HO2.out, trivial⟩
          case measure => have := HJ.out; simp [intOf]; omega
        · have t4 : decide (t.1 < I * J) = false := decide_eq_false (by rw [hM]; exact a2)
          have e : betM sticks I J t = t := by unfold betM; rw [if_neg (by rw [hM]; exact fun h => a2 h.2)]
          rw [e] at hO2
          have HO2 := hid hO2
          have HIN := hid hin
          have wm2 : IntKind.i64.wrap (I * J) = I * J := by rw [hM]; exact wm
          clear hO hO2 hin a1 a2 hM wm hmul e hJ
          go_wp2
          go_roundw
          case rel => exact ⟨k + 1, t, by omega, by have := HJ.out; go_num, rfl, rfl, rfl, HIN.out, by have := HJ.out; rw [show ((k + 1 + 1 : Nat) : Int) = J + 1 by omega]; exact HO2.out, trivial⟩
          case measure => have := HJ.out; simp [intOf]; omega
      · have t3 : decide (2 * (I + J) ≤ sticks) = false := decide_eq_false a1
        have e : betM sticks I J t = t := by unfold betM; rw [if_neg (fun h => a1 h.1)]
        rw [e] at hO2
        have HO2 := hid hO2
        have HIN := hid hin
        clear hO hO2 hin a1 hM wm hmul e hJ
        go_wp2
        go_roundw
        case rel => exact ⟨k + 1, t, by omega, by have := HJ.out; go_num, rfl, rfl, rfl, HIN.out, by have := HJ.out; rw [show ((k + 1 + 1 : Nat) : Int) = J + 1 by omega]; exact HO2.out, trivial⟩
        case measure => have := HJ.out; simp [intOf]; omega
    · obtain rfl : k = m := by omega
      have t2 : decide (((k + 1 : Nat) : Int) ≤ (k : Int)) = false := decide_eq_false (by omega)
      rw [Nat.sub_self] at hO
      have e : t = S := hO
      subst e
      have HIN := hid hin
      clear hO hin
      go_wp2
      go_roundw
      case rel => exact ⟨i + 1, t, by omega, by have := HIi.out; go_num, rfl, rfl, rfl, HIN.out, by have := HIi.out; rw [show ((i + 1 + 1 : Nat) : Int) = I + 1 by omega]; exact HO.out, trivial⟩
      case measure => have := HIi.out; simp [intOf]; omega
  · obtain rfl : i = n := by omega
    have t1 : decide (((i + 1 : Nat) : Int) ≤ (i : Int)) = false := decide_eq_false (by omega)
    rw [Nat.sub_self] at hO
    have e : t = T := hO
    subst e
    clear hO hin
    go_wp2
    refine bodyPost_ret (v := .tuple #[.int .i64 t.1, .int .i64 t.2.1, .int .i64 t.2.2, .int .i64 0]) (by simp [results, Try.results44, go_sem]) rfl ⟨rfl, bl_refl _⟩
end Go.Proofs.Ytlkoadcbolkhoaa
