/- Plans in memory; what has gone, has come, is brought (the reference). -/
import Derived.Test.YtbnmjbmlejifcaaRiver
set_option linter.all false
namespace Go.Proofs.Ytbnmjbmlejifcaa
open Go Go.RowKit Go.Proofs
attribute [local go_sem] cell_grow frozen_grow

/-- The slice value s holds the lists L. -/
def Rows (w : World) (s : Value) (L : List (List Int)) : Prop :=
  (s = .slice none 0 0 ∧ L = []) ∨ ∃ b off c, s = .slice (some ⟨b, off, none⟩) L.length c ∧ L.length ≤ c ∧ b < w.heap.size ∧ ∀ i r, L[i]? = some r → ∃ v, w.cell? ⟨b, off + i, none⟩ = some v ∧ Ints w v r
theorem Rows.mono {w v : World} {s : Value} {L : List (List Int)} (h : Rows w s L) (hb : Below w.heap.size w v) : Rows v s L := by
  rcases h with h | ⟨b, off, c, h1, h2, h3, h4⟩
  · exact .inl h
  · refine .inr ⟨b, off, c, h1, h2, Nat.lt_of_lt_of_le h3 hb.size, fun i r hi => ?_⟩
    obtain ⟨u, e1, e2⟩ := h4 i r hi
    exact ⟨u, cell_mono e1 hb, e2.mono hb⟩
theorem Rows.slice {w : World} {s : Value} {L : List (List Int)} (h : Rows w s L) : ∃ A c, s = .slice A L.length c := by
  rcases h with ⟨rfl, rfl⟩ | ⟨b, off, c, rfl, _⟩
  · exact ⟨_, _, rfl⟩
  · exact ⟨_, _, rfl⟩
theorem Rows.some {w : World} {s : Value} {L : List (List Int)} (h : Rows w s L) (hl : 1 ≤ L.length) : ∃ b off c, s = .slice (some ⟨b, off, none⟩) L.length c ∧ L.length ≤ c ∧ b < w.heap.size ∧ ∀ i r, L[i]? = some r → ∃ v, w.cell? ⟨b, off + i, none⟩ = some v ∧ Ints w v r := by
  rcases h with ⟨_, rfl⟩ | h
  · simp at hl
  · exact h
theorem Ints.slice {w : World} {s : Value} {l : List Int} (h : Ints w s l) : ∃ A c, s = .slice A l.length c := by
  rcases h with ⟨rfl, rfl⟩ | ⟨b, off, c, rfl, _⟩
  · exact ⟨_, _, rfl⟩
  · exact ⟨_, _, rfl⟩
theorem Ints.some {w : World} {s : Value} {l : List Int} (h : Ints w s l) (hl : 1 ≤ l.length) : ∃ b off c, s = .slice (some ⟨b, off, none⟩) l.length c ∧ l.length ≤ c ∧ b < w.heap.size ∧ ∀ i x, l[i]? = some x → w.cell? ⟨b, off + i, none⟩ = some (.int .i64 x) := by
  rcases h with ⟨_, rfl⟩ | h
  · simp at hl
  · exact h

/-- A plan by reaches and days. -/
def planP (L : List (List Int)) (i d : Nat) : Int := (L.getD i []).getD (d - 1) 0
/-- A river by reaches. -/
def rivP (l : List Rch) (i : Nat) : Rch := l.getD i zeroR

/-- No number of a plan is great. -/
def Small (L : List (List Int)) : Prop := ∀ r ∈ L, r.length ≤ 1000 ∧ ∀ x ∈ r, 0 ≤ x ∧ x ≤ 100000
theorem plan_bd {L : List (List Int)} (h : Small L) (i d : Nat) : 0 ≤ planP L i d ∧ planP L i d ≤ 100000 := by
  unfold planP
  by_cases hi : i < L.length
  · obtain ⟨r, hr⟩ := get_at hi
    have h1 := h r (List.mem_of_getElem? hr)
    rw [show L.getD i [] = r by simp [List.getD, hr]]
    by_cases hd : d - 1 < r.length
    · obtain ⟨x, hx⟩ := get_at hd
      rw [show r.getD (d - 1) 0 = x by simp [List.getD, hx]]
      exact h1.2 x (List.mem_of_getElem? hx)
    · rw [show r.getD (d - 1) 0 = 0 by simp [List.getD, List.getElem?_eq_none (Nat.le_of_not_lt hd)]]; omega
  · rw [show L.getD i [] = [] by simp [List.getD, List.getElem?_eq_none (Nat.le_of_not_lt hi)]]
    simp
theorem gone_bd {L : List (List Int)} (h : Small L) (i k : Nat) : 0 ≤ sumN (fun d => planP L i (d + 1)) k ∧ sumN (fun d => planP L i (d + 1)) k ≤ k * 100000 :=
  ⟨sumN_nonneg fun d _ => (plan_bd h i (d + 1)).1, sumN_bd fun d _ => (plan_bd h i (d + 1)).2⟩

set_option maxRecDepth 100000 in
set_option maxHeartbeats 4000000 in
theorem gone_any (L : List (List Int)) (s : Value) (i : Nat) (t : Int) (w : World) (hs : Rows w s L) (hi : i < L.length) (hsm : Small L) (ht : -1000 ≤ t ∧ t ≤ 1000) :
    Calls Try.prog 48 #[s, .int .i64 i, .int .i64 t] w fun e w' => e = .returned (.int .i64 (gone (planP L) i t)) ∧ w' = w := by
  obtain ⟨b, off, c, rfl, hlc, hb, hrow⟩ := hs.some (by omega)
  obtain ⟨r, hr⟩ := get_at hi
  obtain ⟨v, hv, hI⟩ := hrow i r hr
  have hrl := (hsm r (List.mem_of_getElem? hr)).1
  have hpl : ∀ d, planP L i (d + 1) = r.getD d 0 := fun d => by simp [planP, List.getD, hr]
  have HB := Lib.hid (fun k => gone_bd hsm i k)
  have HP := Lib.hid hpl
  have HXB := Lib.hid (hsm r (List.mem_of_getElem? hr)).2
  have HG : Hid (∀ k : Nat, k ≤ t.toNat → (k = t.toNat ∨ r.length ≤ k) → gone (planP L) i t = sumN (fun d => planP L i (d + 1)) k) := fun k h1 h2 => by
    unfold gone
    rcases h2 with h2 | h2
    · rw [h2]
    · exact sumN_tail h1 fun d hd _ => by rw [hpl, List.getD, List.getElem?_eq_none (by omega)]; rfl
  have hiI : (i : Int) < (L.length : Int) := by omega
  clear hrow hr hpl hsm
  rcases hI with ⟨rfl, rfl⟩ | ⟨b2, o2, c2, rfl, hc2, hb2, hcell⟩
  · go_enter Try.func48, Try.ntmps48
    go_wp2
    go_loop [7, 8] (fun n d => n = .int .i64 0 ∧ d = .int .i64 1) (fun _ _ => 0)
    case atStart => exact ⟨rfl, rfl⟩
    case round =>
      obtain ⟨rfl, rfl⟩ := hrel
      have hg := HG.out 0 (Nat.zero_le _) (.inr (Nat.zero_le _))
      have HG2 := hid hg
      clear hg
      by_cases h1 : 1 ≤ t
      · go_wp2
        go_ret
        exact ⟨ret_i64 (by rw [HG2.out]; rfl), rfl⟩
      · have h1' : decide (1 ≤ t) = false := by simpa using h1
        go_wp2
        go_ret
        exact ⟨ret_i64 (by rw [HG2.out]; rfl), rfl⟩
  · have HC := Lib.hid hcell
    clear hcell
    go_enter Try.func48, Try.ntmps48
    go_wp2
    go_loop [7, 8] (fun n d => ∃ k : Nat, k ≤ t.toNat ∧ k ≤ r.length ∧ d = .int .i64 ((k : Int) + 1) ∧ n = .int .i64 (sumN (fun d => planP L i (d + 1)) k)) (fun _ d => r.length + 1 - (intOf d).toNat)
    case atStart => exact ⟨0, Nat.zero_le _, Nat.zero_le _, rfl, rfl⟩
    case round =>
      obtain ⟨k, hk1, hk2, rfl, rfl⟩ := hrel
      have hbd := HB.out k
      have hw1 : IntKind.i64.wrap ((k : Int) + 1 - 1) = k := by rw [IntWalk.i64_in _ (by omega)]; omega
      by_cases h1 : (k : Int) + 1 ≤ t
      · by_cases h2 : k < r.length
        · obtain ⟨x, hx⟩ := get_at h2
          have hcx := HC.out k x hx
          have hxb := HXB.out x (List.mem_of_getElem? hx)
          have HS : Hid (sumN (fun d => planP L i (d + 1)) (k + 1) = sumN (fun d => planP L i (d + 1)) k + x) := by
            show sumN (fun d => planP L i (d + 1)) (k + 1) = _
            rw [sumN_succ, HP.out, List.getD, hx]; rfl
          have h2' : decide ((k : Int) + 1 ≤ (r.length : Int)) = true := by simp; omega
          have h3 : (k : Int) < (r.length : Int) := by omega
          clear hx
          generalize sumN (fun d => planP L i (d + 1)) k = n at *
          go_wp2
          go_round
          case rel => exact ⟨k + 1, by omega, by omega, by go_num, by rw [HS.out]⟩
          case measure => simp [intOf]; omega
        · have hg := HG.out k hk1 (.inr (by omega))
          have HG2 := hid hg
          have h2' : decide ((k : Int) + 1 ≤ (r.length : Int)) = false := by simp; omega
          clear hg
          go_wp2
          go_ret
          exact ⟨ret_i64 (by rw [HG2.out]), rfl⟩
      · have hg := HG.out k hk1 (.inl (by omega))
        have HG2 := hid hg
        have h1' : decide ((k : Int) + 1 ≤ t) = false := by simpa using h1
        clear hg
        go_wp2
        go_ret
        exact ⟨ret_i64 (by rw [HG2.out]), rfl⟩

end Go.Proofs.Ytbnmjbmlejifcaa
