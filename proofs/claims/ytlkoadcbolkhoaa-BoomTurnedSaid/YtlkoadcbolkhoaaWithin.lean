/- drive.within and what it calls: all numbers are from one to another one. -/
import Derived.Test.YtlkoadcbolkhoaaKit
set_option linter.all false
namespace Go.Proofs.Ytlkoadcbolkhoaa
open Go Go.RowKit Go.Proofs

def badB (lo hi n : Int) : Bool := decide (n < lo) || decide (hi < n)
def withinB (lo hi : Int) (l : List Int) : Bool := !l.any (badB lo hi)

set_option maxHeartbeats 1000000 in
theorem within1_any (lo hi n : Int) (b1 b2 : Nat) (w : World) (h1 : w.cell? ⟨b1, 0, none⟩ = some (.int .i64 lo)) (h2 : w.cell? ⟨b2, 0, none⟩ = some (.int .i64 hi)) :
    Calls Try.prog 96 #[.int .i64 n, .pointer (some ⟨b1, 0, none⟩), .pointer (some ⟨b2, 0, none⟩)] w fun e w' => e = .returned (.bool (badB lo hi n)) ∧ w' = w := by
  by_cases c1 : n < lo
  · go_enter Try.func96, Try.ntmps96
    go_wp2
    go_ret
    exact ⟨by simp [badB, c1], rfl⟩
  · have c1' : decide (n < lo) = false := by simpa using c1
    go_enter Try.func96, Try.ntmps96
    go_wp2
    go_ret
    exact ⟨by simp [badB, c1'], rfl⟩

def NoBad (lo hi : Int) (l : List Int) (k : Nat) : Prop := ∀ i x, i < k → l[i]? = some x → badB lo hi x = false
theorem noBad_all {lo hi : Int} {l : List Int} (h : NoBad lo hi l l.length) : l.any (badB lo hi) = false := by
  rw [List.any_eq_false]
  intro x hx
  obtain ⟨i, hi, rfl⟩ := List.mem_iff_getElem.mp hx
  have := h i (l[i]) hi (by simp [hi]); simpa using this
theorem bad_any {lo hi : Int} {l : List Int} {k : Nat} {x : Int} (hk : l[k]? = some x) (h : badB lo hi x = true) : l.any (badB lo hi) = true := by
  rw [List.any_eq_true]
  exact ⟨x, List.mem_of_getElem? hk, h⟩
theorem noBad_succ {lo hi : Int} {l : List Int} {k : Nat} {x : Int} (h : NoBad lo hi l k) (hx : l[k]? = some x) (hb : badB lo hi x = false) : NoBad lo hi l (k + 1) := by
  intro i y hi hy
  by_cases e : i = k
  · subst e; rw [hx] at hy; cases hy; exact hb
  · exact h i y (by omega) hy

/-- what the search returns: at least 0 just if one is bad -/
def FoundAt (r : Int) (b : Bool) : Prop := if b = true then 0 ≤ r else r = -1

set_option maxHeartbeats 1000000 in
theorem indexFunc_any (lo hi : Int) (l : List Int) (s : Value) (b1 b2 : Nat) (w : World) (hl : l.length ≤ 1000000) (h1 : w.cell? ⟨b1, 0, none⟩ = some (.int .i64 lo)) (h2 : w.cell? ⟨b2, 0, none⟩ = some (.int .i64 hi)) (hs : Ints w s l) :
    Calls Try.prog 94 #[s, .func (.func 96) #[] #[.pointer (some ⟨b1, 0, none⟩), .pointer (some ⟨b2, 0, none⟩)]] w fun e w' => (∃ r, e = .returned (.int .i64 r) ∧ FoundAt r (l.any (badB lo hi))) ∧ w' = w := by
  rcases hs with ⟨rfl, rfl⟩ | ⟨b, off, c, rfl, hc, hb, hcell⟩
  · go_enter Try.func94, Try.ntmps94
    go_wp2
    go_loop [5, 8] (fun _ i => i = .int .i64 0) (fun _ _ => 0)
    case atStart => exact rfl
    case round =>
      obtain rfl := hrel
      go_wp2
      go_ret
      exact ⟨⟨_, rfl, by simp [FoundAt]⟩, rfl⟩
  · go_enter Try.func94, Try.ntmps94
    go_wp2
    go_loop [5, 8] (fun _ i => ∃ k : Nat, k ≤ l.length ∧ i = .int .i64 k ∧ NoBad lo hi l k) (fun _ i => l.length - (intOf i).toNat)
    case atStart => exact ⟨0, Nat.zero_le _, rfl, fun i _ h => by omega⟩
    case round =>
      obtain ⟨k, hk, rfl, hn⟩ := hrel
      by_cases hlt : k < l.length
      · obtain ⟨x, hx⟩ := get_at hlt
        have hck := hcell k x hx
        have Hx := hid hx
        clear hx hcell
        have hn' := hid hn
        clear hn
        cases hbad : badB lo hi x with
        | true =>
          have hany := hid (bad_any Hx.out hbad)
          have hbad' := hid hbad
          clear hbad
          go_wp2_with (go_at_call 96; refine (within1_any lo hi _ b1 b2 _ h1 h2).mono ?_; rintro e w' ⟨rfl, rfl⟩; rw [hbad'.out])
          go_ret
          exact ⟨⟨_, rfl, by rw [hany.out]; simp [FoundAt]⟩, rfl⟩
        | false =>
          have hn2 := hid (noBad_succ hn'.out Hx.out hbad)
          have hbad' := hid hbad
          clear hbad
          go_wp2_with (go_at_call 96; refine (within1_any lo hi _ b1 b2 _ h1 h2).mono ?_; rintro e w' ⟨rfl, rfl⟩; rw [hbad'.out])
          go_round
          case rel => exact ⟨k + 1, by omega, by go_num, hn2.out⟩
          case measure => simp [intOf]; omega
      · obtain rfl : k = l.length := by omega
        have hall := hid (noBad_all hn)
        clear hn
        go_wp2
        go_ret
        exact ⟨⟨_, rfl, by rw [hall.out]; simp [FoundAt]⟩, rfl⟩

theorem contains_any (lo hi : Int) (l : List Int) (s : Value) (b1 b2 : Nat) (w : World) (hl : l.length ≤ 1000000) (h1 : w.cell? ⟨b1, 0, none⟩ = some (.int .i64 lo)) (h2 : w.cell? ⟨b2, 0, none⟩ = some (.int .i64 hi)) (hs : Ints w s l) :
    Calls Try.prog 64 #[s, .func (.func 96) #[] #[.pointer (some ⟨b1, 0, none⟩), .pointer (some ⟨b2, 0, none⟩)]] w fun e w' => e = .returned (.bool (l.any (badB lo hi))) ∧ w' = w := by
  go_enter Try.func64, Try.ntmps64
  cases hany : l.any (badB lo hi)
  · have hany' := hid hany
    clear hany
    go_wp2_with (go_at_call 94; refine (indexFunc_any lo hi l s b1 b2 _ hl h1 h2 hs).mono ?_; rintro e w' ⟨⟨r, rfl, hr⟩, rfl⟩; rw [hany'.out] at hr; (obtain rfl : r = -1 := by simpa [FoundAt] using hr); clear hr)
    go_ret
    exact ⟨rfl, rfl⟩
  · have hany' := hid hany
    clear hany
    go_wp2_with (go_at_call 94; refine (indexFunc_any lo hi l s b1 b2 _ hl h1 h2 hs).mono ?_; rintro e w' ⟨⟨r, rfl, hr⟩, rfl⟩; rw [hany'.out] at hr; (have hr' : decide (0 ≤ r) = true := by simpa [FoundAt] using hr); clear hr)
    go_ret
    exact ⟨by simp, rfl⟩

set_option maxHeartbeats 1000000 in
theorem within_any (lo hi : Int) (l : List Int) (s : Value) (w : World) (hl : l.length ≤ 1000000) (hs : Ints w s l) :
    Calls Try.prog 69 #[.int .i64 lo, .int .i64 hi, s] w fun e w' => e = .returned (.bool (withinB lo hi l)) ∧ Below w.heap.size w w' := by
  go_enter Try.func69, Try.ntmps69
  go_wp2_with (go_at_call 64; refine (contains_any lo hi l s _ _ _ hl (by simp [go_sem]) (by simp [go_sem]) (hs.mono (bl_alloc (bl_alloc (bl_refl _) _) _))).mono ?_; rintro e w' ⟨rfl, rfl⟩)
  go_ret
  exact ⟨by simp [withinB], bl_alloc (bl_alloc (bl_refl _) _) _⟩

end Go.Proofs.Ytlkoadcbolkhoaa
