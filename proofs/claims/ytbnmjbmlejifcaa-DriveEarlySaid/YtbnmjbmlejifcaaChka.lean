/- What CheckPlan asks of the lists of a plan: the walks. -/
import Derived.Test.YtbnmjbmlejifcaaPlan
set_option linter.all false
namespace Go.Proofs.Ytbnmjbmlejifcaa
open Go Go.RowKit Go.Proofs
attribute [local go_sem] cell_grow frozen_grow

/-- The slice value s holds the lists L; of an empty one nothing is known but that. -/
def Rows0 (w : World) (s : Value) (L : List (List Int)) : Prop :=
  (s = .slice none 0 0 ∧ L = []) ∨ ∃ b off c, s = .slice (some ⟨b, off, none⟩) L.length c ∧ L.length ≤ c ∧ b < w.heap.size ∧ ∀ (i : Nat) (r : List Int), L[i]? = some r → ∃ A c', w.cell? ⟨b, off + i, none⟩ = some (.slice A r.length c') ∧ (1 ≤ r.length → Ints w (.slice A r.length c') r)
theorem Rows0.mono {w v : World} {s : Value} {L : List (List Int)} (h : Rows0 w s L) (hb : Below w.heap.size w v) : Rows0 v s L := by
  rcases h with h | ⟨b, off, c, h1, h2, h3, h4⟩
  · exact .inl h
  · refine .inr ⟨b, off, c, h1, h2, Nat.lt_of_lt_of_le h3 hb.size, fun i r hr => ?_⟩
    obtain ⟨A, c', h5, h6⟩ := h4 i r hr
    exact ⟨A, c', cell_mono h5 hb, fun q => (h6 q).mono hb⟩
theorem Rows0.slice {w : World} {s : Value} {L : List (List Int)} (h : Rows0 w s L) : ∃ A c, s = .slice A L.length c := by
  rcases h with ⟨rfl, rfl⟩ | ⟨b, off, c, rfl, _⟩
  · exact ⟨_, _, rfl⟩
  · exact ⟨_, _, rfl⟩
theorem Rows0.some {w : World} {s : Value} {L : List (List Int)} (h : Rows0 w s L) (hl : 1 ≤ L.length) : ∃ b off c, s = .slice (some ⟨b, off, none⟩) L.length c ∧ L.length ≤ c ∧ b < w.heap.size ∧ ∀ (i : Nat) (r : List Int), L[i]? = Option.some r → ∃ A c', w.cell? ⟨b, off + i, none⟩ = Option.some (.slice A r.length c') ∧ (1 ≤ r.length → Ints w (.slice A r.length c') r) := by
  rcases h with ⟨_, rfl⟩ | h
  · simp at hl
  · exact h
theorem Rows0.rows {w : World} {s : Value} {L : List (List Int)} (h : Rows0 w s L) (hl : ∀ r ∈ L, 1 ≤ r.length) : Rows w s L := by
  rcases h with h | ⟨b, off, c, h1, h2, h3, h4⟩
  · exact .inl h
  · refine .inr ⟨b, off, c, h1, h2, h3, fun i r hr => ?_⟩
    obtain ⟨A, c', h5, h6⟩ := h4 i r hr
    exact ⟨_, h5, h6 (hl r (List.mem_of_getElem? hr))⟩
theorem Rows.weak {w : World} {s : Value} {L : List (List Int)} (h : Rows w s L) : Rows0 w s L := by
  rcases h with h | ⟨b, off, c, h1, h2, h3, h4⟩
  · exact .inl h
  · refine .inr ⟨b, off, c, h1, h2, h3, fun i r hr => ?_⟩
    obtain ⟨v, h5, h6⟩ := h4 i r hr
    obtain ⟨A, c', rfl⟩ := h6.slice
    exact ⟨A, c', h5, fun _ => h6⟩

def shortB (days : Int) (r : List Int) : Bool := decide ((r.length : Int) ≠ days)
theorem short_any (days : Int) (sr : Value) (R : Nat) (r : List Int) (s : Value) (w : World) (hR : w.heap[R]? = some (.cells #[.int .i64 days, sr] 24 (0, 0))) (hs : ∃ A c, s = .slice A r.length c) :
    Calls Try.prog 57 #[s, .pointer (some ⟨R, 0, none⟩)] w fun e w' => e = .returned (.bool (shortB days r)) ∧ w' = w := by
  obtain ⟨A, c, rfl⟩ := hs
  have r0 : w.cell? ⟨R, 0, none⟩ = some (.int .i64 days) := cell_of_heap hR
  have l0 := (Array.getElem?_eq_some_iff.1 hR).1
  clear hR
  by_cases h : (r.length : Int) = days
  · have d1 : ((r.length : Int) != days) = false := by simp [h]
    have e1 := hid (show shortB days r = false by simp [shortB, h])
    clear h
    go_enter Try.func57, Try.ntmps57
    go_wp2
    go_ret
    exact ⟨by rw [e1.out]; rfl, rfl⟩
  · have d1 : ((r.length : Int) != days) = true := by simp [h]
    have e1 := hid (show shortB days r = true by simp [shortB, h])
    clear h
    go_enter Try.func57, Try.ntmps57
    go_wp2
    go_ret
    exact ⟨by rw [e1.out]; rfl, rfl⟩

def NoShort (days : Int) (L : List (List Int)) (k : Nat) : Prop := ∀ (i : Nat) (r : List Int), i < k → L[i]? = some r → shortB days r = false
theorem noShort_all {days : Int} {L : List (List Int)} (h : NoShort days L L.length) : L.any (shortB days) = false := by
  rw [List.any_eq_false]
  intro r hr
  obtain ⟨i, hi⟩ := List.getElem?_of_mem hr
  rw [h i r (List.getElem?_eq_some_iff.1 hi).1 hi]; decide
theorem short_some {days : Int} {L : List (List Int)} {k : Nat} {r : List Int} (hk : L[k]? = some r) (h : shortB days r = true) : L.any (shortB days) = true :=
  List.any_eq_true.2 ⟨r, List.mem_of_getElem? hk, h⟩

theorem indexS_any (days : Int) (sr : Value) (R : Nat) (L : List (List Int)) (s : Value) (w : World) (hl : L.length ≤ 1000) (hR : w.heap[R]? = some (.cells #[.int .i64 days, sr] 24 (0, 0))) (hs : Rows0 w s L) :
    Calls Try.prog 81 #[s, .func (.func 57) #[] #[.pointer (some ⟨R, 0, none⟩)]] w fun e w' => (∃ r, e = .returned (.int .i64 r) ∧ FoundAt r (L.any (shortB days))) ∧ w' = w := by
  rcases hs with ⟨rfl, rfl⟩ | ⟨b, off, c, rfl, hc, hb, hcell⟩
  · go_enter Try.func81, Try.ntmps81
    go_wp2
    go_loop [5, 8] (fun _ i => i = .int .i64 0) (fun _ _ => 0)
    case atStart => exact rfl
    case round =>
      obtain rfl := hrel
      go_wp2
      go_ret
      exact ⟨⟨_, rfl, by simp [FoundAt]⟩, rfl⟩
  · have HC := Lib.hid hcell
    have HR := hid hR
    clear hcell hR
    go_enter Try.func81, Try.ntmps81
    go_wp2
    go_loop [5, 8] (fun _ i => ∃ k : Nat, k ≤ L.length ∧ i = .int .i64 k ∧ NoShort days L k) (fun _ i => L.length - (intOf i).toNat)
    case atStart => exact ⟨0, Nat.zero_le _, rfl, fun i _ h => by omega⟩
    case round =>
      obtain ⟨k, hk, rfl, hn⟩ := hrel
      by_cases hlt : k < L.length
      · obtain ⟨x, hx⟩ := get_at hlt
        obtain ⟨A2, c2, hck, hiv⟩ := HC.out k x hx
        have hcall := short_any days sr R x _ w HR.out ⟨A2, c2, rfl⟩
        have Hx := hid hx
        have hn' := hid hn
        clear hx hn hiv
        cases hbad : shortB days x with
        | true =>
          rw [hbad] at hcall
          have hany := hid (short_some Hx.out hbad)
          clear hbad
          go_wp2_with (go_at_call 57; refine hcall.mono ?_; rintro e w' ⟨rfl, rfl⟩)
          go_ret
          exact ⟨⟨_, rfl, by rw [hany.out]; simp [FoundAt]⟩, rfl⟩
        | false =>
          rw [hbad] at hcall
          have hn2 : Hid (NoShort days L (k + 1)) := by
            intro i r hi hr
            by_cases e : i = k
            · subst e; have h := Hx.out; rw [hr] at h; injection h with h; subst h; exact hbad
            · exact hn'.out i r (by omega) hr
          clear hbad
          go_wp2_with (go_at_call 57; refine hcall.mono ?_; rintro e w' ⟨rfl, rfl⟩)
          go_round
          case rel => exact ⟨k + 1, by omega, by go_num, hn2.out⟩
          case measure => simp [intOf]; omega
      · obtain rfl : k = L.length := by omega
        have hall := hid (noShort_all hn)
        clear hn
        go_wp2
        go_ret
        exact ⟨⟨_, rfl, by rw [hall.out]; simp [FoundAt]⟩, rfl⟩
theorem containsS_any (days : Int) (sr : Value) (R : Nat) (L : List (List Int)) (s : Value) (w : World) (hl : L.length ≤ 1000) (hR : w.heap[R]? = some (.cells #[.int .i64 days, sr] 24 (0, 0))) (hs : Rows0 w s L) :
    Calls Try.prog 58 #[s, .func (.func 57) #[] #[.pointer (some ⟨R, 0, none⟩)]] w fun e w' => e = .returned (.bool (L.any (shortB days))) ∧ w' = w := by
  have hcall := indexS_any days sr R L s w hl hR hs
  clear hR
  cases hany : L.any (shortB days)
  · rw [hany] at hcall
    clear hany
    go_enter Try.func58, Try.ntmps58
    go_wp2_with fail
    refine hcall.mono ?_
    rintro e w2 ⟨⟨r, rfl, hr⟩, rfl⟩
    obtain rfl : r = -1 := by simpa [FoundAt] using hr
    clear hr
    go_wp2
    go_ret
    exact ⟨rfl, rfl⟩
  · rw [hany] at hcall
    clear hany
    go_enter Try.func58, Try.ntmps58
    go_wp2_with fail
    refine hcall.mono ?_
    rintro e w2 ⟨⟨r, rfl, hr⟩, rfl⟩
    have hr' : decide (0 ≤ r) = true := by simpa [FoundAt] using hr
    clear hr
    go_wp2
    go_ret
    exact ⟨rfl, rfl⟩

/-- What a plan lets in. -/
theorem enter_any (L : List (List Int)) (s : Value) (Q i d D : Nat) (above : Int) (w : World) (hQ : w.heap[Q]? = some (.cells #[s] 25 (0, 0))) (hs : Rows w s L) (hf : Full L.length D L) (hi : i < L.length) (hd : d < D) (hD : D ≤ 1000) (hl : L.length ≤ 1000) :
    Calls Try.prog 63 #[.int .i64 (i : Int), .int .i64 ((d : Int) + 1), .int .i64 above, .pointer (some ⟨Q, 0, none⟩)] w fun e w' => e = .returned (.int .i64 (planP L i (d + 1))) ∧ Below w.heap.size w w' := by
  obtain ⟨b, off, c, rfl, hc, hb, hcell⟩ := hs.some (by omega)
  obtain ⟨q, hq⟩ := get_at hi
  obtain ⟨v, hv, hiv⟩ := hcell i q hq
  have hql := hf.2 q (List.mem_of_getElem? hq)
  obtain ⟨b2, off2, c2, rfl, hc2, hb2, hcell2⟩ := hiv.some (by omega)
  obtain ⟨x, hx⟩ := get_at (l := q) (k := d) (by omega)
  have hx2 := hcell2 d x hx
  have hp : planP L i (d + 1) = x := by simp [planP, List.getD, hq, hx]
  have HP := hid hp
  have q0 : w.cell? ⟨Q, 0, none⟩ = some (.slice (some ⟨b, off, none⟩) L.length c) := cell_of_heap hQ
  have ql := (Array.getElem?_eq_some_iff.1 hQ).1
  have hwd : IntKind.i64.wrap ((d : Int) + 1 - 1) = d := by rw [IntWalk.i64_in _ (by omega)]; omega
  have hI : (i : Int) < (L.length : Int) := by omega
  have hdI : (d : Int) < (q.length : Int) := by omega
  clear hcell hcell2 hp hQ hs hf hiv hq hx hql
  go_enter Try.func63, Try.ntmps63
  go_wp2
  go_ret
  exact ⟨by rw [HP.out]; rfl, bl_refl _⟩

end Go.Proofs.Ytbnmjbmlejifcaa
