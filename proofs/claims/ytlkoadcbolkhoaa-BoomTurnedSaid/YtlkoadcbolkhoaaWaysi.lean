/- Ways in memory; whether one of them has a property. -/
import Derived.Test.YtlkoadcbolkhoaaSticks
import Derived.Test.YtlkoadcbolkhoaaSmall
set_option linter.all false
namespace Go.Proofs.Ytlkoadcbolkhoaa
open Go Go.RowKit Go.Proofs
attribute [local go_sem] cell_grow frozen_grow

/-- A way in memory. -/
def WayAt (W : World) (b o : Nat) (x : Way) : Prop := ∃ s, W.cell? ⟨b, o, none⟩ = some s ∧ Ints W s x.cells ∧ W.cell? ⟨b, o + 1, none⟩ = some (.int .i64 x.out)
theorem WayAt.mono {W W' : World} {b o : Nat} {x : Way} (h : WayAt W b o x) (hb : Below W.heap.size W W') : WayAt W' b o x := by
  obtain ⟨s, h1, h2, h3⟩ := h
  exact ⟨s, cell_mono h1 hb, h2.mono hb, cell_mono h3 hb⟩
/-- The slice value v holds the ways l. -/
def WaysI (W : World) (v : Value) (l : List Way) : Prop :=
  (v = .slice none 0 0 ∧ l = []) ∨ ∃ b off c, v = .slice (some ⟨b, off, none⟩) l.length c ∧ l.length ≤ c ∧ b < W.heap.size ∧ ∀ i x, l[i]? = some x → WayAt W b (off + i * 2) x
theorem WaysI.mono {W W' : World} {v : Value} {l : List Way} (h : WaysI W v l) (hb : Below W.heap.size W W') : WaysI W' v l := by
  rcases h with h | ⟨b, off, c, h1, h2, h3, h4⟩
  · exact .inl h
  · exact .inr ⟨b, off, c, h1, h2, Nat.lt_of_lt_of_le h3 hb.size, fun i x hx => (h4 i x hx).mono hb⟩
theorem Ints.slice {W : World} {v : Value} {l : List Int} (h : Ints W v l) : ∃ A c, v = .slice A l.length c := by
  rcases h with ⟨rfl, rfl⟩ | ⟨b, off, c, rfl, _⟩
  · exact ⟨none, 0, rfl⟩
  · exact ⟨_, _, rfl⟩
theorem WaysI.slice {W : World} {v : Value} {l : List Way} (h : WaysI W v l) : ∃ A c, v = .slice A l.length c := by
  rcases h with ⟨rfl, rfl⟩ | ⟨b, off, c, rfl, _⟩
  · exact ⟨none, 0, rfl⟩
  · exact ⟨_, _, rfl⟩
def NoPA {α : Type} (p : α → Bool) (l : List α) (k : Nat) : Prop := ∀ i x, i < k → l[i]? = some x → p x = false
theorem noPA_all {α : Type} {p : α → Bool} {l : List α} (h : NoPA p l l.length) : l.any p = false := by
  rw [List.any_eq_false]
  intro x hx
  obtain ⟨i, hi, rfl⟩ := List.mem_iff_getElem.mp hx
  rw [h i _ hi (by simp [hi])]
  simp
theorem noPA_any {α : Type} {p : α → Bool} {l : List α} {k : Nat} {x : α} (hk : l[k]? = some x) (h : p x = true) : l.any p = true := by
  rw [List.any_eq_true]
  exact ⟨x, List.mem_of_getElem? hk, h⟩
theorem noPA_succ {α : Type} {p : α → Bool} {l : List α} {k : Nat} {x : α} (h : NoPA p l k) (hx : l[k]? = some x) (hb : p x = false) : NoPA p l (k + 1) := by
  intro i y hi hy
  by_cases e : i = k
  · subst e; rw [hx] at hy; cases hy; exact hb
  · exact h i y (by omega) hy

def wayLong (x : Way) : Bool := !withinB 1 64 [(x.cells.length : Int)]
def wayStray (n : Int) (x : Way) : Bool := !withinB 0 (n - 1) x.cells || !withinB (-1) 3 [x.out]
set_option maxHeartbeats 4000000 in
theorem long_any (x : Way) (s : Value) (w : World) (hl : x.cells.length ≤ 1000000) (hs : Ints w s x.cells) :
    Calls Try.prog 77 #[.agg #[s, .int .i64 x.out]] w fun e w' => e = .returned (.bool (wayLong x)) ∧ Below w.heap.size w w' := by
  obtain ⟨A, c, rfl⟩ := hs.slice
  have hb0 := bl_alloc (bl_refl w) (.cells #[.slice A x.cells.length c, .int .i64 x.out] 81)
  have hb1 := bl_alloc hb0 (.cells #[.int .i64 (x.cells.length : Int)] 3)
  have hcall := within_any 1 64 [(x.cells.length : Int)] (.slice (some ⟨w.heap.size + 1, 0, none⟩) 1 1) ((w.alloc (.cells #[.slice A x.cells.length c, .int .i64 x.out] 81)).alloc (.cells #[.int .i64 (x.cells.length : Int)] 3)) (by simp) (by
    have h := ints_row (l := [(x.cells.length : Int)]) (World.alloc_heap_new (w.alloc (.cells #[.slice A x.cells.length c, .int .i64 x.out] 81)) (.cells #[.int .i64 (x.cells.length : Int)] 3))
    rw [World.size_alloc] at h
    exact h)
  unfold wayLong
  have HB := hid hb1
  clear hb0 hb1
  generalize withinB 1 64 [(x.cells.length : Int)] = q at *
  go_enter Try.func77, Try.ntmps77
  go_wp2_with fail
  refine hcall.mono ?_
  rintro e w' ⟨rfl, hb⟩
  have HB2 := hid (bl_trans HB.out hb)
  clear hcall hb
  go_wp2
  go_ret
  exact ⟨rfl, HB2.out⟩
set_option maxHeartbeats 4000000 in
theorem stray_any (n : Nat) (wd hg : Int) (sw sk : Value) (R : Nat) (x : Way) (s : Value) (w : World) (hn : wd * hg = (n : Int)) (hn64 : n ≤ 64) (hl : x.cells.length ≤ 1000000) (hs : Ints w s x.cells) (hR : w.heap[R]? = some (.cells #[.int .i64 wd, .int .i64 hg, sw, sk] 24 (0, 0))) :
    Calls Try.prog 78 #[.agg #[s, .int .i64 x.out], .pointer (some ⟨R, 0, none⟩)] w fun e w' => e = .returned (.bool (wayStray (n : Int) x)) ∧ Below w.heap.size w w' := by
  obtain ⟨A, c, rfl⟩ := hs.slice
  have hb0 := bl_alloc (bl_refl w) (.cells #[.slice A x.cells.length c, .int .i64 x.out] 81)
  have k0 := World.alloc_heap_new w (.cells #[.slice A x.cells.length c, .int .i64 x.out] 81)
  have hmul : IntKind.i64.wrap (wd * hg) = (n : Int) := by rw [hn]; exact IntWalk.i64_in _ (by omega)
  have hsub : IntKind.i64.wrap ((n : Int) - 1) = (n : Int) - 1 := IntWalk.i64_in _ (by omega)
  have hcall := within_any 0 ((n : Int) - 1) x.cells _ _ hl (hs.mono hb0)
  have HB := hid hb0
  have HK := hid k0
  have HR := hid (heap_mono hR hb0)
  have hout : ∀ w' : World, Calls Try.prog 69 #[.int .i64 (-1), .int .i64 3, .slice (some ⟨w'.heap.size, 0, none⟩) 1 1] (w'.alloc (.cells #[.int .i64 x.out] 3)) fun e w'' => e = .returned (.bool (withinB (-1) 3 [x.out])) ∧ Below (w'.alloc (.cells #[.int .i64 x.out] 3)).heap.size (w'.alloc (.cells #[.int .i64 x.out] 3)) w'' := fun w' =>
    within_any (-1) 3 [x.out] _ _ (by simp) (ints_row (l := [x.out]) (World.alloc_heap_new w' _))
  unfold wayStray
  generalize withinB 0 ((n : Int) - 1) x.cells = q at *
  generalize withinB (-1) 3 [x.out] = q2 at *
  have HO := hid hout
  clear hb0 k0 hR hs hout hn
  go_enter Try.func78, Try.ntmps78
  go_upto_region 1 with (fail)
  obtain ⟨w1, hw1⟩ : ∃ w1, w.alloc (.cells #[.slice A x.cells.length c, .int .i64 x.out] 81) = w1 := ⟨_, rfl⟩
  obtain ⟨X, hX⟩ : ∃ X, w.heap.size = X := ⟨_, rfl⟩
  rw [hX] at HK ⊢
  rw [hw1] at HB HK HR hcall ⊢
  clear hw1
  have r0 : w1.cell? ⟨R, 0, none⟩ = some (.int .i64 wd) := cell_of_heap HR.out
  have r1 : w1.cell? ⟨R, 1, none⟩ = some (.int .i64 hg) := cell_of_heap HR.out
  have rl := (Array.getElem?_eq_some_iff.1 HR.out).1
  have x0 : w1.cell? ⟨X, 0, none⟩ = some (.slice A x.cells.length c) := cell_of_heap HK.out
  have xl := (Array.getElem?_eq_some_iff.1 HK.out).1
  go_wp2_with fail
  refine hcall.mono ?_
  rintro e w2 ⟨rfl, hb2⟩
  have HB2 := hid (bl_trans HB.out hb2)
  have k2 := heap_mono HK.out hb2
  have x1 : w2.cell? ⟨X, 1, none⟩ = some (.int .i64 x.out) := cell_of_heap k2
  have xl2 := (Array.getElem?_eq_some_iff.1 k2).1
  clear hcall hb2 r0 r1 rl x0 xl k2
  cases q with
  | false =>
    go_wp2
    go_ret
    exact ⟨rfl, by rw [← hX] at *; exact HB2.out⟩
  | true =>
    have hcall := HO.out w2
    have hb3 := hid (bl_alloc HB2.out (.cells #[.int .i64 x.out] 3))
    go_wp2_with fail
    refine hcall.mono ?_
    rintro e w3 ⟨rfl, hb4⟩
    have HB4 := hid (bl_trans hb3.out hb4)
    clear hcall hb4
    cases q2 with
    | false =>
      go_wp2
      go_ret
      exact ⟨rfl, by rw [← hX] at *; exact HB4.out⟩
    | true =>
      go_wp2
      go_ret
      exact ⟨rfl, by rw [← hX] at *; exact HB4.out⟩

set_option maxHeartbeats 4000000 in
theorem idxLong_any (p : Way → Bool) (l : List Way) (v : Value) (w : World) (hl : l.length ≤ 1000000) (hp : ∀ (x : Way) (s : Value) (W : World), x ∈ l → Below w.heap.size w W → Ints W s x.cells → Calls Try.prog 77 #[.agg #[s, .int .i64 x.out]] W fun e w' => e = .returned (.bool (p x)) ∧ Below W.heap.size W w') (hs : WaysI w v l) :
    Calls Try.prog 101 #[v, .func (.func 77) #[] #[]] w fun e w' => (∃ r, e = .returned (.int .i64 r) ∧ FoundAt r (l.any p)) ∧ Below w.heap.size w w' := by
  rcases hs with ⟨rfl, rfl⟩ | ⟨b, off, c, rfl, hc, hb, hcell⟩
  · clear hp
    go_enter Try.func101, Try.ntmps101
    go_wp2
    go_loop [5, 8] (fun _ i => i = .int .i64 0) (fun _ _ => 0)
    case atStart => exact rfl
    case round =>
      obtain rfl := hrel
      go_wp2
      go_ret
      exact ⟨⟨_, rfl, by simp [FoundAt]⟩, bl_refl _⟩
  · have HP := hid hp
    have HC := hid hcell
    clear hp hcell
    go_enter Try.func101, Try.ntmps101
    go_wp2
    go_loopw [5, 8] (fun _ i wr => ∃ k : Nat, k ≤ l.length ∧ i = .int .i64 k ∧ NoPA p l k ∧ Below w.heap.size w wr) (fun _ i _ => l.length - (intOf i).toNat)
    case atStart => exact ⟨0, Nat.zero_le _, rfl, fun i _ h => by omega, bl_refl _⟩
    case round =>
      obtain ⟨k, hk, rfl, hn, hB⟩ := hrel
      by_cases hlt : k < l.length
      · obtain ⟨x, hx⟩ := get_at hlt
        have hbl := hB.size
        obtain ⟨s, hc0, hsi, hc1⟩ := (HC.out k x hx).mono hB
        have HX := hid hx
        have hpx := HP.out x s wr (List.mem_of_getElem? hx) hB hsi
        obtain ⟨SA, sc, rfl⟩ := hsi.slice
        have HN := hid hn
        have HB := hid hB
        clear hx hsi hn hB
        cases hbad : p x with
        | true =>
          have hany := hid (noPA_any HX.out hbad)
          rw [hbad] at hpx
          clear hbad
          go_wp2_with fail
          refine hpx.mono ?_
          rintro e w' ⟨rfl, hb'⟩
          have HB' := hid (bl_trans HB.out hb')
          clear hpx hb' hc0 hc1
          go_wp2
          go_ret
          exact ⟨⟨_, rfl, by rw [hany.out]; simp [FoundAt]⟩, HB'.out⟩
        | false =>
          have hn2 := hid (noPA_succ HN.out HX.out hbad)
          rw [hbad] at hpx
          clear hbad
          go_wp2_with fail
          refine hpx.mono ?_
          rintro e w' ⟨rfl, hb'⟩
          have HB' := hid (bl_trans HB.out hb')
          clear hpx hb' hc0 hc1
          go_wp2
          go_roundw
          case rel => exact ⟨k + 1, by omega, by go_num, hn2.out, HB'.out⟩
          case measure => simp [intOf]; omega
      · obtain rfl : k = l.length := by omega
        have hall := hid (noPA_all hn)
        have HB := hid hB
        clear hn hB
        go_wp2
        go_ret
        exact ⟨⟨_, rfl, by rw [hall.out]; simp [FoundAt]⟩, HB.out⟩
theorem anyLong_any (p : Way → Bool) (l : List Way) (v : Value) (w : World) (hl : l.length ≤ 1000000) (hp : ∀ (x : Way) (s : Value) (W : World), x ∈ l → Below w.heap.size w W → Ints W s x.cells → Calls Try.prog 77 #[.agg #[s, .int .i64 x.out]] W fun e w' => e = .returned (.bool (p x)) ∧ Below W.heap.size W w') (hs : WaysI w v l) :
    Calls Try.prog 79 #[v, .func (.func 77) #[] #[]] w fun e w' => e = .returned (.bool (l.any p)) ∧ Below w.heap.size w w' := by
  have hcall := idxLong_any p l v w hl hp hs
  clear hp
  go_enter Try.func79, Try.ntmps79
  cases hany : l.any p
  · rw [hany] at hcall
    have hany' := hid hany
    clear hany
    go_wp2_with (go_at_call 101; refine hcall.mono ?_; rintro e w' ⟨⟨r, rfl, hr⟩, hb⟩; (obtain rfl : r = -1 := by simpa [FoundAt] using hr); have HB := hid hb; clear hr hb)
    go_ret
    exact ⟨rfl, HB.out⟩
  · rw [hany] at hcall
    have hany' := hid hany
    clear hany
    go_wp2_with (go_at_call 101; refine hcall.mono ?_; rintro e w' ⟨⟨r, rfl, hr⟩, hb⟩; (have hr' : decide (0 ≤ r) = true := by simpa [FoundAt] using hr); have HB := hid hb; clear hr hb)
    go_ret
    exact ⟨by simp, HB.out⟩

set_option maxHeartbeats 4000000 in
theorem idxStray_any (p : Way → Bool) (l : List Way) (v : Value) (b1 : Nat) (w : World) (hl : l.length ≤ 1000000) (hp : ∀ (x : Way) (s : Value) (W : World), x ∈ l → Below w.heap.size w W → Ints W s x.cells → Calls Try.prog 78 #[.agg #[s, .int .i64 x.out], .pointer (some ⟨b1, 0, none⟩)] W fun e w' => e = .returned (.bool (p x)) ∧ Below W.heap.size W w') (hs : WaysI w v l) :
    Calls Try.prog 101 #[v, .func (.func 78) #[] #[.pointer (some ⟨b1, 0, none⟩)]] w fun e w' => (∃ r, e = .returned (.int .i64 r) ∧ FoundAt r (l.any p)) ∧ Below w.heap.size w w' := by
  rcases hs with ⟨rfl, rfl⟩ | ⟨b, off, c, rfl, hc, hb, hcell⟩
  · clear hp
    go_enter Try.func101, Try.ntmps101
    go_wp2
    go_loop [5, 8] (fun _ i => i = .int .i64 0) (fun _ _ => 0)
    case atStart => exact rfl
    case round =>
      obtain rfl := hrel
      go_wp2
      go_ret
      exact ⟨⟨_, rfl, by simp [FoundAt]⟩, bl_refl _⟩
  · have HP := hid hp
    have HC := hid hcell
    clear hp hcell
    go_enter Try.func101, Try.ntmps101
    go_wp2
    go_loopw [5, 8] (fun _ i wr => ∃ k : Nat, k ≤ l.length ∧ i = .int .i64 k ∧ NoPA p l k ∧ Below w.heap.size w wr) (fun _ i _ => l.length - (intOf i).toNat)
    case atStart => exact ⟨0, Nat.zero_le _, rfl, fun i _ h => by omega, bl_refl _⟩
    case round =>
      obtain ⟨k, hk, rfl, hn, hB⟩ := hrel
      by_cases hlt : k < l.length
      · obtain ⟨x, hx⟩ := get_at hlt
        have hbl := hB.size
        obtain ⟨s, hc0, hsi, hc1⟩ := (HC.out k x hx).mono hB
        have HX := hid hx
        have hpx := HP.out x s wr (List.mem_of_getElem? hx) hB hsi
        obtain ⟨SA, sc, rfl⟩ := hsi.slice
        have HN := hid hn
        have HB := hid hB
        clear hx hsi hn hB
        cases hbad : p x with
        | true =>
          have hany := hid (noPA_any HX.out hbad)
          rw [hbad] at hpx
          clear hbad
          go_wp2_with fail
          refine hpx.mono ?_
          rintro e w' ⟨rfl, hb'⟩
          have HB' := hid (bl_trans HB.out hb')
          clear hpx hb' hc0 hc1
          go_wp2
          go_ret
          exact ⟨⟨_, rfl, by rw [hany.out]; simp [FoundAt]⟩, HB'.out⟩
        | false =>
          have hn2 := hid (noPA_succ HN.out HX.out hbad)
          rw [hbad] at hpx
          clear hbad
          go_wp2_with fail
          refine hpx.mono ?_
          rintro e w' ⟨rfl, hb'⟩
          have HB' := hid (bl_trans HB.out hb')
          clear hpx hb' hc0 hc1
          go_wp2
          go_roundw
          case rel => exact ⟨k + 1, by omega, by go_num, hn2.out, HB'.out⟩
          case measure => simp [intOf]; omega
      · obtain rfl : k = l.length := by omega
        have hall := hid (noPA_all hn)
        have HB := hid hB
        clear hn hB
        go_wp2
        go_ret
        exact ⟨⟨_, rfl, by rw [hall.out]; simp [FoundAt]⟩, HB.out⟩
theorem anyStray_any (p : Way → Bool) (l : List Way) (v : Value) (b1 : Nat) (w : World) (hl : l.length ≤ 1000000) (hp : ∀ (x : Way) (s : Value) (W : World), x ∈ l → Below w.heap.size w W → Ints W s x.cells → Calls Try.prog 78 #[.agg #[s, .int .i64 x.out], .pointer (some ⟨b1, 0, none⟩)] W fun e w' => e = .returned (.bool (p x)) ∧ Below W.heap.size W w') (hs : WaysI w v l) :
    Calls Try.prog 79 #[v, .func (.func 78) #[] #[.pointer (some ⟨b1, 0, none⟩)]] w fun e w' => e = .returned (.bool (l.any p)) ∧ Below w.heap.size w w' := by
  have hcall := idxStray_any p l v b1 w hl hp hs
  clear hp
  go_enter Try.func79, Try.ntmps79
  cases hany : l.any p
  · rw [hany] at hcall
    have hany' := hid hany
    clear hany
    go_wp2_with (go_at_call 101; refine hcall.mono ?_; rintro e w' ⟨⟨r, rfl, hr⟩, hb⟩; (obtain rfl : r = -1 := by simpa [FoundAt] using hr); have HB := hid hb; clear hr hb)
    go_ret
    exact ⟨rfl, HB.out⟩
  · rw [hany] at hcall
    have hany' := hid hany
    clear hany
    go_wp2_with (go_at_call 101; refine hcall.mono ?_; rintro e w' ⟨⟨r, rfl, hr⟩, hb⟩; (have hr' : decide (0 ≤ r) = true := by simpa [FoundAt] using hr); have HB := hid hb; clear hr hb)
    go_ret
    exact ⟨by simp, HB.out⟩
end Go.Proofs.Ytlkoadcbolkhoaa
