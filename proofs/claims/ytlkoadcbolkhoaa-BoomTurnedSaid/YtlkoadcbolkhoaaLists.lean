/- Lists of cells, and which pond is valid: the walks. -/
import Derived.Test.YtlkoadcbolkhoaaWithin
import Derived.Test.YtlkoadcbolkhoaaPa
import Derived.Deep.Cut
set_option linter.all false
namespace Go.Proofs.Ytlkoadcbolkhoaa
open Go Go.RowKit Go.Proofs
attribute [local go_sem] cell_grow frozen_grow

/-! ### Whether a list has a number -/
def NoEq (n : Int) (l : List Int) (k : Nat) : Prop := ∀ i x, i < k → l[i]? = some x → x ≠ n
theorem noEq_all {n : Int} {l : List Int} (h : NoEq n l l.length) : l.contains n = false := by
  rw [Bool.eq_false_iff]
  intro hc
  rw [List.contains_iff_mem] at hc
  obtain ⟨i, hi, rfl⟩ := List.mem_iff_getElem.mp hc
  exact h i (l[i]) hi (by simp [hi]) rfl
theorem noEq_succ {n : Int} {l : List Int} {k : Nat} {x : Int} (h : NoEq n l k) (hx : l[k]? = some x) (hb : x ≠ n) : NoEq n l (k + 1) := by
  intro i y hi hy
  by_cases e : i = k
  · subst e; rw [hx] at hy; cases hy; exact hb
  · exact h i y (by omega) hy
/-- Where a number stands first; -1: nowhere. -/
def idxL (n : Int) : List Int → Int
  | [] => -1
  | x :: l => if x = n then 0 else if idxL n l < 0 then -1 else idxL n l + 1
theorem idxL_at {n : Int} : ∀ {l : List Int} {k : Nat}, l[k]? = some n → NoEq n l k → idxL n l = k
  | [], k, h, _ => by simp at h
  | x :: l, 0, h, _ => by
    have : x = n := by simpa using h
    simp [idxL, this]
  | x :: l, k + 1, h, hn => by
    have hne := hn 0 x (by omega) rfl
    have ih := idxL_at (l := l) (k := k) (by simpa using h) fun i y hi hy => hn (i + 1) y (by omega) (by simpa using hy)
    unfold idxL
    rw [if_neg hne, ih, if_neg (by omega)]
    omega
theorem idxL_none {n : Int} : ∀ {l : List Int}, NoEq n l l.length → idxL n l = -1
  | [], _ => rfl
  | x :: l, hn => by
    have hne := hn 0 x (by simp) rfl
    have ih := idxL_none (l := l) fun i y hi hy => hn (i + 1) y (by simp; omega) (by simpa using hy)
    unfold idxL
    rw [if_neg hne, ih, if_pos (by omega)]
theorem idxL_has (n : Int) (l : List Int) : decide (0 ≤ idxL n l) = l.contains n := by
  induction l with
  | nil => rfl
  | cons x l ih =>
    unfold idxL
    by_cases h : x = n
    · subst h; simp
    · rw [if_neg h]
      have h2 : (x :: l).contains n = l.contains n := by
        rw [List.contains_cons]
        have : (n == x) = false := by rw [beq_eq_false_iff_ne]; exact fun e => h e.symm
        rw [this, Bool.false_or]
      rw [h2, ← ih]
      by_cases h3 : idxL n l < 0
      · rw [if_pos h3]
        have : ¬ 0 ≤ idxL n l := by omega
        simp [this]
      · rw [if_neg h3]
        have h4 : 0 ≤ idxL n l := by omega
        have h5 : 0 ≤ idxL n l + 1 := by omega
        simp [h4, h5]
theorem idxL_bd (n : Int) (l : List Int) : -1 ≤ idxL n l ∧ idxL n l ≤ l.length := by
  induction l with
  | nil => unfold idxL; simp
  | cons x l ih =>
    unfold idxL
    rw [List.length_cons]
    split
    · omega
    · split <;> omega

set_option maxHeartbeats 1000000 in
theorem index_any (l : List Int) (s : Value) (n : Int) (w : World) (hl : l.length ≤ 1000000) (hs : Ints w s l) :
    Calls Try.prog 93 #[s, .int .i64 n] w fun e w' => e = .returned (.int .i64 (idxL n l)) ∧ w' = w := by
  rcases hs with ⟨rfl, rfl⟩ | ⟨b, off, c, rfl, hc, hb, hcell⟩
  · go_enter Try.func93, Try.ntmps93
    go_wp2
    go_loop [5, 8] (fun _ i => i = .int .i64 0) (fun _ _ => 0)
    case atStart => exact rfl
    case round =>
      obtain rfl := hrel
      go_wp2
      go_ret
      exact ⟨rfl, rfl⟩
  · go_enter Try.func93, Try.ntmps93
    go_wp2
    go_loop [5, 8] (fun _ i => ∃ k : Nat, k ≤ l.length ∧ i = .int .i64 k ∧ NoEq n l k) (fun _ i => l.length - (intOf i).toNat)
    case atStart => exact ⟨0, Nat.zero_le _, rfl, fun i _ h => by omega⟩
    case round =>
      obtain ⟨k, hk, rfl, hn⟩ := hrel
      by_cases hlt : k < l.length
      · obtain ⟨x, hx⟩ := get_at hlt
        have hck := hcell k x hx
        have Hx := hid hx
        have HN := hid hn
        clear hx hcell hn
        by_cases he : x = n
        · have he' : (n == x) = true := by simp [he]
          have hres := hid (idxL_at (n := n) (l := l) (k := k) (by rw [Hx.out, he]) HN.out)
          clear he
          go_wp2
          go_ret
          exact ⟨by rw [hres.out]; rfl, rfl⟩
        · have he' : (n == x) = false := by rw [beq_eq_false_iff_ne]; exact fun e => he e.symm
          have hn2 := hid (noEq_succ HN.out Hx.out he)
          clear he
          go_wp2
          go_round
          case rel => exact ⟨k + 1, by omega, by go_num, hn2.out⟩
          case measure => simp [intOf]; omega
      · obtain rfl : k = l.length := by omega
        have hres := hid (idxL_none hn)
        clear hn
        go_wp2
        go_ret
        exact ⟨by rw [hres.out]; rfl, rfl⟩
theorem has_any (l : List Int) (s : Value) (n : Int) (w : World) (hl : l.length ≤ 1000000) (hs : Ints w s l) :
    Calls Try.prog 62 #[s, .int .i64 n] w fun e w' => e = .returned (.bool (l.contains n)) ∧ w' = w := by
  have hx := idxL_has n l
  have hcall := index_any l s n w hl hs
  generalize idxL n l = r at *
  generalize l.contains n = q at *
  go_enter Try.func62, Try.ntmps62
  go_wp2_with fail
  refine hcall.mono ?_
  rintro e w' ⟨rfl, rfl⟩
  clear hcall
  go_wp2
  go_ret
  exact ⟨by first | rfl | rw [← hx]; rfl, rfl⟩

/-! ### Whether a list is one of cells -/
theorem within_one (lo hi n : Int) : withinB lo hi [n] = (decide (lo ≤ n) && decide (n ≤ hi)) := by
  unfold withinB badB
  simp only [List.any_cons, List.any_nil, Bool.or_false, Bool.not_or]
  rw [Bool.eq_iff_iff]
  simp
theorem within_two (lo hi m n : Int) : withinB lo hi [m, n] = (decide (lo ≤ m ∧ m ≤ hi) && decide (lo ≤ n ∧ n ≤ hi)) := by
  unfold withinB badB
  rw [Bool.eq_iff_iff]
  simp
  all_goals omega

set_option maxRecDepth 100000 in
set_option maxHeartbeats 4000000 in
theorem isList_any (wd hg : Int) (sw sk : Value) (l : List Int) (s : Value) (w : World) (h1 : 1 ≤ wd ∧ wd ≤ 8) (h2 : 1 ≤ hg ∧ hg ≤ 8) (hl : l.length ≤ 1000000) (hs : Ints w s l) :
    Calls Try.prog 63 #[.agg #[.int .i64 wd, .int .i64 hg, sw, sk], s] w fun e w' => e = .returned (.bool (listB (wd * hg) 0 l)) ∧ Below w.heap.size w w' := by
  obtain ⟨A, c, hsl⟩ : ∃ A c, s = .slice A l.length c := by
    rcases hs with ⟨rfl, rfl⟩ | ⟨b, off, c, rfl, _⟩
    · exact ⟨_, _, rfl⟩
    · exact ⟨_, _, rfl⟩
  have hm1 := Int.mul_le_mul h1.2 h2.2 (by omega) (by omega)
  have hm2 := Int.mul_le_mul h1.1 h2.1 (by omega) (by omega)
  obtain ⟨N, hN⟩ : ∃ N, wd * hg = N := ⟨_, rfl⟩
  rw [hN] at hm1 hm2 ⊢
  have HS := hid hs
  have k0 := hid (World.alloc_heap_new w (.cells #[.int .i64 wd, .int .i64 hg, sw, sk] 24))
  have hb0 := hid (bl_alloc (bl_refl w) (.cells #[.int .i64 wd, .int .i64 hg, sw, sk] 24))
  have u1 : IntKind.i64.wrap N = N := IntWalk.i64_in _ (by omega)
  have u2 : IntKind.i64.wrap (N - 1) = N - 1 := IntWalk.i64_in _ (by omega)
  subst hsl
  clear hs
  go_enter Try.func63, Try.ntmps63
  go_wp2
  obtain ⟨w0, hw0⟩ : ∃ w0, w.alloc (.cells #[.int .i64 wd, .int .i64 hg, sw, sk] 24) = w0 := ⟨_, rfl⟩
  rw [hw0] at k0 hb0 ⊢
  obtain ⟨R, hR⟩ : ∃ R, w.heap.size = R := ⟨_, rfl⟩
  rw [hR] at k0 ⊢
  clear hw0
  go_loopw [5, 10] (fun p5 p10 wr => ∃ (j : Nat) (nx : Int), j ≤ l.length ∧ p5 = .int .i64 nx ∧ p10 = .int .i64 (j : Int) ∧ 0 ≤ nx ∧ nx ≤ 64 ∧ listB N 0 l = listB N nx (l.drop j) ∧ Below w0.heap.size w0 wr) (fun _ p10 _ => l.length - (intOf p10).toNat)
  case atStart => exact ⟨0, 0, Nat.zero_le _, rfl, rfl, Int.le_refl _, by omega, rfl, bl_refl _⟩
  case round =>
    obtain ⟨j, nx, hj, rfl, rfl, hn0, hn1, hrec, hB⟩ := hrel
    have kb := heap_mono k0.out hB
    have c0 : wr.cell? ⟨R, 0, none⟩ = some (.int .i64 wd) := cell_of_heap kb
    have c1 : wr.cell? ⟨R, 1, none⟩ = some (.int .i64 hg) := cell_of_heap kb
    have kl := (Array.getElem?_eq_some_iff.1 kb).1
    clear kb
    by_cases hlt : j < l.length
    · obtain ⟨x, hx⟩ := get_at hlt
      have hdr : l.drop j = x :: l.drop (j + 1) := List.drop_eq_getElem_cons hlt ▸ by rw [(List.getElem?_eq_some_iff.1 hx).2]
      obtain ⟨b, off, c', e5, hlc, hbb, hcell⟩ : ∃ b off c', Value.slice A l.length c = .slice (some ⟨b, off, none⟩) l.length c' ∧ l.length ≤ c' ∧ b < w.heap.size ∧ ∀ i x, l[i]? = some x → w.cell? ⟨b, off + i, none⟩ = some (.int .i64 x) := by
        rcases HS.out with ⟨_, h⟩ | h
        · rw [h] at hlt; simp at hlt
        · exact h
      simp only [Value.slice.injEq, true_and] at e5
      obtain ⟨rfl, rfl⟩ := e5
      have hB0 := bl_trans hb0.out hB
      have lc := cell_mono (hcell j x hx) hB0
      have lw : b < wr.heap.size := Nat.lt_of_lt_of_le hbb hB0.size
      have hjI : (j : Int) < (l.length : Int) := by omega
      rw [hdr, show listB N nx (x :: l.drop (j + 1)) = (decide (nx ≤ x) && decide (x ≤ N - 1) && listB N (x + 1) (l.drop (j + 1))) from rfl] at hrec
      have hcall := within_any nx (N - 1) [x] (.slice (some ⟨wr.heap.size, 0, none⟩) 1 1) (wr.alloc (.cells #[.int .i64 x] 3)) (by simp) (.inr ⟨_, 0, 1, rfl, by simp, by simp, fun i y hy => by
        have : i = 0 := by have := (List.getElem?_eq_some_iff.1 hy).1; simp at this; omega
        subst this
        simp at hy
        subst hy
        exact cell_of_heap (World.alloc_heap_new wr _)⟩)
      rw [within_one] at hcall
      have HB := hid hB
      clear hcell hdr hx hB hB0
      have hin : (decide (nx ≤ x) && decide (x ≤ N - 1)) = true ∨ (decide (nx ≤ x) && decide (x ≤ N - 1)) = false := by
        cases (decide (nx ≤ x) && decide (x ≤ N - 1)) <;> simp
      rcases hin with hin | hin
      · have hxb : nx ≤ x ∧ x ≤ N - 1 := by simpa using hin
        rw [hin] at hcall hrec
        rw [Bool.true_and] at hrec
        have HR := hid hrec
        have u3 : IntKind.i64.wrap (x + 1) = x + 1 := IntWalk.i64_in _ (by omega)
        clear hin hrec
        go_wp2_with fail
        refine hcall.mono ?_
        rintro e w2 ⟨rfl, hb2⟩
        have hB2 := hid (bl_trans (bl_trans HB.out (bl_alloc (bl_refl wr) _)) hb2)
        clear hcall hb2 lc lw c0 c1 kl
        go_wp2
        go_roundw
        case rel => exact ⟨j + 1, x + 1, by omega, rfl, by go_num, by omega, by omega, HR.out, hB2.out⟩
        case measure => simp [intOf]; omega
      · rw [hin] at hcall hrec
        rw [Bool.false_and] at hrec
        have HR := hid hrec
        clear hin hrec
        go_wp2_with fail
        refine hcall.mono ?_
        rintro e w2 ⟨rfl, hb2⟩
        have hB2 := hid (bl_trans hb0.out (bl_trans (bl_trans HB.out (bl_alloc (bl_refl wr) _)) hb2))
        clear hcall hb2 lc lw c0 c1 kl
        go_wp2
        go_ret
        exact ⟨by rw [HR.out]; rfl, hB2.out⟩
    · obtain rfl : j = l.length := by omega
      rw [List.drop_length] at hrec
      have HR := hid hrec
      have hB2 := hid (bl_trans hb0.out hB)
      clear hrec hB
      go_wp2
      go_ret
      exact ⟨by rw [HR.out]; rfl, hB2.out⟩

/-! ### Functions of a number, handed to ContainsFunc -/
def NoP (p : Int → Bool) (l : List Int) (k : Nat) : Prop := ∀ i x, i < k → l[i]? = some x → p x = false
theorem noP_all {p : Int → Bool} {l : List Int} (h : NoP p l l.length) : l.any p = false := by
  rw [List.any_eq_false]
  intro x hx
  obtain ⟨i, hi, rfl⟩ := List.mem_iff_getElem.mp hx
  have := h i (l[i]) hi (by simp [hi]); simpa using this
theorem noP_any {p : Int → Bool} {l : List Int} {k : Nat} {x : Int} (hk : l[k]? = some x) (h : p x = true) : l.any p = true := by
  rw [List.any_eq_true]
  exact ⟨x, List.mem_of_getElem? hk, h⟩
theorem noP_succ {p : Int → Bool} {l : List Int} {k : Nat} {x : Int} (h : NoP p l k) (hx : l[k]? = some x) (hb : p x = false) : NoP p l (k + 1) := by
  intro i y hi hy
  by_cases e : i = k
  · subst e; rw [hx] at hy; cases hy; exact hb
  · exact h i y (by omega) hy

set_option maxHeartbeats 1000000 in
theorem idxKeep_any (p : Int → Bool) (l : List Int) (s : Value) (b1 : Nat) (w : World) (hl : l.length ≤ 1000000) (hp : ∀ n : Int, Calls Try.prog 70 #[.int .i64 n, .pointer (some ⟨b1, 0, none⟩)] w fun e w' => e = .returned (.bool (p n)) ∧ w' = w) (hs : Ints w s l) :
    Calls Try.prog 94 #[s, .func (.func 70) #[] #[.pointer (some ⟨b1, 0, none⟩)]] w fun e w' => (∃ r, e = .returned (.int .i64 r) ∧ FoundAt r (l.any p)) ∧ w' = w := by
  rcases hs with ⟨rfl, rfl⟩ | ⟨b, off, c, rfl, hc, hb, hcell⟩
  · go_enter Try.func94, Try.ntmps94
    go_wp2
    go_loop [5, 8] (fun _ i => i = .int .i64 0) (fun _ _ => 0)
    case atStart => exact rfl
    case round =>
      obtain rfl := hrel
      go_wp2
      go_ret
      exact ⟨⟨_, rfl, by simp [FoundAt]⟩, rfl⟩
  · have HP := hid hp
    clear hp
    go_enter Try.func94, Try.ntmps94
    go_wp2
    go_loop [5, 8] (fun _ i => ∃ k : Nat, k ≤ l.length ∧ i = .int .i64 k ∧ NoP p l k) (fun _ i => l.length - (intOf i).toNat)
    case atStart => exact ⟨0, Nat.zero_le _, rfl, fun i _ h => by omega⟩
    case round =>
      obtain ⟨k, hk, rfl, hn⟩ := hrel
      by_cases hlt : k < l.length
      · obtain ⟨x, hx⟩ := get_at hlt
        have hck := hcell k x hx
        have Hx := hid hx
        have hn' := hid hn
        have hpx := HP.out x
        clear hx hcell hn
        cases hbad : p x with
        | true =>
          have hany := hid (noP_any Hx.out hbad)
          rw [hbad] at hpx
          clear hbad
          go_wp2_with (go_at_call 70; refine hpx.mono ?_; rintro e w' ⟨rfl, rfl⟩)
          go_ret
          exact ⟨⟨_, rfl, by rw [hany.out]; simp [FoundAt]⟩, rfl⟩
        | false =>
          have hn2 := hid (noP_succ hn'.out Hx.out hbad)
          rw [hbad] at hpx
          clear hbad
          go_wp2_with (go_at_call 70; refine hpx.mono ?_; rintro e w' ⟨rfl, rfl⟩)
          go_round
          case rel => exact ⟨k + 1, by omega, by go_num, hn2.out⟩
          case measure => simp [intOf]; omega
      · obtain rfl : k = l.length := by omega
        have hall := hid (noP_all hn)
        clear hn
        go_wp2
        go_ret
        exact ⟨⟨_, rfl, by rw [hall.out]; simp [FoundAt]⟩, rfl⟩
theorem anyKeep_any (p : Int → Bool) (l : List Int) (s : Value) (b1 : Nat) (w : World) (hl : l.length ≤ 1000000) (hp : ∀ n : Int, Calls Try.prog 70 #[.int .i64 n, .pointer (some ⟨b1, 0, none⟩)] w fun e w' => e = .returned (.bool (p n)) ∧ w' = w) (hs : Ints w s l) :
    Calls Try.prog 64 #[s, .func (.func 70) #[] #[.pointer (some ⟨b1, 0, none⟩)]] w fun e w' => e = .returned (.bool (l.any p)) ∧ w' = w := by
  have hcall := idxKeep_any p l s b1 w hl hp hs
  clear hp
  go_enter Try.func64, Try.ntmps64
  cases hany : l.any p
  · rw [hany] at hcall
    have hany' := hid hany
    clear hany
    go_wp2_with (go_at_call 94; refine hcall.mono ?_; rintro e w' ⟨⟨r, rfl, hr⟩, rfl⟩; (obtain rfl : r = -1 := by simpa [FoundAt] using hr); clear hr)
    go_ret
    exact ⟨rfl, rfl⟩
  · rw [hany] at hcall
    have hany' := hid hany
    clear hany
    go_wp2_with (go_at_call 94; refine hcall.mono ?_; rintro e w' ⟨⟨r, rfl, hr⟩, rfl⟩; (have hr' : decide (0 ≤ r) = true := by simpa [FoundAt] using hr); clear hr)
    go_ret
    exact ⟨by simp, rfl⟩

set_option maxHeartbeats 1000000 in
theorem idxIn_any (p : Int → Bool) (l : List Int) (s : Value) (b1 : Nat) (w : World) (hl : l.length ≤ 1000000) (hp : ∀ n : Int, Calls Try.prog 61 #[.int .i64 n, .pointer (some ⟨b1, 0, none⟩)] w fun e w' => e = .returned (.bool (p n)) ∧ w' = w) (hs : Ints w s l) :
    Calls Try.prog 94 #[s, .func (.func 61) #[] #[.pointer (some ⟨b1, 0, none⟩)]] w fun e w' => (∃ r, e = .returned (.int .i64 r) ∧ FoundAt r (l.any p)) ∧ w' = w := by
  rcases hs with ⟨rfl, rfl⟩ | ⟨b, off, c, rfl, hc, hb, hcell⟩
  · go_enter Try.func94, Try.ntmps94
    go_wp2
    go_loop [5, 8] (fun _ i => i = .int .i64 0) (fun _ _ => 0)
    case atStart => exact rfl
    case round =>
      obtain rfl := hrel
      go_wp2
      go_ret
      exact ⟨⟨_, rfl, by simp [FoundAt]⟩, rfl⟩
  · have HP := hid hp
    clear hp
    go_enter Try.func94, Try.ntmps94
    go_wp2
    go_loop [5, 8] (fun _ i => ∃ k : Nat, k ≤ l.length ∧ i = .int .i64 k ∧ NoP p l k) (fun _ i => l.length - (intOf i).toNat)
    case atStart => exact ⟨0, Nat.zero_le _, rfl, fun i _ h => by omega⟩
    case round =>
      obtain ⟨k, hk, rfl, hn⟩ := hrel
      by_cases hlt : k < l.length
      · obtain ⟨x, hx⟩ := get_at hlt
        have hck := hcell k x hx
        have Hx := hid hx
        have hn' := hid hn
        have hpx := HP.out x
        clear hx hcell hn
        cases hbad : p x with
        | true =>
          have hany := hid (noP_any Hx.out hbad)
          rw [hbad] at hpx
          clear hbad
          go_wp2_with (go_at_call 61; refine hpx.mono ?_; rintro e w' ⟨rfl, rfl⟩)
          go_ret
          exact ⟨⟨_, rfl, by rw [hany.out]; simp [FoundAt]⟩, rfl⟩
        | false =>
          have hn2 := hid (noP_succ hn'.out Hx.out hbad)
          rw [hbad] at hpx
          clear hbad
          go_wp2_with (go_at_call 61; refine hpx.mono ?_; rintro e w' ⟨rfl, rfl⟩)
          go_round
          case rel => exact ⟨k + 1, by omega, by go_num, hn2.out⟩
          case measure => simp [intOf]; omega
      · obtain rfl : k = l.length := by omega
        have hall := hid (noP_all hn)
        clear hn
        go_wp2
        go_ret
        exact ⟨⟨_, rfl, by rw [hall.out]; simp [FoundAt]⟩, rfl⟩
theorem anyIn_any (p : Int → Bool) (l : List Int) (s : Value) (b1 : Nat) (w : World) (hl : l.length ≤ 1000000) (hp : ∀ n : Int, Calls Try.prog 61 #[.int .i64 n, .pointer (some ⟨b1, 0, none⟩)] w fun e w' => e = .returned (.bool (p n)) ∧ w' = w) (hs : Ints w s l) :
    Calls Try.prog 64 #[s, .func (.func 61) #[] #[.pointer (some ⟨b1, 0, none⟩)]] w fun e w' => e = .returned (.bool (l.any p)) ∧ w' = w := by
  have hcall := idxIn_any p l s b1 w hl hp hs
  clear hp
  go_enter Try.func64, Try.ntmps64
  cases hany : l.any p
  · rw [hany] at hcall
    have hany' := hid hany
    clear hany
    go_wp2_with (go_at_call 94; refine hcall.mono ?_; rintro e w' ⟨⟨r, rfl, hr⟩, rfl⟩; (obtain rfl : r = -1 := by simpa [FoundAt] using hr); clear hr)
    go_ret
    exact ⟨rfl, rfl⟩
  · rw [hany] at hcall
    have hany' := hid hany
    clear hany
    go_wp2_with (go_at_call 94; refine hcall.mono ?_; rintro e w' ⟨⟨r, rfl, hr⟩, rfl⟩; (have hr' : decide (0 ≤ r) = true := by simpa [FoundAt] using hr); clear hr)
    go_ret
    exact ⟨by simp, rfl⟩

set_option maxHeartbeats 1000000 in
theorem idxOut_any (p : Int → Bool) (l : List Int) (s : Value) (b1 : Nat) (w : World) (hl : l.length ≤ 1000000) (hp : ∀ n : Int, Calls Try.prog 65 #[.int .i64 n, .pointer (some ⟨b1, 0, none⟩)] w fun e w' => e = .returned (.bool (p n)) ∧ w' = w) (hs : Ints w s l) :
    Calls Try.prog 94 #[s, .func (.func 65) #[] #[.pointer (some ⟨b1, 0, none⟩)]] w fun e w' => (∃ r, e = .returned (.int .i64 r) ∧ FoundAt r (l.any p)) ∧ w' = w := by
  rcases hs with ⟨rfl, rfl⟩ | ⟨b, off, c, rfl, hc, hb, hcell⟩
  · go_enter Try.func94, Try.ntmps94
    go_wp2
    go_loop [5, 8] (fun _ i => i = .int .i64 0) (fun _ _ => 0)
    case atStart => exact rfl
    case round =>
      obtain rfl := hrel
      go_wp2
      go_ret
      exact ⟨⟨_, rfl, by simp [FoundAt]⟩, rfl⟩
  · have HP := hid hp
    clear hp
    go_enter Try.func94, Try.ntmps94
    go_wp2
    go_loop [5, 8] (fun _ i => ∃ k : Nat, k ≤ l.length ∧ i = .int .i64 k ∧ NoP p l k) (fun _ i => l.length - (intOf i).toNat)
    case atStart => exact ⟨0, Nat.zero_le _, rfl, fun i _ h => by omega⟩
    case round =>
      obtain ⟨k, hk, rfl, hn⟩ := hrel
      by_cases hlt : k < l.length
      · obtain ⟨x, hx⟩ := get_at hlt
        have hck := hcell k x hx
        have Hx := hid hx
        have hn' := hid hn
        have hpx := HP.out x
        clear hx hcell hn
        cases hbad : p x with
        | true =>
          have hany := hid (noP_any Hx.out hbad)
          rw [hbad] at hpx
          clear hbad
          go_wp2_with (go_at_call 65; refine hpx.mono ?_; rintro e w' ⟨rfl, rfl⟩)
          go_ret
          exact ⟨⟨_, rfl, by rw [hany.out]; simp [FoundAt]⟩, rfl⟩
        | false =>
          have hn2 := hid (noP_succ hn'.out Hx.out hbad)
          rw [hbad] at hpx
          clear hbad
          go_wp2_with (go_at_call 65; refine hpx.mono ?_; rintro e w' ⟨rfl, rfl⟩)
          go_round
          case rel => exact ⟨k + 1, by omega, by go_num, hn2.out⟩
          case measure => simp [intOf]; omega
      · obtain rfl : k = l.length := by omega
        have hall := hid (noP_all hn)
        clear hn
        go_wp2
        go_ret
        exact ⟨⟨_, rfl, by rw [hall.out]; simp [FoundAt]⟩, rfl⟩
theorem anyOut_any (p : Int → Bool) (l : List Int) (s : Value) (b1 : Nat) (w : World) (hl : l.length ≤ 1000000) (hp : ∀ n : Int, Calls Try.prog 65 #[.int .i64 n, .pointer (some ⟨b1, 0, none⟩)] w fun e w' => e = .returned (.bool (p n)) ∧ w' = w) (hs : Ints w s l) :
    Calls Try.prog 64 #[s, .func (.func 65) #[] #[.pointer (some ⟨b1, 0, none⟩)]] w fun e w' => e = .returned (.bool (l.any p)) ∧ w' = w := by
  have hcall := idxOut_any p l s b1 w hl hp hs
  clear hp
  go_enter Try.func64, Try.ntmps64
  cases hany : l.any p
  · rw [hany] at hcall
    have hany' := hid hany
    clear hany
    go_wp2_with (go_at_call 94; refine hcall.mono ?_; rintro e w' ⟨⟨r, rfl, hr⟩, rfl⟩; (obtain rfl : r = -1 := by simpa [FoundAt] using hr); clear hr)
    go_ret
    exact ⟨rfl, rfl⟩
  · rw [hany] at hcall
    have hany' := hid hany
    clear hany
    go_wp2_with (go_at_call 94; refine hcall.mono ?_; rintro e w' ⟨⟨r, rfl, hr⟩, rfl⟩; (have hr' : decide (0 ≤ r) = true := by simpa [FoundAt] using hr); clear hr)
    go_ret
    exact ⟨by simp, rfl⟩

theorem keepFn_any (wd hg : Int) (sw sk : Value) (keep : List Int) (R : Nat) (n : Int) (w : World) (hl : keep.length ≤ 1000000) (hk : Ints w sk keep) (hR : w.heap[R]? = some (.cells #[.int .i64 wd, .int .i64 hg, sw, sk] 24 (0, 0))) :
    Calls Try.prog 70 #[.int .i64 n, .pointer (some ⟨R, 0, none⟩)] w fun e w' => e = .returned (.bool (keep.contains n)) ∧ w' = w := by
  have c3 : w.cell? ⟨R, 3, none⟩ = some sk := cell_of_heap hR
  have kl := (Array.getElem?_eq_some_iff.1 hR).1
  have hcall := has_any keep sk n w hl hk
  generalize keep.contains n = q at *
  clear hR
  go_enter Try.func70, Try.ntmps70
  go_wp2_with fail
  refine hcall.mono ?_
  rintro e w' ⟨rfl, rfl⟩
  clear hcall
  go_wp2
  go_ret
  exact ⟨rfl, rfl⟩
theorem inFn_any (water : List Int) (sv : Value) (R : Nat) (n : Int) (w : World) (hl : water.length ≤ 1000000) (hv : Ints w sv water) (hR : w.heap[R]? = some (.cells #[sv] 22 (0, 0))) :
    Calls Try.prog 61 #[.int .i64 n, .pointer (some ⟨R, 0, none⟩)] w fun e w' => e = .returned (.bool (water.contains n)) ∧ w' = w := by
  have c0 : w.cell? ⟨R, 0, none⟩ = some sv := cell_of_heap hR
  have kl := (Array.getElem?_eq_some_iff.1 hR).1
  have hcall := has_any water sv n w hl hv
  generalize water.contains n = q at *
  clear hR
  go_enter Try.func61, Try.ntmps61
  go_wp2_with fail
  refine hcall.mono ?_
  rintro e w' ⟨rfl, rfl⟩
  clear hcall
  go_wp2
  go_ret
  exact ⟨rfl, rfl⟩
theorem outFn_any (water : List Int) (sv : Value) (R F : Nat) (n : Int) (w : World) (hl : water.length ≤ 1000000) (hv : Ints w sv water) (hR : w.heap[R]? = some (.cells #[sv] 22 (0, 0))) (hF : w.heap[F]? = some (.cells #[.func (.func 61) #[] #[.pointer (some ⟨R, 0, none⟩)]] 83 (0, 0))) :
    Calls Try.prog 65 #[.int .i64 n, .pointer (some ⟨F, 0, none⟩)] w fun e w' => e = .returned (.bool (!water.contains n)) ∧ w' = w := by
  have c0 : w.cell? ⟨F, 0, none⟩ = some (.func (.func 61) #[] #[.pointer (some ⟨R, 0, none⟩)]) := cell_of_heap hF
  have kl := (Array.getElem?_eq_some_iff.1 hF).1
  have hcall := inFn_any water sv R n w hl hv hR
  generalize water.contains n = q at *
  clear hR hF
  go_enter Try.func65, Try.ntmps65
  go_wp2_with (go_at_call 61; refine hcall.mono ?_; rintro e w' ⟨rfl, rfl⟩)
  go_ret
  exact ⟨rfl, rfl⟩

set_option maxRecDepth 100000 in
set_option maxHeartbeats 4000000 in
theorem pond_any (wd hg : Int) (want keep : List Int) (sw sk : Value) (w : World) (hlw : want.length ≤ 1000000) (hlk : keep.length ≤ 1000000) (hw : Ints w sw want) (hk : Ints w sk keep) :
    Calls Try.prog 21 #[.agg #[.int .i64 wd, .int .i64 hg, sw, sk]] w fun e w' => e = .returned (.int .i64 (pondE wd hg want keep)) ∧ Below w.heap.size w w' := by
  have k0 := hid (World.alloc_heap_new w (.cells #[.int .i64 wd, .int .i64 hg, sw, sk] 24))
  have hb0 := hid (bl_alloc (bl_refl w) (.cells #[.int .i64 wd, .int .i64 hg, sw, sk] 24))
  have HW := hid hw
  have HK := hid hk
  clear hw hk
  go_enter Try.func21, Try.ntmps21
  go_upto_region 1 with (fail)
  obtain ⟨w0, hw0⟩ : ∃ w0, w.alloc (.cells #[.int .i64 wd, .int .i64 hg, sw, sk] 24) = w0 := ⟨_, rfl⟩
  rw [hw0] at k0 hb0 ⊢
  obtain ⟨R, hR⟩ : ∃ R, w.heap.size = R := ⟨_, rfl⟩
  rw [hR] at k0 ⊢
  clear hw0
  have c0 : w0.cell? ⟨R, 0, none⟩ = some (.int .i64 wd) := cell_of_heap k0.out
  have c1 : w0.cell? ⟨R, 1, none⟩ = some (.int .i64 hg) := cell_of_heap k0.out
  have kl := (Array.getElem?_eq_some_iff.1 k0.out).1
  have hcall := within_any 1 8 [wd, hg] (.slice (some ⟨w0.heap.size, 0, none⟩) 2 2) (w0.alloc (.cells #[.int .i64 wd, .int .i64 hg] 3)) (by simp) (.inr ⟨_, 0, 2, rfl, by simp, by simp, fun i y hy => by
    rw [cell_of_heap (World.alloc_heap_new w0 _)]
    have := (List.getElem?_eq_some_iff.1 hy).1
    simp at this
    match i, this, hy with
    | 0, _, hy => simpa using hy
    | 1, _, hy => simpa using hy⟩)
  rw [within_two] at hcall
  by_cases hr : 1 ≤ wd ∧ wd ≤ 8 ∧ 1 ≤ hg ∧ hg ≤ 8
  · have hd : (decide (1 ≤ wd ∧ wd ≤ 8) && decide (1 ≤ hg ∧ hg ≤ 8)) = true := by simp; omega
    have HP := hid (show pondE wd hg want keep = if listB (wd * hg) 0 want = false ∨ listB (wd * hg) 0 keep = false then 2 else if want.any (fun n => keep.contains n) = true then 11 else 0 by unfold pondE; rw [if_neg (by simpa using hr)])
    rw [hd] at hcall
    clear hd
    go_wp2_with fail
    refine hcall.mono ?_
    rintro e w1 ⟨rfl, hb1⟩
    have k1 := hid (heap_mono (heap_mono k0.out (bl_alloc (bl_refl w0) _)) hb1)
    have hb2 := hid (bl_trans (bl_trans hb0.out (bl_alloc (bl_refl w0) _)) hb1)
    clear hcall hb1 c0 c1 kl k0 hb0
    have d0 : w1.cell? ⟨R, 0, none⟩ = some (.int .i64 wd) := cell_of_heap k1.out
    have d1 : w1.cell? ⟨R, 1, none⟩ = some (.int .i64 hg) := cell_of_heap k1.out
    have d2 : w1.cell? ⟨R, 2, none⟩ = some sw := cell_of_heap k1.out
    have d3 : w1.cell? ⟨R, 3, none⟩ = some sk := cell_of_heap k1.out
    have kl := (Array.getElem?_eq_some_iff.1 k1.out).1
    have hcall := isList_any wd hg sw sk want sw w1 (by omega) (by omega) hlw (HW.out.mono hb2.out)
    cases hlw1 : listB (wd * hg) 0 want
    · rw [hlw1] at hcall HP
      rw [if_pos (.inl rfl)] at HP
      clear hlw1
      go_wp2_with fail
      refine hcall.mono ?_
      rintro e w2 ⟨rfl, hb3⟩
      have hB := hid (bl_trans hb2.out hb3)
      clear hcall hb3 d0 d1 d2 d3 kl k1 hb2
      go_wp2
      go_ret
      exact ⟨by rw [HP.out]; rfl, hB.out⟩
    · rw [hlw1] at hcall HP
      clear hlw1
      go_wp2_with fail
      refine hcall.mono ?_
      rintro e w2 ⟨rfl, hb3⟩
      have k2 := hid (heap_mono k1.out hb3)
      have hb4 := hid (bl_trans hb2.out hb3)
      clear hcall hb3 d0 d1 d2 d3 kl k1 hb2
      have d0 : w2.cell? ⟨R, 0, none⟩ = some (.int .i64 wd) := cell_of_heap k2.out
      have d1 : w2.cell? ⟨R, 1, none⟩ = some (.int .i64 hg) := cell_of_heap k2.out
      have d2 : w2.cell? ⟨R, 2, none⟩ = some sw := cell_of_heap k2.out
      have d3 : w2.cell? ⟨R, 3, none⟩ = some sk := cell_of_heap k2.out
      have kl := (Array.getElem?_eq_some_iff.1 k2.out).1
      have hcall := isList_any wd hg sw sk keep sk w2 (by omega) (by omega) hlk (HK.out.mono hb4.out)
      cases hlk1 : listB (wd * hg) 0 keep
      · rw [hlk1] at hcall HP
        rw [if_pos (.inr rfl)] at HP
        clear hlk1
        go_wp2_with fail
        refine hcall.mono ?_
        rintro e w3 ⟨rfl, hb5⟩
        have hB := hid (bl_trans hb4.out hb5)
        clear hcall hb5 d0 d1 d2 d3 kl k2 hb4
        go_wp2
        go_ret
        exact ⟨by rw [HP.out]; rfl, hB.out⟩
      · rw [hlk1] at hcall HP
        rw [if_neg (by simp)] at HP
        clear hlk1
        go_wp2_with fail
        refine hcall.mono ?_
        rintro e w3 ⟨rfl, hb5⟩
        have k3 := hid (heap_mono k2.out hb5)
        have hb6 := hid (bl_trans hb4.out hb5)
        clear hcall hb5 d0 d1 d2 d3 kl k2 hb4
        have d2 : w3.cell? ⟨R, 2, none⟩ = some sw := cell_of_heap k3.out
        have kl := (Array.getElem?_eq_some_iff.1 k3.out).1
        have hcall := anyKeep_any (fun n => keep.contains n) want sw R w3 hlw (fun n => keepFn_any wd hg sw sk keep R n w3 hlk (HK.out.mono hb6.out) k3.out) (HW.out.mono hb6.out)
        cases hov : want.any (fun n => keep.contains n)
        · rw [hov] at hcall HP
          rw [if_neg (by decide)] at HP
          clear hov
          go_wp2_with fail
          refine hcall.mono ?_
          rintro e w4 ⟨rfl, rfl⟩
          clear hcall d2 kl k3
          go_wp2
          go_ret
          exact ⟨by rw [HP.out]; rfl, hb6.out⟩
        · rw [hov] at hcall HP
          rw [if_pos rfl] at HP
          clear hov
          go_wp2_with fail
          refine hcall.mono ?_
          rintro e w4 ⟨rfl, rfl⟩
          clear hcall d2 kl k3
          go_wp2
          go_ret
          exact ⟨by rw [HP.out]; rfl, hb6.out⟩
  · have hd : (decide (1 ≤ wd ∧ wd ≤ 8) && decide (1 ≤ hg ∧ hg ≤ 8)) = false := by
      rw [Bool.eq_false_iff]; intro h; simp at h; exact hr (by omega)
    have HP := hid (show pondE wd hg want keep = 3 by unfold pondE; rw [if_pos hr])
    rw [hd] at hcall
    clear hd hr
    go_wp2_with fail
    refine hcall.mono ?_
    rintro e w1 ⟨rfl, hb1⟩
    have hB := hid (bl_trans (bl_trans hb0.out (bl_alloc (bl_refl w0) _)) hb1)
    clear hcall hb1 c0 c1 kl k0 hb0
    go_wp2
    go_ret
    exact ⟨by rw [HP.out]; rfl, hB.out⟩

end Go.Proofs.Ytlkoadcbolkhoaa
