/- share's shared: the table of a pool with shares, or the error; CheckShares. -/
import Derived.Test.YtfchcikdcnloaaaOpen
namespace Go.Proofs.Ytfchcikdcnloaaa
open Go.RowKit Go.Proofs

def padTo (l : List Int) : List Int := l ++ List.replicate (12 - l.length) 0
theorem padTo_nil : padTo [] = zero12 := rfl
theorem padTo_len {l : List Int} (h : l.length ≤ 12) : (padTo l).length = 12 := by simp [padTo]; omega
theorem padTo_get {l : List Int} {i : Nat} (hi : i < l.length) : (padTo l)[i]? = l[i]? := by
  simp [padTo, List.getElem?_append_left hi]
theorem padTo_set {l : List Int} {k : Nat} {x : Int} (hx : l[k]? = some x) (hl : l.length ≤ 12) : (padTo (l.take k)).set k x = padTo (l.take (k + 1)) := by
  have hk := (List.getElem?_eq_some_iff.mp hx).1
  have e1 : (l.take k).length = k := by simp; omega
  have e2 : (l.take (k + 1)).length = k + 1 := by simp; omega
  unfold padTo
  rw [e1, e2, List.take_add_one, hx]
  rw [List.set_append_right _ _ (by omega), e1]
  have : 12 - k = (12 - (k + 1)) + 1 := by omega
  rw [this, List.replicate_succ]
  simp
theorem padTo_ok {l : List Int} {prize : Int} (hl : l.length ≤ 12) (h : ∀ x ∈ l, 0 ≤ x ∧ x ≤ prize) (hp : prize ≤ 1000) : GotOk (padTo l) := by
  refine ⟨padTo_len hl, fun i x hx => ?_⟩
  have := List.mem_of_getElem? hx
  simp only [padTo, List.mem_append, List.mem_replicate] at this
  rcases this with h1 | ⟨_, rfl⟩
  · have := h x h1; omega
  · omega

theorem sum_take {l : List Int} {k : Nat} {x : Int} (hx : l[k]? = some x) : (l.take (k + 1)).sum = (l.take k).sum + x := by
  rw [List.take_add_one, hx]; simp
theorem sum_bd {l : List Int} {p : Int} (h : ∀ x ∈ l, 0 ≤ x ∧ x ≤ p) : 0 ≤ l.sum ∧ l.sum ≤ l.length * p := by
  induction l with
  | nil => simp
  | cons a l ih =>
    have h1 := h a (by simp)
    have h2 := ih (fun x hx => h x (by simp [hx]))
    simp only [List.sum_cons, List.length_cons]
    have : ((l.length + 1 : Nat) : Int) * p = l.length * p + p := by rw [Int.natCast_add, Int.add_mul]; simp
    omega
theorem sum_take_bd {l : List Int} {p : Int} (h : ∀ x ∈ l, 0 ≤ x ∧ x ≤ p) (hl : l.length ≤ 12) (hp : p ≤ 1000) (h0 : 0 ≤ p) (k : Nat) : 0 ≤ (l.take k).sum ∧ (l.take k).sum ≤ 12000 := by
  have := sum_bd (l := l.take k) (fun x hx => h x (List.mem_of_mem_take hx))
  have h2 : (l.take k).length ≤ 12 := by simp; omega
  have : ((l.take k).length : Int) * p ≤ 12 * 1000 := Int.mul_le_mul (by omega) hp h0 (by omega)
  omega

/-- What is wrong with a pool and shares, but for whether they are fair. -/
def sharedE (had : List Int) (part prize : Int) (shares : List Int) : Int :=
  if checkPool had part prize ≠ 0 then checkPool had part prize
  else if shares.length ≠ had.length then 15
  else if withinB 0 prize shares = false then 3
  else if shares.sum ≠ prize then 14
  else 0

/-- What the call leaves. -/
def SharedPost (had : List Int) (part prize : Int) (shares : List Int) (w : World) (e : Ending) (w' : World) : Prop :=
  (∃ v, e = .returned (.tuple #[v, .int .i64 (sharedE had part prize shares)]) ∧ (if sharedE had part prize shares = 0 then ∃ g b off c, v = .pointer (some ⟨g, 0, none⟩) ∧ w.heap.size ≤ g ∧ TabIs w' g b off c had part prize (padTo shares) else v = .pointer none)) ∧ Below w.heap.size w w'
theorem SharedPost.bad {had : List Int} {part prize : Int} {shares : List Int} {w w' : World} {n : Int} (h : sharedE had part prize shares = n) (hn : n ≠ 0) (hb : Below w.heap.size w w') : SharedPost had part prize shares w (.returned (.tuple #[.pointer none, .int .i64 n])) w' :=
  ⟨⟨_, by rw [h], by rw [h, if_neg hn]⟩, hb⟩
theorem SharedPost.good {had : List Int} {part prize : Int} {shares : List Int} {w w' : World} {g b off c : Nat} (h : sharedE had part prize shares = 0) (hg : w.heap.size ≤ g) (T : TabIs w' g b off c had part prize (padTo shares)) (hb : Below w.heap.size w w') : SharedPost had part prize shares w (.returned (.tuple #[.pointer (some ⟨g, 0, none⟩), .int .i64 0])) w' :=
  ⟨⟨_, by rw [h], by rw [h, if_pos rfl]; exact ⟨g, b, off, c, rfl, hg, T⟩⟩, hb⟩

set_option maxHeartbeats 2000000 in
theorem shared_any (had : List Int) (part prize : Int) (shares : List Int) (s s2 : Value) (w : World) (hl : had.length ≤ 1000) (hl2 : shares.length ≤ 1000) (hs : Ints w s had) (hs2 : Ints w s2 shares) :
    Calls Try.prog 51 #[.agg #[s, .int .i64 part, .int .i64 prize], s2] w (SharedPost had part prize shares w) := by
  obtain ⟨A, c, rfl⟩ := hs.slice
  obtain ⟨A2, c2, rfl⟩ := hs2.slice
  by_cases h0 : checkPool had part prize = 0
  case neg =>
    have hfin := hid (show sharedE had part prize shares = checkPool had part prize by simp [sharedE, h0])
    have hcp : (checkPool had part prize != 0) = true := by simpa using h0
    have H0 := hid h0
    go_enter Try.func51, Try.ntmps51
    go_wp2_with fail
    refine (open_err had part prize _ _ hl h0 (hs.mono (bl_alloc (bl_refl _) _))).mono ?_
    rintro e w1 ⟨rfl, hb1⟩
    clear h0
    obtain ⟨hn, hnf⟩ := new_cells hb1
    have hB1 := bl_trans (bl_alloc (bl_refl _) _) hb1
    go_wp2
    go_ret2
    exact SharedPost.bad hfin.out H0.out hB1
  have V := checkPool_ok.mp h0
  have hv1 := V.l1
  have hv2 := V.l2
  have hz1 := V.z1
  have hz2 := V.z2
  by_cases h1 : shares.length = had.length
  case neg =>
    have hfin := hid (show sharedE had part prize shares = 15 by simp [sharedE, h0, h1])
    have hcp : (shares.length == had.length) = false := by simpa using h1
    have hcp2 : ((shares.length : Int) == (had.length : Int)) = false := by simp; omega
    have hcp3 : ((shares.length : Int) != (had.length : Int)) = true := by simp; omega
    clear h0 h1
    go_enter Try.func51, Try.ntmps51
    go_wp2_with fail
    refine (open_ok had part prize _ _ V (hs.mono (bl_alloc (bl_refl _) _))).mono ?_
    rintro e w1 ⟨⟨g, b, off, c', rfl, hg, T⟩, hb1⟩
    obtain ⟨hn, hnf⟩ := new_cells hb1
    have hB1 := bl_trans (bl_alloc (bl_refl _) _) hb1
    go_wp2
    go_ret2
    exact SharedPost.bad hfin.out (by decide) hB1
  have hcp : (shares.length == had.length) = true := by simpa using h1
  have hcp2 : ((shares.length : Int) == (had.length : Int)) = true := by simp; omega
  have hcp3 : ((shares.length : Int) != (had.length : Int)) = false := by simp; omega
  have hlen := hid h1
  have hsl : shares.length ≤ 12 := by omega
  cases h2 : withinB 0 prize shares
  · have hfin := hid (show sharedE had part prize shares = 3 by simp [sharedE, h0, h1, h2])
    have H2 := hid h2
    clear h0 h1 h2
    go_enter Try.func51, Try.ntmps51
    go_wp2_with fail
    refine (open_ok had part prize _ _ V (hs.mono (bl_alloc (bl_refl _) _))).mono ?_
    rintro e w1 ⟨⟨g, b, off, c', rfl, hg, T⟩, hb1⟩
    obtain ⟨hn, hnf⟩ := new_cells hb1
    have hB1 := bl_trans (bl_alloc (bl_refl _) _) hb1
    go_wp2_with fail
    refine (within_any 0 prize shares _ _ (by omega) (hs2.mono hB1)).mono ?_
    rintro e w2 ⟨rfl, hb2⟩
    rw [H2.out]
    go_wp2
    go_ret2
    exact SharedPost.bad hfin.out (by decide) (bl_trans hB1 hb2)
  have h2' := (withinB_iff _ _ _).mp h2
  have hsumb : ∀ k, 0 ≤ (shares.take k).sum ∧ (shares.take k).sum ≤ 12000 := sum_take_bd h2' hsl hz2 hz1
  have Hsumb := Lib.hid hsumb
  have H2 := hid h2
  have H0 := hid h0
  obtain ⟨bs, offs, cs, hsv, _, hbs, hcs⟩ := hs2.some (by omega)
  cases hsv
  have Hcs := Lib.hid hcs
  have H2' := Lib.hid h2'
  clear hsumb hcs h2 h0 h1 h2'
  go_enter Try.func51, Try.ntmps51
  go_wp2_with fail
  refine (open_ok had part prize _ _ V (hs.mono (bl_alloc (bl_refl _) _))).mono ?_
  rintro e w1 ⟨⟨g, b, off, c', rfl, hg, T⟩, hb1⟩
  obtain ⟨hn, hnf⟩ := new_cells hb1
  have hB1 := bl_trans (bl_alloc (bl_refl _) _) hb1
  simp only [World.size_alloc] at hg
  go_wp2_with fail
  refine (within_any 0 prize shares _ _ (by omega) (hs2.mono hB1)).mono ?_
  rintro e w2 ⟨rfl, hb2⟩
  rw [H2.out]
  have hB2 := bl_trans hB1 hb2
  obtain ⟨hn2, hnf2⟩ := new_cells (bl_trans hb1 hb2)
  have T2 := T.mono hb2
  go_wp2
  go_loopw [8, 35] (fun a i wr => ∃ k : Nat, k ≤ shares.length ∧ i = .int .i64 k ∧ a = .int .i64 (shares.take k).sum ∧ TabIs wr g b off c' had part prize (padTo (shares.take k)) ∧ (∀ i, wr.cell? ⟨w.heap.size, i, none⟩ = #[Value.slice A had.length c, .int .i64 part, .int .i64 prize][i]?) ∧ Below w.heap.size w wr) (fun _ i _ => shares.length - (intOf i).toNat)
  case atStart => exact ⟨0, Nat.zero_le _, rfl, by simp, T2, hn2, hB2⟩
  case round =>
    obtain ⟨k, hk, rfl, rfl, Tr, hnr, hBr⟩ := hrel
    clear hn hnf hn2 hnf2 hB2 hB1 T T2 hb2 hb1
    by_cases hlt : k < shares.length
    · obtain ⟨x, hx⟩ := get_at hlt
      have hcx := cell_mono (Hcs.out k x hx) hBr
      have hxb := H2'.out x (List.mem_of_getElem? hx)
      have hsb := Hsumb.out k
      have hpl := padTo_len (l := shares.take k) (by simp; omega)
      obtain ⟨y, hy⟩ := get_at (l := padTo (shares.take k)) (k := k) (by omega)
      have hgy := Tr.cg hy
      have hfy := Tr.fr (3 + k)
      have Tn := hid (Tr.set (i := k) (x := x) (by omega))
      rw [padTo_set hx hsl] at Tn
      have hsum := hid (sum_take hx)
      clear hx hy hpl Tr
      go_wp2
      have hne : g ≠ w.heap.size := by omega
      go_roundw
      case rel => exact ⟨k + 1, by omega, by go_num, by rw [hsum.out], Tn.out, fun i => by rw [World.cell?_setCell_other (h := by intro e; injection e with e1; exact hne e1)]; exact hnr i, bl_set hBr _ (by omega)⟩
      case measure => simp [intOf]; omega
    · obtain rfl : k = shares.length := by omega
      have htk : shares.take shares.length = shares := List.take_length
      rw [htk] at Tr ⊢
      clear htk
      have hsb := (Hsumb.out shares.length)
      rw [List.take_length] at hsb
      by_cases hS : shares.sum = prize
      · have hfin := hid (show sharedE had part prize shares = 0 by simp [sharedE, H0.out, hlen.out, H2.out, hS])
        have hS1 : (shares.sum == prize) = true := by simpa using hS
        have hS2 : (shares.sum != prize) = false := by simpa using hS
        clear hS
        go_wp2
        go_ret2
        exact SharedPost.good hfin.out (by omega) Tr hBr
      · have hfin := hid (show sharedE had part prize shares = 14 by simp [sharedE, H0.out, hlen.out, H2.out, hS])
        have hS1 : (shares.sum == prize) = false := by simpa using hS
        have hS2 : (shares.sum != prize) = true := by simpa using hS
        clear hS
        go_wp2
        go_ret2
        exact SharedPost.bad hfin.out (by decide) hBr

theorem SharedPost.inv_bad {had : List Int} {part prize : Int} {shares : List Int} {w w' : World} {e : Ending} (h : SharedPost had part prize shares w e w') (hn : sharedE had part prize shares ≠ 0) : e = .returned (.tuple #[.pointer none, .int .i64 (sharedE had part prize shares)]) ∧ Below w.heap.size w w' := by
  obtain ⟨⟨v, rfl, hv⟩, hb⟩ := h
  rw [if_neg hn] at hv
  exact ⟨by rw [hv], hb⟩
theorem SharedPost.inv_good {had : List Int} {part prize : Int} {shares : List Int} {w w' : World} {e : Ending} (h : SharedPost had part prize shares w e w') (hn : sharedE had part prize shares = 0) : ∃ g b off c, e = .returned (.tuple #[.pointer (some ⟨g, 0, none⟩), .int .i64 0]) ∧ w.heap.size ≤ g ∧ TabIs w' g b off c had part prize (padTo shares) ∧ Below w.heap.size w w' := by
  obtain ⟨⟨v, rfl, hv⟩, hb⟩ := h
  rw [if_pos hn] at hv
  obtain ⟨g, b, off, c, rfl, hg, T⟩ := hv
  exact ⟨g, b, off, c, by rw [hn], hg, T, hb⟩

/-- What is known of a pool and shares that are right but for fairness. -/
structure ShOk (had : List Int) (part prize : Int) (shares : List Int) : Prop where
  V : Val had part prize
  len : shares.length = had.length
  rng : ∀ x ∈ shares, 0 ≤ x ∧ x ≤ prize
  sum : shares.sum = prize
theorem sharedE_ok {had : List Int} {part prize : Int} {shares : List Int} : sharedE had part prize shares = 0 ↔ ShOk had part prize shares := by
  unfold sharedE
  constructor
  · intro h
    split at h
    · omega
    rename_i h0
    split at h
    · omega
    rename_i h1
    split at h
    · omega
    rename_i h2
    split at h
    · omega
    rename_i h3
    exact ⟨checkPool_ok.mp (by omega), by omega, (withinB_iff _ _ _).mp (by simpa using h2), by omega⟩
  · rintro ⟨V, h1, h2, h3⟩
    have h2' := (withinB_iff _ _ _).mpr h2
    simp [checkPool_ok.mpr V, h1, h2', h3]
theorem ShOk.got {had : List Int} {part prize : Int} {shares : List Int} (h : ShOk had part prize shares) : GotOk (padTo shares) :=
  padTo_ok (by rw [h.len]; exact h.V.l2) h.rng h.V.z2

def checkSharesE (had : List Int) (part prize : Int) (shares : List Int) : Int :=
  if sharedE had part prize shares ≠ 0 then sharedE had part prize shares else if fairB had part (padTo shares) = true then 0 else 22

set_option maxHeartbeats 1000000 in
theorem checkShares_any (had : List Int) (part prize : Int) (shares : List Int) (s s2 : Value) (w : World) (hl : had.length ≤ 1000) (hl2 : shares.length ≤ 1000) (hs : Ints w s had) (hs2 : Ints w s2 shares) :
    Calls Try.prog 21 #[.agg #[s, .int .i64 part, .int .i64 prize], s2] w fun e w' => e = .returned (.int .i64 (checkSharesE had part prize shares)) ∧ Below w.heap.size w w' := by
  obtain ⟨A, c, rfl⟩ := hs.slice
  by_cases h0 : sharedE had part prize shares = 0
  · have O := sharedE_ok.mp h0
    cases hf : fairB had part (padTo shares)
    · have hfin := hid (show checkSharesE had part prize shares = 22 by simp [checkSharesE, h0, hf])
      have H0 := hid h0
      have HF := hid hf
      clear h0 hf
      go_enter Try.func21, Try.ntmps21
      go_wp2_with fail
      refine (shared_any had part prize shares _ _ _ hl hl2 (hs.mono (bl_alloc (bl_refl _) _)) (hs2.mono (bl_alloc (bl_refl _) _))).mono ?_
      rintro e w1 hp
      obtain ⟨g, b, off, c', rfl, hg, T, hb1⟩ := hp.inv_good H0.out
      clear hp
      go_wp2_with fail
      refine (fair_any T O.V O.got).mono ?_
      rintro e w2 ⟨rfl, hb2⟩
      rw [HF.out]
      go_wp2
      go_ret
      exact ⟨by rw [hfin.out]; rfl, bl_trans (bl_trans (bl_alloc (bl_refl _) _) hb1) hb2⟩
    · have hfin := hid (show checkSharesE had part prize shares = 0 by simp [checkSharesE, h0, hf])
      have H0 := hid h0
      have HF := hid hf
      clear h0 hf
      go_enter Try.func21, Try.ntmps21
      go_wp2_with fail
      refine (shared_any had part prize shares _ _ _ hl hl2 (hs.mono (bl_alloc (bl_refl _) _)) (hs2.mono (bl_alloc (bl_refl _) _))).mono ?_
      rintro e w1 hp
      obtain ⟨g, b, off, c', rfl, hg, T, hb1⟩ := hp.inv_good H0.out
      clear hp
      go_wp2_with fail
      refine (fair_any T O.V O.got).mono ?_
      rintro e w2 ⟨rfl, hb2⟩
      rw [HF.out]
      go_wp2
      go_ret
      exact ⟨by rw [hfin.out]; rfl, bl_trans (bl_trans (bl_alloc (bl_refl _) _) hb1) hb2⟩
  · have hfin := hid (show checkSharesE had part prize shares = sharedE had part prize shares by simp [checkSharesE, h0])
    have hcp : (sharedE had part prize shares != 0) = true := by simpa using h0
    have H0 := hid h0
    clear h0
    go_enter Try.func21, Try.ntmps21
    go_wp2_with fail
    refine (shared_any had part prize shares _ _ _ hl hl2 (hs.mono (bl_alloc (bl_refl _) _)) (hs2.mono (bl_alloc (bl_refl _) _))).mono ?_
    rintro e w1 hp
    obtain ⟨rfl, hb1⟩ := hp.inv_bad H0.out
    clear hp
    go_wp2
    go_ret
    exact ⟨by rw [hfin.out]; rfl, bl_trans (bl_alloc (bl_refl _) _) hb1⟩

end Go.Proofs.Ytfchcikdcnloaaa
