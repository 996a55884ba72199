/- The open days of a reach, yielded one after another; whether a day is one; how many logs can enter from a day on. -/
import Derived.OwnWalkIn
import Derived.TacticsInMore
import Derived.LoopNIn
import Derived.LoopIn
import Derived.Shelf.Abstract
import Derived.OneCell
import Derived.Test.YtbnmjbmlejifcaaRiver
set_option linter.all false
namespace Go.Proofs.Ytbnmjbmlejifcaa
open Go Go.RowKit Go.Proofs
attribute [local go_sem] Oper.semAt_some

/-- How many open days there are. -/
def nOpen (x : Rch) : Nat := if x.lo ≤ x.hi then ((x.hi - x.lo) / x.every).toNat + 1 else 0
def dayK (x : Rch) (k : Nat) : Int := x.lo + k * x.every
def upTo (x : Rch) (f : Int) (k : Nat) : List Int := ((List.range k).map (dayK x)).filter fun d => decide (f ≤ d)
/-- The open days from one on. -/
def openL (x : Rch) (f : Int) : List Int := upTo x f (nOpen x)
theorem open_lt (x : Rch) (hx : 1 ≤ x.every) (k : Nat) : k < nOpen x ↔ dayK x k ≤ x.hi := by
  unfold nOpen dayK
  have hm : 0 ≤ (k : Int) * x.every := Int.mul_nonneg (by omega) (by omega)
  by_cases h : x.lo ≤ x.hi
  · rw [if_pos h]
    have h0 := Int.ediv_nonneg (show 0 ≤ x.hi - x.lo by omega) (show 0 ≤ x.every by omega)
    have h1 := Int.le_ediv_iff_mul_le (a := (k : Int)) (b := x.hi - x.lo) (show 0 < x.every by omega)
    constructor
    · intro h2; have := h1.1 (by omega); omega
    · intro h2; have := h1.2 (by omega); omega
  · rw [if_neg h]; omega
theorem day_succ (x : Rch) (k : Nat) : dayK x (k + 1) = dayK x k + x.every := by
  unfold dayK
  rw [Int.natCast_add, Int.add_mul]
  simp
  omega
theorem upTo_yes {x : Rch} {f : Int} {k : Nat} (h : f ≤ dayK x k) : upTo x f (k + 1) = upTo x f k ++ [dayK x k] := by simp [upTo, List.range_succ, List.filter_append, h]
theorem upTo_no {x : Rch} {f : Int} {k : Nat} (h : ¬ f ≤ dayK x k) : upTo x f (k + 1) = upTo x f k := by simp [upTo, List.range_succ, List.filter_append, h]
theorem upTo_pre {x : Rch} {f : Int} {k n : Nat} (h : k ≤ n) : upTo x f k <+: upTo x f n := by
  induction n with
  | zero => rw [show k = 0 by omega]; exact List.prefix_rfl
  | succ n ih =>
    by_cases e : k = n + 1
    · rw [e]; exact List.prefix_rfl
    · have h1 := ih (by omega)
      by_cases hf : f ≤ dayK x n
      · rw [upTo_yes hf]; exact h1.trans (List.prefix_append _ _)
      · rw [upTo_no hf]; exact h1

set_option maxHeartbeats 4000000 in
theorem days_any (x : Rch) (f : Int) (w : World) : Calls Try.prog 84 #[encR x, .int .i64 f] w fun e w' => e = .returned (.func (.func 89) #[] #[.pointer (some ⟨w.heap.size, 0, none⟩), .pointer (some ⟨w.heap.size + 1, 0, none⟩)]) ∧
    w' = (w.alloc (.cells #[.int .i64 x.down, .int .i64 x.pass, .int .i64 x.takes, .int .i64 x.lo, .int .i64 x.hi, .int .i64 x.every, .int .i64 x.logs, .int .i64 x.ready] 59)).alloc (.cells #[.int .i64 f] 2) := by
  unfold encR
  go_enter Try.func84, Try.ntmps84
  go_wp2
  go_ret
  exact ⟨rfl, rfl⟩

/-- What the iterator needs of what holds between its rounds. -/
structure DaysInv (x : Rch) (f : Int) (X F : Nat) (I : List Int → World → Prop) : Prop where
  box : ∀ pre W, I pre W → W.heap[X]? = some (.cells #[.int .i64 x.down, .int .i64 x.pass, .int .i64 x.takes, .int .i64 x.lo, .int .i64 x.hi, .int .i64 x.every, .int .i64 x.logs, .int .i64 x.ready] 59 (0, 0)) ∧ W.heap[F]? = some (.cells #[.int .i64 f] 2 (0, 0))

set_option maxRecDepth 100000 in
set_option maxHeartbeats 4000000 in
theorem days_iter {x : Rch} {f : Int} {X F : Nat} {I : List Int → World → Prop} {Ix : Code → List Int → World → Prop} (h1 : 1 ≤ x.every ∧ x.every ≤ 100) (h2 : 0 ≤ x.lo) (h3 : x.hi ≤ 1000) (G : DaysInv x f X F I) (w : World) :
    IterOk Try.prog 89 #[.pointer (some ⟨X, 0, none⟩), .pointer (some ⟨F, 0, none⟩)] (fun d : Int => #[.int .i64 d]) I I Ix (fun xs => xs = openL x f) (fun pre d => pre ++ [d] <+: openL x f) w := by
  intro l B Bx W1 hW1 hBb hBs hxb hxs hY hI0 hB0
  obtain ⟨hX0, hF0⟩ := G.box _ _ hI0
  have c3 : W1.cell? ⟨X, 3, none⟩ = some (.int .i64 x.lo) := cell_of_heap hX0
  clear hF0 hX0
  refine callsIn_of_wp Try.func89 rfl trivial ?_ rfl
  simp only [Try.ntmps89, List.size_toArray, List.length_cons, List.length_nil, Nat.reduceAdd, Nat.reduceSub, Array.replicate_succ, Array.replicate_zero, List.push_toArray, List.append_toArray, List.nil_append, List.cons_append]
  gi_wp2
  clear c3
  gi_loopw [4] (fun p wr => ∃ k : Nat, k ≤ nOpen x ∧ p = .int .i64 (dayK x k) ∧ I (upTo x f k) wr ∧ B wr) (fun p _ => (1101 - intOf p).toNat)
  case atStart => exact ⟨0, Nat.zero_le _, by simp [dayK], hI0, hB0⟩
  case round =>
    obtain ⟨k, hk, rfl, hI, hB⟩ := hrel
    clear hI0 hB0 hW1
    obtain ⟨hX, hF⟩ := G.box _ _ hI
    have c4 : wr.cell? ⟨X, 4, none⟩ = some (.int .i64 x.hi) := cell_of_heap hX
    have c5 : wr.cell? ⟨X, 5, none⟩ = some (.int .i64 x.every) := cell_of_heap hX
    have cf : wr.cell? ⟨F, 0, none⟩ = some (.int .i64 f) := cell_of_heap hF
    have hol := open_lt x h1.1 k
    have hsc := day_succ x k
    have hge : 0 ≤ dayK x k := by
      have := Int.mul_nonneg (show 0 ≤ (k : Int) by omega) (show 0 ≤ x.every by omega)
      unfold dayK; omega
    have hple := upTo_pre (x := x) (f := f) (show k ≤ nOpen x from hk)
    have HPL := hid hple
    clear hX hF hple
    by_cases hlt : k < nOpen x
    · have hle := hol.1 hlt
      have hpn := upTo_pre (x := x) (f := f) (show k + 1 ≤ nOpen x by omega)
      by_cases hf : f ≤ dayK x k
      · have hup := upTo_yes hf
        rw [hup] at hpn
        have HU := hid hup
        obtain ⟨fn, tmps, assign, body, hy, hR⟩ := hY _ (dayK x k) wr hI hB hpn
        have HSC := hid hsc
        have HG := hid G
        clear hY hBb hBs hxb hxs hI hB hpn hup hol hsc
        generalize dayK x k = d at *
        gi_wp2
        refine hR.mono ?_
        rintro e W3 (⟨rfl, hI3, hB3⟩ | ⟨rfl, c, hx3, hbx3⟩)
        · obtain ⟨hX3, hF3⟩ := HG.out.box _ _ hI3
          have c53 : W3.cell? ⟨X, 5, none⟩ = some (.int .i64 x.every) := cell_of_heap hX3
          have HI3 := hid hI3
          have HB3 := hid hB3
          clear hI3 hB3 hX3 hF3 hR hy c4 c5 cf
          gi_wp2
          go_roundw
          case rel => exact ⟨k + 1, by omega, by rw [HSC.out], by rw [HU.out]; exact HI3.out, HB3.out⟩
          case measure => simp [intOf]; omega
        · clear hR hy c4 c5 cf
          gi_wp2
          refine bodyPost_ret (results_none rfl _ _ _) rfl ?_
          exact ⟨⟨_, rfl⟩, .inr ⟨c, _, hx3, hbx3⟩⟩
      · have hf' : decide (f ≤ dayK x k) = false := by simpa using hf
        have HU := hid (upTo_no hf)
        have HSC := hid hsc
        have HI := hid hI
        have HB := hid hB
        clear hY hBb hBs hxb hxs hpn hol hsc hI hB hf
        generalize dayK x k = d at *
        gi_wp2
        refine ⟨fun _ h => (by cases h), ?_⟩
        gi_wp2
        go_roundw
        case rel => exact ⟨k + 1, by omega, by rw [HSC.out], by rw [HU.out]; exact HI.out, HB.out⟩
        case measure => simp [intOf]; omega
    · have hnle : decide (dayK x k ≤ x.hi) = false := by
        have : ¬ dayK x k ≤ x.hi := fun h => hlt (hol.2 h)
        simpa using this
      obtain rfl : k = nOpen x := by omega
      clear hY hBb hBs hxb hxs hol hsc
      gi_wp2
      refine bodyPost_end (results_none rfl _ _ _) rfl ?_
      exact ⟨⟨_, rfl⟩, .inl ⟨_, rfl, hI, hB⟩⟩

theorem enters89 : ∀ (args : Array Value) (w : World), (callFunc 89 args).run Try.prog w = .ok (.enter 89 args) w := Go.Proofs.enters_of Try.func89 (by kernel_rfl) rfl

theorem day_mono (x : Rch) (hx : 1 ≤ x.every) {j k : Nat} (h : j ≤ k) : dayK x j ≤ dayK x k := by
  unfold dayK
  have := Int.mul_le_mul_of_nonneg_right (show (j : Int) ≤ k by omega) (show 0 ≤ x.every by omega)
  omega
theorem open_iff (x : Rch) (hx : 1 ≤ x.every) (d : Int) : openB x d = true ↔ ∃ k, k < nOpen x ∧ dayK x k = d := by
  simp only [openB, Bool.and_eq_true, decide_eq_true_eq]
  constructor
  · rintro ⟨⟨h1, h2⟩, h3⟩
    have h4 := Int.ediv_nonneg (show 0 ≤ d - x.lo by omega) (show 0 ≤ x.every by omega)
    have h5 : (d - x.lo) / x.every * x.every = d - x.lo := Int.ediv_mul_cancel (Int.dvd_of_emod_eq_zero h3)
    have h6 : dayK x ((d - x.lo) / x.every).toNat = d := by
      unfold dayK
      rw [show ((((d - x.lo) / x.every).toNat : Nat) : Int) = (d - x.lo) / x.every by omega, h5]; omega
    exact ⟨_, (open_lt x hx _).2 (by rw [h6]; exact h2), h6⟩
  · rintro ⟨k, hk, rfl⟩
    have h1 := (open_lt x hx k).1 hk
    have h2 := Int.mul_nonneg (show 0 ≤ (k : Int) by omega) (show 0 ≤ x.every by omega)
    refine ⟨⟨by unfold dayK; omega, h1⟩, ?_⟩
    unfold dayK
    rw [show x.lo + (k : Int) * x.every - x.lo = (k : Int) * x.every by omega]
    exact Int.mul_emod_left _ _
theorem upTo_nil {x : Rch} {f : Int} {n : Nat} (h : upTo x f n = []) : ∀ j, j < n → ¬ f ≤ dayK x j := by
  induction n with
  | zero => intro j hj; omega
  | succ n ih =>
    intro j hj
    by_cases hf : f ≤ dayK x n
    · rw [upTo_yes hf] at h; simp at h
    · rw [upTo_no hf] at h
      by_cases e : j = n
      · rw [e]; exact hf
      · exact ih h j (by omega)
theorem first_upTo {x : Rch} {f e : Int} {n : Nat} (h : [e] <+: upTo x f n) : ∃ k, k < n ∧ dayK x k = e ∧ f ≤ e ∧ ∀ j, j < k → ¬ f ≤ dayK x j := by
  induction n with
  | zero => simp [upTo] at h
  | succ n ih =>
    by_cases hf : f ≤ dayK x n
    · rw [upTo_yes hf] at h
      by_cases h0 : upTo x f n = []
      · rw [h0] at h
        simp at h
        exact ⟨n, by omega, h.symm, by rw [h]; exact hf, upTo_nil h0⟩
      · have h1 : [e] <+: upTo x f n := by
          obtain ⟨a, l, hl⟩ := List.exists_cons_of_ne_nil h0
          rw [hl] at h ⊢
          obtain ⟨s, hs⟩ := h
          simp at hs
          exact ⟨l, by simp [hs.1]⟩
        obtain ⟨k, a, b, c, d⟩ := ih h1
        exact ⟨k, by omega, b, c, d⟩
    · rw [upTo_no hf] at h
      obtain ⟨k, a, b, c, d⟩ := ih h
      exact ⟨k, by omega, b, c, d⟩
theorem openL_head {x : Rch} {d e : Int} (hx : 1 ≤ x.every) (h : [e] <+: openL x d) : (e == d) = openB x d := by
  obtain ⟨k, h1, h2, h3, h4⟩ := first_upTo h
  rw [Bool.eq_iff_iff, open_iff x hx]
  simp only [beq_iff_eq]
  constructor
  · intro e1; exact ⟨k, h1, by rw [h2, e1]⟩
  · rintro ⟨j, hj, e1⟩
    by_cases hjk : j < k
    · exact absurd (by omega) (h4 j hjk)
    · have := day_mono x hx (show k ≤ j by omega); omega
theorem openL_none {x : Rch} {d : Int} (hx : 1 ≤ x.every) (h : openL x d = []) : openB x d = false := by
  cases ho : openB x d with
  | false => rfl
  | true =>
    obtain ⟨j, hj, e1⟩ := (open_iff x hx d).1 ho
    exact absurd (show d ≤ dayK x j by omega) (upTo_nil h j hj)

/-- What lies there while a day is sought. -/
structure SeekInv (x : Rch) (d : Int) (w W : World) : Prop where
  day : W.heap[w.heap.size + 1]? = some (.cells #[.int .i64 d] 2 (0, 0))
  res : ∃ b, W.heap[w.heap.size + 2]? = some (.cells #[.bool b] 4 (0, 0))
  bx : W.heap[w.heap.size + 3]? = some (.cells #[.int .i64 x.down, .int .i64 x.pass, .int .i64 x.takes, .int .i64 x.lo, .int .i64 x.hi, .int .i64 x.every, .int .i64 x.logs, .int .i64 x.ready] 59 (0, 0))
  bf : W.heap[w.heap.size + 4]? = some (.cells #[.int .i64 d] 2 (0, 0))
  old : Below w.heap.size w W

theorem SeekInv.mono {x : Rch} {d : Int} {w W W' : World} (h : SeekInv x d w W) (hb : Below W.heap.size W W') : SeekInv x d w W' :=
  ⟨heap_mono h.day hb, h.res.imp fun _ e => heap_mono e hb, heap_mono h.bx hb, heap_mono h.bf hb, bl_trans h.old hb⟩
theorem SeekInv.put {x : Rch} {d : Int} {w W : World} {l : Nat} {o r0 : Obj} (h : SeekInv x d w W) (hr : W.heap[l]? = some r0) (hl : w.heap.size ≤ l) (h0 : r0.isCells = false := by rfl) : SeekInv x d w (W.putObj l o) :=
  ⟨heap_put h.day rfl hr h0, h.res.imp fun _ e => heap_put e rfl hr h0, heap_put h.bx rfl hr h0, heap_put h.bf rfl hr h0, below_put h.old hl⟩

theorem SeekInv.set {x : Rch} {d : Int} {w W : World} (h : SeekInv x d w W) (c : Bool) : SeekInv x d w (W.setCell ⟨w.heap.size + 1 + 1, 0, none⟩ (.bool c)) ∧ (W.setCell ⟨w.heap.size + 1 + 1, 0, none⟩ (.bool c)).heap[w.heap.size + 1 + 1]? = some (.cells #[.bool c] 4 (0, 0)) := by
  obtain ⟨b, hb⟩ := h.res
  have h5 := one_setCell (u := .bool c) hb
  exact ⟨⟨past_set (by omega) h.day, ⟨_, h5⟩, past_set (by omega) h.bx, past_set (by omega) h.bf, bl_set h.old _ (by omega)⟩, h5⟩

set_option maxRecDepth 100000 in
set_option maxHeartbeats 4000000 in
theorem open_any (x : Rch) (d : Int) (w : World) (h1 : 1 ≤ x.every ∧ x.every ≤ 100) (h2 : 0 ≤ x.lo) (h3 : x.hi ≤ 1000) : Calls Try.prog 60 #[encR x, .int .i64 d] w fun e w' => e = .returned (.bool (openB x d)) ∧ Below w.heap.size w w' := by
  unfold encR
  refine calls_marks Try.func60 rfl ?_
  simp only [Try.ntmps60, List.size_toArray, List.length_cons, List.length_nil, Nat.reduceAdd, Nat.reduceSub, Array.replicate_succ, Array.replicate_zero, List.push_toArray, List.append_toArray, List.nil_append, List.cons_append]
  go_wp2_with fail
  refine (days_any x d _).mono ?_
  rintro e w1 ⟨rfl, rfl⟩
  go_wp2
  obtain ⟨W2, hW2⟩ : ∃ W2, ((((w.alloc (.cells #[.int .i64 x.down, .int .i64 x.pass, .int .i64 x.takes, .int .i64 x.lo, .int .i64 x.hi, .int .i64 x.every, .int .i64 x.logs, .int .i64 x.ready] 59)).alloc (.cells #[.int .i64 d] 2)).alloc (.cells #[.bool false] 4)).alloc (.cells #[.int .i64 x.down, .int .i64 x.pass, .int .i64 x.takes, .int .i64 x.lo, .int .i64 x.hi, .int .i64 x.every, .int .i64 x.logs, .int .i64 x.ready] 59)).alloc (.cells #[.int .i64 d] 2) = W2 := ⟨_, rfl⟩
  have D0 : SeekInv x d w W2 := by
    have e1 := World.alloc_heap_new (w.alloc (.cells #[.int .i64 x.down, .int .i64 x.pass, .int .i64 x.takes, .int .i64 x.lo, .int .i64 x.hi, .int .i64 x.every, .int .i64 x.logs, .int .i64 x.ready] 59)) (.cells #[.int .i64 d] 2)
    have e2 := World.alloc_heap_new ((w.alloc (.cells #[.int .i64 x.down, .int .i64 x.pass, .int .i64 x.takes, .int .i64 x.lo, .int .i64 x.hi, .int .i64 x.every, .int .i64 x.logs, .int .i64 x.ready] 59)).alloc (.cells #[.int .i64 d] 2)) (.cells #[.bool false] 4)
    have e3 := World.alloc_heap_new (((w.alloc (.cells #[.int .i64 x.down, .int .i64 x.pass, .int .i64 x.takes, .int .i64 x.lo, .int .i64 x.hi, .int .i64 x.every, .int .i64 x.logs, .int .i64 x.ready] 59)).alloc (.cells #[.int .i64 d] 2)).alloc (.cells #[.bool false] 4)) (.cells #[.int .i64 x.down, .int .i64 x.pass, .int .i64 x.takes, .int .i64 x.lo, .int .i64 x.hi, .int .i64 x.every, .int .i64 x.logs, .int .i64 x.ready] 59)
    have e4 := World.alloc_heap_new ((((w.alloc (.cells #[.int .i64 x.down, .int .i64 x.pass, .int .i64 x.takes, .int .i64 x.lo, .int .i64 x.hi, .int .i64 x.every, .int .i64 x.logs, .int .i64 x.ready] 59)).alloc (.cells #[.int .i64 d] 2)).alloc (.cells #[.bool false] 4)).alloc (.cells #[.int .i64 x.down, .int .i64 x.pass, .int .i64 x.takes, .int .i64 x.lo, .int .i64 x.hi, .int .i64 x.every, .int .i64 x.logs, .int .i64 x.ready] 59)) (.cells #[.int .i64 d] 2)
    simp only [World.size_alloc] at e1 e2 e3 e4
    rw [← hW2]
    exact ⟨heap_mono e1 (bl_alloc (bl_alloc (bl_alloc (bl_refl _) _) _) _), ⟨_, heap_mono e2 (bl_alloc (bl_alloc (bl_refl _) _) _)⟩, heap_mono e3 (bl_alloc (bl_refl _) _), e4, bl_alloc (bl_alloc (bl_alloc (bl_alloc (bl_alloc (bl_refl _) _) _) _) _) _⟩
  rw [hW2]
  clear hW2
  refine wp_rangeFunc_mine (gf := 89) (lb := #[.pointer (some ⟨w.heap.size + 1 + 1 + 1, 0, none⟩), .pointer (some ⟨w.heap.size + 1 + 1 + 1 + 1, 0, none⟩)]) rfl enters89 (encs := fun d : Int => #[.int .i64 d]) (fun _ => rfl)
    (fun xs W => xs = [] ∧ SeekInv x d w W) (fun xs W => xs = [] ∧ SeekInv x d w W) (fun c pre W => c = .ret ∧ ∃ e, pre = [e] ∧ [e] <+: openL x d ∧ SeekInv x d w W ∧ W.heap[w.heap.size + 2]? = some (.cells #[.bool (e == d)] 4 (0, 0)))
    (fun xs => xs = openL x d) (fun pre e => pre ++ [e] <+: openL x d) (days_iter h1 h2 h3 ⟨fun pre W h => ⟨h.2.bx, h.2.bf⟩⟩ W2)
    ?free ?free2 ?freex ?start ?_ ?assign ?body ?done ?stop
  case assign =>
    intro l e W K hK
    gi_wp2
    exact hK
  case start => exact fun W hW _ => ⟨rfl, D0.mono hW⟩
  case free =>
    rintro l hl s W o ⟨rfl, h⟩ ⟨r, hr⟩ ⟨r', rfl⟩
    exact ⟨rfl, h.put hr (by have := D0.old.size; have := (Array.getElem?_eq_some_iff.1 D0.bf).1; omega)⟩
  case free2 =>
    rintro l hl s W o ⟨rfl, h⟩ ⟨r, hr⟩ ⟨r', rfl⟩
    exact ⟨rfl, h.put hr (by have := D0.old.size; have := (Array.getElem?_eq_some_iff.1 D0.bf).1; omega)⟩
  case freex =>
    rintro l c hl s W o ⟨rfl, e, rfl, hp, h, h5⟩ ⟨r, hr⟩ ⟨r', rfl⟩
    exact ⟨rfl, e, rfl, hp, h.put hr (by have := D0.old.size; have := (Array.getElem?_eq_some_iff.1 D0.bf).1; omega), heap_put h5 rfl hr rfl⟩
  case body =>
    rintro l pre e W rfl ⟨rfl, h⟩ hadm ⟨r, hr⟩ hd
    obtain ⟨b, hb⟩ := h.res
    have c3 : W.cell? ⟨w.heap.size + 1, 0, none⟩ = some (.int .i64 d) := cell_of_heap h.day
    have c4 : W.cell? ⟨w.heap.size + 1 + 1, 0, none⟩ = some (.bool b) := cell_of_heap hb
    have f4 : W.frozen? ⟨w.heap.size + 1 + 1, 0, none⟩ = false := frozen_of_heap hb
    have l4 : w.heap.size + 1 + 1 < W.heap.size := (Array.getElem?_eq_some_iff.1 hb).1
    have hfin := hid (h.set (e == d))
    have hADM := hid hadm
    clear hadm
    have hl1 := hid (book_set hr rfl ⟨w.heap.size + 1 + 1, 0, none⟩ (.bool (e == d)))
    have hl2 := hid (book_set hd rfl ⟨w.heap.size + 1 + 1, 0, none⟩ (.bool (e == d)))
    have hr' := hid hr
    have hd' := hid hd
    clear hb h D0 hr hd
    gi_wp2
    exact ⟨by rw [hl1.out, hr'.out], by rw [hl2.out, hd'.out], rfl, e, rfl, hADM.out, hfin.out.1, hfin.out.2⟩
  case done =>
    rintro D xs W rfl hxs ⟨rfl, h⟩ hK
    have hno := openL_none (x := x) (d := d) h1.1 hxs.symm
    obtain ⟨b, hb⟩ := h.res
    have c4 : W.cell? ⟨w.heap.size + 1 + 1, 0, none⟩ = some (.bool b) := cell_of_heap hb
    have f4 : W.frozen? ⟨w.heap.size + 1 + 1, 0, none⟩ = false := frozen_of_heap hb
    have l4 : w.heap.size + 1 + 1 < W.heap.size := (Array.getElem?_eq_some_iff.1 hb).1
    have hfin := hid (h.set false)
    have hK' := hid (book_set hK rfl ⟨w.heap.size + 1 + 1, 0, none⟩ (.bool false))
    have hNO := hid hno
    have hD2 : w.heap.size ≤ W2.heap.size := D0.old.size
    clear hb h D0 hK hno hxs
    simp only
    go_wp2
    have hcell := cell_put (cell_of_heap (i := 0) hfin.out.2) hK'.out rfl (o' := .deferred none)
    refine leave_one rfl hK'.out (v := .bool false) (by simp [results, Try.results60, go_sem, hcell]) ⟨by rw [hNO.out], below_put hfin.out.1.old hD2⟩
  case stop =>
    rintro D c pre W rfl ⟨rfl, e, rfl, hp, h, h5⟩ hK
    have hEQ := hid (openL_head h1.1 hp)
    have hD2 : w.heap.size ≤ W2.heap.size := D0.old.size
    have hcell := cell_put (cell_of_heap (i := 0) h5) hK rfl (o' := .deferred none)
    have hK' := hid hK
    have hOLD := hid h.old
    clear hp h h5 D0 hK
    refine wp_ret ?_
    refine leave_one rfl hK'.out (v := .bool (e == d)) (by simp [results, Try.results60, go_sem, hcell]) ⟨by rw [hEQ.out], below_put hOLD.out hD2⟩

end Go.Proofs.Ytbnmjbmlejifcaa
