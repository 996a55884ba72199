/- Rivers: how reaches are read in memory; which rivers are valid (the reference). -/
import Derived.Test.YtbnmjbmlejifcaaKit
import Derived.Test.YtbnmjbmlejifcaaMathA
set_option linter.all false
namespace Go.Proofs.Ytbnmjbmlejifcaa
open Go Go.RowKit Go.Proofs
attribute [local go_sem] cell_grow frozen_grow

def zeroR : Rch := ⟨0, 0, 0, 0, 0, 0, 0, 0⟩
/-- A reach as a value. -/
def encR (x : Rch) : Value := .agg #[.int .i64 x.down, .int .i64 x.pass, .int .i64 x.takes, .int .i64 x.lo, .int .i64 x.hi, .int .i64 x.every, .int .i64 x.logs, .int .i64 x.ready]
/-- A reach in memory. -/
structure RchAt (w : World) (b o : Nat) (x : Rch) : Prop where
  c0 : w.cell? ⟨b, o, none⟩ = some (.int .i64 x.down)
  c1 : w.cell? ⟨b, o + 1, none⟩ = some (.int .i64 x.pass)
  c2 : w.cell? ⟨b, o + 2, none⟩ = some (.int .i64 x.takes)
  c3 : w.cell? ⟨b, o + 3, none⟩ = some (.int .i64 x.lo)
  c4 : w.cell? ⟨b, o + 4, none⟩ = some (.int .i64 x.hi)
  c5 : w.cell? ⟨b, o + 5, none⟩ = some (.int .i64 x.every)
  c6 : w.cell? ⟨b, o + 6, none⟩ = some (.int .i64 x.logs)
  c7 : w.cell? ⟨b, o + 7, none⟩ = some (.int .i64 x.ready)
theorem RchAt.mono {w v : World} {b o : Nat} {x : Rch} (h : RchAt w b o x) (hb : Below w.heap.size w v) : RchAt v b o x :=
  ⟨cell_mono h.c0 hb, cell_mono h.c1 hb, cell_mono h.c2 hb, cell_mono h.c3 hb, cell_mono h.c4 hb, cell_mono h.c5 hb, cell_mono h.c6 hb, cell_mono h.c7 hb⟩
/-- The slice value s holds the reaches l. -/
def Rchs (w : World) (s : Value) (l : List Rch) : Prop :=
  (s = .slice none 0 0 ∧ l = []) ∨ ∃ b off c, s = .slice (some ⟨b, off, none⟩) l.length c ∧ l.length ≤ c ∧ b < w.heap.size ∧ ∀ i x, l[i]? = some x → RchAt w b (off + i * 8) x
theorem Rchs.mono {w v : World} {s : Value} {l : List Rch} (h : Rchs w s l) (hb : Below w.heap.size w v) : Rchs v s l := by
  rcases h with h | ⟨b, off, c, h1, h2, h3, h4⟩
  · exact .inl h
  · exact .inr ⟨b, off, c, h1, h2, Nat.lt_of_lt_of_le h3 hb.size, fun i x hi => (h4 i x hi).mono hb⟩
theorem Rchs.slice {w : World} {s : Value} {l : List Rch} (h : Rchs w s l) : ∃ A c, s = .slice A l.length c := by
  rcases h with ⟨rfl, rfl⟩ | ⟨b, off, c, rfl, _⟩
  · exact ⟨_, _, rfl⟩
  · exact ⟨_, _, rfl⟩
theorem Rchs.some {w : World} {s : Value} {l : List Rch} (h : Rchs w s l) (hl : 1 ≤ l.length) : ∃ b off c, s = .slice (some ⟨b, off, none⟩) l.length c ∧ l.length ≤ c ∧ b < w.heap.size ∧ ∀ i x, l[i]? = some x → RchAt w b (off + i * 8) x := by
  rcases h with ⟨_, rfl⟩ | h
  · simp at hl
  · exact h

def rangedB (x : Rch) (days : Int) : Bool :=
  decide (0 ≤ x.pass ∧ x.pass ≤ 1000 ∧ 0 ≤ x.takes ∧ x.takes ≤ 10 ∧ 1 ≤ x.every ∧ x.every ≤ 10) && decide (1 ≤ x.lo ∧ x.hi ≤ days ∧ x.lo ≤ x.hi) && decide (0 ≤ x.logs ∧ x.logs ≤ 10000 ∧ 1 ≤ x.ready ∧ x.ready ≤ days)

theorem ret_bool {a b : Bool} (h : a = b) : Ending.returned (.bool a) = .returned (.bool b) := by rw [h]

set_option maxRecDepth 100000 in
set_option maxHeartbeats 4000000 in
theorem ranged_any (x : Rch) (days : Int) (w : World) : Calls Try.prog 68 #[encR x, .int .i64 days] w fun e w' => e = .returned (.bool (rangedB x days)) ∧ Below w.heap.size w w' := by
  obtain ⟨down, pass, takes, lo, hi, every, logs, ready⟩ := x
  unfold encR
  go_enter Try.func68, Try.ntmps68
  go_wp2
  all_goals
    go_ret
    refine ⟨ret_bool ?_, bl_alloc (bl_refl _) _⟩
    first | (simp [rangedB]; omega) | (simp [rangedB, *]; done) | skip

set_option maxHeartbeats 4000000 in
theorem isOpen_any (x : Rch) (d : Int) (w : World) (h1 : 1 ≤ x.lo ∧ x.lo ≤ 1000) (h2 : 1 ≤ x.every ∧ x.every ≤ 1000) (h3 : 0 ≤ d ∧ d ≤ 1000) : Calls Try.prog 49 #[encR x, .int .i64 d] w fun e w' => e = .returned (.bool (openB x d)) ∧ Below w.heap.size w w' := by
  obtain ⟨down, pass, takes, lo, hi, every, logs, ready⟩ := x
  simp only at h1 h2
  unfold encR
  by_cases c1 : lo ≤ d
  · by_cases c2 : d ≤ hi
    · have e1 : IntKind.i64.wrap (d - lo) = d - lo := IntWalk.i64_in _ (by omega)
      have e2 : (every == 0) = false := beq_eq_false_iff_ne.2 (by omega)
      have e3 : 0 ≤ d - lo := by omega
      go_enter Try.func49, Try.ntmps49
      go_wp2
      go_ret
      exact ⟨ret_bool (by simp [openB, c1, c2]; rfl), bl_alloc (bl_refl _) _⟩
    · have c2' : decide (d ≤ hi) = false := by simpa using c2
      go_enter Try.func49, Try.ntmps49
      go_wp2
      go_ret
      exact ⟨ret_bool (by simp only [openB, c2', Bool.and_false, Bool.false_and]), bl_alloc (bl_refl _) _⟩
  · have c1' : decide (lo ≤ d) = false := by simpa using c1
    go_enter Try.func49, Try.ntmps49
    go_wp2
    go_ret
    exact ⟨ret_bool (by simp only [openB, c1', Bool.false_and]), bl_alloc (bl_refl _) _⟩

/-! ### Which rivers are valid -/
def downOk (n i : Nat) (x : Rch) : Bool := decide (x.down = -1 ∨ (i : Int) < x.down ∧ x.down < (n : Int))
def downs (l : List Rch) (k : Nat) : Bool := (List.range k).all fun i => downOk l.length i (l.getD i zeroR)
def ranges (days : Int) (l : List Rch) (k : Nat) : Bool := (List.range k).all fun i => rangedB (l.getD i zeroR) days
def riverE (days : Int) (l : List Rch) : Int :=
  if days < 1 ∨ 40 < days then 3 else if l.length < 1 ∨ 8 < l.length then 6 else if downs l l.length = false then 2 else if ranges days l l.length = false then 3 else 0
theorem all_range_succ (f : Nat → Bool) (k : Nat) : (List.range (k + 1)).all f = ((List.range k).all f && f k) := by simp [List.range_succ]
theorem all_range_at {f : Nat → Bool} {n k : Nat} (hk : k < n) (h : f k = false) : (List.range n).all f = false := by
  rw [List.all_eq_false]
  exact ⟨k, List.mem_range.2 hk, by simp [h]⟩
theorem all_range_get {f : Nat → Bool} {n k : Nat} (h : (List.range n).all f = true) (hk : k < n) : f k = true := List.all_eq_true.1 h k (List.mem_range.2 hk)
theorem ret_i64 {a b : Int} (h : a = b) : Ending.returned (.int .i64 a) = .returned (.int .i64 b) := by rw [h]

set_option maxRecDepth 100000 in
set_option maxHeartbeats 8000000 in
theorem refRiver_any (days : Int) (l : List Rch) (s : Value) (w : World) (hs : Rchs w s l) : Calls Try.prog 24 #[.agg #[.int .i64 days, s]] w fun e w' => e = .returned (.int .i64 (riverE days l)) ∧ Below w.heap.size w w' := by
  obtain ⟨A, c, rfl⟩ := hs.slice
  by_cases c1 : days < 1
  · go_enter Try.func24, Try.ntmps24
    go_wp2
    go_ret
    exact ⟨ret_i64 (by simp [riverE, c1]), bl_alloc (bl_refl _) _⟩
  by_cases c2 : 40 < days
  · go_enter Try.func24, Try.ntmps24
    go_wp2
    go_ret
    exact ⟨ret_i64 (by simp [riverE, c2]), bl_alloc (bl_refl _) _⟩
  by_cases c3 : l.length < 1
  · have e3 : decide ((l.length : Int) < 1) = true := by simp; omega
    have c1' : decide (days < 1) = false := by simpa using c1
    have c2' : decide (40 < days) = false := by simpa using c2
    go_enter Try.func24, Try.ntmps24
    go_wp2
    go_ret
    exact ⟨ret_i64 (by rw [riverE, if_neg (by omega), if_pos (by omega)]), bl_alloc (bl_refl _) _⟩
  have e3 : decide ((l.length : Int) < 1) = false := by simp; omega
  by_cases c4 : 8 < l.length
  · have e4 : decide (8 < (l.length : Int)) = true := by simp; omega
    go_enter Try.func24, Try.ntmps24
    go_wp2
    go_ret
    exact ⟨ret_i64 (by rw [riverE, if_neg (by omega), if_pos (by omega)]), bl_alloc (bl_refl _) _⟩
  have e4 : decide (8 < (l.length : Int)) = false := by simp; omega
  have c1' : decide (days < 1) = false := by simpa using c1
  have c2' : decide (40 < days) = false := by simpa using c2
  obtain ⟨b, off, c, e5, hlc, hb, hcell⟩ := hs.some (by omega)
  simp only [Value.slice.injEq, true_and] at e5
  obtain ⟨rfl, rfl⟩ := e5
  have HC := Lib.hid hcell
  have hl8 : l.length ≤ 8 := by omega
  have hl1 : 1 ≤ l.length := by omega
  have HE : Hid (riverE days l = if downs l l.length = false then 2 else if ranges days l l.length = false then 3 else 0) := by
    show riverE days l = _
    rw [riverE, if_neg (by omega), if_neg (by omega)]
  clear c1 c2 c3 c4 hcell
  go_enter Try.func24, Try.ntmps24
  go_wp2
  go_loop [3, 4] (fun p _ => ∃ k : Nat, k ≤ l.length ∧ p = .int .i64 k ∧ downs l k = true) (fun p _ => l.length - (intOf p).toNat)
  case atStart => exact ⟨0, Nat.zero_le _, rfl, rfl⟩
  case round =>
    obtain ⟨k, hk, rfl, hd⟩ := hrel
    by_cases hlt : k < l.length
    · obtain ⟨x, hx⟩ := get_at hlt
      have hc := HC.out k x hx
      have h0 := hc.c0
      have hg : l.getD k zeroR = x := by simp [List.getD, hx]
      have hs1 := all_range_succ (fun i => downOk l.length i (l.getD i zeroR)) k
      simp only [hg] at hs1
      by_cases ho : downOk l.length k x = true
      · have HD : Hid (downs l (k + 1) = true) := by
          show downs l (k + 1) = true
          unfold downs at hd ⊢; rw [hs1, hd, ho]; rfl
        simp only [downOk, decide_eq_true_eq] at ho
        clear hx hg hs1 hd hc
        rcases ho with ho | ⟨o1, o2⟩
        · have dm : (x.down != -1) = false := by simp [ho]
          clear ho
          go_wp2
          go_round
          case rel => exact ⟨k + 1, by omega, by go_num, HD.out⟩
          case measure => simp [intOf]; omega
        · have dm : (x.down != -1) = true := by simp; omega
          have d1 : decide (x.down ≤ (k : Int)) = false := by simp; omega
          have d2 : decide ((l.length : Int) ≤ x.down) = false := by simp; omega
          go_wp2
          go_round
          case rel => exact ⟨k + 1, by omega, by go_num, HD.out⟩
          case measure => simp [intOf]; omega
      · have hall : Hid (riverE days l = 2) := by
          show riverE days l = 2
          rw [HE.out, if_pos]
          exact all_range_at hlt (by rw [hg]; simpa using ho)
        simp only [downOk, decide_eq_true_eq] at ho
        have dm : (x.down != -1) = true := by simp; omega
        clear hx hg hs1 hd hc
        by_cases o1 : x.down ≤ (k : Int)
        · go_wp2
          go_ret
          exact ⟨ret_i64 hall.out.symm, bl_alloc (bl_refl _) _⟩
        · have d1 : decide (x.down ≤ (k : Int)) = false := by simp; omega
          have d2 : decide ((l.length : Int) ≤ x.down) = true := by simp; omega
          go_wp2
          go_ret
          exact ⟨ret_i64 hall.out.symm, bl_alloc (bl_refl _) _⟩
    · obtain rfl : k = l.length := by omega
      have HD := hid hd
      clear hd
      go_wp2
      go_loopw [5] (fun p wr => ∃ k : Nat, k ≤ l.length ∧ p = .int .i64 k ∧ ranges days l k = true ∧ Below (w.alloc (.cells #[.int .i64 days, .slice (some ⟨b, off, none⟩) l.length c] 24)).heap.size (w.alloc (.cells #[.int .i64 days, .slice (some ⟨b, off, none⟩) l.length c] 24)) wr) (fun p _ => l.length - (intOf p).toNat)
      case atStart => exact ⟨0, Nat.zero_le _, rfl, rfl, bl_refl _⟩
      case round =>
        obtain ⟨k, hk, rfl, hr, hB⟩ := hrel
        have kb := heap_new hB
        have hbc := fun i => cell_of_heap (i := i) kb
        have hbl := (Array.getElem?_eq_some_iff.1 kb).1
        have hB0 := bl_trans (bl_alloc (bl_refl w) _) hB
        clear kb
        by_cases hlt : k < l.length
        · obtain ⟨x, hx⟩ := get_at hlt
          have hc := (HC.out k x hx).mono hB0
          have hg : l.getD k zeroR = x := by simp [List.getD, hx]
          have hs1 := all_range_succ (fun i => rangedB (l.getD i zeroR) days) k
          simp only [hg] at hs1
          obtain ⟨q0, q1, q2, q3, q4, q5, q6, q7⟩ := hc
          have hkI : (k : Int) < (l.length : Int) := by omega
          have hbw : b < wr.heap.size := Nat.lt_of_lt_of_le hb hB0.size
          by_cases ho : rangedB x days = true
          · have HR : Hid (ranges days l (k + 1) = true) := by
              show ranges days l (k + 1) = true
              unfold ranges at hr ⊢; rw [hs1, hr, ho]; rfl
            have G : Hid (∀ W, Calls Try.prog 68 #[encR x, .int .i64 days] W fun e w' => e = .returned (.bool true) ∧ Below W.heap.size W w') := fun W => by
              have := ranged_any x days W; rwa [ho] at this
            clear ho hx hg hs1 hr
            go_wp2
            refine wp_region_below (by kernel_rfl) (by kernel_rfl) ?_
            repeat (first | go_big_quiet_step (first | (go_at_call 68; exact Calls.regrown_of (G.out _))) | quiet_step (first | (go_at_call 68; exact Calls.regrown_of (G.out _))))
            refine wpQuiet_nil ?_
            intro w2 hb2
            have hB2 := bl_trans hB hb2
            clear hbc hbl q0 q1 q2 q3 q4 q5 q6 q7
            go_wp2
            go_roundw
            case rel => exact ⟨k + 1, by omega, by go_num, HR.out, hB2⟩
            case measure => simp [intOf]; omega
          · have hall : Hid (riverE days l = 3) := by
              show riverE days l = 3
              have h3 : ranges days l l.length = false := all_range_at hlt (by rw [hg]; simpa using ho)
              rw [HE.out, HD.out, if_neg (by simp), if_pos h3]
            have G : Hid (∀ W, Calls Try.prog 68 #[encR x, .int .i64 days] W fun e w' => e = .returned (.bool false) ∧ Below W.heap.size W w') := fun W => by
              have := ranged_any x days W; rwa [show rangedB x days = false by simpa using ho] at this
            clear ho hx hg hs1 hr
            go_wp2
            refine wp_region_below (by kernel_rfl) (by kernel_rfl) ?_
            repeat (first | go_big_quiet_step (first | (go_at_call 68; exact Calls.regrown_of (G.out _))) | quiet_step (first | (go_at_call 68; exact Calls.regrown_of (G.out _))))
            refine wpQuiet_nil ?_
            intro w2 hb2
            have hB2 := bl_trans hB0 hb2
            go_wp2
            go_ret
            exact ⟨ret_i64 hall.out.symm, hB2⟩
        · obtain rfl : k = l.length := by omega
          have HR := hid hr
          clear hr
          go_wp2
          go_ret
          exact ⟨ret_i64 (by rw [HE.out, HD.out, HR.out]; rfl), hB0⟩

end Go.Proofs.Ytbnmjbmlejifcaa
