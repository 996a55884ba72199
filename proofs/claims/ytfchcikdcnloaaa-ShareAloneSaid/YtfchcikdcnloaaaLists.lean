/- share's nexts, lasts, best, greatest, least, fair. -/
import Derived.Test.YtfchcikdcnloaaaTab
import Derived.Lib.Hide
import Derived.Shelf.Abstract
namespace Go.Proofs.Ytfchcikdcnloaaa
open Go.RowKit Go.Proofs

theorem info86 : (Try.prog.info? 86).map (fun i => (i.zero, i.size, i.bytes)) = some (some (.agg #[.int .i64 0, .int .i64 0]), 2, 16) := by kernel_rfl

def flatQ (l : List (Int × Int)) : List Value := l.flatMap fun q => [.int .i64 q.1, .int .i64 q.2]
theorem flatQ_snoc (l : List (Int × Int)) (q : Int × Int) : flatQ (l ++ [q]) = flatQ l ++ [.int .i64 q.1, .int .i64 q.2] := by simp [flatQ]

def nextsQ (had : List Int) (part : Int) (got : List Int) (k : Nat) : List (Int × Int) := (List.range k).map (nextQ had part got)
theorem nextsQ_succ (had : List Int) (part : Int) (got : List Int) (k : Nat) : nextsQ had part got (k + 1) = nextsQ had part got k ++ [nextQ had part got k] := by simp [nextsQ, List.range_succ]

set_option maxHeartbeats 2000000 in
theorem nexts_any {g b off c : Nat} {had got : List Int} {part prize : Int} {w : World} (T : TabIs w g b off c had part prize got) (V : Val had part prize) (G : GotOk got) :
    Calls Try.prog 76 #[.pointer (some ⟨g, 0, none⟩)] w fun e w' => 
       (∃ v, e = .returned v ∧ w'.ownsRow w.heap.size 86 2 v had.length (flatQ (nextsQ had part got had.length))) ∧ Below w.heap.size w w' := by
  obtain ⟨i0, hi, hz0, hz1, hz2⟩ := info_parts info86
  have hl := V.l2
  have hT := T.c0
  go_enter Try.func76, Try.ntmps76
  go_wp2
  clear hT
  go_loopw [3, 11] (fun v i wr => ∃ k : Nat, k ≤ had.length ∧ i = .int .i64 k ∧ wr.ownsRow w.heap.size 86 2 v k (flatQ (nextsQ had part got k)) ∧ Below w.heap.size w wr) (fun _ i _ => had.length - (intOf i).toNat)
  case atStart => exact ⟨0, Nat.zero_le _, rfl, World.ownsRow_nil _ _ _ _, bl_refl _⟩
  case round =>
    obtain ⟨k, hk, rfl, hown, hB⟩ := hrel
    by_cases hlt : k < had.length
    · go_wp2_with fail
      refine (next_any (T.mono hB) V G k hlt).mono ?_
      rintro e w1 ⟨rfl, hb1⟩
      unfold encQ
      have hown1 := own_mono hown hb1
      have hB1 := bl_trans hB hb1
      clear hown
      go_wp2_with (at_builtin; refine wpList_append_own _ rfl _ _ 103 rfl w.heap.size 86 i0 (.agg #[.int .i64 0, .int .i64 0]) 2 16 Try.underlying103 hi hz0 hz1 hz2 rfl (by decide) _ _ _ rfl (hown1.alloc _) ⟨w1.heap.size, 0, none⟩ 1 1 [.int .i64 (nextQ had part got k).1, .int .i64 (nextQ had part got k).2] rfl rfl (cell_two_new _ _ _ _) (fun x hx => by simp at hx; rcases hx with rfl | rfl <;> rfl) (by unfold maxLen; omega) (by omega) (by simp; have := hB1.size; omega) ?_; intro v' w3 hown' hgrow3 hnil3; have hB3 := bl_grown (bl_alloc hB1 _) (hown1.alloc _) (Nat.le_refl _) hgrow3; have hown3 := hid hown'; clear hown' hgrow3 hnil3 hown1 hB1)
      go_roundw
      case rel => exact ⟨k + 1, by omega, by go_num, by rw [nextsQ_succ, flatQ_snoc]; exact hown3.out, hB3⟩
      case measure => simp [intOf]; omega
    · obtain rfl : k = had.length := by omega
      go_wp2
      go_ret
      exact ⟨⟨_, rfl, hown⟩, hB⟩

def hasSome (got : List Int) (i : Nat) : Bool := decide (0 < got.getD i 0)
def lastsQ (had : List Int) (part : Int) (got : List Int) (k : Nat) : List (Int × Int) := ((List.range k).filter (hasSome got)).map (lastQ had part got)
theorem lastsQ_yes {had : List Int} {part : Int} {got : List Int} {k : Nat} (h : hasSome got k = true) : lastsQ had part got (k + 1) = lastsQ had part got k ++ [lastQ had part got k] := by simp [lastsQ, List.range_succ, List.filter_append, h]
theorem lastsQ_no {had : List Int} {part : Int} {got : List Int} {k : Nat} (h : hasSome got k = false) : lastsQ had part got (k + 1) = lastsQ had part got k := by simp [lastsQ, List.range_succ, List.filter_append, h]
theorem lastsQ_len (had : List Int) (part : Int) (got : List Int) (k : Nat) : (lastsQ had part got k).length ≤ k := by
  simp only [lastsQ, List.length_map]; exact Nat.le_trans (List.length_filter_le _ _) (by simp)

set_option maxHeartbeats 2000000 in
theorem lasts_any {g b off c : Nat} {had got : List Int} {part prize : Int} {w : World} (T : TabIs w g b off c had part prize got) (V : Val had part prize) (G : GotOk got) :
    Calls Try.prog 80 #[.pointer (some ⟨g, 0, none⟩)] w fun e w' => 
       (∃ v, e = .returned v ∧ w'.ownsRow w.heap.size 86 2 v (lastsQ had part got had.length).length (flatQ (lastsQ had part got had.length))) ∧ Below w.heap.size w w' := by
  obtain ⟨i0, hi, hz0, hz1, hz2⟩ := info_parts info86
  have hl := V.l2
  have hT := T.c0
  go_enter Try.func80, Try.ntmps80
  go_wp2
  clear hT
  go_loopw [3, 11] (fun v i wr => ∃ k m : Nat, k ≤ had.length ∧ i = .int .i64 k ∧ m ≤ k ∧ Hid (m = (lastsQ had part got k).length) ∧ wr.ownsRow w.heap.size 86 2 v m (flatQ (lastsQ had part got k)) ∧ Below w.heap.size w wr) (fun _ i _ => had.length - (intOf i).toNat)
  case atStart => exact ⟨0, 0, Nat.zero_le _, rfl, Nat.le_refl _, hid rfl, World.ownsRow_nil _ _ _ _, bl_refl _⟩
  case round =>
    obtain ⟨k, m, hk, rfl, hm, hmL, hown, hB⟩ := hrel
    by_cases hlt : k < had.length
    · obtain ⟨x, hx⟩ := get_at (l := got) (k := k) (by have := G.1; omega)
      have hcx := (T.mono hB).cg hx
      have hgx := G.2 k x hx
      by_cases hpos : 0 < x
      · have hyes : Hid (hasSome got k = true) := hid (by simp [hasSome, List.getD, hx, hpos])
        clear hx
        go_wp2_with fail
        refine (last_any (T.mono hB) V G k hlt).mono ?_
        rintro e w1 ⟨rfl, hb1⟩
        unfold encQ
        have hown1 := own_mono hown hb1
        have hB1 := bl_trans hB hb1
        clear hown hcx
        go_wp2_with (at_builtin; refine wpList_append_own _ rfl _ _ 103 rfl w.heap.size 86 i0 (.agg #[.int .i64 0, .int .i64 0]) 2 16 Try.underlying103 hi hz0 hz1 hz2 rfl (by decide) _ _ _ rfl (hown1.alloc _) ⟨w1.heap.size, 0, none⟩ 1 1 [.int .i64 (lastQ had part got k).1, .int .i64 (lastQ had part got k).2] rfl rfl (cell_two_new _ _ _ _) (fun x hx => by simp at hx; rcases hx with rfl | rfl <;> rfl) (by unfold maxLen; omega) (by omega) (by simp; have := hB1.size; omega) ?_; intro v' w3 hown' hgrow3 hnil3; have hB3 := bl_grown (bl_alloc hB1 _) (hown1.alloc _) (Nat.le_refl _) hgrow3; have hown3 := hid hown'; clear hown' hgrow3 hnil3 hown1 hB1)
        go_roundw
        case rel => exact ⟨k + 1, m + 1, by omega, by go_num, by omega, hid (by rw [lastsQ_yes hyes.out, hmL.out]; simp), by rw [lastsQ_yes hyes.out, flatQ_snoc]; exact hown3.out, hB3⟩
        case measure => simp [intOf]; omega
      · have hno : Hid (hasSome got k = false) := hid (by simp [hasSome, List.getD, hx]; omega)
        clear hx
        go_wp2
        go_roundw
        case rel => exact ⟨k + 1, m, by omega, by go_num, by omega, hid (by rw [lastsQ_no hno.out, hmL.out]), by rw [lastsQ_no hno.out]; exact hown, hB⟩
        case measure => simp [intOf]; omega
    · obtain rfl : k = had.length := by omega
      go_wp2
      go_ret
      exact ⟨⟨_, rfl, by rw [← hmL.out]; exact hown⟩, hB⟩

/-- The slice of quotients, as it is read. -/
def Quos (w : World) (v : Value) (l : List (Int × Int)) : Prop :=
  (v = .slice none 0 0 ∧ l = []) ∨ ∃ b c, v = .slice (some ⟨b, 0, none⟩) l.length c ∧ b < w.heap.size ∧ ∀ (i : Nat) (q : Int × Int), l[i]? = some q → w.cell? ⟨b, i * 2, none⟩ = some (.int .i64 q.1) ∧ w.cell? ⟨b, i * 2 + 1, none⟩ = some (.int .i64 q.2)
theorem Quos.mono {w v : World} {s : Value} {l : List (Int × Int)} (h : Quos w s l) (hb : Below w.heap.size w v) : Quos v s l := by
  rcases h with h | ⟨b, c, h1, h2, h3⟩
  · exact .inl h
  · exact .inr ⟨b, c, h1, Nat.lt_of_lt_of_le h2 hb.size, fun i q hq => ⟨cell_mono (h3 i q hq).1 hb, cell_mono (h3 i q hq).2 hb⟩⟩

theorem flatQ_get {l : List (Int × Int)} {i : Nat} {q : Int × Int} (h : l[i]? = some q) : (flatQ l)[i * 2]? = some (.int .i64 q.1) ∧ (flatQ l)[i * 2 + 1]? = some (.int .i64 q.2) := by
  induction l generalizing i with
  | nil => simp at h
  | cons a l ih =>
    cases i with
    | zero => simp at h; subst h; simp [flatQ]
    | succ i =>
      have := ih (i := i) (by simpa using h)
      have e : (i + 1) * 2 = i * 2 + 2 := by omega
      rw [e]
      simpa [flatQ, Nat.add_assoc] using this

theorem Quos.of_own {w : World} {base : Nat} {v : Value} {l : List (Int × Int)} (h : w.ownsRow base 86 2 v l.length (flatQ l)) : Quos w v l := by
  obtain ⟨h1, h2⟩ := h
  rcases h2 with ⟨rfl, h2⟩ | ⟨g, cap, cur, rfl, hb, hg, hle, hm, hs, ht⟩
  · exact .inl ⟨rfl, List.length_eq_zero_iff.mp h2⟩
  · refine .inr ⟨g, cap, rfl, (Array.getElem?_eq_some_iff.mp hg).1, fun i q hq => ?_⟩
    have hq2 := flatQ_get hq
    have hi := (List.getElem?_eq_some_iff.mp hq).1
    rw [← ht, List.getElem?_take, List.getElem?_take] at hq2
    rw [if_pos (by omega), if_pos (by omega)] at hq2
    constructor
    · simp [World.cell?, hg]; simpa using hq2.1
    · simp [World.cell?, hg]; simpa using hq2.2

/-- The place that the search of the best one has after k elements. -/
def bestAt {α : Type} (better : α → α → Bool) (l : List α) : Nat → Int
  | 0 => -1
  | k + 1 => match l[k]?, l[(bestAt better l k).toNat]? with
    | some x, some y => if bestAt better l k < 0 ∨ better x y = true then k else bestAt better l k
    | _, _ => bestAt better l k

theorem bestAt_range {α : Type} (better : α → α → Bool) (l : List α) (k : Nat) : -1 ≤ bestAt better l k ∧ bestAt better l k < k ∨ k = 0 ∧ bestAt better l k = -1 := by
  induction k with
  | zero => exact .inr ⟨rfl, rfl⟩
  | succ k ih =>
    left
    unfold bestAt
    split
    · split
      · omega
      · omega
    · omega
theorem bestAt_nonneg {α : Type} (better : α → α → Bool) (l : List α) (k : Nat) (hk : k + 1 ≤ l.length) : 0 ≤ bestAt better l (k + 1) := by
  induction k with
  | zero =>
    obtain ⟨x, hx⟩ := get_at (l := l) (k := 0) (by omega)
    simp [bestAt, hx]
  | succ k ih =>
    have h1 := ih (by omega)
    obtain ⟨x, hx⟩ := get_at (l := l) (k := k + 1) (by omega)
    rw [bestAt]
    split
    · split <;> omega
    · exact h1

theorem bestAt_neg {α : Type} {better : α → α → Bool} {l : List α} {k : Nat} {x : α} (hx : l[k]? = some x) (h : bestAt better l k < 0) : bestAt better l (k + 1) = k := by
  have hk := (List.getElem?_eq_some_iff.mp hx).1
  obtain ⟨y, hy⟩ := get_at (l := l) (k := (bestAt better l k).toNat) (by omega)
  rw [bestAt, hx, hy]; simp [h]
theorem bestAt_yes {α : Type} {better : α → α → Bool} {l : List α} {k j : Nat} {x y : α} (hx : l[k]? = some x) (hj : bestAt better l k = j) (hy : l[j]? = some y) (h : better x y = true) : bestAt better l (k + 1) = k := by
  rw [bestAt, hx, hj, Int.toNat_natCast, hy]; simp [h]
theorem bestAt_no {α : Type} {better : α → α → Bool} {l : List α} {k j : Nat} {x y : α} (hx : l[k]? = some x) (hj : bestAt better l k = j) (hy : l[j]? = some y) (h : better x y = false) : bestAt better l (k + 1) = j := by
  rw [bestAt, hx, hj, Int.toNat_natCast, hy]; simp [h]; intro h; omega

theorem cell_grow (w : World) (d : Nat) (os : Array Obj) (b o : Nat) (h : b < w.heap.size) : (Sort.grow (redrawn w d) os).cell? ⟨b, o, none⟩ = w.cell? ⟨b, o, none⟩ :=
  (below_regrown w d os).cell (p := ⟨b, o, none⟩) h

theorem frozen_grow (w : World) (d : Nat) (os : Array Obj) (b o : Nat) (h : b < w.heap.size) : (Sort.grow (redrawn w d) os).frozen? ⟨b, o, none⟩ = w.frozen? ⟨b, o, none⟩ :=
  (below_regrown w d os).frozen (p := ⟨b, o, none⟩) h

set_option maxHeartbeats 4000000 in
theorem best_core (f : FuncId) (hent : ∀ (args : Array Value) (w : World), (callFunc f args).run Try.prog w = .ok (.enter f args) w) (better : Int × Int → Int × Int → Bool) (l : List (Int × Int)) (b c : Nat) (w : World) (hlen : l.length ≤ 1000) 
    (hbet : ∀ x y W, x ∈ l → y ∈ l → Calls Try.prog f #[encQ x, encQ y] W fun e w' => e = .returned (.bool (better x y)) ∧ Below W.heap.size W w')
    (hb : b < w.heap.size) (hc : ∀ (i : Nat) (q : Int × Int), l[i]? = some q → w.cell? ⟨b, i * 2, none⟩ = some (.int .i64 q.1) ∧ w.cell? ⟨b, i * 2 + 1, none⟩ = some (.int .i64 q.2)) :
    Calls Try.prog 77 #[.slice (some ⟨b, 0, none⟩) l.length c, .func (.func f) #[] #[]] w fun e w' => e = .returned (.int .i64 (bestAt better l l.length)) ∧ Below w.heap.size w w' := by
  go_enter Try.func77, Try.ntmps77
  go_wp2
  go_loopw [5, 10] (fun a i wr => ∃ k : Nat, k ≤ l.length ∧ i = .int .i64 k ∧ a = .int .i64 (bestAt better l k) ∧ Below w.heap.size w wr) (fun _ i _ => l.length - (intOf i).toNat)
  case atStart => exact ⟨0, Nat.zero_le _, rfl, rfl, bl_refl _⟩
  case round =>
    obtain ⟨k, hk, rfl, rfl, hB⟩ := hrel
    have hsz := hB.size
    have hbr : b < wr.heap.size := by omega
    have hbr1 : b < wr.heap.size + 1 := by omega
    by_cases hlt : k < l.length
    · obtain ⟨x, hx⟩ := get_at hlt
      have hx1 := cell_mono (hc k x hx).1 hB
      have hx2 := cell_mono (hc k x hx).2 hB
      by_cases hneg : bestAt better l k < 0
      · have hnew := hid (bestAt_neg hx hneg)
        clear hx
        have hnb : decide (bestAt better l k < 0) = true := by simpa using hneg
        go_wp2
        have hgr := cell_grow (wr.alloc (Obj.cells #[Value.int IntKind.i64 x.1, Value.int IntKind.i64 x.2] 86))
        refine wp_region_quiet_below (by kernel_rfl) (by kernel_rfl) ?_
        repeat (first | go_big_quiet_step (fail) | quiet_step (fail))
        refine wpQuiet_nil ?_
        intro _ hw'
        obtain ⟨⟨dq, osq⟩, hw''⟩ := hw'
        subst hw''
        go_wp2
        go_roundw
        case rel => exact ⟨k + 1, by omega, by go_num, by rw [hnew.out], bl_trans (bl_alloc hB _) (below_regrown _ _ _)⟩
        case measure => simp [intOf]; omega
      · have hr := bestAt_range better l k
        obtain ⟨j, hj⟩ : ∃ j : Nat, bestAt better l k = j := ⟨(bestAt better l k).toNat, by omega⟩
        have hjk : j < k := by omega
        obtain ⟨y, hy⟩ := get_at (l := l) (k := j) (by omega)
        have hy1 := cell_mono (hc j y hy).1 hB
        have hy2 := cell_mono (hc j y hy).2 hB
        have hxm := List.mem_of_getElem? hx
        have hym := List.mem_of_getElem? hy
        rw [hj]
        have hnb : decide ((j : Int) < 0) = false := by simp
        have hjl : j < l.length := by omega
        cases hbb : better x y
        · have hnew := hid (bestAt_no hx hj hy hbb)
          have Hbb := hid hbb
          clear hx hy hbb hneg hr hj
          have hbt : ∀ W, Calls Try.prog f #[encQ x, encQ y] W fun e w' => e = .returned (.bool false) ∧ Below W.heap.size W w' := fun W => by rw [← Hbb.out]; exact hbet x y W hxm hym
          have Hbt := Lib.hid hbt
          clear hbt hbet
          go_wp2
          have hgr := cell_grow (wr.alloc (Obj.cells #[Value.int IntKind.i64 x.1, Value.int IntKind.i64 x.2] 86))
          refine wp_region_quiet_below (by kernel_rfl) (by kernel_rfl) ?_
          repeat (first | go_big_quiet_step (exact Calls.regrown_of (Hbt.out _)) | quiet_step (exact Calls.regrown_of (Hbt.out _)))
          refine wpQuiet_nil ?_
          intro _ hw'
          obtain ⟨⟨dq, osq⟩, hw''⟩ := hw'
          subst hw''
          go_wp2
          go_roundw
          case rel => exact ⟨k + 1, by omega, by go_num, by rw [hnew.out], bl_trans (bl_alloc hB _) (below_regrown _ _ _)⟩
          case measure => simp [intOf]; omega
        · have hnew := hid (bestAt_yes hx hj hy hbb)
          have Hbb := hid hbb
          clear hx hy hbb hneg hr hj
          have hbt : ∀ W, Calls Try.prog f #[encQ x, encQ y] W fun e w' => e = .returned (.bool true) ∧ Below W.heap.size W w' := fun W => by rw [← Hbb.out]; exact hbet x y W hxm hym
          have Hbt := Lib.hid hbt
          clear hbt hbet
          go_wp2
          have hgr := cell_grow (wr.alloc (Obj.cells #[Value.int IntKind.i64 x.1, Value.int IntKind.i64 x.2] 86))
          refine wp_region_quiet_below (by kernel_rfl) (by kernel_rfl) ?_
          repeat (first | go_big_quiet_step (exact Calls.regrown_of (Hbt.out _)) | quiet_step (exact Calls.regrown_of (Hbt.out _)))
          refine wpQuiet_nil ?_
          intro _ hw'
          obtain ⟨⟨dq, osq⟩, hw''⟩ := hw'
          subst hw''
          go_wp2
          go_roundw
          case rel => exact ⟨k + 1, by omega, by go_num, by rw [hnew.out], bl_trans (bl_alloc hB _) (below_regrown _ _ _)⟩
          case measure => simp [intOf]; omega
    · obtain rfl : k = l.length := by omega
      go_wp2
      go_ret
      exact ⟨rfl, hB⟩

theorem best_any (f : FuncId) (hent : ∀ (args : Array Value) (w : World), (callFunc f args).run Try.prog w = .ok (.enter f args) w) (better : Int × Int → Int × Int → Bool) (l : List (Int × Int)) (v : Value) (w : World) (hlen : l.length ≤ 1000) 
    (hbet : ∀ x y W, x ∈ l → y ∈ l → Calls Try.prog f #[encQ x, encQ y] W fun e w' => e = .returned (.bool (better x y)) ∧ Below W.heap.size W w')
    (hq : Quos w v l) :
    Calls Try.prog 77 #[v, .func (.func f) #[] #[]] w fun e w' => e = .returned (.int .i64 (bestAt better l l.length)) ∧ Below w.heap.size w w' := by
  rcases hq with ⟨rfl, rfl⟩ | ⟨b, c, rfl, hb, hc⟩
  · go_enter Try.func77, Try.ntmps77
    go_wp2
    go_loopw [5, 10] (fun a i wr => i = .int .i64 0 ∧ a = .int .i64 (-1) ∧ wr = w) (fun _ _ _ => 0)
    case atStart => exact ⟨rfl, rfl, rfl⟩
    case round =>
      obtain ⟨rfl, rfl, rfl⟩ := hrel
      go_wp2
      go_ret
      exact ⟨rfl, bl_refl _⟩
  · exact best_core f hent better l b c w hlen hbet hb hc

theorem enters74 : ∀ (args : Array Value) (w : World), (callFunc 74 args).run Try.prog w = .ok (.enter 74 args) w := Go.Proofs.enters_of Try.func74 (by kernel_rfl) rfl
theorem enters79 : ∀ (args : Array Value) (w : World), (callFunc 79 args).run Try.prog w = .ok (.enter 79 args) w := Go.Proofs.enters_of Try.func79 (by kernel_rfl) rfl

end Go.Proofs.Ytfchcikdcnloaaa
