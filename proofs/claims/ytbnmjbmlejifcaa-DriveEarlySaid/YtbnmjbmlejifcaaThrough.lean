/- How many logs can enter a reach from a day on, so that they are below before another one. -/
import Derived.Test.YtbnmjbmlejifcaaDays
import Derived.Test.YtbnmjbmlejifcaaMathB
set_option linter.all false
namespace Go.Proofs.Ytbnmjbmlejifcaa
open Go Go.RowKit Go.Proofs
attribute [local go_sem] Oper.semAt_some

def thrL (x : Rch) (b : Int) : List Int → Int
  | [] => 0
  | d :: l => (if d + x.takes < b then x.pass else 0) + thrL x b l
theorem thrL_snoc (x : Rch) (b : Int) (l : List Int) (d : Int) : thrL x b (l ++ [d]) = thrL x b l + if d + x.takes < b then x.pass else 0 := by
  induction l with
  | nil => simp [thrL]
  | cons e l ih => simp only [List.cons_append, thrL, ih]; omega
theorem thrL_bd {x : Rch} {b : Int} (hx : 0 ≤ x.pass ∧ x.pass ≤ 2000) (l : List Int) : 0 ≤ thrL x b l ∧ thrL x b l ≤ l.length * 2000 := by
  induction l with
  | nil => simp [thrL]
  | cons d l ih =>
    have e : ((d :: l).length : Int) * 2000 = l.length * 2000 + 2000 := by simp only [List.length_cons, Int.natCast_add, Int.add_mul]; simp
    rw [e]
    unfold thrL
    split <;> omega
theorem upTo_len (x : Rch) (f : Int) (k : Nat) : (upTo x f k).length ≤ k := by
  unfold upTo
  exact Nat.le_trans (List.length_filter_le _ _) (by simp)
theorem nOpen_le {x : Rch} (hx : 1 ≤ x.every) (h2 : 0 ≤ x.lo) (h3 : x.hi ≤ 1000) : nOpen x ≤ 1001 := by
  unfold nOpen
  split
  · have := Int.ediv_le_self (x.every) (show 0 ≤ x.hi - x.lo by omega)
    omega
  · omega
theorem openL_day {x : Rch} {f d : Int} (hx : 1 ≤ x.every) (h : d ∈ openL x f) : f ≤ d ∧ openB x d = true := by
  unfold openL upTo at h
  simp only [List.mem_filter, List.mem_map, List.mem_range, decide_eq_true_eq] at h
  obtain ⟨⟨k, hk, rfl⟩, h2⟩ := h
  exact ⟨h2, (open_iff x hx _).2 ⟨k, hk, rfl⟩⟩

/-- What lies there while days are counted. -/
structure CountInv (x : Rch) (f b s : Int) (w W : World) : Prop where
  own : W.heap[w.heap.size]? = some (.cells #[.int .i64 x.down, .int .i64 x.pass, .int .i64 x.takes, .int .i64 x.lo, .int .i64 x.hi, .int .i64 x.every, .int .i64 x.logs, .int .i64 x.ready] 59 (0, 0))
  bef : W.heap[w.heap.size + 1]? = some (.cells #[.int .i64 b] 2 (0, 0))
  sum : W.heap[w.heap.size + 2]? = some (.cells #[.int .i64 s] 2 (0, 0))
  bx : W.heap[w.heap.size + 3]? = some (.cells #[.int .i64 x.down, .int .i64 x.pass, .int .i64 x.takes, .int .i64 x.lo, .int .i64 x.hi, .int .i64 x.every, .int .i64 x.logs, .int .i64 x.ready] 59 (0, 0))
  bf : W.heap[w.heap.size + 4]? = some (.cells #[.int .i64 f] 2 (0, 0))
  old : Below w.heap.size w W
theorem CountInv.mono {x : Rch} {f b s : Int} {w W W' : World} (h : CountInv x f b s w W) (hb : Below W.heap.size W W') : CountInv x f b s w W' :=
  ⟨heap_mono h.own hb, heap_mono h.bef hb, heap_mono h.sum hb, heap_mono h.bx hb, heap_mono h.bf hb, bl_trans h.old hb⟩
theorem CountInv.put {x : Rch} {f b s : Int} {w W : World} {l : Nat} {o r0 : Obj} (h : CountInv x f b s w W) (hr : W.heap[l]? = some r0) (hl : w.heap.size ≤ l) (h0 : r0.isCells = false := by rfl) : CountInv x f b s w (W.putObj l o) :=
  ⟨heap_put h.own rfl hr h0, heap_put h.bef rfl hr h0, heap_put h.sum rfl hr h0, heap_put h.bx rfl hr h0, heap_put h.bf rfl hr h0, below_put h.old hl⟩
theorem CountInv.set {x : Rch} {f b s : Int} {w W : World} (h : CountInv x f b s w W) (c : Int) : CountInv x f b c w (W.setCell ⟨w.heap.size + 1 + 1, 0, none⟩ (.int .i64 c)) :=
  ⟨past_set (by omega) h.own, past_set (by omega) h.bef, one_setCell (u := .int .i64 c) h.sum, past_set (by omega) h.bx, past_set (by omega) h.bf, bl_set h.old _ (by omega)⟩

set_option maxRecDepth 100000 in
set_option maxHeartbeats 4000000 in
theorem through_any (x : Rch) (f b : Int) (w : World) (h1 : 1 ≤ x.every ∧ x.every ≤ 100) (h2 : 0 ≤ x.lo) (h3 : x.hi ≤ 1000) (h4 : 0 ≤ x.pass ∧ x.pass ≤ 2000) (h5 : 0 ≤ x.takes ∧ x.takes ≤ 1000) :
    Calls Try.prog 73 #[encR x, .int .i64 f, .int .i64 b] w fun e w' => e = .returned (.int .i64 (thrL x b (openL x f))) ∧ Below w.heap.size w w' := by
  unfold encR
  refine calls_marks Try.func73 rfl ?_
  simp only [Try.ntmps73, List.size_toArray, List.length_cons, List.length_nil, Nat.reduceAdd, Nat.reduceSub, Array.replicate_succ, Array.replicate_zero, List.push_toArray, List.append_toArray, List.nil_append, List.cons_append]
  go_wp2_with fail
  refine (days_any x f _).mono ?_
  rintro e w1 ⟨rfl, rfl⟩
  go_wp2
  obtain ⟨W2, hW2⟩ : ∃ W2, ((((w.alloc (.cells #[.int .i64 x.down, .int .i64 x.pass, .int .i64 x.takes, .int .i64 x.lo, .int .i64 x.hi, .int .i64 x.every, .int .i64 x.logs, .int .i64 x.ready] 59)).alloc (.cells #[.int .i64 b] 2)).alloc (.cells #[.int .i64 0] 2)).alloc (.cells #[.int .i64 x.down, .int .i64 x.pass, .int .i64 x.takes, .int .i64 x.lo, .int .i64 x.hi, .int .i64 x.every, .int .i64 x.logs, .int .i64 x.ready] 59)).alloc (.cells #[.int .i64 f] 2) = W2 := ⟨_, rfl⟩
  have D0 : CountInv x f b 0 w W2 := by
    have e0 := World.alloc_heap_new w (.cells #[.int .i64 x.down, .int .i64 x.pass, .int .i64 x.takes, .int .i64 x.lo, .int .i64 x.hi, .int .i64 x.every, .int .i64 x.logs, .int .i64 x.ready] 59)
    have e1 := World.alloc_heap_new (w.alloc (.cells #[.int .i64 x.down, .int .i64 x.pass, .int .i64 x.takes, .int .i64 x.lo, .int .i64 x.hi, .int .i64 x.every, .int .i64 x.logs, .int .i64 x.ready] 59)) (.cells #[.int .i64 b] 2)
    have e2 := World.alloc_heap_new ((w.alloc (.cells #[.int .i64 x.down, .int .i64 x.pass, .int .i64 x.takes, .int .i64 x.lo, .int .i64 x.hi, .int .i64 x.every, .int .i64 x.logs, .int .i64 x.ready] 59)).alloc (.cells #[.int .i64 b] 2)) (.cells #[.int .i64 0] 2)
    have e3 := World.alloc_heap_new (((w.alloc (.cells #[.int .i64 x.down, .int .i64 x.pass, .int .i64 x.takes, .int .i64 x.lo, .int .i64 x.hi, .int .i64 x.every, .int .i64 x.logs, .int .i64 x.ready] 59)).alloc (.cells #[.int .i64 b] 2)).alloc (.cells #[.int .i64 0] 2)) (.cells #[.int .i64 x.down, .int .i64 x.pass, .int .i64 x.takes, .int .i64 x.lo, .int .i64 x.hi, .int .i64 x.every, .int .i64 x.logs, .int .i64 x.ready] 59)
    have e4 := World.alloc_heap_new ((((w.alloc (.cells #[.int .i64 x.down, .int .i64 x.pass, .int .i64 x.takes, .int .i64 x.lo, .int .i64 x.hi, .int .i64 x.every, .int .i64 x.logs, .int .i64 x.ready] 59)).alloc (.cells #[.int .i64 b] 2)).alloc (.cells #[.int .i64 0] 2)).alloc (.cells #[.int .i64 x.down, .int .i64 x.pass, .int .i64 x.takes, .int .i64 x.lo, .int .i64 x.hi, .int .i64 x.every, .int .i64 x.logs, .int .i64 x.ready] 59)) (.cells #[.int .i64 f] 2)
    simp only [World.size_alloc] at e1 e2 e3 e4
    rw [← hW2]
    exact ⟨heap_mono e0 (bl_alloc (bl_alloc (bl_alloc (bl_alloc (bl_refl _) _) _) _) _), heap_mono e1 (bl_alloc (bl_alloc (bl_alloc (bl_refl _) _) _) _), heap_mono e2 (bl_alloc (bl_alloc (bl_refl _) _) _), heap_mono e3 (bl_alloc (bl_refl _) _), e4, bl_alloc (bl_alloc (bl_alloc (bl_alloc (bl_alloc (bl_refl _) _) _) _) _) _⟩
  rw [hW2]
  clear hW2
  refine wp_rangeFunc_mine (gf := 89) (lb := #[.pointer (some ⟨w.heap.size + 1 + 1 + 1, 0, none⟩), .pointer (some ⟨w.heap.size + 1 + 1 + 1 + 1, 0, none⟩)]) rfl enters89 (encs := fun d : Int => #[.int .i64 d]) (fun _ => rfl)
    (fun xs W => CountInv x f b (thrL x b xs) w W) (fun xs W => CountInv x f b (thrL x b xs) w W) (fun _ _ _ => False)
    (fun xs => xs = openL x f) (fun pre e => pre ++ [e] <+: openL x f) (days_iter h1 h2 h3 ⟨fun pre W h => ⟨h.bx, h.bf⟩⟩ W2)
    ?free ?free2 ?freex ?start ?_ ?assign ?body ?done ?stop
  case assign =>
    intro l e W K hK
    gi_wp2
    exact hK
  case start => exact fun W hW _ => D0.mono hW
  case free =>
    rintro l hl s W o h ⟨r, hr⟩ ⟨r', rfl⟩
    exact h.put hr (by have := D0.old.size; omega)
  case free2 =>
    rintro l hl s W o h ⟨r, hr⟩ ⟨r', rfl⟩
    exact h.put hr (by have := D0.old.size; omega)
  case freex => exact fun l c hl s W o h _ _ => h.elim
  case body =>
    rintro l pre d W rfl h hadm ⟨r, hr⟩ hd
    have hlen : (pre ++ [d]).length ≤ 1001 := Nat.le_trans hadm.length_le (Nat.le_trans (upTo_len x f _) (nOpen_le h1.1 h2 h3))
    have hmem : d ∈ openL x f := hadm.subset (by simp)
    have hdo := (openL_day h1.1 hmem).2
    have hdb : 0 ≤ d ∧ d ≤ 1000 := by
      simp only [openB, Bool.and_eq_true, decide_eq_true_eq] at hdo
      omega
    have hbd := thrL_bd (x := x) (b := b) h4 pre
    simp only [List.length_append, List.length_cons, List.length_nil] at hlen
    have c1 : W.cell? ⟨w.heap.size, 1, none⟩ = some (.int .i64 x.pass) := cell_of_heap h.own
    have c2 : W.cell? ⟨w.heap.size, 2, none⟩ = some (.int .i64 x.takes) := cell_of_heap h.own
    have cb : W.cell? ⟨w.heap.size + 1, 0, none⟩ = some (.int .i64 b) := cell_of_heap h.bef
    have cs : W.cell? ⟨w.heap.size + 1 + 1, 0, none⟩ = some (.int .i64 (thrL x b pre)) := cell_of_heap h.sum
    have fs : W.frozen? ⟨w.heap.size + 1 + 1, 0, none⟩ = false := frozen_of_heap h.sum
    have ls : w.heap.size + 1 + 1 < W.heap.size := (Array.getElem?_eq_some_iff.1 h.sum).1
    have hst := thrL_snoc x b pre d
    by_cases hlt : d + x.takes < b
    · rw [if_pos hlt] at hst
      have HST := hid hst
      have hfin := hid (h.set (thrL x b pre + x.pass))
      have hl1 := hid (book_set hr rfl ⟨w.heap.size + 1 + 1, 0, none⟩ (.int .i64 (thrL x b pre + x.pass)))
      have hl2 := hid (book_set hd rfl ⟨w.heap.size + 1 + 1, 0, none⟩ (.int .i64 (thrL x b pre + x.pass)))
      have hr' := hid hr
      have hd' := hid hd
      clear h D0 hr hd hst hadm hmem hdo
      generalize thrL x b pre = s at *
      gi_wp2
      exact ⟨by rw [hl1.out, hr'.out], by rw [hl2.out, hd'.out], by show CountInv x f b (thrL x b (pre ++ [d])) w _; rw [HST.out]; exact hfin.out⟩
    · rw [if_neg hlt] at hst
      have hlt' : decide (d + x.takes < b) = false := by simpa using hlt
      have HST : Hid (thrL x b (pre ++ [d]) = thrL x b pre) := by show thrL x b (pre ++ [d]) = _; omega
      have hfin := hid h
      have hr' := hid hr
      have hd' := hid hd
      clear h D0 hr hd hst hadm hmem hdo hlt
      generalize thrL x b pre = s at *
      gi_wp2
      exact ⟨rfl, rfl, by show CountInv x f b (thrL x b (pre ++ [d])) w _; rw [HST.out]; exact hfin.out⟩
  case done =>
    rintro D xs W rfl rfl h hK
    have cs : W.cell? ⟨w.heap.size + 1 + 1, 0, none⟩ = some (.int .i64 (thrL x b (openL x f))) := cell_of_heap h.sum
    have hK' := hid hK
    have hO := hid h.old
    have hD2 : w.heap.size ≤ W2.heap.size := D0.old.size
    clear h D0 hK
    simp only
    go_wp2
    refine leave_one rfl hK'.out (v := .int .i64 (thrL x b (openL x f))) (by simp [results, Try.results73, go_sem]) ⟨rfl, below_put hO.out hD2⟩
  case stop =>
    rintro D c pre W _ h _
    exact h.elim

end Go.Proofs.Ytbnmjbmlejifcaa
