/- share's Order. -/
import Derived.Test.YtfchcikdcnloaaaGive
import Derived.Laws.CopyOwn
namespace Go.Proofs.Ytfchcikdcnloaaa
open Go Go.RowKit Go.Proofs
attribute [local go_sem] Oper.semAt_some

/-- The slice value holds the whole numbers l, in a block that is not g. -/
def IntsX (g : Nat) (w : World) (v : Value) (l : List Int) : Prop :=
  (v = .slice none 0 0 ∧ l = []) ∨ ∃ b c, v = .slice (some ⟨b, 0, none⟩) l.length c ∧ l.length ≤ c ∧ b ≠ g ∧ ∀ (i : Nat) (x : Int), l[i]? = some x → w.cell? ⟨b, i, none⟩ = some (.int .i64 x)
theorem IntsX.mono {g : Nat} {w v : World} {s : Value} {l : List Int} (h : IntsX g w s l) (hb : Below w.heap.size w v) : IntsX g v s l := by
  rcases h with h | ⟨b, c, h1, h2, h3, h4⟩
  · exact .inl h
  · exact .inr ⟨b, c, h1, h2, h3, fun i x hi => cell_mono (h4 i x hi) hb⟩
theorem IntsX.put {g l : Nat} {w : World} {s : Value} {xs : List Int} {r : Obj} (o : Obj) (h : IntsX g w s xs) (hl : w.heap[l]? = some r) (hr : r.isCells = false) : IntsX g (w.putObj l o) s xs := by
  rcases h with h | ⟨b, c, h1, h2, h3, h4⟩
  · exact .inl h
  · exact .inr ⟨b, c, h1, h2, h3, fun i x hi => cell_put (h4 i x hi) hl hr⟩
theorem IntsX.set {g o : Nat} {w : World} {s : Value} {xs : List Int} (u : Value) (h : IntsX g w s xs) : IntsX g (w.setCell ⟨g, o, none⟩ u) s xs := by
  rcases h with h | ⟨b, c, h1, h2, h3, h4⟩
  · exact .inl h
  · refine .inr ⟨b, c, h1, h2, h3, fun i x hi => ?_⟩
    have hne : (⟨g, o, none⟩ : Addr) ≠ ⟨b, i, none⟩ := by intro e; injection e with e1; exact h3 e1.symm
    rw [World.cell?_setCell_other (h := hne)]; exact h4 i x hi
theorem TabIs.put {g b off c l : Nat} {had got : List Int} {part prize : Int} {w : World} {r : Obj} (o : Obj) (h : TabIs w g b off c had part prize got) (hl : w.heap[l]? = some r) (hr : r.isCells = false) : TabIs (w.putObj l o) g b off c had part prize got :=
  ⟨heap_put h.tab rfl hl hr, fun i x hx => cell_put (h.cells i x hx) hl hr, by rw [size_put]; exact h.lt, h.ne⟩

theorem info3' : (Try.prog.info? 3).map (fun i => (i.zero, i.size, i.bytes)) = some (some (.int .i64 0), 1, 8) := by kernel_rfl

/-- A slice as 's[:len(s):len(s)]' leaves it: its capacity is its length. -/
def tight : Value → Value
  | .slice a n _ => .slice a n n
  | v => v

/-- An append of one whole number behind such a slice: a new row. -/
theorem append_tight {W : World} {g : Nat} {s : Value} {l : List Int} (h : IntsX g W s l) (hg : g < W.heap.size) (hl : l.length ≤ 100000) (a : Addr) (x : Int) (hx : W.cell? a = some (.int .i64 x)) :
    ∃ cap W', (Builtin.append_ #[31, 31] 31 #[tight s, .slice (some a) 1 1]).run Try.prog W = .ok (.slice (some ⟨W.heap.size, 0, none⟩) (l.length + 1) cap) W' ∧ l.length + 1 ≤ cap ∧
      Below W.heap.size W W' ∧ W.heap.size < W'.heap.size ∧ IntsX g W' (.slice (some ⟨W.heap.size, 0, none⟩) (l.length + 1) cap) (l ++ [x]) := by
  obtain ⟨i0, hi, hz0, hz1, hz2⟩ := info_parts info3'
  have hnews : ∀ j u, ([Value.int .i64 x])[j]? = some u → W.cell? (a.add j) = some u := by
    intro j u hu
    cases j with
    | zero => simp at hu; subst hu; exact hx
    | succ j => simp at hu
  have key : ∀ (cap : Nat) (cs : Array Value) (hcap : l.length + 1 ≤ cap) (hcs : ∀ (i : Nat) (y : Int), (l ++ [x])[i]? = some y → cs[i]? = some (.int .i64 y)),
      Below W.heap.size W (W.drew.alloc (.cells cs 3)) ∧ W.heap.size < (W.drew.alloc (.cells cs 3)).heap.size ∧ IntsX g (W.drew.alloc (.cells cs 3)) (.slice (some ⟨W.heap.size, 0, none⟩) (l.length + 1) cap) (l ++ [x]) := by
    intro cap cs hcap hcs
    refine ⟨bl_alloc (bl_drew (bl_refl _)) _, by simp, .inr ⟨W.heap.size, cap, by simp, by simpa using hcap, by omega, fun i y hy => ?_⟩⟩
    have : (W.drew.alloc (.cells cs 3)).cell? ⟨W.heap.size, i, none⟩ = cs[i]? := World.cell?_alloc_new W.drew cs 3 i
    rw [this]; exact hcs i y hy
  rcases h with ⟨rfl, rfl⟩ | ⟨b, c, rfl, hc, hne, hcell⟩
  · refine ⟨_, _, run_append_nil (W) 31 31 3 i0 (.int .i64 0) Try.underlying31 hi hz0 a 1 1 [.int .i64 x] (by rw [hz1]; rfl) hnews (by omega) (by omega) (by rw [hz2]; omega), ?_⟩
    refine ⟨grownCap_ge _ _ _ _, key _ _ (grownCap_ge _ _ _ _) fun i y hy => ?_⟩
    cases i with
    | zero => simp at hy; subst hy; rw [Array.getElem?_append_left (by simp)]; rfl
    | succ i => simp at hy
  · have hs : tight (.slice (some ⟨b, 0, none⟩) l.length c) = .slice (some ⟨b, 0, none⟩) l.length l.length := rfl
    rw [hs]
    refine ⟨_, _, run_append_grow (W) 31 31 3 i0 (.int .i64 0) Try.underlying31 hi hz0 ⟨b, 0, none⟩ l.length l.length (l.map (Value.int .i64)) (by rw [hz1]; simp) ?_ a 1 1 [.int .i64 x] (by rw [hz1]; rfl) hnews (by omega) (by omega) (by rw [hz2]; have := nextslicecap_le (need := l.length + 1) (old := l.length) (by omega); omega), ?_⟩
    · intro j u hu
      rw [List.getElem?_map] at hu
      obtain ⟨y, hy, rfl⟩ := Option.map_eq_some_iff.mp hu
      rw [Addr.add_lit]
      have := hcell j y hy
      simpa using this
    · refine ⟨grownCap_ge _ _ _ _, key _ _ (grownCap_ge _ _ _ _) fun i y hy => ?_⟩
      have hi := (List.getElem?_eq_some_iff.mp hy).1
      rw [Array.getElem?_append_left (by simp at hi ⊢; omega)]
      have e : (l.map (Value.int .i64)).toArray ++ [Value.int .i64 x].toArray = ((l ++ [x]).map (Value.int .i64)).toArray := by simp
      rw [e, List.getElem?_toArray, List.getElem?_map, hy]
      rfl

theorem give_any (g : Nat) (w : World) : Calls Try.prog 56 #[.pointer (some ⟨g, 0, none⟩)] w fun e w' => e = .returned (.func (.func 75) #[] #[.pointer (some ⟨w.heap.size, 0, none⟩)]) ∧ w' = w.alloc (.cells #[.pointer (some ⟨g, 0, none⟩)] 71) := by
  go_enter Try.func56, Try.ntmps56
  go_wp2
  go_ret
  exact ⟨rfl, rfl⟩

theorem enters75 : ∀ (args : Array Value) (w : World), (callFunc 75 args).run Try.prog w = .ok (.enter 75 args) w := Go.Proofs.enters_of Try.func75 (by kernel_rfl) rfl

/-- What holds while the owners are collected. -/
def OInv (w : World) (g b off c Bt Bo : Nat) (had : List Int) (part prize : Int) (xs got : List Nat) (W : World) : Prop :=
  TabIs W g b off c had part prize (gotOf got) ∧ W.cell? ⟨Bt, 0, none⟩ = some (.pointer (some ⟨g, 0, none⟩)) ∧ Below w.heap.size w W ∧
  ∃ v, W.heap[Bo]? = some (.cells #[v] 31 (0, 0)) ∧ IntsX g W v (xs.map Int.ofNat)

theorem OInv.give {w : World} {g b off c Bt Bo : Nat} {had : List Int} {part prize : Int} (hg : w.heap.size ≤ g) (hbt : Bt ≠ g) (hbo : Bo ≠ g) :
    GiveInv g b off c Bt had part prize (fun xs W => OInv w g b off c Bt Bo had part prize xs xs W) (fun xs W => OInv w g b off c Bt Bo had part prize xs xs.dropLast W) := by
  refine ⟨?_, fun pre W h => ⟨h.1, h.2.1⟩, fun pre x W h => ?_, fun pre x W h hx => ?_⟩
  · rintro pre W W' ⟨T, hb, hB, v, hv, hI⟩ hW
    exact ⟨T.mono hW, cell_mono hb hW, bl_trans hB hW, v, by rw [hW.block Bo (Array.getElem?_eq_some_iff.mp hv).1]; exact hv, hI.mono hW⟩
  · have e : (pre ++ [x]).dropLast = pre := by simp
    obtain ⟨T, hb, _⟩ := h
    rw [e] at T
    exact ⟨T, hb⟩
  · obtain ⟨T, hb, hB, v, hv, hI⟩ := h
    rw [show (pre ++ [x]).dropLast = pre by simp] at T
    have hd : Below W.heap.size W W.drew := bl_drew (bl_refl _)
    refine ⟨?_, ?_, bl_set (bl_drew hB) _ hg, v, ?_, (hI.mono hd).set _⟩
    · rw [gotOf_snoc]
      exact (T.mono hd).set (by rw [gotOf_len]; exact hx)
    · have hne : (⟨g, 3 + x, none⟩ : Addr) ≠ ⟨Bt, 0, none⟩ := by intro e; injection e with e1; exact hbt e1.symm
      rw [World.cell?_setCell_other (h := hne)]; exact hb
    · rw [Below.heap_setCell _ _ _ _ (by simpa using hbo)]; exact hv

theorem OInv.free {w : World} {g b off c Bt Bo : Nat} {had : List Int} {part prize : Int} {f : List Nat → List Nat} {m : Nat} (hm : w.heap.size ≤ m) {l : Nat} (hl : m < l) :
    RecFree l (fun xs W => OInv w g b off c Bt Bo had part prize xs (f xs) W) := by
  rintro xs W o ⟨T, hb, hB, v, hv, hI⟩ ⟨r, hr⟩ _
  exact ⟨T.put o hr rfl, cell_put hb hr rfl, below_put hB (by omega), v, heap_put hv rfl hr rfl, hI.put o hr rfl⟩

theorem TabIs.other {g b off c B o : Nat} {had got : List Int} {part prize : Int} {w : World} (u : Value) (h : TabIs w g b off c had part prize got) (h1 : B ≠ g) (h2 : B ≠ b) : TabIs (w.setCell ⟨B, o, none⟩ u) g b off c had part prize got := by
  refine ⟨?_, fun i x hx => ?_, by simpa [World.setCell] using h.lt, h.ne⟩
  · rw [Below.heap_setCell _ _ _ _ (by simpa using Ne.symm h1)]; exact h.tab
  · have hne : (⟨B, o, none⟩ : Addr) ≠ ⟨b, off + i, none⟩ := by intro e; injection e with e1; exact h2 e1
    rw [World.cell?_setCell_other (h := hne)]; exact h.cells i x hx
theorem IntsX.other {g B o : Nat} {w : World} {b n c : Nat} {xs : List Int} (u : Value) (h : IntsX g w (.slice (some ⟨b, 0, none⟩) n c) xs) (h1 : B ≠ b) : IntsX g (w.setCell ⟨B, o, none⟩ u) (.slice (some ⟨b, 0, none⟩) n c) xs := by
  rcases h with ⟨h, _⟩ | ⟨b', c', e, h2, h3, h4⟩
  · cases h
  · refine .inr ⟨b', c', e, h2, h3, fun i x hi => ?_⟩
    have eb : b = b' := by injection e with e1; injection e1 with e1; injection e1
    have hne : (⟨B, o, none⟩ : Addr) ≠ ⟨b', i, none⟩ := by intro e; injection e with e1; exact h1 (e1.trans eb.symm)
    rw [World.cell?_setCell_other (h := hne)]; exact h4 i x hi

theorem order_err (had : List Int) (part prize : Int) (s : Value) (w : World) (hl : had.length ≤ 1000) (V : checkPool had part prize ≠ 0) (hs : Ints w s had) :
    Calls Try.prog 23 #[.agg #[s, .int .i64 part, .int .i64 prize]] w fun e w' => e = .returned (.tuple #[.slice none 0 0, .int .i64 (checkPool had part prize)]) ∧ Below w.heap.size w w' := by
  obtain ⟨A, c, rfl⟩ := hs.slice
  have hcp : (checkPool had part prize != 0) = true := by simpa using V
  refine calls_marks Try.func23 rfl ?_
  simp only [Try.ntmps23, List.size_toArray, List.length_cons, List.length_nil, Nat.reduceAdd, Nat.reduceSub, Array.replicate_succ, Array.replicate_zero, List.push_toArray, List.append_toArray, List.nil_append, List.cons_append]
  go_wp2_with fail
  refine (open_err had part prize _ _ hl V (hs.mono (bl_alloc (bl_refl _) _))).mono ?_
  rintro e w1 ⟨rfl, hb1⟩
  clear V
  have hB1 := bl_trans (bl_alloc (bl_refl _) _) hb1
  go_wp2
  refine leave_nil (results_tmp2 rfl _ _ _) rfl ⟨rfl, hB1⟩

/-- The row that a copy has filled. -/
theorem order_end {w : World} {g : Nat} {cur : List Value} {L : List Nat} (hl : cur.length = L.length) (h : w.heap[g]? = some (.cells (splice cur 0 (L.map fun i : Nat => Value.int .i64 (i : Int))).toArray 3 (0, 0))) :
    Ints w (.slice (some ⟨g, 0, none⟩) L.length L.length) (L.map Int.ofNat) := by
  have e : splice cur 0 (L.map fun i : Nat => Value.int .i64 (i : Int)) = L.map fun i : Nat => Value.int .i64 (i : Int) := by
    simp [splice, ← hl]
  rw [e] at h
  refine .inr ⟨g, 0, L.length, by simp, by simp, (Array.getElem?_eq_some_iff.mp h).1, fun i x hx => ?_⟩
  rw [List.getElem?_map] at hx
  obtain ⟨y, hy, rfl⟩ := Option.map_eq_some_iff.mp hx
  simp [World.cell?, h, hy]
theorem ints_put {w : World} {s : Value} {xs : List Int} {l : Nat} {r o : Obj} (h : Ints w s xs) (hl : w.heap[l]? = some r) (hr : r.isCells = false) : Ints (w.putObj l o) s xs := by
  rcases h with h | ⟨b, off, c, h1, h2, h3, h4⟩
  · exact .inl h
  · exact .inr ⟨b, off, c, h1, h2, by rw [size_put]; exact h3, fun i x hx => cell_put (h4 i x hx) hl hr⟩

set_option maxRecDepth 100000 in
set_option maxHeartbeats 2000000 in
theorem order_ok (had : List Int) (part prize : Int) (s : Value) (w : World) (V : Val had part prize) (hs : Ints w s had) :
    Calls Try.prog 23 #[.agg #[s, .int .i64 part, .int .i64 prize]] w fun e w' => (∃ v, e = .returned (.tuple #[v, .int .i64 0]) ∧ Ints w' v ((ordN had part prize.toNat).map Int.ofNat)) ∧ Below w.heap.size w w' := by
  obtain ⟨A, c, rfl⟩ := hs.slice
  refine calls_marks Try.func23 rfl ?_
  simp only [Try.ntmps23, List.size_toArray, List.length_cons, List.length_nil, Nat.reduceAdd, Nat.reduceSub, Array.replicate_succ, Array.replicate_zero, List.push_toArray, List.append_toArray, List.nil_append, List.cons_append]
  go_wp2_with fail
  refine (open_ok had part prize _ _ V (hs.mono (bl_alloc (bl_refl _) _))).mono ?_
  rintro e w1 ⟨⟨g, b, off, c', rfl, hg, T⟩, hb1⟩
  have hB1 := bl_trans (bl_alloc (bl_refl _) _) hb1
  simp only [World.size_alloc] at hg
  have hgl := T.glt
  go_wp2_with fail
  refine (give_any g _).mono ?_
  rintro e w2 ⟨rfl, rfl⟩
  go_wp2
  obtain ⟨W2, hW2⟩ : ∃ W2, (w1.alloc (Obj.cells #[.slice none 0 0] 31)).alloc (Obj.cells #[.pointer (some ⟨g, 0, none⟩)] 71) = W2 := ⟨_, rfl⟩
  have hz2 : W2.heap.size = w1.heap.size + 2 := by rw [← hW2]; simp
  have hB2 : Below w1.heap.size w1 W2 := by rw [← hW2]; exact bl_alloc (bl_alloc (bl_refl _) _) _
  have hbo : W2.heap[w1.heap.size]? = some (.cells #[.slice none 0 0] 31 (0, 0)) := by
    rw [← hW2]; exact (Below.heap_alloc _ _ _ (by simp)).trans (World.alloc_heap_new w1 _)
  have hbt : W2.cell? ⟨w1.heap.size + 1, 0, none⟩ = some (.pointer (some ⟨g, 0, none⟩)) := by
    rw [← hW2]; have := World.cell?_alloc_new (w1.alloc (Obj.cells #[.slice none 0 0] 31)) #[.pointer (some ⟨g, 0, none⟩)] 71 0; rw [World.size_alloc] at this; exact this
  have hbl := T.lt
  rw [hW2]
  have H0 : OInv w g b off c' (w1.heap.size + 1) w1.heap.size had part prize [] [] W2 := ⟨T.mono hB2, hbt, bl_trans hB1 hB2, _, hbo, .inl ⟨rfl, rfl⟩⟩
  clear hW2 hbo hbt T
  refine wp_rangeFunc_mine (gf := 75) (lb := #[.pointer (some ⟨w1.heap.size + 1, 0, none⟩)]) rfl enters75 (encs := fun i : Nat => #[.int .i64 i]) (fun _ => rfl)
    (fun xs W => OInv w g b off c' (w1.heap.size + 1) w1.heap.size had part prize xs xs W) (fun xs W => OInv w g b off c' (w1.heap.size + 1) w1.heap.size had part prize xs xs.dropLast W) (fun _ _ _ => False)
    (fun xs => xs = ordN had part prize.toNat) (fun pre x => pre.length < prize.toNat ∧ x < had.length) (give_iter V (OInv.give (by omega) (by omega) (by omega)) W2)
    (fun l hl => OInv.free (f := id) (m := W2.heap.size) (by have := hB1.size; omega) hl) (fun l hl => OInv.free (f := List.dropLast) (m := W2.heap.size) (by have := hB1.size; omega) hl) (fun _ _ _ _ _ _ h _ _ => h.elim)
    (fun W hW _ => (OInv.give (by omega) (by omega) (by omega)).below _ _ _ H0 hW)
    (fun x => { tmps := #[.agg #[.slice A had.length c, .int .i64 part, .int .i64 prize], .pointer (some ⟨w.heap.size, 0, none⟩), .slice none 0 0, .int .i64 0, .pointer (some ⟨g, 0, none⟩), .int .i64 0, .pointer (some ⟨w1.heap.size, 0, none⟩), .int .i64 x, undef, .tuple #[.pointer (some ⟨g, 0, none⟩), .int .i64 0], .agg #[.slice A had.length c, .int .i64 part, .int .i64 prize], .tuple #[.pointer (some ⟨g, 0, none⟩), .int .i64 0], .pointer (some ⟨g, 0, none⟩), .int .i64 0, .int .i64 0, .bool false, undef, .pointer (some ⟨g, 0, none⟩), .func (.func 75) #[] #[.pointer (some ⟨w1.heap.size + 1, 0, none⟩)], .int .i64 x, undef, undef, undef, undef, undef, undef, undef, undef, undef, undef, undef, undef, undef, undef, undef, undef], defers := [] }) ?assign ?body ?done ?stop
  case assign =>
    intro l x W K hK
    gi_wp2
    exact hK
  case body =>
    rintro l pre x W rfl ⟨T, hbt, hB, v, hv, hI⟩ ⟨hlen, _⟩ ⟨r, hr⟩ hd
    have hcv : W.cell? ⟨w1.heap.size, 0, none⟩ = some v := by simp [World.cell?, hv]
    have hfv : W.frozen? ⟨w1.heap.size, 0, none⟩ = false := by simp [World.frozen?, hv]
    have hgW := T.glt
    have hbW : w1.heap.size < W.heap.size := (Array.getElem?_eq_some_iff.mp hv).1
    have hz := V.z2
    have hpl : pre.length ≤ 1000 := by omega
    have hx1 : (W.alloc (.cells #[.int .i64 x] 3)).cell? ⟨W.heap.size, 0, none⟩ = some (.int .i64 x) := by simp [go_sem]
    obtain ⟨cap, W', hrun, hcap, hbW', hsz', hI'⟩ := append_tight (hI.mono (bl_alloc (bl_refl W) (.cells #[.int .i64 x] 3))) (by simp; omega) (by simp; omega) ⟨W.heap.size, 0, none⟩ x hx1
    have hcv' := cell_mono hcv (bl_trans (bl_alloc (bl_refl W) _) hbW')
    have hfv' : W'.frozen? ⟨w1.heap.size, 0, none⟩ = false := ((bl_trans (bl_alloc (bl_refl W) _) hbW').frozen (p := ⟨w1.heap.size, 0, none⟩) hbW).trans hfv
    have hB' := bl_trans hB (bl_trans (bl_alloc (bl_refl W) _) hbW')
    have T' := T.mono (bl_trans (bl_alloc (bl_refl W) _) hbW')
    have hbt' := cell_mono hbt (bl_trans (bl_alloc (bl_refl W) _) hbW')
    have hr' : W'.heap[W2.heap.size + 1]? = some (.loop r) := by rw [(bl_trans (bl_alloc (bl_refl W) _) hbW').block _ (Array.getElem?_eq_some_iff.mp hr).1]; exact hr
    have hd' : W'.heap[W2.heap.size + 1 - 1]? = some (.deferred (some [])) := by rw [(bl_trans (bl_alloc (bl_refl W) _) hbW').block _ (Array.getElem?_eq_some_iff.mp hd).1]; exact hd
    have hv' : W'.heap[w1.heap.size]? = some (.cells #[v] 31 (0, 0)) := by rw [(bl_trans (bl_alloc (bl_refl W) _) hbW').block _ hbW]; exact hv
    simp only [World.size_alloc, List.length_map] at hrun hI' hsz' hcap
    have hfin : ∀ u, u = Value.slice (some ⟨W.heap.size + 1, 0, none⟩) (pre.length + 1) cap → 
        (W'.setCell ⟨w1.heap.size, 0, none⟩ u).heap[W2.heap.size + 1]? = W.heap[W2.heap.size + 1]? ∧ (W'.setCell ⟨w1.heap.size, 0, none⟩ u).heap[W2.heap.size + 1 - 1]? = W.heap[W2.heap.size + 1 - 1]? ∧
        OInv w g b off c' (w1.heap.size + 1) w1.heap.size had part prize (pre ++ [x]) (pre ++ [x]).dropLast (W'.setCell ⟨w1.heap.size, 0, none⟩ u) := by
      rintro u rfl
      refine ⟨by rw [book_set hr' rfl, hr], by rw [book_set hd' rfl, hd], ?_⟩
      refine ⟨by rw [show (pre ++ [x]).dropLast = pre by simp]; exact T'.other _ (by omega) (by omega), ?_, bl_set hB' _ (by have := hB1.size; omega), .slice (some ⟨W.heap.size + 1, 0, none⟩) (pre.length + 1) cap, ?_, ?_⟩
      · have hne : (⟨w1.heap.size, 0, none⟩ : Addr) ≠ ⟨w1.heap.size + 1, 0, none⟩ := by intro e; injection e with e1; omega
        rw [World.cell?_setCell_other (h := hne)]; exact hbt'
      · simp only [World.setCell, Array.getElem?_modify]
        simp [hv']
      · rw [List.map_append]
        exact hI'.other _ (show w1.heap.size ≠ W.heap.size + 1 by omega)
    have Hfin := Lib.hid hfin
    have HT := Lib.hid T
    clear hfin hr' hd' hv' hbt' T' hB' hv hB T hbt hI' hbW' hr hd hB2 hB1 hb1 H0 hx1
    rcases hI with ⟨rfl, hnil⟩ | ⟨b2, c2, rfl, hc2, _, _⟩
    · have hp0 : pre = [] := by simpa using hnil
      subst hp0
      simp only [tight, List.length_nil, Nat.zero_add] at hrun
      clear hnil
      gi_wp2_with (gi_at_builtin; refine wpListIn_append_run rfl _ _ 31 rfl _ _ _ _ rfl rfl hrun ?_)
      exact Hfin.out _ rfl
    · simp only [tight, List.length_map] at hrun hc2
      gi_wp2_with (gi_at_builtin; refine wpListIn_append_run rfl _ _ 31 rfl _ _ _ _ rfl rfl hrun ?_)
      exact Hfin.out _ rfl
  case done =>
    rintro D xs W rfl rfl ⟨T, hbt, hB, v, hv, hI⟩ hK
    obtain ⟨i0, hi, hz0, hz1, hz2⟩ := info_parts info3'
    have hz := V.z2
    have hll := hid (ordN_len had part prize.toNat)
    generalize hL : ordN had part prize.toNat = L at *
    have HL := hid hL
    clear hL
    have hLl : L.length ≤ 1000 := by rw [hll.out]; omega
    have hcv : W.cell? ⟨w1.heap.size, 0, none⟩ = some v := by simp [World.cell?, hv]
    have hmk := run_makeSlice W 31 3 i0 (.int .i64 0) Try.underlying31 hi hz0 .i64 .i64 (L.length : Int) (L.length : Int) (by omega) (by omega) (by rw [hz1]; omega) (by rw [hz2]; omega) (by omega)
    rw [Int.toNat_natCast, hz1, Nat.mul_one] at hmk
    obtain ⟨cur, hcur⟩ : ∃ cur : List Value, madeCells (Value.int .i64 0).cells L.length = cur.toArray := ⟨(madeCells (Value.int .i64 0).cells L.length).toList, by simp⟩
    have hcl : cur.length = L.length := by
      have := congrArg Array.size hcur
      simp [madeCells] at this
      omega
    rw [hcur] at hmk
    have hnew : (W.alloc (.cells cur.toArray 3)).heap[W.heap.size]? = some (.cells cur.toArray 3 (0, 0)) := World.alloc_heap_new W _
    have Hnew := hid hnew
    have HT := Lib.hid T
    have hDl : W2.heap.size < W.heap.size := (Array.getElem?_eq_some_iff.mp hK).1
    have hbW : w1.heap.size < W.heap.size := by omega
    have HK := Lib.hid hK
    have Hcl := hid hcl
    clear hnew T hbt hv hcl hcur hK hb1 hB2 hB1 H0 hi hz0 hz1 hz2
    rcases hI with ⟨rfl, hnil⟩ | ⟨b2, c2, rfl, hc2, hbg, hcell⟩
    · have hL0 : L = [] := by simpa using hnil
      subst hL0
      clear hnil
      simp only [List.length_nil] at hmk
      rw [show ((0 : Nat) : Int) = 0 from rfl] at hmk
      simp only
      go_wp2_with ((with_reducible refine wpList_copy_splice rfl (.tmp 32) (.tmp 33) 31 31 rfl 3 Try.underlying31 (by kernel_rfl) _ _ 0 0 0 0 rfl rfl W.heap.size 0 cur 3 ?k1 [] ?k2 ?k3 ?k4 ?k5 W.heap.size W ?k6 (Nat.le_refl _) ?k7))
      case k1 => exact Hnew.out
      case k2 => simp
      case k4 => simp
      case k5 => intro u hu; simp at hu
      case k6 => exact bl_alloc (bl_refl W) _
      case k7 =>
        intro w' hsp hb'
        have hend := hid (order_end (g := W.heap.size) (L := []) (by rw [Hcl.out]) hsp.out)
        have hK' : w'.heap[w1.heap.size + 2]? = some (.deferred (some [])) := by rw [hb'.block _ (by omega), ← hz2]; exact HK.out
        go_wp2
        refine leave_one rfl hK' (results_tmp2 rfl _ _ _) ?_
        exact ⟨⟨_, rfl, by rw [HL.out]; exact ints_put hend.out hK' rfl⟩, below_put (bl_trans hB hb') (by have := hB.size; omega)⟩
    · simp only [List.length_map] at hcv hc2
      have Hcell := Lib.hid hcell
      clear hcell
      simp only
      go_wp2_with ((with_reducible refine wpList_copy_splice rfl (.tmp 32) (.tmp 33) 31 31 rfl 3 Try.underlying31 (by kernel_rfl) _ _ L.length L.length L.length c2 rfl rfl W.heap.size 0 cur 3 ?h1 (L.map fun i : Nat => Value.int .i64 (i : Int)) ?h2 ?h3 ?h4 ?h5 W.heap.size W ?h6 (Nat.le_refl _) ?h7))
      case h1 => exact Hnew.out
      case h2 => simp
      case h3 =>
        intro hp
        intro j y hy
        have := cell_mono (Hcell.out j (y : Int) (by rw [List.getElem?_map, hy]; rfl)) (bl_alloc (bl_refl W) (Obj.cells cur.toArray 3))
        exact this
      case h4 => rw [Hcl.out]; simp
      case h5 =>
        intro u hu
        obtain ⟨y, _, rfl⟩ := List.mem_map.mp hu
        rfl
      case h6 => exact bl_alloc (bl_refl W) _
      case h7 =>
        intro w' hsp hb'
        have hend := hid (order_end (g := W.heap.size) (by rw [Hcl.out]) hsp.out)
        have hK' : w'.heap[w1.heap.size + 2]? = some (.deferred (some [])) := by rw [hb'.block _ (by omega)]; rw [← hz2]; exact HK.out
        go_wp2
        refine leave_one rfl hK' (results_tmp2 rfl _ _ _) ?_
        exact ⟨⟨_, rfl, by rw [HL.out]; exact ints_put hend.out hK' rfl⟩, below_put (bl_trans hB hb') (by have := hB.size; omega)⟩
  case stop =>
    rintro D cc pre W _ h _
    exact h.elim

end Go.Proofs.Ytfchcikdcnloaaa
