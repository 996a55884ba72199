/- The table of a pool in memory, and the quotients: share's step, by, next, last, less. -/
import Derived.Test.YtfchcikdcnloaaaBase
namespace Go.Proofs.Ytfchcikdcnloaaa
open Go.RowKit Go.Proofs

/-- The table's block. -/
def tabObj (s : Value) (part prize : Int) (got : List Int) : Obj := .cells ((s :: .int .i64 part :: .int .i64 prize :: got.map (Value.int .i64)).toArray) 84 (0, 0)

/-- Block g is the table of a pool. -/
structure TabIs (w : World) (g b off c : Nat) (had : List Int) (part prize : Int) (got : List Int) : Prop where
  tab : w.heap[g]? = some (tabObj (.slice (some ⟨b, off, none⟩) had.length c) part prize got)
  cells : ∀ i x, had[i]? = some x → w.cell? ⟨b, off + i, none⟩ = some (.int .i64 x)
  lt : b < w.heap.size
  ne : b ≠ g

/-- A pool's numbers are within their limits. -/
structure Val (had : List Int) (part prize : Int) : Prop where
  l1 : 1 ≤ had.length
  l2 : had.length ≤ 12
  h1 : ∀ (i : Nat) (x : Int), had[i]? = some x → 1 ≤ x ∧ x ≤ 1000000
  p1 : 1 ≤ part
  p2 : part ≤ 100
  z1 : 0 ≤ prize
  z2 : prize ≤ 1000

def GotOk (got : List Int) : Prop := got.length = 12 ∧ ∀ (i : Nat) (x : Int), got[i]? = some x → 0 ≤ x ∧ x ≤ 1000

section
variable {w v : World} {g b off c : Nat} {had got : List Int} {part prize : Int}
theorem TabIs.mono (h : TabIs w g b off c had part prize got) (hb : Below w.heap.size w v) : TabIs v g b off c had part prize got := by
  obtain ⟨h1, h2, h3, h4⟩ := h
  refine ⟨?_, fun i x hx => cell_mono (h2 i x hx) hb, Nat.lt_of_lt_of_le h3 hb.size, h4⟩
  rw [hb.block g (Array.getElem?_eq_some_iff.mp h1).1]; exact h1
theorem TabIs.glt (h : TabIs w g b off c had part prize got) : g < w.heap.size := (Array.getElem?_eq_some_iff.mp h.tab).1
theorem TabIs.c0 (h : TabIs w g b off c had part prize got) : w.cell? ⟨g, 0, none⟩ = some (.slice (some ⟨b, off, none⟩) had.length c) := by
  simp [World.cell?, h.tab, tabObj]
theorem TabIs.c1 (h : TabIs w g b off c had part prize got) : w.cell? ⟨g, 1, none⟩ = some (.int .i64 part) := by
  simp [World.cell?, h.tab, tabObj]
theorem TabIs.c2 (h : TabIs w g b off c had part prize got) : w.cell? ⟨g, 2, none⟩ = some (.int .i64 prize) := by
  simp [World.cell?, h.tab, tabObj]
theorem TabIs.cg (h : TabIs w g b off c had part prize got) {i : Nat} {x : Int} (hx : got[i]? = some x) : w.cell? ⟨g, 3 + i, none⟩ = some (.int .i64 x) := by
  simp [World.cell?, h.tab, tabObj, Nat.add_comm 3 i, hx]
theorem TabIs.fr (h : TabIs w g b off c had part prize got) (o : Nat) : w.frozen? ⟨g, o, none⟩ = false := by
  simp [World.frozen?, h.tab, tabObj]
theorem TabIs.set (h : TabIs w g b off c had part prize got) {i : Nat} {x : Int} (_hi : i < got.length) : TabIs (w.setCell ⟨g, 3 + i, none⟩ (.int .i64 x)) g b off c had part prize (got.set i x) := by
  obtain ⟨h1, h2, h3, h4⟩ := h
  refine ⟨?_, fun j y hy => ?_, by simpa [World.setCell] using h3, h4⟩
  · simp only [World.setCell, Array.getElem?_modify]
    simp [h1, tabObj, Nat.add_comm 3 i]
  · have hne : (⟨g, 3 + i, none⟩ : Addr) ≠ ⟨b, off + j, none⟩ := by intro e; injection e with e1; exact h4 e1.symm
    rw [World.cell?_setCell_other (h := hne)]; exact h2 j y hy
end

theorem step_any (g : Nat) (part k : Int) (w : World) (h1 : w.cell? ⟨g, 1, none⟩ = some (.int .i64 part)) (hk : 0 ≤ k) (hk2 : k ≤ 1000) (hp : 0 ≤ part) (hp2 : part ≤ 100) :
    Calls Try.prog 64 #[.pointer (some ⟨g, 0, none⟩), .int .i64 k] w fun e w' => e = .returned (.int .i64 (100 * k + part)) ∧ w' = w := by
  go_enter Try.func64, Try.ntmps64
  go_wp2
  go_ret
  exact ⟨rfl, rfl⟩

def GcdIs (X Y : Nat) (a b : Int) : Prop := Nat.gcd X Y = Int.gcd a b
theorem gcdIs_start {a b : Int} (ha : 0 ≤ a) (hb : 0 ≤ b) : GcdIs a.toNat b.toNat a b := by
  unfold GcdIs Int.gcd
  congr 1 <;> omega
theorem gcdIs_step {X Y : Nat} {a b : Int} (h : GcdIs X Y a b) : GcdIs Y (X % Y) a b := by
  unfold GcdIs at *
  rw [← h, Nat.gcd_comm X Y, Nat.gcd_rec Y X, Nat.gcd_comm]
theorem gcdIs_end {X : Nat} {a b : Int} (h : GcdIs X 0 a b) : X = Int.gcd a b := by
  unfold GcdIs at *; simpa using h

/-- A quotient in least terms. -/
def quo (a b : Int) : Int × Int := (a / (Int.gcd a b : Int), b / (Int.gcd a b : Int))
def encQ (q : Int × Int) : Value := .agg #[.int .i64 q.1, .int .i64 q.2]
def byQ (had : List Int) (part : Int) (i : Nat) (k : Int) : Int × Int := quo (100 * had.getD i 0) (100 * k + part)

set_option maxHeartbeats 2000000 in
theorem by_core (g b off n c : Nat) (i : Nat) (h part k : Int) (w : World)
    (h0 : w.cell? ⟨g, 0, none⟩ = some (.slice (some ⟨b, off, none⟩) n c)) (h1 : w.cell? ⟨g, 1, none⟩ = some (.int .i64 part))
    (hi : i < n) (_hn : n ≤ 12) (hh : w.cell? ⟨b, off + i, none⟩ = some (.int .i64 h))
    (hk : 0 ≤ k) (hk2 : k ≤ 1000) (hp : 1 ≤ part) (hp2 : part ≤ 100) (ha : 1 ≤ h) (ha2 : h ≤ 1000000) :
    Calls Try.prog 81 #[.pointer (some ⟨g, 0, none⟩), .int .i64 i, .int .i64 k] w fun e w' => 
       e = .returned (encQ (quo (100 * h) (100 * k + part))) ∧ Below w.heap.size w w' := by
  have hg := World.block_lt_of_cell? _ _ h0
  have hb := World.block_lt_of_cell? _ _ hh
  simp only at hg hb
  have hwr : IntKind.i64.wrap (100 * h) = 100 * h := IntWalk.i64_in _ (by omega)
  go_enter Try.func81, Try.ntmps81
  go_wp2
  go_quiet ((go_at_call 64; exact Calls.quiet_of_same (step_any _ _ _ _ (by rw [World.cell?_drewN, World.cell?_alloc_lt _ _ _ hg]; exact h1) (by omega) (by omega) (by omega) (by omega))))
  clear hwr
  go_wp2
  go_loopw [9, 10] (fun x y wr => ∃ X Y : Nat, x = .int .i64 X ∧ y = .int .i64 Y ∧ 0 < X ∧ X ≤ 100000000 ∧ Y ≤ 100000000 ∧ GcdIs X Y (100 * h) (100 * k + part) ∧ ∃ q, wr = (w.alloc (Obj.cells #[Value.int IntKind.i64 0, Value.int IntKind.i64 0] 86)).drewN q) (fun _ y _ => (intOf y).toNat)
  case atStart => 
    refine ⟨(100 * h).toNat, (100 * k + part).toNat, ?_, ?_, by omega, by omega, by omega, ?_, nq, rfl⟩
    · rw [Int.toNat_of_nonneg (by omega)]
    · rw [Int.toNat_of_nonneg (by omega)]
    · exact gcdIs_start (by omega) (by omega)
  case round =>
    obtain ⟨X, Y, rfl, rfl, hX, hX2, hY2, hG, q, rfl⟩ := hrel
    by_cases hy : Y = 0
    · subst hy
      have hXb : ((X : Int) == 0) = false := by simp; omega
      go_wp2
      go_region
      go_wp2
      have hXG := gcdIs_end hG
      refine bodyPost_ret (v := .agg #[.int .i64 ((100 * h) / (X : Int)), .int .i64 ((100 * k + part) / (X : Int))]) (by simp [results, Try.results81, go_sem]) rfl ⟨by rw [hXG]; rfl, ?_⟩
      exact bl_set (bl_set (bl_drewN (bl_alloc (bl_refl _) _) _) _ (Nat.le_refl _)) _ (Nat.le_refl _)
    · have hyb : ((Y : Int) != 0) = true := by simp; omega
      have hY0 : 0 < Y := by omega
      clear hy
      go_wp2
      go_quiet (fail)
      go_wp2
      go_roundw
      case rel => 
        have hmod := Nat.mod_lt X hY0
        refine ⟨Y, X % Y, rfl, ?_, hY0, by omega, by omega, gcdIs_step hG, _, World.drewN_drewN _ _ _⟩
        rw [Int.natCast_emod]
      case measure => 
        have hmod := Nat.mod_lt X hY0
        simp only [intOf]; rw [← Int.natCast_emod, Int.toNat_natCast, Int.toNat_natCast]; exact hmod

theorem by_any {g b off c : Nat} {had got : List Int} {part prize : Int} {w : World} (T : TabIs w g b off c had part prize got) (V : Val had part prize) (i : Nat) (hi : i < had.length) (k : Int) (hk : 0 ≤ k) (hk2 : k ≤ 1000) :
    Calls Try.prog 81 #[.pointer (some ⟨g, 0, none⟩), .int .i64 i, .int .i64 k] w fun e w' => 
       e = .returned (encQ (byQ had part i k)) ∧ Below w.heap.size w w' := by
  obtain ⟨x, hx⟩ := get_at hi
  have := V.h1 i x hx
  have e : had.getD i 0 = x := by simp [List.getD, hx]
  unfold byQ
  rw [e]
  exact by_core g b off had.length c i x part k w T.c0 T.c1 hi V.l2 (T.cells i x hx) hk hk2 V.p1 V.p2 this.1 this.2


def Small (q : Int × Int) : Prop := 0 ≤ q.1 ∧ q.1 ≤ 100000000 ∧ 0 ≤ q.2 ∧ q.2 ≤ 100100
def lessB (a b : Int × Int) : Bool := decide (a.1 * b.2 < b.1 * a.2)
theorem small_mul {a b : Int} (h1 : 0 ≤ a) (h2 : a ≤ 100000000) (h3 : 0 ≤ b) (h4 : b ≤ 100100) : IntKind.i64.wrap (a * b) = a * b := by
  have := Int.mul_le_mul h2 h4 h3 (by omega)
  have := Int.mul_nonneg h1 h3
  exact IntWalk.i64_in _ (by omega)
theorem small_mul' {a b : Int} (h1 : 0 ≤ a) (h2 : a ≤ 100000000) (h3 : 0 ≤ b) (h4 : b ≤ 100100) : wrap64 (a * b) = a * b := by
  have := Int.mul_le_mul h2 h4 h3 (by omega)
  have := Int.mul_nonneg h1 h3
  unfold wrap64; omega

theorem less_any (x y : Int × Int) (w : World) (hx : Small x) (hy : Small y) :
    Calls Try.prog 74 #[encQ x, encQ y] w fun e w' => e = .returned (.bool (lessB x y)) ∧ Below w.heap.size w w' := by
  obtain ⟨a, b⟩ := x
  obtain ⟨c, d⟩ := y
  obtain ⟨x1, x2, x3, x4⟩ := hx
  obtain ⟨y1, y2, y3, y4⟩ := hy
  simp only at x1 x2 x3 x4 y1 y2 y3 y4
  have e1 := hid (small_mul' x1 x2 y3 y4)
  have e2 := hid (small_mul' y1 y2 x3 x4)
  unfold encQ
  go_enter Try.func74, Try.ntmps74
  go_wp2
  go_ret
  refine ⟨?_, bl_alloc (bl_alloc (bl_refl _) _) _⟩
  simp [lessB, e1.out, e2.out]

theorem less1_any (x y : Int × Int) (w : World) (hx : Small x) (hy : Small y) :
    Calls Try.prog 79 #[encQ x, encQ y] w fun e w' => e = .returned (.bool (lessB y x)) ∧ Below w.heap.size w w' := by
  unfold encQ
  go_enter Try.func79, Try.ntmps79
  go_wp2_with fail
  refine (less_any y x _ hy hx).mono ?_
  rintro e w1 ⟨rfl, hb1⟩
  go_wp2
  go_ret
  exact ⟨rfl, bl_trans (bl_alloc (bl_alloc (bl_refl _) _) _) hb1⟩

def lastQ (had : List Int) (part : Int) (got : List Int) (i : Nat) : Int × Int := if got.getD i 0 = 0 then (0, 1) else byQ had part i (got.getD i 0 - 1)
def nextQ (had : List Int) (part : Int) (got : List Int) (i : Nat) : Int × Int := byQ had part i (got.getD i 0)

theorem next_any {g b off c : Nat} {had got : List Int} {part prize : Int} {w : World} (T : TabIs w g b off c had part prize got) (V : Val had part prize) (G : GotOk got) (i : Nat) (hi : i < had.length) :
    Calls Try.prog 66 #[.pointer (some ⟨g, 0, none⟩), .int .i64 i] w fun e w' => 
       e = .returned (encQ (nextQ had part got i)) ∧ Below w.heap.size w w' := by
  have hl := V.l2
  obtain ⟨x, hx⟩ := get_at (l := got) (k := i) (by have := G.1; omega)
  have hG := G.2 i x hx
  have e : got.getD i 0 = x := by simp [List.getD, hx]
  unfold nextQ
  rw [e]
  have hcell := T.cg hx
  have hg := T.glt
  clear hx
  go_enter Try.func66, Try.ntmps66
  go_wp2_with fail
  refine (by_any (T.mono (bl_alloc (bl_refl _) _)) V i hi x hG.1 hG.2).mono ?_
  rintro e w1 ⟨rfl, hb1⟩
  unfold encQ
  obtain ⟨hc1, hf1⟩ := bcell hb1
  simp only [World.size_alloc] at hc1 hf1
  go_wp2
  refine bodyPost_ret (v := encQ (byQ had part i x)) (by simp [results, Try.results66, go_sem, hc1, encQ]) rfl ⟨rfl, ?_⟩
  exact bl_set (bl_set (bl_trans (bl_alloc (bl_refl _) _) hb1) _ (Nat.le_refl _)) _ (Nat.le_refl _)

theorem last_any {g b off c : Nat} {had got : List Int} {part prize : Int} {w : World} (T : TabIs w g b off c had part prize got) (V : Val had part prize) (G : GotOk got) (i : Nat) (hi : i < had.length) :
    Calls Try.prog 69 #[.pointer (some ⟨g, 0, none⟩), .int .i64 i] w fun e w' => 
       e = .returned (encQ (lastQ had part got i)) ∧ Below w.heap.size w w' := by
  have hl := V.l2
  obtain ⟨x, hx⟩ := get_at (l := got) (k := i) (by have := G.1; omega)
  have hG := G.2 i x hx
  have e : got.getD i 0 = x := by simp [List.getD, hx]
  unfold lastQ
  rw [e]
  have hcell := T.cg hx
  have hg := T.glt
  clear hx e
  by_cases hx0 : x = 0
  · subst hx0
    go_enter Try.func69, Try.ntmps69
    go_wp2
    refine bodyPost_ret (v := encQ (0, 1)) (by simp [results, Try.results69, go_sem, encQ]) rfl ⟨rfl, ?_⟩
    exact bl_alloc (bl_refl _) _
  · rw [if_neg hx0]
    have hxb : (x == 0) = false := by simpa using hx0
    clear hx0
    have hx1 : 1 ≤ x := by have := beq_eq_false_iff_ne.mp hxb; omega
    go_enter Try.func69, Try.ntmps69
    go_wp2_with fail
    refine (by_any (T.mono (bl_alloc (bl_refl _) _)) V i hi (x - 1) (by omega) (by omega)).mono ?_
    rintro e w1 ⟨rfl, hb1⟩
    unfold encQ
    obtain ⟨hc1, hf1⟩ := bcell hb1
    simp only [World.size_alloc] at hc1 hf1
    go_wp2
    refine bodyPost_ret (v := encQ (byQ had part i (x - 1))) (by simp [results, Try.results69, go_sem, hc1, encQ]) rfl ⟨rfl, ?_⟩
    exact bl_set (bl_set (bl_trans (bl_alloc (bl_refl _) _) hb1) _ (Nat.le_refl _)) _ (Nat.le_refl _)

end Go.Proofs.Ytfchcikdcnloaaa
