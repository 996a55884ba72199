/- A range over the four directions of a cell: one law for bodies that write to some blocks alone. -/
import Derived.Test.YtlkoadcbolkhoaaState
import Derived.Test.YtlkoadcbolkhoaaMarksIn
set_option linter.all false
namespace Go.Proofs.Ytlkoadcbolkhoaa
open Go Go.RowKit Go.Proofs

/-- Some blocks alone have been turned. -/
def OnlyB (bs : List Nat) (W W' : World) : Prop := W.heap.size ≤ W'.heap.size ∧ ∀ i, i ∉ bs → i < W.heap.size → W'.heap[i]? = W.heap[i]?
theorem OnlyB.refl (bs : List Nat) (W : World) : OnlyB bs W W := ⟨Nat.le_refl _, fun _ _ _ => rfl⟩
theorem OnlyB.trans {bs : List Nat} {A B C : World} (h : OnlyB bs A B) (k : OnlyB bs B C) : OnlyB bs A C := ⟨Nat.le_trans h.1 k.1, fun i hi hl => (k.2 i hi (Nat.lt_of_lt_of_le hl h.1)).trans (h.2 i hi hl)⟩
theorem OnlyB.below {bs : List Nat} {W W' : World} (h : Below W.heap.size W W') : OnlyB bs W W' := ⟨h.size, fun i _ hl => h.block i hl⟩
theorem OnlyB.set {bs : List Nat} {W : World} {B o : Nat} {u : Value} (hB : B ∈ bs) : OnlyB bs W (W.setCell ⟨B, o, none⟩ u) := by
  refine ⟨by simp, fun i hi hl => ?_⟩
  obtain ⟨x, hx⟩ : ∃ x, W.heap[i]? = some x := ⟨W.heap[i], by simp [hl]⟩
  rw [hx]
  exact past_set (by rintro rfl; exact hi hB) hx
theorem OnlyB.put {bs : List Nat} {W : World} {B : Nat} {o : Obj} (hB : B ∈ bs) : OnlyB bs W (W.putObj B o) := by
  refine ⟨by simp, fun i hi hl => ?_⟩
  exact World.putObj_heap_other (by rintro rfl; exact hi hB)
theorem OnlyB.keep {bs : List Nat} {W W' : World} (h : OnlyB bs W W') {i : Nat} {o : Obj} (hi : i ∉ bs) (ho : W.heap[i]? = some o) : W'.heap[i]? = some o := (h.2 i hi (Array.getElem?_eq_some_iff.1 ho).1).trans ho
/-- What is said of a world while a range goes on. -/
structure Stable (base : Nat) (J : World → Prop) : Prop where
  mono : ∀ W W', J W → Below W.heap.size W W' → J W'
  put : ∀ (W : World) (r : Nat) (x o : Obj), J W → W.heap[r]? = some x → x.isCells = false → (∀ z, x ≠ .deferred z) → (∀ es clk, x ≠ .map es clk) → base ≤ r → J (W.putObj r o)
def aroundPost (l : Nat) (bs : List Nat) (J : World → Prop) (X : World → Prop) (W : World) : Exit → Act → World → Prop
  | .normal, _, W' => OnlyB bs W W' ∧ J W'
  | .ret, _, W' => OnlyB bs W W' ∧ X W'
  | _, _, _ => False
theorem wp_range_around {Q : Exit → Act → World → Prop} {a : Act} {w : World} {g : Operand} {ps : Array Tmp} {assign body : Code} {wd hg c : Int} {CB RB RP base : Nat} (bs : List Nat)
    (hg0 : a.eval g = .func (.func 95) #[] #[.pointer (some ⟨CB, 0, none⟩), .pointer (some ⟨RB, 0, none⟩)]) (hps : ps.size = 2)
    (h1 : 1 ≤ wd ∧ wd ≤ 8) (h2 : 1 ≤ hg ∧ hg ≤ 8) (hc : 0 ≤ c ∧ c < wd * hg)
    (hcb : w.heap[CB]? = some (.cells #[.int .i64 c] 3 (0, 0))) (hrb : w.heap[RB]? = some (.cells #[.pointer (some ⟨RP, 0, none⟩)] 87 (0, 0))) (hcn : CB ∉ bs) (hrn : RB ∉ bs)
    (J : Nat → World → Prop) (X : World → Prop) (SJ : ∀ k, Stable base (J k)) (SX : Stable base X) (hbase : base ≤ w.heap.size)
    (hRP : ∀ k W, J k W → W.cell? ⟨RP, 0, none⟩ = some (.int .i64 wd) ∧ W.cell? ⟨RP, 1, none⟩ = some (.int .i64 hg))
    (hbs : ∀ k W, J k W → ∀ b ∈ bs, ∃ o, W.heap[b]? = some o ∧ (∀ cs, o ≠ .cells cs 111 (0, 0)) ∧ (∀ r, o ≠ .loop r) ∧ ∀ z, o ≠ .deferred z)
    (h0 : J 0 w) (a₁ : Int → Int → Act)
    (hassign : ∀ (l : Nat) (d t : Int) (W : World) (K : Act → World → Prop), K (a₁ d t) W →
      assign.wpIn (Fence.wide.inRound l) 1 Try.prog (Exit.then K (fun _ _ _ => False)) { tmps := (ps.zip #[.int .i64 d, .int .i64 t]).foldl (fun t (p, v) => t.setIfInBounds p v) a.tmps, defers := [] } W)
    (hbody : ∀ (l k : Nat) (W : World), k < 4 → l = w.heap.size + 1 → J k W → (∃ r, W.heap[l]? = some (.loop r)) → W.heap[l - 1]? = some (.deferred (some [])) →
      body.wpIn (Fence.wide.inRound l) 1 Try.prog (aroundPost l bs (J (k + 1)) X W) (a₁ (k : Int) (nbr wd hg c (k : Int))) W)
    (hdone : ∀ (W : World), J 4 W → W.heap[w.heap.size]? = some (.deferred (some [])) → Q .normal { a with defers := { target := .collected w.heap.size, args := #[] } :: a.defers } W)
    (hstop : ∀ (W : World), X W → W.heap[w.heap.size]? = some (.deferred (some [])) → Code.ret.wp Try.prog Q { a with defers := { target := .collected w.heap.size, args := #[] } :: a.defers } W) :
    (Code.rangeFunc g ps assign body).wp Try.prog Q a w := by
  refine wp_rangeFunc_T 111 (gf := 95) (lb := #[.pointer (some ⟨CB, 0, none⟩), .pointer (some ⟨RB, 0, none⟩)]) hg0 enters95 (encs := fun p : Int × Int => #[.int .i64 p.1, .int .i64 p.2]) (fun _ => by rw [hps]; rfl)
    (fun pre W => ∃ k, k ≤ 4 ∧ pre = (aroundL wd hg c).take k ∧ J k W ∧ W.heap[CB]? = some (.cells #[.int .i64 c] 3 (0, 0)) ∧ W.heap[RB]? = some (.cells #[.pointer (some ⟨RP, 0, none⟩)] 87 (0, 0)))
    (fun pre W => ∃ k, k ≤ 4 ∧ pre = (aroundL wd hg c).take k ∧ J k W ∧ W.heap[CB]? = some (.cells #[.int .i64 c] 3 (0, 0)) ∧ W.heap[RB]? = some (.cells #[.pointer (some ⟨RP, 0, none⟩)] 87 (0, 0)))
    (fun co _ W => co = .ret ∧ X W)
    (fun xs => xs = aroundL wd hg c) (fun pre p => pre ++ [p] <+: aroundL wd hg c) (around_iter (RP := RP) h1 h2 hc ⟨?ibox, ?imono⟩ w)
    ?free ?free2 ?freex ?start (fun p => a₁ p.1 p.2) ?assign ?body ?done ?stop
  case ibox =>
    rintro pre W ⟨k, _, _, hj, b1, b2⟩
    exact ⟨b1, b2, hRP k W hj⟩
  case imono =>
    rintro pre W W' ⟨k, e1, e2, hj, b1, b2⟩ hb
    exact ⟨k, e1, e2, (SJ k).mono W W' hj hb, heap_mono b1 hb, heap_mono b2 hb⟩
  case free =>
    rintro l hl s W o ⟨k, e1, e2, hj, b1, b2⟩ ⟨r, hr⟩ ⟨r', rfl⟩
    exact ⟨k, e1, e2, (SJ k).put W l _ _ hj hr rfl (fun z e => by cases e) (fun _ _ e => by cases e) (by omega), heap_put b1 rfl hr rfl, heap_put b2 rfl hr rfl⟩
  case free2 =>
    rintro l hl s W o ⟨k, e1, e2, hj, b1, b2⟩ ⟨r, hr⟩ ⟨r', rfl⟩
    exact ⟨k, e1, e2, (SJ k).put W l _ _ hj hr rfl (fun z e => by cases e) (fun _ _ e => by cases e) (by omega), heap_put b1 rfl hr rfl, heap_put b2 rfl hr rfl⟩
  case freex =>
    rintro l co hl s W o ⟨rfl, hx⟩ ⟨r, hr⟩ ⟨r', rfl⟩
    exact ⟨rfl, SX.put W l _ _ hx hr rfl (fun z e => by cases e) (fun _ _ e => by cases e) (by omega)⟩
  case start =>
    intro W hW _
    exact ⟨0, by omega, rfl, (SJ 0).mono w W h0 hW, heap_mono hcb hW, heap_mono hrb hW⟩
  case assign =>
    rintro l ⟨d, t⟩ W K hK
    exact hassign l d t W K hK
  case body =>
    rintro l pre ⟨dk, tq⟩ W rfl ⟨k, hk4, rfl, hj, b1, b2⟩ hadm hr hd
    obtain ⟨hk, rfl, rfl⟩ := around_adm hk4 hadm
    refine Code.wpIn_mono (fun e a' W' h => ?_) (hbody _ k W hk rfl hj hr hd)
    have hpre := around_pre (wd := wd) (hg := hg) (c := c) hk
    obtain ⟨r, hr⟩ := hr
    have hnb : ∀ i (o : Obj), W.heap[i]? = some o → (∃ r, o = .loop r) ∨ (∃ z, o = .deferred z) → i ∉ bs := fun i o hi hx hmem => by
      obtain ⟨o', h1', h2', h3', h4'⟩ := hbs k W hj i hmem
      rw [hi] at h1'
      injection h1' with h1'
      subst h1'
      rcases hx with ⟨r, rfl⟩ | ⟨z, rfl⟩
      · exact h3' r rfl
      · exact h4' z rfl
    cases e with
    | normal =>
      obtain ⟨ho, hj'⟩ := h
      refine ⟨(ho.keep (hnb _ _ hr (.inl ⟨_, rfl⟩)) hr).trans hr.symm, (ho.keep (hnb _ _ hd (.inr ⟨_, rfl⟩)) hd).trans hd.symm, ⟨k + 1, hk, hpre.symm, hj', ho.keep hcn b1, ho.keep hrn b2⟩, fun i cs hi => ?_⟩
      refine ho.keep (fun hmem => ?_) hi
      obtain ⟨o', h1', h2', _⟩ := hbs k W hj i hmem
      rw [hi] at h1'
      injection h1' with h1'
      exact h2' cs h1'.symm
    | ret =>
      obtain ⟨ho, hx⟩ := h
      exact ⟨(ho.keep (hnb _ _ hr (.inl ⟨_, rfl⟩)) hr).trans hr.symm, (ho.keep (hnb _ _ hd (.inr ⟨_, rfl⟩)) hd).trans hd.symm, rfl, hx⟩
    | exit _ => exact h.elim
    | goto _ => exact h.elim
    | panic _ => exact h.elim
    | outgrown => exact h.elim
  case done =>
    rintro D xs W rfl rfl ⟨k, hk4, hpre, hj, _, _⟩ hdd
    have hk : k = 4 := by
      have := congrArg List.length hpre
      rw [List.length_take] at this
      simp [aroundL] at this
      omega
    subst hk
    exact hdone W hj hdd
  case stop =>
    rintro D co pre W rfl ⟨rfl, hx⟩ hdd
    exact hstop W hx hdd

theorem Ints.put {W : World} {r : Nat} {x o : Obj} {s : Value} {l : List Int} (h : Ints W s l) (hr : W.heap[r]? = some x) (hx : x.isCells = false) : Ints (W.putObj r o) s l := by
  rcases h with h | ⟨b, off, c, h1, h2, h3, h4⟩
  · exact .inl h
  · refine .inr ⟨b, off, c, h1, h2, by simpa using h3, fun i y hy => ?_⟩
    obtain ⟨o', ho, hcc⟩ := cells_of_cell (h4 i y hy)
    refine (World.cell?_of_block ?_).trans (h4 i y hy)
    refine World.putObj_heap_other ?_
    intro e
    simp only at e ho
    rw [e, hr] at ho
    injection ho with ho
    subst ho
    rw [hx] at hcc
    cases hcc
theorem RaftAt.put {W : World} {RP MB : Nat} {wd hg : Int} {sw sk : Value} {want keep : List Int} {m : Int} {u : Used} {r : Nat} {x o : Obj} (h : RaftAt W RP MB wd hg sw sk want keep m u) (hr : W.heap[r]? = some x) (hx : x.isCells = false) (hm : ∀ es clk, x ≠ .map es clk) : RaftAt (W.putObj r o) RP MB wd hg sw sk want keep m u := by
  refine ⟨heap_put h.box rfl hr hx, h.map.keep fun o' ho => ?_, h.want.put hr hx, h.keep.put hr hx⟩
  refine (World.putObj_heap_other ?_).trans ho
  rintro rfl
  obtain ⟨es, clk, h3, _⟩ := h.map
  rw [hr] at h3
  injection h3 with h3
  exact hm _ _ h3
end Go.Proofs.Ytlkoadcbolkhoaa
