/- What is in both of two waters, and what is in one of them; one more cell in a list (plain). -/
import Derived.Test.YtlkoadcbolkhoaaLawd
set_option linter.all false
namespace Go.Proofs.Ytlkoadcbolkhoaa

section
variable {wd hg : Int} {want keep : List Int}
def andX (X Y : Int → Bool) (c : Int) : Bool := X c && Y c
def orX (X Y : Int → Bool) (c : Int) : Bool := X c || Y c
theorem submod (X Y : Int → Bool) : cutX wd hg (andX X Y) + cutX wd hg (orX X Y) ≤ cutX wd hg X + cutX wd hg Y := by
  unfold cutX
  rw [← cellS_add, ← cellS_add]
  refine cellS_le fun c _ _ => ?_
  have side : ∀ d, (if andX X Y c = true then (if outS wd hg (andX X Y) c d = true then (1 : Int) else 0) else 0) + (if orX X Y c = true then (if outS wd hg (orX X Y) c d = true then 1 else 0) else 0) ≤
      (if X c = true then (if outS wd hg X c d = true then 1 else 0) else 0) + (if Y c = true then (if outS wd hg Y c d = true then 1 else 0) else 0) := fun d => by
    unfold outS andX orX
    cases decide (nbr wd hg c d < 0) <;> cases X c <;> cases Y c <;> cases X (nbr wd hg c d) <;> cases Y (nbr wd hg c d) <;> decide
  have s0 := side 0; have s1 := side 1; have s2 := side 2; have s3 := side 3
  unfold dsum
  dsimp only
  cases h1 : andX X Y c <;> cases h2 : orX X Y c <;> cases h3 : X c <;> cases h4 : Y c <;> simp only [h1, h2, h3, h4, if_true, if_false, Bool.false_eq_true] at s0 s1 s2 s3 ⊢ <;> omega
theorem enclX_and {X Y : Int → Bool} (h : enclX want keep X) (k : enclX want keep Y) : enclX want keep (andX X Y) := ⟨fun c hc => by unfold andX; rw [h.1 c hc, k.1 c hc]; rfl, fun c hc => by unfold andX; rw [h.2 c hc]; rfl⟩
theorem enclX_or {X Y : Int → Bool} (h : enclX want keep X) (k : enclX want keep Y) : enclX want keep (orX X Y) := ⟨fun c hc => by unfold orX; rw [h.1 c hc]; rfl, fun c hc => by unfold orX; rw [h.2 c hc, k.2 c hc]; rfl⟩

/-! ### One more -/
theorem BestW.more {k2 w1 : List Int} {c : Int} {m m1 m2 : Int} {S L S1 L1 S2 L2 : Int → Bool} (b : BestW wd hg want keep m S L) (b1 : BestW wd hg w1 keep m1 S1 L1) (b2 : BestW wd hg want k2 m2 S2 L2)
    (h1 : ∀ x, x ∈ w1 ↔ x = c ∨ x ∈ want) (h2 : ∀ x, x ∈ k2 ↔ x = c ∨ x ∈ keep) :
    m ≤ m1 ∧ m ≤ m2 ∧ min m1 m2 = m ∧ (∀ x, inP wd hg x → S x = true → S1 x = true) ∧ (∀ x, inP wd hg x → L x = true → L1 x = true) ∧ (∀ x, inP wd hg x → S2 x = true → S x = true) ∧ (∀ x, inP wd hg x → L2 x = true → L x = true) := by
  have up1 : ∀ X, enclX w1 keep X → enclX want keep X := fun X h => ⟨fun x hx => h.1 x ((h1 x).2 (.inr hx)), h.2⟩
  have up2 : ∀ X, enclX want k2 X → enclX want keep X := fun X h => ⟨h.1, fun x hx => h.2 x ((h2 x).2 (.inr hx))⟩
  have dn1 : ∀ X, enclX want keep X → X c = true → enclX w1 keep X := fun X h k => ⟨fun x hx => by rcases (h1 x).1 hx with rfl | e; exact k; exact h.1 x e, h.2⟩
  have dn2 : ∀ X, enclX want keep X → X c = false → enclX want k2 X := fun X h k => ⟨h.1, fun x hx => by rcases (h2 x).1 hx with rfl | e; exact k; exact h.2 x e⟩
  have c1 : ∀ X, enclX w1 keep X → X c = true := fun X h => h.1 c ((h1 c).2 (.inl rfl))
  have c2 : ∀ X, enclX want k2 X → X c = false := fun X h => h.2 c ((h2 c).2 (.inl rfl))
  have m1' : m ≤ m1 := by rw [← b1.ms]; exact b.least _ (up1 _ b1.s)
  have m2' : m ≤ m2 := by rw [← b2.ms]; exact b.least _ (up2 _ b2.s)
  refine ⟨m1', m2', ?_, fun x hx hs => ?_, fun x hx hs => ?_, fun x hx hs => ?_, fun x hx hs => ?_⟩
  · cases hs : S c with
    | true => have := b1.least _ (dn1 _ b.s hs); rw [b.ms] at this; omega
    | false => have := b2.least _ (dn2 _ b.s hs); rw [b.ms] at this; omega
  · have hsub := submod (wd := wd) (hg := hg) S S1
    have hor := b1.least (orX S S1) (dn1 _ (enclX_or b.s (up1 _ b1.s)) (by unfold orX; rw [c1 _ b1.s, Bool.or_true]))
    have han := enclX_and b.s (up1 _ b1.s)
    have hl := b.least _ han
    rw [b.ms, b1.ms] at hsub
    have := b.lo _ han (by omega) x hx hs
    unfold andX at this
    rw [Bool.and_eq_true] at this
    exact this.2
  · have hsub := submod (wd := wd) (hg := hg) L L1
    have hor := dn1 _ (enclX_or b.l (up1 _ b1.l)) (by unfold orX; rw [c1 _ b1.l, Bool.or_true])
    have hl := b1.least _ hor
    have han := b.least _ (enclX_and b.l (up1 _ b1.l))
    rw [b.ml, b1.ml] at hsub
    exact b1.hi _ hor (by omega) x hx (by unfold orX; rw [hs]; rfl)
  · have hsub := submod (wd := wd) (hg := hg) S S2
    have han := dn2 _ (enclX_and b.s (up2 _ b2.s)) (by unfold andX; rw [c2 _ b2.s, Bool.and_false])
    have hl := b2.least _ han
    have hor := b.least _ (enclX_or b.s (up2 _ b2.s))
    rw [b.ms, b2.ms] at hsub
    have := b2.lo _ han (by omega) x hx hs
    unfold andX at this
    rw [Bool.and_eq_true] at this
    exact this.1
  · have hsub := submod (wd := wd) (hg := hg) L L2
    have hor := enclX_or b.l (up2 _ b2.l)
    have hl := b.least _ hor
    have han := b2.least _ (dn2 _ (enclX_and b.l (up2 _ b2.l)) (by unfold andX; rw [c2 _ b2.l, Bool.and_false]))
    rw [b.ml, b2.ml] at hsub
    exact b.hi _ hor (by omega) x hx (by unfold orX; rw [hs, Bool.or_true])

/-! ### One more number in a list -/
theorem with_mem {n : Int} : ∀ (l : List Int) (x : Int), x ∈ withL l n ↔ x = n ∨ x ∈ l
  | [], x => by simp [withL, withF]
  | y :: l, x => by
    have ih := with_mem (n := n) l x
    unfold withL at ih ⊢
    unfold withF
    split
    · rw [withF_true]; simp
    · rw [List.mem_cons, ih, List.mem_cons]
      constructor
      · rintro (h | h | h) <;> simp [h]
      · rintro (h | h | h) <;> simp [h]
theorem with_list {N n : Int} : ∀ {l : List Int} {k : Int}, listB N k l = true → k ≤ n → n < N → n ∉ l → listB N k (withL l n) = true
  | [], k, _, h1, h2, _ => by
    show listB N k [n] = true
    unfold listB
    rw [decide_eq_true h1, decide_eq_true (show n ≤ N - 1 by omega)]; rfl
  | y :: l, k, h, h1, h2, hm => by
    simp only [listB, Bool.and_eq_true, decide_eq_true_eq] at h
    unfold withL withF
    split
    · next hlt =>
      rw [withF_true]
      unfold listB
      rw [decide_eq_true h1, decide_eq_true (show n ≤ N - 1 by omega)]
      unfold listB
      rw [decide_eq_true (show n + 1 ≤ y by omega), decide_eq_true h.1.2, h.2]; rfl
    · next hlt =>
      have hne : n ≠ y := fun e => hm (by simp [e])
      have := with_list (n := n) h.2 (by omega) h2 (fun e => hm (List.mem_cons_of_mem _ e))
      unfold withL at this
      unfold listB
      rw [decide_eq_true h.1.1, decide_eq_true h.1.2, this]; rfl
theorem pond_of {want keep : List Int} (hB : Board wd hg) (hw : listB (wd * hg) 0 want = true) (hk : listB (wd * hg) 0 keep = true) (hd : ∀ x, x ∈ want → x ∉ keep) : pondE wd hg want keep = 0 := by
  unfold pondE
  have h1 := hB.w
  have h2 := hB.h
  rw [if_neg (by omega), if_neg (by simp [hw, hk]), if_neg]
  simp only [List.any_eq_true, not_exists, not_and]
  intro x hx hc
  exact hd x hx (List.contains_iff_mem.1 hc)
theorem free_mem {c : Int} (hB : Board wd hg) (h : c ∈ freeL wd hg want keep) : inP wd hg c ∧ c ∉ want ∧ c ∉ keep := by
  obtain ⟨h1, h2⟩ := pick_mem h
  have hn := hB.nat
  unfold freeP at h2
  rw [Bool.and_eq_true, Bool.not_eq_true', Bool.not_eq_true'] at h2
  refine ⟨⟨h1.1, by omega⟩, fun k => ?_, fun k => ?_⟩
  · have := List.contains_iff_mem.2 k
    rw [this] at h2
    exact absurd h2.1 (by simp)
  · have := List.contains_iff_mem.2 k
    rw [this] at h2
    exact absurd h2.2 (by simp)
theorem all_in {a b : List Int} (ha : listB (wd * hg) 0 a = true) (h : ∀ x, inP wd hg x → a.contains x = true → b.contains x = true) : (a.all fun c => b.contains c) = true := by
  rw [List.all_eq_true]
  intro x hx
  exact h x ⟨(listB_in ha x hx).1, (listB_in ha x hx).2⟩ (List.contains_iff_mem.2 hx)
end
end Go.Proofs.Ytlkoadcbolkhoaa
