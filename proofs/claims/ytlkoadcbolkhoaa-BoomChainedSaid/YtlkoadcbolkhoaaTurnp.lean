/- A chain from another corner on, and the other way round; its cells and its sticks (plain). -/
import Derived.Test.YtlkoadcbolkhoaaTurnch
import Derived.Test.YtlkoadcbolkhoaaSame
import Derived.Test.YtlkoadcbolkhoaaCutm
set_option linter.all false
namespace Go.Proofs.Ytlkoadcbolkhoaa

/-! ### Along lists -/
def endC : Corner → List Nat → Corner
  | p, [] => p
  | p, b :: l => endC (stepC p b) l
def tailC : Corner → List Nat → List Corner
  | _, [] => []
  | p, b :: l => stepC p b :: tailC (stepC p b) l
def headC : Corner → List Nat → List Corner
  | _, [] => []
  | p, b :: l => p :: headC (stepC p b) l
theorem endC_pos : ∀ (l : List Nat) (p : Corner), endC p l = posC p l l.length
  | [], p => rfl
  | b :: l, p => endC_pos l (stepC p b)
theorem endC_take : ∀ (l : List Nat) (p : Corner) (f : Nat), f ≤ l.length → endC p (l.take f) = posC p l f
  | l, p, 0, _ => by rw [List.take_zero, posC_zero]; rfl
  | [], p, f + 1, h => by simp at h
  | b :: l, p, f + 1, h => by
    rw [List.take_succ_cons]
    exact endC_take l (stepC p b) f (by simpa using h)
theorem endC_app : ∀ (a b : List Nat) (p : Corner), endC p (a ++ b) = endC (endC p a) b
  | [], _, _ => rfl
  | x :: a, b, p => endC_app a b (stepC p x)
theorem tailC_app : ∀ (a b : List Nat) (p : Corner), tailC p (a ++ b) = tailC p a ++ tailC (endC p a) b
  | [], _, _ => rfl
  | x :: a, b, p => by
    show stepC p x :: tailC (stepC p x) (a ++ b) = _
    rw [tailC_app a b]; rfl
theorem sumL_app (F : Corner → Corner → Int) : ∀ (a b : List Nat) (p : Corner), sumL F p (a ++ b) = sumL F p a + sumL F (endC p a) b
  | [], b, p => by show sumL F p b = 0 + sumL F p b; omega
  | x :: a, b, p => by
    show F p (stepC p x) + sumL F (stepC p x) (a ++ b) = F p (stepC p x) + sumL F (stepC p x) a + _
    rw [sumL_app F a b]
    show _ = _ + sumL F (endC (stepC p x) a) b
    omega
theorem tailC_at : ∀ (l : List Nat) (p : Corner) (i : Nat), i < l.length → (tailC p l)[i]? = some (posC p l (i + 1))
  | b :: l, p, 0, _ => by show some (stepC p b) = some (posC (stepC p b) l 0); rw [posC_zero]
  | b :: l, p, i + 1, h => tailC_at l (stepC p b) i (by simpa using h)
theorem tailC_len : ∀ (l : List Nat) (p : Corner), (tailC p l).length = l.length
  | [], _ => rfl
  | b :: l, p => by show (tailC (stepC p b) l).length + 1 = _; rw [tailC_len l]; rfl
theorem head_tail : ∀ (l : List Nat) (p : Corner), p :: tailC p l = headC p l ++ [endC p l]
  | [], _ => rfl
  | b :: l, p => by
    show p :: (stepC p b :: tailC (stepC p b) l) = p :: headC (stepC p b) l ++ [endC (stepC p b) l]
    rw [head_tail l (stepC p b)]; rfl
theorem head_perm {l : List Nat} {p : Corner} (h : endC p l = p) : (headC p l).Perm (tailC p l) := by
  have e := head_tail l p
  rw [h] at e
  have h1 : (p :: tailC p l).Perm (p :: headC p l) := by rw [e]; exact List.perm_append_comm
  exact (List.Perm.cons_inv h1).symm
/-- Which chain is valid. -/
theorem chain_iff {x y : Int} {s : ByteArray} : chainE x y s = 0 ↔ (4 ≤ s.size ∧ s.size ≤ 80) ∧ (bytesL s).all isLet = true ∧ inC (x, y) = true ∧ (∀ q ∈ tailC (x, y) (bytesL s), inC q = true) ∧ endC (x, y) (bytesL s) = (x, y) ∧ (tailC (x, y) (bytesL s)).Nodup := by
  have hln : (tailC (x, y) (bytesL s)).length = s.size := by rw [tailC_len, bytesL_len]
  have hat : ∀ i, i < s.size → (tailC (x, y) (bytesL s))[i]? = some (posC (x, y) (bytesL s) (i + 1)) := fun i hi => tailC_at _ _ i (by rw [bytesL_len]; exact hi)
  have hin : (∀ q ∈ tailC (x, y) (bytesL s), inC q = true) → inC (x, y) = true → ∀ k, k ≤ s.size → inC (posC (x, y) (bytesL s) k) = true := fun h h3 k hk => by
    by_cases h0 : k = 0
    · subst h0; rw [posC_zero]; exact h3
    · have := hat (k - 1) (by omega)
      rw [show k - 1 + 1 = k by omega] at this
      exact h _ (List.mem_of_getElem? this)
  have hnd : (tailC (x, y) (bytesL s)).Nodup ↔ ∀ i j, 1 ≤ i → i < j → j ≤ s.size → posC (x, y) (bytesL s) i ≠ posC (x, y) (bytesL s) j := by
    rw [List.Nodup, List.pairwise_iff_getElem]
    constructor
    · intro h i j h1 h2 h3
      have := h (i - 1) (j - 1) (by omega) (by omega) (by omega)
      have a := hat (i - 1) (by omega)
      have b := hat (j - 1) (by omega)
      rw [List.getElem?_eq_getElem (by omega)] at a b
      rw [show i - 1 + 1 = i by omega] at a
      rw [show j - 1 + 1 = j by omega] at b
      injection a with a
      injection b with b
      rwa [a, b] at this
    · intro h i j hi hj hij
      have a := hat i (by omega)
      have b := hat j (by omega)
      rw [List.getElem?_eq_getElem (by omega)] at a b
      injection a with a
      injection b with b
      rw [a, b]
      exact h (i + 1) (j + 1) (by omega) (by omega) (by omega)
  have hend : endC (x, y) (bytesL s) = posC (x, y) (bytesL s) s.size := by rw [endC_pos, bytesL_len]
  constructor
  · intro h
    obtain ⟨h1, h3, _, h2⟩ := chain_ok h
    obtain ⟨hl, hb⟩ := chain_loop h
    have hall : ∀ q ∈ tailC (x, y) (bytesL s), inC q = true := fun q hq => by
      obtain ⟨i, hi⟩ := List.getElem?_of_mem hq
      have hlt := (List.getElem?_eq_some_iff.1 hi).1
      rw [hat i (by omega)] at hi
      injection hi with hi
      have := hb (i + 1) (by omega)
      rw [hi] at this
      unfold inC
      simp; omega
    refine ⟨h1, h2, h3, hall, by rw [hend, hl.c, posC_zero], ?_⟩
    rw [hnd]
    intro i j a b c e
    rcases hl.idx (by omega) c e with k | k | k <;> omega
  · rintro ⟨h1, h2, h3, h4, h5, h6⟩
    rw [chainE_end h1 h2 h3 (hin h4 h3), if_pos ⟨by rw [← hend, h5], hnd.1 h6⟩]

/-! ### The other way round -/
def flipN (b : Nat) : Nat := if b = 78 then 83 else if b = 87 then 69 else if b = 83 then 78 else 87
def revN (l : List Nat) : List Nat := (l.map flipN).reverse
theorem flip_toNat (b : UInt8) : (flipU b).toNat = flipN b.toNat := by
  unfold flipU flipN
  have h78 : b = 78 ↔ b.toNat = 78 := ⟨fun h => by rw [h]; rfl, fun h => UInt8.toNat_inj.1 h⟩
  have h87 : b = 87 ↔ b.toNat = 87 := ⟨fun h => by rw [h]; rfl, fun h => UInt8.toNat_inj.1 h⟩
  have h83 : b = 83 ↔ b.toNat = 83 := ⟨fun h => by rw [h]; rfl, fun h => UInt8.toNat_inj.1 h⟩
  simp only [h78, h87, h83]
  (repeat' split) <;> rfl
theorem flip_let {b : Nat} : isLet (flipN b) = true := by
  unfold isLet flipN
  (repeat' split) <;> rfl
theorem flip_back {p : Corner} {b : Nat} (h : isLet b = true) : stepC (stepC p b) (flipN b) = p := by
  obtain ⟨x, y⟩ := p
  unfold isLet at h
  simp only [Bool.or_eq_true, decide_eq_true_eq] at h
  rcases h with ((rfl | rfl) | rfl) | rfl <;> simp [stepC, flipN] <;> omega
theorem rev_end : ∀ (l : List Nat) (p : Corner), l.all isLet = true → endC (endC p l) (revN l) = p
  | [], _, _ => rfl
  | b :: l, p, h => by
    rw [List.all_cons, Bool.and_eq_true] at h
    have e : revN (b :: l) = revN l ++ [flipN b] := by simp [revN]
    rw [e, endC_app]
    show stepC (endC (endC (stepC p b) l) (revN l)) (flipN b) = p
    rw [rev_end l (stepC p b) h.2]
    exact flip_back h.1
theorem rev_tail : ∀ (l : List Nat) (p : Corner), l.all isLet = true → tailC (endC p l) (revN l) = (headC p l).reverse
  | [], _, _ => rfl
  | b :: l, p, h => by
    rw [List.all_cons, Bool.and_eq_true] at h
    have e : revN (b :: l) = revN l ++ [flipN b] := by simp [revN]
    rw [e, tailC_app]
    show tailC (endC (stepC p b) l) (revN l) ++ [stepC (endC (endC (stepC p b) l) (revN l)) (flipN b)] = (p :: headC (stepC p b) l).reverse
    rw [rev_tail l (stepC p b) h.2, rev_end l (stepC p b) h.2, flip_back h.1, List.reverse_cons]
theorem rev_sum (F : Corner → Corner → Int) : ∀ (l : List Nat) (p : Corner), l.all isLet = true → sumL F (endC p l) (revN l) = sumL (fun p q => F q p) p l
  | [], _, _ => rfl
  | b :: l, p, h => by
    rw [List.all_cons, Bool.and_eq_true] at h
    have e : revN (b :: l) = revN l ++ [flipN b] := by simp [revN]
    rw [e, sumL_app]
    show sumL F (endC (stepC p b) l) (revN l) + (F (endC (endC (stepC p b) l) (revN l)) (stepC (endC (endC (stepC p b) l) (revN l)) (flipN b)) + 0) = F (stepC p b) p + sumL (fun p q => F q p) (stepC p b) l
    rw [rev_sum F l (stepC p b) h.2, rev_end l (stepC p b) h.2, flip_back h.1]
    omega

/-! ### The chain that is turned -/
section
variable {x y : Int} {l : List UInt8} {f : Nat}
theorem rot_nat (f : Nat) (l : List UInt8) : (rotU f l).map UInt8.toNat = (l.map UInt8.toNat).drop f ++ (l.map UInt8.toNat).take f := by
  unfold rotU; rw [List.map_append, List.map_drop, List.map_take]
theorem rev_nat (l : List UInt8) : (revU l).map UInt8.toNat = revN (l.map UInt8.toNat) := by
  unfold revU revN
  rw [List.map_reverse, List.map_map, List.map_map]
  congr 1
  exact List.map_congr_left fun b _ => flip_toNat b
/-- What a turned chain does. -/
structure TurnK (x y : Int) (l : List UInt8) (f : Nat) (back : Bool) : Prop where
  ok : chainE (posC (x, y) (l.map UInt8.toNat) f).1 (posC (x, y) (l.map UInt8.toNat) f).2 ⟨(turnU f back l).toArray⟩ = 0
  sum : ∀ F : Corner → Corner → Int, sumL F (posC (x, y) (l.map UInt8.toNat) f) ((turnU f back l).map UInt8.toNat) = sumL (fun p q => if back = true then F q p else F p q) (x, y) (l.map UInt8.toNat)
theorem turn_known (h : chainE x y ⟨l.toArray⟩ = 0) (hf : f < l.length) (back : Bool) : TurnK x y l f back := by
  have hbx := (chain_loop h).2
  rw [chain_iff] at h
  rw [bytesL_list] at h hbx
  obtain ⟨h1, h2, h3, h4, h5, h6⟩ := h
  have hsz : (ByteArray.mk l.toArray).size = l.length := rfl
  have hszr : ∀ m : List UInt8, (ByteArray.mk m.toArray).size = m.length := fun m => rfl
  rw [hsz] at h1 hbx
  obtain ⟨n, hn⟩ : ∃ n, l.map UInt8.toNat = n := ⟨_, rfl⟩
  have hnl : n.length = l.length := by rw [← hn]; simp
  have hrn := rot_nat f l
  rw [hn] at h2 h4 h5 h6 hrn hbx
  have hq : endC (x, y) (n.take f) = posC (x, y) n f := endC_take n (x, y) f (by omega)
  have hsplit : n.take f ++ n.drop f = n := List.take_append_drop f n
  have h5' : endC (posC (x, y) n f) (n.drop f) = (x, y) := by rw [← hq, ← endC_app, hsplit, h5]
  have htl : tailC (x, y) n = tailC (x, y) (n.take f) ++ tailC (posC (x, y) n f) (n.drop f) := by rw [← hq, ← tailC_app, hsplit]
  have htr : tailC (posC (x, y) n f) (n.drop f ++ n.take f) = tailC (posC (x, y) n f) (n.drop f) ++ tailC (x, y) (n.take f) := by rw [tailC_app, h5']
  have hper : (tailC (posC (x, y) n f) (n.drop f ++ n.take f)).Perm (tailC (x, y) n) := by rw [htr, htl]; exact List.perm_append_comm
  have hendr : endC (posC (x, y) n f) (n.drop f ++ n.take f) = posC (x, y) n f := by rw [endC_app, h5', hq]
  have hallr : (n.drop f ++ n.take f).all isLet = true := by
    rw [List.all_append, Bool.and_comm, ← List.all_append, hsplit, h2]
  have hinq : inC (posC (x, y) n f) = true := by
    have := hbx f (by omega)
    unfold inC
    simp; omega
  have hsumr : ∀ F : Corner → Corner → Int, sumL F (posC (x, y) n f) (n.drop f ++ n.take f) = sumL F (x, y) n := fun F => by
    rw [sumL_app, h5']
    conv => rhs; rw [← hsplit, sumL_app, hq]
    omega
  have hrl : (rotU f l).length = l.length := by unfold rotU; simp; omega
  cases back with
  | false =>
    have e : turnU f false l = rotU f l := by unfold turnU; rw [if_neg (by simp)]
    refine ⟨?_, fun F => ?_⟩
    · rw [e, hn, chain_iff, bytesL_list, hrn, hszr, hrl]
      exact ⟨h1, hallr, hinq, fun q hq' => h4 q (hper.mem_iff.1 hq'), hendr, hper.nodup_iff.2 h6⟩
    · rw [e, hn, hrn, hsumr]; simp
  | true =>
    have e : turnU f true l = revU (rotU f l) := by unfold turnU; rw [if_pos rfl]
    have hvl : (revU (rotU f l)).length = l.length := by unfold revU; rw [List.length_reverse, List.length_map, hrl]
    have hvn : (revU (rotU f l)).map UInt8.toNat = revN (n.drop f ++ n.take f) := by rw [rev_nat, hrn]
    generalize n.drop f ++ n.take f = r at *
    have ht := rev_tail r (posC (x, y) n f) hallr
    have he := rev_end r (posC (x, y) n f) hallr
    rw [hendr] at ht he
    have hp2 : (tailC (posC (x, y) n f) (revN r)).Perm (tailC (x, y) n) := by
      rw [ht]
      exact (List.reverse_perm _).trans ((head_perm hendr).trans hper)
    refine ⟨?_, fun F => ?_⟩
    · rw [e, hn, chain_iff, bytesL_list, hvn, hszr, hvl]
      refine ⟨h1, ?_, hinq, fun q hq' => h4 q (hp2.mem_iff.1 hq'), he, hp2.nodup_iff.2 h6⟩
      unfold revN
      rw [List.all_reverse, List.all_map, List.all_eq_true]
      exact fun b _ => flip_let
    · rw [e, hn, hvn]
      have := rev_sum F r (posC (x, y) n f) hallr
      rw [hendr] at this
      rw [this, hsumr]
      simp
end
end Go.Proofs.Ytlkoadcbolkhoaa
