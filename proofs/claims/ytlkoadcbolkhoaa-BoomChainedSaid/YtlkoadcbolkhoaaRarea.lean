/- The reference's Area and Enclosed: the walks. -/
import Derived.Test.YtlkoadcbolkhoaaRchkc
set_option linter.all false
namespace Go.Proofs.Ytlkoadcbolkhoaa
open Go Go.RowKit Go.Proofs
attribute [local go_sem] cell_grow frozen_grow

def areaQ (P : Nat → Corner) (n : Nat) : Int := sumN (fun i => (P (i + 1)).1 * ((P (i + 1)).2 - (P i).2)) n
def areaR (x y : Int) (s : ByteArray) : Int := if chainE x y s = 0 then areaQ (posC (x, y) (bytesL s)) s.size else 0
theorem mul_bd {a b : Int} (h : 0 ≤ a ∧ a ≤ 8) (k : -8 ≤ b ∧ b ≤ 8) : -64 ≤ a * b ∧ a * b ≤ 64 := by
  obtain ⟨n, rfl⟩ : ∃ n : Nat, a = n := ⟨a.toNat, by omega⟩
  have : n ≤ 8 := by omega
  match n, this with
  | 0, _ => simp
  | 1, _ => simp; omega
  | 2, _ => simp; omega
  | 3, _ => simp; omega
  | 4, _ => simp; omega
  | 5, _ => simp; omega
  | 6, _ => simp; omega
  | 7, _ => simp; omega
  | 8, _ => simp; omega
theorem areaQ_bd {P : Nat → Corner} {n : Nat} (h : InBox P n 0 8 0 8) : ∀ {k : Nat}, k ≤ n → -(64 * k : Int) ≤ areaQ P k ∧ areaQ P k ≤ 64 * k
  | 0, _ => by simp [areaQ, sumN]
  | k + 1, hk => by
    have ih := areaQ_bd h (k := k) (by omega)
    have h1 := h (k + 1) hk
    have h0 := h k (by omega)
    have hm := mul_bd h1.1 (show -8 ≤ (P (k + 1)).2 - (P k).2 ∧ (P (k + 1)).2 - (P k).2 ≤ 8 by omega)
    have e : areaQ P (k + 1) = areaQ P k + (P (k + 1)).1 * ((P (k + 1)).2 - (P k).2) := rfl
    rw [e]
    omega
theorem max_run (a b : Int) (ty : TypeId) (W : World) : (Builtin.max_ #[3, 3] ty #[.int .i64 a, .int .i64 b]).run Try.prog W = .ok (.int .i64 (max a b)) W := by
  have h : (Builtin.max2 (.int .i64 a) (.int .i64 b)).run Try.prog W = .ok (.int .i64 (max a b)) W := by
    unfold Builtin.max2
    simp only
    by_cases hab : a ≤ b
    · rw [Int.max_eq_right hab]; simp; try omega
    · rw [Int.max_eq_left (by omega)]; simp; try omega
  simp [Builtin.max_, go_sem, h]

set_option maxRecDepth 100000 in
set_option maxHeartbeats 8000000 in
theorem rarea_any (x y : Int) (s : ByteArray) (w : World) (hs : s.size ≤ 1000) :
    Calls Try.prog 40 #[.agg #[.int .i64 x, .int .i64 y, .string s]] w fun e w' => e = .returned (.tuple #[.int .i64 (max (areaR x y s) (-areaR x y s)), .bool (decide (0 < areaR x y s)), .int .i64 (chainE x y s)]) ∧ Below w.heap.size w w' := by
  have HK := hid (World.alloc_heap_new w (.cells #[.int .i64 x, .int .i64 y, .string s] 45))
  have HB := hid (bl_alloc (bl_refl w) (.cells #[.int .i64 x, .int .i64 y, .string s] 45))
  have HSL := hid (bytesL_len s)
  obtain ⟨E, hE⟩ : ∃ E, chainE x y s = E := ⟨_, rfl⟩
  have HE := hid hE
  obtain ⟨R, hR⟩ : ∃ R, areaR x y s = R := ⟨_, rfl⟩
  have HR := hid hR
  rw [hE, hR]
  clear hE hR
  go_enter Try.func40, Try.ntmps40
  go_upto_region 1 with (fail)
  obtain ⟨w0, hw0⟩ : ∃ w0, w.alloc (.cells #[.int .i64 x, .int .i64 y, .string s] 45) = w0 := ⟨_, rfl⟩
  obtain ⟨X, hX⟩ : ∃ X, w.heap.size = X := ⟨_, rfl⟩
  rw [hX] at HK ⊢
  rw [hw0] at HB HK ⊢
  clear hw0 hX
  have q0 : w0.cell? ⟨X, 0, none⟩ = some (.int .i64 x) := cell_of_heap HK.out
  have q1 : w0.cell? ⟨X, 1, none⟩ = some (.int .i64 y) := cell_of_heap HK.out
  have q2 : w0.cell? ⟨X, 2, none⟩ = some (.string s) := cell_of_heap HK.out
  have ql := (Array.getElem?_eq_some_iff.1 HK.out).1
  have hcall := rchain_any x y s w0 hs
  rw [HE.out] at hcall
  go_wp2_with fail
  refine hcall.mono ?_
  rintro e w1 ⟨rfl, hb1⟩
  have HK1 := hid (heap_mono HK.out hb1)
  have HB1 := hid (bl_trans HB.out hb1)
  clear hcall hb1 HK HB q0 q1 q2 ql
  have q0 : w1.cell? ⟨X, 0, none⟩ = some (.int .i64 x) := cell_of_heap HK1.out
  have q1 : w1.cell? ⟨X, 1, none⟩ = some (.int .i64 y) := cell_of_heap HK1.out
  have q2 : w1.cell? ⟨X, 2, none⟩ = some (.string s) := cell_of_heap HK1.out
  have ql := (Array.getElem?_eq_some_iff.1 HK1.out).1
  by_cases hp : E = 0
  case neg =>
    have t0 : (E == 0) = false := beq_eq_false_iff_ne.2 hp
    have hr : R = 0 := by rw [← HR.out]; unfold areaR; rw [HE.out, if_neg hp]
    subst hr
    clear hp
    have hcall := rchain_any x y s w1 hs
    rw [HE.out] at hcall
    go_wp2_with fail
    refine hcall.mono ?_
    rintro e w2 ⟨rfl, hb2⟩
    have HB2 := hid (bl_trans HB1.out hb2)
    clear hcall hb2 q0 q1 q2 ql
    go_wp2
    refine bodyPost_ret (v := .tuple #[.int .i64 (max 0 (-0)), .bool (decide ((0 : Int) < 0)), .int .i64 E]) (by simp [results, Try.results40, go_sem]) rfl ⟨rfl, HB2.out⟩
  subst hp
  obtain ⟨hcs, hxy, _, _⟩ := chain_ok HE.out
  have hxy := inC_bd hxy
  simp only at hxy
  have HLP := hid (chain_loop HE.out)
  have t0 : ((0 : Int) == 0) = true := rfl
  have hcall := corners_any x y s w1 hs hxy.1 hxy.2
  clear hxy
  go_wp2_with fail
  refine hcall.mono ?_
  rintro e w2 ⟨⟨v, rfl, hv⟩, hb2⟩
  have HB2 := hid (bl_trans HB1.out hb2)
  clear hcall hb2 q0 q1 q2 ql t0 HK1 HB1
  have HLn := hid (show (cornL (x, y) (bytesL s)).length = s.size + 1 by rw [cornL_len, HSL.out])
  have HAt := hid (show ∀ i, i ≤ s.size → (cornL (x, y) (bytesL s))[i]? = some (posC (x, y) (bytesL s) i) from fun i hi => cornL_at _ _ i (by rw [HSL.out]; exact hi))
  obtain ⟨L, hL⟩ : ∃ L, cornL (x, y) (bytesL s) = L := ⟨_, rfl⟩
  obtain ⟨P, hP⟩ : ∃ P, posC (x, y) (bytesL s) = P := ⟨_, rfl⟩
  have HP := hid hP
  rw [hL, hP] at HAt
  rw [hL] at HLn hv
  rw [hP] at HLP
  obtain ⟨A, c, hvs⟩ := hv.slice
  subst hvs
  have HV := hid hv
  have hln := HLn.out
  rw [hln] at HV ⊢
  have hr := HR.out
  unfold areaR at hr
  rw [if_pos HE.out, hP] at hr
  have HRR := hid hr
  have hs4 := hcs.1
  have hs80 := hcs.2
  clear hv hL hP hln hr hcs
  go_wp2
  go_loopw [6, 7] (fun a p wr => ∃ k : Nat, k ≤ s.size ∧ p = .int .i64 ((k + 1 : Nat) : Int) ∧ a = .int .i64 (areaQ P k) ∧ Below w2.heap.size w2 wr) (fun _ p _ => s.size + 1 - (intOf p).toNat)
  case atStart => exact ⟨0, Nat.zero_le _, rfl, rfl, bl_refl _⟩
  case round =>
  obtain ⟨k, hk, rfl, rfl, hB⟩ := hrel
  have HBr := hid hB
  have hin := HLP.out.2
  have habs := areaQ_bd hin hk
  obtain ⟨sm, hsm⟩ : ∃ a, areaQ P k = a := ⟨_, rfl⟩
  have HSM := hid hsm
  rw [hsm] at habs ⊢
  by_cases hlt : k < s.size
  · obtain ⟨⟨p1, p2⟩, hpk⟩ : ∃ q : Corner, P (k + 1) = q := ⟨_, rfl⟩
    obtain ⟨⟨r1, r2⟩, hpj⟩ : ∃ q : Corner, P k = q := ⟨_, rfl⟩
    have i1 := hin (k + 1) (by omega)
    have i0 := hin k (by omega)
    have hv9 := HV.out.mono hB
    have hat := HAt.out (k + 1) (by omega)
    obtain ⟨b1, o1, hA1, hnn, hlc, hbb, c0, c1⟩ := hv9.at hat
    subst hA1
    have hat := HAt.out k (by omega)
    obtain ⟨b2, o2, hA2, hnn2, hlc2, hbb2, d0, d1⟩ := hv9.at hat
    injection hA2 with hA2
    injection hA2 with e1 e2
    subst e1 e2
    rw [hpk] at c0 c1 i1
    rw [hpj] at d0 d1 i0
    simp only at c0 c1 d0 d1 i1 i0
    have hst : areaQ P (k + 1) = sm + p1 * (p2 - r2) := by rw [← hsm]; show areaQ P k + (P (k + 1)).1 * ((P (k + 1)).2 - (P k).2) = _; rw [hpk, hpj]
    have HST := hid hst
    have hm := mul_bd i1.1 (show -8 ≤ p2 - r2 ∧ p2 - r2 ≤ 8 by omega)
    obtain ⟨I, hI⟩ : ∃ I : Int, ((k + 1 : Nat) : Int) = I := ⟨_, rfl⟩
    have hI1 : I - 1 = (k : Int) := by omega
    have HII := hid hI
    have w1' : IntKind.i64.wrap (p2 - r2) = p2 - r2 := IntWalk.i64_in _ (by omega)
    have w2' : IntKind.i64.wrap (p1 * (p2 - r2)) = p1 * (p2 - r2) := IntWalk.i64_in _ (by omega)
    have w3' : IntKind.i64.wrap (sm + p1 * (p2 - r2)) = sm + p1 * (p2 - r2) := IntWalk.i64_in _ (by omega)
    have t1 : decide (((k + 1 : Nat) : Int) < ((s.size + 1 : Nat) : Int)) = true := decide_eq_true (by omega)
    have hkI : ((k + 1 : Nat) : Int) < ((s.size + 1 : Nat) : Int) := by omega
    have hkJ : (k : Int) < ((s.size + 1 : Nat) : Int) := by omega
    have wk : IntKind.i64.wrap (((k + 1 : Nat) : Int) - 1) = (k : Int) := by rw [show ((k + 1 : Nat) : Int) - 1 = (k : Int) by omega]; exact IntWalk.i64_in _ (by omega)
    clear hv9 hat hnn hlc hnn2 hlc2 hbb2 hsm hB hin hst hm habs hI hI1 i1 i0 hpk hpj
    go_wp2
    refine wp_region_below (by kernel_rfl) (by kernel_rfl) ?_
    repeat (first | go_big_quiet_step (fail) | quiet_step (fail))
    refine wpQuiet_nil ?_
    intro w5 hb5
    have HB5 := hid (bl_trans HBr.out hb5)
    clear hb5 c0 c1 d0 d1 hbb w1' w2' w3' t1 hkI hkJ wk
    go_wp2
    go_roundw
    case rel => exact ⟨k + 1, by omega, by go_num, by rw [HST.out], HB5.out⟩
    case measure => simp [intOf]; omega
  · obtain rfl : k = s.size := by omega
    have t1 : decide (((s.size + 1 : Nat) : Int) < ((s.size + 1 : Nat) : Int)) = false := decide_eq_false (by omega)
    have hr : R = sm := by rw [← HRR.out, ← hsm]
    subst hr
    have HB5 := hid (bl_trans HB2.out hB)
    have wn : IntKind.i64.wrap (-R) = -R := IntWalk.i64_in _ (by omega)
    have hmx := max_run R (-R) 3
    clear hsm hB hin habs hlt
    go_wp2
    refine bodyPost_ret (v := .tuple #[.int .i64 (max R (-R)), .bool (decide (0 < R)), .int .i64 0]) (by simp [results, Try.results40, go_sem]) rfl ⟨rfl, HB5.out⟩

def crossQ (P : Nat → Corner) (x y : Int) (n : Nat) : Int := sumN (fun i => if (P (i + 1)).1 = (P i).1 ∧ x < (P (i + 1)).1 ∧ min (P (i + 1)).2 (P i).2 = y then 1 else 0) n
theorem crossQ_bd {P : Nat → Corner} {x y : Int} : ∀ {n : Nat}, 0 ≤ crossQ P x y n ∧ crossQ P x y n ≤ n
  | 0 => by simp [crossQ, sumN]
  | n + 1 => by
    have ih := crossQ_bd (P := P) (x := x) (y := y) (n := n)
    have e : crossQ P x y (n + 1) = crossQ P x y n + (if (P (n + 1)).1 = (P n).1 ∧ x < (P (n + 1)).1 ∧ min (P (n + 1)).2 (P n).2 = y then 1 else 0) := rfl
    rw [e]
    split <;> omega
def enclP (P : Nat → Corner) (n : Nat) (c : Int) : Bool := decide (crossQ P (c % 8) (c / 8) n % 2 = 1)
def enclR (x y : Int) (s : ByteArray) : List Int := if chainE x y s = 0 then pickC (enclP (posC (x, y) (bytesL s)) s.size) 64 else []

set_option maxRecDepth 100000 in
set_option maxHeartbeats 8000000 in
theorem rencld_any (x y : Int) (s : ByteArray) (w : World) (hs : s.size ≤ 1000) :
    Calls Try.prog 38 #[.agg #[.int .i64 x, .int .i64 y, .string s]] w fun e w' => (∃ v, e = .returned (.tuple #[v, .int .i64 (chainE x y s)]) ∧ Ints w' v (enclR x y s)) ∧ Below w.heap.size w w' := by
  obtain ⟨i3, hi3, hi30, hi31, hi32⟩ := info_parts info3
  have HK := hid (World.alloc_heap_new w (.cells #[.int .i64 x, .int .i64 y, .string s] 45))
  have HB := hid (bl_alloc (bl_refl w) (.cells #[.int .i64 x, .int .i64 y, .string s] 45))
  have HSL := hid (bytesL_len s)
  obtain ⟨E, hE⟩ : ∃ E, chainE x y s = E := ⟨_, rfl⟩
  have HE := hid hE
  obtain ⟨R, hR⟩ : ∃ R, enclR x y s = R := ⟨_, rfl⟩
  have HR := hid hR
  rw [hE, hR]
  clear hE hR
  go_enter Try.func38, Try.ntmps38
  go_upto_region 1 with (fail)
  obtain ⟨w0, hw0⟩ : ∃ w0, w.alloc (.cells #[.int .i64 x, .int .i64 y, .string s] 45) = w0 := ⟨_, rfl⟩
  obtain ⟨X, hX⟩ : ∃ X, w.heap.size = X := ⟨_, rfl⟩
  rw [hX] at HK ⊢
  rw [hw0] at HB HK ⊢
  clear hw0 hX
  have q0 : w0.cell? ⟨X, 0, none⟩ = some (.int .i64 x) := cell_of_heap HK.out
  have q1 : w0.cell? ⟨X, 1, none⟩ = some (.int .i64 y) := cell_of_heap HK.out
  have q2 : w0.cell? ⟨X, 2, none⟩ = some (.string s) := cell_of_heap HK.out
  have ql := (Array.getElem?_eq_some_iff.1 HK.out).1
  have hcall := rchain_any x y s w0 hs
  rw [HE.out] at hcall
  go_wp2_with fail
  refine hcall.mono ?_
  rintro e w1 ⟨rfl, hb1⟩
  have HK1 := hid (heap_mono HK.out hb1)
  have HB1 := hid (bl_trans HB.out hb1)
  clear hcall hb1 HK HB q0 q1 q2 ql
  have q0 : w1.cell? ⟨X, 0, none⟩ = some (.int .i64 x) := cell_of_heap HK1.out
  have q1 : w1.cell? ⟨X, 1, none⟩ = some (.int .i64 y) := cell_of_heap HK1.out
  have q2 : w1.cell? ⟨X, 2, none⟩ = some (.string s) := cell_of_heap HK1.out
  have ql := (Array.getElem?_eq_some_iff.1 HK1.out).1
  by_cases hp : E = 0
  case neg =>
    have t0 : (E == 0) = false := beq_eq_false_iff_ne.2 hp
    have hr : R = [] := by rw [← HR.out]; unfold enclR; rw [HE.out, if_neg hp]
    subst hr
    clear hp
    have hcall := rchain_any x y s w1 hs
    rw [HE.out] at hcall
    go_wp2_with fail
    refine hcall.mono ?_
    rintro e w2 ⟨rfl, hb2⟩
    have HB2 := hid (bl_trans HB1.out hb2)
    clear hcall hb2 q0 q1 q2 ql
    go_wp2
    go_ret2
    exact ⟨⟨_, rfl, .inl ⟨rfl, rfl⟩⟩, HB2.out⟩
  subst hp
  obtain ⟨hcs, hxy, _, _⟩ := chain_ok HE.out
  have hxy := inC_bd hxy
  simp only at hxy
  have HLP := hid (chain_loop HE.out)
  have t0 : ((0 : Int) == 0) = true := rfl
  have hcall := corners_any x y s w1 hs hxy.1 hxy.2
  clear hxy
  go_wp2_with fail
  refine hcall.mono ?_
  rintro e w2 ⟨⟨v, rfl, hv⟩, hb2⟩
  have HB2 := hid (bl_trans HB1.out hb2)
  clear hcall hb2 q0 q1 q2 ql t0 HK1 HB1
  have HLn := hid (show (cornL (x, y) (bytesL s)).length = s.size + 1 by rw [cornL_len, HSL.out])
  have HAt := hid (show ∀ i, i ≤ s.size → (cornL (x, y) (bytesL s))[i]? = some (posC (x, y) (bytesL s) i) from fun i hi => cornL_at _ _ i (by rw [HSL.out]; exact hi))
  obtain ⟨L, hL⟩ : ∃ L, cornL (x, y) (bytesL s) = L := ⟨_, rfl⟩
  obtain ⟨P, hP⟩ : ∃ P, posC (x, y) (bytesL s) = P := ⟨_, rfl⟩
  have HP := hid hP
  rw [hL, hP] at HAt
  rw [hL] at HLn hv
  rw [hP] at HLP
  obtain ⟨A, c, hvs⟩ := hv.slice
  subst hvs
  have HV := hid hv
  have hln := HLn.out
  rw [hln] at HV ⊢
  have hr := HR.out
  unfold enclR at hr
  rw [if_pos HE.out, hP] at hr
  have HRR := hid hr
  have hs4 := hcs.1
  have hs80 := hcs.2
  clear hv hL hP hln hr hcs
  go_wp2
  go_loopw [5, 6, 7, 8, 9, 10] (fun o p _ _ _ _ wr => ∃ (k : Nat) (v : Value), k ≤ 64 ∧ p = .int .i64 (k : Int) ∧ o = v ∧ wr.ownsRow w2.heap.size 3 1 v (pickC (enclP P s.size) k).length ((pickC (enclP P s.size) k).map (Value.int .i64)) ∧ Below w2.heap.size w2 wr) (fun _ p _ _ _ _ _ => 64 - (intOf p).toNat)
  case atStart => exact ⟨0, _, Nat.zero_le _, rfl, rfl, World.ownsRow_nil _ _ _ _, bl_refl _⟩
  case round =>
  obtain ⟨c, v, hc, rfl, hov, hown, hB⟩ := hrel
  obtain rfl := hov.symm
  have HOW := hid hown
  have HBr := hid hB
  obtain ⟨Q, hQ⟩ : ∃ Q, enclP P s.size = Q := ⟨_, rfl⟩
  have HQ := hid hQ
  rw [hQ] at HOW HRR
  clear hown hB hQ
  by_cases hlt : c < 64
  · have hcI : (c : Int) < 64 := by omega
    have t1 : decide ((c : Int) < 64) = true := decide_eq_true hcI
    have htm : Int.tmod (c : Int) 8 = (c : Int) % 8 := Int.tmod_eq_emod_of_nonneg (by omega)
    have htd : Int.tdiv (c : Int) 8 = (c : Int) / 8 := Int.tdiv_eq_ediv_of_nonneg (by omega)
    have hcx : 0 ≤ (c : Int) % 8 ∧ (c : Int) % 8 < 8 := by omega
    have hcy : 0 ≤ (c : Int) / 8 ∧ (c : Int) / 8 < 8 := by omega
    have wtd : IntKind.i64.wrap ((c : Int) / 8) = (c : Int) / 8 := IntWalk.i64_in _ (by omega)
    have hQc : Q (c : Int) = decide (crossQ P ((c : Int) % 8) ((c : Int) / 8) s.size % 2 = 1) := by rw [← HQ.out]; rfl
    have HQC := hid hQc
    clear hQc
    go_upto_region 9 with (fail)
    obtain ⟨cx, hcx'⟩ : ∃ a, (c : Int) % 8 = a := ⟨_, rfl⟩
    obtain ⟨cy, hcy'⟩ : ∃ a, (c : Int) / 8 = a := ⟨_, rfl⟩
    rw [hcx'] at hcx HQC ⊢
    rw [hcy'] at hcy HQC ⊢
    clear hcx' hcy' htm htd wtd t1
    go_wp2
    obtain ⟨wB, rfl⟩ : ∃ wa, wa = wr := ⟨_, rfl⟩
    go_loopw [9, 10] (fun a p wx => ∃ k : Nat, k ≤ s.size ∧ p = .int .i64 ((k + 1 : Nat) : Int) ∧ a = .int .i64 (crossQ P cx cy k) ∧ Below wB.heap.size wB wx) (fun _ p _ => s.size + 1 - (intOf p).toNat)
    case atStart => exact ⟨0, Nat.zero_le _, rfl, rfl, bl_refl _⟩
    case round =>
    obtain ⟨k, hk, rfl, rfl, hB⟩ := hrel
    have HBk := hid hB
    have hin := HLP.out.2
    have habs := crossQ_bd (P := P) (x := cx) (y := cy) (n := k)
    obtain ⟨sm, hsm⟩ : ∃ a, crossQ P cx cy k = a := ⟨_, rfl⟩
    have HSM := hid hsm
    rw [hsm] at habs ⊢
    by_cases hlk : k < s.size
    · obtain ⟨⟨p1, p2⟩, hpk⟩ : ∃ q : Corner, P (k + 1) = q := ⟨_, rfl⟩
      obtain ⟨⟨r1, r2⟩, hpj⟩ : ∃ q : Corner, P k = q := ⟨_, rfl⟩
      have hv9 := HV.out.mono (bl_trans HBr.out hB)
      have hat := HAt.out (k + 1) (by omega)
      obtain ⟨b1, o1, hA1, hnn, hlc, hbb, c0, c1⟩ := hv9.at hat
      subst hA1
      have hat := HAt.out k (by omega)
      obtain ⟨b2, o2, hA2, hnn2, hlc2, hbb2, d0, d1⟩ := hv9.at hat
      injection hA2 with hA2
      injection hA2 with e1 e2
      subst e1 e2
      rw [hpk] at c0 c1
      rw [hpj] at d0 d1
      simp only at c0 c1 d0 d1
      have hst : crossQ P cx cy (k + 1) = sm + if p1 = r1 ∧ cx < p1 ∧ min p2 r2 = cy then 1 else 0 := by
        rw [← hsm]
        show crossQ P cx cy k + (if (P (k + 1)).1 = (P k).1 ∧ cx < (P (k + 1)).1 ∧ min (P (k + 1)).2 (P k).2 = cy then 1 else 0) = _
        rw [hpk, hpj]
      have t1 : decide (((k + 1 : Nat) : Int) < ((s.size + 1 : Nat) : Int)) = true := decide_eq_true (by omega)
      have hkI : ((k + 1 : Nat) : Int) < ((s.size + 1 : Nat) : Int) := by omega
      have hkJ : (k : Int) < ((s.size + 1 : Nat) : Int) := by omega
      have wk : IntKind.i64.wrap (((k + 1 : Nat) : Int) - 1) = (k : Int) := by rw [show ((k + 1 : Nat) : Int) - 1 = (k : Int) by omega]; exact IntWalk.i64_in _ (by omega)
      have wsm : IntKind.i64.wrap (sm + 1) = sm + 1 := IntWalk.i64_in _ (by omega)
      obtain ⟨mn, hmn0⟩ : ∃ m, min p2 r2 = m := ⟨_, rfl⟩
      have hmn : ∀ W, (Builtin.min_ #[3, 3] 3 #[.int .i64 p2, .int .i64 r2]).run Try.prog W = .ok (.int .i64 mn) W := fun W => by rw [← hmn0]; exact min_run _ _ _ W
      rw [hmn0] at hst
      clear hv9 hat hnn hlc hnn2 hlc2 hbb2 hsm hB hin habs hpk hpj hmn0
      by_cases a1 : p1 = r1
      · by_cases a2 : cx < p1
        · by_cases a3 : mn = cy
          · rw [if_pos ⟨a1, a2, a3⟩] at hst
            have HST := hid hst
            subst a1 a3
            have u1 : (p1 == p1) = true := by simp
            have u2 : decide (cx < p1) = true := decide_eq_true a2
            have u3 : (mn == mn) = true := by simp
            clear a2 hst
            go_wp2
            refine wp_region_below (by kernel_rfl) (by kernel_rfl) ?_
            repeat (first | go_big_quiet_step (fail) | quiet_step (fail))
            refine wpQuiet_nil ?_
            intro w5 hb5
            have HB5 := hid (bl_trans HBk.out hb5)
            clear hb5 c0 c1 d0 d1 hbb hmn
            go_wp2
            go_roundw
            case rel => exact ⟨k + 1, by omega, by go_num, by rw [HST.out], HB5.out⟩
            case measure => simp [intOf]; omega
          · rw [if_neg (fun h => a3 h.2.2), Int.add_zero] at hst
            have HST := hid hst
            subst a1
            have u1 : (p1 == p1) = true := by simp
            have u2 : decide (cx < p1) = true := decide_eq_true a2
            have u3 : (mn == cy) = false := beq_eq_false_iff_ne.2 a3
            clear a2 a3 hst
            go_wp2
            refine wp_region_below (by kernel_rfl) (by kernel_rfl) ?_
            repeat (first | go_big_quiet_step (fail) | quiet_step (fail))
            refine wpQuiet_nil ?_
            intro w5 hb5
            have HB5 := hid (bl_trans HBk.out hb5)
            clear hb5 c0 c1 d0 d1 hbb hmn
            go_wp2
            go_roundw
            case rel => exact ⟨k + 1, by omega, by go_num, by rw [HST.out], HB5.out⟩
            case measure => simp [intOf]; omega
        · rw [if_neg (fun h => a2 h.2.1), Int.add_zero] at hst
          have HST := hid hst
          subst a1
          have u1 : (p1 == p1) = true := by simp
          have u2 : decide (cx < p1) = false := decide_eq_false a2
          clear a2 hst
          go_wp2
          refine wp_region_below (by kernel_rfl) (by kernel_rfl) ?_
          repeat (first | go_big_quiet_step (fail) | quiet_step (fail))
          refine wpQuiet_nil ?_
          intro w5 hb5
          have HB5 := hid (bl_trans HBk.out hb5)
          clear hb5 c0 c1 d0 d1 hbb hmn
          go_wp2
          go_roundw
          case rel => exact ⟨k + 1, by omega, by go_num, by rw [HST.out], HB5.out⟩
          case measure => simp [intOf]; omega
      · rw [if_neg (fun h => a1 h.1), Int.add_zero] at hst
        have HST := hid hst
        have u1 : (p1 == r1) = false := beq_eq_false_iff_ne.2 a1
        clear a1 hst
        go_wp2
        refine wp_region_below (by kernel_rfl) (by kernel_rfl) ?_
        repeat (first | go_big_quiet_step (fail) | quiet_step (fail))
        refine wpQuiet_nil ?_
        intro w5 hb5
        have HB5 := hid (bl_trans HBk.out hb5)
        clear hb5 c0 c1 d0 d1 hbb hmn
        go_wp2
        go_roundw
        case rel => exact ⟨k + 1, by omega, by go_num, by rw [HST.out], HB5.out⟩
        case measure => simp [intOf]; omega
    · obtain rfl : k = s.size := by omega
      have t1 : decide (((s.size + 1 : Nat) : Int) < ((s.size + 1 : Nat) : Int)) = false := decide_eq_false (by omega)
      have hQ2 := HQC.out
      rw [hsm] at hQ2
      have htm2 : Int.tmod sm 2 = sm % 2 := Int.tmod_eq_emod_of_nonneg (by omega)
      have hB9 := bl_trans HBr.out hB
      have hown9 := own_mono HOW.out hB
      have hln := pickC_len Q c
      have HB9 := hid hB9
      have hbs := hB9.size
      clear hsm HSM hB hin habs hlk hB9
      by_cases ho : sm % 2 = 1
      · have u1 : (sm % 2 == 1) = true := by simp [ho]
        have hq : Q (c : Int) = true := by rw [hQ2]; exact decide_eq_true ho
        have hst := hid (pickC_yes hq)
        have hown2 := hown9.alloc (.cells #[.int .i64 (c : Int)] 3)
        have HBB := hid (bl_alloc HB9.out (.cells #[.int .i64 (c : Int)] 3))
        clear ho hq hQ2 hown9
        go_wp2_with (at_builtin; refine wpList_append_own _ rfl _ _ 22 rfl w2.heap.size 3 i3 (.int .i64 0) 1 8 Try.underlying22 hi3 hi30 hi31 hi32 rfl (by decide) v _ _ rfl hown2 ⟨wr.heap.size, 0, none⟩ 1 1 [.int .i64 (c : Int)] rfl rfl (cell_one_new wr (.int .i64 (c : Int)) 3) (fun x hx => by simp at hx; subst hx; rfl) (by unfold maxLen; omega) (by omega) (by simp; omega) ?_; intro v' w5 hown' hgrow5 hnil5; have HB5 := hid (bl_grown HBB.out hown2 (by omega) hgrow5); have HOW5 := hid hown'; clear hown' hgrow5 hnil5)
        go_roundw
        case rel => exact ⟨c + 1, _, by omega, by go_num, rfl, by rw [HQ.out, hst.out, List.length_append, List.map_append]; exact HOW5.out, HB5.out⟩
        case measure => simp [intOf]; omega
      · have u1 : (sm % 2 == 1) = false := beq_eq_false_iff_ne.2 ho
        have hq : Q (c : Int) = false := by rw [hQ2]; exact decide_eq_false ho
        have hst := hid (pickC_no hq)
        have HOW5 := hid hown9
        clear ho hq hQ2 hown9
        go_wp2
        go_roundw
        case rel => exact ⟨c + 1, _, by omega, by go_num, rfl, by rw [HQ.out, hst.out]; exact HOW5.out, HB9.out⟩
        case measure => simp [intOf]; omega
  · obtain rfl : c = 64 := by omega
    have t1 : decide ((64 : Int) < 64) = false := by decide
    have HB5 := hid (bl_trans HB2.out HBr.out)
    have hI := ints_own rfl HOW.out
    rw [HRR.out] at hI
    have HI := hid hI
    clear hI hlt
    go_wp2
    go_ret2
    exact ⟨⟨_, rfl, HI.out⟩, HB5.out⟩

end Go.Proofs.Ytlkoadcbolkhoaa
