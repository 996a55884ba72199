/- The reference's CheckChain: the walk. -/
import Derived.Test.YtlkoadcbolkhoaaPosn
import Derived.Test.YtlkoadcbolkhoaaTake
set_option linter.all false
namespace Go.Proofs.Ytlkoadcbolkhoaa
open Go Go.RowKit Go.Proofs
attribute [local go_sem] cell_grow frozen_grow

theorem eq75 (a b : Corner) (w : World) : (Op.equal 75 (encS a) (encS b)).run Try.prog w = .ok (decide (a = b)) w := by
  obtain ⟨a0, a1⟩ := a
  obtain ⟨b0, b1⟩ := b
  have u2 := Try.underlying3
  have a2' := Try.isAgg3
  obtain ⟨i2, hi, hj0, hj1, hj2⟩ := info_parts info3
  have hS : Try.prog.underlying 75 = some (.array 2 3) := by kernel_rfl
  have hc3 : Try.prog.cellsOf 3 = 1 := by kernel_rfl
  unfold Op.equal encS
  obtain ⟨d, hd0⟩ : ∃ d, Op.maxDepth = d + 1 + 1 := ⟨9998, rfl⟩
  rw [hd0, run_equalIn_array w (d + 1) _ _ hS hi, hc3]
  clear hd0
  have hr : List.range 2 = [0, 1] := rfl
  rw [hr]
  have step : ∀ (x y : Int) (W : World), (Op.equalIn (d + 1) 3 (.int .i64 x) (.int .i64 y)).run Try.prog W = .ok (x == y) W := fun x y W => by
    simp only [Op.equalIn, Sem.run_bind, run_underlying u2, Result.andThen_ok, if_true, Sem.run_pure]
  have pt : ∀ (xs : Array Value) (i : Nat) (x : Int) (W : World), xs[i]? = some (.int .i64 x) → (part 3 xs i).run Try.prog W = .ok (.int .i64 x) W := fun xs i x W h => by
    unfold part
    rw [Sem.run_bind, a2']
    simp only [Result.andThen_ok, Bool.false_eq_true, if_false, h]
    rfl
  have cons : ∀ (xs ys : Array Value) (i : Nat) (is : List Nat) (x y : Int), xs[i]? = some (.int .i64 x) → ys[i]? = some (.int .i64 y) → (Op.eqItems (d + 1) 3 1 xs ys (i :: is)).run Try.prog w = if x = y then (Op.eqItems (d + 1) 3 1 xs ys is).run Try.prog w else .ok false w := fun xs ys i is x y hx hy => by
    simp only [Op.eqItems, Sem.run_bind, Nat.mul_one]
    rw [pt _ _ x _ hx, Result.andThen_ok, pt _ _ y _ hy, Result.andThen_ok, step, Result.andThen_ok]
    by_cases h : x = y
    · simp [h]
    · simp [h]
  rw [cons _ _ 0 _ a0 b0 rfl rfl, cons _ _ 1 _ a1 b1 rfl rfl]
  simp only [Op.eqItems, Sem.run_pure]
  by_cases h0 : a0 = b0
  · by_cases h1 : a1 = b1
    · simp [h0, h1]
    · simp [h1]
  · simp [h0]
theorem neq75 (a b : Corner) (r : Bool) (h : decide (a ≠ b) = r) (w : World) : (binOp .neq 75 (.agg #[.int .i64 a.1, .int .i64 a.2]) (.agg #[.int .i64 b.1, .int .i64 b.2])).run Try.prog w = .ok (.bool r) w := by
  have := eq75 a b w
  unfold encS at this
  subst h
  simp [binOp, Sem.run_bind, this, Result.andThen]
theorem eql75 (a b : Corner) (r : Bool) (h : decide (a = b) = r) (w : World) : (binOp .eql 75 (.agg #[.int .i64 a.1, .int .i64 a.2]) (.agg #[.int .i64 b.1, .int .i64 b.2])).run Try.prog w = .ok (.bool r) w := by
  have := eq75 a b w
  unfold encS at this
  subst h
  simp [binOp, Sem.run_bind, this, Result.andThen]
theorem inC_no {p : Corner} (h : p.1 < 0 ∨ 8 < p.1 ∨ p.2 < 0 ∨ 8 < p.2) : inC p = false := by
  cases hc : inC p with
  | false => rfl
  | true => have := inC_bd hc; omega
theorem inC_yes {p : Corner} (h1 : ¬ p.1 < 0) (h2 : ¬ 8 < p.1) (h3 : ¬ p.2 < 0) (h4 : ¬ 8 < p.2) : inC p = true := by
  unfold inC
  simp; omega
/-- A corner of the row. -/
theorem SidesI.at {W : World} {A : Option Addr} {n c : Nat} {L : List Corner} (h : SidesI W (.slice A n c) L) {k : Nat} {p : Corner} (hk : L[k]? = some p) : ∃ b off, A = some ⟨b, off, none⟩ ∧ n = L.length ∧ L.length ≤ c ∧ b < W.heap.size ∧ W.cell? ⟨b, off + k * 2, none⟩ = some (.int .i64 p.1) ∧ W.cell? ⟨b, off + k * 2 + 1, none⟩ = some (.int .i64 p.2) := by
  rcases h with ⟨_, h0⟩ | ⟨b, off, c', hv, h4, h5, h6⟩
  · subst h0; simp at hk
  · injection hv with hv1 hv2 hv3
    subst hv3
    exact ⟨b, off, hv1, hv2, h4, h5, h6 k p hk⟩

set_option maxRecDepth 100000 in
set_option maxHeartbeats 8000000 in
theorem rchain_any (x y : Int) (s : ByteArray) (w : World) (hs : s.size ≤ 1000) :
    Calls Try.prog 42 #[.agg #[.int .i64 x, .int .i64 y, .string s]] w fun e w' => e = .returned (.int .i64 (chainE x y s)) ∧ Below w.heap.size w w' := by
  have HK := hid (World.alloc_heap_new w (.cells #[.int .i64 x, .int .i64 y, .string s] 45))
  have HB := hid (bl_alloc (bl_refl w) (.cells #[.int .i64 x, .int .i64 y, .string s] 45))
  have hsl := bytesL_len s
  have HSL := hid hsl
  obtain ⟨E, hE⟩ : ∃ E, chainE x y s = E := ⟨_, rfl⟩
  have HE := hid hE
  rw [hE]
  clear hE hsl
  go_enter Try.func42, Try.ntmps42
  go_upto_region 1 with (fail)
  obtain ⟨w0, hw0⟩ : ∃ w0, w.alloc (.cells #[.int .i64 x, .int .i64 y, .string s] 45) = w0 := ⟨_, rfl⟩
  obtain ⟨X, hX⟩ : ∃ X, w.heap.size = X := ⟨_, rfl⟩
  rw [hX] at HK ⊢
  rw [hw0] at HB HK ⊢
  clear hw0 hX
  have q0 : w0.cell? ⟨X, 0, none⟩ = some (.int .i64 x) := cell_of_heap HK.out
  have q1 : w0.cell? ⟨X, 1, none⟩ = some (.int .i64 y) := cell_of_heap HK.out
  have q2 : w0.cell? ⟨X, 2, none⟩ = some (.string s) := cell_of_heap HK.out
  have ql := (Array.getElem?_eq_some_iff.1 HK.out).1
  by_cases h1 : 4 ≤ s.size ∧ s.size ≤ 80
  case neg =>
    have he : E = 6 := by rw [← HE.out]; exact chainE_many h1
    subst he
    by_cases a1 : s.size < 4
    · have t1 : decide ((s.size : Int) < 4) = true := decide_eq_true (by omega)
      clear h1 a1
      go_wp2
      go_ret
      exact ⟨rfl, HB.out⟩
    · have t1 : decide ((s.size : Int) < 4) = false := decide_eq_false (by omega)
      have t2 : decide (80 < (s.size : Int)) = true := decide_eq_true (by omega)
      clear h1 a1
      go_wp2
      go_ret
      exact ⟨rfl, HB.out⟩
  have t1 : decide ((s.size : Int) < 4) = false := decide_eq_false (by omega)
  have t2 : decide (80 < (s.size : Int)) = false := decide_eq_false (by omega)
  have H1 := hid h1
  clear h1
  go_wp2
  clear t1 t2
  go_loopw [3] (fun p wr => ∃ k : Nat, k ≤ s.size ∧ p = .int .i64 (k : Int) ∧ (∀ i b, i < k → (bytesL s)[i]? = some b → isLet b = true) ∧ Below w0.heap.size w0 wr) (fun p _ => s.size - (intOf p).toNat)
  case atStart => exact ⟨0, Nat.zero_le _, rfl, fun i _ h => by omega, bl_refl _⟩
  case round =>
  clear q0 q1 q2 ql
  obtain ⟨k, hk, rfl, hno, hB⟩ := hrel
  have HNO := hid hno
  have HBr := hid hB
  have hK := heap_mono HK.out hB
  have q0 : wr.cell? ⟨X, 0, none⟩ = some (.int .i64 x) := cell_of_heap hK
  have q1 : wr.cell? ⟨X, 1, none⟩ = some (.int .i64 y) := cell_of_heap hK
  have q2 : wr.cell? ⟨X, 2, none⟩ = some (.string s) := cell_of_heap hK
  have ql := (Array.getElem?_eq_some_iff.1 hK).1
  have HKr := hid hK
  clear hno hB hK
  by_cases hlt : k < s.size
  · obtain ⟨b, hb⟩ := get_at (l := bytesL s) (k := k) (by rw [HSL.out]; exact hlt)
    have hkI : (k : Int) < (s.size : Int) := by omega
    have hidx := index_run hb
    have hcall := rletter_any b wr
    have Hb := hid hb
    have hil := isLet_dir (b := b)
    obtain ⟨D, hD⟩ : ∃ D, dirB b = D := ⟨_, rfl⟩
    have HD := hid hD
    rw [hD] at hcall hil
    clear hb hD
    by_cases d0 : D < 0
    · have t0 : decide (D < 0) = true := decide_eq_true d0
      have he : E = 8 := by rw [← HE.out]; exact chainE_form H1.out Hb.out (by rw [HD.out]; exact d0)
      subst he
      clear hil d0
      go_wp2_with fail
      refine hcall.mono ?_
      rintro e w2 ⟨rfl, hb2⟩
      have HB2 := hid (bl_trans HB.out (bl_trans HBr.out hb2))
      clear hcall hb2
      go_wp2
      go_ret
      exact ⟨rfl, HB2.out⟩
    · have t0 : decide (D < 0) = false := decide_eq_false d0
      have hlb := hil.2 (by omega)
      have hno2 : ∀ i b', i < k + 1 → (bytesL s)[i]? = some b' → isLet b' = true := fun i b' hi hb' => by
        by_cases e : i = k
        · subst e
          have := Hb.out
          rw [this] at hb'
          injection hb' with hb'
          subst hb'
          exact hlb
        · exact HNO.out i b' (by omega) hb'
      have HNO2 := hid hno2
      clear hil d0 hno2 hlb
      go_wp2_with fail
      refine hcall.mono ?_
      rintro e w2 ⟨rfl, hb2⟩
      have HB2 := hid (bl_trans HBr.out hb2)
      clear hcall hb2 q0 q1 q2 ql
      go_wp2
      go_roundw
      case rel => exact ⟨k + 1, by omega, by go_num, HNO2.out, HB2.out⟩
      case measure => simp [intOf]; omega
  obtain rfl : k = s.size := by omega
  have hall : (bytesL s).all isLet = true := by
    rw [List.all_eq_true]
    intro b hb
    obtain ⟨i, hi⟩ := List.getElem?_of_mem hb
    exact HNO.out i b (by have := (List.getElem?_eq_some_iff.1 hi).1; rwa [HSL.out] at this) hi
  have H2 := hid hall
  clear HNO hlt hall hk
  by_cases h3 : inC (x, y) = true
  case neg =>
    have he : E = 3 := by rw [← HE.out]; exact chainE_start H1.out H2.out (by simpa using h3)
    subst he
    have HB2 := hid (bl_trans HB.out HBr.out)
    by_cases a1 : x < 0
    · have t1 : decide (x < 0) = true := decide_eq_true a1
      clear h3 a1
      go_wp2
      go_ret
      exact ⟨rfl, HB2.out⟩
    have t1 : decide (x < 0) = false := decide_eq_false a1
    by_cases a2 : 8 < x
    · have t2 : decide (8 < x) = true := decide_eq_true a2
      clear h3 a1 a2
      go_wp2
      go_ret
      exact ⟨rfl, HB2.out⟩
    have t2 : decide (8 < x) = false := decide_eq_false a2
    by_cases a3 : y < 0
    · have t3 : decide (y < 0) = true := decide_eq_true a3
      clear h3 a1 a2 a3
      go_wp2
      go_ret
      exact ⟨rfl, HB2.out⟩
    have t3 : decide (y < 0) = false := decide_eq_false a3
    by_cases a4 : 8 < y
    · have t4 : decide (8 < y) = true := decide_eq_true a4
      clear h3 a1 a2 a3 a4
      go_wp2
      go_ret
      exact ⟨rfl, HB2.out⟩
    · exact absurd (inC_yes (p := (x, y)) a1 a2 a3 a4) h3
  have hxy := inC_bd h3
  simp only at hxy
  have H3 := hid h3
  have t1 : decide (x < 0) = false := decide_eq_false (by omega)
  have t2 : decide (8 < x) = false := decide_eq_false (by omega)
  have t3 : decide (y < 0) = false := decide_eq_false (by omega)
  have t4 : decide (8 < y) = false := decide_eq_false (by omega)
  have hcall := corners_any x y s wr hs hxy.1 hxy.2
  clear h3 hxy
  go_wp2_with fail
  refine hcall.mono ?_
  rintro e w2 ⟨⟨v, rfl, hv⟩, hb2⟩
  have HB2 := hid (bl_trans HB.out (bl_trans HBr.out hb2))
  clear hcall hb2 q0 q1 q2 ql t1 t2 t3 t4 HBr HKr HB
  have HLn := hid (show (cornL (x, y) (bytesL s)).length = s.size + 1 by rw [cornL_len, HSL.out])
  have HAt := hid (show ∀ i, i ≤ s.size → (cornL (x, y) (bytesL s))[i]? = some (posC (x, y) (bytesL s) i) from fun i hi => cornL_at _ _ i (by rw [HSL.out]; exact hi))
  obtain ⟨L, hL⟩ : ∃ L, cornL (x, y) (bytesL s) = L := ⟨_, rfl⟩
  obtain ⟨P, hP⟩ : ∃ P, posC (x, y) (bytesL s) = P := ⟨_, rfl⟩
  have HP := hid hP
  rw [hL, hP] at HAt
  rw [hL] at HLn hv
  obtain ⟨A, c, hvs⟩ := hv.slice
  subst hvs
  have HV := hid hv
  have hln := HLn.out
  rw [hln] at HV ⊢
  clear hv hL hP hln
  go_wp2
  go_loopw [5] (fun p wr => ∃ k : Nat, k ≤ s.size + 1 ∧ p = .int .i64 (k : Int) ∧ (∀ i, i < k → inC (P i) = true) ∧ wr = w2) (fun p _ => s.size + 1 - (intOf p).toNat)
  case atStart => exact ⟨0, Nat.zero_le _, rfl, fun i h => by omega, rfl⟩
  case round =>
  obtain ⟨k, hk, rfl, hno, hwr⟩ := hrel
  subst wr
  have HNO := hid hno
  clear hno
  by_cases hlt : k < s.size + 1
  · have hat := HAt.out k (by omega)
    obtain ⟨b, off, hA, hnn, hlc, hbb, c0, c1⟩ := HV.out.at hat
    clear hnn
    subst hA
    obtain ⟨⟨p1, p2⟩, hpk⟩ : ∃ q : Corner, P k = q := ⟨_, rfl⟩
    rw [hpk] at c0 c1
    simp only at c0 c1
    have HPK := hid hpk
    have hkI : (k : Int) < ((s.size + 1 : Nat) : Int) := by omega
    clear hat hpk
    by_cases a1 : p1 < 0
    · have t1 : decide (p1 < 0) = true := decide_eq_true a1
      have he : E = 3 := by rw [← HE.out]; exact chainE_off (k := k) H1.out H2.out H3.out (by omega) (by rw [HP.out, HPK.out]; exact inC_no (.inl a1))
      subst he
      clear a1
      go_wp2
      go_ret
      exact ⟨rfl, HB2.out⟩
    have t1 : decide (p1 < 0) = false := decide_eq_false a1
    by_cases a2 : 8 < p1
    · have t2 : decide (8 < p1) = true := decide_eq_true a2
      have he : E = 3 := by rw [← HE.out]; exact chainE_off (k := k) H1.out H2.out H3.out (by omega) (by rw [HP.out, HPK.out]; exact inC_no (.inr (.inl a2)))
      subst he
      clear a1 a2
      go_wp2
      go_ret
      exact ⟨rfl, HB2.out⟩
    have t2 : decide (8 < p1) = false := decide_eq_false a2
    by_cases a3 : p2 < 0
    · have t3 : decide (p2 < 0) = true := decide_eq_true a3
      have he : E = 3 := by rw [← HE.out]; exact chainE_off (k := k) H1.out H2.out H3.out (by omega) (by rw [HP.out, HPK.out]; exact inC_no (.inr (.inr (.inl a3))))
      subst he
      clear a1 a2 a3
      go_wp2
      go_ret
      exact ⟨rfl, HB2.out⟩
    have t3 : decide (p2 < 0) = false := decide_eq_false a3
    by_cases a4 : 8 < p2
    · have t4 : decide (8 < p2) = true := decide_eq_true a4
      have he : E = 3 := by rw [← HE.out]; exact chainE_off (k := k) H1.out H2.out H3.out (by omega) (by rw [HP.out, HPK.out]; exact inC_no (.inr (.inr (.inr a4))))
      subst he
      clear a1 a2 a3 a4
      go_wp2
      go_ret
      exact ⟨rfl, HB2.out⟩
    have t4 : decide (8 < p2) = false := decide_eq_false a4
    have hno2 : ∀ i, i < k + 1 → inC (P i) = true := fun i hi => by
      by_cases e : i = k
      · subst e; rw [HPK.out]; exact inC_yes a1 a2 a3 a4
      · exact HNO.out i (by omega)
    have HNO2 := hid hno2
    clear a1 a2 a3 a4 hno2
    go_wp2
    go_roundw
    case rel => exact ⟨k + 1, by omega, by go_num, HNO2.out, trivial⟩
    case measure => simp [intOf]; omega
  obtain rfl : k = s.size + 1 := by omega
  have HIN := hid (show ∀ k, k ≤ s.size → inC (posC (x, y) (bytesL s) k) = true from fun k hk => by rw [HP.out]; exact HNO.out k (by omega))
  have HEE := hid (chainE_end H1.out H2.out H3.out HIN.out)
  rw [HE.out, HP.out] at HEE
  have HP0 := hid (show P 0 = (x, y) by rw [← HP.out]; cases bytesL s <;> rfl)
  have hat := HAt.out 0 (by omega)
  obtain ⟨b, off, hA, hnn, hlc, hbb, c0, c1⟩ := HV.out.at hat
  clear hnn
  subst hA
  have hat := HAt.out s.size (by omega)
  obtain ⟨b', off', hA, hnn, hnl, hnb, d0, d1⟩ := HV.out.at hat
  clear hnn hnl hnb
  injection hA with hA
  injection hA with e1 e2
  subst e1 e2
  rw [Nat.zero_mul, Nat.add_zero] at c0 c1
  obtain ⟨⟨p1, p2⟩, hp0⟩ : ∃ q : Corner, P 0 = q := ⟨_, rfl⟩
  obtain ⟨⟨r1, r2⟩, hpn⟩ : ∃ q : Corner, P s.size = q := ⟨_, rfl⟩
  have Hp0 := hid hp0
  have Hpn := hid hpn
  rw [hp0] at c0 c1
  rw [hpn] at d0 d1
  simp only at c0 c1 d0 d1
  have hm1 : IntKind.i64.wrap ((s.size : Int) + 1 - 1) = (s.size : Int) := by rw [Int.add_sub_cancel]; exact IntWalk.i64_in _ (by omega)
  have h4 := H1.out.1
  clear HNO hlt hk hat hlc hp0 hpn
  by_cases hcl : P s.size = P 0
  case neg =>
    have he : E = 19 := by rw [HEE.out, if_neg]; rintro ⟨h, _⟩; exact hcl (by rw [h, HP0.out])
    subst he
    have hbin := neq75 (p1, p2) (r1, r2) true (by rw [← Hp0.out, ← Hpn.out]; exact decide_eq_true fun h => hcl h.symm)
    clear hcl
    go_upto_region 17 with (fail)
    refine wp_region_below (by kernel_rfl) (by kernel_rfl) ?_
    repeat (first | go_big_quiet_step (fail) | quiet_step (fail))
    refine wpQuiet_nil ?_
    intro w4 hb4
    have HB4 := hid (bl_trans HB2.out hb4)
    clear hb4 hbin
    go_wp2
    go_ret
    exact ⟨rfl, HB4.out⟩
  have hbin := neq75 (p1, p2) (r1, r2) false (by rw [← Hp0.out, ← Hpn.out, hcl]; simp)
  have HCL := hid hcl
  clear hcl
  go_upto_region 17 with (fail)
  refine wp_region_below (by kernel_rfl) (by kernel_rfl) ?_
  repeat (first | go_big_quiet_step (fail) | quiet_step (fail))
  refine wpQuiet_nil ?_
  intro w4 hb4
  have HB4 := hid (bl_trans HB2.out hb4)
  have HV4 := hid (HV.out.mono hb4)
  clear hb4 hbin c0 c1 d0 d1 hbb
  go_wp2
  go_loopw [7, 8] (fun p _ wr => ∃ k : Nat, 1 ≤ k ∧ k ≤ s.size ∧ p = .int .i64 (k : Int) ∧ (∀ i j, 1 ≤ i → i < k → j < i → P i ≠ P j) ∧ Below w4.heap.size w4 wr) (fun p _ _ => s.size - (intOf p).toNat)
  case atStart => exact ⟨1, Nat.le_refl _, by omega, rfl, fun i j h1 h2 => by omega, bl_refl _⟩
  case round =>
  obtain ⟨k, hk1, hk, rfl, hno, hB⟩ := hrel
  have HNO := hid hno
  have HBr := hid hB
  clear hno hB
  by_cases hlt : k < s.size
  · have hkI : (k : Int) < (s.size : Int) := by omega
    go_wp2
    obtain ⟨wB, rfl⟩ : ∃ wa, wa = wr := ⟨_, rfl⟩
    go_loopw [8] (fun p wr => ∃ j : Nat, j ≤ k ∧ p = .int .i64 (j : Int) ∧ (∀ i, i < j → P k ≠ P i) ∧ Below w4.heap.size w4 wr) (fun p _ => k - (intOf p).toNat)
    case atStart => exact ⟨0, Nat.zero_le _, rfl, fun i h => by omega, HBr.out⟩
    case round =>
    clear HBr
    obtain ⟨j, hj, rfl, hne, hB⟩ := hrel
    have HNE := hid hne
    have HBr := hid hB
    by_cases hlj : j < k
    · have hjI : (j : Int) < (k : Int) := by omega
      have hkn : (k : Int) < ((s.size + 1 : Nat) : Int) := by omega
      have hjn : (j : Int) < ((s.size + 1 : Nat) : Int) := by omega
      have hv9 := HV4.out.mono hB
      have hat := HAt.out k (by omega)
      obtain ⟨b1, o1, hA1, hnn, hlc, hbb, c0, c1⟩ := hv9.at hat
      clear hnn
      injection hA1 with hA1
      injection hA1 with e1 e2
      subst e1 e2
      have hat := HAt.out j (by omega)
      obtain ⟨b2, o2, hA2, hnn, hnl, hnb, d0, d1⟩ := hv9.at hat
      clear hnn hnl hnb
      injection hA2 with hA2
      injection hA2 with e1 e2
      subst e1 e2
      obtain ⟨⟨u1, u2⟩, hpk⟩ : ∃ q : Corner, P k = q := ⟨_, rfl⟩
      obtain ⟨⟨v1, v2⟩, hpj⟩ : ∃ q : Corner, P j = q := ⟨_, rfl⟩
      have HPk := hid hpk
      have HPj := hid hpj
      rw [hpk] at c0 c1
      rw [hpj] at d0 d1
      simp only at c0 c1 d0 d1
      clear hne hB hv9 hat hpk hpj hlc
      by_cases heq : P k = P j
      · have he : E = 19 := by
          rw [HEE.out, if_neg]
          rintro ⟨hend, hd⟩
          by_cases j0 : j = 0
          · subst j0
            exact hd k s.size hk1 hlt (Nat.le_refl _) (by rw [heq, HCL.out])
          · exact hd j k (by omega) hlj (by omega) heq.symm
        subst he
        have hbin := eql75 (u1, u2) (v1, v2) true (by rw [← HPk.out, ← HPj.out]; exact decide_eq_true heq)
        clear heq
        go_upto_region 25 with (fail)
        refine wp_region_below (by kernel_rfl) (by kernel_rfl) ?_
        repeat (first | go_big_quiet_step (fail) | quiet_step (fail))
        refine wpQuiet_nil ?_
        intro w5 hb5
        have HB5 := hid (bl_trans HB4.out (bl_trans HBr.out hb5))
        clear hb5 hbin c0 c1 d0 d1 hbb
        go_wp2
        go_ret
        exact ⟨rfl, HB5.out⟩
      · have hbin := eql75 (u1, u2) (v1, v2) false (by rw [← HPk.out, ← HPj.out]; exact decide_eq_false heq)
        have HNE2 := hid (show ∀ i, i < j + 1 → P k ≠ P i from fun i hi => by
          by_cases e : i = j
          · subst e; exact heq
          · exact HNE.out i (by omega))
        clear heq
        go_upto_region 25 with (fail)
        refine wp_region_below (by kernel_rfl) (by kernel_rfl) ?_
        repeat (first | go_big_quiet_step (fail) | quiet_step (fail))
        refine wpQuiet_nil ?_
        intro w5 hb5
        have HB5 := hid (bl_trans HBr.out hb5)
        clear hb5 hbin c0 c1 d0 d1 hbb
        go_wp2
        go_roundw
        case rel => exact ⟨j + 1, by omega, by go_num, HNE2.out, HB5.out⟩
        case measure => simp [intOf]; omega
    · obtain rfl : j = k := by omega
      have HNO2 := hid (show ∀ i m, 1 ≤ i → i < j + 1 → m < i → P i ≠ P m from fun i m a1 a2 a3 => by
        by_cases e : i = j
        · subst e; exact HNE.out m a3
        · exact HNO.out i m a1 (by omega) a3)
      clear hne hB hlj
      go_wp2
      go_roundw
      case rel => exact ⟨j + 1, by omega, by omega, by go_num, HNO2.out, HBr.out⟩
      case measure => simp [intOf]; omega
  · obtain rfl : k = s.size := by omega
    have he : E = 0 := by
      rw [HEE.out, if_pos]
      refine ⟨by rw [HCL.out, HP0.out], fun i j a1 a2 a3 e => ?_⟩
      by_cases hj : j = s.size
      · subst hj
        exact HNO.out i 0 a1 (by omega) (by omega) (by rw [e, HCL.out])
      · exact HNO.out j i (by omega) (by omega) a2 e.symm
    subst he
    have HB5 := hid (bl_trans HB4.out HBr.out)
    clear hlt
    go_wp2
    go_ret
    exact ⟨rfl, HB5.out⟩
end Go.Proofs.Ytlkoadcbolkhoaa
