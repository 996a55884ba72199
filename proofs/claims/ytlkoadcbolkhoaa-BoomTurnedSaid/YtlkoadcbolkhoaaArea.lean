/- How many cells a chain encloses: the walk of Area. -/
import Derived.Test.YtlkoadcbolkhoaaChkc
set_option linter.all false
namespace Go.Proofs.Ytlkoadcbolkhoaa
open Go Go.RowKit Go.Proofs
attribute [local go_sem] cell_grow frozen_grow

def shoe : Corner → List Nat → Int
  | _, [] => 0
  | p, b :: l => (p.1 * (stepC p b).2 - p.2 * (stepC p b).1) + shoe (stepC p b) l
def areaS (x y : Int) (s : ByteArray) : Int := if chainE x y s = 0 then shoe (x, y) (bytesL s) else 0
theorem chain_ok {x y : Int} {s : ByteArray} (h : chainE x y s = 0) : (4 ≤ s.size ∧ s.size ≤ 80) ∧ inC (x, y) = true ∧ chainF (x, y) s.size (x, y) (fun _ => 0) 0 (bytesL s) = 0 ∧ (bytesL s).all isLet = true := by
  unfold chainE at h
  split at h
  · omega
  · next h1 =>
    split at h
    · omega
    · next h2 =>
      split at h
      · omega
      · next h3 => exact ⟨by omega, by simpa using h3, h, by simpa using h2⟩
theorem chainF_step {start p : Corner} {n : Nat} {u : Used} {L b : Nat} {l : List Nat} (h : chainF start n p u L (b :: l) = 0) : inC (stepC p b) = true ∧ ∃ u' L', chainF start n (stepC p b) u' L' l = 0 := by
  unfold chainF at h
  split at h
  · omega
  · next h1 => exact ⟨by simpa using h1, _, _, h⟩

set_option maxRecDepth 100000 in
set_option maxHeartbeats 8000000 in
theorem area_any (x y : Int) (s : ByteArray) (w : World) (hs : s.size ≤ 1000000) :
    Calls Try.prog 39 #[.agg #[.int .i64 x, .int .i64 y, .string s]] w fun e w' => e = .returned (.tuple #[.int .i64 (max (areaS x y s) (-areaS x y s) / 2), .bool (decide (0 < areaS x y s)), .int .i64 (chainE x y s)]) ∧ Below w.heap.size w w' := by
  have hb0 := bl_alloc (bl_refl w) (.cells #[.int .i64 x, .int .i64 y, .string s] 45)
  have k0 := World.alloc_heap_new w (.cells #[.int .i64 x, .int .i64 y, .string s] 45)
  have HB := hid hb0
  have HK := hid k0
  clear hb0 k0
  have hcall := chkchain_any x y s (w.alloc (.cells #[.int .i64 x, .int .i64 y, .string s] 45)) hs
  obtain ⟨CE, hCE⟩ : ∃ CE, chainE x y s = CE := ⟨_, rfl⟩
  have HCE := hid hCE
  obtain ⟨SM, hSM⟩ : ∃ SM, areaS x y s = SM := ⟨_, rfl⟩
  have HSM := hid hSM
  rw [hCE] at hcall ⊢
  rw [hSM]
  clear hCE hSM
  go_enter Try.func39, Try.ntmps39
  go_upto_region 1 with (fail)
  obtain ⟨w0, hw0⟩ : ∃ w0, w.alloc (.cells #[.int .i64 x, .int .i64 y, .string s] 45) = w0 := ⟨_, rfl⟩
  obtain ⟨X, hX⟩ : ∃ X, w.heap.size = X := ⟨_, rfl⟩
  rw [hX] at HK ⊢
  rw [hw0] at HB HK hcall ⊢
  clear hw0
  have q0 : w0.cell? ⟨X, 0, none⟩ = some (.int .i64 x) := cell_of_heap HK.out
  have q1 : w0.cell? ⟨X, 1, none⟩ = some (.int .i64 y) := cell_of_heap HK.out
  have q2 : w0.cell? ⟨X, 2, none⟩ = some (.string s) := cell_of_heap HK.out
  have ql := (Array.getElem?_eq_some_iff.1 HK.out).1
  go_wp2_with fail
  refine hcall.mono ?_
  rintro e w1 ⟨rfl, hb1⟩
  have HB1 := hid (bl_trans HB.out hb1)
  have HK1 := hid (heap_mono HK.out hb1)
  clear hcall hb1 q0 q1 q2 ql HB HK
  by_cases h0 : CE = 0
  case neg =>
    have t0 : (CE == 0) = false := beq_eq_false_iff_ne.2 h0
    have hs0 : SM = 0 := by rw [← HSM.out]; unfold areaS; rw [HCE.out, if_neg h0]
    subst hs0
    clear h0
    go_wp2
    refine bodyPost_ret (v := .tuple #[.int .i64 (max 0 (-0) / 2), .bool (decide ((0 : Int) < 0)), .int .i64 CE]) (by simp [results, Try.results39, go_sem]) rfl ⟨rfl, HB1.out⟩
  subst h0
  have hok := chain_ok HCE.out
  have HSH := hid (show shoe (x, y) (bytesL s) = SM by rw [← HSM.out]; unfold areaS; rw [HCE.out, if_pos rfl])
  have hsz := hok.1
  have HBD := hid (inC_bd hok.2.1)
  have HCF := hid hok.2.2.1
  clear hok
  have q0 : w1.cell? ⟨X, 0, none⟩ = some (.int .i64 x) := cell_of_heap HK1.out
  have q1 : w1.cell? ⟨X, 1, none⟩ = some (.int .i64 y) := cell_of_heap HK1.out
  have q2 : w1.cell? ⟨X, 2, none⟩ = some (.string s) := cell_of_heap HK1.out
  have ql := (Array.getElem?_eq_some_iff.1 HK1.out).1
  have b2 := bl_alloc (bl_refl w1) (.cells #[.int .i64 x, .int .i64 y] 111)
  have k2 := World.alloc_heap_new w1 (.cells #[.int .i64 x, .int .i64 y] 111)
  obtain ⟨cap, w6, hcv, hcap, hby, hb6, hsz6⟩ := conv_at s (w1.alloc (.cells #[.int .i64 x, .int .i64 y] 111))
  rw [World.size_alloc] at hcv hby hsz6
  have HB6 := hid (bl_trans HB1.out (bl_trans b2 hb6))
  have HAT := hid (heap_mono k2 hb6)
  have hw1s := HB1.out.size
  clear b2 k2 hb6
  go_wp2
  clear hcv q0 q1 q2 ql
  obtain ⟨AT, hAT⟩ : ∃ AT, w1.heap.size = AT := ⟨_, rfl⟩
  rw [hAT] at HAT hby hsz6 ⊢
  obtain ⟨BB, hBB⟩ : ∃ BB, AT + 1 = BB := ⟨_, rfl⟩
  rw [hBB] at hby hsz6 ⊢
  have HBY := hid hby
  have HSZ := hid (show AT < BB ∧ BB < w6.heap.size from by omega)
  have HATw := hid (show w.heap.size ≤ AT by omega)
  have hszI : (s.size : Int) ≤ 80 := by omega
  clear hby hsz6 hAT hBB hw1s
  go_loopw [6, 25] (fun sm p wr => ∃ (k : Nat) (px py : Int) (us : Used) (L : Nat) (sum : Int), k ≤ s.size ∧ p = .int .i64 (k : Int) ∧ sm = .int .i64 sum ∧ chainF (x, y) s.size (px, py) us L ((bytesL s).drop k) = 0 ∧ ((0 ≤ px ∧ px ≤ 8) ∧ (0 ≤ py ∧ py ≤ 8)) ∧ wr.heap[AT]? = some (.cells #[.int .i64 px, .int .i64 py] 111 (0, 0)) ∧ sum + shoe (px, py) ((bytesL s).drop k) = SM ∧ (-200 * (k : Int) ≤ sum ∧ sum ≤ 200 * (k : Int)) ∧ OnlyB [AT] w6 wr ∧ Below w.heap.size w wr) (fun _ p _ => s.size - (intOf p).toNat)
  case atStart => exact ⟨0, x, y, _, 0, 0, Nat.zero_le _, rfl, rfl, HCF.out, HBD.out, HAT.out, by rw [Int.zero_add]; exact HSH.out, by omega, OnlyB.refl _ _, HB6.out⟩
  case round =>
  clear HAT
  obtain ⟨k, px, py, us, L, sum, hk, rfl, rfl, hch, hbd, hat, hsh, hsb, hob, hB⟩ := hrel
  have HAT := hid hat
  have HSH2 := hid hsh
  have HOB := hid hob
  have HBr := hid hB
  have a0 : wr.cell? ⟨AT, 0, none⟩ = some (.int .i64 px) := cell_of_heap hat
  have a1 : wr.cell? ⟨AT, 1, none⟩ = some (.int .i64 py) := cell_of_heap hat
  have al := (Array.getElem?_eq_some_iff.1 hat).1
  by_cases hlt : k < s.size
  · obtain ⟨b, hb⟩ := get_at (l := bytesL s) (k := k) (by rw [bytesL_len]; exact hlt)
    have hdr : (bytesL s).drop k = b :: (bytesL s).drop (k + 1) := List.drop_eq_getElem_cons (by rw [bytesL_len]; exact hlt) ▸ by rw [(List.getElem?_eq_some_iff.1 hb).2]
    rw [hdr] at hch hsh
    have hbc : wr.cell? ⟨BB, k, none⟩ = some (.int .u8 (b : Int)) := (World.cell?_of_block (hob.2 BB (by have := HSZ.out; simp; omega) (by have := HSZ.out; omega))).trans (HBY.out k b hb)
    have hbl : BB < wr.heap.size := by have := hob.1; have := HSZ.out; omega
    have hcall := next_any px py b wr (by omega) (by omega)
    obtain ⟨hin, u2, L2, hch2⟩ := chainF_step hch
    obtain ⟨nx, ny, hstep⟩ : ∃ nx ny, stepC (px, py) b = (nx, ny) := ⟨_, _, rfl⟩
    have hsh2 : sum + ((px * ny - py * nx) + shoe (nx, ny) ((bytesL s).drop (k + 1))) = SM := by rw [← hsh]; conv => rhs; unfold shoe; rw [hstep]
    rw [hstep] at hcall hin hch2
    simp only at hcall
    have hbn := inC_bd hin
    simp only at hbn
    have hm1 : 0 ≤ px * ny ∧ px * ny ≤ 64 := ⟨Int.mul_nonneg hbd.1.1 hbn.2.1, by have := Int.mul_le_mul hbd.1.2 hbn.2.2 hbn.2.1 (by omega : (0 : Int) ≤ 8); omega⟩
    have hm2 : 0 ≤ py * nx ∧ py * nx ≤ 64 := ⟨Int.mul_nonneg hbd.2.1 hbn.1.1, by have := Int.mul_le_mul hbd.2.2 hbn.1.2 hbn.1.1 (by omega : (0 : Int) ≤ 8); omega⟩
    have w1' : IntKind.i64.wrap (px * ny) = px * ny := IntWalk.i64_in _ (by omega)
    have w2' : IntKind.i64.wrap (py * nx) = py * nx := IntWalk.i64_in _ (by omega)
    have w3' : IntKind.i64.wrap (px * ny - py * nx) = px * ny - py * nx := IntWalk.i64_in _ (by omega)
    have w4' : IntKind.i64.wrap (sum + (px * ny - py * nx)) = sum + (px * ny - py * nx) := IntWalk.i64_in _ (by omega)
    have HSH3 := hid hsh2
    have HCH2 := hid hch2
    have HBN := hid hbn
    have HSB := hid (show -200 * ((k + 1 : Nat) : Int) ≤ sum + (px * ny - py * nx) ∧ sum + (px * ny - py * nx) ≤ 200 * ((k + 1 : Nat) : Int) by omega)
    have hkI : (k : Int) < (s.size : Int) := by omega
    clear hch hsh hsh2 hdr hbd hat hob hB hstep hb hch2 hin hm1 hm2 hsb hbn
    go_wp2_with fail
    refine hcall.mono ?_
    rintro e w5 ⟨rfl, hb5⟩
    have HAT4 := hid (heap_mono HAT.out hb5)
    have hat2 := set_two HAT4.out (.int .i64 nx) (.int .i64 ny)
    have bT := bl_alloc (bl_refl ((w5.setCell ⟨AT, 0, none⟩ (.int .i64 nx)).setCell ⟨AT, 1, none⟩ (.int .i64 ny))) (.cells #[.int .i64 nx, .int .i64 ny] 111)
    have HAT6 := hid (heap_mono hat2 bT)
    have HOB6 := hid (((HOB.out.trans (OnlyB.below hb5)).trans ((OnlyB.set (bs := [AT]) (B := AT) (o := 0) (u := .int .i64 nx) (by simp)).trans (OnlyB.set (bs := [AT]) (B := AT) (o := 1) (u := .int .i64 ny) (by simp)))).trans (OnlyB.below bT))
    have HB6' := hid (bl_trans (bl_set (o := 1) (bl_set (o := 0) (bl_trans HBr.out hb5) (.int .i64 nx) HATw.out) (.int .i64 ny) HATw.out) bT)
    have g0 : w5.cell? ⟨AT, 0, none⟩ = some (.int .i64 px) := cell_of_heap HAT4.out
    have g1 : w5.cell? ⟨AT, 1, none⟩ = some (.int .i64 py) := cell_of_heap HAT4.out
    have gf : ∀ i, w5.frozen? ⟨AT, i, none⟩ = false := fun i => frozen_of_heap HAT4.out
    have gl := (Array.getElem?_eq_some_iff.1 HAT4.out).1
    clear hcall hb5 a0 a1 al hbc hbl HAT HOB HBr bT hat2
    go_wp2
    go_roundw
    case rel => exact ⟨k + 1, nx, ny, u2, L2, _, by omega, by go_num, rfl, HCH2.out, HBN.out, HAT6.out, by rw [← HSH3.out]; omega, HSB.out, HOB6.out, HB6'.out⟩
    case measure => simp [intOf]; omega
  · obtain rfl : k = s.size := by omega
    rw [List.drop_of_length_le (by rw [bytesL_len]; exact Nat.le_refl _)] at hsh
    have hsm : sum = SM := by have h : sum + 0 = SM := hsh; omega
    subst hsm
    have wn : IntKind.i64.wrap (-sum) = -sum := IntWalk.i64_in _ (by omega)
    clear hsh hch hbd hat hob hB hlt
    have HBf := hid (show Below X w wr by rw [← hX]; exact HBr.out)
    go_wp2
    all_goals refine bodyPost_ret (v := .tuple #[.int .i64 (max sum (-sum) / 2), .bool (decide (0 < sum)), .int .i64 0]) (by simp [results, Try.results39, go_sem]; try omega) rfl ⟨rfl, HBf.out⟩
end Go.Proofs.Ytlkoadcbolkhoaa
