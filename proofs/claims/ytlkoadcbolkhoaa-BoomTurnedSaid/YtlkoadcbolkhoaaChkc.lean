/- Which chain is valid: the walk. -/
import Derived.Test.YtlkoadcbolkhoaaChain
import Derived.Test.YtlkoadcbolkhoaaSeen
import Derived.Test.YtlkoadcbolkhoaaAround
import Derived.Test.YtlkoadcbolkhoaaSmall
set_option linter.all false
namespace Go.Proofs.Ytlkoadcbolkhoaa
open Go Go.RowKit Go.Proofs
attribute [local go_sem] cell_grow frozen_grow

def inC (p : Corner) : Bool := (decide (0 ≤ p.1) && decide (p.1 ≤ 8)) && (decide (0 ≤ p.2) && decide (p.2 ≤ 8))
def chainF (start : Corner) (n : Nat) : Corner → Used → Nat → List Nat → Int
  | p, _, L, [] => if p ≠ start ∨ L < n then 19 else 0
  | p, u, L, b :: l => if inC (stepC p b) = false then 3 else chainF start n (stepC p b) (updS u (stepC p b) (u (stepC p b) + 1)) (if u (stepC p b) = 0 then L + 1 else L) l
def chainE (x y : Int) (s : ByteArray) : Int :=
  if ¬ (4 ≤ s.size ∧ s.size ≤ 80) then 6 else if (bytesL s).all isLet = false then 8 else if inC (x, y) = false then 3 else chainF (x, y) s.size (x, y) (fun _ => 0) 0 (bytesL s)
def second (v : Value) : Value := match v with
  | .tuple xs => xs.getD 1 undef
  | _ => undef
theorem neq111 (a b : Corner) (r : Bool) (h : decide (a ≠ b) = r) (w : World) : (binOp .neq 111 (.agg #[.int .i64 a.1, .int .i64 a.2]) (.agg #[.int .i64 b.1, .int .i64 b.2])).run Try.prog w = .ok (.bool r) w := by
  have := eq111 a b w
  unfold encS at this
  subst h
  simp [binOp, Sem.run_bind, this, Result.andThen]
theorem inC_bd {p : Corner} (h : inC p = true) : (0 ≤ p.1 ∧ p.1 ≤ 8) ∧ (0 ≤ p.2 ∧ p.2 ≤ 8) := by
  simp [inC] at h
  omega
theorem within_in (p : Corner) : withinB 0 8 [p.1, p.2] = inC p := by
  rw [within_two]
  unfold inC
  by_cases h1 : 0 ≤ p.1 <;> by_cases h2 : p.1 ≤ 8 <;> by_cases h3 : 0 ≤ p.2 <;> by_cases h4 : p.2 ≤ 8 <;> simp [h1, h2, h3, h4]
theorem stepC_bd {p : Corner} (b : Nat) (h : (0 ≤ p.1 ∧ p.1 ≤ 8) ∧ (0 ≤ p.2 ∧ p.2 ≤ 8)) : (-1 ≤ (stepC p b).1 ∧ (stepC p b).1 ≤ 9) ∧ (-1 ≤ (stepC p b).2 ∧ (stepC p b).2 ≤ 9) := by
  unfold stepC
  repeat' split
  all_goals (first | (simp only; omega) | omega)
theorem heap_only {bs : List Nat} {W W' : World} {i : Nat} {o : Obj} (h : OnlyB bs W W') (ho : W.heap[i]? = some o) (hi : i ∉ bs) : W'.heap[i]? = some o := h.keep hi ho
set_option maxRecDepth 100000 in
/-- A string's bytes, laid as a row: where. -/
theorem conv_at (s : ByteArray) (w : World) : ∃ cap w', (convert 9 112 (.string s)).run Try.prog w = .ok (.slice (some ⟨w.heap.size, 0, none⟩) s.size cap) w' ∧ s.size ≤ cap ∧ (∀ (i b : Nat), (bytesL s)[i]? = some b → w'.cell? ⟨w.heap.size, i, none⟩ = some (.int .u8 (b : Int))) ∧ Below w.heap.size w w' ∧ w'.heap.size = w.heap.size + 1 := by
  have h := run_bytes_of_string (P := Try.prog) w 9 112 5 s (by kernel_rfl) (by kernel_rfl) (by kernel_rfl)
  refine ⟨_, _, h, grownCap_ge w s.size 0 5, fun i b hb => ?_, bl_alloc (bl_drew (bl_refl _)) _, by simp⟩
  have hi : i < s.size := by have := (List.getElem?_eq_some_iff.1 hb).1; rwa [bytesL_len] at this
  have hc := cell_new w.drew (bytesRow s (grownCap w s.size 0 5)) 5 ((bytesRow s (grownCap w s.size 0 5)).size, (bytesRow s (grownCap w s.size 0 5)).size + 1) i
  refine Eq.trans hc ?_
  unfold bytesRow
  have hx' : (bytesL s)[i]? = some (s.data[i]'hi).toNat := by unfold bytesL; rw [List.getElem?_map, Array.getElem?_toList, Array.getElem?_eq_getElem (show i < s.data.size from hi)]; rfl
  rw [hx'] at hb
  injection hb with hb
  subst hb
  rw [Array.getElem?_append_left (by simpa using hi), Array.getElem?_map, Array.getElem?_eq_getElem (show i < s.data.size from hi)]
  rfl

set_option maxRecDepth 100000 in
set_option maxHeartbeats 8000000 in
theorem chkchain_any (x y : Int) (s : ByteArray) (w : World) (hs : s.size ≤ 1000000) :
    Calls Try.prog 41 #[.agg #[.int .i64 x, .int .i64 y, .string s]] w fun e w' => e = .returned (.int .i64 (chainE x y s)) ∧ Below w.heap.size w w' := by
  have hb0 := bl_alloc (bl_refl w) (.cells #[.int .i64 x, .int .i64 y, .string s] 45)
  have k0 := World.alloc_heap_new w (.cells #[.int .i64 x, .int .i64 y, .string s] 45)
  have HB := hid hb0
  have HK := hid k0
  clear hb0 k0
  obtain ⟨CE, hCE⟩ : ∃ CE, chainE x y s = CE := ⟨_, rfl⟩
  have HCE := hid hCE
  rw [hCE]
  clear hCE
  go_enter Try.func41, Try.ntmps41
  go_upto_region 2 with (fail)
  obtain ⟨w0, hw0⟩ : ∃ w0, w.alloc (.cells #[.int .i64 x, .int .i64 y, .string s] 45) = w0 := ⟨_, rfl⟩
  obtain ⟨X, hX⟩ : ∃ X, w.heap.size = X := ⟨_, rfl⟩
  rw [hX] at HK ⊢
  rw [hw0] at HB HK ⊢
  clear hw0
  have q0 : w0.cell? ⟨X, 0, none⟩ = some (.int .i64 x) := cell_of_heap HK.out
  have q1 : w0.cell? ⟨X, 1, none⟩ = some (.int .i64 y) := cell_of_heap HK.out
  have q2 : w0.cell? ⟨X, 2, none⟩ = some (.string s) := cell_of_heap HK.out
  have ql := (Array.getElem?_eq_some_iff.1 HK.out).1
  have b1 := hid (bl_alloc HB.out (.cells #[.int .i64 (s.size : Int)] 3))
  have hcall := within_any 4 80 [(s.size : Int)] (.slice (some ⟨w0.heap.size, 0, none⟩) 1 1) (w0.alloc (.cells #[.int .i64 (s.size : Int)] 3)) (by simp) (ints_row (l := [(s.size : Int)]) (World.alloc_heap_new w0 _))
  rw [within_one] at hcall
  have HK1 := hid (heap_mono HK.out (bl_alloc (bl_refl w0) (.cells #[.int .i64 (s.size : Int)] 3)))
  by_cases hsz : 4 ≤ s.size ∧ s.size ≤ 80
  case neg =>
    have hd : (decide (4 ≤ (s.size : Int)) && decide ((s.size : Int) ≤ 80)) = false := by
      cases h : (decide (4 ≤ (s.size : Int)) && decide ((s.size : Int) ≤ 80)) with
      | false => rfl
      | true => simp at h; exact absurd (by omega) hsz
    rw [hd] at hcall
    have e1 : CE = 6 := by rw [← HCE.out]; unfold chainE; rw [if_pos hsz]
    subst e1
    clear hd hsz
    go_wp2_with fail
    refine hcall.mono ?_
    rintro e w1 ⟨rfl, hb1⟩
    have HB1 := hid (bl_trans b1.out hb1)
    clear hcall hb1 q0 q1 q2 ql
    go_wp2
    go_ret
    exact ⟨rfl, HB1.out⟩
  have hd : (decide (4 ≤ (s.size : Int)) && decide ((s.size : Int) ≤ 80)) = true := by simp; omega
  rw [hd] at hcall
  have HCE1 := hid (show CE = if (bytesL s).all isLet = false then 8 else if inC (x, y) = false then 3 else chainF (x, y) s.size (x, y) (fun _ => 0) 0 (bytesL s) by rw [← HCE.out]; unfold chainE; rw [if_neg (by simpa using hsz)])
  clear hd
  go_wp2_with fail
  refine hcall.mono ?_
  rintro e w1 ⟨rfl, hb1⟩
  have HB1 := hid (bl_trans b1.out hb1)
  have HK2 := hid (heap_mono HK1.out hb1)
  clear hcall hb1 q0 q1 q2 ql b1 HK HK1 HB
  have q2 : w1.cell? ⟨X, 2, none⟩ = some (.string s) := cell_of_heap HK2.out
  have ql := (Array.getElem?_eq_some_iff.1 HK2.out).1
  obtain ⟨rv, w2, hcv, hrow, hb2⟩ := conv_runes s w1 hs
  have hcall := anyRune_any (runeL s s.size 0) rv w2 (by have := runeL_len s s.size 0; omega) (runeL_max s s.size 0) hrow
  obtain ⟨RA, rc, hrv⟩ := hrow.slice
  subst hrv
  rw [any_odd, runes_bytes s s.size 0 (by omega), List.drop_zero] at hcall
  have HB2 := hid (bl_trans HB1.out hb2)
  have HK3 := hid (heap_mono HK2.out hb2)
  clear hrow hb2
  cases hall : (bytesL s).all isLet with
  | false =>
    rw [hall] at hcall
    have e1 : CE = 8 := by rw [HCE1.out, if_pos hall]
    subst e1
    clear hall
    go_wp2_with fail
    refine hcall.mono ?_
    rintro e w3 ⟨rfl, hb3⟩
    have HB3 := hid (bl_trans HB2.out hb3)
    clear hcall hb3 q2 ql hcv
    go_wp2
    go_ret
    exact ⟨rfl, HB3.out⟩
  | true =>
  rw [hall] at hcall
  have HCE2 := hid (show CE = if inC (x, y) = false then 3 else chainF (x, y) s.size (x, y) (fun _ => 0) 0 (bytesL s) by rw [HCE1.out, if_neg (by rw [hall]; decide)])
  clear hall HCE1
  go_wp2_with fail
  refine hcall.mono ?_
  rintro e w3 ⟨rfl, hb3⟩
  have HB3 := hid (bl_trans HB2.out hb3)
  have HK4 := hid (heap_mono HK3.out hb3)
  clear hcall hb3 q2 ql hcv HK2 HK3 HB1 HB2
  have q0 : w3.cell? ⟨X, 0, none⟩ = some (.int .i64 x) := cell_of_heap HK4.out
  have q1 : w3.cell? ⟨X, 1, none⟩ = some (.int .i64 y) := cell_of_heap HK4.out
  have ql := (Array.getElem?_eq_some_iff.1 HK4.out).1
  have hb4 := hid (bl_alloc HB3.out (.cells #[.int .i64 x, .int .i64 y] 3))
  have HK5 := hid (heap_mono HK4.out (bl_alloc (bl_refl w3) (.cells #[.int .i64 x, .int .i64 y] 3)))
  have hcall := within_any 0 8 [x, y] (.slice (some ⟨w3.heap.size, 0, none⟩) 2 2) (w3.alloc (.cells #[.int .i64 x, .int .i64 y] 3)) (by simp) (ints_row (l := [x, y]) (World.alloc_heap_new w3 _))
  rw [within_in (x, y)] at hcall
  cases hin : inC (x, y) with
  | false =>
    rw [hin] at hcall
    have e1 : CE = 3 := by rw [HCE2.out, if_pos hin]
    subst e1
    clear hin
    go_wp2_with fail
    refine hcall.mono ?_
    rintro e w4 ⟨rfl, hb5⟩
    have HB4 := hid (bl_trans hb4.out hb5)
    clear hcall hb5 q0 q1 ql
    go_wp2
    go_ret
    exact ⟨rfl, HB4.out⟩
  | true =>
  rw [hin] at hcall
  have HCE3 := hid (show chainF (x, y) s.size (x, y) (fun _ => 0) 0 (bytesL s) = CE by rw [HCE2.out, if_neg (by rw [hin]; decide)])
  have HBD := hid (inC_bd hin)
  clear hin HCE2
  go_wp2_with fail
  refine hcall.mono ?_
  rintro e w4 ⟨rfl, hb5⟩
  have HB4 := hid (bl_trans hb4.out hb5)
  have HK6 := hid (heap_mono HK5.out hb5)
  clear hcall hb5 q0 q1 ql hb4 HK4 HK5 HB3
  have hmm := @run_makeMap Try.prog
  have q0 : w4.cell? ⟨X, 0, none⟩ = some (.int .i64 x) := cell_of_heap HK6.out
  have q1 : w4.cell? ⟨X, 1, none⟩ = some (.int .i64 y) := cell_of_heap HK6.out
  have q2 : w4.cell? ⟨X, 2, none⟩ = some (.string s) := cell_of_heap HK6.out
  have ql := (Array.getElem?_eq_some_iff.1 HK6.out).1
  have b1 := bl_alloc (bl_refl w4) (.map #[] 0)
  have b2 := bl_alloc (bl_refl (w4.alloc (.map #[] 0))) (.cells #[.int .i64 x, .int .i64 y] 111)
  have k1 := (SpotN.made w4).mono b2
  have k2 := World.alloc_heap_new (w4.alloc (.map #[] 0)) (.cells #[.int .i64 x, .int .i64 y] 111)
  rw [World.size_alloc] at k2
  obtain ⟨cap, w6, hcv, hcap, hby, hb6, hsz6⟩ := conv_at s ((w4.alloc (.map #[] 0)).alloc (.cells #[.int .i64 x, .int .i64 y] 111))
  rw [World.size_alloc, World.size_alloc] at hcv hby hsz6
  have HB6 := hid (bl_trans HB4.out (bl_trans (bl_trans b1 b2) hb6))
  have HSN := hid (k1.mono hb6)
  have HAT := hid (heap_mono k2 hb6)
  have HK7 := hid (heap_mono (heap_mono (heap_mono HK6.out b1) b2) hb6)
  have hw4s := HB4.out.size
  clear b1 b2 k1 k2 hb6 HB4
  go_wp2
  have hXM0 := (Array.getElem?_eq_some_iff.1 HK6.out).1
  clear hmm hcv q0 q1 q2 ql HK6
  obtain ⟨MB, hMB⟩ : ∃ MB, w4.heap.size = MB := ⟨_, rfl⟩
  have hMBw : w.heap.size ≤ MB := by omega
  have hXM : X < MB := by omega
  rw [hMB] at HSN HAT hby hsz6 ⊢
  obtain ⟨AT, hAT⟩ : ∃ AT, MB + 1 = AT := ⟨_, rfl⟩
  rw [hAT] at HAT hby hsz6 ⊢
  obtain ⟨BB, hBB⟩ : ∃ BB, AT + 1 = BB := ⟨_, rfl⟩
  rw [hBB] at hby hsz6 ⊢
  have HBY := hid hby
  have HSZ := hid (show MB < AT ∧ AT < BB ∧ BB < w6.heap.size ∧ X < MB from by omega)
  have HATw := hid (show w.heap.size ≤ AT by omega)
  have hszI : (s.size : Int) ≤ 80 := by omega
  clear hby hsz6 hMB hAT hBB hw4s hXM0
  go_loopw [39] (fun p wr => ∃ (k : Nat) (px py : Int) (us : Used) (L : Nat), k ≤ s.size ∧ p = .int .i64 (k : Int) ∧ chainF (x, y) s.size (px, py) us L ((bytesL s).drop k) = CE ∧ ((0 ≤ px ∧ px ≤ 8) ∧ (0 ≤ py ∧ py ≤ 8)) ∧ wr.heap[AT]? = some (.cells #[.int .i64 px, .int .i64 py] 111 (0, 0)) ∧ SpotN wr MB us L ∧ (∀ q, 0 ≤ us q ∧ us q ≤ k) ∧ OnlyB [MB, AT] w6 wr ∧ Below w.heap.size w wr) (fun p _ => s.size - (intOf p).toNat)
  case atStart => exact ⟨0, x, y, _, 0, Nat.zero_le _, rfl, HCE3.out, HBD.out, HAT.out, HSN.out, fun q => ⟨by omega, by simp⟩, OnlyB.refl _ _, HB6.out⟩
  case round =>
  clear HAT HSN
  obtain ⟨k, px, py, us, L, hk, rfl, hch, hbd, hat, hsn, hus, hob, hB⟩ := hrel
  have HCH := hid hch
  have HBDp := hid hbd
  have HAT := hid hat
  have HSN := hid hsn
  have HUS := hid hus
  have HOB := hid hob
  have HBr := hid hB
  have a0 : wr.cell? ⟨AT, 0, none⟩ = some (.int .i64 px) := cell_of_heap hat
  have a1 : wr.cell? ⟨AT, 1, none⟩ = some (.int .i64 py) := cell_of_heap hat
  have af : ∀ i, wr.frozen? ⟨AT, i, none⟩ = false := fun i => frozen_of_heap hat
  have al := (Array.getElem?_eq_some_iff.1 hat).1
  have hkx := heap_only hob HK7.out (by have := HSZ.out; simp; omega)
  by_cases hlt : k < s.size
  · obtain ⟨b, hb⟩ := get_at (l := bytesL s) (k := k) (by rw [bytesL_len]; exact hlt)
    have hdr : (bytesL s).drop k = b :: (bytesL s).drop (k + 1) := List.drop_eq_getElem_cons (by rw [bytesL_len]; exact hlt) ▸ by rw [(List.getElem?_eq_some_iff.1 hb).2]
    rw [hdr] at hch
    have hbc : wr.cell? ⟨BB, k, none⟩ = some (.int .u8 (b : Int)) := (World.cell?_of_block (hob.2 BB (by have := HSZ.out; simp; omega) (by have := HSZ.out; omega))).trans (HBY.out k b hb)
    have hbl : BB < wr.heap.size := by have := hob.1; have := HSZ.out; omega
    have hcall := next_any px py b wr (by omega) (by omega)
    obtain ⟨nx, ny, hstep⟩ : ∃ nx ny, stepC (px, py) b = (nx, ny) := ⟨_, _, rfl⟩
    have hsb := stepC_bd (p := (px, py)) b hbd
    rw [hstep] at hcall hsb
    simp only at hcall hsb
    have hch2 : (if inC (nx, ny) = false then 3 else chainF (x, y) s.size (nx, ny) (updS us (nx, ny) (us (nx, ny) + 1)) (if us (nx, ny) = 0 then L + 1 else L) ((bytesL s).drop (k + 1))) = CE := by rw [← hch]; conv => rhs; unfold chainF; rw [hstep]
    have HCH2 := hid hch2
    have hkI : (k : Int) < (s.size : Int) := by omega
    have hcapI := hcap
    clear hch hdr hbd hat hsn hus hob hB hstep hb hch2 hkx
    go_wp2_with fail
    refine hcall.mono ?_
    rintro e w5 ⟨rfl, hb5⟩
    have HAT5 := hid (heap_mono HAT.out hb5)
    have HSN5 := hid (HSN.out.mono hb5)
    have HOB5 := hid (HOB.out.trans (OnlyB.below hb5))
    have HB5 := hid (bl_trans HBr.out hb5)
    have g0 : w5.cell? ⟨AT, 0, none⟩ = some (.int .i64 px) := cell_of_heap HAT5.out
    have g1 : w5.cell? ⟨AT, 1, none⟩ = some (.int .i64 py) := cell_of_heap HAT5.out
    have gf : ∀ i, w5.frozen? ⟨AT, i, none⟩ = false := fun i => frozen_of_heap HAT5.out
    have gl := (Array.getElem?_eq_some_iff.1 HAT5.out).1
    clear hcall hb5 a0 a1 af al hbc hbl HAT HSN HOB HBr
    have hst2 := set_two HAT5.out (.int .i64 nx) (.int .i64 ny)
    have hset1 : (w5.setCell ⟨AT, 0, none⟩ (.int .i64 nx)).heap[AT]? = some (.cells #[.int .i64 nx, .int .i64 py] 111 (0, 0)) := by rw [heap_setCell_same _ _ _ _ _ _ HAT5.out]; rfl
    have HAT6 := hid hst2
    have HSN6 := hid ((HSN5.out.past (o := 0) HAT5.out (.int .i64 nx)).past (o := 1) hset1 (.int .i64 ny))
    have HOB6 := hid (HOB5.out.trans ((OnlyB.set (bs := [MB, AT]) (B := AT) (o := 0) (u := .int .i64 nx) (by simp)).trans (OnlyB.set (bs := [MB, AT]) (B := AT) (o := 1) (u := .int .i64 ny) (by simp))))
    have HB6' := hid (bl_set (o := 1) (bl_set (o := 0) HB5.out (.int .i64 nx) HATw.out) (.int .i64 ny) HATw.out)
    clear hst2 hset1 HAT5 HSN5 HOB5 HB5
    go_upto_region 14 with (fail)
    obtain ⟨w7, hw7⟩ : ∃ w7, (w5.setCell ⟨AT, 0, none⟩ (.int .i64 nx)).setCell ⟨AT, 1, none⟩ (.int .i64 ny) = w7 := ⟨_, rfl⟩
    rw [hw7] at HAT6 HSN6 HOB6 HB6' ⊢
    clear hw7 g0 g1 gf gl
    have g0 : w7.cell? ⟨AT, 0, none⟩ = some (.int .i64 nx) := cell_of_heap HAT6.out
    have g1 : w7.cell? ⟨AT, 1, none⟩ = some (.int .i64 ny) := cell_of_heap HAT6.out
    have gl := (Array.getElem?_eq_some_iff.1 HAT6.out).1
    have hcall := within_any 0 8 [nx, ny] (.slice (some ⟨w7.heap.size, 0, none⟩) 2 2) (w7.alloc (.cells #[.int .i64 nx, .int .i64 ny] 3)) (by simp) (ints_row (l := [nx, ny]) (World.alloc_heap_new w7 _))
    rw [within_in (nx, ny)] at hcall
    have b8 := hid (bl_alloc (bl_refl w7) (.cells #[.int .i64 nx, .int .i64 ny] 3))
    cases hin : inC (nx, ny) with
    | false =>
      rw [hin] at hcall
      have hce : CE = 3 := by have h := HCH2.out; rw [if_pos hin] at h; exact h.symm
      have HCE9 := hid hce
      clear hin hce
      go_wp2_with fail
      refine hcall.mono ?_
      rintro e w9 ⟨rfl, hb9⟩
      have HB9 := hid (bl_trans HB6'.out (bl_trans b8.out hb9))
      clear hcall hb9 g0 g1 gl
      go_wp2
      go_ret
      exact ⟨by rw [HCE9.out]; rfl, HB9.out⟩
    | true =>
      rw [hin] at hcall
      have hch3 : chainF (x, y) s.size (nx, ny) (updS us (nx, ny) (us (nx, ny) + 1)) (if us (nx, ny) = 0 then L + 1 else L) ((bytesL s).drop (k + 1)) = CE := by have h := HCH2.out; rw [if_neg (by rw [hin]; decide)] at h; exact h
      have HCH3 := hid hch3
      have HBN := hid (inC_bd hin)
      clear hin hch3
      go_wp2_with fail
      refine hcall.mono ?_
      rintro e w9 ⟨rfl, hb9⟩
      have b9 := bl_trans b8.out hb9
      have HAT7 := hid (heap_mono HAT6.out b9)
      have HSN7 := hid (HSN6.out.mono b9)
      have HOB7 := hid (HOB6.out.trans (OnlyB.below b9))
      have HB7 := hid (bl_trans HB6'.out b9)
      obtain ⟨L2, hL2⟩ : ∃ L2, (if us (nx, ny) = 0 then L + 1 else L) = L2 := ⟨_, rfl⟩
      rw [hL2] at HCH3
      have HL2 := hid hL2.symm
      clear hcall hb9 g0 g1 gl b9 b8 HAT6 HSN6 HOB6 HB6' hL2
      obtain ⟨w7, hw7⟩ : ∃ w7, w9 = w7 := ⟨_, rfl⟩
      rw [hw7] at HAT7 HSN7 HOB7 HB7 ⊢
      clear hw7
      obtain ⟨px, hpx⟩ : ∃ px, nx = px := ⟨_, rfl⟩
      obtain ⟨py, hpy⟩ : ∃ py, ny = py := ⟨_, rfl⟩
      rw [hpx, hpy] at HCH3 HL2
      rw [hpx, hpy] at HAT7 HBN
      clear hpx hpy
      go_upto_region 16 with (fail)
      have hAM : AT ∉ [MB] := by have := HSZ.out; simp; omega
      have hadd : IntKind.i64.wrap (us (px, py) + 1) = us (px, py) + 1 := IntWalk.i64_in _ (by have := HUS.out (px, py); omega)
      refine wp_region_valsG w HB7.out [53, 54, 55, 56, 57, 58] (fun seen u W => (seen 0 = true → u 53 = .map (some MB)) ∧
        (seen 1 = true → u 54 = .agg #[.int .i64 px, .int .i64 py]) ∧
        (seen 2 = true → u 55 = .int .i64 (us (px, py))) ∧
        (seen 3 = true → u 56 = .int .i64 (us (px, py) + 1)) ∧
        (seen 4 = true → ∃ b : Nat, u 57 = .tuple #[.int .i64 (us (px, py)), goInt b] ∧ (seen 6 = false → SpotEN W MB us L2 b (px, py))) ∧
        (seen 5 = true → u 58 = second (u 57)) ∧
        (seen 6 = true → True) ∧
        (seen 5 = true → seen 4 = true) ∧
        (seen 6 = true → seen 2 = true) ∧
        (seen 6 = true → seen 4 = true) ∧
        (seen 3 = true → seen 2 = true) ∧
        (seen 4 = false → SpotN W MB us L) ∧
        (seen 6 = true → SpotN W MB (updS us (px, py) (us (px, py) + 1)) L2) ∧
        (OnlyB [MB] w7 W) ∧
        (Below w.heap.size w W))
        (by kernel_rfl) (by kernel_rfl) (by kernel_rfl) (by simp) ⟨by simp [valsOf], by simp [valsOf], by simp [valsOf], by simp [valsOf], by simp [valsOf], by simp [valsOf], by simp [valsOf], by simp [valsOf], by simp, by simp, by simp, fun _ => HSN7.out.mono (bl_drew (bl_refl w7)), by simp, OnlyB.below (bl_drew (bl_refl w7)), bl_trans HB7.out (bl_drew (bl_refl w7))⟩ ?_ ?_
      · intro i o ho seen a' w9 hb9 ⟨F0, F1, F2, F3, F4, F5, F6, F7, F8, F9, F10, F11, F12, F13, F14⟩ hv hsi hdep
        have hat := heap_only F13 HAT7.out hAM
        have p0 : w9.cell? ⟨AT, 0, none⟩ = some (.int .i64 px) := cell_of_heap hat
        have p1 : w9.cell? ⟨AT, 1, none⟩ = some (.int .i64 py) := cell_of_heap hat
        have pl := (Array.getElem?_eq_some_iff.1 hat).1
        rcases i with _ | _ | _ | _ | _ | _ | _ | i <;> simp only [List.getElem?_cons_zero, List.getElem?_cons_succ, List.getElem?_nil, Option.some.injEq, reduceCtorEq] at ho <;> subst ho
        · refine if_free rfl ?_
          have x4 := val_at (hv 4 (by simp))
          simp [valsOf] at x4
          refine wp_value (.map (some MB)) (w' := w9) (by simp [execOp, x4, go_sem, p0, p1, pl, hadd]) ⟨_, rfl, hb9, ?_⟩
          exact ⟨by simp, by simpa using F1, by simpa using F2, by simpa using F3, by simpa using F4, by simpa using F5, by simpa using F6, by simpa using F7, by simpa using F8, by simpa using F9, by simpa using F10, by simpa using F11, by simpa using F12, by simpa using F13, by simpa using F14⟩
        · refine if_free rfl ?_
          have x5 := val_at (hv 5 (by simp))
          simp [valsOf] at x5
          refine wp_value (.agg #[.int .i64 px, .int .i64 py]) (w' := w9) (by simp [execOp, x5, go_sem, p0, p1, pl, hadd]) ⟨_, rfl, hb9, ?_⟩
          exact ⟨by simpa using F0, by simp, by simpa using F2, by simpa using F3, by simpa using F4, by simpa using F5, by simpa using F6, by simpa using F7, by simpa using F8, by simpa using F9, by simpa using F10, by simpa using F11, by simpa using F12, by simpa using F13, by simpa using F14⟩
        · refine if_free rfl ?_
          have d0 := hdep ⟨0, .data⟩ (by simp) rfl
          have e0 := val_at (F0 d0)
          have d1 := hdep ⟨1, .data⟩ (by simp) rfl
          have e1 := val_at (F1 d1)
          have hs6 : seen 6 = false := by { cases hq : seen 6 with | false => rfl | true => exact absurd (F8 hq) (by rw [hsi]; decide) }
          have hlk : (Instr.lookup 118 (.map (some MB)) (encS (px, py)) false).run Try.prog w9 = .ok (.int .i64 (us (px, py))) w9 := by
            cases h4 : seen 4 with
            | false => exact (F11 h4).map.lookupC (px, py)
            | true => obtain ⟨b, _, hE⟩ := F4 h4; exact (hE hs6).map.lookupC (px, py)
          simp only [encS] at hlk
          refine wp_value (.int .i64 (us (px, py))) (w' := w9) (by simp [execOp, e0, e1, go_sem, hlk]) ⟨_, rfl, hb9, ?_⟩
          exact ⟨by simpa using F0, by simpa using F1, by simp, by simpa using F3, by simpa using F4, by simpa using F5, by simpa using F6, by simpa using F7, by simp, by simpa using F9, by simp, by simpa using F11, by simpa using F12, by simpa using F13, by simpa using F14⟩
        · refine if_free rfl ?_
          have d2 := hdep ⟨2, .data⟩ (by simp) rfl
          have e2 := val_at (F2 d2)
          refine wp_value (.int .i64 (us (px, py) + 1)) (w' := w9) (by simp [execOp, e2, go_sem, p0, p1, pl, hadd]) ⟨_, rfl, hb9, ?_⟩
          exact ⟨by simpa using F0, by simpa using F1, by simpa using F2, by simp, by simpa using F4, by simpa using F5, by simpa using F6, by simpa using F7, by simpa using F8, by simpa using F9, by simpa using d2, by simpa using F11, by simpa using F12, by simpa using F13, by simpa using F14⟩
        · refine if_free rfl ?_
          have d0 := hdep ⟨0, .data⟩ (by simp) rfl
          have e0 := val_at (F0 d0)
          have d1 := hdep ⟨1, .data⟩ (by simp) rfl
          have e1 := val_at (F1 d1)
          have hs6 : seen 6 = false := by { cases hq : seen 6 with | false => rfl | true => exact absurd (F9 hq) (by rw [hsi]; decide) }
          have EO := F13
          have EB := F14
          obtain ⟨W2, b, o, hrun, hW2, hE⟩ := (F11 hsi).entry (px, py)
          simp only [encS] at hrun
          refine wp_value (.tuple #[.int .i64 (us (px, py)), goInt b]) (w' := W2) (by simp [execOp, e0, e1, go_sem, hrun]) ⟨_, rfl, by rw [hW2]; exact below_put hb9 hMBw, ?_⟩
          exact ⟨by simpa using F0, by simpa using F1, by simpa using F2, by simpa using F3, by exact fun _ => ⟨b, by simp, fun _ => by rw [HL2.out]; exact hE⟩, by simpa using fun h => absurd (F7 h) (by rw [hsi]; decide), by simpa using F6, by simpa using F7, by simpa using F8, by simp, by simpa using F10, by simp, by simp [hs6], by exact EO.trans (by rw [hW2]; exact OnlyB.put (by simp)), by rw [hW2]; exact below_put EB hMBw⟩
        · refine if_free rfl ?_
          have d4 := hdep ⟨4, .data⟩ (by simp) rfl
          obtain ⟨b, hb, _⟩ := F4 d4
          have e57 := val_at hb
          refine wp_value (goInt b) (w' := w9) (by simp [execOp, e57, go_sem]) ⟨_, rfl, hb9, ?_⟩
          exact ⟨by simpa using F0, by simpa using F1, by simpa using F2, by simpa using F3, by simpa using F4, by simp [hb, second], by simpa using F6, by simpa using d4, by simpa using F8, by simpa using F9, by simpa using F10, by simpa using F11, by simpa using F12, by simpa using F13, by simpa using F14⟩
        · refine if_free rfl ?_
          have d0 := hdep ⟨0, .data⟩ (by simp) rfl
          have e0 := val_at (F0 d0)
          have d5 := hdep ⟨5, .data⟩ (by simp) rfl
          have e5 := val_at (F5 d5)
          have d3 := hdep ⟨3, .data⟩ (by simp) rfl
          have e3 := val_at (F3 d3)
          have EO := F13
          have EB := F14
          have d4 := F7 d5
          have d2 := F10 d3
          obtain ⟨b, hb, hE⟩ := F4 d4
          have e58 : a'.tmps[58]?.getD undef = goInt b := (val_at (F5 d5)).trans (by rw [hb]; rfl)
          obtain ⟨W2, o, hrun, hW2, hnew⟩ := (hE hsi).store (us (px, py) + 1) (by have := HUS.out (px, py); omega)
          simp only [goInt] at hrun
          refine wp_effect (w' := W2) (by simp [execOp, e0, e3, e58, go_sem, hrun]) ⟨_, rfl, by rw [hW2]; exact below_put hb9 hMBw, ?_⟩
          exact ⟨by simpa using F0, by simpa using F1, by simpa using F2, by simpa using F3, by simpa using fun h => (let ⟨b, hb, _⟩ := F4 h; ⟨b, hb⟩ : ∃ b, _ = _), by simpa using F5, by simp, by simpa using F7, by simpa using d2, by simpa using d4, by simpa using F10, by simp [d4], by simpa using hnew, by exact EO.trans (by rw [hW2]; exact OnlyB.put (by simp)), by rw [hW2]; exact below_put EB hMBw⟩
      intro u w5 hb5 seen hall ⟨F0, F1, F2, F3, F4, F5, F6, F7, F8, F9, F10, F11, F12, F13, F14⟩
      replace F0 := F0 (hall 0 (by decide))
      replace F1 := F1 (hall 1 (by decide))
      replace F2 := F2 (hall 2 (by decide))
      replace F3 := F3 (hall 3 (by decide))
      replace F4 := F4 (hall 4 (by decide))
      replace F5 := F5 (hall 5 (by decide))
      replace F6 := F6 (hall 6 (by decide))
      have hs6 := hall 6 (by decide)
      have HSN9 := hid (F12 hs6)
      have HOB9 := hid F13
      have HB9 := hid F14
      simp only [setAll, List.setIfInBounds_toArray, List.set_cons_zero, List.set_cons_succ]
      clear F0 F1 F2 F3 F4 F5 F6 F7 F8 F9 F10 F11 F12 F13 F14 hall seen hs6 hb5 hadd
      have HAT9 := hid (heap_only HOB9.out HAT7.out hAM)
      have HOBf := hid (show OnlyB [MB, AT] w6 w5 from HOB7.out.trans ⟨HOB9.out.1, fun i hi hl => HOB9.out.2 i (fun hm => hi (by simp at hm ⊢; exact .inl hm)) hl⟩)
      go_wp2
      go_roundw
      case rel => exact ⟨k + 1, px, py, _, L2, by omega, by go_num, HCH3.out, HBN.out, HAT9.out, HSN9.out, fun q => by
        have h := HUS.out q
        unfold updS
        split
        · have h2 := HUS.out (px, py); omega
        · omega, HOBf.out, HB9.out⟩
      case measure => simp [intOf]; omega
  · obtain rfl : k = s.size := by omega
    rw [List.drop_of_length_le (by rw [bytesL_len]; exact Nat.le_refl _)] at hch
    have hch2 : (if ((px, py) : Corner) ≠ (x, y) ∨ L < s.size then 19 else 0) = CE := hch
    have HCH2 := hid hch2
    have q0 : wr.cell? ⟨X, 0, none⟩ = some (.int .i64 x) := cell_of_heap hkx
    have q1 : wr.cell? ⟨X, 1, none⟩ = some (.int .i64 y) := cell_of_heap hkx
    have q2 : wr.cell? ⟨X, 2, none⟩ = some (.string s) := cell_of_heap hkx
    have ql := (Array.getElem?_eq_some_iff.1 hkx).1
    have hlen := hsn.len 3
    clear hch hbd hat hsn hus hob hB hch2 hkx hlt
    by_cases hne : ((px, py) : Corner) = (x, y)
    · injection hne with e1 e2
      subst e1 e2
      by_cases hL : L < s.size
      · have t1 : decide ((L : Int) < (s.size : Int)) = true := decide_eq_true (by omega)
        have hce := HCH2.out
        rw [if_pos (.inr hL)] at hce
        have HCE9 := hid hce
        clear hce
        go_wp2
        go_ret
        exact ⟨by rw [← HCE9.out]; rfl, HBr.out⟩
      · have t1 : decide ((L : Int) < (s.size : Int)) = false := decide_eq_false (by omega)
        have hce := HCH2.out
        rw [if_neg (fun h => by rcases h with h | h; exact h rfl; exact hL h)] at hce
        have HCE9 := hid hce
        clear hce
        go_wp2
        go_ret
        exact ⟨by rw [← HCE9.out]; rfl, HBr.out⟩
    · have hce := HCH2.out
      rw [if_pos (.inl hne)] at hce
      have HCE9 := hid hce
      clear hce hlen
      by_cases hx1 : px = x
      · subst hx1
        have hy1 : ¬ py = y := fun h => hne (by rw [h])
        clear hne
        go_wp2
        go_ret
        exact ⟨by rw [← HCE9.out]; rfl, HBr.out⟩
      · clear hne
        go_wp2
        go_ret
        exact ⟨by rw [← HCE9.out]; rfl, HBr.out⟩
end Go.Proofs.Ytlkoadcbolkhoaa
