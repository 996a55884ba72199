/- Which cells a chain encloses: the walk. -/
import Derived.Test.YtlkoadcbolkhoaaArea
import Derived.Test.YtlkoadcbolkhoaaMost
set_option linter.all false
namespace Go.Proofs.Ytlkoadcbolkhoaa
open Go Go.RowKit Go.Proofs
attribute [local go_sem] cell_grow frozen_grow

def flipRow (row : Int) : Nat → List Int → List Int
  | 0, l => l
  | n + 1, l => (flipRow row n l).set (row.toNat * 8 + n) (1 - (flipRow row n l).getD (row.toNat * 8 + n) 0)
def encF : Corner → List Nat → List Int → List Int
  | _, [], l => l
  | p, b :: bs, l => encF (stepC p b) bs (if p.1 = (stepC p b).1 then flipRow (min p.2 (stepC p b).2) p.1.toNat l else l)
def enclL (x y : Int) (s : ByteArray) : List Int := if chainE x y s = 0 then pickC (fun c => decide ((encF (x, y) (bytesL s) (List.replicate 64 0)).getD c.toNat 0 = 1)) 64 else []

theorem flipRow_len (row : Int) : ∀ (n : Nat) (l : List Int), (flipRow row n l).length = l.length
  | 0, _ => rfl
  | n + 1, l => by simp [flipRow, flipRow_len row n l]
theorem flipRow_bit (row : Int) {l : List Int} (h : ∀ i, l.getD i 0 = 0 ∨ l.getD i 0 = 1) : ∀ (n : Nat) (i : Nat), (flipRow row n l).getD i 0 = 0 ∨ (flipRow row n l).getD i 0 = 1
  | 0, i => h i
  | n + 1, i => by
    unfold flipRow
    have ih := flipRow_bit row h n
    rw [List.getD_eq_getElem?_getD, List.getElem?_set]
    split
    · split
      · simp only [Option.getD_some]
        have := ih (row.toNat * 8 + n); omega
      · exact .inl rfl
    · rw [← List.getD_eq_getElem?_getD]; exact ih i
def RowJ (W : World) (G : Nat) (l : List Int) : Prop := W.heap[G]? = some (.cells (ints l).toArray 109 (0, 0))
theorem RowJ.cell {W : World} {G : Nat} {l : List Int} (h : RowJ W G l) {i : Nat} (hi : i < l.length) : W.cell? ⟨G, i, none⟩ = some (.int .i64 (l.getD i 0)) := by
  refine (cell_of_heap h).trans ?_
  simp [ints, List.getD_eq_getElem?_getD, hi]
theorem RowJ.set {W : World} {G : Nat} {l : List Int} (h : RowJ W G l) (i : Nat) (x : Int) : RowJ (W.setCell ⟨G, i, none⟩ (.int .i64 x)) G (l.set i x) := by
  unfold RowJ
  rw [heap_setCell_same _ _ _ _ _ _ h]
  congr 2
  apply Array.ext'
  simp [ints, List.map_set]
theorem isz109 : (Try.prog.info? 109).map (·.size) = some 64 := by kernel_rfl
theorem isz108 : (Try.prog.info? 108).map (·.size) = some 8 := by kernel_rfl
theorem zeros64 : (ints (List.replicate 64 0)).toArray = #[.int .i64 0, .int .i64 0, .int .i64 0, .int .i64 0, .int .i64 0, .int .i64 0, .int .i64 0, .int .i64 0, .int .i64 0, .int .i64 0, .int .i64 0, .int .i64 0, .int .i64 0, .int .i64 0, .int .i64 0, .int .i64 0, .int .i64 0, .int .i64 0, .int .i64 0, .int .i64 0, .int .i64 0, .int .i64 0, .int .i64 0, .int .i64 0, .int .i64 0, .int .i64 0, .int .i64 0, .int .i64 0, .int .i64 0, .int .i64 0, .int .i64 0, .int .i64 0, .int .i64 0, .int .i64 0, .int .i64 0, .int .i64 0, .int .i64 0, .int .i64 0, .int .i64 0, .int .i64 0, .int .i64 0, .int .i64 0, .int .i64 0, .int .i64 0, .int .i64 0, .int .i64 0, .int .i64 0, .int .i64 0, .int .i64 0, .int .i64 0, .int .i64 0, .int .i64 0, .int .i64 0, .int .i64 0, .int .i64 0, .int .i64 0, .int .i64 0, .int .i64 0, .int .i64 0, .int .i64 0, .int .i64 0, .int .i64 0, .int .i64 0, .int .i64 0] := rfl
theorem load109 {W : World} {G : Nat} {l : List Int} (h : RowJ W G l) (hl : l.length = 64) : (loadVar 109 ⟨G, 0, none⟩).run Try.prog W = .ok (.agg (ints l).toArray) W := by
  have a := Try.isAgg109
  have z := Try.sizeOf109
  have hc := run_loadCells_list (P := Try.prog) W ⟨G, 0, none⟩ (ints l) (fun j v hv => by
    rw [Addr.add_lit, Nat.zero_add, cell_of_heap h]
    simpa using hv)
  have hl' : (ints l).length = 64 := by simp [ints, hl]
  rw [hl'] at hc
  unfold loadVar
  simp [Sem.run_bind, a, z, hc, Result.andThen]
def row8 (l : List Int) (k : Nat) : List Int := [l.getD (k * 8) 0, l.getD (k * 8 + 1) 0, l.getD (k * 8 + 2) 0, l.getD (k * 8 + 3) 0, l.getD (k * 8 + 4) 0, l.getD (k * 8 + 5) 0, l.getD (k * 8 + 6) 0, l.getD (k * 8 + 7) 0]
theorem index109 {W : World} {l : List Int} (hl : l.length = 64) {k : Nat} (hk : k < 8) : (Instr.index 109 (.agg (ints l).toArray) (.int .i64 (k : Int))).run Try.prog W = .ok (.agg (ints (row8 l k)).toArray) W := by
  have u := Try.underlying109
  have a := Try.isAgg108
  have z := Try.sizeOf108
  have hkI : (0 : Int) ≤ (k : Int) ∧ (k : Int) < 8 := by omega
  have he : (ints l).toArray.extract (k * 8) (k * 8 + 8) = (ints (row8 l k)).toArray := by
    apply Array.ext
    · simp [ints, row8, hl]; omega
    · intro i h1 h2
      have hi : i < 8 := by simpa [ints, row8] using h2
      have hb : k * 8 + i < l.length := by omega
      obtain rfl | rfl | rfl | rfl | rfl | rfl | rfl | rfl : i = 0 ∨ i = 1 ∨ i = 2 ∨ i = 3 ∨ i = 4 ∨ i = 5 ∨ i = 6 ∨ i = 7 := by omega
      all_goals simp [ints, row8, List.getD_eq_getElem?_getD, show k * 8 < l.length by omega, show k * 8 + 1 < l.length by omega, show k * 8 + 2 < l.length by omega, show k * 8 + 3 < l.length by omega, show k * 8 + 4 < l.length by omega, show k * 8 + 5 < l.length by omega, show k * 8 + 6 < l.length by omega, show k * 8 + 7 < l.length by omega]
  have he2 : List.take 8 (List.drop (k * 8) (ints l)) = ints (row8 l k) := by simpa using congrArg Array.toList he
  unfold Instr.index
  simp [Sem.run_bind, asIntOf, run_underlying u, Result.andThen, z, part, a, hk, he2]
theorem index108 {W : World} {l : List Int} {k j : Nat} (hj : j < 8) : (Instr.index 108 (.agg (ints (row8 l k)).toArray) (.int .i64 (j : Int))).run Try.prog W = .ok (.int .i64 (l.getD (k * 8 + j) 0)) W := by
  have u := Try.underlying108
  have a := Try.isAgg3
  have z := Try.sizeOf3
  have hjI : (j : Int) < 8 := by omega
  have he : (ints (row8 l k)).toArray[j]? = some (.int .i64 (l.getD (k * 8 + j) 0)) := by
    obtain rfl | rfl | rfl | rfl | rfl | rfl | rfl | rfl : j = 0 ∨ j = 1 ∨ j = 2 ∨ j = 3 ∨ j = 4 ∨ j = 5 ∨ j = 6 ∨ j = 7 := by omega
    all_goals rfl
  have he2 : (ints (row8 l k))[j]? = some (.int .i64 (l[k * 8 + j]?.getD 0)) := by simpa using he
  unfold Instr.index
  simp [Sem.run_bind, asIntOf, run_underlying u, Result.andThen, z, part, a, hj, he2]

set_option maxRecDepth 100000 in
set_option maxHeartbeats 8000000 in
theorem encl_any (x y : Int) (s : ByteArray) (w : World) (hs : s.size ≤ 1000000) :
    Calls Try.prog 37 #[.agg #[.int .i64 x, .int .i64 y, .string s]] w fun e w' => (∃ v, e = .returned (.tuple #[v, .int .i64 (chainE x y s)]) ∧ Ints w' v (enclL x y s)) ∧ Below w.heap.size w w' := by
  obtain ⟨i3, hi3, hi30, hi31, hi32⟩ := info_parts info3
  have hb0 := bl_alloc (bl_refl w) (.cells #[.int .i64 x, .int .i64 y, .string s] 45)
  have k0 := World.alloc_heap_new w (.cells #[.int .i64 x, .int .i64 y, .string s] 45)
  have HB := hid hb0
  have HK := hid k0
  clear hb0 k0
  have hcall := chkchain_any x y s (w.alloc (.cells #[.int .i64 x, .int .i64 y, .string s] 45)) hs
  obtain ⟨CE, hCE⟩ : ∃ CE, chainE x y s = CE := ⟨_, rfl⟩
  have HCE := hid hCE
  obtain ⟨EL, hEL⟩ : ∃ EL, enclL x y s = EL := ⟨_, rfl⟩
  have HEL := hid hEL
  rw [hCE] at hcall ⊢
  rw [hEL]
  clear hCE hEL
  go_enter Try.func37, Try.ntmps37
  go_upto_region 1 with (fail)
  obtain ⟨w0, hw0⟩ : ∃ w0, w.alloc (.cells #[.int .i64 x, .int .i64 y, .string s] 45) = w0 := ⟨_, rfl⟩
  obtain ⟨X, hX⟩ : ∃ X, w.heap.size = X := ⟨_, rfl⟩
  rw [hX] at HK ⊢
  rw [hw0] at HB HK hcall ⊢
  clear hw0
  have q0 : w0.cell? ⟨X, 0, none⟩ = some (.int .i64 x) := cell_of_heap HK.out
  have q1 : w0.cell? ⟨X, 1, none⟩ = some (.int .i64 y) := cell_of_heap HK.out
  have q2 : w0.cell? ⟨X, 2, none⟩ = some (.string s) := cell_of_heap HK.out
  have ql := (Array.getElem?_eq_some_iff.1 HK.out).1
  go_wp2_with fail
  refine hcall.mono ?_
  rintro e w1 ⟨rfl, hb1⟩
  have HB1 := hid (bl_trans HB.out hb1)
  have HK1 := hid (heap_mono HK.out hb1)
  clear hcall hb1 q0 q1 q2 ql HB HK
  by_cases h0 : CE = 0
  case neg =>
    have t0 : (CE == 0) = false := beq_eq_false_iff_ne.2 h0
    have hs0 : EL = [] := by rw [← HEL.out]; unfold enclL; rw [HCE.out, if_neg h0]
    subst hs0
    clear h0
    have HBf := hid (show Below X w w1 by rw [← hX]; exact HB1.out)
    go_wp2
    go_ret2
    exact ⟨⟨_, rfl, .inl ⟨rfl, rfl⟩⟩, HB1.out⟩
  subst h0
  have hok := chain_ok HCE.out
  have HSH := hid (show pickC (fun c => decide ((encF (x, y) (bytesL s) (List.replicate 64 0)).getD c.toNat 0 = 1)) 64 = EL by rw [← HEL.out]; unfold enclL; rw [HCE.out, if_pos rfl])
  have hsz := hok.1
  have HBD := hid (inC_bd hok.2.1)
  have HCF := hid hok.2.2.1
  have HLET := hid hok.2.2.2
  clear hok
  go_upto_region 5 with (fail)
  rw [← zeros64]
  have b2 := bl_alloc (bl_refl w1) (.cells (ints (List.replicate 64 0)).toArray 109)
  have k2 := World.alloc_heap_new w1 (.cells (ints (List.replicate 64 0)).toArray 109)
  have HB2 := hid (bl_trans HB1.out b2)
  have HI2 := hid k2
  have HK2 := hid (heap_mono HK1.out b2)
  have hw1s := HB1.out.size
  have hz2 : (w1.alloc (.cells (ints (List.replicate 64 0)).toArray 109)).heap.size = w1.heap.size + 1 := by simp
  clear b2 k2
  obtain ⟨w2, hw2⟩ : ∃ w2, w1.alloc (.cells (ints (List.replicate 64 0)).toArray 109) = w2 := ⟨_, rfl⟩
  rw [hw2] at HB2 HI2 HK2 hz2 ⊢
  obtain ⟨IB, hIB⟩ : ∃ IB, w1.heap.size = IB := ⟨_, rfl⟩
  rw [hIB] at HI2 hz2 hw1s ⊢
  clear hw2 HB1 HK1 hIB
  have HZ2 := hid hz2
  clear hz2
  have q0 : w2.cell? ⟨X, 0, none⟩ = some (.int .i64 x) := cell_of_heap HK2.out
  have q1 : w2.cell? ⟨X, 1, none⟩ = some (.int .i64 y) := cell_of_heap HK2.out
  have q2 : w2.cell? ⟨X, 2, none⟩ = some (.string s) := cell_of_heap HK2.out
  have ql := (Array.getElem?_eq_some_iff.1 HK2.out).1
  have b2 := bl_alloc (bl_refl w2) (.cells #[.int .i64 x, .int .i64 y] 111)
  have k2 := World.alloc_heap_new w2 (.cells #[.int .i64 x, .int .i64 y] 111)
  obtain ⟨cap, w6, hcv, hcap, hby, hb6, hsz6⟩ := conv_at s (w2.alloc (.cells #[.int .i64 x, .int .i64 y] 111))
  rw [World.size_alloc] at hcv hby hsz6
  have HB6 := hid (bl_trans HB2.out (bl_trans b2 hb6))
  have HAT := hid (heap_mono k2 hb6)
  have HIB := hid (show RowJ w6 IB (List.replicate 64 0) from heap_mono HI2.out (bl_trans b2 hb6))
  clear b2 k2 hb6
  go_wp2
  clear hcv q0 q1 q2 ql
  obtain ⟨AT, hAT⟩ : ∃ AT, w2.heap.size = AT := ⟨_, rfl⟩
  rw [hAT] at HAT hby hsz6 HZ2 ⊢
  obtain ⟨BB, hBB⟩ : ∃ BB, AT + 1 = BB := ⟨_, rfl⟩
  rw [hBB] at hby hsz6 ⊢
  have HBY := hid hby
  have HSZ := hid (show IB < AT ∧ AT < BB ∧ BB < w6.heap.size from by have := HZ2.out; omega)
  have HATw := hid (show w.heap.size ≤ AT ∧ w.heap.size ≤ IB by have := HZ2.out; omega)
  have hszI : (s.size : Int) ≤ 80 := by omega
  clear hby hsz6 hAT hBB hw1s HZ2
  obtain ⟨FIN, hFIN⟩ : ∃ FIN, encF (x, y) (bytesL s) (List.replicate 64 0) = FIN := ⟨_, rfl⟩
  have HFIN := hid hFIN
  rw [hFIN] at HSH
  clear hFIN
  go_loopw [31] (fun p wr => ∃ (k : Nat) (px py : Int) (us : Used) (L : Nat) (l : List Int), k ≤ s.size ∧ p = .int .i64 (k : Int) ∧ chainF (x, y) s.size (px, py) us L ((bytesL s).drop k) = 0 ∧ ((0 ≤ px ∧ px ≤ 8) ∧ (0 ≤ py ∧ py ≤ 8)) ∧ wr.heap[AT]? = some (.cells #[.int .i64 px, .int .i64 py] 111 (0, 0)) ∧ RowJ wr IB l ∧ l.length = 64 ∧ (∀ i, l.getD i 0 = 0 ∨ l.getD i 0 = 1) ∧ encF (px, py) ((bytesL s).drop k) l = FIN ∧ OnlyB [AT, IB] w6 wr ∧ Below w.heap.size w wr) (fun p _ => s.size - (intOf p).toNat)
  case atStart => exact ⟨0, x, y, _, 0, _, Nat.zero_le _, rfl, HCF.out, HBD.out, HAT.out, HIB.out, by simp, fun i => .inl (by rw [List.getD_eq_getElem?_getD, List.getElem?_replicate]; split <;> rfl), HFIN.out, OnlyB.refl _ _, HB6.out⟩
  case round =>
  clear HAT HIB
  obtain ⟨k, px, py, us, L, l, hk, rfl, hch, hbd, hat, hib, hll, hbit, hen, hob, hB⟩ := hrel
  have HAT := hid hat
  have HIB := hid hib
  have HLL := hid hll
  have HBIT := hid hbit
  have HEN := hid hen
  have HOB := hid hob
  have HBr := hid hB
  have a0 : wr.cell? ⟨AT, 0, none⟩ = some (.int .i64 px) := cell_of_heap hat
  have a1 : wr.cell? ⟨AT, 1, none⟩ = some (.int .i64 py) := cell_of_heap hat
  have al := (Array.getElem?_eq_some_iff.1 hat).1
  by_cases hlt : k < s.size
  · obtain ⟨b, hb⟩ := get_at (l := bytesL s) (k := k) (by rw [bytesL_len]; exact hlt)
    have hdr : (bytesL s).drop k = b :: (bytesL s).drop (k + 1) := List.drop_eq_getElem_cons (by rw [bytesL_len]; exact hlt) ▸ by rw [(List.getElem?_eq_some_iff.1 hb).2]
    rw [hdr] at hch hen
    have hbc : wr.cell? ⟨BB, k, none⟩ = some (.int .u8 (b : Int)) := (World.cell?_of_block (hob.2 BB (by have := HSZ.out; simp; omega) (by have := HSZ.out; omega))).trans (HBY.out k b hb)
    have hbl : BB < wr.heap.size := by have := hob.1; have := HSZ.out; omega
    have hcall := next_any px py b wr (by omega) (by omega)
    obtain ⟨hin, u2, L2, hch2⟩ := chainF_step hch
    obtain ⟨nx, ny, hstep⟩ : ∃ nx ny, stepC (px, py) b = (nx, ny) := ⟨_, _, rfl⟩
    have hen2 : encF (nx, ny) ((bytesL s).drop (k + 1)) (if px = nx then flipRow (min py ny) px.toNat l else l) = FIN := by rw [← hen]; conv => rhs; unfold encF; rw [hstep]
    have hlet : isLet b = true := by have := List.all_eq_true.1 HLET.out b (List.mem_of_getElem? hb); exact this
    have hvert : px = nx → min py ny ≤ 7 := fun h => by
      have h1 := hstep
      unfold stepC at h1
      simp only [isLet, Bool.or_eq_true, decide_eq_true_eq] at hlet
      split at h1
      · injection h1 with h1 h2; omega
      · split at h1
        · injection h1 with h1 h2; have := (inC_bd (p := (nx, ny)) (by rw [← hstep]; exact hin)).2; omega
        · split at h1
          · injection h1 with h1 h2; omega
          · split at h1
            · injection h1 with h1 h2; omega
            · omega
    rw [hstep] at hcall hin hch2
    simp only at hcall
    have HBN := hid (inC_bd hin)
    have HCH2 := hid hch2
    have HEN2 := hid hen2
    have HVT := hid hvert
    have hkI : (k : Int) < (s.size : Int) := by omega
    have hbdI := hbd
    clear hch hen hdr hbd hat hib hll hbit hob hB hstep hb hch2 hin hen2 hvert
    go_wp2_with fail
    refine hcall.mono ?_
    rintro e w5 ⟨rfl, hb5⟩
    have bT := bl_alloc (bl_refl w5) (.cells #[.int .i64 nx, .int .i64 ny] 111)
    have HT := hid (World.alloc_heap_new w5 (.cells #[.int .i64 nx, .int .i64 ny] 111))
    have HAT5 := hid (heap_mono (heap_mono HAT.out hb5) bT)
    have HIB5 := hid (show RowJ _ IB l from heap_mono (heap_mono HIB.out hb5) bT)
    have HOB5 := hid (HOB.out.trans ((OnlyB.below hb5).trans (OnlyB.below bT)))
    have HB5 := hid (bl_trans HBr.out (bl_trans hb5 bT))
    have hmn := min_run py ny 3
    have hATl : AT < w5.heap.size := (Array.getElem?_eq_some_iff.1 (heap_mono HAT.out hb5)).1
    have hIBl : IB < w5.heap.size := (Array.getElem?_eq_some_iff.1 (heap_mono HIB.out hb5)).1
    clear hcall hb5 a0 a1 al hbc hbl HAT HIB HOB HBr bT
    go_upto_region 10 with (fail)
    obtain ⟨T, hT⟩ : ∃ T, w5.heap.size = T := ⟨_, rfl⟩
    obtain ⟨w7, hw7⟩ : ∃ w7, w5.alloc (.cells #[.int .i64 nx, .int .i64 ny] 111) = w7 := ⟨_, rfl⟩
    rw [hT] at HT hATl hIBl ⊢
    rw [hw7] at HT HAT5 HIB5 HOB5 HB5 ⊢
    clear hw7 hT
    have HNE := hid (show T ≠ AT ∧ T ≠ IB ∧ IB ≠ AT by have := HSZ.out; omega)
    clear hATl hIBl
    have a0 : w7.cell? ⟨AT, 0, none⟩ = some (.int .i64 px) := cell_of_heap HAT5.out
    have a1 : w7.cell? ⟨AT, 1, none⟩ = some (.int .i64 py) := cell_of_heap HAT5.out
    have al := (Array.getElem?_eq_some_iff.1 HAT5.out).1
    have c0 : w7.cell? ⟨T, 0, none⟩ = some (.int .i64 nx) := cell_of_heap HT.out
    have c1 : w7.cell? ⟨T, 1, none⟩ = some (.int .i64 ny) := cell_of_heap HT.out
    have cl := (Array.getElem?_eq_some_iff.1 HT.out).1
    by_cases hv : px = nx
    · have hrow : ∃ rn : Nat, min py ny = (rn : Int) ∧ rn < 8 := ⟨(min py ny).toNat, by have := HBN.out.2; omega, by have := HVT.out hv; have := HBN.out.2; omega⟩
      obtain ⟨rn, hrn, hrn8⟩ := hrow
      obtain ⟨pn, hpn⟩ : ∃ pn : Nat, px = (pn : Int) := ⟨px.toNat, by omega⟩
      rw [if_pos hv, hrn] at HEN2
      subst hv
      subst hpn
      rw [hrn] at hmn
      rw [Int.toNat_natCast] at HEN2
      have hpn8 : pn ≤ 8 := by omega
      clear hrn HVT
      go_upto_region 12 with (fail)
      go_wp2
      clear a0 a1 al c0 c1 cl hmn
      go_loopw [50] (fun p wr => ∃ j : Nat, j ≤ pn ∧ p = .int .i64 (j : Int) ∧ RowJ wr IB (flipRow (rn : Int) j l) ∧ OnlyB [IB] w7 wr ∧ Below w.heap.size w wr) (fun p _ => pn - (intOf p).toNat)
      case atStart => exact ⟨0, Nat.zero_le _, rfl, HIB5.out, OnlyB.refl _ _, HB5.out⟩
      case round =>
        obtain ⟨j, hj, rfl, hib, hob, hB⟩ := hrel
        have HIBj := hid hib
        have HOBj := hid hob
        have HBj := hid hB
        by_cases hlt2 : j < pn
        · have hidx : rn * 8 + j < (flipRow (rn : Int) j l).length := by rw [flipRow_len, HLL.out]; omega
          have g0 := hib.cell hidx
          have gf : ∀ i, wr.frozen? ⟨IB, i, none⟩ = false := fun i => frozen_of_heap hib
          have gl := (Array.getElem?_eq_some_iff.1 hib).1
          have hbv := flipRow_bit (rn : Int) HBIT.out j (rn * 8 + j)
          have hfr : flipRow (rn : Int) (j + 1) l = (flipRow (rn : Int) j l).set (rn * 8 + j) (1 - (flipRow (rn : Int) j l).getD (rn * 8 + j) 0) := by rw [show flipRow (rn : Int) (j + 1) l = (flipRow (rn : Int) j l).set ((rn : Int).toNat * 8 + j) (1 - (flipRow (rn : Int) j l).getD ((rn : Int).toNat * 8 + j) 0) from rfl, Int.toNat_natCast]
          obtain ⟨cv, hcv⟩ : ∃ cv, (flipRow (rn : Int) j l).getD (rn * 8 + j) 0 = cv := ⟨_, rfl⟩
          rw [hcv] at g0 hbv hfr
          have wsub : IntKind.i64.wrap (1 - cv) = 1 - cv := IntWalk.i64_in _ (by omega)
          have hrI : (rn : Int) < 8 := by omega
          have hjI : (j : Int) < 8 := by omega
          have hjp : (j : Int) < (pn : Int) := by omega
          have HFR := hid hfr
          clear hib hob hB hbv hfr hidx hcv
          go_upto_region 15 with (fail)
          refine wp_region_below_tail 10 (by kernel_rfl) (by kernel_rfl) ?_
          simp only [List.take_succ_cons, List.take_zero, List.drop_succ_cons, List.drop_zero]
          repeat (first | go_big_quiet_step (fail) | quiet_step (fail))
          refine wpQuiet_nil ?_
          intro w8 hb8
          have HIB8 := hid (show RowJ w8 IB (flipRow (rn : Int) j l) from heap_mono HIBj.out hb8)
          have HOB8 := hid (HOBj.out.trans (OnlyB.below hb8))
          have HB8 := hid (bl_trans HBj.out hb8)
          have d0 := cell_mono g0 hb8
          have df : ∀ i, w8.frozen? ⟨IB, i, none⟩ = false := fun i => frozen_of_heap HIB8.out
          have dl := (Array.getElem?_eq_some_iff.1 HIB8.out).1
          have HIB9 := hid (HIB8.out.set (rn * 8 + j) (1 - cv))
          rw [← HFR.out] at HIB9
          have HOB9 := hid (HOB8.out.trans (OnlyB.set (bs := [IB]) (B := IB) (o := rn * 8 + j) (u := .int .i64 (1 - cv)) (by simp)))
          have HB9 := hid (bl_set (o := rn * 8 + j) HB8.out (.int .i64 (1 - cv)) HATw.out.2)
          clear g0 gf gl hb8 HIBj HOBj HBj
          go_wp2
          go_roundw
          case rel => exact ⟨j + 1, by omega, by go_num, HIB9.out, HOB9.out, HB9.out⟩
          case measure => simp [intOf]; omega
        · obtain rfl : j = pn := by omega
          have hat9 := heap_only hob HAT5.out (by simp; exact HNE.out.2.2.symm)
          have ht9 := heap_only hob HT.out (by simp; exact HNE.out.2.1)
          have c0 : wr.cell? ⟨T, 0, none⟩ = some (.int .i64 (j : Int)) := cell_of_heap ht9
          have c1 : wr.cell? ⟨T, 1, none⟩ = some (.int .i64 ny) := cell_of_heap ht9
          have cl := (Array.getElem?_eq_some_iff.1 ht9).1
          have e0 : wr.cell? ⟨AT, 0, none⟩ = some (.int .i64 (j : Int)) := cell_of_heap hat9
          have e1 : wr.cell? ⟨AT, 1, none⟩ = some (.int .i64 py) := cell_of_heap hat9
          have ef : ∀ i, wr.frozen? ⟨AT, i, none⟩ = false := fun i => frozen_of_heap hat9
          have el := (Array.getElem?_eq_some_iff.1 hat9).1
          have HATn := hid (set_two hat9 (.int .i64 (j : Int)) (.int .i64 ny))
          have HIBn := hid (show RowJ ((wr.setCell ⟨AT, 0, none⟩ (.int .i64 (j : Int))).setCell ⟨AT, 1, none⟩ (.int .i64 ny)) IB (flipRow (rn : Int) j l) from past_set HNE.out.2.2 (past_set HNE.out.2.2 hib))
          have HOBn := hid ((HOB5.out.trans ⟨hob.1, fun i hi hl => hob.2 i (fun hm => hi (by simp at hm ⊢; exact .inr hm)) hl⟩).trans ((OnlyB.set (bs := [AT, IB]) (B := AT) (o := 0) (u := .int .i64 (j : Int)) (by simp)).trans (OnlyB.set (bs := [AT, IB]) (B := AT) (o := 1) (u := .int .i64 ny) (by simp))))
          have HBn := hid (bl_set (o := 1) (bl_set (o := 0) hB (.int .i64 (j : Int)) HATw.out.1) (.int .i64 ny) HATw.out.1)
          have HLN := hid (show (flipRow (rn : Int) j l).length = 64 by rw [flipRow_len, HLL.out])
          have HBTn := hid (flipRow_bit (rn : Int) HBIT.out j)
          clear hib hob hB hat9 ht9 hlt2
          go_wp2
          go_roundw
          case rel => exact ⟨k + 1, (j : Int), ny, u2, L2, _, by omega, by go_num, HCH2.out, HBN.out, HATn.out, HIBn.out, HLN.out, HBTn.out, HEN2.out, HOBn.out, HBn.out⟩
          case measure => simp [intOf]; omega
    · have hveq : (px == nx) = false := beq_eq_false_iff_ne.2 hv
      rw [if_neg hv] at HEN2
      clear hv HVT
      have ef : ∀ i, w7.frozen? ⟨AT, i, none⟩ = false := fun i => frozen_of_heap HAT5.out
      have HATn := hid (set_two HAT5.out (.int .i64 nx) (.int .i64 ny))
      have HIBn := hid (show RowJ ((w7.setCell ⟨AT, 0, none⟩ (.int .i64 nx)).setCell ⟨AT, 1, none⟩ (.int .i64 ny)) IB l from past_set HNE.out.2.2 (past_set HNE.out.2.2 HIB5.out))
      have HOBn := hid (HOB5.out.trans ((OnlyB.set (bs := [AT, IB]) (B := AT) (o := 0) (u := .int .i64 nx) (by simp)).trans (OnlyB.set (bs := [AT, IB]) (B := AT) (o := 1) (u := .int .i64 ny) (by simp))))
      have HBn := hid (bl_set (o := 1) (bl_set (o := 0) HB5.out (.int .i64 nx) HATw.out.1) (.int .i64 ny) HATw.out.1)
      go_wp2
      go_roundw
      case rel => exact ⟨k + 1, nx, ny, u2, L2, l, by omega, by go_num, HCH2.out, HBN.out, HATn.out, HIBn.out, HLL.out, HBIT.out, HEN2.out, HOBn.out, HBn.out⟩
      case measure => simp [intOf]; omega
  · obtain rfl : k = s.size := by omega
    have hfl : l = FIN := by rw [← hen, List.drop_of_length_le (by rw [bytesL_len]; exact Nat.le_refl _)]; rfl
    subst hfl
    obtain ⟨p, hp⟩ : ∃ p : Int → Bool, (fun c => decide (l.getD c.toNat 0 = 1)) = p := ⟨_, rfl⟩
    rw [hp] at HSH
    have HP := hid (show ∀ i : Nat, p (i : Int) = decide (l.getD i 0 = 1) from fun i => by rw [← hp]; rfl)
    clear hch hbd hat hib hll hbit hen hob hB hlt hp a0 a1 al HAT HEN HOB HBIT
    go_wp2_with (refine wpList_load_row rfl 109 (.tmp 5) rfl IB rfl 109 _ (0, 0) _ HIB.out Try.underlying109 rfl (by rw [isz109]; simp [ints, HLL.out]) ?_)
    clear HIB
    obtain ⟨w7, hw7⟩ : ∃ w7, wr = w7 := ⟨_, rfl⟩
    rw [hw7] at HBr ⊢
    have HB0 := hid (bl_refl w7)
    have HO0 := hid (World.ownsRow_nil w7 w7.heap.size 3 1)
    clear hw7
    go_loopw [12, 67] (fun s q wx => ∃ (k : Nat) (v : Value), k ≤ 8 ∧ q = .int .i64 (k : Int) ∧ s = v ∧ wx.ownsRow w7.heap.size 3 1 v (pickC p (k * 8)).length ((pickC p (k * 8)).map (Value.int .i64)) ∧ Below w7.heap.size w7 wx) (fun _ q _ => 8 - (intOf q).toNat)
    case atStart => exact ⟨0, _, Nat.zero_le _, rfl, rfl, HO0.out, HB0.out⟩
    case round =>
      obtain ⟨k, v, hk, rfl, hsv, hown, hB⟩ := hrel
      obtain rfl := hsv.symm
      by_cases hk8 : k < 8
      · have hix : (Instr.index 109 (.agg (ints l).toArray) (.int .i64 (k : Int))).run Try.prog wr = .ok (.agg #[.int .i64 (l.getD (k * 8) 0), .int .i64 (l.getD (k * 8 + 1) 0), .int .i64 (l.getD (k * 8 + 2) 0), .int .i64 (l.getD (k * 8 + 3) 0), .int .i64 (l.getD (k * 8 + 4) 0), .int .i64 (l.getD (k * 8 + 5) 0), .int .i64 (l.getD (k * 8 + 6) 0), .int .i64 (l.getD (k * 8 + 7) 0)]) wr := index109 HLL.out hk8
        have hkI : (k : Int) < 8 := by omega
        obtain ⟨r0, h0⟩ : ∃ r, l.getD (k * 8) 0 = r := ⟨_, rfl⟩
        obtain ⟨r1, h1⟩ : ∃ r, l.getD (k * 8 + 1) 0 = r := ⟨_, rfl⟩
        obtain ⟨r2, h2⟩ : ∃ r, l.getD (k * 8 + 2) 0 = r := ⟨_, rfl⟩
        obtain ⟨r3, h3⟩ : ∃ r, l.getD (k * 8 + 3) 0 = r := ⟨_, rfl⟩
        obtain ⟨r4, h4⟩ : ∃ r, l.getD (k * 8 + 4) 0 = r := ⟨_, rfl⟩
        obtain ⟨r5, h5⟩ : ∃ r, l.getD (k * 8 + 5) 0 = r := ⟨_, rfl⟩
        obtain ⟨r6, h6⟩ : ∃ r, l.getD (k * 8 + 6) 0 = r := ⟨_, rfl⟩
        obtain ⟨r7, h7⟩ : ∃ r, l.getD (k * 8 + 7) 0 = r := ⟨_, rfl⟩
        rw [h0, h1, h2, h3, h4, h5, h6, h7] at hix
        have hrw : ints (row8 l k) = [.int .i64 r0, .int .i64 r1, .int .i64 r2, .int .i64 r3, .int .i64 r4, .int .i64 r5, .int .i64 r6, .int .i64 r7] := by simp only [row8, ints, List.map_cons, List.map_nil, h0, h1, h2, h3, h4, h5, h6, h7]
        clear h0 h1 h2 h3 h4 h5 h6 h7
        go_upto_region 23 with (fail)
        clear hix hkI
        have k3 := World.alloc_heap_new wr (.cells #[.int .i64 r0, .int .i64 r1, .int .i64 r2, .int .i64 r3, .int .i64 r4, .int .i64 r5, .int .i64 r6, .int .i64 r7] 108)
        have hB7 : Below w7.heap.size w7 wr := hB
        have b3 := bl_alloc hB7 (.cells #[.int .i64 r0, .int .i64 r1, .int .i64 r2, .int .i64 r3, .int .i64 r4, .int .i64 r5, .int .i64 r6, .int .i64 r7] 108)
        clear hB7
        have o3 := hown.alloc (.cells #[.int .i64 r0, .int .i64 r1, .int .i64 r2, .int .i64 r3, .int .i64 r4, .int .i64 r5, .int .i64 r6, .int .i64 r7] 108)
        have HK3 := hid (show (wr.alloc (.cells #[.int .i64 r0, .int .i64 r1, .int .i64 r2, .int .i64 r3, .int .i64 r4, .int .i64 r5, .int .i64 r6, .int .i64 r7] 108)).heap[wr.heap.size]? = some (.cells (ints (row8 l k)).toArray 108 (0, 0)) from by rw [hrw]; exact k3)
        have HB3 := hid b3
        have HO3 := hid o3
        have hzs := hB.size
        clear k3 b3 o3 hown hB hrw
        obtain ⟨T, hT⟩ : ∃ T, wr.heap.size = T := ⟨_, rfl⟩
        obtain ⟨w8, hw8⟩ : ∃ w8, wr.alloc (.cells #[.int .i64 r0, .int .i64 r1, .int .i64 r2, .int .i64 r3, .int .i64 r4, .int .i64 r5, .int .i64 r6, .int .i64 r7] 108) = w8 := ⟨_, rfl⟩
        rw [hT] at HK3 ⊢
        rw [hw8] at HK3 HB3 HO3 ⊢
        clear hw8 hT
        go_wp2_with (refine wpList_load_row rfl 108 (.tmp 14) rfl T rfl 108 _ (0, 0) _ HK3.out Try.underlying108 rfl (by rw [isz108]; simp [ints, row8]) ?_)
        clear HK3 HO0 HB0
        go_loopw [12, 72] (fun s q wx => ∃ (j : Nat) (v : Value), j ≤ 8 ∧ q = .int .i64 (j : Int) ∧ s = v ∧ wx.ownsRow w7.heap.size 3 1 v (pickC p (k * 8 + j)).length ((pickC p (k * 8 + j)).map (Value.int .i64)) ∧ Below w7.heap.size w7 wx) (fun _ q _ => 8 - (intOf q).toNat)
        case atStart => exact ⟨0, _, Nat.zero_le _, rfl, rfl, HO3.out, HB3.out⟩
        case round =>
          obtain ⟨j, v2, hj, rfl, hsv, hown, hB⟩ := hrel
          obtain rfl := hsv.symm
          have HB4 := hid hB
          have HO4 := hid hown
          have hzs := hB.size
          by_cases hj8 : j < 8
          · have hix := index108 (W := wr) (l := l) (k := k) hj8
            have hjI : (j : Int) < 8 := by omega
            have hP := HP.out (k * 8 + j)
            obtain ⟨cv, hcv⟩ : ∃ cv, l.getD (k * 8 + j) 0 = cv := ⟨_, rfl⟩
            rw [hcv] at hix hP
            obtain ⟨RR, hRR⟩ : ∃ RR, (ints (row8 l k)).toArray = RR := ⟨_, rfl⟩
            rw [hRR] at hix ⊢
            have hln := pickC_len p (k * 8 + j)
            clear hcv hRR hown hB
            by_cases h1 : cv = 1
            · subst h1
              have hst := hid (pickC_yes (p := p) (k := k * 8 + j) (by rw [hP]; rfl))
              rw [show ((k * 8 + j : Nat) : Int) = (k : Int) * 8 + (j : Int) by push_cast; rfl] at hst
              have hown2 := HO4.out.alloc (.cells #[.int .i64 ((k : Int) * 8 + (j : Int))] 3)
              have hB7 : Below w7.heap.size w7 wr := HB4.out
              have hBB := bl_alloc hB7 (.cells #[.int .i64 ((k : Int) * 8 + (j : Int))] 3)
              have HBB := hid hBB
              clear hB7 hBB
              have wm : IntKind.i64.wrap ((k : Int) * 8) = (k : Int) * 8 := IntWalk.i64_in _ (by omega)
              have wa : IntKind.i64.wrap ((k : Int) * 8 + (j : Int)) = (k : Int) * 8 + (j : Int) := IntWalk.i64_in _ (by omega)
              have hzw : w7.heap.size ≤ wr.heap.size := hzs
              clear hP
              go_wp2_with (at_builtin; refine wpList_append_own _ rfl _ _ 22 rfl w7.heap.size 3 i3 (.int .i64 0) 1 8 Try.underlying22 hi3 hi30 hi31 hi32 rfl (by decide) v2 _ _ rfl hown2 ⟨wr.heap.size, 0, none⟩ 1 1 [.int .i64 ((k : Int) * 8 + (j : Int))] rfl rfl (cell_one_new wr (.int .i64 ((k : Int) * 8 + (j : Int))) 3) (fun x hx => by simp at hx; subst hx; rfl) (by unfold maxLen; omega) (by omega) (by simp; omega) ?_; intro v' w5 hown' hgrow5 hnil5; have HB5 := hid (bl_grown HBB.out hown2 (by omega) hgrow5); have HOW := hid hown'; clear hown' hgrow5 hnil5)
              go_roundw
              case rel => exact ⟨j + 1, _, by omega, by go_num, rfl, by rw [show k * 8 + (j + 1) = k * 8 + j + 1 by omega, hst.out, List.length_append, List.map_append]; exact HOW.out, HB5.out⟩
              case measure => simp [intOf]; omega
            · have t1 : (cv == 1) = false := beq_eq_false_iff_ne.2 h1
              have hst := hid (pickC_no (p := p) (k := k * 8 + j) (by rw [hP]; exact decide_eq_false h1))
              clear h1 hP
              go_wp2
              go_roundw
              case rel => exact ⟨j + 1, _, by omega, by go_num, rfl, by rw [show k * 8 + (j + 1) = k * 8 + j + 1 by omega, hst.out]; exact HO4.out, HB4.out⟩
              case measure => simp [intOf]; omega
          · obtain rfl : j = 8 := by omega
            clear hown hB
            go_wp2
            go_roundw
            case rel => exact ⟨k + 1, _, by omega, by go_num, rfl, by rw [show (k + 1) * 8 = k * 8 + 8 by omega]; exact HO4.out, HB4.out⟩
            case measure => simp [intOf]; omega
      · obtain rfl : k = 8 := by omega
        have HO9 := hid hown
        have HB9 := hid hB
        clear hown hB
        go_wp2
        go_ret2
        exact ⟨⟨_, rfl, by rw [← HSH.out]; exact ints_own rfl HO9.out⟩, by rw [← hX]; exact bl_trans HBr.out HB9.out⟩
end Go.Proofs.Ytlkoadcbolkhoaa
