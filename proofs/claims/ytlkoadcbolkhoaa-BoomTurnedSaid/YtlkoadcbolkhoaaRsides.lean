/- The reference: the sides that a way uses: the walk. -/
import Derived.Test.YtlkoadcbolkhoaaRnext
set_option linter.all false
namespace Go.Proofs.Ytlkoadcbolkhoaa
open Go Go.RowKit Go.Proofs
attribute [local go_sem] cell_grow frozen_grow

/-- The reference's name of the side between two cells. -/
def sideR (wd hg a b : Int) : Int := min (4 * a + dirV wd hg a b) (4 * b + dirV wd hg b a)
def sidesRF (wd hg : Int) : Int → List Int → List Int
  | _, [] => []
  | a, c :: l => sideR wd hg a c :: sidesRF wd hg c l
def sidesR (wd hg a : Int) (l : List Int) (out : Int) : List Int := sidesRF wd hg a l ++ if 0 ≤ out then [4 * lastOf a l + out] else []
theorem sidesRF_len (wd hg : Int) : ∀ (l : List Int) (a : Int), (sidesRF wd hg a l).length = l.length
  | [], _ => rfl
  | c :: l, a => by simp [sidesRF, sidesRF_len wd hg l c]

theorem own_low {W : World} {base base' e size n : Nat} {v : Value} {xs : List Value} (h : W.ownsRow base e size v n xs) (hb : base' ≤ base) : W.ownsRow base' e size v n xs := by
  obtain ⟨h1, h2⟩ := h
  refine ⟨h1, ?_⟩
  rcases h2 with h2 | ⟨g, cap, cur, e1, e2, e3⟩
  · exact .inl h2
  · exact .inr ⟨g, cap, cur, e1, Nat.le_trans hb e2, e3⟩
/-- A row that one is appended to. -/
def OwnF (base : Nat) (v : Value) (k : Nat) (xs : List Value) (x : Value) (s1 s2 : Bool) (u1 u2 : Value) (W : World) : Prop :=
  if s2 = true then W.ownsRow base 3 1 u2 (k + 1) (xs ++ [x]) else W.ownsRow base 3 1 v k xs ∧ (s1 = true → ∃ b, u1 = .slice (some ⟨b, 0, none⟩) 1 1 ∧ W.cell? ⟨b, 0, none⟩ = some x)
section
variable {base k : Nat} {v x u1 u2 : Value} {xs : List Value} {s1 s2 : Bool} {W W' : World}
theorem OwnF.start (h : W.ownsRow base 3 1 v k xs) : OwnF base v k xs x false false u1 u2 W := by
  unfold OwnF
  exact ⟨h, fun q => by cases q⟩
theorem OwnF.mono (h : OwnF base v k xs x s1 s2 u1 u2 W) (hb : Below W.heap.size W W') : OwnF base v k xs x s1 s2 u1 u2 W' := by
  unfold OwnF at h ⊢
  split
  · rename_i q; rw [if_pos q] at h; exact own_mono h hb
  · rename_i q; rw [if_neg q] at h
    exact ⟨own_mono h.1 hb, fun p => by obtain ⟨b, h1, h2⟩ := h.2 p; exact ⟨b, h1, cell_mono h2 hb⟩⟩
theorem OwnF.row (h : OwnF base v k xs x false false u1 u2 W) : OwnF base v k xs x true false (.slice (some ⟨W.heap.size, 0, none⟩) 1 1) u2 (W.alloc (.cells #[x] 3)) := by
  unfold OwnF at h ⊢
  rw [if_neg (by decide)] at h ⊢
  exact ⟨own_mono h.1 (bl_alloc (bl_refl _) _), fun _ => ⟨_, rfl, cell_of_heap (World.alloc_heap_new W _)⟩⟩
theorem OwnF.arg (h : OwnF base v k xs x true false u1 u2 W) : ∃ b, u1 = .slice (some ⟨b, 0, none⟩) 1 1 := by
  unfold OwnF at h
  rw [if_neg (by decide)] at h
  obtain ⟨b, h1, _⟩ := h.2 rfl
  exact ⟨b, h1⟩
theorem OwnF.app {W0 : World} {y : Int} (h : OwnF base v k xs (.int .i64 y) true false u1 u2 W) (hb : Below W0.heap.size W0 W) (h0 : W0.heap.size ≤ base) (hk : k ≤ 1000) (hbs : base ≤ W.heap.size := by first | exact hb9.size | omega) : ∃ v' W', (Builtin.append_ #[22, 22] 22 #[v, u1]).run Try.prog W = .ok v' W' ∧ OwnF base v k xs (.int .i64 y) true true u1 v' W' ∧ Below W0.heap.size W0 W' := by
  unfold OwnF at h
  rw [if_neg (by decide)] at h
  obtain ⟨ho, h2⟩ := h
  obtain ⟨b, rfl, hc⟩ := h2 rfl
  obtain ⟨i2, hi2, hz2, hs2, hb2⟩ := info_parts info3
  obtain ⟨v', W', h3, h4, h5, _, h6⟩ := run_append_own_at (P := Try.prog) W base 22 22 3 i2 (.int .i64 0) 1 8 Try.underlying22 hi2 hz2 hs2 hb2 rfl (by decide) v k _ ho ⟨b, 0, none⟩ 1 1 [.int .i64 y] rfl (fun j u hj => by
    cases j with
    | zero => simp only [List.getElem?_cons_zero, Option.some.injEq] at hj; subst hj; exact hc
    | succ j => simp at hj) (fun u hu => by simp at hu; subst hu; rfl) (by unfold maxLen; omega) (by omega) hbs
  refine ⟨v', W', h3, ?_, bl_grown hb ho h0 h5⟩
  unfold OwnF
  rw [if_pos rfl]
  exact h4
theorem OwnF.done (h : OwnF base v k xs x s1 true u1 u2 W) : W.ownsRow base 3 1 u2 (k + 1) (xs ++ [x]) := by
  unfold OwnF at h
  rwa [if_pos rfl] at h
end


set_option maxRecDepth 100000 in
set_option maxHeartbeats 8000000 in
theorem rsides_any {wd hg : Int} {sw sk : Value} {want keep : List Int} (a : Int) (l : List Int) (out : Int) (s : Value) (w : World) (hV : Valid wd hg want keep) (hs : Ints w s (a :: l)) (hl : l.length ≤ 1000) (hin : ∀ c ∈ a :: l, inP wd hg c) (hout : -1 ≤ out ∧ out ≤ 3) :
    Calls Try.prog 83 #[.agg #[.int .i64 wd, .int .i64 hg, sw, sk], .agg #[s, .int .i64 out]] w fun e w' => (∃ v, e = .returned v ∧ w'.ownsRow w.heap.size 3 1 v (sidesR wd hg a l out).length ((sidesR wd hg a l out).map (Value.int .i64))) ∧ Below w.heap.size w w' := by
  obtain ⟨i3, hi3, hi30, hi31, hi32⟩ := info_parts info3
  obtain ⟨b, off, c, rfl, hc1, hbl, hcells⟩ : ∃ b off c, s = .slice (some ⟨b, off, none⟩) (l.length + 1) c ∧ l.length + 1 ≤ c ∧ b < w.heap.size ∧ ∀ i x, (a :: l)[i]? = some x → w.cell? ⟨b, off + i, none⟩ = some (.int .i64 x) := by
    rcases hs with ⟨_, h⟩ | h
    · cases h
    · exact h
  have bA := bl_alloc (bl_refl w) (.cells #[.int .i64 wd, .int .i64 hg, sw, sk] 24)
  have kA := World.alloc_heap_new w (.cells #[.int .i64 wd, .int .i64 hg, sw, sk] 24)
  have bB := bl_alloc (bl_refl (w.alloc (.cells #[.int .i64 wd, .int .i64 hg, sw, sk] 24))) (.cells #[.slice (some ⟨b, off, none⟩) (l.length + 1) c, .int .i64 out] 81)
  have kB := World.alloc_heap_new (w.alloc (.cells #[.int .i64 wd, .int .i64 hg, sw, sk] 24)) (.cells #[.slice (some ⟨b, off, none⟩) (l.length + 1) c, .int .i64 out] 81)
  rw [World.size_alloc] at kB
  have HB := hid (bl_trans bA bB)
  have HK := hid (heap_mono kA bB)
  have HL := hid kB
  have HCL := hid (fun i x hx => cell_mono (hcells i x hx) HB.out)
  have HIN := hid hin
  have HV := hid hV.B
  have hn0 := hV.cells
  have HN := hid hn0
  obtain ⟨FV, hFV⟩ : ∃ FV, sidesR wd hg a l out = FV := ⟨_, rfl⟩
  have HFV := hid hFV
  rw [hFV]
  clear bA kA bB kB hs hin hcells hFV hn0
  go_enter Try.func83, Try.ntmps83
  go_upto_region 3 with (fail)
  obtain ⟨w0, hw0⟩ : ∃ w0, (w.alloc (.cells #[.int .i64 wd, .int .i64 hg, sw, sk] 24)).alloc (.cells #[.slice (some ⟨b, off, none⟩) (l.length + 1) c, .int .i64 out] 81) = w0 := ⟨_, rfl⟩
  obtain ⟨X, hX⟩ : ∃ X, w.heap.size = X := ⟨_, rfl⟩
  have HX := hid hX
  rw [hX] at HK HL hbl ⊢
  obtain ⟨Y, hY⟩ : ∃ Y, X + 1 = Y := ⟨_, rfl⟩
  rw [hY] at HL ⊢
  rw [hw0] at HB HK HL HCL ⊢
  clear hw0 hX hY
  have HO0 := hid (World.ownsRow_nil w0 w0.heap.size 3 1)
  go_loopw [5, 6] (fun o p wr => ∃ (k : Nat) (q : Int) (L : List Int) (v : Value), k ≤ l.length ∧ p = .int .i64 ((k : Int) + 1) ∧ o = v ∧ (a :: l)[k]? = some q ∧ lastOf q (l.drop k) = lastOf a l ∧ L ++ sidesRF wd hg q (l.drop k) = sidesRF wd hg a l ∧ L.length = k ∧ wr.ownsRow w0.heap.size 3 1 v L.length (L.map (Value.int .i64)) ∧ Below w0.heap.size w0 wr) (fun _ p _ => l.length + 1 - (intOf p).toNat)
  case atStart => exact ⟨0, a, [], _, Nat.zero_le _, rfl, rfl, rfl, rfl, rfl, rfl, HO0.out, bl_refl _⟩
  case round =>
    obtain ⟨k, q, L, v, hk, rfl, hov, hq, hla, hL, hLk, hown, hB⟩ := hrel
    obtain rfl := hov.symm
    have HBr := hid hB
    have HOW := hid hown
    have hKr := heap_mono HK.out hB
    have hLr := heap_mono HL.out hB
    have p0 : wr.cell? ⟨X, 0, none⟩ = some (.int .i64 wd) := cell_of_heap hKr
    have p1 : wr.cell? ⟨X, 1, none⟩ = some (.int .i64 hg) := cell_of_heap hKr
    have p2 : wr.cell? ⟨X, 2, none⟩ = some sw := cell_of_heap hKr
    have p3 : wr.cell? ⟨X, 3, none⟩ = some sk := cell_of_heap hKr
    have pl := (Array.getElem?_eq_some_iff.1 hKr).1
    have y0 : wr.cell? ⟨Y, 0, none⟩ = some (.slice (some ⟨b, off, none⟩) (l.length + 1) c) := cell_of_heap hLr
    have y1 : wr.cell? ⟨Y, 1, none⟩ = some (.int .i64 out) := cell_of_heap hLr
    have yl := (Array.getElem?_eq_some_iff.1 hLr).1
    have c0 := cell_mono (HCL.out k q hq) hB
    have wk : IntKind.i64.wrap ((k : Int) + 1 - 1) = (k : Int) := by rw [IntWalk.i64_in _ (by omega)]; omega
    have hqin := HIN.out q (List.mem_of_getElem? hq)
    have hbw : b < wr.heap.size := by have := pl; omega
    have hq64 : 0 ≤ q ∧ q < 64 := ⟨hqin.1, by have := hqin.2; have := HN.out; omega⟩
    by_cases hlt : k < l.length
    · obtain ⟨y, hy⟩ := get_at hlt
      have hdr : l.drop k = y :: l.drop (k + 1) := List.drop_eq_getElem_cons hlt ▸ by rw [(List.getElem?_eq_some_iff.1 hy).2]
      rw [hdr] at hla hL
      have hyc : (a :: l)[k + 1]? = some y := by simpa using hy
      have c1 := cell_mono (HCL.out (k + 1) y hyc) hB
      have hyin := HIN.out y (List.mem_of_getElem? hyc)
      have hy64 : 0 ≤ y ∧ y < 64 := ⟨hyin.1, by have := hyin.2; have := HN.out; omega⟩
      have hkI : (k : Int) + 1 < (l.length : Int) + 1 := by omega
      have hd1 := dirV_rng wd hg q y
      have hd2 := dirV_rng wd hg y q
      obtain ⟨d1, hdv1⟩ : ∃ dv, dirV wd hg q y = dv := ⟨_, rfl⟩
      obtain ⟨d2, hdv2⟩ : ∃ dv, dirV wd hg y q = dv := ⟨_, rfl⟩
      have HLN := hid (show (L ++ [min (4 * q + d1) (4 * y + d2)]) ++ sidesRF wd hg y (l.drop (k + 1)) = sidesRF wd hg a l by rw [← hL, ← hdv1, ← hdv2, List.append_assoc]; rfl)
      have HLA := hid hla
      have HYC := hid hyc
      have HVr := HV.out
      have hYr := hid (heap_mono HL.out hB)
      have hXr := hid (heap_mono HK.out hB)
      rw [hdv1] at hd1
      rw [hdv2] at hd2
      have w1 : IntKind.i64.wrap (4 * q) = 4 * q := IntWalk.i64_in _ (by omega)
      have w2 : IntKind.i64.wrap (4 * y) = 4 * y := IntWalk.i64_in _ (by omega)
      have w3 : IntKind.i64.wrap (4 * q + d1) = 4 * q + d1 := IntWalk.i64_in _ (by omega)
      have w4 : IntKind.i64.wrap (4 * y + d2) = 4 * y + d2 := IntWalk.i64_in _ (by omega)
      clear hq hla hL hB hKr hLr hy hdr hyc hown
      go_upto_region 5 with (fail)
      refine wp_region_below (by kernel_rfl) (by kernel_rfl) ?_
      repeat (first | go_big_quiet_step (fail) | quiet_step (fail))
      refine wpQuiet_nil ?_
      intro w6 hb6
      have HB5 := hid (bl_trans HBr.out hb6)
      have hown9 := own_mono HOW.out hb6
      clear p0 p1 p2 p3 pl y0 y1 yl c0 c1 wk hb6 HBr HOW hbw hXr
      obtain ⟨xs, hxs⟩ : ∃ xs, L.map (Value.int .i64) = xs := ⟨_, rfl⟩
      have HXS := hid hxs
      rw [hxs] at hown9
      have GD1 : Hid (∀ W, Calls Try.prog 104 #[.agg #[.int .i64 wd, .int .i64 hg, sw, sk], .int .i64 q, .int .i64 y] W fun e w' => e = .returned (.int .i64 d1) ∧ Below W.heap.size W w') := fun W => by rw [← hdv1, ← dirR_V hyin.1]; exact rdir_any _ _ W HVr hqin
      have GD2 : Hid (∀ W, Calls Try.prog 104 #[.agg #[.int .i64 wd, .int .i64 hg, sw, sk], .int .i64 y, .int .i64 q] W fun e w' => e = .returned (.int .i64 d2) ∧ Below W.heap.size W w') := fun W => by rw [← hdv2, ← dirR_V hqin.1]; exact rdir_any _ _ W HVr hyin
      obtain ⟨mv, hmv⟩ : ∃ mv, min (4 * q + d1) (4 * y + d2) = mv := ⟨_, rfl⟩
      have hmn' : ∀ W, (Builtin.min_ #[3, 3] 3 #[.int .i64 (4 * q + d1), .int .i64 (4 * y + d2)]).run Try.prog W = .ok (.int .i64 mv) W := fun W => by rw [← hmv]; exact min_run _ _ _ W
      rw [hmv] at HLN
      clear hdv1 hdv2 hqin hyin HVr hmv hxs
      go_upto_region 6 with (fail)
      refine wp_region_valsG w0 HB5.out [27, 28, 29, 30, 31, 32, 33, 34, 35, 36, 37, 38, 39, 40, 41, 42, 43, 44, 5] (fun seen u W => (seen 0 = true → u 27 = v) ∧
        (seen 1 = true → u 28 = .int .i64 (q)) ∧
        (seen 2 = true → u 29 = .int .i64 (4 * q)) ∧
        (seen 3 = true → u 30 = .agg #[.int .i64 wd, .int .i64 hg, sw, sk]) ∧
        (seen 4 = true → u 31 = .int .i64 (q)) ∧
        (seen 5 = true → u 32 = .int .i64 (y)) ∧
        (seen 6 = true → u 33 = .int .i64 (d1)) ∧
        (seen 7 = true → u 34 = .int .i64 (4 * q + d1)) ∧
        (seen 8 = true → u 35 = .int .i64 (y)) ∧
        (seen 9 = true → u 36 = .int .i64 (4 * y)) ∧
        (seen 10 = true → u 37 = .agg #[.int .i64 wd, .int .i64 hg, sw, sk]) ∧
        (seen 11 = true → u 38 = .int .i64 (y)) ∧
        (seen 12 = true → u 39 = .int .i64 (q)) ∧
        (seen 13 = true → u 40 = .int .i64 (d2)) ∧
        (seen 14 = true → u 41 = .int .i64 (4 * y + d2)) ∧
        (seen 15 = true → u 42 = .int .i64 (mv)) ∧
        (seen 16 = true → True) ∧
        (seen 17 = true → True) ∧
        (seen 18 = true → u 5 = u 44) ∧
        (seen 18 = true → seen 17 = true) ∧
        (seen 18 = false → u 5 = v) ∧
        (seen 18 = true → seen 0 = true) ∧
        (seen 17 = true → seen 16 = true) ∧
        OwnF w0.heap.size v L.length xs (.int .i64 mv) (seen 16) (seen 17) (u 43) (u 44) W)
        (by kernel_rfl) (by kernel_rfl) (by kernel_rfl) (by simp) ⟨by simp [valsOf], by simp [valsOf], by simp [valsOf], by simp [valsOf], by simp [valsOf], by simp [valsOf], by simp [valsOf], by simp [valsOf], by simp [valsOf], by simp [valsOf], by simp [valsOf], by simp [valsOf], by simp [valsOf], by simp [valsOf], by simp [valsOf], by simp [valsOf], by simp [valsOf], by simp [valsOf], by simp [valsOf], by simp [valsOf], by simp [valsOf], by simp [valsOf], by simp [valsOf], OwnF.start (own_mono hown9 (bl_drew (bl_refl _)))⟩ ?_ ?_
      · intro i o ho seen a' w9 hb9 ⟨F0, F1, F2, F3, F4, F5, F6, F7, F8, F9, F10, F11, F12, F13, F14, F15, F16, F17, F18, F19, F20, F21, F22, FM⟩ hv hsi hdep
        have hbx := heap_mono HK.out hb9
        have c0 : w9.cell? ⟨X, 0, none⟩ = some (.int .i64 wd) := cell_of_heap hbx
        have c1 : w9.cell? ⟨X, 1, none⟩ = some (.int .i64 hg) := cell_of_heap hbx
        have c2 : w9.cell? ⟨X, 2, none⟩ = some (sw) := cell_of_heap hbx
        have c3 : w9.cell? ⟨X, 3, none⟩ = some (sk) := cell_of_heap hbx
        have hXl := (Array.getElem?_eq_some_iff.1 hbx).1
        rcases i with _ | _ | _ | _ | _ | _ | _ | _ | _ | _ | _ | _ | _ | _ | _ | _ | _ | _ | _ | i <;> simp only [List.getElem?_cons_zero, List.getElem?_cons_succ, List.getElem?_nil, Option.some.injEq, reduceCtorEq] at ho <;> subst ho
        · refine if_free rfl ?_
          have hs18 : seen 18 = false := by { cases hq : seen 18 with | false => rfl | true => exact absurd (F21 hq) (by rw [hsi]; decide) }
          have x5 := val_at (F20 hs18)
          refine wp_value (v) (w' := w9) (by simp [execOp, x5, go_sem, c0, c1, c2, c3, hXl, w1, w2, w3, w4]) ⟨_, rfl, hb9, ?_⟩
          exact ⟨by simp, by simpa using F1, by simpa using F2, by simpa using F3, by simpa using F4, by simpa using F5, by simpa using F6, by simpa using F7, by simpa using F8, by simpa using F9, by simpa using F10, by simpa using F11, by simpa using F12, by simpa using F13, by simpa using F14, by simpa using F15, by simpa using F16, by simpa using F17, by simpa using F18, by simpa using F19, by simpa using F20, by simp, by simpa using F22, by simpa using FM⟩
        · refine if_free rfl ?_
          have x7 := val_at (hv 7 (by simp))
          simp [valsOf] at x7
          refine wp_value (.int .i64 (q)) (w' := w9) (by simp [execOp, x7, go_sem, c0, c1, c2, c3, hXl, w1, w2, w3, w4]) ⟨_, rfl, hb9, ?_⟩
          exact ⟨by simpa using F0, by simp, by simpa using F2, by simpa using F3, by simpa using F4, by simpa using F5, by simpa using F6, by simpa using F7, by simpa using F8, by simpa using F9, by simpa using F10, by simpa using F11, by simpa using F12, by simpa using F13, by simpa using F14, by simpa using F15, by simpa using F16, by simpa using F17, by simpa using F18, by simpa using F19, by simpa using F20, by simpa using F21, by simpa using F22, by simpa using FM⟩
        · refine if_free rfl ?_
          have d1 := hdep ⟨1, .data⟩ (by simp) rfl
          have e1 := val_at (F1 d1)
          refine wp_value (.int .i64 (4 * q)) (w' := w9) (by simp [execOp, e1, go_sem, c0, c1, c2, c3, hXl, w1, w2, w3, w4]) ⟨_, rfl, hb9, ?_⟩
          exact ⟨by simpa using F0, by simpa using F1, by simp, by simpa using F3, by simpa using F4, by simpa using F5, by simpa using F6, by simpa using F7, by simpa using F8, by simpa using F9, by simpa using F10, by simpa using F11, by simpa using F12, by simpa using F13, by simpa using F14, by simpa using F15, by simpa using F16, by simpa using F17, by simpa using F18, by simpa using F19, by simpa using F20, by simpa using F21, by simpa using F22, by simpa using FM⟩
        · refine if_free rfl ?_
          have x2 := val_at (hv 2 (by simp))
          simp [valsOf] at x2
          refine wp_value (.agg #[.int .i64 wd, .int .i64 hg, sw, sk]) (w' := w9) (by simp [execOp, x2, go_sem, c0, c1, c2, c3, hXl, w1, w2, w3, w4]) ⟨_, rfl, hb9, ?_⟩
          exact ⟨by simpa using F0, by simpa using F1, by simpa using F2, by simp, by simpa using F4, by simpa using F5, by simpa using F6, by simpa using F7, by simpa using F8, by simpa using F9, by simpa using F10, by simpa using F11, by simpa using F12, by simpa using F13, by simpa using F14, by simpa using F15, by simpa using F16, by simpa using F17, by simpa using F18, by simpa using F19, by simpa using F20, by simpa using F21, by simpa using F22, by simpa using FM⟩
        · refine if_free rfl ?_
          have x7 := val_at (hv 7 (by simp))
          simp [valsOf] at x7
          refine wp_value (.int .i64 (q)) (w' := w9) (by simp [execOp, x7, go_sem, c0, c1, c2, c3, hXl, w1, w2, w3, w4]) ⟨_, rfl, hb9, ?_⟩
          exact ⟨by simpa using F0, by simpa using F1, by simpa using F2, by simpa using F3, by simp, by simpa using F5, by simpa using F6, by simpa using F7, by simpa using F8, by simpa using F9, by simpa using F10, by simpa using F11, by simpa using F12, by simpa using F13, by simpa using F14, by simpa using F15, by simpa using F16, by simpa using F17, by simpa using F18, by simpa using F19, by simpa using F20, by simpa using F21, by simpa using F22, by simpa using FM⟩
        · refine if_free rfl ?_
          have x8 := val_at (hv 8 (by simp))
          simp [valsOf] at x8
          refine wp_value (.int .i64 (y)) (w' := w9) (by simp [execOp, x8, go_sem, c0, c1, c2, c3, hXl, w1, w2, w3, w4]) ⟨_, rfl, hb9, ?_⟩
          exact ⟨by simpa using F0, by simpa using F1, by simpa using F2, by simpa using F3, by simpa using F4, by simp, by simpa using F6, by simpa using F7, by simpa using F8, by simpa using F9, by simpa using F10, by simpa using F11, by simpa using F12, by simpa using F13, by simpa using F14, by simpa using F15, by simpa using F16, by simpa using F17, by simpa using F18, by simpa using F19, by simpa using F20, by simpa using F21, by simpa using F22, by simpa using FM⟩
        · refine if_free rfl ?_
          have d3 := hdep ⟨3, .data⟩ (by simp) rfl
          have e3 := val_at (F3 d3)
          have d4 := hdep ⟨4, .data⟩ (by simp) rfl
          have e4 := val_at (F4 d4)
          have d5 := hdep ⟨5, .data⟩ (by simp) rfl
          have e5 := val_at (F5 d5)
          have hcl := GD1.out w9
          refine wp_calls (f := 104) (args := #[.agg #[.int .i64 wd, .int .i64 hg, sw, sk], .int .i64 (q), .int .i64 (y)]) (w' := w9) (by simp [execOp, e3, e4, e5, go_sem, valsOf]) hcl ?_
          rintro e w10 ⟨rfl, hg⟩
          refine ⟨_, rfl, _, rfl, bl_trans hb9 hg, ?_⟩
          exact ⟨by simpa using F0, by simpa using F1, by simpa using F2, by simpa using F3, by simpa using F4, by simpa using F5, by simp, by simpa using F7, by simpa using F8, by simpa using F9, by simpa using F10, by simpa using F11, by simpa using F12, by simpa using F13, by simpa using F14, by simpa using F15, by simpa using F16, by simpa using F17, by simpa using F18, by simpa using F19, by simpa using F20, by simpa using F21, by simpa using F22, by simpa using FM.mono hg⟩
        · refine if_free rfl ?_
          have d2 := hdep ⟨2, .data⟩ (by simp) rfl
          have e2 := val_at (F2 d2)
          have d6 := hdep ⟨6, .data⟩ (by simp) rfl
          have e6 := val_at (F6 d6)
          refine wp_value (.int .i64 (4 * q + d1)) (w' := w9) (by simp [execOp, e2, e6, go_sem, c0, c1, c2, c3, hXl, w1, w2, w3, w4]) ⟨_, rfl, hb9, ?_⟩
          exact ⟨by simpa using F0, by simpa using F1, by simpa using F2, by simpa using F3, by simpa using F4, by simpa using F5, by simpa using F6, by simp, by simpa using F8, by simpa using F9, by simpa using F10, by simpa using F11, by simpa using F12, by simpa using F13, by simpa using F14, by simpa using F15, by simpa using F16, by simpa using F17, by simpa using F18, by simpa using F19, by simpa using F20, by simpa using F21, by simpa using F22, by simpa using FM⟩
        · refine if_free rfl ?_
          have x8 := val_at (hv 8 (by simp))
          simp [valsOf] at x8
          refine wp_value (.int .i64 (y)) (w' := w9) (by simp [execOp, x8, go_sem, c0, c1, c2, c3, hXl, w1, w2, w3, w4]) ⟨_, rfl, hb9, ?_⟩
          exact ⟨by simpa using F0, by simpa using F1, by simpa using F2, by simpa using F3, by simpa using F4, by simpa using F5, by simpa using F6, by simpa using F7, by simp, by simpa using F9, by simpa using F10, by simpa using F11, by simpa using F12, by simpa using F13, by simpa using F14, by simpa using F15, by simpa using F16, by simpa using F17, by simpa using F18, by simpa using F19, by simpa using F20, by simpa using F21, by simpa using F22, by simpa using FM⟩
        · refine if_free rfl ?_
          have d8 := hdep ⟨8, .data⟩ (by simp) rfl
          have e8 := val_at (F8 d8)
          refine wp_value (.int .i64 (4 * y)) (w' := w9) (by simp [execOp, e8, go_sem, c0, c1, c2, c3, hXl, w1, w2, w3, w4]) ⟨_, rfl, hb9, ?_⟩
          exact ⟨by simpa using F0, by simpa using F1, by simpa using F2, by simpa using F3, by simpa using F4, by simpa using F5, by simpa using F6, by simpa using F7, by simpa using F8, by simp, by simpa using F10, by simpa using F11, by simpa using F12, by simpa using F13, by simpa using F14, by simpa using F15, by simpa using F16, by simpa using F17, by simpa using F18, by simpa using F19, by simpa using F20, by simpa using F21, by simpa using F22, by simpa using FM⟩
        · refine if_free rfl ?_
          have x2 := val_at (hv 2 (by simp))
          simp [valsOf] at x2
          refine wp_value (.agg #[.int .i64 wd, .int .i64 hg, sw, sk]) (w' := w9) (by simp [execOp, x2, go_sem, c0, c1, c2, c3, hXl, w1, w2, w3, w4]) ⟨_, rfl, hb9, ?_⟩
          exact ⟨by simpa using F0, by simpa using F1, by simpa using F2, by simpa using F3, by simpa using F4, by simpa using F5, by simpa using F6, by simpa using F7, by simpa using F8, by simpa using F9, by simp, by simpa using F11, by simpa using F12, by simpa using F13, by simpa using F14, by simpa using F15, by simpa using F16, by simpa using F17, by simpa using F18, by simpa using F19, by simpa using F20, by simpa using F21, by simpa using F22, by simpa using FM⟩
        · refine if_free rfl ?_
          have x8 := val_at (hv 8 (by simp))
          simp [valsOf] at x8
          refine wp_value (.int .i64 (y)) (w' := w9) (by simp [execOp, x8, go_sem, c0, c1, c2, c3, hXl, w1, w2, w3, w4]) ⟨_, rfl, hb9, ?_⟩
          exact ⟨by simpa using F0, by simpa using F1, by simpa using F2, by simpa using F3, by simpa using F4, by simpa using F5, by simpa using F6, by simpa using F7, by simpa using F8, by simpa using F9, by simpa using F10, by simp, by simpa using F12, by simpa using F13, by simpa using F14, by simpa using F15, by simpa using F16, by simpa using F17, by simpa using F18, by simpa using F19, by simpa using F20, by simpa using F21, by simpa using F22, by simpa using FM⟩
        · refine if_free rfl ?_
          have x7 := val_at (hv 7 (by simp))
          simp [valsOf] at x7
          refine wp_value (.int .i64 (q)) (w' := w9) (by simp [execOp, x7, go_sem, c0, c1, c2, c3, hXl, w1, w2, w3, w4]) ⟨_, rfl, hb9, ?_⟩
          exact ⟨by simpa using F0, by simpa using F1, by simpa using F2, by simpa using F3, by simpa using F4, by simpa using F5, by simpa using F6, by simpa using F7, by simpa using F8, by simpa using F9, by simpa using F10, by simpa using F11, by simp, by simpa using F13, by simpa using F14, by simpa using F15, by simpa using F16, by simpa using F17, by simpa using F18, by simpa using F19, by simpa using F20, by simpa using F21, by simpa using F22, by simpa using FM⟩
        · refine if_free rfl ?_
          have d10 := hdep ⟨10, .data⟩ (by simp) rfl
          have e10 := val_at (F10 d10)
          have d11 := hdep ⟨11, .data⟩ (by simp) rfl
          have e11 := val_at (F11 d11)
          have d12 := hdep ⟨12, .data⟩ (by simp) rfl
          have e12 := val_at (F12 d12)
          have hcl := GD2.out w9
          refine wp_calls (f := 104) (args := #[.agg #[.int .i64 wd, .int .i64 hg, sw, sk], .int .i64 (y), .int .i64 (q)]) (w' := w9) (by simp [execOp, e10, e11, e12, go_sem, valsOf]) hcl ?_
          rintro e w10 ⟨rfl, hg⟩
          refine ⟨_, rfl, _, rfl, bl_trans hb9 hg, ?_⟩
          exact ⟨by simpa using F0, by simpa using F1, by simpa using F2, by simpa using F3, by simpa using F4, by simpa using F5, by simpa using F6, by simpa using F7, by simpa using F8, by simpa using F9, by simpa using F10, by simpa using F11, by simpa using F12, by simp, by simpa using F14, by simpa using F15, by simpa using F16, by simpa using F17, by simpa using F18, by simpa using F19, by simpa using F20, by simpa using F21, by simpa using F22, by simpa using FM.mono hg⟩
        · refine if_free rfl ?_
          have d9 := hdep ⟨9, .data⟩ (by simp) rfl
          have e9 := val_at (F9 d9)
          have d13 := hdep ⟨13, .data⟩ (by simp) rfl
          have e13 := val_at (F13 d13)
          refine wp_value (.int .i64 (4 * y + d2)) (w' := w9) (by simp [execOp, e9, e13, go_sem, c0, c1, c2, c3, hXl, w1, w2, w3, w4]) ⟨_, rfl, hb9, ?_⟩
          exact ⟨by simpa using F0, by simpa using F1, by simpa using F2, by simpa using F3, by simpa using F4, by simpa using F5, by simpa using F6, by simpa using F7, by simpa using F8, by simpa using F9, by simpa using F10, by simpa using F11, by simpa using F12, by simpa using F13, by simp, by simpa using F15, by simpa using F16, by simpa using F17, by simpa using F18, by simpa using F19, by simpa using F20, by simpa using F21, by simpa using F22, by simpa using FM⟩
        · refine if_free rfl ?_
          have d7 := hdep ⟨7, .data⟩ (by simp) rfl
          have e7 := val_at (F7 d7)
          have d14 := hdep ⟨14, .data⟩ (by simp) rfl
          have e14 := val_at (F14 d14)
          refine wp_value (.int .i64 mv) (w' := w9) (by simp [execOp, e7, e14, go_sem, hmn']) ⟨_, rfl, hb9, ?_⟩
          exact ⟨by simpa using F0, by simpa using F1, by simpa using F2, by simpa using F3, by simpa using F4, by simpa using F5, by simpa using F6, by simpa using F7, by simpa using F8, by simpa using F9, by simpa using F10, by simpa using F11, by simpa using F12, by simpa using F13, by simpa using F14, by simp, by simpa using F16, by simpa using F17, by simpa using F18, by simpa using F19, by simpa using F20, by simpa using F21, by simpa using F22, by simpa using FM⟩
        · refine if_free rfl ?_
          have d15 := hdep ⟨15, .data⟩ (by simp) rfl
          have e15 := val_at (F15 d15)
          have hs17 : seen 17 = false := by { cases hq : seen 17 with | false => rfl | true => exact absurd (F22 hq) (by rw [hsi]; decide) }
          rw [hsi, hs17] at FM
          have hm := FM.row
          have hg : Below w9.heap.size w9 (w9.alloc (.cells #[.int .i64 mv] 3)) := bl_alloc (bl_refl _) _
          refine wp_value (.slice (some ⟨w9.heap.size, 0, none⟩) 1 1) (w' := w9.alloc (.cells #[.int .i64 mv] 3)) (by simp [execOp, e15, go_sem]) ⟨_, rfl, bl_trans hb9 hg, ?_⟩
          exact ⟨by simpa using F0, by simpa using F1, by simpa using F2, by simpa using F3, by simpa using F4, by simpa using F5, by simpa using F6, by simpa using F7, by simpa using F8, by simpa using F9, by simpa using F10, by simpa using F11, by simpa using F12, by simpa using F13, by simpa using F14, by simpa using F15, by simp, by simpa using F17, by simpa using F18, by simpa using F19, by simpa using F20, by simpa using F21, by simp, by simpa [hs17] using hm⟩
        · refine if_free rfl ?_
          have d0 := hdep ⟨0, .data⟩ (by simp) rfl
          have e0 := val_at (F0 d0)
          have d16 := hdep ⟨16, .data⟩ (by simp) rfl
          rw [d16, hsi] at FM
          obtain ⟨b2, harg⟩ := FM.arg
          have e16 := val_at harg
          obtain ⟨v2, w10, hrun, hM, hbn⟩ := FM.app (W0 := w0) hb9 (Nat.le_refl _) (by omega)
          rw [harg] at hrun
          refine wp_append_run _ _ 22 rfl _ _ v2 w10 (by simp [go_sem, e0]) (by simp [go_sem, e16]) hrun ⟨_, rfl, hbn, ?_⟩
          exact ⟨by simpa using F0, by simpa using F1, by simpa using F2, by simpa using F3, by simpa using F4, by simpa using F5, by simpa using F6, by simpa using F7, by simpa using F8, by simpa using F9, by simpa using F10, by simpa using F11, by simpa using F12, by simpa using F13, by simpa using F14, by simpa using F15, by simpa using F16, by simp, by simpa using fun h => absurd (F19 h) (by rw [hsi]; decide), by simpa using F19, by simpa using F20, by simpa using F21, by simpa using d16, by simpa [d16] using hM⟩
        · refine if_free rfl ?_
          have d17 := hdep ⟨17, .data⟩ (by simp) rfl
          refine wp_value (valsOf a' 44) (w' := w9) (by simp [execOp, go_sem, valsOf]) ⟨_, rfl, hb9, ?_⟩
          exact ⟨by simpa using F0, by simpa using F1, by simpa using F2, by simpa using F3, by simpa using F4, by simpa using F5, by simpa using F6, by simpa using F7, by simpa using F8, by simpa using F9, by simpa using F10, by simpa using F11, by simpa using F12, by simpa using F13, by simpa using F14, by simpa using F15, by simpa using F16, by simpa using F17, by simp, by simpa using d17, by simp, by simpa using hdep ⟨0, .phase⟩ (by simp) rfl, by simpa using F22, by simpa using FM⟩
      intro u w5 hb5 seen hall ⟨F0, F1, F2, F3, F4, F5, F6, F7, F8, F9, F10, F11, F12, F13, F14, F15, F16, F17, F18, F19, F20, F21, F22, FM⟩
      replace F0 := F0 (hall 0 (by decide))
      replace F1 := F1 (hall 1 (by decide))
      replace F2 := F2 (hall 2 (by decide))
      replace F3 := F3 (hall 3 (by decide))
      replace F4 := F4 (hall 4 (by decide))
      replace F5 := F5 (hall 5 (by decide))
      replace F6 := F6 (hall 6 (by decide))
      replace F7 := F7 (hall 7 (by decide))
      replace F8 := F8 (hall 8 (by decide))
      replace F9 := F9 (hall 9 (by decide))
      replace F10 := F10 (hall 10 (by decide))
      replace F11 := F11 (hall 11 (by decide))
      replace F12 := F12 (hall 12 (by decide))
      replace F13 := F13 (hall 13 (by decide))
      replace F14 := F14 (hall 14 (by decide))
      replace F15 := F15 (hall 15 (by decide))
      replace F16 := F16 (hall 16 (by decide))
      replace F17 := F17 (hall 17 (by decide))
      replace F18 := F18 (hall 18 (by decide))
      simp only [hall 16 (by decide), hall 17 (by decide)] at FM
      have hst := FM.done
      simp only [setAll, F18]
      clear FM hall seen F0 F1 F2 F3 F4 F5 F6 F7 F8 F9 F10 F11 F12 F13 F14 F15 F16 F17 F18 F19 F20 F21 F22
      generalize u 27 = u27 at *
      generalize u 28 = u28 at *
      generalize u 29 = u29 at *
      generalize u 30 = u30 at *
      generalize u 31 = u31 at *
      generalize u 32 = u32 at *
      generalize u 33 = u33 at *
      generalize u 34 = u34 at *
      generalize u 35 = u35 at *
      generalize u 36 = u36 at *
      generalize u 37 = u37 at *
      generalize u 38 = u38 at *
      generalize u 39 = u39 at *
      generalize u 40 = u40 at *
      generalize u 41 = u41 at *
      generalize u 42 = u42 at *
      generalize u 43 = u43 at *
      generalize u 44 = u44 at *
      have HST := hid (show w5.ownsRow w0.heap.size 3 1 u44 (L ++ [mv]).length ((L ++ [mv]).map (Value.int .i64)) by rw [List.length_append, List.map_append, HXS.out]; exact hst)
      have HB7 := hid hb5
      clear hst hb5 hown9 hmn' w1 w2 w3 w4 GD1 GD2
      go_wp2
      go_roundw
      case rel => exact ⟨k + 1, y, L ++ [mv], _, by omega, by go_num, rfl, HYC.out, HLA.out, HLN.out, by simp [hLk], HST.out, HB7.out⟩
      case measure => simp [intOf]; omega
    · obtain rfl : k = l.length := by omega
      rw [List.drop_length] at hla hL
      have HLL := hid (show L = sidesRF wd hg a l by rw [← hL]; simp [sidesRF])
      have hlq : q = lastOf a l := hla
      have hwl : IntKind.i64.wrap ((l.length : Int) + 1 - 1) = (l.length : Int) := wk
      have HBW := hid (bl_trans HB.out hB)
      have hbs := hB.size
      have hwX : w.heap.size ≤ w0.heap.size := HB.out.size
      by_cases ho : 0 ≤ out
      · have t1 : decide (0 ≤ out) = true := decide_eq_true ho
        have w1 : IntKind.i64.wrap (4 * q) = 4 * q := IntWalk.i64_in _ (by omega)
        have w3 : IntKind.i64.wrap (4 * q + out) = 4 * q + out := IntWalk.i64_in _ (by omega)
        have hlI : ((l.length : Int) + 1) - 1 = (l.length : Int) := by omega
        have wl2 : IntKind.i64.wrap (l.length : Int) = (l.length : Int) := IntWalk.i64_in _ (by omega)
        have hnle : ¬ ((l.length : Int) + 1 ≤ (l.length : Int)) := by omega
        have hLle : L.length ≤ 1000 := by omega
        have hbX : b < w0.heap.size := by have := (Array.getElem?_eq_some_iff.1 HL.out).1; have := (Array.getElem?_eq_some_iff.1 HK.out).1; omega
        have HCQ := hid (HCL.out l.length q hq)
        have HE := hid (show L ++ [4 * q + out] = FV by rw [← HFV.out, HLL.out, hlq]; unfold sidesR; rw [if_pos ho])
        have HLr := hid hLr
        clear hq hla hL hB hKr hLr hlt hqin ho hlq hown
        go_upto_region 8 with (fail)
        have hown9 := HOW.out
        obtain ⟨xs, hxs⟩ : ∃ xs, L.map (Value.int .i64) = xs := ⟨_, rfl⟩
        have HXS := hid hxs
        rw [hxs] at hown9
        obtain ⟨mv, hmv⟩ : ∃ mv, 4 * q + out = mv := ⟨_, rfl⟩
        rw [hmv] at HE
        have w4 : IntKind.i64.wrap (4 * q + out) = mv := by rw [w3, hmv]
        clear p0 p1 p2 p3 pl y0 y1 yl c0 hbw hwl hxs
        refine wp_region_valsG w0 HBr.out [48, 49, 50, 51, 52, 53, 54, 55, 56, 57, 58, 59, 60, 61, 62, 5] (fun seen u W => (seen 0 = true → u 48 = v) ∧
          (seen 1 = true → u 49 = .pointer (some ⟨Y, 0, none⟩)) ∧
          (seen 2 = true → u 50 = .slice (some ⟨b, off, none⟩) (l.length + 1) c) ∧
          (seen 3 = true → u 51 = .pointer (some ⟨Y, 0, none⟩)) ∧
          (seen 4 = true → u 52 = .slice (some ⟨b, off, none⟩) (l.length + 1) c) ∧
          (seen 5 = true → u 53 = .int .i64 ((l.length : Int) + 1)) ∧
          (seen 6 = true → u 54 = .int .i64 ((l.length : Int))) ∧
          (seen 7 = true → u 55 = .pointer (some ⟨b, off + l.length, none⟩)) ∧
          (seen 8 = true → u 56 = .int .i64 (q)) ∧
          (seen 9 = true → u 57 = .int .i64 (4 * q)) ∧
          (seen 10 = true → u 58 = .pointer (some ⟨Y, 1, none⟩)) ∧
          (seen 11 = true → u 59 = .int .i64 (out)) ∧
          (seen 12 = true → u 60 = .int .i64 (mv)) ∧
          (seen 13 = true → True) ∧
          (seen 14 = true → True) ∧
          (seen 15 = true → u 5 = u 62) ∧
          (seen 15 = true → seen 14 = true) ∧
          (seen 15 = false → u 5 = v) ∧
          (seen 15 = true → seen 0 = true) ∧
          (seen 14 = true → seen 13 = true) ∧
          OwnF w0.heap.size v L.length xs (.int .i64 mv) (seen 13) (seen 14) (u 61) (u 62) W)
          (by kernel_rfl) (by kernel_rfl) (by kernel_rfl) (by simp) ⟨by simp [valsOf], by simp [valsOf], by simp [valsOf], by simp [valsOf], by simp [valsOf], by simp [valsOf], by simp [valsOf], by simp [valsOf], by simp [valsOf], by simp [valsOf], by simp [valsOf], by simp [valsOf], by simp [valsOf], by simp [valsOf], by simp [valsOf], by simp [valsOf], by simp [valsOf], by simp [valsOf], by simp [valsOf], by simp [valsOf], OwnF.start (own_mono hown9 (bl_drew (bl_refl _)))⟩ ?_ ?_
        · intro i o ho seen a' w9 hb9 ⟨F0, F1, F2, F3, F4, F5, F6, F7, F8, F9, F10, F11, F12, F13, F14, F15, F16, F17, F18, F19, FM⟩ hv hsi hdep
          have hby := heap_mono HL.out hb9
          have y0 : w9.cell? ⟨Y, 0, none⟩ = some (.slice (some ⟨b, off, none⟩) (l.length + 1) c) := cell_of_heap hby
          have y1 : w9.cell? ⟨Y, 1, none⟩ = some (.int .i64 out) := cell_of_heap hby
          have yl := (Array.getElem?_eq_some_iff.1 hby).1
          have cq := cell_mono HCQ.out hb9
          have hb9l : b < w9.heap.size := Nat.lt_of_lt_of_le hbX hb9.size
          rcases i with _ | _ | _ | _ | _ | _ | _ | _ | _ | _ | _ | _ | _ | _ | _ | _ | i <;> simp only [List.getElem?_cons_zero, List.getElem?_cons_succ, List.getElem?_nil, Option.some.injEq, reduceCtorEq] at ho <;> subst ho
          · refine if_free rfl ?_
            have hs15 : seen 15 = false := by { cases hq : seen 15 with | false => rfl | true => exact absurd (F18 hq) (by rw [hsi]; decide) }
            have x5 := val_at (F17 hs15)
            refine wp_value (v) (w' := w9) (by simp [execOp, x5, go_sem, y0, y1, yl, cq, hb9l, w1, w4, wk, hlI, wl2, hnle]) ⟨_, rfl, hb9, ?_⟩
            exact ⟨by simp, by simpa using F1, by simpa using F2, by simpa using F3, by simpa using F4, by simpa using F5, by simpa using F6, by simpa using F7, by simpa using F8, by simpa using F9, by simpa using F10, by simpa using F11, by simpa using F12, by simpa using F13, by simpa using F14, by simpa using F15, by simpa using F16, by simpa using F17, by simp, by simpa using F19, by simpa using FM⟩
          · refine if_free rfl ?_
            have x3 := val_at (hv 3 (by simp))
            simp [valsOf] at x3
            refine wp_value (.pointer (some ⟨Y, 0, none⟩)) (w' := w9) (by simp [execOp, x3, go_sem, y0, y1, yl, cq, hb9l, w1, w4, wk, hlI, wl2, hnle]) ⟨_, rfl, hb9, ?_⟩
            exact ⟨by simpa using F0, by simp, by simpa using F2, by simpa using F3, by simpa using F4, by simpa using F5, by simpa using F6, by simpa using F7, by simpa using F8, by simpa using F9, by simpa using F10, by simpa using F11, by simpa using F12, by simpa using F13, by simpa using F14, by simpa using F15, by simpa using F16, by simpa using F17, by simpa using F18, by simpa using F19, by simpa using FM⟩
          · refine if_free rfl ?_
            have d1 := hdep ⟨1, .data⟩ (by simp) rfl
            have e1 := val_at (F1 d1)
            refine wp_value (.slice (some ⟨b, off, none⟩) (l.length + 1) c) (w' := w9) (by simp [execOp, e1, go_sem, y0, y1, yl, cq, hb9l, w1, w4, wk, hlI, wl2, hnle]) ⟨_, rfl, hb9, ?_⟩
            exact ⟨by simpa using F0, by simpa using F1, by simp, by simpa using F3, by simpa using F4, by simpa using F5, by simpa using F6, by simpa using F7, by simpa using F8, by simpa using F9, by simpa using F10, by simpa using F11, by simpa using F12, by simpa using F13, by simpa using F14, by simpa using F15, by simpa using F16, by simpa using F17, by simpa using F18, by simpa using F19, by simpa using FM⟩
          · refine if_free rfl ?_
            have x3 := val_at (hv 3 (by simp))
            simp [valsOf] at x3
            refine wp_value (.pointer (some ⟨Y, 0, none⟩)) (w' := w9) (by simp [execOp, x3, go_sem, y0, y1, yl, cq, hb9l, w1, w4, wk, hlI, wl2, hnle]) ⟨_, rfl, hb9, ?_⟩
            exact ⟨by simpa using F0, by simpa using F1, by simpa using F2, by simp, by simpa using F4, by simpa using F5, by simpa using F6, by simpa using F7, by simpa using F8, by simpa using F9, by simpa using F10, by simpa using F11, by simpa using F12, by simpa using F13, by simpa using F14, by simpa using F15, by simpa using F16, by simpa using F17, by simpa using F18, by simpa using F19, by simpa using FM⟩
          · refine if_free rfl ?_
            have d3 := hdep ⟨3, .data⟩ (by simp) rfl
            have e3 := val_at (F3 d3)
            refine wp_value (.slice (some ⟨b, off, none⟩) (l.length + 1) c) (w' := w9) (by simp [execOp, e3, go_sem, y0, y1, yl, cq, hb9l, w1, w4, wk, hlI, wl2, hnle]) ⟨_, rfl, hb9, ?_⟩
            exact ⟨by simpa using F0, by simpa using F1, by simpa using F2, by simpa using F3, by simp, by simpa using F5, by simpa using F6, by simpa using F7, by simpa using F8, by simpa using F9, by simpa using F10, by simpa using F11, by simpa using F12, by simpa using F13, by simpa using F14, by simpa using F15, by simpa using F16, by simpa using F17, by simpa using F18, by simpa using F19, by simpa using FM⟩
          · refine if_free rfl ?_
            have d4 := hdep ⟨4, .data⟩ (by simp) rfl
            have e4 := val_at (F4 d4)
            refine wp_value (.int .i64 ((l.length : Int) + 1)) (w' := w9) (by simp [execOp, e4, go_sem, y0, y1, yl, cq, hb9l, w1, w4, wk, hlI, wl2, hnle]) ⟨_, rfl, hb9, ?_⟩
            exact ⟨by simpa using F0, by simpa using F1, by simpa using F2, by simpa using F3, by simpa using F4, by simp, by simpa using F6, by simpa using F7, by simpa using F8, by simpa using F9, by simpa using F10, by simpa using F11, by simpa using F12, by simpa using F13, by simpa using F14, by simpa using F15, by simpa using F16, by simpa using F17, by simpa using F18, by simpa using F19, by simpa using FM⟩
          · refine if_free rfl ?_
            have d5 := hdep ⟨5, .data⟩ (by simp) rfl
            have e5 := val_at (F5 d5)
            refine wp_value (.int .i64 ((l.length : Int))) (w' := w9) (by simp [execOp, e5, go_sem, y0, y1, yl, cq, hb9l, w1, w4, wk, hlI, wl2, hnle]) ⟨_, rfl, hb9, ?_⟩
            exact ⟨by simpa using F0, by simpa using F1, by simpa using F2, by simpa using F3, by simpa using F4, by simpa using F5, by simp, by simpa using F7, by simpa using F8, by simpa using F9, by simpa using F10, by simpa using F11, by simpa using F12, by simpa using F13, by simpa using F14, by simpa using F15, by simpa using F16, by simpa using F17, by simpa using F18, by simpa using F19, by simpa using FM⟩
          · refine if_free rfl ?_
            have d2 := hdep ⟨2, .data⟩ (by simp) rfl
            have e2 := val_at (F2 d2)
            have d6 := hdep ⟨6, .data⟩ (by simp) rfl
            have e6 := val_at (F6 d6)
            refine wp_value (.pointer (some ⟨b, off + l.length, none⟩)) (w' := w9) (by simp [execOp, e2, e6, go_sem, y0, y1, yl, cq, hb9l, w1, w4, wk, hlI, wl2, hnle]) ⟨_, rfl, hb9, ?_⟩
            exact ⟨by simpa using F0, by simpa using F1, by simpa using F2, by simpa using F3, by simpa using F4, by simpa using F5, by simpa using F6, by simp, by simpa using F8, by simpa using F9, by simpa using F10, by simpa using F11, by simpa using F12, by simpa using F13, by simpa using F14, by simpa using F15, by simpa using F16, by simpa using F17, by simpa using F18, by simpa using F19, by simpa using FM⟩
          · refine if_free rfl ?_
            have d7 := hdep ⟨7, .data⟩ (by simp) rfl
            have e7 := val_at (F7 d7)
            refine wp_value (.int .i64 (q)) (w' := w9) (by simp [execOp, e7, go_sem, y0, y1, yl, cq, hb9l, w1, w4, wk, hlI, wl2, hnle]) ⟨_, rfl, hb9, ?_⟩
            exact ⟨by simpa using F0, by simpa using F1, by simpa using F2, by simpa using F3, by simpa using F4, by simpa using F5, by simpa using F6, by simpa using F7, by simp, by simpa using F9, by simpa using F10, by simpa using F11, by simpa using F12, by simpa using F13, by simpa using F14, by simpa using F15, by simpa using F16, by simpa using F17, by simpa using F18, by simpa using F19, by simpa using FM⟩
          · refine if_free rfl ?_
            have d8 := hdep ⟨8, .data⟩ (by simp) rfl
            have e8 := val_at (F8 d8)
            refine wp_value (.int .i64 (4 * q)) (w' := w9) (by simp [execOp, e8, go_sem, y0, y1, yl, cq, hb9l, w1, w4, wk, hlI, wl2, hnle]) ⟨_, rfl, hb9, ?_⟩
            exact ⟨by simpa using F0, by simpa using F1, by simpa using F2, by simpa using F3, by simpa using F4, by simpa using F5, by simpa using F6, by simpa using F7, by simpa using F8, by simp, by simpa using F10, by simpa using F11, by simpa using F12, by simpa using F13, by simpa using F14, by simpa using F15, by simpa using F16, by simpa using F17, by simpa using F18, by simpa using F19, by simpa using FM⟩
          · refine if_free rfl ?_
            have x3 := val_at (hv 3 (by simp))
            simp [valsOf] at x3
            refine wp_value (.pointer (some ⟨Y, 1, none⟩)) (w' := w9) (by simp [execOp, x3, go_sem, y0, y1, yl, cq, hb9l, w1, w4, wk, hlI, wl2, hnle]) ⟨_, rfl, hb9, ?_⟩
            exact ⟨by simpa using F0, by simpa using F1, by simpa using F2, by simpa using F3, by simpa using F4, by simpa using F5, by simpa using F6, by simpa using F7, by simpa using F8, by simpa using F9, by simp, by simpa using F11, by simpa using F12, by simpa using F13, by simpa using F14, by simpa using F15, by simpa using F16, by simpa using F17, by simpa using F18, by simpa using F19, by simpa using FM⟩
          · refine if_free rfl ?_
            have d10 := hdep ⟨10, .data⟩ (by simp) rfl
            have e10 := val_at (F10 d10)
            refine wp_value (.int .i64 (out)) (w' := w9) (by simp [execOp, e10, go_sem, y0, y1, yl, cq, hb9l, w1, w4, wk, hlI, wl2, hnle]) ⟨_, rfl, hb9, ?_⟩
            exact ⟨by simpa using F0, by simpa using F1, by simpa using F2, by simpa using F3, by simpa using F4, by simpa using F5, by simpa using F6, by simpa using F7, by simpa using F8, by simpa using F9, by simpa using F10, by simp, by simpa using F12, by simpa using F13, by simpa using F14, by simpa using F15, by simpa using F16, by simpa using F17, by simpa using F18, by simpa using F19, by simpa using FM⟩
          · refine if_free rfl ?_
            have d9 := hdep ⟨9, .data⟩ (by simp) rfl
            have e9 := val_at (F9 d9)
            have d11 := hdep ⟨11, .data⟩ (by simp) rfl
            have e11 := val_at (F11 d11)
            refine wp_value (.int .i64 (mv)) (w' := w9) (by simp [execOp, e9, e11, go_sem, y0, y1, yl, cq, hb9l, w1, w4, wk, hlI, wl2, hnle]) ⟨_, rfl, hb9, ?_⟩
            exact ⟨by simpa using F0, by simpa using F1, by simpa using F2, by simpa using F3, by simpa using F4, by simpa using F5, by simpa using F6, by simpa using F7, by simpa using F8, by simpa using F9, by simpa using F10, by simpa using F11, by simp, by simpa using F13, by simpa using F14, by simpa using F15, by simpa using F16, by simpa using F17, by simpa using F18, by simpa using F19, by simpa using FM⟩
          · refine if_free rfl ?_
            have d12 := hdep ⟨12, .data⟩ (by simp) rfl
            have e12 := val_at (F12 d12)
            have hs14 : seen 14 = false := by { cases hq : seen 14 with | false => rfl | true => exact absurd (F19 hq) (by rw [hsi]; decide) }
            rw [hsi, hs14] at FM
            have hm := FM.row
            have hg : Below w9.heap.size w9 (w9.alloc (.cells #[.int .i64 mv] 3)) := bl_alloc (bl_refl _) _
            refine wp_value (.slice (some ⟨w9.heap.size, 0, none⟩) 1 1) (w' := w9.alloc (.cells #[.int .i64 mv] 3)) (by simp [execOp, e12, go_sem]) ⟨_, rfl, bl_trans hb9 hg, ?_⟩
            exact ⟨by simpa using F0, by simpa using F1, by simpa using F2, by simpa using F3, by simpa using F4, by simpa using F5, by simpa using F6, by simpa using F7, by simpa using F8, by simpa using F9, by simpa using F10, by simpa using F11, by simpa using F12, by simp, by simpa using F14, by simpa using F15, by simpa using F16, by simpa using F17, by simpa using F18, by simp, by simpa [hs14] using hm⟩
          · refine if_free rfl ?_
            have d0 := hdep ⟨0, .data⟩ (by simp) rfl
            have e0 := val_at (F0 d0)
            have d13 := hdep ⟨13, .data⟩ (by simp) rfl
            rw [d13, hsi] at FM
            obtain ⟨b2, harg⟩ := FM.arg
            have e13 := val_at harg
            obtain ⟨v2, w10, hrun, hM, hbn⟩ := FM.app (W0 := w0) hb9 (Nat.le_refl _) (by omega)
            rw [harg] at hrun
            refine wp_append_run _ _ 22 rfl _ _ v2 w10 (by simp [go_sem, e0]) (by simp [go_sem, e13]) hrun ⟨_, rfl, hbn, ?_⟩
            exact ⟨by simpa using F0, by simpa using F1, by simpa using F2, by simpa using F3, by simpa using F4, by simpa using F5, by simpa using F6, by simpa using F7, by simpa using F8, by simpa using F9, by simpa using F10, by simpa using F11, by simpa using F12, by simpa using F13, by simp, by simpa using fun h => absurd (F16 h) (by rw [hsi]; decide), by simpa using F16, by simpa using F17, by simpa using F18, by simpa using d13, by simpa [d13] using hM⟩
          · refine if_free rfl ?_
            have d14 := hdep ⟨14, .data⟩ (by simp) rfl
            refine wp_value (valsOf a' 62) (w' := w9) (by simp [execOp, go_sem, valsOf]) ⟨_, rfl, hb9, ?_⟩
            exact ⟨by simpa using F0, by simpa using F1, by simpa using F2, by simpa using F3, by simpa using F4, by simpa using F5, by simpa using F6, by simpa using F7, by simpa using F8, by simpa using F9, by simpa using F10, by simpa using F11, by simpa using F12, by simpa using F13, by simpa using F14, by simp, by simpa using d14, by simp, by simpa using hdep ⟨0, .phase⟩ (by simp) rfl, by simpa using F19, by simpa using FM⟩
        intro u w5 hb5 seen hall ⟨F0, F1, F2, F3, F4, F5, F6, F7, F8, F9, F10, F11, F12, F13, F14, F15, F16, F17, F18, F19, FM⟩
        replace F0 := F0 (hall 0 (by decide))
        replace F1 := F1 (hall 1 (by decide))
        replace F2 := F2 (hall 2 (by decide))
        replace F3 := F3 (hall 3 (by decide))
        replace F4 := F4 (hall 4 (by decide))
        replace F5 := F5 (hall 5 (by decide))
        replace F6 := F6 (hall 6 (by decide))
        replace F7 := F7 (hall 7 (by decide))
        replace F8 := F8 (hall 8 (by decide))
        replace F9 := F9 (hall 9 (by decide))
        replace F10 := F10 (hall 10 (by decide))
        replace F11 := F11 (hall 11 (by decide))
        replace F12 := F12 (hall 12 (by decide))
        replace F13 := F13 (hall 13 (by decide))
        replace F14 := F14 (hall 14 (by decide))
        replace F15 := F15 (hall 15 (by decide))
        simp only [hall 13 (by decide), hall 14 (by decide)] at FM
        have hst := FM.done
        simp only [setAll, F15]
        clear FM hall seen F0 F1 F2 F3 F4 F5 F6 F7 F8 F9 F10 F11 F12 F13 F14 F15 F16 F17 F18 F19
        generalize u 48 = u48 at *
        generalize u 49 = u49 at *
        generalize u 50 = u50 at *
        generalize u 51 = u51 at *
        generalize u 52 = u52 at *
        generalize u 53 = u53 at *
        generalize u 54 = u54 at *
        generalize u 55 = u55 at *
        generalize u 56 = u56 at *
        generalize u 57 = u57 at *
        generalize u 58 = u58 at *
        generalize u 59 = u59 at *
        generalize u 60 = u60 at *
        generalize u 61 = u61 at *
        generalize u 62 = u62 at *
        have HST := hid (show w5.ownsRow w0.heap.size 3 1 u62 (L ++ [mv]).length ((L ++ [mv]).map (Value.int .i64)) by rw [List.length_append, List.map_append, HXS.out]; exact hst)
        have HB7 := hid (bl_trans HB.out hb5)
        clear hst hb5 hown9 w1 w3 w4 wk hlI hmv wl2 hnle
        go_wp2
        go_ret
        exact ⟨⟨_, rfl, by rw [← HE.out]; exact own_low HST.out HB.out.size⟩, HB7.out⟩
      · have t1 : decide (0 ≤ out) = false := decide_eq_false ho
        have HE := hid (show L = FV by rw [← HFV.out, HLL.out]; unfold sidesR; rw [if_neg ho]; simp)
        clear hq hla hL hB hKr hLr hlt hqin ho hlq hown
        go_wp2
        go_ret
        exact ⟨⟨_, rfl, by rw [← HE.out]; exact own_low HOW.out HB.out.size⟩, HBW.out⟩
end Go.Proofs.Ytlkoadcbolkhoaa
