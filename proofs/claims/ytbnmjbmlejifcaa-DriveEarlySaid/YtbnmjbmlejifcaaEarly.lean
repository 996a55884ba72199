/- The early plan (the reference). -/
import Derived.Test.YtbnmjbmlejifcaaEpure
import Derived.Test.YtbnmjbmlejifcaaMat
import Derived.Deep.Cut
set_option linter.all false
namespace Go.Proofs.Ytbnmjbmlejifcaa
open Go Go.RowKit Go.Proofs
attribute [local go_sem] cell_grow frozen_grow

theorem rep_snoc {α : Type} (k : Nat) (x : α) : List.replicate k x ++ [x] = List.replicate (k + 1) x := by
  induction k with
  | zero => rfl
  | succ k ih => rw [List.replicate_succ, List.cons_append, ih]; rfl

set_option maxRecDepth 100000 in
set_option maxHeartbeats 16000000 in
theorem refEarly_any (days : Int) (l : List Rch) (sr : Value) (w : World) (hr : Rchs w sr l) (F : Fit days l) :
    Calls Try.prog 70 #[.agg #[.int .i64 days, sr]] w fun e w' => (∃ v, e = .returned v ∧ Rows w' v (planE days l)) ∧ Below w.heap.size w w' := by
  have hn1 := F.n1
  have hn2 := F.n2
  have hd1 := F.d1
  have hd2 := F.d2
  obtain ⟨b, off, c, rfl, hlc, hb, hcell⟩ := hr.some hn1
  obtain ⟨D, hD⟩ : ∃ D : Nat, days = D := ⟨days.toNat, by omega⟩
  obtain ⟨i36, hi, hi0, hi1, hi2⟩ := info_parts info36
  obtain ⟨i2, hi', hj0, hj1, hj2⟩ := info_parts info2'
  have HC := Lib.hid hcell
  have HF := hid F
  have HPL : Hid (planE days l = allE l D D) := by
    show planE days l = _
    unfold planE
    rw [hD, Int.toNat_natCast]
  subst hD
  have hD1 : 1 ≤ D := by omega
  have hD2 : D ≤ 40 := by omega
  clear hcell F
  have k0 := World.alloc_heap_new w (.cells #[.int .i64 (D : Int), .slice (some ⟨b, off, none⟩) l.length c] 24)
  have hbb := bl_alloc (bl_refl w) (.cells #[.int .i64 (D : Int), .slice (some ⟨b, off, none⟩) l.length c] 24)
  obtain ⟨w1, hw1⟩ : ∃ w1, w.alloc (.cells #[.int .i64 (D : Int), .slice (some ⟨b, off, none⟩) l.length c] 24) = w1 := ⟨_, rfl⟩
  have hz1 : w1.heap.size = w.heap.size + 1 := by rw [← hw1]; simp
  rw [hw1] at k0 hbb
  have K0 := hid k0
  clear k0
  go_enter Try.func70, Try.ntmps70
  go_wp2
  go_loopw [3, 4] (fun s p wr => ∃ (k : Nat) (v : Value) (Bs : List Nat), k ≤ l.length ∧ p = .int .i64 k ∧ s = v ∧ Mat wr (w.heap.size + 1) D v Bs (List.replicate k (List.replicate D 0)) ∧ Below w1.heap.size w1 wr) (fun _ p _ => l.length - (intOf p).toNat)
  case atStart => exact ⟨0, _, [], Nat.zero_le _, rfl, rfl, Mat.nil _ _ _, bl_refl _⟩
  case round =>
    obtain ⟨k, v, Bs, hk, rfl, hsv, M, hB⟩ := hrel
    obtain rfl := hsv.symm
    have kb := heap_mono K0.out hB
    have hbc := fun i => cell_of_heap (i := i) kb
    have hbc0 : wr.cell? ⟨w.heap.size, 0, none⟩ = some (.int .i64 (D : Int)) := hbc 0
    have hbl := (Array.getElem?_eq_some_iff.1 kb).1
    clear kb
    by_cases hlt : k < l.length
    · have hmk := run_makeSlice wr 36 2 i2 (.int .i64 0) Try.underlying36 hi' hj0 .i64 .i64 (D : Int) (D : Int) (by omega) (by omega) (by rw [hj1]; omega) (by rw [hj2]; omega) (by omega)
      rw [Int.toNat_natCast, hj1, Nat.mul_one, made_zero] at hmk
      have hll : (List.replicate k (List.replicate D (0 : Int))).length = k := by simp
      have hown := M.own
      rw [hll] at hown
      have hown2 := (hown.alloc (.cells (ints (List.replicate D (0 : Int))).toArray 2)).alloc (.cells #[.slice (some ⟨wr.heap.size, 0, none⟩) D D] 36)
      have HM := hid M
      have hbB : w.heap.size + 1 ≤ wr.heap.size := by have := hB.size; omega
      have hst := hid (rep_snoc k (List.replicate D (0 : Int)))
      clear M hown
      go_wp2_with (at_builtin; refine wpList_append_own _ rfl _ _ 25 rfl (w.heap.size + 1) 36 i36 (.slice none 0 0) 1 24 Try.underlying25 hi hi0 hi1 hi2 rfl (by decide) v k _ rfl hown2 ⟨wr.heap.size + 1, 0, none⟩ 1 1 [.slice (some ⟨wr.heap.size, 0, none⟩) D D] rfl rfl (by have := cell_one_new (wr.alloc (.cells (ints (List.replicate D (0 : Int))).toArray 2)) (.slice (some ⟨wr.heap.size, 0, none⟩) D D) 36; rw [World.size_alloc] at this; exact this) (fun x hx => by simp at hx; subst hx; rfl) (by unfold maxLen; omega) (by omega) (by simp; omega) ?_; intro v' w5 hown' hgrow5 hnil5; have M5 := hid (HM.out.made hbB (by rw [hll]; exact hown') hgrow5); have hB5 := bl_grown (bl_alloc (bl_alloc hB _) _) hown2 (by omega) hgrow5; clear hown' hgrow5 hnil5)
      go_roundw
      case rel => exact ⟨k + 1, _, _, by omega, by go_num, rfl, by rw [← hst.out]; exact M5.out, hB5⟩
      case measure => simp [intOf]; omega
    · obtain rfl : k = l.length := by omega
      have M0 : Mat wr (w.heap.size + 1) D v Bs (allE l D 0) := M
      have HM0 := hid M0
      clear M M0
      have HB := hid hB
      clear hB
      go_wp2
      clear hbc hbc0 hbl
      obtain ⟨w2, rfl⟩ : ∃ w2, w2 = wr := ⟨_, rfl⟩
      go_loopw [5, 6] (fun p _ wr => ∃ d : Nat, d ≤ D ∧ p = .int .i64 ((d : Int) + 1) ∧ Mat wr (w.heap.size + 1) D v Bs (allE l D d) ∧ Below w1.heap.size w1 wr) (fun p _ _ => D + 1 - (intOf p).toNat)
      case atStart => exact ⟨0, Nat.zero_le _, rfl, HM0.out, HB.out⟩
      case round =>
        obtain ⟨d, hd, rfl, M, hB⟩ := hrel
        have kb := heap_mono K0.out hB
        have hbc := fun i => cell_of_heap (i := i) kb
        have hbc0 : wr.cell? ⟨w.heap.size, 0, none⟩ = some (.int .i64 (D : Int)) := hbc 0
        have hbl3 := (Array.getElem?_eq_some_iff.1 kb).1
        clear kb
        by_cases hdl : d < D
        · have hdI : decide ((d : Int) + 1 ≤ (D : Int)) = true := by simp; omega
          have HM := hid M
          have HB2 := hid hB
          clear M hB
          go_wp2
          clear hbc hbc0 hbl3
          obtain ⟨w3, rfl⟩ : ∃ w3, w3 = wr := ⟨_, rfl⟩
          go_loopw [6] (fun p wr => ∃ i : Nat, i ≤ l.length ∧ p = .int .i64 i ∧ Mat wr (w.heap.size + 1) D v Bs (rowE l (allE l D d) (d + 1) i) ∧ Below w1.heap.size w1 wr) (fun p _ => l.length - (intOf p).toNat)
          case atStart => exact ⟨0, Nat.zero_le _, rfl, HM.out, HB2.out⟩
          case round =>
            obtain ⟨i, hi, rfl, M, hB⟩ := hrel
            have kb := heap_mono K0.out hB
            have hbc := fun i => cell_of_heap (i := i) kb
            have hbc1 : wr.cell? ⟨w.heap.size, 1, none⟩ = some (.slice (some ⟨b, off, none⟩) l.length c) := hbc 1
            have hbl4 := (Array.getElem?_eq_some_iff.1 kb).1
            clear kb
            by_cases hil : i < l.length
            · obtain ⟨x, hx⟩ := get_at hil
              have hB0 := bl_trans hbb hB
              obtain ⟨q0, q1, q2, q3, q4, q5, q6, q7⟩ := (HC.out i x hx).mono hB0
              have hbw : b < wr.heap.size := Nat.lt_of_lt_of_le hb hB0.size
              have hiI : (i : Int) < (l.length : Int) := by omega
              have xw := HF.out.water i x hx
              have xe := HF.out.every i x hx
              have xp := HF.out.pass i x hx
              have hrx := riv_at hx
              have hfu : Full l.length D (rowE l (allE l D d) (d + 1) i) := full_row (full_all l D d) _ _
              have hsm : Small (rowE l (allE l D d) (d + 1) i) := by
                have h := state_small HF.out (d := d) (i := i) (by rw [Int.toNat_natCast]; exact hdl) (by omega)
                rwa [Int.toNat_natCast] at h
              have hnx : rowE l (allE l D d) (d + 1) (i + 1) = stepE l (rowE l (allE l D d) (d + 1) i) (d + 1) i := rfl
              generalize rowE l (allE l D d) (d + 1) i = L at *
              unfold stepE at hnx
              rw [hrx, show (((d + 1 : Nat) : Nat) : Int) = (d : Int) + 1 by omega, show d + 1 - 1 = d by omega] at hnx
              have HNX := hid hnx
              clear hx hnx
              have hop := isOpen_any x ((d : Int) + 1) wr (by omega) (by omega) (by omega)
              by_cases ho : openB x ((d : Int) + 1) = true
              · rw [ho] at hop
                have hop' := hid hop
                obtain ⟨r, hr1⟩ := get_at (l := L) (k := i) (by rw [hfu.1]; exact hil)
                obtain ⟨B, hBi⟩ := get_at (l := Bs) (k := i) (by rw [M.len, hfu.1]; exact hil)
                have hrl := (M.rows i B r hBi hr1).2.2
                have hnew : Hid (rowE l (allE l D d) (d + 1) (i + 1) = L.set i (r.set d (newE l L (d + 1) i))) := by
                  have h := HNX.out
                  rw [if_pos ho, show L.getD i [] = r by simp [List.getD, hr1]] at h
                  exact h
                have hrows := M.rowsAt
                have hcb : 0 ≤ come (rivP l) (planP L) i ((d : Int) + 1) ∧ come (rivP l) (planP L) i ((d : Int) + 1) ≤ 900000000 := by
                  have h1 := comeN_bd HF.out hsm i ((d : Int) + 1) (by omega) i (by omega)
                  have h2 : come (rivP l) (planP L) i ((d : Int) + 1) = (if x.ready ≤ (d : Int) + 1 then x.logs else 0) + comeN l L i ((d : Int) + 1) i := by
                    unfold come comeN; rw [hrx]
                  have h3 := HF.out.logs i x (by obtain ⟨y, hy⟩ := get_at hil; rw [riv_at hy] at hrx; rw [hy, hrx])
                  rw [h2]
                  split <;> omega
                have hgb := gone_range hsm i ((d : Int) + 1) (by omega)
                have hne : Hid (newE l L (d + 1) i = min x.pass (come (rivP l) (planP L) i ((d : Int) + 1) - gone (planP L) i ((d : Int) + 1))) := by
                  show newE l L (d + 1) i = _
                  unfold newE
                  rw [hrx, show (((d + 1 : Nat) : Nat) : Int) = (d : Int) + 1 by omega]
                have G64 : Hid (∀ W, Below wr.heap.size wr W → Calls Try.prog 64 #[.agg #[.int .i64 (D : Int), .slice (some ⟨b, off, none⟩) l.length c], v, .int .i64 (i : Int), .int .i64 ((d : Int) + 1)] W fun e w' => e = .returned (.int .i64 (come (rivP l) (planP L) i ((d : Int) + 1))) ∧ Below W.heap.size W w') := fun W hW =>
                  come_any (D : Int) l _ L v i ((d : Int) + 1) W (hr.mono (bl_trans hB0 hW)) (hrows.mono hW) HF.out hfu.1 hil hsm (by omega)
                have G48 : Hid (∀ W, Below wr.heap.size wr W → Calls Try.prog 48 #[v, .int .i64 (i : Int), .int .i64 ((d : Int) + 1)] W fun e w' => e = .returned (.int .i64 (gone (planP L) i ((d : Int) + 1))) ∧ Below W.heap.size W w') := fun W hW =>
                  (gone_any L v i ((d : Int) + 1) W (hrows.mono hW) (by rw [hfu.1]; exact hil) hsm (by omega)).mono fun e w' ⟨h1, h2⟩ => ⟨h1, by rw [h2]; exact bl_refl _⟩
                obtain ⟨g, cap, hvv, hgc⟩ : ∃ g cap, v = .slice (some ⟨g, 0, none⟩) l.length cap ∧ wr.cell? ⟨g, i, none⟩ = some (.slice (some ⟨B, 0, none⟩) D D) := by
                  rcases M.own.2 with ⟨_, h2⟩ | ⟨g, cap, cur, h1, _⟩
                  · rw [hfu.1] at h2; omega
                  · have h3 := M.own.cells (g := g) (by rw [h1]; rfl) i (rowVal D B) (by rw [List.getElem?_map, hBi]; rfl)
                    rw [Addr.add_lit, Nat.zero_add] at h3
                    exact ⟨g, cap, by rw [h1, hfu.1], h3⟩
                have hgl := World.block_lt_of_cell? _ _ hgc
                simp only at hgl
                have hkB := (M.rows i B r hBi hr1).2.1
                have hBl := (Array.getElem?_eq_some_iff.1 hkB).1
                have HM := hid M
                have HBi := hid hBi
                have HR1 := hid hr1
                have hdr : (d : Int) < (D : Int) := by omega
                have hws : IntKind.i64.wrap ((d : Int) + 1 - 1) = d := by rw [IntWalk.i64_in _ (by omega)]; omega
                generalize come (rivP l) (planP L) i ((d : Int) + 1) = cm at *
                generalize gone (planP L) i ((d : Int) + 1) = gn at *
                have hwm : IntKind.i64.wrap (cm - gn) = cm - gn := IntWalk.i64_in _ (by omega)
                subst hvv
                have HQ : Hid (∀ W, Below wr.heap.size wr W → (∀ j, W.cell? ⟨w.heap.size, j, none⟩ = #[Value.int .i64 (D : Int), .slice (some ⟨b, off, none⟩) l.length c][j]?) ∧ W.cell? ⟨b, off + i * 8 + 1, none⟩ = some (.int .i64 x.pass) ∧ W.cell? ⟨g, i, none⟩ = some (.slice (some ⟨B, 0, none⟩) D D) ∧ w.heap.size < W.heap.size ∧ b < W.heap.size ∧ g < W.heap.size ∧ B < W.heap.size) := by
                  have hB' := hB
                  exact fun W hW => ⟨fun j => cell_of_heap (heap_mono K0.out (bl_trans hB' hW)), cell_mono q1 hW, cell_mono hgc hW, Nat.lt_of_lt_of_le hbl4 hW.size, Nat.lt_of_lt_of_le hbw hW.size, Nat.lt_of_lt_of_le hgl hW.size, Nat.lt_of_lt_of_le hBl hW.size⟩
                clear ho hop hr1 hBi M hrows hkB hsm hfu hrx
                go_wp2_with fail
                refine hop'.out.mono ?_
                rintro e w4 ⟨rfl, hb4⟩
                clear hbc hbc1 q0 q1 q2 q3 q4 q5 q6 q7 hgc hbl4 hbw hgl hBl hop'
                go_upto_region 13 with (fail)
                obtain ⟨a4, a5, a6, a7, a8, a9, a10⟩ := HQ.out w4 hb4
                have a41 : w4.cell? ⟨w.heap.size, 1, none⟩ = some (.slice (some ⟨b, off, none⟩) l.length c) := a4 1
                have G64' : Hid (∀ W, Below w4.heap.size w4 W → Calls Try.prog 64 #[.agg #[.int .i64 (D : Int), .slice (some ⟨b, off, none⟩) l.length c], .slice (some ⟨g, 0, none⟩) l.length cap, .int .i64 (i : Int), .int .i64 ((d : Int) + 1)] W fun e w' => e = .returned (.int .i64 cm) ∧ Below W.heap.size W w') := fun W hW => G64.out W (bl_trans hb4 hW)
                have G48' : Hid (∀ W, Below w4.heap.size w4 W → Calls Try.prog 48 #[.slice (some ⟨g, 0, none⟩) l.length cap, .int .i64 (i : Int), .int .i64 ((d : Int) + 1)] W fun e w' => e = .returned (.int .i64 gn) ∧ Below W.heap.size W w') := fun W hW => G48.out W (bl_trans hb4 hW)
                refine wp_region_below_tail 24 (by kernel_rfl) (by kernel_rfl) ?_
                simp only [List.take_succ_cons, List.take_zero, List.drop_succ_cons, List.drop_zero]
                repeat (first | go_big_quiet_step (first | (go_at_call 64; exact Calls.regrown_of (G64'.out _ (below_regrown _ _ _))) | (go_at_call 48; exact Calls.regrown_of (G48'.out _ (below_regrown _ _ _)))) | quiet_step (first | (go_at_call 64; exact Calls.regrown_of (G64'.out _ (below_regrown _ _ _))) | (go_at_call 48; exact Calls.regrown_of (G48'.out _ (below_regrown _ _ _)))))
                refine wpQuiet_nil ?_
                intro w5 hb5
                have hb45 := bl_trans hb4 hb5
                have M5 := HM.out.mono hb45
                obtain ⟨z1, z2, z3⟩ := M5.rows i B r HBi.out HR1.out
                have f5 := fun j => frozen_of_heap (i := j) z2
                obtain ⟨y, hy⟩ := get_at (l := r) (k := d) (by rw [hrl]; exact hdl)
                have c5 : w5.cell? ⟨B, d, none⟩ = some (.int .i64 y) := by rw [cell_of_heap z2]; simp [ints, hy]
                have M6 := M5.set HBi.out HR1.out (d := d) (by rw [hrl]; exact hdl) (if cm - gn < x.pass then cm - gn else x.pass)
                have hmin : (if cm - gn < x.pass then cm - gn else x.pass) = min x.pass (cm - gn) := by split <;> omega
                have e6 : L.set i (r.set d (if cm - gn < x.pass then cm - gn else x.pass)) = rowE l (allE l D d) (d + 1) (i + 1) := by rw [hmin, ← hne.out, ← hnew.out]
                rw [e6] at M6
                have hBl5 := (Array.getElem?_eq_some_iff.1 z2).1
                have hB6 := bl_set (bl_trans hB hb45) (o := d) (.int .i64 (if cm - gn < x.pass then cm - gn else x.pass)) (show w1.heap.size ≤ B by omega)
                have HM6 := hid M6
                clear a4 a41 a5 a6 a7 a8 a9 a10 M5 M6 hy z2 hmin e6
                go_wp2
                go_roundw
                case rel => exact ⟨i + 1, by omega, by go_num, HM6.out, hB6⟩
                case measure => simp [intOf]; omega
              · have hop' : Hid (Calls Try.prog 49 #[encR x, .int .i64 ((d : Int) + 1)] wr fun e w' => e = .returned (.bool false) ∧ Below wr.heap.size wr w') := by
                  rw [show openB x ((d : Int) + 1) = false by simpa using ho] at hop; exact hop
                have hnew : Hid (rowE l (allE l D d) (d + 1) (i + 1) = L) := by
                  have h := HNX.out
                  rwa [if_neg ho] at h
                have HM := hid M
                clear ho hop M hsm hfu hrx
                go_wp2_with fail
                refine hop'.out.mono ?_
                rintro e w4 ⟨rfl, hb4⟩
                have HM4 := hid (HM.out.mono hb4)
                have hB4 := bl_trans hB hb4
                clear hbc hbc1 q0 q1 q2 q3 q4 q5 q6 q7 hop'
                go_wp2
                go_roundw
                case rel => exact ⟨i + 1, by omega, by go_num, by rw [hnew.out]; exact HM4.out, hB4⟩
                case measure => simp [intOf]; omega
            · obtain rfl : i = l.length := by omega
              have HM3 : Hid (Mat wr (w.heap.size + 1) D v Bs (allE l D (d + 1))) := M
              clear M
              go_wp2
              go_roundw
              case rel => exact ⟨d + 1, by omega, by go_num, HM3.out, hB⟩
              case measure => simp [intOf]; omega
        · obtain rfl : d = D := by omega
          have hdI : decide ((d : Int) + 1 ≤ (d : Int)) = false := by simp; omega
          have hres := M.rowsAt
          have HR := hid hres
          clear M hres
          go_wp2
          go_ret
          exact ⟨⟨_, rfl, by rw [HPL.out]; exact HR.out⟩, bl_trans hbb hB⟩

end Go.Proofs.Ytbnmjbmlejifcaa
