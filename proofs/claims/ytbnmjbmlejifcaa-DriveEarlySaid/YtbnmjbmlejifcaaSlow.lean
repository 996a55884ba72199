/- Slow: a right plan by numbers (plain, and the walk). -/
import Derived.Test.YtbnmjbmlejifcaaLawn
set_option linter.all false
namespace Go.Proofs.Ytbnmjbmlejifcaa
open Go Go.RowKit Go.Proofs
attribute [local go_sem] cell_grow frozen_grow

theorem planP_at {L : List (List Int)} {i d : Nat} {q : List Int} {x : Int} (hq : L[i]? = some q) (hx : q[d]? = some x) : planP L i (d + 1) = x := by
  simp [planP, List.getD, hq, hx]
/-- A right plan is right. -/
theorem right_cp {D : Nat} {l : List Rch} {L : List (List Int)} {day : Int} (h0 : askedE (D : Int) l day = 0) (hf : Full l.length D L) (H : Right (rivP l) l.length D (planP L)) : cpErr (D : Int) l L day = 0 ∧ cpVal (D : Int) l L day = brought (rivP l) l.length (planP L) day := by
  obtain ⟨g0, _, _⟩ := asked_zero h0
  have F := fit_of g0
  have h1 : fullB (D : Int) l L = true := by
    unfold fullB
    have : L.any (shortB (D : Int)) = false := by
      rw [List.any_eq_false]
      intro r hr
      have := hf.2 r hr
      simp [shortB]; omega
    rw [this, hf.1]
    simp
  have hq : ∀ i, i < l.length → ∃ q, L[i]? = some q ∧ q.length = D := fun i hi => by
    obtain ⟨q, hq⟩ := get_at (l := L) (k := i) (by rw [hf.1]; exact hi)
    exact ⟨q, hq, hf.2 q (List.mem_of_getElem? hq)⟩
  have h2 : capB l L l.length = true := by
    unfold capB
    rw [List.all_eq_true]
    intro i hi
    have hi' := List.mem_range.1 hi
    obtain ⟨q, hqi, hql⟩ := hq i hi'
    obtain ⟨x, hx⟩ := get_at hi'
    have hp := F.pass i x hx
    rw [show L.getD i [] = q by simp [List.getD, hqi]]
    refine within_of fun d y hd hy => ?_
    have e := planP_at hqi hy
    have a1 := H.ge i d hi' (by omega)
    have a2 := H.cap i d hi' (by omega)
    rw [e] at a1 a2
    unfold capD at a2
    rw [riv_at hx] at a2 ⊢
    split at a2 <;> omega
  have h3 : ruleB l L l.length = true := by
    unfold ruleB
    rw [List.all_eq_true]
    intro i hi
    have hi' := List.mem_range.1 hi
    obtain ⟨q, hqi, hql⟩ := hq i hi'
    rw [show L.getD i [] = q by simp [List.getD, hqi]]
    unfold ruleR
    rw [List.all_eq_true]
    intro d hd
    have hd' := List.mem_range.1 hd
    obtain ⟨y, hy⟩ := get_at hd'
    have e := planP_at hqi hy
    have a2 := H.cap i d hi' (by omega)
    rw [e] at a2
    rw [show q.getD d 0 = y by simp [List.getD, hy]]
    by_cases hpos : 0 < y
    · unfold capD at a2
      cases ho : openB (rivP l i) ((d : Int) + 1)
      · rw [ho] at a2; simp at a2; omega
      · simp
    · simp [hpos]
  have h4 : sumB l L D = true := (sumB_iff l L D).2 fun j e hj he => H.sum j e hj (by unfold Done at he; omega)
  have he : cpErr (D : Int) l L day = 0 := by
    unfold cpErr
    have hn : ¬ (askedE (D : Int) l day ≠ 0) := by simpa using h0
    rw [if_neg hn, if_neg (by simp [h1]), if_neg (by simp [h2]), if_neg (by simp [h3]), if_neg (by simp [h4])]
  exact ⟨he, by unfold cpVal; rw [he, if_pos rfl]⟩
theorem early_cp {D : Nat} {l : List Rch} {day : Int} (h0 : askedE (D : Int) l day = 0) : cpErr (D : Int) l (planE D l) day = 0 ∧ cpVal (D : Int) l (planE D l) day = mostE D l day := by
  have F := fit_of (asked_zero h0).1
  have hf := planE_full (D : Int) l
  rw [Int.toNat_natCast] at hf
  exact right_cp h0 hf (right_of F)

/-! ### A slow plan -/
def InvS (l : List Rch) (D : Nat) (P : Nat → Nat → Int) (d i : Nat) : Prop :=
  ∀ j e, j < l.length → e < D → (Done d i j e → 0 ≤ P j (e + 1) ∧ P j (e + 1) ≤ capD (rivP l j) ((e : Int) + 1) ∧ gone P j ((e : Int) + 1) ≤ come (rivP l) P j ((e : Int) + 1)) ∧ (¬ Done d i j e → P j (e + 1) = 0)
section
variable {D : Nat} {l : List Rch}
theorem invS_nonneg {P : Nat → Nat → Int} {d i : Nat} (h : InvS l D P d i) {j e : Nat} (hj : j < l.length) (he : e < D) : 0 ≤ P j (e + 1) := by
  obtain ⟨h1, h2⟩ := h j e hj he
  by_cases hd : Done d i j e
  · exact (h1 hd).1
  · rw [h2 hd]; exact Int.le_refl _
theorem invS_small (F : Fit (D : Int) l) {L : List (List Int)} (hf : Full l.length D L) {d i : Nat} (h : InvS l D (planP L) d i) : Small L := by
  refine small_of hf (by have := F.d2; omega) fun j e hj he => ?_
  have h1 := invS_nonneg h hj he
  obtain ⟨h2, h3⟩ := h j e hj he
  obtain ⟨x, hx⟩ := get_at hj
  have hp := F.pass j x hx
  by_cases hd : Done d i j e
  · have h4 := (h2 hd).2.1
    unfold capD at h4
    rw [riv_at hx] at h4
    split at h4 <;> omega
  · rw [h3 hd]; omega
theorem invS_right {P : Nat → Nat → Int} (h : InvS l D P D 0) : Right (rivP l) l.length D P :=
  ⟨fun i d hi hd => ((h i d hi hd).1 (.inl hd)).1, fun i d hi hd => ((h i d hi hd).1 (.inl hd)).2.1, fun i d hi hd => ((h i d hi hd).1 (.inl hd)).2.2⟩
theorem invS_day {P : Nat → Nat → Int} {d : Nat} (h : InvS l D P d l.length) : InvS l D P (d + 1) 0 := fun j e hj he => by
  obtain ⟨h1, h2⟩ := h j e hj he
  exact ⟨fun q => h1 (by unfold Done at q ⊢; omega), fun q => h2 (by unfold Done at q ⊢; omega)⟩
theorem invS_start : InvS l D (planP (List.replicate l.length (List.replicate D 0))) 0 0 := fun j e hj he =>
  ⟨fun q => by unfold Done at q; omega, fun _ => plan_zero l D j (e + 1)⟩
/-- A reach that is closed on the day. -/
theorem invS_closed (F : Fit (D : Int) l) {P : Nat → Nat → Int} {d i : Nat} (h : InvS l D P d i) (hi : i < l.length) (hd : d < D) (ho : openB (rivP l i) ((d : Int) + 1) = false) : InvS l D P d (i + 1) := fun j e hj he => by
  have V := riv_of F
  obtain ⟨h1, h2⟩ := h j e hj he
  by_cases hje : j = i ∧ e = d
  · obtain ⟨rfl, rfl⟩ := hje
    have hz : P j (e + 1) = 0 := h2 (by unfold Done; omega)
    refine ⟨fun _ => ⟨by omega, ?_, ?_⟩, fun q => absurd (by unfold Done; omega) q⟩
    · rw [hz]; exact capD_nonneg V hj _
    · rw [gone_succ, hz]
      have hm : come (rivP l) P j (e : Int) ≤ come (rivP l) P j ((e : Int) + 1) := come_mono V hj (fun u hu d hd => invS_nonneg h (by omega) hd) (by omega) (by omega)
      have hg : gone P j (e : Int) ≤ come (rivP l) P j (e : Int) := by
        cases e with
        | zero => rw [gone_zero _ _ (by omega), show ((0 : Nat) : Int) = 0 from rfl, come_zero V _ hj]; exact Int.le_refl _
        | succ e => exact ((h j e hj (by omega)).1 (by unfold Done; omega)).2.2
      omega
  · exact ⟨fun q => h1 (by unfold Done at q ⊢; omega), fun q => h2 (by unfold Done at q ⊢; omega)⟩
/-- A reach that is open on the day: no more than may enter. -/
theorem invS_open (F : Fit (D : Int) l) {L : List (List Int)} (hf : Full l.length D L) {d i : Nat} (h : InvS l D (planP L) d i) (hi : i < l.length) (hd : d < D) (ho : openB (rivP l i) ((d : Int) + 1) = true) {n : Int} (h0 : 0 ≤ n) (hp : n ≤ (rivP l i).pass) (hc : n ≤ come (rivP l) (planP L) i ((d : Int) + 1) - gone (planP L) i ((d : Int) + 1)) : InvS l D (planP (L.set i ((L.getD i []).set d n))) d (i + 1) := by
  have V := riv_of F
  have hset : ∀ j e, planP (L.set i ((L.getD i []).set d n)) j (e + 1) = if j = i ∧ e = d then n else planP L j (e + 1) := fun j e => plan_set hf hi hd n j e
  have hbut : ∀ j e, ¬ (j = i ∧ e = d) → planP (L.set i ((L.getD i []).set d n)) j (e + 1) = planP L j (e + 1) := fun j e hje => by rw [hset, if_neg hje]
  have hz : planP L i (d + 1) = 0 := (h i d hi hd).2 (by unfold Done; omega)
  intro j e hj he
  obtain ⟨h1, h2⟩ := h j e hj he
  have hcome : ¬ (i < j ∧ (d : Int) + 1 ≤ (e : Int) + 1) → come (rivP l) (planP (L.set i ((L.getD i []).set d n))) j ((e : Int) + 1) = come (rivP l) (planP L) j ((e : Int) + 1) := fun hne => come_but hbut (fun u hu => V.takes u (by omega)) j ((e : Int) + 1) hne
  by_cases hje : j = i ∧ e = d
  · obtain ⟨rfl, rfl⟩ := hje
    refine ⟨fun _ => ⟨?_, ?_, ?_⟩, fun q => absurd (by unfold Done; omega) q⟩
    · rw [hset, if_pos ⟨rfl, rfl⟩]; exact h0
    · rw [hset, if_pos ⟨rfl, rfl⟩]; unfold capD; rw [if_pos ho]; exact hp
    · rw [hcome (by omega), gone_succ, hset, if_pos ⟨rfl, rfl⟩]
      have hg : gone (planP (L.set j ((L.getD j []).set e n))) j (e : Int) = gone (planP L) j (e : Int) := gone_but hbut j (e : Int) (by omega)
      rw [hg]
      rw [gone_succ, hz] at hc
      omega
  · refine ⟨fun q => ?_, fun q => ?_⟩
    · have hdn : Done d i j e := by unfold Done at q ⊢; omega
      obtain ⟨a1, a2, a3⟩ := h1 hdn
      refine ⟨by rw [hbut j e hje]; exact a1, by rw [hbut j e hje]; exact a2, ?_⟩
      rw [hcome (by unfold Done at hdn; omega), gone_but hbut j ((e : Int) + 1) (by unfold Done at hdn; omega)]
      exact a3
    · rw [hbut j e hje]; exact h2 (by unfold Done at q ⊢; omega)
/-- What may enter is not less than none. -/
theorem invS_room (F : Fit (D : Int) l) {P : Nat → Nat → Int} {d i : Nat} (h : InvS l D P d i) (hi : i < l.length) (hd : d < D) : 0 ≤ come (rivP l) P i ((d : Int) + 1) - gone P i ((d : Int) + 1) := by
  have V := riv_of F
  have hz : P i (d + 1) = 0 := (h i d hi hd).2 (by unfold Done; omega)
  rw [gone_succ, hz]
  have hm : come (rivP l) P i (d : Int) ≤ come (rivP l) P i ((d : Int) + 1) := come_mono V hi (fun u hu e he => invS_nonneg h (by omega) he) (by omega) (by omega)
  have hg : gone P i (d : Int) ≤ come (rivP l) P i (d : Int) := by
    cases d with
    | zero => rw [gone_zero _ _ (by omega), show ((0 : Nat) : Int) = 0 from rfl, come_zero V _ hi]; exact Int.le_refl _
    | succ d => exact ((h i d hi (by omega)).1 (by unfold Done; omega)).2.2
  omega
end


set_option maxRecDepth 100000 in
set_option maxHeartbeats 16000000 in
theorem slow_any (D : Nat) (l : List Rch) (sr : Value) (ys : List Int) (sb : Value) (w : World) (hr : Rchs w sr l) (F : Fit (D : Int) l) (hys : Bytes w sb ys) (hyl : ys.length ≤ 400) :
    Calls Try.prog 46 #[.agg #[.int .i64 (D : Int), sr], sb] w fun e w' => (∃ v L, e = .returned v ∧ Rows w' v L ∧ Full l.length D L ∧ Right (rivP l) l.length D (planP L)) ∧ Below w.heap.size w w' := by
  have hn1 := F.n1
  have hn2 := F.n2
  have hd1 := F.d1
  have hd2 := F.d2
  obtain ⟨b, off, c, rfl, hlc, hb, hcell⟩ := hr.some hn1
  obtain ⟨Ay, cy, rfl⟩ := hys.slice
  obtain ⟨i36, hi, hi0, hi1, hi2⟩ := info_parts info36
  obtain ⟨i2, hi', hj0, hj1, hj2⟩ := info_parts info2'
  have HC := Lib.hid hcell
  have HF := hid F
  have HYS := hid hys
  have hD1 : 1 ≤ D := by omega
  have hD2 : D ≤ 40 := by omega
  clear hcell F hys
  have k0 := World.alloc_heap_new w (.cells #[.int .i64 (D : Int), .slice (some ⟨b, off, none⟩) l.length c] 24)
  have hbb := bl_alloc (bl_refl w) (.cells #[.int .i64 (D : Int), .slice (some ⟨b, off, none⟩) l.length c] 24)
  obtain ⟨w1, hw1⟩ : ∃ w1, w.alloc (.cells #[.int .i64 (D : Int), .slice (some ⟨b, off, none⟩) l.length c] 24) = w1 := ⟨_, rfl⟩
  have hz1 : w1.heap.size = w.heap.size + 1 := by rw [← hw1]; simp
  rw [hw1] at k0 hbb
  have K0 := hid k0
  clear k0
  go_enter Try.func46, Try.ntmps46
  go_wp2
  go_loopw [5, 6] (fun s p wr => ∃ (k : Nat) (v : Value) (Bs : List Nat), k ≤ l.length ∧ p = .int .i64 k ∧ s = v ∧ Mat wr (w.heap.size + 1) D v Bs (List.replicate k (List.replicate D 0)) ∧ Below w1.heap.size w1 wr) (fun _ p _ => l.length - (intOf p).toNat)
  case atStart => exact ⟨0, _, [], Nat.zero_le _, rfl, rfl, Mat.nil _ _ _, bl_refl _⟩
  case round =>
    obtain ⟨k, v, Bs, hk, rfl, hsv, M, hB⟩ := hrel
    obtain rfl := hsv.symm
    have kb := heap_mono K0.out hB
    have hbc := fun i => cell_of_heap (i := i) kb
    have hbc0 : wr.cell? ⟨w.heap.size, 0, none⟩ = some (.int .i64 (D : Int)) := hbc 0
    have hbl := (Array.getElem?_eq_some_iff.1 kb).1
    clear kb
    by_cases hlt : k < l.length
    · have hmk := run_makeSlice wr 36 2 i2 (.int .i64 0) Try.underlying36 hi' hj0 .i64 .i64 (D : Int) (D : Int) (by omega) (by omega) (by rw [hj1]; omega) (by rw [hj2]; omega) (by omega)
      rw [Int.toNat_natCast, hj1, Nat.mul_one, made_zero] at hmk
      have hll : (List.replicate k (List.replicate D (0 : Int))).length = k := by simp
      have hown := M.own
      rw [hll] at hown
      have hown2 := (hown.alloc (.cells (ints (List.replicate D (0 : Int))).toArray 2)).alloc (.cells #[.slice (some ⟨wr.heap.size, 0, none⟩) D D] 36)
      have HM := hid M
      have hbB : w.heap.size + 1 ≤ wr.heap.size := by have := hB.size; omega
      have hst := hid (rep_snoc k (List.replicate D (0 : Int)))
      clear M hown
      go_wp2_with (at_builtin; refine wpList_append_own _ rfl _ _ 25 rfl (w.heap.size + 1) 36 i36 (.slice none 0 0) 1 24 Try.underlying25 hi hi0 hi1 hi2 rfl (by decide) v k _ rfl hown2 ⟨wr.heap.size + 1, 0, none⟩ 1 1 [.slice (some ⟨wr.heap.size, 0, none⟩) D D] rfl rfl (by have := cell_one_new (wr.alloc (.cells (ints (List.replicate D (0 : Int))).toArray 2)) (.slice (some ⟨wr.heap.size, 0, none⟩) D D) 36; rw [World.size_alloc] at this; exact this) (fun x hx => by simp at hx; subst hx; rfl) (by unfold maxLen; omega) (by omega) (by simp; omega) ?_; intro v' w5 hown' hgrow5 hnil5; have M5 := hid (HM.out.made hbB (by rw [hll]; exact hown') hgrow5); have hB5 := bl_grown (bl_alloc (bl_alloc hB _) _) hown2 (by omega) hgrow5; clear hown' hgrow5 hnil5)
      go_roundw
      case rel => exact ⟨k + 1, _, _, by omega, by go_num, rfl, by rw [← hst.out]; exact M5.out, hB5⟩
      case measure => simp [intOf]; omega
    · obtain rfl : k = l.length := by omega
      have HM0 := hid M
      have HB := hid hB
      clear M hB
      go_wp2
      clear hbc hbc0 hbl
      obtain ⟨w2, rfl⟩ : ∃ w2, w2 = wr := ⟨_, rfl⟩
      go_loopw [7, 8] (fun pk p wr => ∃ (d kk : Nat) (L : List (List Int)), d ≤ D ∧ kk ≤ 8 * d ∧ pk = .int .i64 (kk : Int) ∧ p = .int .i64 ((d : Int) + 1) ∧ Mat wr (w.heap.size + 1) D v Bs L ∧ Full l.length D L ∧ InvS l D (planP L) d 0 ∧ Below w1.heap.size w1 wr) (fun _ p _ => D + 1 - (intOf p).toNat)
      case atStart => exact ⟨0, 0, _, Nat.zero_le _, Nat.zero_le _, rfl, rfl, HM0.out, full_all l D 0, invS_start, HB.out⟩
      case round =>
        obtain ⟨d, kk, L, hd, hkk, rfl, rfl, M, hfu, hinv, hB⟩ := hrel
        clear HM0 HB
        have HM := hid M
        have HFU := hid hfu
        have HIN := hid hinv
        have HB2 := hid hB
        have kb := heap_mono K0.out hB
        have hbc0 : wr.cell? ⟨w.heap.size, 0, none⟩ = some (.int .i64 (D : Int)) := cell_of_heap kb
        have hbl3 := (Array.getElem?_eq_some_iff.1 kb).1
        clear kb M hfu hinv hB
        by_cases hdl : d < D
        · have hdI : decide ((d : Int) + 1 ≤ (D : Int)) = true := by simp; omega
          go_wp2
          clear hbc0 hbl3
          go_loopw [7, 9] (fun pk p wr => ∃ (i kk : Nat) (L : List (List Int)), i ≤ l.length ∧ kk ≤ 8 * d + i ∧ pk = .int .i64 (kk : Int) ∧ p = .int .i64 (i : Int) ∧ Mat wr (w.heap.size + 1) D v Bs L ∧ Full l.length D L ∧ InvS l D (planP L) d i ∧ Below w1.heap.size w1 wr) (fun _ p _ => l.length - (intOf p).toNat)
          case atStart => exact ⟨0, kk, L, Nat.zero_le _, by omega, rfl, rfl, HM.out, HFU.out, HIN.out, HB2.out⟩
          case round =>
            obtain ⟨i, kk, L, hi, hkk, rfl, rfl, M, hfu, hinv, hB⟩ := hrel
            clear HM HFU HIN HB2
            have kb := heap_mono K0.out hB
            have hbc1 : wr.cell? ⟨w.heap.size, 1, none⟩ = some (.slice (some ⟨b, off, none⟩) l.length c) := cell_of_heap kb
            have hbl4 := (Array.getElem?_eq_some_iff.1 kb).1
            clear kb
            by_cases hil : i < l.length
            · obtain ⟨x, hx⟩ := get_at hil
              have hB0 := bl_trans hbb hB
              obtain ⟨q0, q1, q2, q3, q4, q5, q6, q7⟩ := (HC.out i x hx).mono hB0
              have hiI : (i : Int) < (l.length : Int) := by omega
              have xw := HF.out.water i x hx
              have xe := HF.out.every i x hx
              have xp := HF.out.pass i x hx
              have hsm := invS_small HF.out hfu hinv
              have hop := isOpen_any x ((d : Int) + 1) wr (by omega) (by omega) (by omega)
              unfold encR at hop
              have HFU := hid hfu
              have HIN := hid hinv
              have HM := hid M
              have HB3 := hid hB
              have Hx := hid hx
              have HSM := hid hsm
              clear M hfu hinv hB hx hsm
              cases ho : openB x ((d : Int) + 1)
              · rw [ho] at hop
                have hn2 := hid (invS_closed HF.out HIN.out hil hdl (by rw [riv_at Hx.out]; exact ho))
                clear ho
                go_wp2_with fail
                refine hop.mono ?_
                rintro e w4 ⟨rfl, hb4⟩
                have HM4 := hid (HM.out.mono hb4)
                have HB4 := hid (bl_trans HB3.out hb4)
                clear hop q0 q1 q2 q3 q4 q5 q6 q7 hbc1 hbl4
                go_wp2
                go_roundw
                case rel => exact ⟨i + 1, kk, L, by omega, by omega, rfl, by go_num, HM4.out, HFU.out, hn2.out, HB4.out⟩
                case measure => simp [intOf]; omega
              · rw [ho] at hop
                have HOP := hid ho
                clear ho
                go_wp2_with fail
                refine hop.mono ?_
                rintro e w4 ⟨rfl, hb4⟩
                have HM4 := hid (HM.out.mono hb4)
                have HB4 := hid (bl_trans HB3.out hb4)
                clear hop q0 q1 q2 q3 q4 q5 q6 q7 hbc1 hbl4 HM HB3 hb4
                go_upto_region 14 with (fail)
                have hB04 := bl_trans hbb HB4.out
                have hrows := HM4.out.rowsAt
                obtain ⟨r, hr1⟩ := get_at (l := L) (k := i) (by rw [HFU.out.1]; exact hil)
                obtain ⟨B, hBi⟩ := get_at (l := Bs) (k := i) (by rw [HM4.out.len, HFU.out.1]; exact hil)
                have hrl := (HM4.out.rows i B r hBi hr1).2.2
                have hcb := come_bd HF.out HSM.out hil ((d : Int) + 1) (by omega)
                have hgb := gone_range HSM.out i ((d : Int) + 1) (by omega)
                have hroom := invS_room HF.out HIN.out hil hdl
                have G64 : Hid (∀ W, Below w4.heap.size w4 W → Calls Try.prog 64 #[.agg #[.int .i64 (D : Int), .slice (some ⟨b, off, none⟩) l.length c], v, .int .i64 (i : Int), .int .i64 ((d : Int) + 1)] W fun e w' => e = .returned (.int .i64 (come (rivP l) (planP L) i ((d : Int) + 1))) ∧ Below W.heap.size W w') := fun W hW =>
                  come_any (D : Int) l _ L v i ((d : Int) + 1) W (hr.mono (bl_trans hB04 hW)) (hrows.mono hW) HF.out HFU.out.1 hil HSM.out (by omega)
                have G48 : Hid (∀ W, Below w4.heap.size w4 W → Calls Try.prog 48 #[v, .int .i64 (i : Int), .int .i64 ((d : Int) + 1)] W fun e w' => e = .returned (.int .i64 (gone (planP L) i ((d : Int) + 1))) ∧ Below W.heap.size W w') := fun W hW =>
                  (gone_any L v i ((d : Int) + 1) W (hrows.mono hW) (by rw [HFU.out.1]; exact hil) HSM.out (by omega)).mono fun e w' ⟨h1, h2⟩ => ⟨h1, by rw [h2]; exact bl_refl _⟩
                obtain ⟨g, cap, hvv, hgc⟩ : ∃ g cap, v = .slice (some ⟨g, 0, none⟩) l.length cap ∧ w4.cell? ⟨g, i, none⟩ = some (.slice (some ⟨B, 0, none⟩) D D) := by
                  rcases HM4.out.own.2 with ⟨_, h2⟩ | ⟨g, cap, cur, h1, _⟩
                  · rw [HFU.out.1] at h2; omega
                  · have h3 := HM4.out.own.cells (g := g) (by rw [h1]; rfl) i (rowVal D B) (by rw [List.getElem?_map, hBi]; rfl)
                    rw [Addr.add_lit, Nat.zero_add] at h3
                    exact ⟨g, cap, by rw [h1, HFU.out.1], h3⟩
                have HRI : Hid (∀ n : Int, 0 ≤ n → n ≤ x.pass → n ≤ come (rivP l) (planP L) i ((d : Int) + 1) - gone (planP L) i ((d : Int) + 1) → InvS l D (planP (L.set i (r.set d n))) d (i + 1)) := fun n h0 h1 h2 => by
                  have h := invS_open HF.out HFU.out HIN.out hil hdl (by rw [riv_at Hx.out]; exact HOP.out) h0 (by rw [riv_at Hx.out]; exact h1) h2
                  rwa [show L.getD i [] = r by simp [List.getD, hr1]] at h
                have HBi := hid hBi
                have HR1 := hid hr1
                have hgn := World.block_lt_of_cell? _ _ hgc
                simp only at hgn
                have q1 := ((HC.out i x Hx.out).mono hB04).c1
                have hbw : b < w4.heap.size := Nat.lt_of_lt_of_le hb hB04.size
                have kb := heap_mono K0.out HB4.out
                have hbc0 : w4.cell? ⟨w.heap.size, 0, none⟩ = some (.int .i64 (D : Int)) := cell_of_heap kb
                have hbc1 : w4.cell? ⟨w.heap.size, 1, none⟩ = some (.slice (some ⟨b, off, none⟩) l.length c) := cell_of_heap kb
                have hbl4 := (Array.getElem?_eq_some_iff.1 kb).1
                generalize come (rivP l) (planP L) i ((d : Int) + 1) = cm at *
                generalize gone (planP L) i ((d : Int) + 1) = gn at *
                have hwm : IntKind.i64.wrap (cm - gn) = cm - gn := IntWalk.i64_in _ (by omega)
                subst hvv
                clear kb hrows hr1 hBi
                refine wp_region_below (by kernel_rfl) (by kernel_rfl) ?_
                repeat (first | go_big_quiet_step (first | (go_at_call 64; exact Calls.regrown_of (G64.out _ (below_regrown _ _ _))) | (go_at_call 48; exact Calls.regrown_of (G48.out _ (below_regrown _ _ _)))) | quiet_step (first | (go_at_call 64; exact Calls.regrown_of (G64.out _ (below_regrown _ _ _))) | (go_at_call 48; exact Calls.regrown_of (G48.out _ (below_regrown _ _ _)))))
                refine wpQuiet_nil ?_
                intro w5 hb5
                have HM5 := hid (HM4.out.mono hb5)
                have HB5 := hid (bl_trans HB4.out hb5)
                have HGC := hid (cell_mono hgc hb5)
                clear G64 G48 q1 hbc0 hbc1 hbl4 hbw hgn hgc hb5 HM4 HB4 hwm
                obtain ⟨n0, hn0⟩ : ∃ n0, (if cm - gn < x.pass then cm - gn else x.pass) = n0 := ⟨_, rfl⟩
                have hn0b : 0 ≤ n0 ∧ n0 ≤ x.pass ∧ n0 ≤ cm - gn := by rw [← hn0]; split <;> omega
                rw [hn0]
                clear hn0
                by_cases hy0 : 0 < ys.length
                · have dy : decide (0 < (ys.length : Int)) = true := by simp; omega
                  obtain ⟨m, hm, hml⟩ : ∃ m : Nat, (kk : Int) % (ys.length : Int) = m ∧ m < ys.length := by
                    have h1 := Int.emod_nonneg (kk : Int) (b := (ys.length : Int)) (by omega)
                    have h2 := Int.emod_lt_of_pos (kk : Int) (b := (ys.length : Int)) (by omega)
                    exact ⟨((kk : Int) % (ys.length : Int)).toNat, by omega, by omega⟩
                  obtain ⟨y, hy⟩ := get_at hml
                  obtain ⟨b3, o3, c3', e5, _, hb3, hyc, hyr⟩ := HYS.out.some (by omega)
                  simp only [Value.slice.injEq, true_and] at e5
                  obtain ⟨rfl, rfl⟩ := e5
                  have hyb := hyr y (List.mem_of_getElem? hy)
                  have hB05 := bl_trans hbb HB5.out
                  have ycell := cell_mono (hyc m y hy) hB05
                  have yl : b3 < w5.heap.size := Nat.lt_of_lt_of_le hb3 hB05.size
                  have hnz : ((ys.length : Int) == 0) = false := beq_eq_false_iff_ne.2 (by omega)
                  have hmt : (kk : Int).tmod (ys.length : Int) = (m : Int) := by rw [Int.tmod_eq_emod_of_nonneg (by omega), hm]
                  have hmI : (m : Int) < (ys.length : Int) := by omega
                  have hwy : IntKind.i64.wrap y = y := IntWalk.i64_in _ (by omega)
                  have hwmm : IntKind.i64.wrap (m : Int) = m := IntWalk.i64_in _ (by omega)
                  have HYB := hid hyb
                  have HM1 := hid hm
                  clear hyc hyr hy hyb
                  go_upto_region 17 with (fail)
                  obtain ⟨n1, hn1⟩ : ∃ n1, (if y < n0 then y else n0) = n1 := ⟨_, rfl⟩
                  have hn1b : 0 ≤ n1 ∧ n1 ≤ n0 := by rw [← hn1]; have := HYB.out; split <;> omega
                  rw [hn1]
                  clear hn1 ycell yl hnz hmt hmI hwy hwmm hb3
                  have hrow := HM5.out.rows i B r HBi.out HR1.out
                  have hrl2 := hrow.2.2
                  obtain ⟨z, hz⟩ := get_at (l := r) (k := d) (by rw [hrl2]; exact hdl)
                  have kz := hrow.2.1
                  have z1 : w5.cell? ⟨B, d, none⟩ = some (.int .i64 z) := by rw [cell_of_heap kz]; simp [ints, hz]
                  have z2 : w5.frozen? ⟨B, d, none⟩ = false := frozen_of_heap kz
                  have z3 : B < w5.heap.size := (Array.getElem?_eq_some_iff.1 kz).1
                  have gc := HGC.out
                  have gl : g < w5.heap.size := World.block_lt_of_cell? _ _ gc
                  have HM6 := hid (HM5.out.set HBi.out HR1.out (by rw [hrl2]; exact hdl) n1)
                  have hf6 := full_set HFU.out i d n1
                  rw [show L.getD i [] = r by simp [List.getD, HR1.out]] at hf6
                  have HF6 := hid hf6
                  have HI6 := hid (HRI.out n1 (by omega) (by omega) (by omega))
                  have HB6 := hid (bl_set HB5.out (.int .i64 n1) (o := d) (b := B) (by have := hrow.1; omega))
                  have hwk : IntKind.i64.wrap ((kk : Int) + 1) = (kk : Int) + 1 := IntWalk.i64_in _ (by omega)
                  have hwd : IntKind.i64.wrap ((d : Int) + 1 - 1) = (d : Int) := by rw [IntWalk.i64_in _ (by omega)]; omega
                  have hwd2 : IntKind.i64.wrap (d : Int) = (d : Int) := IntWalk.i64_in _ (by omega)
                  have hdI2 : (d : Int) < (D : Int) := by omega
                  clear hrow kz hf6 hz
                  go_wp2
                  go_roundw
                  case rel => exact ⟨i + 1, kk + 1, L.set i (r.set d n1), by omega, by omega, by go_num, by go_num, HM6.out, HF6.out, HI6.out, HB6.out⟩
                  case measure => simp [intOf]; omega
                · have dy : decide (0 < (ys.length : Int)) = false := by rw [decide_eq_false_iff_not]; omega
                  go_upto_region 17 with (fail)
                  have hrow := HM5.out.rows i B r HBi.out HR1.out
                  have hrl2 := hrow.2.2
                  obtain ⟨z, hz⟩ := get_at (l := r) (k := d) (by rw [hrl2]; exact hdl)
                  have kz := hrow.2.1
                  have z1 : w5.cell? ⟨B, d, none⟩ = some (.int .i64 z) := by rw [cell_of_heap kz]; simp [ints, hz]
                  have z2 : w5.frozen? ⟨B, d, none⟩ = false := frozen_of_heap kz
                  have z3 : B < w5.heap.size := (Array.getElem?_eq_some_iff.1 kz).1
                  have gc := HGC.out
                  have gl : g < w5.heap.size := World.block_lt_of_cell? _ _ gc
                  have HM6 := hid (HM5.out.set HBi.out HR1.out (by rw [hrl2]; exact hdl) n0)
                  have hf6 := full_set HFU.out i d n0
                  rw [show L.getD i [] = r by simp [List.getD, HR1.out]] at hf6
                  have HF6 := hid hf6
                  have HI6 := hid (HRI.out n0 (by omega) (by omega) (by omega))
                  have HB6 := hid (bl_set HB5.out (.int .i64 n0) (o := d) (b := B) (by have := hrow.1; omega))
                  have hwk : IntKind.i64.wrap ((kk : Int) + 1) = (kk : Int) + 1 := IntWalk.i64_in _ (by omega)
                  have hwd : IntKind.i64.wrap ((d : Int) + 1 - 1) = (d : Int) := by rw [IntWalk.i64_in _ (by omega)]; omega
                  have hwd2 : IntKind.i64.wrap (d : Int) = (d : Int) := IntWalk.i64_in _ (by omega)
                  have hdI2 : (d : Int) < (D : Int) := by omega
                  clear hrow kz hf6 hz
                  go_wp2
                  go_roundw
                  case rel => exact ⟨i + 1, kk + 1, L.set i (r.set d n0), by omega, by omega, by go_num, by go_num, HM6.out, HF6.out, HI6.out, HB6.out⟩
                  case measure => simp [intOf]; omega
            · obtain rfl : i = l.length := by omega
              have hn2 := hid (invS_day hinv)
              have HFU := hid hfu
              have HM := hid M
              have HB3 := hid hB
              clear hinv hfu M hB
              go_wp2
              go_roundw
              case rel => exact ⟨d + 1, kk, L, by omega, by omega, rfl, by go_num, HM.out, HFU.out, hn2.out, HB3.out⟩
              case measure => simp [intOf]; omega
        · obtain rfl : d = D := by omega
          have hdI : decide ((d : Int) + 1 ≤ (d : Int)) = false := by rw [decide_eq_false_iff_not]; omega
          have hres := HM.out.rowsAt
          have HR := hid hres
          have hri := hid (invS_right HIN.out)
          clear hres
          go_wp2
          go_ret
          exact ⟨⟨_, L, rfl, HR.out, HFU.out, hri.out⟩, bl_trans hbb HB2.out⟩

end Go.Proofs.Ytbnmjbmlejifcaa
