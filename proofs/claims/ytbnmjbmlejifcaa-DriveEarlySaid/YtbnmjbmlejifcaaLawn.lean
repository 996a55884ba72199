/- Bytes of an argument; the first days of a cut by numbers: the walk. -/
import Derived.Test.YtbnmjbmlejifcaaLawd
import Derived.Test.YtbnmjbmlejifcaaRowkit
set_option linter.all false
namespace Go.Proofs.Ytbnmjbmlejifcaa
open Go Go.RowKit Go.Proofs
attribute [local go_sem] cell_grow frozen_grow

/-- The slice value s holds the bytes l. -/
def Bytes (w : World) (s : Value) (l : List Int) : Prop :=
  (s = .slice none 0 0 ∧ l = []) ∨ ∃ b off c, s = .slice (some ⟨b, off, none⟩) l.length c ∧ l.length ≤ c ∧ b < w.heap.size ∧ (∀ (i : Nat) (x : Int), l[i]? = some x → w.cell? ⟨b, off + i, none⟩ = some (.int .u8 x)) ∧ ∀ x ∈ l, 0 ≤ x ∧ x < 256
theorem Bytes.mono {w v : World} {s : Value} {l : List Int} (h : Bytes w s l) (hb : Below w.heap.size w v) : Bytes v s l := by
  rcases h with h | ⟨b, off, c, h1, h2, h3, h4, h5⟩
  · exact .inl h
  · exact .inr ⟨b, off, c, h1, h2, Nat.lt_of_lt_of_le h3 hb.size, fun i x hx => cell_mono (h4 i x hx) hb, h5⟩
theorem Bytes.slice {w : World} {s : Value} {l : List Int} (h : Bytes w s l) : ∃ A c, s = .slice A l.length c := by
  rcases h with ⟨rfl, rfl⟩ | ⟨b, off, c, rfl, _⟩
  · exact ⟨_, _, rfl⟩
  · exact ⟨_, _, rfl⟩
theorem Bytes.some {w : World} {s : Value} {l : List Int} (h : Bytes w s l) (hl : 1 ≤ l.length) : ∃ b off c, s = .slice (some ⟨b, off, none⟩) l.length c ∧ l.length ≤ c ∧ b < w.heap.size ∧ (∀ (i : Nat) (x : Int), l[i]? = Option.some x → w.cell? ⟨b, off + i, none⟩ = Option.some (.int .u8 x)) ∧ ∀ x ∈ l, 0 ≤ x ∧ x < 256 := by
  rcases h with ⟨_, rfl⟩ | h
  · simp at hl
  · exact h
section
open Go.ChangeShapes Go.WideShapes Go.ChangeAt Go.Joins
variable {H : Type} {enc : TypeId × Value → H} {W : World} {base : Nat}
set_option maxRecDepth 100000 in
theorem open_bytes {v : Value} {d : DataW H} {p : List MemPlace} (hv : Value.okWide Try.prog W .any base 50 v) (h : DataW.Trod enc Try.prog W 0 (fun _ => true) true 50 v d p) : ∃ ys, Bytes W v ys := by
  unfold Value.okWide at hv
  rw [Try.underlying50] at hv
  obtain ⟨n, hn⟩ := h
  have hc : v.cells = #[v] := by
    unfold Cell.okWide at hv
    rw [Try.underlying50] at hv
    simp only [Cell.ok, Try.underlying50] at hv
    cases v <;> simp at hv <;> rfl
  rw [hc] at hn
  rcases Deep.open_slice Try.underlying50 hn with ⟨e, _⟩ | ⟨a, len, cap, m, n', Dd, Pl, e, _, hl, hm, hmm, _, hx⟩
  · injection e with e
    subst e
    exact ⟨[], .inl ⟨rfl, rfl⟩⟩
  · injection e with e
    subst e
    obtain ⟨hsp, hb⟩ := slice_place Try.underlying50 hv
    obtain ⟨b, off, sp⟩ := a
    simp only at hsp hb
    subst hsp
    simp only [if_true] at hmm
    subst hmm
    have hc1 : Try.prog.cellsOf 5 = 1 := by kernel_rfl
    have each : ∀ i, i < len → ∃ x : Int, W.cell? ⟨b, off + i, none⟩ = some (.int .u8 x) ∧ 0 ≤ x ∧ x < 256 := fun i hi => by
      obtain ⟨cs', h1, h2⟩ := hx i (by omega)
      obtain ⟨x, e, _, hw⟩ := DataW.trod_int Try.underlying5 h2
      rw [hc1] at h1
      obtain ⟨_, _, hcell⟩ := World.cells?_some h1
      have h3 := hcell 0 (by omega)
      rw [e, Addr.add_lit, Addr.add_lit, Nat.mul_one, Nat.add_zero] at h3
      exact ⟨x, h3, wf_u8 hw⟩
    obtain ⟨f, hf⟩ := Deep.choose_lt each
    have hlen : ((List.range len).map f).length = len := by simp
    refine ⟨(List.range len).map f, .inr ⟨b, off, m, by rw [hlen], by rw [hlen]; exact hl, hb, fun i x hx => ?_, fun x hx => ?_⟩⟩
    · have hi : i < len := by rw [← hlen]; exact (List.getElem?_eq_some_iff.1 hx).1
      rw [List.getElem?_map, List.getElem?_range hi] at hx
      simp only [Option.map_some, Option.some.injEq] at hx
      subst hx
      exact (hf i hi).1
    · rw [List.mem_map] at hx
      obtain ⟨i, hi, rfl⟩ := hx
      exact (hf i (List.mem_range.1 hi)).2
end

set_option maxRecDepth 100000 in
set_option maxHeartbeats 8000000 in
theorem firstFn_any (days : Int) (l : List Rch) (sr : Value) (day : Int) (ys : List Int) (sb : Value) (w : World) (hr : Rchs w sr l) (hl : l.length ≤ 8) (hd : 1 ≤ day ∧ day ≤ 40) (hys : Bytes w sb ys) (hyl : ys.length ≤ 400) :
    Calls Try.prog 47 #[.agg #[.int .i64 days, sr], .int .i64 day, sb] w fun e w' => (∃ v f, e = .returned v ∧ Ints w' v f ∧ f.length = l.length ∧ ∀ x ∈ f, 1 ≤ x ∧ x ≤ day + 1) ∧ Below w.heap.size w w' := by
  obtain ⟨A, c, rfl⟩ := hr.slice
  obtain ⟨Ay, cy, rfl⟩ := hys.slice
  obtain ⟨i2, hi, hi0, hi1, hi2⟩ := info_parts info2'
  have HYS := hid hys
  have k0 := World.alloc_heap_new w (.cells #[.int .i64 days, .slice A l.length c] 24)
  have hbb := bl_alloc (bl_refl w) (.cells #[.int .i64 days, .slice A l.length c] 24)
  obtain ⟨w1, hw1⟩ : ∃ w1, w.alloc (.cells #[.int .i64 days, .slice A l.length c] 24) = w1 := ⟨_, rfl⟩
  have hz1 : w1.heap.size = w.heap.size + 1 := by rw [← hw1]; simp
  rw [hw1] at k0 hbb
  have K0 := hid k0
  clear k0 hr hys
  go_enter Try.func47, Try.ntmps47
  go_wp2
  go_loopw [7, 8] (fun s p wr => ∃ (k : Nat) (v : Value) (f : List Int), k ≤ l.length ∧ p = .int .i64 k ∧ s = v ∧ f.length = k ∧ (∀ x ∈ f, 1 ≤ x ∧ x ≤ day + 1) ∧ wr.ownsRow (w.heap.size + 1) 2 1 v k (f.map (Value.int .i64)) ∧ Below w1.heap.size w1 wr) (fun _ p _ => l.length - (intOf p).toNat)
  case atStart => exact ⟨0, _, [], Nat.zero_le _, rfl, rfl, rfl, fun x hx => by simp at hx, World.ownsRow_nil _ _ _ _, bl_refl _⟩
  case round =>
    obtain ⟨k, v, f, hk, rfl, hsv, hfl, hfb, hown, hB⟩ := hrel
    obtain rfl := hsv.symm
    have kb := heap_mono K0.out hB
    have hbc1 : wr.cell? ⟨w.heap.size, 1, none⟩ = some (.slice A l.length c) := cell_of_heap kb
    have hbl := (Array.getElem?_eq_some_iff.1 kb).1
    clear kb
    by_cases hlt : k < l.length
    · have hwk : IntKind.i64.wrap ((k : Int) + 1) = (k : Int) + 1 := IntWalk.i64_in _ (by omega)
      have hbase : w.heap.size + 1 ≤ wr.heap.size := by have := hB.size; omega
      have HFB := hid hfb
      have HBB := hid hB
      have HOW := hid hown
      clear hfb hB hown
      by_cases hy0 : 0 < ys.length
      · have dy : decide (0 < (ys.length : Int)) = true := by simp; omega
        obtain ⟨m, hm, hml⟩ : ∃ m : Nat, (k : Int) % (ys.length : Int) = m ∧ m < ys.length := by
          have h1 := Int.emod_nonneg (k : Int) (b := (ys.length : Int)) (by omega)
          have h2 := Int.emod_lt_of_pos (k : Int) (b := (ys.length : Int)) (by omega)
          exact ⟨((k : Int) % (ys.length : Int)).toNat, by omega, by omega⟩
        obtain ⟨y, hy⟩ := get_at hml
        obtain ⟨b3, o3, c3', e5, _, hb3, hyc, hyr⟩ := HYS.out.some (by omega)
        simp only [Value.slice.injEq, true_and] at e5
        obtain ⟨rfl, rfl⟩ := e5
        have hyb := hyr y (List.mem_of_getElem? hy)
        have hB05 := bl_trans hbb HBB.out
        have ycell := cell_mono (hyc m y hy) hB05
        have yl : b3 < wr.heap.size := Nat.lt_of_lt_of_le hb3 hB05.size
        have hnz : ((ys.length : Int) == 0) = false := beq_eq_false_iff_ne.2 (by omega)
        have hnz2 : ¬ ((ys.length : Int) = 0) := by omega
        have hmt : (k : Int).tmod (ys.length : Int) = (m : Int) := by rw [Int.tmod_eq_emod_of_nonneg (by omega), hm]
        have hmI : (m : Int) < (ys.length : Int) := by omega
        have hwy : IntKind.i64.wrap y = y := IntWalk.i64_in _ (by omega)
        have hwmm : IntKind.i64.wrap (m : Int) = m := IntWalk.i64_in _ (by omega)
        obtain ⟨dv, hdv⟩ : ∃ dv, day + 1 = dv := ⟨_, rfl⟩
        have hd1 : (dv == 0) = false := beq_eq_false_iff_ne.2 (by omega)
        have hd2 : ¬ dv = 0 := by omega
        have hwd : IntKind.i64.wrap dv = dv := IntWalk.i64_in _ (by omega)
        obtain ⟨q, hq, hq1⟩ : ∃ q, Int.tmod y dv = q ∧ 0 ≤ q ∧ q < dv := ⟨_, rfl, by rw [Int.tmod_eq_emod_of_nonneg (by omega)]; exact ⟨Int.emod_nonneg _ (by omega), Int.emod_lt_of_pos _ (by omega)⟩⟩
        have hwq : IntKind.i64.wrap q = q := IntWalk.i64_in _ (by omega)
        obtain ⟨z, hz⟩ : ∃ z, 1 + q = z := ⟨_, rfl⟩
        have hzb : 1 ≤ z ∧ z ≤ dv := by omega
        have hwz : IntKind.i64.wrap z = z := IntWalk.i64_in _ (by omega)
        clear hyc hyr hy hyb hm hB05
        have hown2 := HOW.out.alloc (.cells #[.int .i64 z] 2)
        go_wp2_with (at_builtin; refine wpList_append_own _ rfl _ _ 36 rfl (w.heap.size + 1) 2 i2 (.int .i64 0) 1 8 Try.underlying36 hi hi0 hi1 hi2 rfl (by decide) v k _ rfl hown2 ⟨wr.heap.size, 0, none⟩ 1 1 [.int .i64 z] rfl rfl (cell_one_new wr (.int .i64 z) 2) (fun x hx => by simp at hx; subst hx; rfl) (by unfold maxLen; omega) (by omega) (by simp; omega) ?_; intro v' w5 hown' hgrow5 hnil5; have hB5 := bl_grown (bl_alloc HBB.out _) hown2 (by rw [hz1]; exact Nat.le_refl _) hgrow5; clear hgrow5 hnil5)
        go_roundw
        case rel => exact ⟨k + 1, _, f ++ [z], by omega, by go_num, rfl, by simp [hfl], fun x hx => by
          rcases List.mem_append.1 hx with h | h
          · exact HFB.out x h
          · simp at h; subst h; omega, by simpa using hown', hB5⟩
        case measure => simp [intOf]; omega
      · have dy : decide (0 < (ys.length : Int)) = false := by rw [decide_eq_false_iff_not]; omega
        have hown2 := HOW.out.alloc (.cells #[.int .i64 1] 2)
        go_wp2_with (at_builtin; refine wpList_append_own _ rfl _ _ 36 rfl (w.heap.size + 1) 2 i2 (.int .i64 0) 1 8 Try.underlying36 hi hi0 hi1 hi2 rfl (by decide) v k _ rfl hown2 ⟨wr.heap.size, 0, none⟩ 1 1 [.int .i64 1] rfl rfl (cell_one_new wr (.int .i64 1) 2) (fun x hx => by simp at hx; subst hx; rfl) (by unfold maxLen; omega) (by omega) (by simp; omega) ?_; intro v' w5 hown' hgrow5 hnil5; have hB5 := bl_grown (bl_alloc HBB.out _) hown2 (by rw [hz1]; exact Nat.le_refl _) hgrow5; clear hgrow5 hnil5)
        go_roundw
        case rel => exact ⟨k + 1, _, f ++ [1], by omega, by go_num, rfl, by simp [hfl], fun x hx => by
          rcases List.mem_append.1 hx with h | h
          · exact HFB.out x h
          · simp at h; subst h; omega, by simpa using hown', hB5⟩
        case measure => simp [intOf]; omega
    · obtain rfl : k = l.length := by omega
      have hres := hid (ints_own hfl hown)
      have HFB := hid hfb
      have hbR := hid (bl_trans hbb hB)
      clear hown hB hfb
      go_wp2
      go_ret
      exact ⟨⟨_, rfl, f, hres.out, hfl, HFB.out⟩, hbR.out⟩

end Go.Proofs.Ytbnmjbmlejifcaa
