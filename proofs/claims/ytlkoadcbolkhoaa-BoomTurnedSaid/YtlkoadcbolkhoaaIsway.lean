/- Whether a way is one: the walk. -/
import Derived.Deep.CutRange
import Derived.Test.YtlkoadcbolkhoaaWaysi
set_option linter.all false
namespace Go.Proofs.Ytlkoadcbolkhoaa
open Go Go.RowKit Go.Proofs
attribute [local go_sem] cell_grow frozen_grow

theorem Ints.tail {W : World} {b off c : Nat} {a : Int} {l : List Int} (h : Ints W (.slice (some ⟨b, off, none⟩) (l.length + 1) c) (a :: l)) : Ints W (.slice (some ⟨b, off + 1, none⟩) l.length (c - 1)) l := by
  rcases h with ⟨h, _⟩ | ⟨b', off', c', h1, h2, h3, h4⟩
  · cases h
  · injection h1 with e1 e2 e3
    injection e1 with e1
    injection e1 with e4 e5
    subst e3 e4 e5
    refine .inr ⟨b, off + 1, c - 1, rfl, by simp at h2; omega, h3, fun i x hx => ?_⟩
    have := h4 (i + 1) x (by simpa using hx)
    rw [← this]
    congr 2
    omega
theorem Ints.bare {W : World} {b off : Nat} (h : b < W.heap.size) : Ints W (.slice (some ⟨b, off, none⟩) 0 0) [] := .inr ⟨b, off, 0, rfl, by simp, h, fun i x hx => by simp at hx⟩

def pathB (wd hg : Int) : Int → List Int → Bool
  | _, [] => true
  | a, c :: l => decide (0 ≤ dirV wd hg a c) && pathB wd hg c l
def lastOf : Int → List Int → Int
  | a, [] => a
  | _, c :: l => lastOf c l
def endB (wd hg : Int) (keep : List Int) (last out : Int) : Bool := if out < 0 then keep.contains last else decide (0 ≤ dirV wd hg last (-1 - out))
def isWayB (wd hg : Int) (want keep : List Int) (x : Way) : Bool :=
  match x.cells with
  | [] => false
  | a :: l => want.contains a && pathB wd hg a l && endB wd hg keep (lastOf a l) x.out
theorem dirV_rng (wd hg a b : Int) : -1 ≤ dirV wd hg a b ∧ dirV wd hg a b ≤ 3 := by unfold dirV; repeat' split <;> omega

set_option maxRecDepth 100000 in
set_option maxHeartbeats 8000000 in
theorem isway_any {RP MB : Nat} {wd hg : Int} {sw sk : Value} {want keep : List Int} {m : Int} {u : Used} (x : Way) (s : Value) (a : Int) (l : List Int) (w : World) (hR : RaftAt w RP MB wd hg sw sk want keep m u) (hV : Valid wd hg want keep) (hx : x.cells = a :: l) (hin : ∀ c ∈ x.cells, inP wd hg c) (hout : -1 ≤ x.out ∧ x.out ≤ 3) (hl : l.length ≤ 100) (hs : Ints w s x.cells) :
    Calls Try.prog 80 #[.pointer (some ⟨RP, 0, none⟩), .agg #[s, .int .i64 x.out]] w fun e w' => e = .returned (.bool (isWayB wd hg want keep x)) ∧ Below w.heap.size w w' := by
  have hV64 := hV.klen
  have hres : isWayB wd hg want keep x = (want.contains a && pathB wd hg a l && endB wd hg keep (lastOf a l) x.out) := by unfold isWayB; rw [hx]
  rw [hres]
  rw [hx] at hin hs
  obtain ⟨out, ho⟩ : ∃ out, x.out = out := ⟨_, rfl⟩
  rw [ho] at hout ⊢
  clear hres hx ho
  obtain ⟨b, off, c, rfl, hcl, hbl, hcell⟩ : ∃ b off c, s = .slice (some ⟨b, off, none⟩) (l.length + 1) c ∧ l.length + 1 ≤ c ∧ b < w.heap.size ∧ w.cell? ⟨b, off, none⟩ = some (.int .i64 a) := by
    rcases hs with ⟨_, h⟩ | ⟨b, off, c, h1, h2, h3, h4⟩
    · cases h
    · exact ⟨b, off, c, h1, by simpa using h2, h3, h4 0 a rfl⟩
  have hb0 := bl_alloc (bl_refl w) (.cells #[.slice (some ⟨b, off, none⟩) (l.length + 1) c, .int .i64 out] 81)
  have k0 := World.alloc_heap_new w (.cells #[.slice (some ⟨b, off, none⟩) (l.length + 1) c, .int .i64 out] 81)
  have HB := hid hb0
  have HK := hid k0
  have HR := hid (hR.mono hb0)
  have HS := hid (hs.mono hb0)
  have HC := hid (cell_mono hcell hb0)
  have HV := hid hV
  have HIN := hid hin
  clear hR hs hb0 k0 hcell hin hV
  go_enter Try.func80, Try.ntmps80
  go_upto_region 1 with (fail)
  obtain ⟨w1, hw1⟩ : ∃ w1, w.alloc (.cells #[.slice (some ⟨b, off, none⟩) (l.length + 1) c, .int .i64 out] 81) = w1 := ⟨_, rfl⟩
  obtain ⟨X, hX⟩ : ∃ X, w.heap.size = X := ⟨_, rfl⟩
  rw [hX] at HK ⊢
  rw [hw1] at HB HK HR HS HC ⊢
  clear hw1
  have hwX := HB.out.size
  have x0 : w1.cell? ⟨X, 0, none⟩ = some (.slice (some ⟨b, off, none⟩) (l.length + 1) c) := cell_of_heap HK.out
  have xl := (Array.getElem?_eq_some_iff.1 HK.out).1
  have r2 := HR.out.c2
  have rl := HR.out.lt
  have b0 := HC.out
  have hb1 : b < w1.heap.size := by omega
  have Gen : Hid (∀ W, Below w1.heap.size w1 W → Calls Try.prog 62 #[sw, .int .i64 a] W fun e w' => e = .returned (.bool (want.contains a)) ∧ Below W.heap.size W w') := fun W hW => (has_any want sw a W (by omega) (HR.out.want.mono hW)).mono fun e w' h => ⟨h.1, by rw [h.2]; exact bl_refl _⟩
  obtain ⟨q1, hq1⟩ : ∃ q, want.contains a = q := ⟨_, rfl⟩
  rw [hq1] at Gen
  have HQ1 := hid hq1
  clear hq1
  refine wp_region_below (by kernel_rfl) (by kernel_rfl) ?_
  repeat (first | go_big_quiet_step (first | (go_at_call 62; exact Calls.regrown_of (Gen.out _ (below_regrown _ _ _)))) | quiet_step (first | (go_at_call 62; exact Calls.regrown_of (Gen.out _ (below_regrown _ _ _)))))
  refine wpQuiet_nil ?_
  intro w2 hb2
  have HB2 := hid (bl_trans HB.out hb2)
  have HK2 := hid (heap_mono HK.out hb2)
  have HR2 := hid (HR.out.mono hb2)
  have HS2 := hid (HS.out.mono hb2)
  have HC2 := hid (cell_mono HC.out hb2)
  have hb3 : b < w2.heap.size := by have := hb2.size; omega
  clear x0 xl r2 rl b0 Gen HB HK HR HS HC hb1 hb2
  cases q1 with
  | false =>
    go_wp2
    go_ret
    exact ⟨by rw [HQ1.out]; rfl, HB2.out⟩
  | true =>
  simp only [Bool.not_true]
  have x0 : w2.cell? ⟨X, 0, none⟩ = some (.slice (some ⟨b, off, none⟩) (l.length + 1) c) := cell_of_heap HK2.out
  have xl := (Array.getElem?_eq_some_iff.1 HK2.out).1
  have b0 := HC2.out
  go_upto_region 4 with (fail)
  have hlI : IntKind.i64.wrap (l.length : Int) = (l.length : Int) := IntWalk.i64_in _ (by omega)
  go_cut [25, 26, 27] from 23 to 27 (fun s ln z wx => (∃ A cc, s = .slice A l.length cc ∧ Ints wx (.slice A l.length cc) l) ∧ ln = .int .i64 (l.length : Int) ∧ z = .int .i64 0 ∧ wx = w2)
  case first =>
    have hT := HS2.out.tail
    by_cases hc1 : c = 1
    · subst hc1
      obtain rfl : l = [] := List.eq_nil_of_length_eq_zero (by omega)
      have HT := hid (Ints.bare (off := off) hb3)
      clear hT
      go_wp2
      go_meet
      case rel => exact ⟨⟨_, _, rfl, HT.out⟩, rfl, rfl, rfl⟩
    · have HT := hid hT
      obtain ⟨c', rfl⟩ : ∃ c', c = c' + 2 := ⟨c - 2, by omega⟩
      clear hT
      go_wp2
      go_meet
      case rel => exact ⟨⟨_, _, rfl, HT.out⟩, rfl, rfl, rfl⟩
  case rest =>
  obtain ⟨⟨A, cc, rfl, hil⟩, rfl, rfl, hwc⟩ := hcut
  subst wc
  have HIL := hid hil
  clear hil x0 xl b0
  go_wp2
  go_loopw [5, 27] (fun last p wr => ∃ (k : Nat) (q : Int), k ≤ l.length ∧ p = .int .i64 (k : Int) ∧ last = .int .i64 q ∧ inP wd hg q ∧ lastOf q (l.drop k) = lastOf a l ∧ pathB wd hg q (l.drop k) = pathB wd hg a l ∧ Below w2.heap.size w2 wr) (fun _ p _ => l.length - (intOf p).toNat)
  case atStart => exact ⟨0, a, Nat.zero_le _, rfl, rfl, HIN.out a (by simp), rfl, rfl, bl_refl _⟩
  case round =>
    obtain ⟨k, q, hk, rfl, rfl, hqi, hla, hpa, hB⟩ := hrel
    have HBr := hid hB
    have HRr := hid (HR2.out.mono hB)
    have HKr := hid (heap_mono HK2.out hB)
    have hilr := HIL.out.mono hB
    by_cases hlt : k < l.length
    · obtain ⟨y, hy⟩ := get_at hlt
      have hyi := HIN.out y (by simp [List.mem_of_getElem? hy])
      have hdr : l.drop k = y :: l.drop (k + 1) := List.drop_eq_getElem_cons hlt ▸ by rw [(List.getElem?_eq_some_iff.1 hy).2]
      rw [hdr] at hla hpa
      obtain ⟨bb, oo, hA, hbb, hcc⟩ : ∃ bb oo, A = some ⟨bb, oo, none⟩ ∧ bb < wr.heap.size ∧ wr.cell? ⟨bb, oo + k, none⟩ = some (.int .i64 y) := by
        rcases hilr with ⟨hv, h0⟩ | ⟨bb, oo, c3, hv, h4, h5, h6⟩
        · rw [h0] at hlt; simp at hlt
        · injection hv with hv1 hv2 hv3
          exact ⟨bb, oo, hv1, h5, h6 k y hy⟩
      subst hA
      have hcall := dir_any q y wr HRr.out HV.out.B.w HV.out.B.h hqi
      have HLA := hid hla
      have HPA := hid hpa
      have HYI := hid hyi
      clear hilr hy hyi hdr hla hpa hB hqi
      by_cases hd : 0 ≤ dirV wd hg q y
      · have t1 : decide (dirV wd hg q y < 0) = false := decide_eq_false (by omega)
        have t2 := hid (show pathB wd hg y (l.drop (k + 1)) = pathB wd hg a l by rw [← HPA.out]; conv => rhs; unfold pathB; rw [decide_eq_true hd]; simp)
        clear hd
        go_wp2_with fail
        refine hcall.mono ?_
        rintro e w4 ⟨rfl, hb4⟩
        have HB4 := hid (bl_trans HBr.out hb4)
        clear hcall hb4
        go_wp2
        go_roundw
        case rel => exact ⟨k + 1, y, by omega, by go_num, rfl, HYI.out, HLA.out, t2.out, HB4.out⟩
        case measure => simp [intOf]; omega
      · have t1 : decide (dirV wd hg q y < 0) = true := decide_eq_true (by omega)
        have t2 := hid (show pathB wd hg a l = false by rw [← HPA.out]; unfold pathB; rw [decide_eq_false hd]; rfl)
        clear hd
        go_wp2_with fail
        refine hcall.mono ?_
        rintro e w4 ⟨rfl, hb4⟩
        have HB4 := hid (bl_trans HB2.out (bl_trans HBr.out hb4))
        clear hcall hb4
        go_wp2
        go_ret
        exact ⟨by rw [t2.out]; simp, HB4.out⟩
    · obtain rfl : k = l.length := by omega
      rw [List.drop_length] at hla hpa
      have HLA := hid (show q = lastOf a l from hla)
      have HPA := hid (show true = pathB wd hg a l from hpa)
      have HBW := hid (bl_trans HB2.out hB)
      have x1 : wr.cell? ⟨X, 1, none⟩ = some (.int .i64 out) := cell_of_heap HKr.out
      have xl := (Array.getElem?_eq_some_iff.1 HKr.out).1
      have r3 := HRr.out.c3
      have rl := HRr.out.lt
      clear hilr hla hpa hB hlt
      by_cases ho : out < 0
      · have t1 : decide (out < 0) = true := decide_eq_true ho
        have hcall := has_any keep sk q wr (by omega) HRr.out.keep
        have he : endB wd hg keep (lastOf a l) out = keep.contains q := by unfold endB; rw [if_pos ho, HLA.out]
        have HE := hid he
        clear he ho
        go_wp2_with fail
        refine hcall.mono ?_
        rintro e w4 ⟨rfl, rfl⟩
        clear hcall
        go_wp2
        go_ret
        exact ⟨by rw [HQ1.out, ← HPA.out, HE.out]; simp, HBW.out⟩
      · have t1 : decide (out < 0) = false := decide_eq_false ho
        have hsub : IntKind.i64.wrap (-1 - out) = -1 - out := IntWalk.i64_in _ (by omega)
        have hcall := dir_any q (-1 - out) wr HRr.out HV.out.B.w HV.out.B.h hqi
        have he : endB wd hg keep (lastOf a l) out = decide (0 ≤ dirV wd hg q (-1 - out)) := by unfold endB; rw [if_neg ho, HLA.out]
        have HE := hid he
        obtain ⟨dv, hdv⟩ : ∃ dv, dirV wd hg q (-1 - out) = dv := ⟨_, rfl⟩
        rw [hdv] at hcall HE
        clear he ho hdv
        go_wp2_with fail
        refine hcall.mono ?_
        rintro e w4 ⟨rfl, hb4⟩
        have HB4 := hid (bl_trans HBW.out hb4)
        clear hcall hb4
        go_wp2
        go_ret
        exact ⟨by rw [HQ1.out, ← HPA.out, HE.out]; simp, HB4.out⟩
end Go.Proofs.Ytlkoadcbolkhoaa

/- The sides that a way uses: the walk. -/
namespace Go.Proofs.Ytlkoadcbolkhoaa
open Go Go.RowKit Go.Proofs
attribute [local go_sem] cell_grow frozen_grow

def sideOf (wd hg a c : Int) : Side := if c < a then (c, (dirV wd hg a c + 2) % 4) else (a, dirV wd hg a c)
def sidesF (wd hg : Int) : Int → List Int → List Side
  | _, [] => []
  | a, c :: l => sideOf wd hg a c :: sidesF wd hg c l
def sidesL (wd hg : Int) (a : Int) (l : List Int) (out : Int) : List Side := sidesF wd hg a l ++ if 0 ≤ out then [(lastOf a l, out)] else []
/-- The slice value v holds the sides l. -/
def SidesI (W : World) (v : Value) (l : List Side) : Prop :=
  (v = .slice none 0 0 ∧ l = []) ∨ ∃ b off c, v = .slice (some ⟨b, off, none⟩) l.length c ∧ l.length ≤ c ∧ b < W.heap.size ∧ ∀ i x, l[i]? = some x → W.cell? ⟨b, off + i * 2, none⟩ = some (.int .i64 x.1) ∧ W.cell? ⟨b, off + i * 2 + 1, none⟩ = some (.int .i64 x.2)
theorem SidesI.mono {W W' : World} {v : Value} {l : List Side} (h : SidesI W v l) (hb : Below W.heap.size W W') : SidesI W' v l := by
  rcases h with h | ⟨b, off, c, h1, h2, h3, h4⟩
  · exact .inl h
  · exact .inr ⟨b, off, c, h1, h2, Nat.lt_of_lt_of_le h3 hb.size, fun i x hx => ⟨cell_mono (h4 i x hx).1 hb, cell_mono (h4 i x hx).2 hb⟩⟩
theorem SidesI.slice {W : World} {v : Value} {l : List Side} (h : SidesI W v l) : ∃ A c, v = .slice A l.length c := by
  rcases h with ⟨rfl, rfl⟩ | ⟨b, off, c, rfl, _⟩
  · exact ⟨none, 0, rfl⟩
  · exact ⟨_, _, rfl⟩
theorem sides_own {w : World} {base n : Nat} {v : Value} {l : List Side} (hl : l.length = n) (h : w.ownsRow base 104 2 v n (byC l)) : SidesI w v l := by
  subst hl
  rcases h.2 with ⟨rfl, h0⟩ | ⟨g, cap, cur, rfl, _, hg, hc, _, _, ht⟩
  · exact .inl ⟨rfl, List.eq_nil_of_length_eq_zero h0⟩
  · refine .inr ⟨g, 0, cap, rfl, hc, (Array.getElem?_eq_some_iff.1 hg).1, fun i x hx => ?_⟩
    have h2 := h.cells (g := g) rfl (i * 2) (.int .i64 x.1) (byC_at hx).1
    have h3 := h.cells (g := g) rfl (i * 2 + 1) (.int .i64 x.2) (byC_at hx).2
    rw [Addr.add_lit] at h2 h3
    rw [Nat.zero_add] at *
    exact ⟨h2, h3⟩
theorem own_slice2 {w : World} {base n : Nat} {v : Value} {l : List Value} (h : w.ownsRow base 104 2 v n l) : ∃ A c, v = .slice A n c := by
  rcases h.2 with ⟨rfl, h0⟩ | ⟨g, cap, cur, rfl, _⟩
  · subst h0; exact ⟨none, 0, rfl⟩
  · exact ⟨_, _, rfl⟩
theorem byC_app (l : List Side) (s : Side) : byC (l ++ [s]) = byC l ++ [.int .i64 s.1, .int .i64 s.2] := by simp [byC]
theorem new_two {W : World} {X : Nat} {x y : Int} {t : TypeId} (h : W.heap[X]? = some (.cells #[.int .i64 x, .int .i64 y] t (0, 0))) : ∀ (j : Nat) (u : Value), [Value.int .i64 x, .int .i64 y][j]? = some u → W.cell? ((⟨X, 0, none⟩ : Addr).add j) = some u := fun j u hj => by
  rw [Addr.add_lit, Nat.zero_add, cell_of_heap h]
  simpa using hj

theorem own_set_new {W V : World} {base e size n Q o : Nat} {v u : Value} {xs : List Value} (h0 : W.ownsRow base e size v n xs) (h : V.ownsRow base e size v n xs) (hQ : W.heap.size ≤ Q) : (V.setCell ⟨Q, o, none⟩ u).ownsRow base e size v n xs :=
  h.kept (grown_set V Q o u) (.inr fun e' => by have := (h0.lt Q e').2; omega)
set_option maxRecDepth 100000 in
set_option maxHeartbeats 8000000 in
theorem sides_any {RP MB : Nat} {wd hg : Int} {sw sk : Value} {want keep : List Int} {m : Int} {u : Used} (x : Way) (s : Value) (a : Int) (l : List Int) (w : World) (hR : RaftAt w RP MB wd hg sw sk want keep m u) (hV : Valid wd hg want keep) (hx : x.cells = a :: l) (hin : ∀ c ∈ x.cells, inP wd hg c) (hp : pathB wd hg a l = true) (hout : -1 ≤ x.out ∧ x.out ≤ 3) (hl : l.length ≤ 100) (hs : Ints w s x.cells) :
    Calls Try.prog 81 #[.pointer (some ⟨RP, 0, none⟩), .agg #[s, .int .i64 x.out]] w fun e w' => (∃ v, e = .returned v ∧ SidesI w' v (sidesL wd hg a l x.out)) ∧ Below w.heap.size w w' := by
  obtain ⟨i104, hi, hj0, hj1, hj2⟩ := info_parts info104
  rw [hx] at hin hs
  obtain ⟨out, ho⟩ : ∃ out, x.out = out := ⟨_, rfl⟩
  rw [ho] at hout ⊢
  clear hx ho
  obtain ⟨b, off, c, rfl, hcl, hbl, hcell⟩ : ∃ b off c, s = .slice (some ⟨b, off, none⟩) (l.length + 1) c ∧ l.length + 1 ≤ c ∧ b < w.heap.size ∧ w.cell? ⟨b, off, none⟩ = some (.int .i64 a) := by
    rcases hs with ⟨_, h⟩ | ⟨b, off, c, h1, h2, h3, h4⟩
    · cases h
    · exact ⟨b, off, c, h1, by simpa using h2, h3, h4 0 a rfl⟩
  have hb0 := bl_alloc (bl_refl w) (.cells #[.slice (some ⟨b, off, none⟩) (l.length + 1) c, .int .i64 out] 81)
  have k0 := World.alloc_heap_new w (.cells #[.slice (some ⟨b, off, none⟩) (l.length + 1) c, .int .i64 out] 81)
  have HB2 := hid hb0
  have HK2 := hid k0
  have HR2 := hid (hR.mono hb0)
  have HS2 := hid (hs.mono hb0)
  have HC2 := hid (cell_mono hcell hb0)
  have HV := hid hV
  have HIN := hid hin
  have HPB := hid hp
  clear hR hs hb0 k0 hcell hin hV hp
  go_enter Try.func81, Try.ntmps81
  go_upto_region 2 with (fail)
  obtain ⟨w2, hw1⟩ : ∃ w1, w.alloc (.cells #[.slice (some ⟨b, off, none⟩) (l.length + 1) c, .int .i64 out] 81) = w1 := ⟨_, rfl⟩
  obtain ⟨X, hX⟩ : ∃ X, w.heap.size = X := ⟨_, rfl⟩
  rw [hX] at HK2 ⊢
  rw [hw1] at HB2 HK2 HR2 HS2 HC2 ⊢
  clear hw1
  have hwX := HB2.out.size
  have hb3 : b < w2.heap.size := by omega
  have x0 : w2.cell? ⟨X, 0, none⟩ = some (.slice (some ⟨b, off, none⟩) (l.length + 1) c) := cell_of_heap HK2.out
  have xl := (Array.getElem?_eq_some_iff.1 HK2.out).1
  have b0 := HC2.out
  go_upto_region 3 with (fail)
  have hlI : IntKind.i64.wrap (l.length : Int) = (l.length : Int) := IntWalk.i64_in _ (by omega)
  go_cut [16, 17, 18] from 14 to 18 (fun s ln z wx => (∃ A cc, s = .slice A l.length cc ∧ Ints wx (.slice A l.length cc) l) ∧ ln = .int .i64 (l.length : Int) ∧ z = .int .i64 0 ∧ wx = w2)
  case first =>
    have hT := HS2.out.tail
    by_cases hc1 : c = 1
    · subst hc1
      obtain rfl : l = [] := List.eq_nil_of_length_eq_zero (by omega)
      have HT := hid (Ints.bare (off := off) hb3)
      clear hT
      go_wp2
      go_meet
      case rel => exact ⟨⟨_, _, rfl, HT.out⟩, rfl, rfl, rfl⟩
    · have HT := hid hT
      obtain ⟨c', rfl⟩ : ∃ c', c = c' + 2 := ⟨c - 2, by omega⟩
      clear hT
      go_wp2
      go_meet
      case rel => exact ⟨⟨_, _, rfl, HT.out⟩, rfl, rfl, rfl⟩
  case rest =>
  obtain ⟨⟨A, cc, rfl, hil⟩, rfl, rfl, hwc⟩ := hcut
  subst wc
  have HIL := hid hil
  clear hil x0 xl b0
  go_wp2
  go_loopw [5, 6, 18] (fun o last p wr => ∃ (k : Nat) (q : Int) (v : Value) (L : List Side), k ≤ l.length ∧ p = .int .i64 (k : Int) ∧ last = .int .i64 q ∧ o = v ∧ inP wd hg q ∧ lastOf q (l.drop k) = lastOf a l ∧ pathB wd hg q (l.drop k) = true ∧ L ++ sidesF wd hg q (l.drop k) = sidesF wd hg a l ∧ L.length = k ∧ wr.ownsRow w2.heap.size 104 2 v k (byC L) ∧ Below w2.heap.size w2 wr) (fun _ _ p _ => l.length - (intOf p).toNat)
  case atStart => exact ⟨0, a, _, [], Nat.zero_le _, rfl, rfl, rfl, HIN.out a (by simp), rfl, HPB.out, rfl, rfl, World.ownsRow_nil _ _ _ _, bl_refl _⟩
  case round =>
    obtain ⟨k, q, v, L, hk, rfl, rfl, hov, hqi, hla, hpa, hsi, hLk, hown, hB⟩ := hrel
    obtain rfl := hov.symm
    have HBr := hid hB
    have HRr := hid (HR2.out.mono hB)
    have HKr := hid (heap_mono HK2.out hB)
    have HOW := hid hown
    have hilr := HIL.out.mono hB
    obtain ⟨OA, oc, rfl⟩ := own_slice2 hown
    have hbsz := hB.size
    by_cases hlt : k < l.length
    · obtain ⟨y, hy⟩ := get_at hlt
      have hyi := HIN.out y (by simp [List.mem_of_getElem? hy])
      have hdr : l.drop k = y :: l.drop (k + 1) := List.drop_eq_getElem_cons hlt ▸ by rw [(List.getElem?_eq_some_iff.1 hy).2]
      rw [hdr] at hla hpa hsi
      obtain ⟨bb, oo, hA, hbb, hcc⟩ : ∃ bb oo, A = some ⟨bb, oo, none⟩ ∧ bb < wr.heap.size ∧ wr.cell? ⟨bb, oo + k, none⟩ = some (.int .i64 y) := by
        rcases hilr with ⟨hv, h0⟩ | ⟨bb, oo, c3, hv, h4, h5, h6⟩
        · rw [h0] at hlt; simp at hlt
        · injection hv with hv1 hv2 hv3
          exact ⟨bb, oo, hv1, h5, h6 k y hy⟩
      subst hA
      have hcall := dir_any q y wr HRr.out HV.out.B.w HV.out.B.h hqi
      have hpp : 0 ≤ dirV wd hg q y ∧ pathB wd hg y (l.drop (k + 1)) = true := by
        unfold pathB at hpa
        rw [Bool.and_eq_true, decide_eq_true_eq] at hpa
        exact hpa
      have hdr2 := dirV_rng wd hg q y
      have HSI := hid (show (L ++ [sideOf wd hg q y]) ++ sidesF wd hg y (l.drop (k + 1)) = sidesF wd hg a l by rw [← hsi, List.append_assoc]; rfl)
      have hso : sideOf wd hg q y = if y < q then (y, (dirV wd hg q y + 2) % 4) else (q, dirV wd hg q y) := rfl
      obtain ⟨dv, hdv⟩ : ∃ dv, dirV wd hg q y = dv := ⟨_, rfl⟩
      rw [hdv] at hcall hpp hdr2 hso
      obtain ⟨SO, hSO⟩ : ∃ SO, sideOf wd hg q y = SO := ⟨_, rfl⟩
      rw [hSO] at HSI hso
      have HPP := hid hpp.2
      have HLA := hid hla
      have HYI := hid hyi
      have hd0 := hpp.1
      clear hilr hy hyi hdr hla hpa hB hqi hown hsi hdv hSO hpp
      go_wp2_with fail
      refine hcall.mono ?_
      rintro e w4 ⟨rfl, hb4⟩
      have HB4 := hid (bl_trans HBr.out hb4)
      have HOW4 := hid (own_mono HOW.out hb4)
      have hsz4 := hb4.size
      clear hcall hb4 HOW
      by_cases hlt2 : y < q
      · have t1 : decide (y < q) = true := decide_eq_true hlt2
        rw [if_pos hlt2] at hso
        subst hso
        have hcall := back_any dv (w4.alloc (.cells #[.int .i64 q, .int .i64 dv] 104)) ⟨hd0, hdr2.2⟩
        obtain ⟨bk, hbk⟩ : ∃ bk, (dv + 2) % 4 = bk := ⟨_, rfl⟩
        rw [hbk] at hcall HSI
        clear hlt2 hbk
        go_wp2_with fail
        refine hcall.mono ?_
        rintro e w5 ⟨rfl, rfl⟩
        clear hcall
        have hQ := World.alloc_heap_new w4 (.cells #[.int .i64 q, .int .i64 dv] 104)
        have q0a : (w4.alloc (.cells #[.int .i64 q, .int .i64 dv] 104)).cell? ⟨w4.heap.size, 0, none⟩ = some (.int .i64 q) := cell_of_heap hQ
        have q0b : (w4.alloc (.cells #[.int .i64 q, .int .i64 dv] 104)).cell? ⟨w4.heap.size, 1, none⟩ = some (.int .i64 dv) := cell_of_heap hQ
        have qf : ∀ i, (w4.alloc (.cells #[.int .i64 q, .int .i64 dv] 104)).frozen? ⟨w4.heap.size, i, none⟩ = false := fun i => frozen_of_heap hQ
        have hQ2 := hid (World.alloc_heap_new w4 (.cells #[.int .i64 y, .int .i64 bk] 104))
        have BQ2 := hid (bl_alloc HB4.out (.cells #[.int .i64 y, .int .i64 bk] 104))
        have OQ2 := hid (HOW4.out.alloc (.cells #[.int .i64 y, .int .i64 bk] 104))
        have hsz6 : w4.heap.size + 1 = (w4.alloc (.cells #[.int .i64 y, .int .i64 bk] 104)).heap.size := by simp
        clear hQ
        go_upto_region 9 with (fail)
        obtain ⟨w6, hw6⟩ : ∃ w6, w4.alloc (.cells #[.int .i64 y, .int .i64 bk] 104) = w6 := ⟨_, rfl⟩
        rw [hw6] at hQ2 BQ2 OQ2 hsz6 ⊢
        obtain ⟨Q, hQs⟩ : ∃ Q, w4.heap.size = Q := ⟨_, rfl⟩
        rw [hQs] at hQ2 hsz6 ⊢
        clear hw6 q0a q0b qf
        have q0 : w6.cell? ⟨Q, 0, none⟩ = some (.int .i64 y) := cell_of_heap hQ2.out
        have q1 : w6.cell? ⟨Q, 1, none⟩ = some (.int .i64 bk) := cell_of_heap hQ2.out
        have ql := (Array.getElem?_eq_some_iff.1 hQ2.out).1
        have oN := OQ2.out.alloc (.cells #[.int .i64 y, .int .i64 bk] 104)
        have bN := hid (bl_alloc BQ2.out (.cells #[.int .i64 y, .int .i64 bk] 104))
        go_wp2_with (at_builtin; refine wpList_append_own _ rfl _ _ 101 rfl w2.heap.size 104 i104 (.agg #[.int .i64 0, .int .i64 0]) 2 16 Try.underlying101 hi hj0 hj1 hj2 rfl (by decide) (.slice OA k oc) k (byC L) rfl oN ⟨w6.heap.size, 0, none⟩ 1 1 [.int .i64 y, .int .i64 bk] rfl rfl (new_two (World.alloc_heap_new w6 _)) (fun z hz => by simp at hz; rcases hz with rfl | rfl <;> rfl) (by unfold maxLen; omega) (by omega) (by simp; omega) ?_; intro v' w8 hown' hgrow hnil; have HB8 := hid (bl_grown bN.out oN (by omega) hgrow); have HOW8 := hid hown'; clear hown' hgrow hnil)
        go_roundw
        case rel => exact ⟨k + 1, y, _, L ++ [(y, bk)], by omega, by go_num, rfl, rfl, HYI.out, HLA.out, HPP.out, HSI.out, by simp; omega, by rw [byC_app]; exact HOW8.out, HB8.out⟩
        case measure => simp [intOf]; omega
      · have t1 : decide (y < q) = false := decide_eq_false hlt2
        rw [if_neg hlt2] at hso
        subst hso
        clear hlt2
        have hQ2 := hid (World.alloc_heap_new w4 (.cells #[.int .i64 q, .int .i64 dv] 104))
        have BQ2 := hid (bl_alloc HB4.out (.cells #[.int .i64 q, .int .i64 dv] 104))
        have OQ2 := hid (HOW4.out.alloc (.cells #[.int .i64 q, .int .i64 dv] 104))
        go_upto_region 9 with (fail)
        have hsz6 : w4.heap.size + 1 = (w4.alloc (.cells #[.int .i64 q, .int .i64 dv] 104)).heap.size := by simp
        obtain ⟨w6, hw6⟩ : ∃ w6, w4.alloc (.cells #[.int .i64 q, .int .i64 dv] 104) = w6 := ⟨_, rfl⟩
        rw [hw6] at hQ2 BQ2 OQ2 hsz6 ⊢
        obtain ⟨Q, hQs⟩ : ∃ Q, w4.heap.size = Q := ⟨_, rfl⟩
        rw [hQs] at hQ2 hsz6 ⊢
        clear hw6
        have q0 : w6.cell? ⟨Q, 0, none⟩ = some (.int .i64 q) := cell_of_heap hQ2.out
        have q1 : w6.cell? ⟨Q, 1, none⟩ = some (.int .i64 dv) := cell_of_heap hQ2.out
        have ql := (Array.getElem?_eq_some_iff.1 hQ2.out).1
        have oN := OQ2.out.alloc (.cells #[.int .i64 q, .int .i64 dv] 104)
        have bN := hid (bl_alloc BQ2.out (.cells #[.int .i64 q, .int .i64 dv] 104))
        go_wp2_with (at_builtin; refine wpList_append_own _ rfl _ _ 101 rfl w2.heap.size 104 i104 (.agg #[.int .i64 0, .int .i64 0]) 2 16 Try.underlying101 hi hj0 hj1 hj2 rfl (by decide) (.slice OA k oc) k (byC L) rfl oN ⟨w6.heap.size, 0, none⟩ 1 1 [.int .i64 q, .int .i64 dv] rfl rfl (new_two (World.alloc_heap_new w6 _)) (fun z hz => by simp at hz; rcases hz with rfl | rfl <;> rfl) (by unfold maxLen; omega) (by omega) (by simp; omega) ?_; intro v' w8 hown' hgrow hnil; have HB8 := hid (bl_grown bN.out oN (by omega) hgrow); have HOW8 := hid hown'; clear hown' hgrow hnil)
        go_roundw
        case rel => exact ⟨k + 1, y, _, L ++ [(q, dv)], by omega, by go_num, rfl, rfl, HYI.out, HLA.out, HPP.out, HSI.out, by simp; omega, by rw [byC_app]; exact HOW8.out, HB8.out⟩
        case measure => simp [intOf]; omega
    · obtain rfl : k = l.length := by omega
      rw [List.drop_length] at hla hsi
      have HLA := hid (show q = lastOf a l from hla)
      have HSF := hid (show L = sidesF wd hg a l by rw [← hsi]; simp [sidesF])
      have HBW := hid (bl_trans HB2.out hB)
      have x1 : wr.cell? ⟨X, 1, none⟩ = some (.int .i64 out) := cell_of_heap HKr.out
      have xl := (Array.getElem?_eq_some_iff.1 HKr.out).1
      clear hilr hla hpa hB hlt hown hsi
      by_cases ho : 0 ≤ out
      · have t1 : decide (0 ≤ out) = true := decide_eq_true ho
        have HRS := hid (show sidesL wd hg a l out = L ++ [(q, out)] by unfold sidesL; rw [if_pos ho, ← HSF.out, HLA.out])
        have oN := HOW.out.alloc (.cells #[.int .i64 q, .int .i64 out] 104)
        have bN := hid (bl_alloc HBr.out (.cells #[.int .i64 q, .int .i64 out] 104))
        clear ho
        go_wp2_with (at_builtin; refine wpList_append_own _ rfl _ _ 101 rfl w2.heap.size 104 i104 (.agg #[.int .i64 0, .int .i64 0]) 2 16 Try.underlying101 hi hj0 hj1 hj2 rfl (by decide) (.slice OA l.length oc) l.length (byC L) rfl oN ⟨wr.heap.size, 0, none⟩ 1 1 [.int .i64 q, .int .i64 out] rfl rfl (new_two (World.alloc_heap_new wr _)) (fun z hz => by simp at hz; rcases hz with rfl | rfl <;> rfl) (by unfold maxLen; omega) (by omega) (by simp; omega) ?_; intro v' w8 hown' hgrow hnil; have HB8 := hid (bl_trans HB2.out (bl_grown bN.out oN (by omega) hgrow)); have HOW8 := hid hown'; clear hown' hgrow hnil)
        go_ret
        exact ⟨⟨_, rfl, by rw [HRS.out]; exact sides_own (by rw [List.length_append, hLk]) (by rw [byC_app]; exact HOW8.out)⟩, HB8.out⟩
      · have t1 : decide (0 ≤ out) = false := decide_eq_false ho
        have HRS := hid (show sidesL wd hg a l out = L by unfold sidesL; rw [if_neg ho, ← HSF.out, List.append_nil])
        clear ho
        go_wp2
        go_ret
        exact ⟨⟨_, rfl, by rw [HRS.out]; exact sides_own hLk HOW.out⟩, HBW.out⟩
end Go.Proofs.Ytlkoadcbolkhoaa
