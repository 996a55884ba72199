/- Corners and bytes of a chain: the walks of next and of what tells an odd letter. -/
import Derived.Laws.IdiomStrings
import Derived.Test.YtlkoadcbolkhoaaWithin
import Derived.Test.YtlkoadcbolkhoaaLists
import Derived.Lib.SlBytesConst
import Derived.Test.YtlkoadcbolkhoaaWaysi
set_option linter.all false
namespace Go.Proofs.Ytlkoadcbolkhoaa
open Go Go.RowKit Go.Proofs
attribute [local go_sem] cell_grow frozen_grow

abbrev Corner := Int × Int
def stepC (p : Corner) (b : Nat) : Corner := if b = 69 then (p.1 + 1, p.2) else if b = 78 then (p.1, p.2 + 1) else if b = 87 then (p.1 - 1, p.2) else if b = 83 then (p.1, p.2 - 1) else p
set_option maxHeartbeats 4000000 in
theorem next_any (x y : Int) (b : Nat) (w : World) (hx : -1000000 ≤ x ∧ x ≤ 1000000) (hy : -1000000 ≤ y ∧ y ≤ 1000000) :
    Calls Try.prog 85 #[.agg #[.int .i64 x, .int .i64 y], .int .u8 (b : Int)] w fun e w' => e = .returned (.agg #[.int .i64 (stepC (x, y) b).1, .int .i64 (stepC (x, y) b).2]) ∧ Below w.heap.size w w' := by
  have b0 := bl_alloc (bl_refl w) (.cells #[.int .i64 x, .int .i64 y] 111)
  have b1 := bl_alloc (bl_refl (w.alloc (.cells #[.int .i64 x, .int .i64 y] 111))) (.cells #[.int .i64 0, .int .i64 0] 111)
  have k0 := heap_mono (World.alloc_heap_new w (.cells #[.int .i64 x, .int .i64 y] 111)) b1
  have k1 := World.alloc_heap_new (w.alloc (.cells #[.int .i64 x, .int .i64 y] 111)) (.cells #[.int .i64 0, .int .i64 0] 111)
  rw [World.size_alloc] at k1
  have HB := hid (bl_trans b0 b1)
  have K0 := hid k0
  have K1 := hid k1
  clear b0 b1 k0 k1
  have w1' : IntKind.i64.wrap (x + 1) = x + 1 := IntWalk.i64_in _ (by omega)
  have w2' : IntKind.i64.wrap (x - 1) = x - 1 := IntWalk.i64_in _ (by omega)
  have w3' : IntKind.i64.wrap (y + 1) = y + 1 := IntWalk.i64_in _ (by omega)
  have w4' : IntKind.i64.wrap (y - 1) = y - 1 := IntWalk.i64_in _ (by omega)
  obtain ⟨p, hp⟩ : ∃ p, stepC (x, y) b = p := ⟨_, rfl⟩
  have HP := hid hp
  rw [hp]
  clear hp
  go_enter Try.func85, Try.ntmps85
  go_upto_region 2 with (fail)
  obtain ⟨w0, hw0⟩ : ∃ w0, (w.alloc (.cells #[.int .i64 x, .int .i64 y] 111)).alloc (.cells #[.int .i64 0, .int .i64 0] 111) = w0 := ⟨_, rfl⟩
  rw [hw0] at HB K0 K1 ⊢
  clear hw0
  obtain ⟨X, hX⟩ : ∃ X, w.heap.size = X := ⟨_, rfl⟩
  have HX := hid hX
  rw [hX] at K0 K1 ⊢
  obtain ⟨R, hR⟩ : ∃ R, X + 1 = R := ⟨_, rfl⟩
  have hXR : X ≠ R := by omega
  have hwX : w.heap.size ≤ X := by omega
  have hwR : w.heap.size ≤ R := by omega
  rw [hR] at K1 ⊢
  clear hR hX
  have x0 : w0.cell? ⟨X, 0, none⟩ = some (.int .i64 x) := cell_of_heap K0.out
  have x1 : w0.cell? ⟨X, 1, none⟩ = some (.int .i64 y) := cell_of_heap K0.out
  have xf : ∀ i, w0.frozen? ⟨X, i, none⟩ = false := fun i => frozen_of_heap K0.out
  have xl := (Array.getElem?_eq_some_iff.1 K0.out).1
  have r0 : w0.cell? ⟨R, 0, none⟩ = some (.int .i64 0) := cell_of_heap K1.out
  have r1 : w0.cell? ⟨R, 1, none⟩ = some (.int .i64 0) := cell_of_heap K1.out
  have rf : ∀ i, w0.frozen? ⟨R, i, none⟩ = false := fun i => frozen_of_heap K1.out
  have rl := (Array.getElem?_eq_some_iff.1 K1.out).1
  by_cases h0 : b = 69
  · subst h0
    have e : p = (x + 1, y) := by rw [← HP.out]; rfl
    subst e
    have hs : (((w0.setCell ⟨X, 0, none⟩ (.int .i64 (x + 1))).setCell ⟨R, 0, none⟩ (.int .i64 (x + 1))).setCell ⟨R, 1, none⟩ (.int .i64 (y))).heap[R]? = some (.cells #[.int .i64 (x + 1), .int .i64 (y)] 111 (0, 0)) := by
      have h : (w0.setCell ⟨X, 0, none⟩ (.int .i64 (x + 1))).heap[R]? = some (.cells #[.int .i64 0, .int .i64 0] 111 (0, 0)) := past_set hXR.symm K1.out
      rw [heap_setCell_same _ _ _ _ _ _ (heap_setCell_same _ _ _ _ _ _ h)]; rfl
    have HS := hid hs
    clear hs
    have bb := hid (bl_set (o := 1) (bl_set (o := 0) (bl_set (o := 0) HB.out (.int .i64 (x + 1)) hwX) (.int .i64 (x + 1)) hwR) (.int .i64 (y)) hwR)
    go_wp2
    have c0 := cell_of_heap (i := 0) HS.out
    have c1 := cell_of_heap (i := 1) HS.out
    refine bodyPost_ret (v := .agg #[.int .i64 (x + 1), .int .i64 (y)]) (by simp [results, Try.results85, go_sem, c0, c1]) rfl ⟨rfl, bb.out⟩
  have t0 : ((b : Int) == 69) = false := beq_eq_false_iff_ne.2 (by omega)
  by_cases h1 : b = 78
  · subst h1
    have e : p = (x, y + 1) := by rw [← HP.out]; rfl
    subst e
    have hs : (((w0.setCell ⟨X, 1, none⟩ (.int .i64 (y + 1))).setCell ⟨R, 0, none⟩ (.int .i64 (x))).setCell ⟨R, 1, none⟩ (.int .i64 (y + 1))).heap[R]? = some (.cells #[.int .i64 (x), .int .i64 (y + 1)] 111 (0, 0)) := by
      have h : (w0.setCell ⟨X, 1, none⟩ (.int .i64 (y + 1))).heap[R]? = some (.cells #[.int .i64 0, .int .i64 0] 111 (0, 0)) := past_set hXR.symm K1.out
      rw [heap_setCell_same _ _ _ _ _ _ (heap_setCell_same _ _ _ _ _ _ h)]; rfl
    have HS := hid hs
    clear hs
    have bb := hid (bl_set (o := 1) (bl_set (o := 0) (bl_set (o := 1) HB.out (.int .i64 (y + 1)) hwX) (.int .i64 (x)) hwR) (.int .i64 (y + 1)) hwR)
    go_wp2
    have c0 := cell_of_heap (i := 0) HS.out
    have c1 := cell_of_heap (i := 1) HS.out
    refine bodyPost_ret (v := .agg #[.int .i64 (x), .int .i64 (y + 1)]) (by simp [results, Try.results85, go_sem, c0, c1]) rfl ⟨rfl, bb.out⟩
  have t1 : ((b : Int) == 78) = false := beq_eq_false_iff_ne.2 (by omega)
  by_cases h2 : b = 87
  · subst h2
    have e : p = (x - 1, y) := by rw [← HP.out]; rfl
    subst e
    have hs : (((w0.setCell ⟨X, 0, none⟩ (.int .i64 (x - 1))).setCell ⟨R, 0, none⟩ (.int .i64 (x - 1))).setCell ⟨R, 1, none⟩ (.int .i64 (y))).heap[R]? = some (.cells #[.int .i64 (x - 1), .int .i64 (y)] 111 (0, 0)) := by
      have h : (w0.setCell ⟨X, 0, none⟩ (.int .i64 (x - 1))).heap[R]? = some (.cells #[.int .i64 0, .int .i64 0] 111 (0, 0)) := past_set hXR.symm K1.out
      rw [heap_setCell_same _ _ _ _ _ _ (heap_setCell_same _ _ _ _ _ _ h)]; rfl
    have HS := hid hs
    clear hs
    have bb := hid (bl_set (o := 1) (bl_set (o := 0) (bl_set (o := 0) HB.out (.int .i64 (x - 1)) hwX) (.int .i64 (x - 1)) hwR) (.int .i64 (y)) hwR)
    go_wp2
    have c0 := cell_of_heap (i := 0) HS.out
    have c1 := cell_of_heap (i := 1) HS.out
    refine bodyPost_ret (v := .agg #[.int .i64 (x - 1), .int .i64 (y)]) (by simp [results, Try.results85, go_sem, c0, c1]) rfl ⟨rfl, bb.out⟩
  have t2 : ((b : Int) == 87) = false := beq_eq_false_iff_ne.2 (by omega)
  by_cases h3 : b = 83
  · subst h3
    have e : p = (x, y - 1) := by rw [← HP.out]; rfl
    subst e
    have hs : (((w0.setCell ⟨X, 1, none⟩ (.int .i64 (y - 1))).setCell ⟨R, 0, none⟩ (.int .i64 (x))).setCell ⟨R, 1, none⟩ (.int .i64 (y - 1))).heap[R]? = some (.cells #[.int .i64 (x), .int .i64 (y - 1)] 111 (0, 0)) := by
      have h : (w0.setCell ⟨X, 1, none⟩ (.int .i64 (y - 1))).heap[R]? = some (.cells #[.int .i64 0, .int .i64 0] 111 (0, 0)) := past_set hXR.symm K1.out
      rw [heap_setCell_same _ _ _ _ _ _ (heap_setCell_same _ _ _ _ _ _ h)]; rfl
    have HS := hid hs
    clear hs
    have bb := hid (bl_set (o := 1) (bl_set (o := 0) (bl_set (o := 1) HB.out (.int .i64 (y - 1)) hwX) (.int .i64 (x)) hwR) (.int .i64 (y - 1)) hwR)
    go_wp2
    have c0 := cell_of_heap (i := 0) HS.out
    have c1 := cell_of_heap (i := 1) HS.out
    refine bodyPost_ret (v := .agg #[.int .i64 (x), .int .i64 (y - 1)]) (by simp [results, Try.results85, go_sem, c0, c1]) rfl ⟨rfl, bb.out⟩
  have t3 : ((b : Int) == 83) = false := beq_eq_false_iff_ne.2 (by omega)
  have e : p = (x, y) := by rw [← HP.out]; unfold stepC; rw [if_neg h0, if_neg h1, if_neg h2, if_neg h3]
  subst e
  have hs : ((w0.setCell ⟨R, 0, none⟩ (.int .i64 x)).setCell ⟨R, 1, none⟩ (.int .i64 y)).heap[R]? = some (.cells #[.int .i64 x, .int .i64 y] 111 (0, 0)) := by
    rw [heap_setCell_same _ _ _ _ _ _ (heap_setCell_same _ _ _ _ _ _ K1.out)]; rfl
  have HS := hid hs
  clear hs
  have bb := hid (bl_set (o := 1) (bl_set (o := 0) HB.out (.int .i64 x) hwR) (.int .i64 y) hwR)
  go_wp2
  have c0 := cell_of_heap (i := 0) HS.out
  have c1 := cell_of_heap (i := 1) HS.out
  refine bodyPost_ret (v := .agg #[.int .i64 x, .int .i64 y]) (by simp [results, Try.results85, go_sem, c0, c1]) rfl ⟨rfl, bb.out⟩
end Go.Proofs.Ytlkoadcbolkhoaa

/- The letters of a chain: bytes and runes. -/
namespace Go.Proofs.Ytlkoadcbolkhoaa
open Go Go.RowKit Go.Proofs
attribute [local go_sem] cell_grow frozen_grow

/-! ### Plain -/
def isLet (b : Nat) : Bool := decide (b = 69) || decide (b = 78) || decide (b = 87) || decide (b = 83)
def bytesL (s : ByteArray) : List Nat := s.data.toList.map UInt8.toNat
theorem bytesL_len (s : ByteArray) : (bytesL s).length = s.size := by
  show (s.data.toList.map UInt8.toNat).length = s.data.size
  rw [List.length_map, Array.length_toList]
theorem bytesL_lt (s : ByteArray) : ∀ b ∈ bytesL s, b < 256 := fun b hb => by
  obtain ⟨x, _, rfl⟩ := List.mem_map.1 hb
  exact x.toNat_lt
theorem bytesL_get (s : ByteArray) {i : Nat} (h : i < s.size) : (bytesL s)[i]? = some (s.get! i).toNat := by
  obtain ⟨d⟩ := s
  have h' : i < d.size := h
  show (d.toList.map UInt8.toNat)[i]? = some (d[i]!).toNat
  rw [List.getElem?_map, Array.getElem?_toList, Array.getElem?_eq_getElem h', Option.map_some, getElem!_pos d i h']
def runeL (s : ByteArray) : Nat → Nat → List Nat
  | 0, _ => []
  | bound + 1, i => if i < s.size then (Utf8.decode s i).1 :: runeL s bound (i + (Utf8.decode s i).2) else []
theorem runes_eq (s : ByteArray) : ∀ (bound i : Nat) (acc : Array Value), Conv.runesFrom s bound i acc = acc ++ ((runeL s bound i).map fun r => Value.int .i32 (Int.ofNat r)).toArray
  | 0, i, acc => by simp [Conv.runesFrom, runeL]
  | bound + 1, i, acc => by
    unfold Conv.runesFrom runeL
    split
    · show Conv.runesFrom s bound (i + (Utf8.decode s i).2) (acc.push (.int .i32 (Int.ofNat (Utf8.decode s i).1))) = _
      rw [runes_eq s bound]
      simp
    · simp
theorem runeL_len (s : ByteArray) : ∀ (bound i : Nat), (runeL s bound i).length ≤ bound
  | 0, _ => by simp [runeL]
  | bound + 1, i => by
    unfold runeL
    split
    · have := runeL_len s bound (i + (Utf8.decode s i).2)
      simp; omega
    · simp
theorem decode_low (s : ByteArray) (i : Nat) (h : (s.get! i).toNat < 128) : Utf8.decode s i = ((s.get! i).toNat, 1) := by
  unfold Utf8.decode
  simp only [Nat.add_zero]
  rw [if_pos h]
theorem decode_high (s : ByteArray) (i : Nat) (h : ¬ (s.get! i).toNat < 128) : 128 ≤ (Utf8.decode s i).1 := by
  unfold Utf8.decode
  simp only [Nat.add_zero]
  rw [if_neg h]
  repeat' split
  all_goals simp_all [Utf8.runeError]
  all_goals omega
theorem isLet_lt {b : Nat} (h : isLet b = true) : b < 128 := by
  simp [isLet] at h
  omega
/-- All runes are letters of a chain just where all bytes are. -/
theorem runes_bytes (s : ByteArray) : ∀ (bound i : Nat), s.size ≤ i + bound → (runeL s bound i).all isLet = ((bytesL s).drop i).all isLet
  | 0, i, h => by
    unfold runeL
    rw [List.drop_of_length_le (by rw [bytesL_len]; omega)]
  | bound + 1, i, h => by
    unfold runeL
    by_cases hi : i < s.size
    · rw [if_pos hi]
      have hg := bytesL_get s hi
      have hdr : (bytesL s).drop i = (s.get! i).toNat :: (bytesL s).drop (i + 1) := by
        have hl : i < (bytesL s).length := by rw [bytesL_len]; exact hi
        rw [List.drop_eq_getElem_cons hl]
        rw [List.getElem?_eq_getElem hl] at hg
        injection hg with hg
        rw [hg]
      rw [hdr, List.all_cons, List.all_cons]
      by_cases hb : (s.get! i).toNat < 128
      · rw [decode_low s i hb, runes_bytes s bound (i + 1) (by omega)]
      · have h1 := decode_high s i hb
        have e1 : isLet (Utf8.decode s i).1 = false := by
          cases hq : isLet (Utf8.decode s i).1 with
          | false => rfl
          | true => exact absurd (isLet_lt hq) (by omega)
        have e2 : isLet (s.get! i).toNat = false := by
          cases hq : isLet (s.get! i).toNat with
          | false => rfl
          | true => exact absurd (isLet_lt hq) hb
        rw [e1, e2]; rfl
    · rw [if_neg hi, List.drop_of_length_le (by rw [bytesL_len]; omega)]

/-! ### Rows of numbers of another kind -/
def RowK (k : IntKind) (w : World) (v : Value) (l : List Int) : Prop :=
  (v = .slice none 0 0 ∧ l = []) ∨ ∃ b off c, v = .slice (some ⟨b, off, none⟩) l.length c ∧ l.length ≤ c ∧ b < w.heap.size ∧ ∀ i x, l[i]? = some x → w.cell? ⟨b, off + i, none⟩ = some (.int k x)
theorem RowK.mono {k : IntKind} {w v : World} {s : Value} {l : List Int} (h : RowK k w s l) (hb : Below w.heap.size w v) : RowK k v s l := by
  rcases h with h | ⟨b, off, c, h1, h2, h3, h4⟩
  · exact .inl h
  · exact .inr ⟨b, off, c, h1, h2, Nat.lt_of_lt_of_le h3 hb.size, fun i x hi => cell_mono (h4 i x hi) hb⟩
theorem RowK.slice {k : IntKind} {w : World} {s : Value} {l : List Int} (h : RowK k w s l) : ∃ A c, s = .slice A l.length c := by
  rcases h with ⟨rfl, rfl⟩ | ⟨b, off, c, rfl, _⟩
  · exact ⟨none, 0, rfl⟩
  · exact ⟨_, _, rfl⟩
theorem cell_new (w : World) (cs : Array Value) (t : TypeId) (p : Nat × Nat) (i : Nat) : (w.alloc (.cells cs t p)).cell? ⟨w.heap.size, i, none⟩ = cs[i]? := by
  have e : (w.alloc (.cells cs t p)).heap[w.heap.size]? = some (.cells cs t p) := by
    show (w.heap.push _)[w.heap.size]? = _
    simp
  unfold World.cell?
  rw [e]
  rfl
def intsN (l : List Nat) : List Int := l.map fun (b : Nat) => (b : Int)
/-- A string's bytes, laid as a row. -/
theorem conv_bytes (s : ByteArray) (w : World) : ∃ v w', (convert 9 112 (.string s)).run Try.prog w = .ok v w' ∧ RowK .u8 w' v (intsN (bytesL s)) ∧ Below w.heap.size w w' := by
  have h := run_bytes_of_string (P := Try.prog) w 9 112 5 s (by kernel_rfl) (by kernel_rfl) (by kernel_rfl)
  refine ⟨_, _, h, .inr ⟨w.heap.size, 0, grownCap w s.size 0 5, by simp [intsN, bytesL_len], ?_, by simp, fun i x hx => ?_⟩, bl_alloc (bl_drew (bl_refl _)) _⟩
  · have := grownCap_ge w s.size 0 5
    simp [intsN, bytesL_len]; omega
  · rw [Nat.zero_add]
    have hi : i < s.size := by have := (List.getElem?_eq_some_iff.1 hx).1; simpa [intsN, bytesL_len] using this
    have hcell : ∀ (cs : Array Value) (p : Nat × Nat), (w.drew.alloc (.cells cs 5 p)).cell? ⟨w.heap.size, i, none⟩ = cs[i]? := fun cs p => by
      have e : (w.drew.alloc (.cells cs 5 p)).heap[w.heap.size]? = some (.cells cs 5 p) := by
        show (w.heap.push _)[w.heap.size]? = _
        simp
      unfold World.cell?
      rw [e]
      rfl
    rw [hcell]
    unfold bytesRow
    have hx' : (bytesL s)[i]? = some (s.data[i]'hi).toNat := by unfold bytesL; rw [List.getElem?_map, Array.getElem?_toList, Array.getElem?_eq_getElem (show i < s.data.size from hi)]; rfl
    have hxv : x = ((s.data[i]'hi).toNat : Int) := by
      rw [intsN, List.getElem?_map, hx'] at hx
      simpa using hx.symm
    rw [Array.getElem?_append_left (by simpa using hi), hxv, Array.getElem?_map, Array.getElem?_eq_getElem (show i < s.data.size from hi)]
    rfl
/-- A string's runes, laid as a row. -/
theorem conv_runes (s : ByteArray) (w : World) (hs : s.size ≤ 1000000) : ∃ v w', (convert 9 117 (.string s)).run Try.prog w = .ok v w' ∧ RowK .i32 w' v (intsN (runeL s s.size 0)) ∧ Below w.heap.size w w' := by
  have hrl := runeL_len s s.size 0
  have hsz : (Conv.runesFrom s s.size 0 #[]).size = (runeL s s.size 0).length := by rw [runes_eq]; simp
  have h := run_runes_of_string (P := Try.prog) w 9 117 21 s (by kernel_rfl) (by kernel_rfl) (by kernel_rfl) (by rw [hsz]; omega)
  refine ⟨_, _, h, .inr ⟨w.heap.size, 0, grownCap w (Conv.runesFrom s s.size 0 #[]).size 0 21, by rw [hsz]; simp [intsN], ?_, by simp, fun i x hx => ?_⟩, bl_alloc (bl_drew (bl_refl _)) _⟩
  · have := grownCap_ge w (Conv.runesFrom s s.size 0 #[]).size 0 21
    simp [intsN]; omega
  · rw [Nat.zero_add]
    have hi : i < (runeL s s.size 0).length := by have := (List.getElem?_eq_some_iff.1 hx).1; simpa [intsN] using this
    refine Eq.trans (World.cell?_alloc_new w.drew _ 21 i) ?_
    rw [Array.getElem?_append_left (by rw [hsz]; exact hi), runes_eq]
    rw [intsN, List.getElem?_map] at hx
    obtain ⟨r, hr, rfl⟩ := Option.map_eq_some_iff.1 hx
    simp [hr]
set_option maxHeartbeats 1000000 in
theorem indexB_any (l : List Int) (s : Value) (n : Int) (w : World) (hl : l.length ≤ 1000000) (hs : RowK .u8 w s l) :
    Calls Try.prog 87 #[s, .int .u8 n] w fun e w' => e = .returned (.int .i64 (idxL n l)) ∧ w' = w := by
  rcases hs with ⟨rfl, rfl⟩ | ⟨b, off, c, rfl, hc, hb, hcell⟩
  · go_enter Try.func87, Try.ntmps87
    go_wp2
    go_loop [5, 8] (fun _ i => i = .int .i64 0) (fun _ _ => 0)
    case atStart => exact rfl
    case round =>
      obtain rfl := hrel
      go_wp2
      go_ret
      exact ⟨rfl, rfl⟩
  · go_enter Try.func87, Try.ntmps87
    go_wp2
    go_loop [5, 8] (fun _ i => ∃ k : Nat, k ≤ l.length ∧ i = .int .i64 k ∧ NoEq n l k) (fun _ i => l.length - (intOf i).toNat)
    case atStart => exact ⟨0, Nat.zero_le _, rfl, fun i _ h => by omega⟩
    case round =>
      obtain ⟨k, hk, rfl, hn⟩ := hrel
      by_cases hlt : k < l.length
      · obtain ⟨x, hx⟩ := get_at hlt
        have hck := hcell k x hx
        have Hx := hid hx
        have HN := hid hn
        clear hx hcell hn
        by_cases he : x = n
        · have he' : (n == x) = true := by simp [he]
          have hres := hid (idxL_at (n := n) (l := l) (k := k) (by rw [Hx.out, he]) HN.out)
          clear he
          go_wp2
          go_ret
          exact ⟨by rw [hres.out]; rfl, rfl⟩
        · have he' : (n == x) = false := by rw [beq_eq_false_iff_ne]; exact fun e => he e.symm
          have hn2 := hid (noEq_succ HN.out Hx.out he)
          clear he
          go_wp2
          go_round
          case rel => exact ⟨k + 1, by omega, by go_num, hn2.out⟩
          case measure => simp [intOf]; omega
      · obtain rfl : k = l.length := by omega
        have hres := hid (idxL_none hn)
        clear hn
        go_wp2
        go_ret
        exact ⟨by rw [hres.out]; rfl, rfl⟩

def oddR (r : Nat) : Bool := !isLet r
set_option maxRecDepth 100000 in
set_option maxHeartbeats 4000000 in
theorem odd_any (r : Nat) (w : World) (hr : r ≤ 1114111) : Calls Try.prog 86 #[.int .i32 (r : Int)] w fun e w' => e = .returned (.bool (oddR r)) ∧ Below w.heap.size w w' := by
  have hbb := bl_alloc (bl_refl w) (.cells #[.int .u8 69, .int .u8 78, .int .u8 87, .int .u8 83] 5 (4, 5))
  have hcv := Lib.run_convert_bytes_const (P := Try.prog) w 112 5 #[.int .u8 69, .int .u8 78, .int .u8 87, .int .u8 83] 4 4 (by kernel_rfl) (by kernel_rfl)
  have hrow : RowK .u8 (w.alloc (.cells #[.int .u8 69, .int .u8 78, .int .u8 87, .int .u8 83] 5 (4, 5))) (.slice (some ⟨w.heap.size, 0, none⟩) 4 4) [69, 78, 87, 83] := .inr ⟨w.heap.size, 0, 4, rfl, by simp, by simp, fun i x hx => by
    rw [Nat.zero_add, cell_new]
    have hi4 : i < 4 := (List.getElem?_eq_some_iff.1 hx).1
    obtain rfl | rfl | rfl | rfl : i = 0 ∨ i = 1 ∨ i = 2 ∨ i = 3 := by omega
    all_goals (simp at hx; subst hx; rfl)⟩
  have hcall := indexB_any [69, 78, 87, 83] _ ((r : Int) % 256) _ (by simp) hrow
  have hwr : IntKind.u8.wrap (r : Int) = (r : Int) % 256 := by simp [IntKind.wrap, IntKind.bits, IntKind.signed]
  obtain ⟨ix, hix⟩ : ∃ ix, idxL ((r : Int) % 256) [69, 78, 87, 83] = ix := ⟨_, rfl⟩
  have hhas := idxL_has ((r : Int) % 256) [69, 78, 87, 83]
  rw [hix] at hcall hhas
  have HB := hid hbb
  have hodd : oddR r = (decide (ix < 0) || decide (87 < (r : Int))) := by
    have h1 : decide (ix < 0) = !([69, 78, 87, 83] : List Int).contains ((r : Int) % 256) := by
      rw [← hhas]
      by_cases h : ix < 0
      · rw [decide_eq_true h, decide_eq_false (by omega)]; rfl
      · rw [decide_eq_false h, decide_eq_true (by omega)]; rfl
    rw [h1]
    unfold oddR isLet
    by_cases h87 : 87 < (r : Int)
    · rw [decide_eq_true h87, Bool.or_true, decide_eq_false (by omega), decide_eq_false (by omega), decide_eq_false (by omega), decide_eq_false (by omega)]
      rfl
    · rw [decide_eq_false h87, Bool.or_false, show (r : Int) % 256 = r by omega]
      by_cases e1 : r = 69
      · subst e1; rfl
      · by_cases e2 : r = 78
        · subst e2; rfl
        · by_cases e3 : r = 87
          · subst e3; rfl
          · by_cases e4 : r = 83
            · subst e4; rfl
            · simp [e1, e2, e3, e4]; omega
  have HO := hid hodd
  clear hbb hrow hix hhas hodd
  go_enter Try.func86, Try.ntmps86
  go_wp2_with fail
  refine hcall.mono ?_
  rintro e w1 ⟨rfl, rfl⟩
  clear hcall
  cases h1 : decide (ix < 0) with
  | true =>
    have h2 := hid (show oddR r = true by rw [HO.out, h1]; rfl)
    go_wp2
    go_ret
    exact ⟨by rw [h2.out]; rfl, HB.out⟩
  | false =>
    have h2 := hid (show oddR r = decide (87 < (r : Int)) by rw [HO.out, h1]; rfl)
    go_wp2
    go_ret
    exact ⟨by rw [h2.out]; rfl, HB.out⟩

theorem noQ_all {p : Int → Bool} {l : List Int} (h : NoP p l l.length) : l.any p = false := noP_all h
set_option maxHeartbeats 4000000 in
theorem idxRune_any (l : List Nat) (s : Value) (w : World) (hl : l.length ≤ 1000000) (hr : ∀ r ∈ l, r ≤ 1114111) (hs : RowK .i32 w s (intsN l)) :
    Calls Try.prog 106 #[s, .func (.func 86) #[] #[]] w fun e w' => (∃ r, e = .returned (.int .i64 r) ∧ FoundAt r (l.any oddR)) ∧ Below w.heap.size w w' := by
  have hln : (intsN l).length = l.length := by simp [intsN]
  rcases hs with ⟨rfl, h0⟩ | ⟨b, off, c, rfl, hc, hb, hcell⟩
  · have h0' : l = [] := by simpa [intsN] using h0
    subst h0'
    go_enter Try.func106, Try.ntmps106
    go_wp2
    go_loop [5, 8] (fun _ i => i = .int .i64 0) (fun _ _ => 0)
    case atStart => exact rfl
    case round =>
      obtain rfl := hrel
      go_wp2
      go_ret
      exact ⟨⟨_, rfl, by simp [FoundAt]⟩, bl_refl _⟩
  · have HR := hid hr
    have HC := hid hcell
    rw [hln] at hc ⊢
    clear hr hcell
    go_enter Try.func106, Try.ntmps106
    go_wp2
    go_loopw [5, 8] (fun _ i wr => ∃ k : Nat, k ≤ l.length ∧ i = .int .i64 k ∧ NoPA oddR l k ∧ Below w.heap.size w wr) (fun _ i _ => l.length - (intOf i).toNat)
    case atStart => exact ⟨0, Nat.zero_le _, rfl, fun i _ h => by omega, bl_refl _⟩
    case round =>
      obtain ⟨k, hk, rfl, hn, hB⟩ := hrel
      by_cases hlt : k < l.length
      · obtain ⟨x, hx⟩ := get_at hlt
        have hbl := hB.size
        have hc0 := cell_mono (HC.out k (x : Int) (by simp [intsN, hx])) hB
        have HX := hid hx
        have hpx := odd_any x wr (HR.out x (List.mem_of_getElem? hx))
        have HN := hid hn
        have HB := hid hB
        clear hx hn hB
        cases hbad : oddR x with
        | true =>
          have hany := hid (noPA_any HX.out hbad)
          rw [hbad] at hpx
          clear hbad
          go_wp2_with fail
          refine hpx.mono ?_
          rintro e w' ⟨rfl, hb'⟩
          have HB' := hid (bl_trans HB.out hb')
          clear hpx hb' hc0
          go_wp2
          go_ret
          exact ⟨⟨_, rfl, by rw [hany.out]; simp [FoundAt]⟩, HB'.out⟩
        | false =>
          have hn2 := hid (noPA_succ HN.out HX.out hbad)
          rw [hbad] at hpx
          clear hbad
          go_wp2_with fail
          refine hpx.mono ?_
          rintro e w' ⟨rfl, hb'⟩
          have HB' := hid (bl_trans HB.out hb')
          clear hpx hb' hc0
          go_wp2
          go_roundw
          case rel => exact ⟨k + 1, by omega, by go_num, hn2.out, HB'.out⟩
          case measure => simp [intOf]; omega
      · obtain rfl : k = l.length := by omega
        have hall := hid (noPA_all hn)
        have HB := hid hB
        clear hn hB
        go_wp2
        go_ret
        exact ⟨⟨_, rfl, by rw [hall.out]; simp [FoundAt]⟩, HB.out⟩
theorem anyRune_any (l : List Nat) (s : Value) (w : World) (hl : l.length ≤ 1000000) (hr : ∀ r ∈ l, r ≤ 1114111) (hs : RowK .i32 w s (intsN l)) :
    Calls Try.prog 88 #[s, .func (.func 86) #[] #[]] w fun e w' => e = .returned (.bool (l.any oddR)) ∧ Below w.heap.size w w' := by
  have hcall := idxRune_any l s w hl hr hs
  clear hr
  go_enter Try.func88, Try.ntmps88
  cases hany : l.any oddR
  · rw [hany] at hcall
    have hany' := hid hany
    clear hany
    go_wp2_with (go_at_call 106; refine hcall.mono ?_; rintro e w' ⟨⟨r, rfl, hr⟩, hb⟩; (obtain rfl : r = -1 := by simpa [FoundAt] using hr); have HB := hid hb; clear hr hb)
    go_ret
    exact ⟨rfl, HB.out⟩
  · rw [hany] at hcall
    have hany' := hid hany
    clear hany
    go_wp2_with (go_at_call 106; refine hcall.mono ?_; rintro e w' ⟨⟨r, rfl, hr⟩, hb⟩; (have hr' : decide (0 ≤ r) = true := by simpa [FoundAt] using hr); have HB := hid hb; clear hr hb)
    go_ret
    exact ⟨by simp, HB.out⟩
theorem decode_max (s : ByteArray) (i : Nat) : (Utf8.decode s i).1 ≤ 1114111 := by
  unfold Utf8.decode
  have h0 := (s.get! (i + 0)).toNat_lt
  have h1 := (s.get! (i + 1)).toNat_lt
  have h2 := (s.get! (i + 2)).toNat_lt
  have h3 := (s.get! (i + 3)).toNat_lt
  simp only
  repeat' split
  all_goals simp_all [Utf8.runeError, Utf8.valid]
  all_goals omega
theorem runeL_max (s : ByteArray) : ∀ (bound i : Nat), ∀ r ∈ runeL s bound i, r ≤ 1114111
  | 0, _, r, h => by simp [runeL] at h
  | bound + 1, i, r, h => by
    unfold runeL at h
    split at h
    · rcases List.mem_cons.1 h with rfl | h
      · exact decode_max s i
      · exact runeL_max s bound _ r h
    · simp at h
theorem any_odd (l : List Nat) : l.any oddR = !l.all isLet := by
  induction l with
  | nil => rfl
  | cons x l ih => rw [List.any_cons, List.all_cons, ih]; unfold oddR; cases isLet x <;> simp

end Go.Proofs.Ytlkoadcbolkhoaa
