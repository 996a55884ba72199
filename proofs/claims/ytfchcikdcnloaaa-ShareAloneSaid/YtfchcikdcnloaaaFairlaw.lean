/- The plain law of fair shares: the table's test is the reference's. -/
import Derived.Test.YtfchcikdcnloaaaQuo
namespace Go.Proofs.Ytfchcikdcnloaaa
open Go Go.RowKit Go.Proofs

theorem ge_trans {x y z : Int × Int} (hx : 0 < x.2) (hy : 0 < y.2) (hz : 0 < z.2) (h1 : lessB x y = false) (h2 : lessB y z = false) : lessB x z = false := by
  simp only [lessB, decide_eq_false_iff_not, Int.not_lt] at *
  have a := Int.mul_le_mul_of_nonneg_right h1 (Int.le_of_lt hz)
  have b := Int.mul_le_mul_of_nonneg_right h2 (Int.le_of_lt hx)
  have e1 : y.1 * x.2 * z.2 = y.1 * z.2 * x.2 := by ac_rfl
  have e2 : z.1 * y.2 * x.2 = z.1 * x.2 * y.2 := by ac_rfl
  have e3 : x.1 * y.2 * z.2 = x.1 * z.2 * y.2 := by ac_rfl
  have : z.1 * x.2 * y.2 ≤ x.1 * z.2 * y.2 := by omega
  exact Int.le_of_mul_le_mul_right this hy
theorem less_asym {x y : Int × Int} (h : lessB x y = true) : lessB y x = false := by
  simp only [lessB, decide_eq_true_eq, decide_eq_false_iff_not] at *
  omega
theorem less_irr (x : Int × Int) : lessB x x = false := by simp [lessB]

section
variable {had got : List Int} {part prize : Int}
theorem next_pos (V : Val had part prize) (G : GotOk got) {i : Nat} (hi : i < had.length) : 0 < 100 * had.getD i 0 ∧ 0 < 100 * got.getD i 0 + part := by
  obtain ⟨a, ha⟩ := get_at hi
  have h1 := V.h1 i a ha
  have hl := V.l2
  obtain ⟨x, hx⟩ := get_at (l := got) (k := i) (by have := G.1; omega)
  have h2 := G.2 i x hx
  have hp := V.p1
  simp only [List.getD, ha, hx, Option.getD_some]
  omega
theorem nextQ_pos (V : Val had part prize) (G : GotOk got) {i : Nat} (hi : i < had.length) : 0 < (nextQ had part got i).2 := by
  have h := next_pos V G hi
  obtain ⟨g, _, _, _, _, p2, _⟩ := quo_facts h.1 h.2
  exact p2
theorem last_pos (V : Val had part prize) (G : GotOk got) {i : Nat} (hi : i < had.length) (h : 0 < got.getD i 0) : 0 < 100 * had.getD i 0 ∧ 0 < 100 * (got.getD i 0 - 1) + part := by
  have := next_pos V G hi
  have hp := V.p1
  omega
theorem lastQ_eq {i : Nat} (h : 0 < got.getD i 0) : lastQ had part got i = quo (100 * had.getD i 0) (100 * (got.getD i 0 - 1) + part) := by
  unfold lastQ byQ
  rw [if_neg (by omega)]
theorem lastQ_pos (V : Val had part prize) (G : GotOk got) {i : Nat} (hi : i < had.length) (h : 0 < got.getD i 0) : 0 < (lastQ had part got i).2 := by
  have hp := last_pos V G hi h
  obtain ⟨g, _, _, _, _, p2, _⟩ := quo_facts hp.1 hp.2
  rw [lastQ_eq h]
  exact p2

theorem nexts_at (had got : List Int) (part : Int) {i n : Nat} (hi : i < n) : (nextsQ had part got n)[i]? = some (nextQ had part got i) := by
  simp [nextsQ, hi]
theorem mem_nexts {q : Int × Int} {n : Nat} : q ∈ nextsQ had part got n ↔ ∃ i, i < n ∧ q = nextQ had part got i := by
  simp only [nextsQ, List.mem_map, List.mem_range]
  exact ⟨fun ⟨i, hi, e⟩ => ⟨i, hi, e.symm⟩, fun ⟨i, hi, e⟩ => ⟨i, hi, e.symm⟩⟩
theorem mem_lasts {q : Int × Int} {n : Nat} : q ∈ lastsQ had part got n ↔ ∃ i, i < n ∧ 0 < got.getD i 0 ∧ q = lastQ had part got i := by
  simp only [lastsQ, List.mem_map, List.mem_filter, List.mem_range, hasSome, decide_eq_true_eq]
  exact ⟨fun ⟨i, ⟨hi, hs⟩, e⟩ => ⟨i, hi, hs, e.symm⟩, fun ⟨i, hi, hs, e⟩ => ⟨i, ⟨hi, hs⟩, e.symm⟩⟩

/-- The next log's best: the first owner with the greatest next quotient. -/
theorem great_best (V : Val had part prize) (G : GotOk got) : ∃ j y, FirstBest gtB (nextsQ had part got had.length) had.length j y := by
  obtain ⟨n, hn⟩ : ∃ n, had.length = n + 1 := ⟨had.length - 1, by have := V.l1; omega⟩
  have hlen : (nextsQ had part got had.length).length = n + 1 := by simp [nextsQ, hn]
  have hp : ∀ q ∈ nextsQ had part got had.length, 0 < q.2 := fun q hq => by
    obtain ⟨i, hi, rfl⟩ := mem_nexts.1 hq
    exact nextQ_pos V G hi
  have := firstBest (better := gtB) (l := nextsQ had part got had.length) (fun x _ => less_irr x) (fun x _ y _ h => less_asym h) (fun x hx y hy z hz h1 h2 => ge_trans (hp z hz) (hp y hy) (hp x hx) h2 h1) n (by omega)
  rwa [← hn] at this

theorem bestOf_first {better : Int × Int → Int × Int → Bool} {l : List (Int × Int)} {j : Nat} {y : Int × Int} (h : FirstBest better l l.length j y) : bestOf better l = y := by
  unfold bestOf
  rw [h.eq, Int.toNat_natCast, h.at']
  rfl

theorem great_facts (V : Val had part prize) (G : GotOk got) : (∃ j, j < had.length ∧ greatQ had part got = nextQ had part got j) ∧ ∀ i, i < had.length → lessB (greatQ had part got) (nextQ had part got i) = false := by
  obtain ⟨j, y, h⟩ := great_best V G
  have hlen : (nextsQ had part got had.length).length = had.length := by simp [nextsQ]
  have e : greatQ had part got = y := bestOf_first (by rw [hlen]; exact h)
  have hj := nexts_at had got part (n := had.length) h.lt
  rw [h.at'] at hj
  injection hj with hj
  refine ⟨⟨j, h.lt, by rw [e, hj]⟩, fun i hi => ?_⟩
  rw [e]
  exact h.best i _ hi (nexts_at had got part hi)

theorem least_facts (V : Val had part prize) (G : GotOk got) (hs : ∃ i, i < had.length ∧ 0 < got.getD i 0) : (∃ j, j < had.length ∧ 0 < got.getD j 0 ∧ leastQ had part got = lastQ had part got j) ∧ ∀ i, i < had.length → 0 < got.getD i 0 → lessB (lastQ had part got i) (leastQ had part got) = false := by
  have hp : ∀ q ∈ lastsQ had part got had.length, 0 < q.2 := fun q hq => by
    obtain ⟨i, hi, h, rfl⟩ := mem_lasts.1 hq
    exact lastQ_pos V G hi h
  obtain ⟨i0, hi0, hg0⟩ := hs
  have hm : lastQ had part got i0 ∈ lastsQ had part got had.length := mem_lasts.2 ⟨i0, hi0, hg0, rfl⟩
  have hpos : 0 < (lastsQ had part got had.length).length := List.length_pos_of_mem hm
  obtain ⟨n, hn⟩ : ∃ n, (lastsQ had part got had.length).length = n + 1 := ⟨(lastsQ had part got had.length).length - 1, by omega⟩
  obtain ⟨j, y, h⟩ := firstBest (better := lessB) (l := lastsQ had part got had.length) (fun x _ => less_irr x) (fun x _ y _ h => less_asym h) (fun x hx y hy z hz h1 h2 => ge_trans (hp x hx) (hp y hy) (hp z hz) h1 h2) n (by omega)
  rw [← hn] at h
  have e : leastQ had part got = y := bestOf_first h
  obtain ⟨k, hk, hgk, hy⟩ := mem_lasts.1 (List.mem_of_getElem? h.at')
  refine ⟨⟨k, hk, hgk, by rw [e, hy]⟩, fun i hi hg => ?_⟩
  rw [e]
  have hmi : lastQ had part got i ∈ lastsQ had part got had.length := mem_lasts.2 ⟨i, hi, hg, rfl⟩
  obtain ⟨m, hm, hme⟩ := List.mem_iff_getElem.mp hmi
  exact h.best m _ hm (by rw [← hme]; simp [hm])

/-- The test by the least last and the greatest next quotient says what the pairs say. -/
theorem least_great (V : Val had part prize) (G : GotOk got) (hs : ∃ i, i < had.length ∧ 0 < got.getD i 0) :
    lessB (leastQ had part got) (greatQ had part got) = true ↔ ∃ i k, i < had.length ∧ k < had.length ∧ 0 < got.getD i 0 ∧ lessB (lastQ had part got i) (nextQ had part got k) = true := by
  obtain ⟨⟨j, hj, hgj, ej⟩, hl⟩ := least_facts V G hs
  obtain ⟨⟨m, hm, em⟩, hg⟩ := great_facts V G
  constructor
  · intro h
    exact ⟨j, m, hj, hm, hgj, by rw [← ej, ← em]; exact h⟩
  · rintro ⟨i, k, hi, hk, hgi, h⟩
    cases hb : lessB (leastQ had part got) (greatQ had part got) with
    | true => rfl
    | false =>
      have pl : 0 < (leastQ had part got).2 := by rw [ej]; exact lastQ_pos V G hj hgj
      have pg : 0 < (greatQ had part got).2 := by rw [em]; exact nextQ_pos V G hm
      have := ge_trans (lastQ_pos V G hi hgi) pl (nextQ_pos V G hk) (hl i hi hgi) (ge_trans pl pg (nextQ_pos V G hk) hb (hg k hk))
      rw [h] at this
      cases this

theorem last_next (V : Val had part prize) (G : GotOk got) {i k : Nat} (hi : i < had.length) (hk : k < had.length) (hg : 0 < got.getD i 0) :
    lessB (lastQ had part got i) (nextQ had part got k) = decide (had.getD i 0 * (100 * got.getD k 0 + part) < had.getD k 0 * (100 * (got.getD i 0 - 1) + part)) := by
  have h1 := last_pos V G hi hg
  have h2 := next_pos V G hk
  rw [lastQ_eq hg]
  show lessB _ (quo _ _) = _
  rw [less_quo h1.1 h1.2 h2.1 h2.2]
  congr 1
  rw [Int.mul_assoc, Int.mul_assoc]
  exact propext (by omega)
end

theorem padTo_getD {l : List Int} {i : Nat} (hi : i < l.length) : (padTo l).getD i 0 = l.getD i 0 := by
  simp [List.getD, padTo_get hi]
theorem shOk_got {had shares : List Int} {part prize : Int} (O : ShOk had part prize shares) : GotOk (padTo shares) := by
  have hl := O.V.l2
  have hz := O.V.z2
  have hlen := O.len
  refine ⟨padTo_len (by omega), fun i x hx => ?_⟩
  have hm : x ∈ padTo shares := List.mem_of_getElem? hx
  simp only [padTo, List.mem_append, List.mem_replicate] at hm
  rcases hm with hm | ⟨_, rfl⟩
  · have := O.rng x hm; omega
  · omega

/-- Fair by the table is fair by the pairs. -/
theorem fair_law {had shares : List Int} {part prize : Int} (O : ShOk had part prize shares) : fairB had part (padTo shares) = isFairR had part shares := by
  have V := O.V
  have G := shOk_got O
  have hlen := O.len
  have hget : ∀ i, i < had.length → (padTo shares).getD i 0 = shares.getD i 0 := fun i hi => padTo_getD (by omega)
  by_cases hz : allZ (padTo shares) = true
  · have h0 : ∀ x ∈ padTo shares, x = 0 := by simpa [allZ] using hz
    unfold fairB
    rw [if_pos hz]
    symm
    refine isFairR_true.2 fun i k hi hk => ?_
    have : shares.getD i 0 = 0 := by
      rw [← hget i (by omega)]
      obtain ⟨x, hx⟩ := get_at (l := padTo shares) (k := i) (by have := G.1; have := V.l2; omega)
      simp only [List.getD, hx, Option.getD_some]
      exact h0 x (List.mem_of_getElem? hx)
    simp only [fairAt, this]
    simp
  · have hs : ∃ i, i < had.length ∧ 0 < (padTo shares).getD i 0 := by
      obtain ⟨x, hx, hne⟩ : ∃ x ∈ padTo shares, x ≠ 0 := by simpa [allZ] using hz
      simp only [padTo, List.mem_append, List.mem_replicate] at hx
      rcases hx with hx | ⟨_, rfl⟩
      · obtain ⟨i, hi, rfl⟩ := List.mem_iff_getElem.mp hx
        refine ⟨i, by omega, ?_⟩
        rw [padTo_getD hi]
        have := O.rng _ hx
        simp only [List.getD, List.getElem?_eq_getElem hi, Option.getD_some]
        omega
      · exact absurd rfl hne
    unfold fairB
    rw [if_neg hz]
    have hlg := least_great V G hs
    cases hf : isFairR had part shares with
    | true =>
      have hf := isFairR_true.1 hf
      cases hb : lessB (leastQ had part (padTo shares)) (greatQ had part (padTo shares)) with
      | false => rfl
      | true =>
        obtain ⟨i, k, hi, hk, hg, h⟩ := hlg.1 hb
        rw [last_next V G hi hk hg, hget i hi, hget k hk] at h
        rw [hget i hi] at hg
        have h2 := hf i k (by omega) (by omega)
        have hne : k ≠ i := by
          rintro rfl
          have hp := V.p1
          obtain ⟨a, ha⟩ := get_at hk
          have := V.h1 k a ha
          simp only [List.getD, ha, Option.getD_some, decide_eq_true_eq] at h
          have := Int.lt_of_mul_lt_mul_left h (by omega)
          omega
        simp only [fairAt, hg, hne, h, decide_true, Bool.and_self, Bool.not_true, ne_eq, not_false_eq_true] at h2
        cases h2
    | false =>
      have : ¬ ∀ i k, i < shares.length → k < shares.length → fairAt had part shares i k = true := fun h => by
        rw [isFairR_true.2 h] at hf; cases hf
      simp only [Classical.not_forall] at this
      obtain ⟨i, k, hi, hk, h⟩ := this
      have h' : fairAt had part shares i k = false := by simpa using h
      simp only [fairAt, Bool.not_eq_false', Bool.and_eq_true, decide_eq_true_eq] at h'
      have : lessB (leastQ had part (padTo shares)) (greatQ had part (padTo shares)) = true := hlg.2 ⟨i, k, by omega, by omega, by rw [hget i (by omega)]; exact h'.1.1, by
        rw [last_next V G (by omega) (by omega) (by rw [hget i (by omega)]; exact h'.1.1), hget i (by omega), hget k (by omega)]
        simpa using h'.2⟩
      rw [this]
      rfl

theorem checkShares_law (had : List Int) (part prize : Int) (shares : List Int) : checkSharesE had part prize shares = refSharesE had part prize shares := by
  unfold checkSharesE refSharesE
  by_cases h : sharedE had part prize shares = 0
  · rw [fair_law (sharedE_ok.1 h)]
  · rw [if_pos h, if_pos h]

end Go.Proofs.Ytfchcikdcnloaaa
