/- The fewest sticks, the smallest and the largest best water (plain). -/
import Derived.Test.YtlkoadcbolkhoaaCutm
set_option linter.all false
namespace Go.Proofs.Ytlkoadcbolkhoaa

/-- A set of cells encloses. -/
def enclX (want keep : List Int) (X : Int → Bool) : Prop := (∀ c ∈ want, X c = true) ∧ ∀ c ∈ keep, X c = false
section
variable {u : Used} {wd hg : Int} {want keep : List Int}
theorem Valid.win (hV : Valid wd hg want keep) {c : Int} (h : c ∈ want) : inP wd hg c := ⟨(listB_in hV.w c h).1, (listB_in hV.w c h).2⟩
theorem Valid.kin (hV : Valid wd hg want keep) {c : Int} (h : c ∈ keep) : inP wd hg c := ⟨(listB_in hV.k c h).1, (listB_in hV.k c h).2⟩
theorem val_out (hV : Valid wd hg want keep) (hF : Flow u wd hg want keep) {X : Int → Bool} (hX : enclX want keep X) :
    val u wd hg want = cellS (wd * hg).toNat (fun c => if X c = true then dsum (fun d => if outS wd hg X c d = true then u (c, d) - innD u wd hg c d else 0) else 0) := by
  have hn := hV.B.nat
  rw [← net_sum hV.B]
  unfold val
  conv => lhs; rw [list_pick hV.w]
  rw [pick_sum]
  refine cellS_congr fun c h0 h1 => ?_
  by_cases hw : c ∈ want
  · rw [if_pos (by rw [List.contains_iff_mem]; exact hw), if_pos (hX.1 c hw)]
  · rw [if_neg (by rw [List.contains_iff_mem]; exact hw)]
    by_cases hx : X c = true
    · rw [if_pos hx]
      refine (hF.n c ⟨h0, by omega⟩ hw fun hk => ?_).symm
      rw [hX.2 c hk] at hx; cases hx
    · rw [if_neg hx]
theorem Sane.inn0 (h : Sane u wd hg keep) (c d : Int) : 0 ≤ innD u wd hg c d := by
  unfold innD
  split
  · rcases h.b (nbr wd hg c d, back d) with h | h <;> omega
  · omega
theorem out_le (h : Sane u wd hg keep) (X : Int → Bool) (c d : Int) : (if outS wd hg X c d = true then u (c, d) - innD u wd hg c d else 0) ≤ if outS wd hg X c d = true then 1 else 0 := by
  have h1 := h.inn0 c d
  split
  · rcases h.b (c, d) with h | h <;> omega
  · omega
theorem dsum_le {f g : Int → Int} (h : ∀ d, f d ≤ g d) : dsum f ≤ dsum g := by
  have := h 0; have := h 1; have := h 2; have := h 3
  unfold dsum; omega
theorem cell_le (h : Sane u wd hg keep) (X : Int → Bool) (c : Int) : (if X c = true then dsum (fun d => if outS wd hg X c d = true then u (c, d) - innD u wd hg c d else 0) else 0) ≤ if X c = true then dsum (fun d => if outS wd hg X c d = true then 1 else 0) else 0 := by
  split
  · exact dsum_le fun d => out_le h X c d
  · omega
/-- No water that encloses has fewer sticks than there are ways. -/
theorem weak_cut (hV : Valid wd hg want keep) (hF : Flow u wd hg want keep) {X : Int → Bool} (hX : enclX want keep X) : val u wd hg want ≤ cutX wd hg X := by
  rw [val_out hV hF hX]
  exact cellS_le fun c _ _ => cell_le hF.s X c
/-- If it has as many, all its sticks are used. -/
theorem tight_cut (hV : Valid wd hg want keep) (hF : Flow u wd hg want keep) {X : Int → Bool} (hX : enclX want keep X) (he : val u wd hg want = cutX wd hg X) {c d : Int} (hc : inP wd hg c) (hx : X c = true) (hd : 0 ≤ d ∧ d ≤ 3) (ho : outS wd hg X c d = true) : u (c, d) = 1 := by
  have hn := hV.B.nat
  rw [val_out hV hF hX] at he
  have h1 := cellS_le_eq (fun c _ _ => cell_le hF.s X c) he c hc.1 (by have := hc.2; omega)
  rw [if_pos hx, if_pos hx] at h1
  have k : ∀ e, _ := fun e => out_le hF.s X c e
  have k0 := k 0; have k1 := k 1; have k2 := k 2; have k3 := k 3
  unfold dsum at h1
  dsimp only at h1
  have kd : (if outS wd hg X c d = true then u (c, d) - innD u wd hg c d else 0) = if outS wd hg X c d = true then 1 else 0 := by
    rcases dir_cases hd with rfl | rfl | rfl | rfl <;> omega
  rw [if_pos ho, if_pos ho] at kd
  have := hF.s.inn0 c d
  rcases hF.s.b (c, d) with h | h <;> omega
theorem sat_cut (hV : Valid wd hg want keep) (hF : Flow u wd hg want keep) {X : Int → Bool} (hX : enclX want keep X) (h : ∀ c d, inP wd hg c → X c = true → 0 ≤ d ∧ d ≤ 3 → outS wd hg X c d = true → u (c, d) = 1) : val u wd hg want = cutX wd hg X := by
  have hn := hV.B.nat
  rw [val_out hV hF hX]
  refine cellS_congr fun c h0 h1 => ?_
  have hc : inP wd hg c := ⟨h0, by omega⟩
  by_cases hx : X c = true
  · rw [if_pos hx, if_pos hx]
    refine dsum_congr fun d hd => ?_
    by_cases ho : outS wd hg X c d = true
    · rw [if_pos ho, if_pos ho]
      have h2 := h c d hc hx hd ho
      have h3 : innD u wd hg c d = 0 := by
        unfold innD
        split
        · next h4 => exact hF.s.a c d h2 h4
        · rfl
      omega
    · rw [if_neg ho, if_neg ho]
  · rw [if_neg hx, if_neg hx]

/-! ### The smallest one -/
def reachX (u : Used) (wd hg : Int) (want keep : List Int) (c : Int) : Bool := decide (0 ≤ (at_ (reachU u wd hg want keep).1 c).1)
theorem reachX_encl (hV : Valid wd hg want keep) (h : (reachU u wd hg want keep).2.2 = false) : enclX want keep (reachX u wd hg want keep) := by
  obtain ⟨_, _, r3, _, r5⟩ := reached (u := u) (keep := keep) hV.B hV.w
  refine ⟨fun c hc => decide_eq_true (r3 c (hV.win hc) (by0_has hV.w hc)), fun c hc => decide_eq_false fun k => ?_⟩
  exact (r5 h c (hV.kin hc) k).1 hc
theorem reachX_sat (hV : Valid wd hg want keep) (hF : Flow u wd hg want keep) (h : (reachU u wd hg want keep).2.2 = false) {c d : Int} (hc : inP wd hg c) (hx : reachX u wd hg want keep c = true) (hd : 0 ≤ d ∧ d ≤ 3) (ho : outS wd hg (reachX u wd hg want keep) c d = true) : u (c, d) = 1 := by
  obtain ⟨_, _, _, _, r5⟩ := reached (u := u) (keep := keep) hV.B hV.w
  have hcl := (r5 h c hc (of_decide_eq_true hx)).2 d hd.1 (by omega)
  rcases hF.s.b (c, d) with k | k
  · obtain ⟨h1, h2⟩ := hcl (by omega)
    unfold outS at ho
    rw [decide_eq_false (by omega), Bool.false_or] at ho
    have : reachX u wd hg want keep (nbr wd hg c d) = true := decide_eq_true h2
    rw [this] at ho; cases ho
  · exact k
theorem reachX_least (hV : Valid wd hg want keep) (hF : Flow u wd hg want keep) {X : Int → Bool} (hX : enclX want keep X) (he : val u wd hg want = cutX wd hg X) {c : Int} (hc : inP wd hg c) (h : reachX u wd hg want keep c = true) : X c = true := by
  obtain ⟨_, r2, _, _, _⟩ := reached (u := u) (keep := keep) hV.B hV.w
  obtain ⟨k, hkb, hk⟩ := r2 c hc (of_decide_eq_true h)
  clear h hkb
  induction k generalizing c with
  | zero => exact hX.1 c hk.2.1
  | succ k ih =>
    obtain ⟨_, c', d, _, hd, hc', _, hn, hu, hb⟩ := hk
    have hx := ih hc' hb
    cases hxc : X c with
    | true => rfl
    | false =>
      have := tight_cut hV hF hX he hc' hx hd (by unfold outS; rw [hn, hxc]; simp)
      omega

/-! ### The largest one -/
inductive Lost (u : Used) (wd hg : Int) (keep : List Int) : Int → Prop
  | keep {c : Int} (h : c ∈ keep) : Lost u wd hg keep c
  | edge {c d : Int} (hc : inP wd hg c) (hd : 0 ≤ d ∧ d ≤ 3) (hu : u (c, d) < 1) (h : nbr wd hg c d < 0) : Lost u wd hg keep c
  | step {c d : Int} (hc : inP wd hg c) (hd : 0 ≤ d ∧ d ≤ 3) (hu : u (c, d) < 1) (h0 : 0 ≤ nbr wd hg c d) (h : Lost u wd hg keep (nbr wd hg c d)) : Lost u wd hg keep c
theorem lost_out (hV : Valid wd hg want keep) (hF : Flow u wd hg want keep) {X : Int → Bool} (hX : enclX want keep X) (he : val u wd hg want = cutX wd hg X) {c : Int} (h : Lost u wd hg keep c) : X c = false := by
  induction h with
  | keep h => exact hX.2 _ h
  | @edge c d hc hd hu h =>
    cases hx : X c with
    | false => rfl
    | true => have := tight_cut hV hF hX he hc hx hd (by unfold outS; rw [decide_eq_true h]; rfl); omega
  | @step c d hc hd hu h0 h ih =>
    cases hx : X c with
    | false => rfl
    | true => have := tight_cut hV hF hX he hc hx hd (by unfold outS; rw [ih]; simp); omega
/-- What is marked is lost. -/
structure Mkd (u : Used) (wd hg : Int) (keep : List Int) (l : List Int) : Prop where
  len : l.length = (wd * hg).toNat
  bit : ∀ i : Nat, l.getD i 0 = 0 ∨ l.getD i 0 = 1
  kp : ∀ c ∈ keep, l.getD c.toNat 0 = 1
  lost : ∀ c, inP wd hg c → l.getD c.toNat 0 = 1 → Lost u wd hg keep c
theorem getD_setI {l : List Int} {i j : Nat} {v : Int} (h : i < l.length) : (l.set i v).getD j 0 = if j = i then v else l.getD j 0 := by
  rw [List.getD_eq_getElem?_getD, List.getD_eq_getElem?_getD, List.getElem?_set]
  by_cases hj : j = i
  · subst hj; simp [h]
  · rw [if_neg (fun e => hj e.symm), if_neg hj]
theorem Mkd.put {l : List Int} (h : Mkd u wd hg keep l) {c : Int} (hc : inP wd hg c) (hl : Lost u wd hg keep c) : Mkd u wd hg keep (l.set c.toNat 1) := by
  have hlt : c.toNat < l.length := by rw [h.len]; have := hc.1; have := hc.2; omega
  refine ⟨by simp [h.len], fun i => ?_, fun k hk => ?_, fun k hk hk1 => ?_⟩
  · rw [getD_setI hlt]; split
    · exact .inr rfl
    · exact h.bit i
  · rw [getD_setI hlt]; split
    · rfl
    · exact h.kp k hk
  · rw [getD_setI hlt] at hk1
    by_cases e : k.toNat = c.toNat
    · have : k = c := by have := hk.1; have := hc.1; omega
      rw [this]; exact hl
    · rw [if_neg e] at hk1; exact h.lost k hk hk1
/-- What loses a cell in a direction. -/
def losing (u : Used) (wd hg : Int) (l : List Int) (c d : Int) : Prop := l.getD c.toNat 0 = 0 ∧ u (c, d) < 1 ∧ (nbr wd hg c d < 0 ∨ l.getD (nbr wd hg c d).toNat 0 = 1)
theorem loseD_mkd (hB : Board wd hg) {st : List Int × Bool} (h : Mkd u wd hg keep st.1) {c d : Int} (hc : inP wd hg c) (hd : 0 ≤ d ∧ d ≤ 3) : Mkd u wd hg keep (loseD u wd hg c d st).1 := by
  unfold loseD
  split
  · next hl =>
    refine h.put hc ?_
    by_cases h0 : nbr wd hg c d < 0
    · exact .edge hc hd hl.2.1 h0
    · exact .step hc hd hl.2.1 (by omega) (h.lost _ (nbr_in hB hc (by omega)) (hl.2.2.resolve_left h0))
  · exact h
theorem loseD_still {st : List Int × Bool} {c d : Int} (h : (loseD u wd hg c d st).2 = false) : loseD u wd hg c d st = st ∧ ¬ losing u wd hg st.1 c d := by
  unfold loseD at h ⊢
  split at h
  · cases h
  · next hl => rw [if_neg hl]; exact ⟨rfl, hl⟩
theorem loseC_mkd (hB : Board wd hg) {st : List Int × Bool} (h : Mkd u wd hg keep st.1) {c : Int} (hc : inP wd hg c) : Mkd u wd hg keep (loseC u wd hg c st).1 := by
  unfold loseC
  exact loseD_mkd hB (loseD_mkd hB (loseD_mkd hB (loseD_mkd hB h hc (by omega)) hc (by omega)) hc (by omega)) hc (by omega)
theorem loseC_still {st : List Int × Bool} {c : Int} (h : (loseC u wd hg c st).2 = false) : loseC u wd hg c st = st ∧ ∀ d, 0 ≤ d ∧ d ≤ 3 → ¬ losing u wd hg st.1 c d := by
  unfold loseC at h ⊢
  obtain ⟨e3, n3⟩ := loseD_still h
  rw [e3] at h ⊢
  obtain ⟨e2, n2⟩ := loseD_still h
  rw [e2] at h n3 ⊢
  obtain ⟨e1, n1⟩ := loseD_still h
  rw [e1] at h n3 n2 ⊢
  obtain ⟨e0, n0⟩ := loseD_still h
  rw [e0] at n3 n2 n1 ⊢
  refine ⟨rfl, fun d hd => ?_⟩
  rcases dir_cases hd with rfl | rfl | rfl | rfl
  · exact n0
  · exact n1
  · exact n2
  · exact n3
theorem losePass_mkd (hB : Board wd hg) : ∀ (k c : Nat) (st : List Int × Bool), Mkd u wd hg keep st.1 → c + k ≤ (wd * hg).toNat → Mkd u wd hg keep (losePass u wd hg k c st).1
  | 0, _, _, h, _ => h
  | k + 1, c, st, h, hk => by
    unfold losePass
    have := hB.nat
    exact losePass_mkd hB k (c + 1) _ (loseC_mkd hB h ⟨by omega, by omega⟩) (by omega)
theorem losePass_still : ∀ (k c : Nat) (st : List Int × Bool), (losePass u wd hg k c st).2 = false → losePass u wd hg k c st = st ∧ ∀ i : Nat, c ≤ i → i < c + k → ∀ d, 0 ≤ d ∧ d ≤ 3 → ¬ losing u wd hg st.1 (i : Int) d
  | 0, c, st, _ => ⟨rfl, fun i h1 h2 => by omega⟩
  | k + 1, c, st, h => by
    unfold losePass at h ⊢
    obtain ⟨e, hn⟩ := losePass_still k (c + 1) _ h
    rw [e] at h ⊢
    obtain ⟨e2, hn2⟩ := loseC_still h
    rw [e2] at hn ⊢
    refine ⟨rfl, fun i h1 h2 => ?_⟩
    by_cases hi : i = c
    · subst hi; exact hn2
    · exact hn i (by omega) (by omega)
theorem loseF_known (hB : Board wd hg) : ∀ (f : Nat) (l : List Int), Mkd u wd hg keep l → zeros l < f → Mkd u wd hg keep (loseF u wd hg f l) ∧ ∀ c, inP wd hg c → ∀ d, 0 ≤ d ∧ d ≤ 3 → ¬ losing u wd hg (loseF u wd hg f l) c d
  | 0, _, _, h => by omega
  | f + 1, l, hm, h => by
    have hp := losePass_mkd hB (wd * hg).toNat 0 (l, false) hm (by omega)
    have hf := losePass_fewer u wd hg (wd * hg).toNat 0 (l, false) (by simp [hm.len])
    unfold loseF
    by_cases hb : (losePass u wd hg (wd * hg).toNat 0 (l, false)).2 = true
    · rw [if_pos hb]
      refine loseF_known hB f _ hp ?_
      rcases hf.2 hb with k | k
      · cases k
      · simp only at k; omega
    · rw [if_neg hb]
      obtain ⟨e, hn⟩ := losePass_still (wd * hg).toNat 0 (l, false) (by simpa using hb)
      rw [e]
      refine ⟨hm, fun c hc d hd => ?_⟩
      have hN := hB.nat
      have h0 := hc.1
      have h1 := hc.2
      have := hn c.toNat (by omega) (by omega) d hd
      rwa [show ((c.toNat : Nat) : Int) = c by omega] at this
theorem lost0_mkd (hV : Valid wd hg want keep) : Mkd u wd hg keep (lost0 (wd * hg).toNat keep) := by
  have key : ∀ (k : List Int) (s : List Int), (∀ c ∈ k, c ∈ keep) → s.length = (wd * hg).toNat → (∀ i : Nat, s.getD i 0 = 0 ∨ s.getD i 0 = 1) → (∀ c, inP wd hg c → s.getD c.toNat 0 = 1 → Lost u wd hg keep c) →
      (∀ c ∈ keep, c ∈ k ∨ s.getD c.toNat 0 = 1) → Mkd u wd hg keep (k.foldl (fun s c => s.set c.toNat 1) s) := by
    intro k
    induction k with
    | nil => intro s _ h1 h2 h3 h4; exact ⟨h1, h2, fun c hc => (h4 c hc).resolve_left (by simp), h3⟩
    | cons x k ih =>
      intro s h0 h1 h2 h3 h4
      have hxk := h0 x (by simp)
      have hx := hV.kin hxk
      have hlt : x.toNat < s.length := by rw [h1]; have := hx.1; have := hx.2; omega
      rw [List.foldl_cons]
      refine ih _ (fun c hc => h0 c (List.mem_cons_of_mem _ hc)) (by simp [h1]) (fun i => ?_) (fun c hc hc1 => ?_) fun c hc => ?_
      · rw [getD_setI hlt]; split
        · exact .inr rfl
        · exact h2 i
      · rw [getD_setI hlt] at hc1
        by_cases e : c.toNat = x.toNat
        · have : c = x := by have := hc.1; have := hx.1; omega
          rw [this]; exact .keep hxk
        · rw [if_neg e] at hc1; exact h3 c hc hc1
      · rw [getD_setI hlt]
        by_cases e : c.toNat = x.toNat
        · right; rw [if_pos e]
        · rw [if_neg e]
          rcases h4 c hc with k1 | k1
          · rcases List.mem_cons.1 k1 with k2 | k2
            · subst k2; exact absurd rfl e
            · exact .inl k2
          · exact .inr k1
  unfold lost0
  have hz : ∀ i : Nat, (List.replicate (wd * hg).toNat (0 : Int)).getD i 0 = 0 := fun i => by rw [List.getD_eq_getElem?_getD, List.getElem?_replicate]; split <;> rfl
  refine key keep _ (fun c hc => hc) (by simp) (fun i => .inl (hz i)) (fun c _ h => ?_) fun c hc => .inl hc
  rw [hz] at h; cases h
def keptX (u : Used) (wd hg : Int) (keep : List Int) (c : Int) : Bool := decide ((lostL u wd hg keep).getD c.toNat 0 = 0)
theorem lost_known (hV : Valid wd hg want keep) : Mkd u wd hg keep (lostL u wd hg keep) ∧ ∀ c, inP wd hg c → ∀ d, 0 ≤ d ∧ d ≤ 3 → ¬ losing u wd hg (lostL u wd hg keep) c d := by
  unfold lostL
  have hm := lost0_mkd (u := u) hV
  refine loseF_known hV.B _ _ hm ?_
  have := zeros_le (lost0 (wd * hg).toNat keep)
  rw [hm.len] at this
  omega

/-! ### All of it -/
/-- The fewest sticks, the smallest and the largest best water. -/
structure BestW (wd hg : Int) (want keep : List Int) (m : Int) (S L : Int → Bool) : Prop where
  s : enclX want keep S
  l : enclX want keep L
  ms : cutX wd hg S = m
  ml : cutX wd hg L = m
  least : ∀ X, enclX want keep X → m ≤ cutX wd hg X
  lo : ∀ X, enclX want keep X → cutX wd hg X = m → ∀ c, inP wd hg c → S c = true → X c = true
  hi : ∀ X, enclX want keep X → cutX wd hg X = m → ∀ c, inP wd hg c → X c = true → L c = true
theorem best_known (hV : Valid wd hg want keep) : BestW wd hg want keep ((raft wd hg want keep).2 : Int) (fun c => (smallL wd hg want keep).contains c) (fun c => (largeL wd hg want keep).contains c) := by
  obtain ⟨hF, hv, ho⟩ := raft_known hV
  have hn := hV.B.nat
  have hs : ∀ c, inP wd hg c → (smallL wd hg want keep).contains c = reachX (raft wd hg want keep).1 wd hg want keep c := fun c hc => pick_has (reachX (raft wd hg want keep).1 wd hg want keep) (wd * hg).toNat ⟨hc.1, by have := hc.2; omega⟩
  have hl : ∀ c, inP wd hg c → (largeL wd hg want keep).contains c = keptX (raft wd hg want keep).1 wd hg keep c := fun c hc => pick_has (keptX (raft wd hg want keep).1 wd hg keep) (wd * hg).toNat ⟨hc.1, by have := hc.2; omega⟩
  have hr : (reachU (raft wd hg want keep).1 wd hg want keep).2.2 = false := by
    unfold oneU at ho
    revert ho
    generalize reachU (raft wd hg want keep).1 wd hg want keep = T
    obtain ⟨b, l, o⟩ := T
    cases o with
    | false => intro _; rfl
    | true => intro h; simp at h
  generalize (raft wd hg want keep).1 = u at *
  generalize (((raft wd hg want keep).2 : Nat) : Int) = m at *
  have s1 := reachX_encl (u := u) hV hr
  have s2 := sat_cut hV hF s1 fun c d hc hx hd h => reachX_sat hV hF hr hc hx hd h
  obtain ⟨hm, hcl⟩ := lost_known (u := u) hV
  have hk1 : ∀ c, inP wd hg c → keptX u wd hg keep c = false → Lost u wd hg keep c := fun c hc h => by
    refine hm.lost c hc ?_
    have := of_decide_eq_false h
    rcases hm.bit c.toNat with k | k
    · exact absurd k this
    · exact k
  have l1 : enclX want keep (keptX u wd hg keep) := by
    refine ⟨fun c hc => ?_, fun c hc => ?_⟩
    · cases h : keptX u wd hg keep c with
      | true => rfl
      | false =>
        have h1 := lost_out hV hF s1 s2 (hk1 c (hV.win hc) h)
        rw [s1.1 c hc] at h1; cases h1
    · refine decide_eq_false ?_
      rw [hm.kp c hc]; decide
  have l2 := sat_cut hV hF l1 fun c d hc hx hd h => by
    have hx0 := of_decide_eq_true hx
    rcases hF.s.b (c, d) with k | k
    · exfalso
      refine hcl c hc d hd ⟨hx0, by omega, ?_⟩
      unfold outS at h
      by_cases h0 : nbr wd hg c d < 0
      · exact .inl h0
      · right
        rw [decide_eq_false h0, Bool.false_or] at h
        have h1 : keptX u wd hg keep (nbr wd hg c d) = false := by simpa using h
        rcases hm.bit (nbr wd hg c d).toNat with q | q
        · exact absurd q (of_decide_eq_false h1)
        · exact q
    · exact k
  rw [hv] at s2 l2
  have es := cutX_congr hV.B hs
  have el := cutX_congr hV.B hl
  refine ⟨⟨fun c hc => by dsimp only; rw [hs c (hV.win hc)]; exact s1.1 c hc, fun c hc => by dsimp only; rw [hs c (hV.kin hc)]; exact s1.2 c hc⟩, ⟨fun c hc => by dsimp only; rw [hl c (hV.win hc)]; exact l1.1 c hc, fun c hc => by dsimp only; rw [hl c (hV.kin hc)]; exact l1.2 c hc⟩, by rw [es, s2], by rw [el, l2], fun X hX => ?_, fun X hX he c hc h => ?_, fun X hX he c hc h => ?_⟩
  · rw [← hv]; exact weak_cut hV hF hX
  · rw [hs c hc] at h; exact reachX_least hV hF hX (by rw [hv, he]) hc h
  · rw [hl c hc]
    cases h2 : keptX u wd hg keep c with
    | true => rfl
    | false =>
      have := lost_out hV hF hX (by rw [hv, he]) (hk1 c hc h2)
      rw [h] at this; cases this
end
end Go.Proofs.Ytlkoadcbolkhoaa
