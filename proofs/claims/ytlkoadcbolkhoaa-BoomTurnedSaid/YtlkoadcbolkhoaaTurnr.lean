/- A pond turned over: the best water turns with it (plain). -/
import Derived.Test.YtlkoadcbolkhoaaWidp
set_option linter.all false
namespace Go.Proofs.Ytlkoadcbolkhoaa

structure Rot (wd hg wd2 hg2 : Int) (f g sg : Int → Int) : Prop where
  b1 : Board wd hg
  b2 : Board wd2 hg2
  f_in : ∀ {c}, inP wd hg c → inP wd2 hg2 (f c)
  g_in : ∀ {c}, inP wd2 hg2 c → inP wd hg (g c)
  gf : ∀ {c}, inP wd hg c → g (f c) = c
  fg : ∀ {c}, inP wd2 hg2 c → f (g c) = c
  nb : ∀ {c d}, inP wd hg c → 0 ≤ d ∧ d ≤ 3 → nbr wd2 hg2 (f c) (sg d) = if nbr wd hg c d < 0 then -1 else f (nbr wd hg c d)
  ds : ∀ F : Int → Int, dsum (fun d => F (sg d)) = dsum F
section
variable {wd hg wd2 hg2 : Int} {f g sg : Int → Int}
theorem Rot.out (h : Rot wd hg wd2 hg2 f g sg) (X : Int → Bool) {c d : Int} (hc : inP wd hg c) (hd : 0 ≤ d ∧ d ≤ 3) : outS wd2 hg2 (fun c => X (g c)) (f c) (sg d) = outS wd hg X c d := by
  unfold outS
  dsimp only
  rw [h.nb hc hd]
  by_cases hn : nbr wd hg c d < 0
  · rw [if_pos hn, decide_eq_true hn]; rfl
  · have hi := nbr_in h.b1 hc (show 0 ≤ nbr wd hg c d by omega)
    have hf := h.f_in hi
    rw [if_neg hn, h.gf hi, decide_eq_false hn, decide_eq_false (show ¬ f (nbr wd hg c d) < 0 by have := hf.1; omega)]
theorem Rot.cut (h : Rot wd hg wd2 hg2 f g sg) (X : Int → Bool) : cutX wd2 hg2 (fun c => X (g c)) = cutX wd hg X := by
  have hn1 := h.b1.nat
  have hn2 := h.b2.nat
  obtain ⟨F, hF⟩ : ∃ F : Int → Int, (fun c => if X (g c) = true then dsum (fun d => if outS wd2 hg2 (fun c => X (g c)) c d = true then (1 : Int) else 0) else 0) = F := ⟨_, rfl⟩
  have e1 : cutX wd2 hg2 (fun c => X (g c)) = cellS (wd2 * hg2).toNat (fun c => cellS (wd * hg).toNat (fun e => if f e = c then F c else 0)) := by
    unfold cutX
    refine cellS_congr fun c h0 h1 => ?_
    have hc : inP wd2 hg2 c := ⟨h0, by omega⟩
    rw [show (if X (g c) = true then dsum (fun d => if outS wd2 hg2 (fun c => X (g c)) c d = true then (1 : Int) else 0) else 0) = F c by rw [← hF]]
    have he := h.g_in hc
    have he0 := he.1
    have he1 := he.2
    unfold cellS
    rw [sumN_one (k := (g c).toNat) (by omega) fun i hi hik => ?_]
    · rw [show (((g c).toNat : Nat) : Int) = g c by omega]
      dsimp only
      rw [if_pos (h.fg hc)]
    · dsimp only
      rw [if_neg]
      intro k
      have hi2 : inP wd hg (i : Int) := ⟨by omega, by omega⟩
      have := h.gf hi2
      rw [k] at this
      omega
  have e2 : cellS (wd2 * hg2).toNat (fun c => cellS (wd * hg).toNat (fun e => if f e = c then F c else 0)) = cellS (wd * hg).toNat (fun e => cellS (wd2 * hg2).toNat (fun c => if f e = c then F c else 0)) := sumN_swap _ _ _
  rw [e1, e2]
  unfold cutX
  refine cellS_congr fun e h0 h1 => ?_
  have he : inP wd hg e := ⟨h0, by omega⟩
  have ht := h.f_in he
  have ht0 := ht.1
  have ht1 := ht.2
  have e3 : cellS (wd2 * hg2).toNat (fun c => if f e = c then F c else 0) = F (f e) := by
    unfold cellS
    rw [sumN_one (k := (f e).toNat) (by omega) fun i hi hik => by dsimp only; rw [if_neg (by omega)]]
    rw [show (((f e).toNat : Nat) : Int) = f e by omega]
    dsimp only
    rw [if_pos rfl]
  rw [e3, ← hF]
  dsimp only
  rw [h.gf he, ← h.ds]
  split
  · exact dsum_congr fun d hd => by rw [h.out X he hd]
  · rfl
theorem Rot.best (h : Rot wd hg wd2 hg2 f g sg) {want keep want2 keep2 : List Int} {m : Int} {S L : Int → Bool} (hw : ∀ c ∈ want, inP wd hg c) (hk : ∀ c ∈ keep, inP wd hg c)
    (hw2 : ∀ x, x ∈ want2 ↔ ∃ c ∈ want, f c = x) (hk2 : ∀ x, x ∈ keep2 ↔ ∃ c ∈ keep, f c = x) (hb : BestW wd hg want keep m S L) : BestW wd2 hg2 want2 keep2 m (fun c => S (g c)) (fun c => L (g c)) := by
  have enc : ∀ X : Int → Bool, enclX want keep X → enclX want2 keep2 fun c => X (g c) := fun X hX => by
    refine ⟨fun x hx => ?_, fun x hx => ?_⟩
    · obtain ⟨c, hc, rfl⟩ := (hw2 x).1 hx
      dsimp only
      rw [h.gf (hw c hc)]; exact hX.1 c hc
    · obtain ⟨c, hc, rfl⟩ := (hk2 x).1 hx
      dsimp only
      rw [h.gf (hk c hc)]; exact hX.2 c hc
  have enb : ∀ X : Int → Bool, enclX want2 keep2 X → enclX want keep fun c => X (f c) := fun X hX => ⟨fun c hc => hX.1 _ ((hw2 _).2 ⟨c, hc, rfl⟩), fun c hc => hX.2 _ ((hk2 _).2 ⟨c, hc, rfl⟩)⟩
  have cb : ∀ X : Int → Bool, cutX wd2 hg2 X = cutX wd hg fun c => X (f c) := fun X => by
    rw [← h.cut fun c => X (f c)]
    exact cutX_congr h.b2 fun c hc => by rw [h.fg hc]
  refine ⟨enc _ hb.s, enc _ hb.l, ?_, ?_, fun X hX => ?_, fun X hX ht c hc hs => ?_, fun X hX ht c hc hx => ?_⟩
  · rw [h.cut]; exact hb.ms
  · rw [h.cut]; exact hb.ml
  · rw [cb]; exact hb.least _ (enb X hX)
  · have := hb.lo _ (enb X hX) (by rw [← cb]; exact ht) (g c) (h.g_in hc) hs
    rwa [h.fg hc] at this
  · exact hb.hi _ (enb X hX) (by rw [← cb]; exact ht) (g c) (h.g_in hc) (by rw [h.fg hc]; exact hx)
theorem BestW.uniq {want keep : List Int} {m m2 : Int} {S L S2 L2 : Int → Bool} (h : BestW wd hg want keep m S L) (h2 : BestW wd hg want keep m2 S2 L2) : m = m2 ∧ ∀ c, inP wd hg c → S c = S2 c ∧ L c = L2 c := by
  have e : m = m2 := by
    have a := h.least _ h2.s
    have b := h2.least _ h.s
    rw [h2.ms] at a
    rw [h.ms] at b
    omega
  subst e
  refine ⟨rfl, fun c hc => ⟨?_, ?_⟩⟩
  · exact Bool.eq_iff_iff.2 ⟨h.lo _ h2.s h2.ms c hc, h2.lo _ h.s h.ms c hc⟩
  · exact Bool.eq_iff_iff.2 ⟨h2.hi _ h.l h.ml c hc, h.hi _ h2.l h2.ml c hc⟩
/-- The numbers turned, each put in its place. -/
def turnF (f : Int → Int) (o : List Int) : List Int → List Int
  | [] => o
  | c :: l => turnF f (withL o (f c)) l
theorem turnF_mem : ∀ (l o : List Int) (x : Int), x ∈ turnF f o l ↔ x ∈ o ∨ ∃ c ∈ l, f c = x
  | [], o, x => by simp [turnF]
  | c :: l, o, x => by
    rw [turnF, turnF_mem l, with_mem]
    constructor
    · rintro ((rfl | h) | ⟨e, he, rfl⟩)
      · exact .inr ⟨c, by simp, rfl⟩
      · exact .inl h
      · exact .inr ⟨e, by simp [he], rfl⟩
    · rintro (h | ⟨e, he, rfl⟩)
      · exact .inl (.inr h)
      · rcases List.mem_cons.1 he with rfl | he
        · exact .inl (.inl rfl)
        · exact .inr ⟨e, he, rfl⟩
theorem Rot.list (h : Rot wd hg wd2 hg2 f g sg) : ∀ (l o : List Int) (k : Int), 0 ≤ k → listB (wd * hg) k l = true → listB (wd2 * hg2) 0 o = true → (∀ c ∈ l, f c ∉ o) → listB (wd2 * hg2) 0 (turnF f o l) = true
  | [], o, _, _, _, ho, _ => ho
  | c :: l, o, k, h0, hl, ho, hn => by
    simp only [listB, Bool.and_eq_true, decide_eq_true_eq] at hl
    have hc : inP wd hg c := ⟨by omega, by omega⟩
    have hf := h.f_in hc
    rw [turnF]
    refine h.list l _ (c + 1) (by omega) hl.2 (with_list ho hf.1 hf.2 (hn c (by simp))) fun e he hm => ?_
    have hei := listB_in hl.2 e he
    rcases (with_mem _ _).1 hm with k2 | k2
    · have := h.gf (show inP wd hg e from ⟨by omega, hei.2⟩)
      rw [k2, h.gf hc] at this
      omega
    · exact hn e (by simp [he]) k2
theorem turnF_len : ∀ (l o : List Int), (turnF f o l).length ≤ o.length + l.length
  | [], o => by simp [turnF]
  | c :: l, o => by
    have h1 := turnF_len l (withL o (f c))
    have h2 := withF_len (f c) false o
    rw [turnF]
    unfold withL at h1 ⊢
    simp only [List.length_cons]
    omega
theorem same_list {N : Int} {a b : List Int} (ha : listB N 0 a = true) (hb : listB N 0 b = true) (h : ∀ x, 0 ≤ x ∧ x < N → a.contains x = b.contains x) : a = b := by
  rw [list_pick ha, list_pick hb]
  unfold pickC
  refine List.filter_congr fun x hx => ?_
  obtain ⟨i, hi, rfl⟩ := List.mem_map.1 hx
  have : i < N.toNat := by simpa using hi
  exact h _ ⟨by omega, by omega⟩
theorem Rot.known (h : Rot wd hg wd2 hg2 f g sg) {want keep : List Int} (hp : pondE wd hg want keep = 0) :
    pondE wd2 hg2 (turnF f [] want) (turnF f [] keep) = 0 ∧ (raft wd2 hg2 (turnF f [] want) (turnF f [] keep)).2 = (raft wd hg want keep).2 ∧
    turnF f [] (smallL wd hg want keep) = smallL wd2 hg2 (turnF f [] want) (turnF f [] keep) ∧ turnF f [] (largeL wd hg want keep) = largeL wd2 hg2 (turnF f [] want) (turnF f [] keep) := by
  have hV := pond_valid hp
  have mm : ∀ (l : List Int) x, x ∈ turnF f [] l ↔ ∃ c ∈ l, f c = x := fun l x => by rw [turnF_mem]; simp
  have ll : ∀ l : List Int, listB (wd * hg) 0 l = true → listB (wd2 * hg2) 0 (turnF f [] l) = true := fun l hl => h.list l [] 0 (by omega) hl rfl (by simp)
  have hp2 : pondE wd2 hg2 (turnF f [] want) (turnF f [] keep) = 0 := pond_of h.b2 (ll _ hV.w) (ll _ hV.k) fun x hx hk => by
    obtain ⟨c, hc, rfl⟩ := (mm _ _).1 hx
    obtain ⟨e, he, hfe⟩ := (mm _ _).1 hk
    have a1 := h.gf (hV.win hc)
    have a2 := h.gf (hV.kin he)
    rw [hfe, a1] at a2
    subst a2
    exact hV.d _ hc he
  have hV2 := pond_valid hp2
  have hb2 := h.best (fun c hc => hV.win hc) (fun c hc => hV.kin hc) (mm want) (mm keep) (best_known hV)
  obtain ⟨e1, e2⟩ := BestW.uniq (best_known hV2) hb2
  have tc : ∀ l : List Int, listB (wd * hg) 0 l = true → ∀ x, inP wd2 hg2 x → (turnF f [] l).contains x = l.contains (g x) := fun l hl x hx => by
    refine Bool.eq_iff_iff.2 ?_
    rw [List.contains_iff_mem, List.contains_iff_mem, mm]
    constructor
    · rintro ⟨c, hc, rfl⟩
      rw [h.gf ⟨(listB_in hl c hc).1, (listB_in hl c hc).2⟩]; exact hc
    · exact fun hg => ⟨_, hg, h.fg hx⟩
  refine ⟨hp2, by omega, same_list (ll _ (small_list hV)) (small_list hV2) fun x hx => ?_, same_list (ll _ (large_list hV)) (large_list hV2) fun x hx => ?_⟩
  · rw [tc _ (small_list hV) x hx]; exact (e2 x hx).1.symm
  · rw [tc _ (large_list hV) x hx]; exact (e2 x hx).2.symm
/-- Where a cell comes to lie. -/
def mirC (wd c : Int) : Int := c / wd * wd + (wd - 1 - c % wd)
def acrC (wd hg c : Int) : Int := c % wd * hg + c / wd
def mirD (d : Int) : Int := if d = 0 then 2 else if d = 2 then 0 else d
def acrD (d : Int) : Int := if d = 0 then 1 else if d = 1 then 0 else if d = 2 then 3 else 2
theorem mir_at {x y : Int} (hx : 0 ≤ x ∧ x < wd) : mirC wd (y * wd + x) = y * wd + (wd - 1 - x) := by
  unfold mirC
  rw [(cell_parts hx).1, (cell_parts hx).2]
theorem acr_at {x y : Int} (hx : 0 ≤ x ∧ x < wd) : acrC wd hg (y * wd + x) = x * hg + y := by
  unfold acrC
  rw [(cell_parts hx).1, (cell_parts hx).2]
theorem not_neg {a b w : Int} (ha : 0 ≤ a) (hb : 0 ≤ b) (hw : 1 ≤ w) : ¬ b * w + a < 0 := by have := Int.mul_nonneg hb (show 0 ≤ w by omega); omega
theorem mir_rot (hB : Board wd hg) : Rot wd hg wd hg (mirC wd) (mirC wd) mirD := by
  have inn : ∀ {c}, inP wd hg c → inP wd hg (mirC wd c) := fun {c} hc => by
    obtain ⟨x, y, rfl, h1, h2, h3, h4, _, _⟩ := split_cell hB.w.1 hc
    rw [mir_at ⟨h1, h2⟩]
    exact cell_rng ⟨by omega, by omega⟩ ⟨h3, h4⟩
  have inv : ∀ {c}, inP wd hg c → mirC wd (mirC wd c) = c := fun {c} hc => by
    obtain ⟨x, y, rfl, h1, h2, h3, h4, _, _⟩ := split_cell hB.w.1 hc
    rw [mir_at ⟨h1, h2⟩, mir_at ⟨by omega, by omega⟩]
    omega
  refine ⟨hB, hB, inn, inn, inv, inv, fun {c d} hc hd => ?_, fun F => by unfold dsum; simp [mirD]; omega⟩
  obtain ⟨x, y, rfl, h1, h2, h3, h4, _, _⟩ := split_cell hB.w.1 hc
  rw [mir_at ⟨h1, h2⟩]
  have b1 := hB.w.1
  rcases dir_cases hd with rfl | rfl | rfl | rfl
  · rw [show mirD 0 = 2 from rfl, nbr_W ⟨by omega, by omega⟩, nbr_E ⟨h1, h2⟩]
    by_cases k : x + 1 < wd
    · rw [if_pos (show 0 < wd - 1 - x by omega), if_pos k, if_neg (not_neg (by omega) h3 b1), mir_at ⟨by omega, k⟩]; omega
    · rw [if_neg (show ¬ 0 < wd - 1 - x by omega), if_neg k, if_pos (by decide)]
  · rw [show mirD 1 = 1 from rfl, nbr_N ⟨by omega, by omega⟩, nbr_N ⟨h1, h2⟩]
    by_cases k : y + 1 < hg
    · rw [if_pos k, if_pos k, if_neg (not_neg h1 (by omega) b1), mir_at ⟨h1, h2⟩]
    · rw [if_neg k, if_neg k, if_pos (by decide)]
  · rw [show mirD 2 = 0 from rfl, nbr_E ⟨by omega, by omega⟩, nbr_W ⟨h1, h2⟩]
    by_cases k : 0 < x
    · rw [if_pos (show wd - 1 - x + 1 < wd by omega), if_pos k, if_neg (not_neg (by omega) h3 b1), mir_at ⟨by omega, by omega⟩]; omega
    · rw [if_neg (show ¬ wd - 1 - x + 1 < wd by omega), if_neg k, if_pos (by decide)]
  · rw [show mirD 3 = 3 from rfl, nbr_S ⟨by omega, by omega⟩, nbr_S ⟨h1, h2⟩]
    by_cases k : 0 < y
    · rw [if_pos k, if_pos k, if_neg (not_neg h1 (by omega) b1), mir_at ⟨h1, h2⟩]
    · rw [if_neg k, if_neg k, if_pos (by decide)]
theorem acr_in (hB : Board wd hg) {c : Int} (hc : inP wd hg c) : inP hg wd (acrC wd hg c) := by
  obtain ⟨x, y, rfl, h1, h2, h3, h4, _, _⟩ := split_cell hB.w.1 hc
  rw [acr_at ⟨h1, h2⟩]
  exact cell_rng ⟨h3, h4⟩ ⟨h1, h2⟩
theorem acr_inv (hB : Board wd hg) {c : Int} (hc : inP wd hg c) : acrC hg wd (acrC wd hg c) = c := by
  obtain ⟨x, y, rfl, h1, h2, h3, h4, _, _⟩ := split_cell hB.w.1 hc
  rw [acr_at ⟨h1, h2⟩, acr_at ⟨h3, h4⟩]
theorem acr_rot (hB : Board wd hg) : Rot wd hg hg wd (acrC wd hg) (acrC hg wd) acrD := by
  have hB2 : Board hg wd := ⟨hB.h, hB.w⟩
  refine ⟨hB, hB2, acr_in hB, acr_in hB2, acr_inv hB, acr_inv hB2, fun {c d} hc hd => ?_, fun F => by unfold dsum; simp [acrD]; omega⟩
  obtain ⟨x, y, rfl, h1, h2, h3, h4, _, _⟩ := split_cell hB.w.1 hc
  rw [acr_at ⟨h1, h2⟩]
  have b1 := hB.w.1
  rcases dir_cases hd with rfl | rfl | rfl | rfl
  · rw [show acrD 0 = 1 from rfl, nbr_N ⟨h3, h4⟩, nbr_E ⟨h1, h2⟩]
    by_cases k : x + 1 < wd
    · rw [if_pos k, if_pos k, if_neg (not_neg (by omega) h3 b1), acr_at ⟨by omega, k⟩]
    · rw [if_neg k, if_neg k, if_pos (by decide)]
  · rw [show acrD 1 = 0 from rfl, nbr_E ⟨h3, h4⟩, nbr_N ⟨h1, h2⟩]
    by_cases k : y + 1 < hg
    · rw [if_pos k, if_pos k, if_neg (not_neg h1 (by omega) b1), acr_at ⟨h1, h2⟩]
    · rw [if_neg k, if_neg k, if_pos (by decide)]
  · rw [show acrD 2 = 3 from rfl, nbr_S ⟨h3, h4⟩, nbr_W ⟨h1, h2⟩]
    by_cases k : 0 < x
    · rw [if_pos k, if_pos k, if_neg (not_neg (by omega) h3 b1), acr_at ⟨by omega, by omega⟩]
    · rw [if_neg k, if_neg k, if_pos (by decide)]
  · rw [show acrD 3 = 2 from rfl, nbr_W ⟨h3, h4⟩, nbr_S ⟨h1, h2⟩]
    by_cases k : 0 < y
    · rw [if_pos k, if_pos k, if_neg (not_neg h1 (by omega) b1), acr_at ⟨h1, h2⟩]
    · rw [if_neg k, if_neg k, if_pos (by decide)]
end
/-- What the program computes for a cell. -/
def rhoC (a : Bool) (wd hg c : Int) : Int := if a = true then acrC wd hg c else mirC wd c
theorem rho_known (a : Bool) {wd hg : Int} {want keep : List Int} (hp : pondE wd hg want keep = 0) :
    pondE (if a = true then hg else wd) (if a = true then wd else hg) (turnF (rhoC a wd hg) [] want) (turnF (rhoC a wd hg) [] keep) = 0 ∧
    (raft (if a = true then hg else wd) (if a = true then wd else hg) (turnF (rhoC a wd hg) [] want) (turnF (rhoC a wd hg) [] keep)).2 = (raft wd hg want keep).2 ∧
    turnF (rhoC a wd hg) [] (smallL wd hg want keep) = smallL (if a = true then hg else wd) (if a = true then wd else hg) (turnF (rhoC a wd hg) [] want) (turnF (rhoC a wd hg) [] keep) ∧
    turnF (rhoC a wd hg) [] (largeL wd hg want keep) = largeL (if a = true then hg else wd) (if a = true then wd else hg) (turnF (rhoC a wd hg) [] want) (turnF (rhoC a wd hg) [] keep) := by
  have hV := pond_valid hp
  cases a with
  | true =>
    have e : rhoC true wd hg = acrC wd hg := funext fun c => rfl
    rw [e]
    exact (acr_rot hV.B).known hp
  | false =>
    have e : rhoC false wd hg = mirC wd := funext fun c => rfl
    rw [e]
    exact (mir_rot hV.B).known hp
end Go.Proofs.Ytlkoadcbolkhoaa
