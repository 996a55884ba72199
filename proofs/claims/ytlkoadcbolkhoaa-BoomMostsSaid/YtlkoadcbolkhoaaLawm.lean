/- BoomMosts: the law's walk. -/
import Derived.Test.YtlkoadcbolkhoaaRmost
import Derived.Test.YtlkoadcbolkhoaaFacts
set_option linter.all false
namespace Go.Proofs.Ytlkoadcbolkhoaa
open Go Go.RowKit Go.Proofs
attribute [local go_sem] cell_grow frozen_grow

set_option maxRecDepth 100000 in
set_option maxHeartbeats 8000000 in
theorem boomMosts_any (sticks wide high : Int) (w : World) (h0 : -9223372036854775808 ≤ sticks ∧ sticks ≤ 9223372036854775807) (_ : -9223372036854775808 ≤ wide ∧ wide ≤ 9223372036854775807) (_ : -9223372036854775808 ≤ high ∧ high ≤ 9223372036854775807) :
    Calls Try.prog 7 #[.int .i64 sticks, .int .i64 wide, .int .i64 high] w fun e w' => e = .returned (.bool true) ∧ Below w.heap.size w w' := by
  have h1 := most_any sticks wide high w h0
  have hs := most_same sticks wide high
  have h2 := fun w => rmost_any sticks wide high w
  obtain ⟨a, ha⟩ : ∃ a, (mostB sticks wide high).1 * (mostB sticks wide high).2 = a := ⟨_, rfl⟩
  obtain ⟨b, hb⟩ : ∃ a, (mostB sticks wide high).1 = a := ⟨_, rfl⟩
  obtain ⟨c, hc⟩ : ∃ a, (mostB sticks wide high).2 = a := ⟨_, rfl⟩
  obtain ⟨E, hE⟩ : ∃ a, mostE sticks wide high = a := ⟨_, rfl⟩
  rw [hs] at h2
  simp only at h2
  rw [ha, hb, hc, hE] at h1 h2
  have H2 := Lib.hid h2
  have t1 : (a == a) = true := by simp
  have t2 : (b == b) = true := by simp
  have t3 : (c == c) = true := by simp
  have t4 : (E == E) = true := by simp
  clear h2 hs ha hb hc hE h0
  go_enter Try.func7, Try.ntmps7
  go_wp2_with fail
  refine h1.mono ?_
  rintro e w1 ⟨rfl, hb1⟩
  have HB1 := hid hb1
  have h2 := H2.out w1
  clear h1 hb1
  go_wp2_with fail
  refine h2.mono ?_
  rintro e w2 ⟨rfl, hb2⟩
  have HB2 := hid (bl_trans HB1.out hb2)
  have hworks := works_any w2
  clear h2 hb2
  go_wp2_with fail
  refine hworks.mono ?_
  rintro e w3 ⟨rfl, hb3⟩
  clear hworks
  go_wp2
  go_ret
  exact ⟨rfl, bl_trans HB2.out hb3⟩
end Go.Proofs.Ytlkoadcbolkhoaa
