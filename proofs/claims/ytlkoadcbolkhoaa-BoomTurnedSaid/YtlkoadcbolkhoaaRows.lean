/-
  No cell of these rows narrows 'for every input' (looked for: loops, veiled, ifaces, maps, wideKeys, modest, calm, conditions, laid).
  DERIVED. THE GIVEN ROWS OF THIS SEAT. 14 by the template 'for every input the law returns true; each argument reads behind the call as it read before'; 0 by the template 'total and deterministic' (their statements: YtlkoadcbolkhoaaTotals.lean).
  GIVEN WITH THE SEED: the statements are not yours to turn. If you find one false, say at which input.
  Laid BY PROGRAM, IN A SANDBOX (cutbox-rows.mjs): the forced cells as the released guide's own fill.sh prints them over the translation 0f0554380fc6a2f0… (all of the seat's roots in one cut). By AI agents, Wed Nov 11 2026. No macro, syntax, notation, axiom, sorry.
-/
import Derived.Test.YtlkoadcbolkhoaaChecked
import GoSem.Claim
import GoSem.ClaimJoined
import GoSem.ClaimMapViews
import Derived.JoinedTies
import Derived.KernelRfl
namespace Go.Proofs.Ytlkoadcbolkhoaa
/- THE CELL 'sum', in the pinned program and in every row, IS THE sha256 OF THE DUMP (.gsa) THAT YtlkoadcbolkhoaaProg.lean LOADS. Nothing in Lean hashes anything: it is a label: what it is worth is what the hold of that sum in a sandbox is worth. -/
noncomputable def Try.pinned : Pinned := { name := "ytlkoadcbolkhoaa", sum := "0f0554380fc6a2f08a0a51c86a7906867c528aa9acc6d61a655406621bcd6386", checked := Try.checked }
namespace Rows
def none {H : Type} : Left H := { results := [], args := [] }

/-- 'peaveylaw04.BoomPonds': WHATEVER THE INPUT: true; the input reads as it did. -/
def boomPondsSpec : ChangeSpec := { name := "boomPonds", fn := fun _ => fun
  | [d1, d2] => { results := [.lit (.bool true)], args := [d1, d2] }
  | _ => none }
def boomPondsRow : OpenClaim := { program := "ytlkoadcbolkhoaa", sum := "0f0554380fc6a2f08a0a51c86a7906867c528aa9acc6d61a655406621bcd6386", func := "peavey/peaveylaw04.BoomPonds", spec := "boomPonds", unfollowed := true, recurses := true, plainKeys := false, apart := false }
def BoomPondsSaid : Prop := boomPondsRow.holds Try.pinned (OpenSpec.ofChange boomPondsSpec)

/-- ITS FALSE NEIGHBOUR: 'it returns false'. Refute it at one input. -/
def boomPondsWrong : ChangeSpec := { name := "boomPonds", fn := fun _ => fun
  | [d1, d2] => { results := [.lit (.bool false)], args := [d1, d2] }
  | _ => none }
def BoomPondsWrongFalsely : Prop := boomPondsRow.holds Try.pinned (OpenSpec.ofChange boomPondsWrong)

/-- 'peaveylaw04.BoomBests': WHATEVER THE INPUT: true; the input reads as it did. -/
def boomBestsSpec : ChangeSpec := { name := "boomBests", fn := fun _ => fun
  | [d1, d2] => { results := [.lit (.bool true)], args := [d1, d2] }
  | _ => none }
def boomBestsRow : OpenClaim := { program := "ytlkoadcbolkhoaa", sum := "0f0554380fc6a2f08a0a51c86a7906867c528aa9acc6d61a655406621bcd6386", func := "peavey/peaveylaw04.BoomBests", spec := "boomBests", unfollowed := true, recurses := true, plainKeys := false, apart := false }
def BoomBestsSaid : Prop := boomBestsRow.holds Try.pinned (OpenSpec.ofChange boomBestsSpec)

/-- ITS FALSE NEIGHBOUR: 'it returns false'. Refute it at one input. -/
def boomBestsWrong : ChangeSpec := { name := "boomBests", fn := fun _ => fun
  | [d1, d2] => { results := [.lit (.bool false)], args := [d1, d2] }
  | _ => none }
def BoomBestsWrongFalsely : Prop := boomBestsRow.holds Try.pinned (OpenSpec.ofChange boomBestsWrong)

/-- 'peaveylaw04.BoomWays': WHATEVER THE INPUT: true; the input reads as it did. -/
def boomWaysSpec : ChangeSpec := { name := "boomWays", fn := fun _ => fun
  | [d1, d2] => { results := [.lit (.bool true)], args := [d1, d2] }
  | _ => none }
def boomWaysRow : OpenClaim := { program := "ytlkoadcbolkhoaa", sum := "0f0554380fc6a2f08a0a51c86a7906867c528aa9acc6d61a655406621bcd6386", func := "peavey/peaveylaw04.BoomWays", spec := "boomWays", unfollowed := true, recurses := true, plainKeys := false, apart := false }
def BoomWaysSaid : Prop := boomWaysRow.holds Try.pinned (OpenSpec.ofChange boomWaysSpec)

/-- ITS FALSE NEIGHBOUR: 'it returns false'. Refute it at one input. -/
def boomWaysWrong : ChangeSpec := { name := "boomWays", fn := fun _ => fun
  | [d1, d2] => { results := [.lit (.bool false)], args := [d1, d2] }
  | _ => none }
def BoomWaysWrongFalsely : Prop := boomWaysRow.holds Try.pinned (OpenSpec.ofChange boomWaysWrong)

/-- 'peaveylaw04.BoomChains': WHATEVER THE INPUT: true; the input reads as it did. -/
def boomChainsSpec : ChangeSpec := { name := "boomChains", fn := fun _ => fun
  | [d] => { results := [.lit (.bool true)], args := [d] }
  | _ => none }
def boomChainsRow : OpenClaim := { program := "ytlkoadcbolkhoaa", sum := "0f0554380fc6a2f08a0a51c86a7906867c528aa9acc6d61a655406621bcd6386", func := "peavey/peaveylaw04.BoomChains", spec := "boomChains", unfollowed := true, recurses := true, plainKeys := false, apart := false }
def BoomChainsSaid : Prop := boomChainsRow.holds Try.pinned (OpenSpec.ofChange boomChainsSpec)

/-- ITS FALSE NEIGHBOUR: 'it returns false'. Refute it at one input. -/
def boomChainsWrong : ChangeSpec := { name := "boomChains", fn := fun _ => fun
  | [d] => { results := [.lit (.bool false)], args := [d] }
  | _ => none }
def BoomChainsWrongFalsely : Prop := boomChainsRow.holds Try.pinned (OpenSpec.ofChange boomChainsWrong)

/-- 'peaveylaw04.BoomMosts': WHATEVER THE INPUT: true; the input reads as it did. -/
def boomMostsSpec : ChangeSpec := { name := "boomMosts", fn := fun _ => fun
  | [d1, d2, d3] => { results := [.lit (.bool true)], args := [d1, d2, d3] }
  | _ => none }
def boomMostsRow : OpenClaim := { program := "ytlkoadcbolkhoaa", sum := "0f0554380fc6a2f08a0a51c86a7906867c528aa9acc6d61a655406621bcd6386", func := "peavey/peaveylaw04.BoomMosts", spec := "boomMosts", unfollowed := true, recurses := true, plainKeys := false, apart := false }
def BoomMostsSaid : Prop := boomMostsRow.holds Try.pinned (OpenSpec.ofChange boomMostsSpec)

/-- ITS FALSE NEIGHBOUR: 'it returns false'. Refute it at one input. -/
def boomMostsWrong : ChangeSpec := { name := "boomMosts", fn := fun _ => fun
  | [d1, d2, d3] => { results := [.lit (.bool false)], args := [d1, d2, d3] }
  | _ => none }
def BoomMostsWrongFalsely : Prop := boomMostsRow.holds Try.pinned (OpenSpec.ofChange boomMostsWrong)

/-- 'peaveylaw04.BoomProved': WHATEVER THE INPUT: true; the input reads as it did. -/
def boomProvedSpec : ChangeSpec := { name := "boomProved", fn := fun _ => fun
  | [d1, d2, d3] => { results := [.lit (.bool true)], args := [d1, d2, d3] }
  | _ => none }
def boomProvedRow : OpenClaim := { program := "ytlkoadcbolkhoaa", sum := "0f0554380fc6a2f08a0a51c86a7906867c528aa9acc6d61a655406621bcd6386", func := "peavey/peaveylaw04.BoomProved", spec := "boomProved", unfollowed := true, recurses := true, plainKeys := false, apart := false }
def BoomProvedSaid : Prop := boomProvedRow.holds Try.pinned (OpenSpec.ofChange boomProvedSpec)

/-- ITS FALSE NEIGHBOUR: 'it returns false'. Refute it at one input. -/
def boomProvedWrong : ChangeSpec := { name := "boomProved", fn := fun _ => fun
  | [d1, d2, d3] => { results := [.lit (.bool false)], args := [d1, d2, d3] }
  | _ => none }
def BoomProvedWrongFalsely : Prop := boomProvedRow.holds Try.pinned (OpenSpec.ofChange boomProvedWrong)

/-- 'peaveylaw04.BoomBetween': WHATEVER THE INPUT: true; the input reads as it did. -/
def boomBetweenSpec : ChangeSpec := { name := "boomBetween", fn := fun _ => fun
  | [d1, d2, d3] => { results := [.lit (.bool true)], args := [d1, d2, d3] }
  | _ => none }
def boomBetweenRow : OpenClaim := { program := "ytlkoadcbolkhoaa", sum := "0f0554380fc6a2f08a0a51c86a7906867c528aa9acc6d61a655406621bcd6386", func := "peavey/peaveylaw04.BoomBetween", spec := "boomBetween", unfollowed := true, recurses := true, plainKeys := false, apart := false }
def BoomBetweenSaid : Prop := boomBetweenRow.holds Try.pinned (OpenSpec.ofChange boomBetweenSpec)

/-- ITS FALSE NEIGHBOUR: 'it returns false'. Refute it at one input. -/
def boomBetweenWrong : ChangeSpec := { name := "boomBetween", fn := fun _ => fun
  | [d1, d2, d3] => { results := [.lit (.bool false)], args := [d1, d2, d3] }
  | _ => none }
def BoomBetweenWrongFalsely : Prop := boomBetweenRow.holds Try.pinned (OpenSpec.ofChange boomBetweenWrong)

/-- 'peaveylaw04.BoomMore': WHATEVER THE INPUT: true; the input reads as it did. -/
def boomMoreSpec : ChangeSpec := { name := "boomMore", fn := fun _ => fun
  | [d1, d2] => { results := [.lit (.bool true)], args := [d1, d2] }
  | _ => none }
def boomMoreRow : OpenClaim := { program := "ytlkoadcbolkhoaa", sum := "0f0554380fc6a2f08a0a51c86a7906867c528aa9acc6d61a655406621bcd6386", func := "peavey/peaveylaw04.BoomMore", spec := "boomMore", unfollowed := true, recurses := true, plainKeys := false, apart := false }
def BoomMoreSaid : Prop := boomMoreRow.holds Try.pinned (OpenSpec.ofChange boomMoreSpec)

/-- ITS FALSE NEIGHBOUR: 'it returns false'. Refute it at one input. -/
def boomMoreWrong : ChangeSpec := { name := "boomMore", fn := fun _ => fun
  | [d1, d2] => { results := [.lit (.bool false)], args := [d1, d2] }
  | _ => none }
def BoomMoreWrongFalsely : Prop := boomMoreRow.holds Try.pinned (OpenSpec.ofChange boomMoreWrong)

/-- 'peaveylaw04.BoomTogether': WHATEVER THE INPUT: true; the input reads as it did. -/
def boomTogetherSpec : ChangeSpec := { name := "boomTogether", fn := fun _ => fun
  | [d1, d2, d3, d4] => { results := [.lit (.bool true)], args := [d1, d2, d3, d4] }
  | _ => none }
def boomTogetherRow : OpenClaim := { program := "ytlkoadcbolkhoaa", sum := "0f0554380fc6a2f08a0a51c86a7906867c528aa9acc6d61a655406621bcd6386", func := "peavey/peaveylaw04.BoomTogether", spec := "boomTogether", unfollowed := true, recurses := true, plainKeys := false, apart := false }
def BoomTogetherSaid : Prop := boomTogetherRow.holds Try.pinned (OpenSpec.ofChange boomTogetherSpec)

/-- ITS FALSE NEIGHBOUR: 'it returns false'. Refute it at one input. -/
def boomTogetherWrong : ChangeSpec := { name := "boomTogether", fn := fun _ => fun
  | [d1, d2, d3, d4] => { results := [.lit (.bool false)], args := [d1, d2, d3, d4] }
  | _ => none }
def BoomTogetherWrongFalsely : Prop := boomTogetherRow.holds Try.pinned (OpenSpec.ofChange boomTogetherWrong)

/-- 'peaveylaw04.BoomTurned': WHATEVER THE INPUT: true; the input reads as it did. -/
def boomTurnedSpec : ChangeSpec := { name := "boomTurned", fn := fun _ => fun
  | [d1, d2] => { results := [.lit (.bool true)], args := [d1, d2] }
  | _ => none }
def boomTurnedRow : OpenClaim := { program := "ytlkoadcbolkhoaa", sum := "0f0554380fc6a2f08a0a51c86a7906867c528aa9acc6d61a655406621bcd6386", func := "peavey/peaveylaw04.BoomTurned", spec := "boomTurned", unfollowed := true, recurses := true, plainKeys := false, apart := false }
def BoomTurnedSaid : Prop := boomTurnedRow.holds Try.pinned (OpenSpec.ofChange boomTurnedSpec)

/-- ITS FALSE NEIGHBOUR: 'it returns false'. Refute it at one input. -/
def boomTurnedWrong : ChangeSpec := { name := "boomTurned", fn := fun _ => fun
  | [d1, d2] => { results := [.lit (.bool false)], args := [d1, d2] }
  | _ => none }
def BoomTurnedWrongFalsely : Prop := boomTurnedRow.holds Try.pinned (OpenSpec.ofChange boomTurnedWrong)

/-- 'peaveylaw04.BoomChained': WHATEVER THE INPUT: true; the input reads as it did. -/
def boomChainedSpec : ChangeSpec := { name := "boomChained", fn := fun _ => fun
  | [d1, d2, d3] => { results := [.lit (.bool true)], args := [d1, d2, d3] }
  | _ => none }
def boomChainedRow : OpenClaim := { program := "ytlkoadcbolkhoaa", sum := "0f0554380fc6a2f08a0a51c86a7906867c528aa9acc6d61a655406621bcd6386", func := "peavey/peaveylaw04.BoomChained", spec := "boomChained", unfollowed := true, recurses := true, plainKeys := false, apart := false }
def BoomChainedSaid : Prop := boomChainedRow.holds Try.pinned (OpenSpec.ofChange boomChainedSpec)

/-- ITS FALSE NEIGHBOUR: 'it returns false'. Refute it at one input. -/
def boomChainedWrong : ChangeSpec := { name := "boomChained", fn := fun _ => fun
  | [d1, d2, d3] => { results := [.lit (.bool false)], args := [d1, d2, d3] }
  | _ => none }
def BoomChainedWrongFalsely : Prop := boomChainedRow.holds Try.pinned (OpenSpec.ofChange boomChainedWrong)

/-- 'peaveylaw04.BoomBoxed': WHATEVER THE INPUT: true; the input reads as it did. -/
def boomBoxedSpec : ChangeSpec := { name := "boomBoxed", fn := fun _ => fun
  | [d1, d2, d3, d4] => { results := [.lit (.bool true)], args := [d1, d2, d3, d4] }
  | _ => none }
def boomBoxedRow : OpenClaim := { program := "ytlkoadcbolkhoaa", sum := "0f0554380fc6a2f08a0a51c86a7906867c528aa9acc6d61a655406621bcd6386", func := "peavey/peaveylaw04.BoomBoxed", spec := "boomBoxed", unfollowed := true, recurses := true, plainKeys := false, apart := false }
def BoomBoxedSaid : Prop := boomBoxedRow.holds Try.pinned (OpenSpec.ofChange boomBoxedSpec)

/-- ITS FALSE NEIGHBOUR: 'it returns false'. Refute it at one input. -/
def boomBoxedWrong : ChangeSpec := { name := "boomBoxed", fn := fun _ => fun
  | [d1, d2, d3, d4] => { results := [.lit (.bool false)], args := [d1, d2, d3, d4] }
  | _ => none }
def BoomBoxedWrongFalsely : Prop := boomBoxedRow.holds Try.pinned (OpenSpec.ofChange boomBoxedWrong)

/-- 'peaveylaw04.BoomWider': WHATEVER THE INPUT: true; the input reads as it did. -/
def boomWiderSpec : ChangeSpec := { name := "boomWider", fn := fun _ => fun
  | [d1, d2, d3] => { results := [.lit (.bool true)], args := [d1, d2, d3] }
  | _ => none }
def boomWiderRow : OpenClaim := { program := "ytlkoadcbolkhoaa", sum := "0f0554380fc6a2f08a0a51c86a7906867c528aa9acc6d61a655406621bcd6386", func := "peavey/peaveylaw04.BoomWider", spec := "boomWider", unfollowed := true, recurses := true, plainKeys := false, apart := false }
def BoomWiderSaid : Prop := boomWiderRow.holds Try.pinned (OpenSpec.ofChange boomWiderSpec)

/-- ITS FALSE NEIGHBOUR: 'it returns false'. Refute it at one input. -/
def boomWiderWrong : ChangeSpec := { name := "boomWider", fn := fun _ => fun
  | [d1, d2, d3] => { results := [.lit (.bool false)], args := [d1, d2, d3] }
  | _ => none }
def BoomWiderWrongFalsely : Prop := boomWiderRow.holds Try.pinned (OpenSpec.ofChange boomWiderWrong)

/-- 'peaveylaw04.BoomKnown': WHATEVER THE INPUT: true; the input reads as it did. -/
def boomKnownSpec : ChangeSpec := { name := "boomKnown", fn := fun _ => fun
  | [] => { results := [.lit (.bool true)], args := [] }
  | _ => none }
def boomKnownRow : OpenClaim := { program := "ytlkoadcbolkhoaa", sum := "0f0554380fc6a2f08a0a51c86a7906867c528aa9acc6d61a655406621bcd6386", func := "peavey/peaveylaw04.BoomKnown", spec := "boomKnown", unfollowed := true, recurses := true, plainKeys := false, apart := false }
def BoomKnownSaid : Prop := boomKnownRow.holds Try.pinned (OpenSpec.ofChange boomKnownSpec)

/-- ITS FALSE NEIGHBOUR: 'it returns false'. Refute it at one input. -/
def boomKnownWrong : ChangeSpec := { name := "boomKnown", fn := fun _ => fun
  | [] => { results := [.lit (.bool false)], args := [] }
  | _ => none }
def BoomKnownWrongFalsely : Prop := boomKnownRow.holds Try.pinned (OpenSpec.ofChange boomKnownWrong)

/- THE SECOND FORM. 'bulk': how many values and letters a reading holds, each counted each time it is reached (what is shared counts as often as it is met; a slice's spare places count too). A statement '..UptoSaid' is the law's where the arguments, and the package variables that the reading takes, are together of bulk at most 1048576: NARROWER than '..Said'. Prove '..Said' where nothing that the law and all that it calls make is longer than what came in: it says more and counts as full. Else prove '..UptoSaid'. A law counts once. -/
mutual
def uptoBulk {H : Type} : DataW H → Nat
  | .lit (.string bytes) => bytes.length + 1
  | .lit _ => 1
  | .nil => 1
  | .ptr d => uptoBulk d + 1
  | .slice elems spare => uptoBulkAll elems + uptoBulkAll spare + 1
  | .agg parts => uptoBulkAll parts + 1
  | .iface _ d => uptoBulk d + 1
  | .map entries => uptoBulkEntries entries + 1
  | .held _ => 1
def uptoBulkAll {H : Type} : List (DataW H) → Nat
  | [] => 0
  | d :: r => uptoBulk d + uptoBulkAll r
def uptoBulkEntries {H : Type} : List (Lit × DataW H) → Nat
  | [] => 0
  | x :: r => uptoBulkEntry x + uptoBulkEntries r
def uptoBulkEntry {H : Type} : Lit × DataW H → Nat
  | (.string bytes, d) => bytes.length + uptoBulk d + 1
  | (_, d) => uptoBulk d + 1
 end
def uptoSmall : (H : Type) → List (DataW H) → Bool := fun _ ds => decide (uptoBulkAll ds ≤ 1048576)
def OpenSpec.upto (s : _root_.Go.ChangeSpec) : _root_.Go.OpenSpec := { _root_.Go.OpenSpec.ofChange s with cond := some uptoSmall }

/-- 'peaveylaw04.BoomPonds', WHERE WHAT IT READS IS OF BULK AT MOST 1048576: true; the input reads as it did. -/
def boomPondsUptoRow : OpenClaim := { program := "ytlkoadcbolkhoaa", sum := "0f0554380fc6a2f08a0a51c86a7906867c528aa9acc6d61a655406621bcd6386", func := "peavey/peaveylaw04.BoomPonds", spec := "boomPonds", unfollowed := true, recurses := true, plainKeys := false, apart := false, narrowed := true }
def BoomPondsUptoSaid : Prop := boomPondsUptoRow.holds Try.pinned (OpenSpec.upto boomPondsSpec)

/-- 'peaveylaw04.BoomBests', WHERE WHAT IT READS IS OF BULK AT MOST 1048576: true; the input reads as it did. -/
def boomBestsUptoRow : OpenClaim := { program := "ytlkoadcbolkhoaa", sum := "0f0554380fc6a2f08a0a51c86a7906867c528aa9acc6d61a655406621bcd6386", func := "peavey/peaveylaw04.BoomBests", spec := "boomBests", unfollowed := true, recurses := true, plainKeys := false, apart := false, narrowed := true }
def BoomBestsUptoSaid : Prop := boomBestsUptoRow.holds Try.pinned (OpenSpec.upto boomBestsSpec)

/-- 'peaveylaw04.BoomWays', WHERE WHAT IT READS IS OF BULK AT MOST 1048576: true; the input reads as it did. -/
def boomWaysUptoRow : OpenClaim := { program := "ytlkoadcbolkhoaa", sum := "0f0554380fc6a2f08a0a51c86a7906867c528aa9acc6d61a655406621bcd6386", func := "peavey/peaveylaw04.BoomWays", spec := "boomWays", unfollowed := true, recurses := true, plainKeys := false, apart := false, narrowed := true }
def BoomWaysUptoSaid : Prop := boomWaysUptoRow.holds Try.pinned (OpenSpec.upto boomWaysSpec)

/-- 'peaveylaw04.BoomChains', WHERE WHAT IT READS IS OF BULK AT MOST 1048576: true; the input reads as it did. -/
def boomChainsUptoRow : OpenClaim := { program := "ytlkoadcbolkhoaa", sum := "0f0554380fc6a2f08a0a51c86a7906867c528aa9acc6d61a655406621bcd6386", func := "peavey/peaveylaw04.BoomChains", spec := "boomChains", unfollowed := true, recurses := true, plainKeys := false, apart := false, narrowed := true }
def BoomChainsUptoSaid : Prop := boomChainsUptoRow.holds Try.pinned (OpenSpec.upto boomChainsSpec)

/-- 'peaveylaw04.BoomMosts', WHERE WHAT IT READS IS OF BULK AT MOST 1048576: true; the input reads as it did. -/
def boomMostsUptoRow : OpenClaim := { program := "ytlkoadcbolkhoaa", sum := "0f0554380fc6a2f08a0a51c86a7906867c528aa9acc6d61a655406621bcd6386", func := "peavey/peaveylaw04.BoomMosts", spec := "boomMosts", unfollowed := true, recurses := true, plainKeys := false, apart := false, narrowed := true }
def BoomMostsUptoSaid : Prop := boomMostsUptoRow.holds Try.pinned (OpenSpec.upto boomMostsSpec)

/-- 'peaveylaw04.BoomProved', WHERE WHAT IT READS IS OF BULK AT MOST 1048576: true; the input reads as it did. -/
def boomProvedUptoRow : OpenClaim := { program := "ytlkoadcbolkhoaa", sum := "0f0554380fc6a2f08a0a51c86a7906867c528aa9acc6d61a655406621bcd6386", func := "peavey/peaveylaw04.BoomProved", spec := "boomProved", unfollowed := true, recurses := true, plainKeys := false, apart := false, narrowed := true }
def BoomProvedUptoSaid : Prop := boomProvedUptoRow.holds Try.pinned (OpenSpec.upto boomProvedSpec)

/-- 'peaveylaw04.BoomBetween', WHERE WHAT IT READS IS OF BULK AT MOST 1048576: true; the input reads as it did. -/
def boomBetweenUptoRow : OpenClaim := { program := "ytlkoadcbolkhoaa", sum := "0f0554380fc6a2f08a0a51c86a7906867c528aa9acc6d61a655406621bcd6386", func := "peavey/peaveylaw04.BoomBetween", spec := "boomBetween", unfollowed := true, recurses := true, plainKeys := false, apart := false, narrowed := true }
def BoomBetweenUptoSaid : Prop := boomBetweenUptoRow.holds Try.pinned (OpenSpec.upto boomBetweenSpec)

/-- 'peaveylaw04.BoomMore', WHERE WHAT IT READS IS OF BULK AT MOST 1048576: true; the input reads as it did. -/
def boomMoreUptoRow : OpenClaim := { program := "ytlkoadcbolkhoaa", sum := "0f0554380fc6a2f08a0a51c86a7906867c528aa9acc6d61a655406621bcd6386", func := "peavey/peaveylaw04.BoomMore", spec := "boomMore", unfollowed := true, recurses := true, plainKeys := false, apart := false, narrowed := true }
def BoomMoreUptoSaid : Prop := boomMoreUptoRow.holds Try.pinned (OpenSpec.upto boomMoreSpec)

/-- 'peaveylaw04.BoomTogether', WHERE WHAT IT READS IS OF BULK AT MOST 1048576: true; the input reads as it did. -/
def boomTogetherUptoRow : OpenClaim := { program := "ytlkoadcbolkhoaa", sum := "0f0554380fc6a2f08a0a51c86a7906867c528aa9acc6d61a655406621bcd6386", func := "peavey/peaveylaw04.BoomTogether", spec := "boomTogether", unfollowed := true, recurses := true, plainKeys := false, apart := false, narrowed := true }
def BoomTogetherUptoSaid : Prop := boomTogetherUptoRow.holds Try.pinned (OpenSpec.upto boomTogetherSpec)

/-- 'peaveylaw04.BoomTurned', WHERE WHAT IT READS IS OF BULK AT MOST 1048576: true; the input reads as it did. -/
def boomTurnedUptoRow : OpenClaim := { program := "ytlkoadcbolkhoaa", sum := "0f0554380fc6a2f08a0a51c86a7906867c528aa9acc6d61a655406621bcd6386", func := "peavey/peaveylaw04.BoomTurned", spec := "boomTurned", unfollowed := true, recurses := true, plainKeys := false, apart := false, narrowed := true }
def BoomTurnedUptoSaid : Prop := boomTurnedUptoRow.holds Try.pinned (OpenSpec.upto boomTurnedSpec)

/-- 'peaveylaw04.BoomChained', WHERE WHAT IT READS IS OF BULK AT MOST 1048576: true; the input reads as it did. -/
def boomChainedUptoRow : OpenClaim := { program := "ytlkoadcbolkhoaa", sum := "0f0554380fc6a2f08a0a51c86a7906867c528aa9acc6d61a655406621bcd6386", func := "peavey/peaveylaw04.BoomChained", spec := "boomChained", unfollowed := true, recurses := true, plainKeys := false, apart := false, narrowed := true }
def BoomChainedUptoSaid : Prop := boomChainedUptoRow.holds Try.pinned (OpenSpec.upto boomChainedSpec)

/-- 'peaveylaw04.BoomBoxed', WHERE WHAT IT READS IS OF BULK AT MOST 1048576: true; the input reads as it did. -/
def boomBoxedUptoRow : OpenClaim := { program := "ytlkoadcbolkhoaa", sum := "0f0554380fc6a2f08a0a51c86a7906867c528aa9acc6d61a655406621bcd6386", func := "peavey/peaveylaw04.BoomBoxed", spec := "boomBoxed", unfollowed := true, recurses := true, plainKeys := false, apart := false, narrowed := true }
def BoomBoxedUptoSaid : Prop := boomBoxedUptoRow.holds Try.pinned (OpenSpec.upto boomBoxedSpec)

/-- 'peaveylaw04.BoomWider', WHERE WHAT IT READS IS OF BULK AT MOST 1048576: true; the input reads as it did. -/
def boomWiderUptoRow : OpenClaim := { program := "ytlkoadcbolkhoaa", sum := "0f0554380fc6a2f08a0a51c86a7906867c528aa9acc6d61a655406621bcd6386", func := "peavey/peaveylaw04.BoomWider", spec := "boomWider", unfollowed := true, recurses := true, plainKeys := false, apart := false, narrowed := true }
def BoomWiderUptoSaid : Prop := boomWiderUptoRow.holds Try.pinned (OpenSpec.upto boomWiderSpec)

/-- 'peaveylaw04.BoomKnown', WHERE WHAT IT READS IS OF BULK AT MOST 1048576: true; the input reads as it did. -/
def boomKnownUptoRow : OpenClaim := { program := "ytlkoadcbolkhoaa", sum := "0f0554380fc6a2f08a0a51c86a7906867c528aa9acc6d61a655406621bcd6386", func := "peavey/peaveylaw04.BoomKnown", spec := "boomKnown", unfollowed := true, recurses := true, plainKeys := false, apart := false, narrowed := true }
def BoomKnownUptoSaid : Prop := boomKnownUptoRow.holds Try.pinned (OpenSpec.upto boomKnownSpec)

end Rows
end Go.Proofs.Ytlkoadcbolkhoaa
