/-
  No cell of these rows narrows 'for every input' (looked for: loops, veiled, ifaces, maps, wideKeys, modest, calm, conditions, laid).
  DERIVED. THE GIVEN ROWS OF THIS SEAT. 14 by the template 'for every input the law returns true; each argument reads behind the call as it read before'; 0 by the template 'total and deterministic' (their statements: YtfchcikdcnloaaaTotals.lean).
  GIVEN WITH THE SEED: the statements are not yours to turn. If you find one false, say at which input.
  Laid BY PROGRAM, IN A SANDBOX (cutbox-rows.mjs): the forced cells as the released guide's own fill.sh prints them over the translation 33f597ef40cc427b… (all of the seat's roots in one cut). By AI agents, Wed Nov 11 2026. No macro, syntax, notation, axiom, sorry.
-/
import Derived.Test.YtfchcikdcnloaaaChecked
import GoSem.Claim
import GoSem.ClaimJoined
import GoSem.ClaimMapViews
import Derived.JoinedTies
import Derived.KernelRfl
namespace Go.Proofs.Ytfchcikdcnloaaa
/- THE CELL 'sum', in the pinned program and in every row, IS THE sha256 OF THE DUMP (.gsa) THAT YtfchcikdcnloaaaProg.lean LOADS. Nothing in Lean hashes anything: it is a label: what it is worth is what the hold of that sum in a sandbox is worth. -/
noncomputable def Try.pinned : Pinned := { name := "ytfchcikdcnloaaa", sum := "33f597ef40cc427bde6dfa3a5f7b510df7b0ed3e07e6529d99e722f6474ef7ee", checked := Try.checked }
namespace Rows
def none {H : Type} : Left H := { results := [], args := [] }

/-- 'peaveylaw07.SharePools': WHATEVER THE INPUT: true; the input reads as it did. -/
def sharePoolsSpec : ChangeSpec := { name := "sharePools", fn := fun _ => fun
  | [d1, d2] => { results := [.lit (.bool true)], args := [d1, d2] }
  | _ => none }
def sharePoolsRow : OpenClaim := { program := "ytfchcikdcnloaaa", sum := "33f597ef40cc427bde6dfa3a5f7b510df7b0ed3e07e6529d99e722f6474ef7ee", func := "peavey/peaveylaw07.SharePools", spec := "sharePools", unfollowed := true, recurses := true, plainKeys := false, apart := false }
def SharePoolsSaid : Prop := sharePoolsRow.holds Try.pinned (OpenSpec.ofChange sharePoolsSpec)

/-- ITS FALSE NEIGHBOUR: 'it returns false'. Refute it at one input. -/
def sharePoolsWrong : ChangeSpec := { name := "sharePools", fn := fun _ => fun
  | [d1, d2] => { results := [.lit (.bool false)], args := [d1, d2] }
  | _ => none }
def SharePoolsWrongFalsely : Prop := sharePoolsRow.holds Try.pinned (OpenSpec.ofChange sharePoolsWrong)

/-- 'peaveylaw07.ShareOrders': WHATEVER THE INPUT: true; the input reads as it did. -/
def shareOrdersSpec : ChangeSpec := { name := "shareOrders", fn := fun _ => fun
  | [d] => { results := [.lit (.bool true)], args := [d] }
  | _ => none }
def shareOrdersRow : OpenClaim := { program := "ytfchcikdcnloaaa", sum := "33f597ef40cc427bde6dfa3a5f7b510df7b0ed3e07e6529d99e722f6474ef7ee", func := "peavey/peaveylaw07.ShareOrders", spec := "shareOrders", unfollowed := true, recurses := true, plainKeys := false, apart := false }
def ShareOrdersSaid : Prop := shareOrdersRow.holds Try.pinned (OpenSpec.ofChange shareOrdersSpec)

/-- ITS FALSE NEIGHBOUR: 'it returns false'. Refute it at one input. -/
def shareOrdersWrong : ChangeSpec := { name := "shareOrders", fn := fun _ => fun
  | [d] => { results := [.lit (.bool false)], args := [d] }
  | _ => none }
def ShareOrdersWrongFalsely : Prop := shareOrdersRow.holds Try.pinned (OpenSpec.ofChange shareOrdersWrong)

/-- 'peaveylaw07.ShareDivisors': WHATEVER THE INPUT: true; the input reads as it did. -/
def shareDivisorsSpec : ChangeSpec := { name := "shareDivisors", fn := fun _ => fun
  | [d1, d2, d3] => { results := [.lit (.bool true)], args := [d1, d2, d3] }
  | _ => none }
def shareDivisorsRow : OpenClaim := { program := "ytfchcikdcnloaaa", sum := "33f597ef40cc427bde6dfa3a5f7b510df7b0ed3e07e6529d99e722f6474ef7ee", func := "peavey/peaveylaw07.ShareDivisors", spec := "shareDivisors", unfollowed := true, recurses := true, plainKeys := false, apart := false }
def ShareDivisorsSaid : Prop := shareDivisorsRow.holds Try.pinned (OpenSpec.ofChange shareDivisorsSpec)

/-- ITS FALSE NEIGHBOUR: 'it returns false'. Refute it at one input. -/
def shareDivisorsWrong : ChangeSpec := { name := "shareDivisors", fn := fun _ => fun
  | [d1, d2, d3] => { results := [.lit (.bool false)], args := [d1, d2, d3] }
  | _ => none }
def ShareDivisorsWrongFalsely : Prop := shareDivisorsRow.holds Try.pinned (OpenSpec.ofChange shareDivisorsWrong)

/-- 'peaveylaw07.ShareSpans': WHATEVER THE INPUT: true; the input reads as it did. -/
def shareSpansSpec : ChangeSpec := { name := "shareSpans", fn := fun _ => fun
  | [d1, d2] => { results := [.lit (.bool true)], args := [d1, d2] }
  | _ => none }
def shareSpansRow : OpenClaim := { program := "ytfchcikdcnloaaa", sum := "33f597ef40cc427bde6dfa3a5f7b510df7b0ed3e07e6529d99e722f6474ef7ee", func := "peavey/peaveylaw07.ShareSpans", spec := "shareSpans", unfollowed := true, recurses := true, plainKeys := false, apart := false }
def ShareSpansSaid : Prop := shareSpansRow.holds Try.pinned (OpenSpec.ofChange shareSpansSpec)

/-- ITS FALSE NEIGHBOUR: 'it returns false'. Refute it at one input. -/
def shareSpansWrong : ChangeSpec := { name := "shareSpans", fn := fun _ => fun
  | [d1, d2] => { results := [.lit (.bool false)], args := [d1, d2] }
  | _ => none }
def ShareSpansWrongFalsely : Prop := shareSpansRow.holds Try.pinned (OpenSpec.ofChange shareSpansWrong)

/-- 'peaveylaw07.ShareFair': WHATEVER THE INPUT: true; the input reads as it did. -/
def shareFairSpec : ChangeSpec := { name := "shareFair", fn := fun _ => fun
  | [d1, d2, d3, d4] => { results := [.lit (.bool true)], args := [d1, d2, d3, d4] }
  | _ => none }
def shareFairRow : OpenClaim := { program := "ytfchcikdcnloaaa", sum := "33f597ef40cc427bde6dfa3a5f7b510df7b0ed3e07e6529d99e722f6474ef7ee", func := "peavey/peaveylaw07.ShareFair", spec := "shareFair", unfollowed := true, recurses := true, plainKeys := false, apart := false }
def ShareFairSaid : Prop := shareFairRow.holds Try.pinned (OpenSpec.ofChange shareFairSpec)

/-- ITS FALSE NEIGHBOUR: 'it returns false'. Refute it at one input. -/
def shareFairWrong : ChangeSpec := { name := "shareFair", fn := fun _ => fun
  | [d1, d2, d3, d4] => { results := [.lit (.bool false)], args := [d1, d2, d3, d4] }
  | _ => none }
def ShareFairWrongFalsely : Prop := shareFairRow.holds Try.pinned (OpenSpec.ofChange shareFairWrong)

/-- 'peaveylaw07.ShareAll': WHATEVER THE INPUT: true; the input reads as it did. -/
def shareAllSpec : ChangeSpec := { name := "shareAll", fn := fun _ => fun
  | [d1, d2, d3] => { results := [.lit (.bool true)], args := [d1, d2, d3] }
  | _ => none }
def shareAllRow : OpenClaim := { program := "ytfchcikdcnloaaa", sum := "33f597ef40cc427bde6dfa3a5f7b510df7b0ed3e07e6529d99e722f6474ef7ee", func := "peavey/peaveylaw07.ShareAll", spec := "shareAll", unfollowed := true, recurses := true, plainKeys := false, apart := false }
def ShareAllSaid : Prop := shareAllRow.holds Try.pinned (OpenSpec.ofChange shareAllSpec)

/-- ITS FALSE NEIGHBOUR: 'it returns false'. Refute it at one input. -/
def shareAllWrong : ChangeSpec := { name := "shareAll", fn := fun _ => fun
  | [d1, d2, d3] => { results := [.lit (.bool false)], args := [d1, d2, d3] }
  | _ => none }
def ShareAllWrongFalsely : Prop := shareAllRow.holds Try.pinned (OpenSpec.ofChange shareAllWrong)

/-- 'peaveylaw07.ShareOneMore': WHATEVER THE INPUT: true; the input reads as it did. -/
def shareOneMoreSpec : ChangeSpec := { name := "shareOneMore", fn := fun _ => fun
  | [d] => { results := [.lit (.bool true)], args := [d] }
  | _ => none }
def shareOneMoreRow : OpenClaim := { program := "ytfchcikdcnloaaa", sum := "33f597ef40cc427bde6dfa3a5f7b510df7b0ed3e07e6529d99e722f6474ef7ee", func := "peavey/peaveylaw07.ShareOneMore", spec := "shareOneMore", unfollowed := true, recurses := true, plainKeys := false, apart := false }
def ShareOneMoreSaid : Prop := shareOneMoreRow.holds Try.pinned (OpenSpec.ofChange shareOneMoreSpec)

/-- ITS FALSE NEIGHBOUR: 'it returns false'. Refute it at one input. -/
def shareOneMoreWrong : ChangeSpec := { name := "shareOneMore", fn := fun _ => fun
  | [d] => { results := [.lit (.bool false)], args := [d] }
  | _ => none }
def ShareOneMoreWrongFalsely : Prop := shareOneMoreRow.holds Try.pinned (OpenSpec.ofChange shareOneMoreWrong)

/-- 'peaveylaw07.ShareHadMore': WHATEVER THE INPUT: true; the input reads as it did. -/
def shareHadMoreSpec : ChangeSpec := { name := "shareHadMore", fn := fun _ => fun
  | [d1, d2, d3] => { results := [.lit (.bool true)], args := [d1, d2, d3] }
  | _ => none }
def shareHadMoreRow : OpenClaim := { program := "ytfchcikdcnloaaa", sum := "33f597ef40cc427bde6dfa3a5f7b510df7b0ed3e07e6529d99e722f6474ef7ee", func := "peavey/peaveylaw07.ShareHadMore", spec := "shareHadMore", unfollowed := true, recurses := true, plainKeys := false, apart := false }
def ShareHadMoreSaid : Prop := shareHadMoreRow.holds Try.pinned (OpenSpec.ofChange shareHadMoreSpec)

/-- ITS FALSE NEIGHBOUR: 'it returns false'. Refute it at one input. -/
def shareHadMoreWrong : ChangeSpec := { name := "shareHadMore", fn := fun _ => fun
  | [d1, d2, d3] => { results := [.lit (.bool false)], args := [d1, d2, d3] }
  | _ => none }
def ShareHadMoreWrongFalsely : Prop := shareHadMoreRow.holds Try.pinned (OpenSpec.ofChange shareHadMoreWrong)

/-- 'peaveylaw07.ShareAlone': WHATEVER THE INPUT: true; the input reads as it did. -/
def shareAloneSpec : ChangeSpec := { name := "shareAlone", fn := fun _ => fun
  | [d1, d2, d3] => { results := [.lit (.bool true)], args := [d1, d2, d3] }
  | _ => none }
def shareAloneRow : OpenClaim := { program := "ytfchcikdcnloaaa", sum := "33f597ef40cc427bde6dfa3a5f7b510df7b0ed3e07e6529d99e722f6474ef7ee", func := "peavey/peaveylaw07.ShareAlone", spec := "shareAlone", unfollowed := true, recurses := true, plainKeys := false, apart := false }
def ShareAloneSaid : Prop := shareAloneRow.holds Try.pinned (OpenSpec.ofChange shareAloneSpec)

/-- ITS FALSE NEIGHBOUR: 'it returns false'. Refute it at one input. -/
def shareAloneWrong : ChangeSpec := { name := "shareAlone", fn := fun _ => fun
  | [d1, d2, d3] => { results := [.lit (.bool false)], args := [d1, d2, d3] }
  | _ => none }
def ShareAloneWrongFalsely : Prop := shareAloneRow.holds Try.pinned (OpenSpec.ofChange shareAloneWrong)

/-- 'peaveylaw07.ShareJoined': WHATEVER THE INPUT: true; the input reads as it did. -/
def shareJoinedSpec : ChangeSpec := { name := "shareJoined", fn := fun _ => fun
  | [d1, d2, d3] => { results := [.lit (.bool true)], args := [d1, d2, d3] }
  | _ => none }
def shareJoinedRow : OpenClaim := { program := "ytfchcikdcnloaaa", sum := "33f597ef40cc427bde6dfa3a5f7b510df7b0ed3e07e6529d99e722f6474ef7ee", func := "peavey/peaveylaw07.ShareJoined", spec := "shareJoined", unfollowed := true, recurses := true, plainKeys := false, apart := false }
def ShareJoinedSaid : Prop := shareJoinedRow.holds Try.pinned (OpenSpec.ofChange shareJoinedSpec)

/-- ITS FALSE NEIGHBOUR: 'it returns false'. Refute it at one input. -/
def shareJoinedWrong : ChangeSpec := { name := "shareJoined", fn := fun _ => fun
  | [d1, d2, d3] => { results := [.lit (.bool false)], args := [d1, d2, d3] }
  | _ => none }
def ShareJoinedWrongFalsely : Prop := shareJoinedRow.holds Try.pinned (OpenSpec.ofChange shareJoinedWrong)

/-- 'peaveylaw07.SharePart': WHATEVER THE INPUT: true; the input reads as it did. -/
def sharePartSpec : ChangeSpec := { name := "sharePart", fn := fun _ => fun
  | [d1, d2, d3] => { results := [.lit (.bool true)], args := [d1, d2, d3] }
  | _ => none }
def sharePartRow : OpenClaim := { program := "ytfchcikdcnloaaa", sum := "33f597ef40cc427bde6dfa3a5f7b510df7b0ed3e07e6529d99e722f6474ef7ee", func := "peavey/peaveylaw07.SharePart", spec := "sharePart", unfollowed := true, recurses := true, plainKeys := false, apart := false }
def SharePartSaid : Prop := sharePartRow.holds Try.pinned (OpenSpec.ofChange sharePartSpec)

/-- ITS FALSE NEIGHBOUR: 'it returns false'. Refute it at one input. -/
def sharePartWrong : ChangeSpec := { name := "sharePart", fn := fun _ => fun
  | [d1, d2, d3] => { results := [.lit (.bool false)], args := [d1, d2, d3] }
  | _ => none }
def SharePartWrongFalsely : Prop := sharePartRow.holds Try.pinned (OpenSpec.ofChange sharePartWrong)

/-- 'peaveylaw07.ShareQuota': WHATEVER THE INPUT: true; the input reads as it did. -/
def shareQuotaSpec : ChangeSpec := { name := "shareQuota", fn := fun _ => fun
  | [d1, d2] => { results := [.lit (.bool true)], args := [d1, d2] }
  | _ => none }
def shareQuotaRow : OpenClaim := { program := "ytfchcikdcnloaaa", sum := "33f597ef40cc427bde6dfa3a5f7b510df7b0ed3e07e6529d99e722f6474ef7ee", func := "peavey/peaveylaw07.ShareQuota", spec := "shareQuota", unfollowed := true, recurses := true, plainKeys := false, apart := false }
def ShareQuotaSaid : Prop := shareQuotaRow.holds Try.pinned (OpenSpec.ofChange shareQuotaSpec)

/-- ITS FALSE NEIGHBOUR: 'it returns false'. Refute it at one input. -/
def shareQuotaWrong : ChangeSpec := { name := "shareQuota", fn := fun _ => fun
  | [d1, d2] => { results := [.lit (.bool false)], args := [d1, d2] }
  | _ => none }
def ShareQuotaWrongFalsely : Prop := shareQuotaRow.holds Try.pinned (OpenSpec.ofChange shareQuotaWrong)

/-- 'peaveylaw07.ShareTimes': WHATEVER THE INPUT: true; the input reads as it did. -/
def shareTimesSpec : ChangeSpec := { name := "shareTimes", fn := fun _ => fun
  | [d1, d2, d3] => { results := [.lit (.bool true)], args := [d1, d2, d3] }
  | _ => none }
def shareTimesRow : OpenClaim := { program := "ytfchcikdcnloaaa", sum := "33f597ef40cc427bde6dfa3a5f7b510df7b0ed3e07e6529d99e722f6474ef7ee", func := "peavey/peaveylaw07.ShareTimes", spec := "shareTimes", unfollowed := true, recurses := true, plainKeys := false, apart := false }
def ShareTimesSaid : Prop := shareTimesRow.holds Try.pinned (OpenSpec.ofChange shareTimesSpec)

/-- ITS FALSE NEIGHBOUR: 'it returns false'. Refute it at one input. -/
def shareTimesWrong : ChangeSpec := { name := "shareTimes", fn := fun _ => fun
  | [d1, d2, d3] => { results := [.lit (.bool false)], args := [d1, d2, d3] }
  | _ => none }
def ShareTimesWrongFalsely : Prop := shareTimesRow.holds Try.pinned (OpenSpec.ofChange shareTimesWrong)

/-- 'peaveylaw07.ShareKnown': WHATEVER THE INPUT: true; the input reads as it did. -/
def shareKnownSpec : ChangeSpec := { name := "shareKnown", fn := fun _ => fun
  | [] => { results := [.lit (.bool true)], args := [] }
  | _ => none }
def shareKnownRow : OpenClaim := { program := "ytfchcikdcnloaaa", sum := "33f597ef40cc427bde6dfa3a5f7b510df7b0ed3e07e6529d99e722f6474ef7ee", func := "peavey/peaveylaw07.ShareKnown", spec := "shareKnown", unfollowed := true, recurses := true, plainKeys := false, apart := false }
def ShareKnownSaid : Prop := shareKnownRow.holds Try.pinned (OpenSpec.ofChange shareKnownSpec)

/-- ITS FALSE NEIGHBOUR: 'it returns false'. Refute it at one input. -/
def shareKnownWrong : ChangeSpec := { name := "shareKnown", fn := fun _ => fun
  | [] => { results := [.lit (.bool false)], args := [] }
  | _ => none }
def ShareKnownWrongFalsely : Prop := shareKnownRow.holds Try.pinned (OpenSpec.ofChange shareKnownWrong)

/- THE SECOND FORM. 'bulk': how many values and letters a reading holds, each counted each time it is reached (what is shared counts as often as it is met; a slice's spare places count too). A statement '..UptoSaid' is the law's where the arguments, and the package variables that the reading takes, are together of bulk at most 1048576: NARROWER than '..Said'. Prove '..Said' where nothing that the law and all that it calls make is longer than what came in: it says more and counts as full. Else prove '..UptoSaid'. A law counts once. -/
mutual
def uptoBulk {H : Type} : DataW H → Nat
  | .lit (.string bytes) => bytes.length + 1
  | .lit _ => 1
  | .nil => 1
  | .ptr d => uptoBulk d + 1
  | .slice elems spare => uptoBulkAll elems + uptoBulkAll spare + 1
  | .agg parts => uptoBulkAll parts + 1
  | .iface _ d => uptoBulk d + 1
  | .map entries => uptoBulkEntries entries + 1
  | .held _ => 1
def uptoBulkAll {H : Type} : List (DataW H) → Nat
  | [] => 0
  | d :: r => uptoBulk d + uptoBulkAll r
def uptoBulkEntries {H : Type} : List (Lit × DataW H) → Nat
  | [] => 0
  | x :: r => uptoBulkEntry x + uptoBulkEntries r
def uptoBulkEntry {H : Type} : Lit × DataW H → Nat
  | (.string bytes, d) => bytes.length + uptoBulk d + 1
  | (_, d) => uptoBulk d + 1
 end
def uptoSmall : (H : Type) → List (DataW H) → Bool := fun _ ds => decide (uptoBulkAll ds ≤ 1048576)
def OpenSpec.upto (s : _root_.Go.ChangeSpec) : _root_.Go.OpenSpec := { _root_.Go.OpenSpec.ofChange s with cond := some uptoSmall }

/-- 'peaveylaw07.SharePools', WHERE WHAT IT READS IS OF BULK AT MOST 1048576: true; the input reads as it did. -/
def sharePoolsUptoRow : OpenClaim := { program := "ytfchcikdcnloaaa", sum := "33f597ef40cc427bde6dfa3a5f7b510df7b0ed3e07e6529d99e722f6474ef7ee", func := "peavey/peaveylaw07.SharePools", spec := "sharePools", unfollowed := true, recurses := true, plainKeys := false, apart := false, narrowed := true }
def SharePoolsUptoSaid : Prop := sharePoolsUptoRow.holds Try.pinned (OpenSpec.upto sharePoolsSpec)

/-- 'peaveylaw07.ShareOrders', WHERE WHAT IT READS IS OF BULK AT MOST 1048576: true; the input reads as it did. -/
def shareOrdersUptoRow : OpenClaim := { program := "ytfchcikdcnloaaa", sum := "33f597ef40cc427bde6dfa3a5f7b510df7b0ed3e07e6529d99e722f6474ef7ee", func := "peavey/peaveylaw07.ShareOrders", spec := "shareOrders", unfollowed := true, recurses := true, plainKeys := false, apart := false, narrowed := true }
def ShareOrdersUptoSaid : Prop := shareOrdersUptoRow.holds Try.pinned (OpenSpec.upto shareOrdersSpec)

/-- 'peaveylaw07.ShareDivisors', WHERE WHAT IT READS IS OF BULK AT MOST 1048576: true; the input reads as it did. -/
def shareDivisorsUptoRow : OpenClaim := { program := "ytfchcikdcnloaaa", sum := "33f597ef40cc427bde6dfa3a5f7b510df7b0ed3e07e6529d99e722f6474ef7ee", func := "peavey/peaveylaw07.ShareDivisors", spec := "shareDivisors", unfollowed := true, recurses := true, plainKeys := false, apart := false, narrowed := true }
def ShareDivisorsUptoSaid : Prop := shareDivisorsUptoRow.holds Try.pinned (OpenSpec.upto shareDivisorsSpec)

/-- 'peaveylaw07.ShareSpans', WHERE WHAT IT READS IS OF BULK AT MOST 1048576: true; the input reads as it did. -/
def shareSpansUptoRow : OpenClaim := { program := "ytfchcikdcnloaaa", sum := "33f597ef40cc427bde6dfa3a5f7b510df7b0ed3e07e6529d99e722f6474ef7ee", func := "peavey/peaveylaw07.ShareSpans", spec := "shareSpans", unfollowed := true, recurses := true, plainKeys := false, apart := false, narrowed := true }
def ShareSpansUptoSaid : Prop := shareSpansUptoRow.holds Try.pinned (OpenSpec.upto shareSpansSpec)

/-- 'peaveylaw07.ShareFair', WHERE WHAT IT READS IS OF BULK AT MOST 1048576: true; the input reads as it did. -/
def shareFairUptoRow : OpenClaim := { program := "ytfchcikdcnloaaa", sum := "33f597ef40cc427bde6dfa3a5f7b510df7b0ed3e07e6529d99e722f6474ef7ee", func := "peavey/peaveylaw07.ShareFair", spec := "shareFair", unfollowed := true, recurses := true, plainKeys := false, apart := false, narrowed := true }
def ShareFairUptoSaid : Prop := shareFairUptoRow.holds Try.pinned (OpenSpec.upto shareFairSpec)

/-- 'peaveylaw07.ShareAll', WHERE WHAT IT READS IS OF BULK AT MOST 1048576: true; the input reads as it did. -/
def shareAllUptoRow : OpenClaim := { program := "ytfchcikdcnloaaa", sum := "33f597ef40cc427bde6dfa3a5f7b510df7b0ed3e07e6529d99e722f6474ef7ee", func := "peavey/peaveylaw07.ShareAll", spec := "shareAll", unfollowed := true, recurses := true, plainKeys := false, apart := false, narrowed := true }
def ShareAllUptoSaid : Prop := shareAllUptoRow.holds Try.pinned (OpenSpec.upto shareAllSpec)

/-- 'peaveylaw07.ShareOneMore', WHERE WHAT IT READS IS OF BULK AT MOST 1048576: true; the input reads as it did. -/
def shareOneMoreUptoRow : OpenClaim := { program := "ytfchcikdcnloaaa", sum := "33f597ef40cc427bde6dfa3a5f7b510df7b0ed3e07e6529d99e722f6474ef7ee", func := "peavey/peaveylaw07.ShareOneMore", spec := "shareOneMore", unfollowed := true, recurses := true, plainKeys := false, apart := false, narrowed := true }
def ShareOneMoreUptoSaid : Prop := shareOneMoreUptoRow.holds Try.pinned (OpenSpec.upto shareOneMoreSpec)

/-- 'peaveylaw07.ShareHadMore', WHERE WHAT IT READS IS OF BULK AT MOST 1048576: true; the input reads as it did. -/
def shareHadMoreUptoRow : OpenClaim := { program := "ytfchcikdcnloaaa", sum := "33f597ef40cc427bde6dfa3a5f7b510df7b0ed3e07e6529d99e722f6474ef7ee", func := "peavey/peaveylaw07.ShareHadMore", spec := "shareHadMore", unfollowed := true, recurses := true, plainKeys := false, apart := false, narrowed := true }
def ShareHadMoreUptoSaid : Prop := shareHadMoreUptoRow.holds Try.pinned (OpenSpec.upto shareHadMoreSpec)

/-- 'peaveylaw07.ShareAlone', WHERE WHAT IT READS IS OF BULK AT MOST 1048576: true; the input reads as it did. -/
def shareAloneUptoRow : OpenClaim := { program := "ytfchcikdcnloaaa", sum := "33f597ef40cc427bde6dfa3a5f7b510df7b0ed3e07e6529d99e722f6474ef7ee", func := "peavey/peaveylaw07.ShareAlone", spec := "shareAlone", unfollowed := true, recurses := true, plainKeys := false, apart := false, narrowed := true }
def ShareAloneUptoSaid : Prop := shareAloneUptoRow.holds Try.pinned (OpenSpec.upto shareAloneSpec)

/-- 'peaveylaw07.ShareJoined', WHERE WHAT IT READS IS OF BULK AT MOST 1048576: true; the input reads as it did. -/
def shareJoinedUptoRow : OpenClaim := { program := "ytfchcikdcnloaaa", sum := "33f597ef40cc427bde6dfa3a5f7b510df7b0ed3e07e6529d99e722f6474ef7ee", func := "peavey/peaveylaw07.ShareJoined", spec := "shareJoined", unfollowed := true, recurses := true, plainKeys := false, apart := false, narrowed := true }
def ShareJoinedUptoSaid : Prop := shareJoinedUptoRow.holds Try.pinned (OpenSpec.upto shareJoinedSpec)

/-- 'peaveylaw07.SharePart', WHERE WHAT IT READS IS OF BULK AT MOST 1048576: true; the input reads as it did. -/
def sharePartUptoRow : OpenClaim := { program := "ytfchcikdcnloaaa", sum := "33f597ef40cc427bde6dfa3a5f7b510df7b0ed3e07e6529d99e722f6474ef7ee", func := "peavey/peaveylaw07.SharePart", spec := "sharePart", unfollowed := true, recurses := true, plainKeys := false, apart := false, narrowed := true }
def SharePartUptoSaid : Prop := sharePartUptoRow.holds Try.pinned (OpenSpec.upto sharePartSpec)

/-- 'peaveylaw07.ShareQuota', WHERE WHAT IT READS IS OF BULK AT MOST 1048576: true; the input reads as it did. -/
def shareQuotaUptoRow : OpenClaim := { program := "ytfchcikdcnloaaa", sum := "33f597ef40cc427bde6dfa3a5f7b510df7b0ed3e07e6529d99e722f6474ef7ee", func := "peavey/peaveylaw07.ShareQuota", spec := "shareQuota", unfollowed := true, recurses := true, plainKeys := false, apart := false, narrowed := true }
def ShareQuotaUptoSaid : Prop := shareQuotaUptoRow.holds Try.pinned (OpenSpec.upto shareQuotaSpec)

/-- 'peaveylaw07.ShareTimes', WHERE WHAT IT READS IS OF BULK AT MOST 1048576: true; the input reads as it did. -/
def shareTimesUptoRow : OpenClaim := { program := "ytfchcikdcnloaaa", sum := "33f597ef40cc427bde6dfa3a5f7b510df7b0ed3e07e6529d99e722f6474ef7ee", func := "peavey/peaveylaw07.ShareTimes", spec := "shareTimes", unfollowed := true, recurses := true, plainKeys := false, apart := false, narrowed := true }
def ShareTimesUptoSaid : Prop := shareTimesUptoRow.holds Try.pinned (OpenSpec.upto shareTimesSpec)

/-- 'peaveylaw07.ShareKnown', WHERE WHAT IT READS IS OF BULK AT MOST 1048576: true; the input reads as it did. -/
def shareKnownUptoRow : OpenClaim := { program := "ytfchcikdcnloaaa", sum := "33f597ef40cc427bde6dfa3a5f7b510df7b0ed3e07e6529d99e722f6474ef7ee", func := "peavey/peaveylaw07.ShareKnown", spec := "shareKnown", unfollowed := true, recurses := true, plainKeys := false, apart := false, narrowed := true }
def ShareKnownUptoSaid : Prop := shareKnownUptoRow.holds Try.pinned (OpenSpec.upto shareKnownSpec)

end Rows
end Go.Proofs.Ytfchcikdcnloaaa
