/-
  No cell of these rows narrows 'for every input' (looked for: loops, veiled, ifaces, maps, wideKeys, modest, calm, conditions, laid).
  DERIVED. THE GIVEN ROWS OF THIS SEAT. 15 by the template 'for every input the law returns true; each argument reads behind the call as it read before'; 0 by the template 'total and deterministic' (their statements: YtbnmjbmlejifcaaTotals.lean).
  GIVEN WITH THE SEED: the statements are not yours to turn. If you find one false, say at which input.
  Laid BY PROGRAM, IN A SANDBOX (cutbox-rows.mjs): the forced cells as the released guide's own fill.sh prints them over the translation 89e0a2cb049a5e2e… (all of the seat's roots in one cut). By AI agents, Wed Nov 11 2026. No macro, syntax, notation, axiom, sorry.
-/
import Derived.Test.YtbnmjbmlejifcaaChecked
import GoSem.Claim
import GoSem.ClaimJoined
import GoSem.ClaimMapViews
import Derived.JoinedTies
import Derived.KernelRfl
namespace Go.Proofs.Ytbnmjbmlejifcaa
/- THE CELL 'sum', in the pinned program and in every row, IS THE sha256 OF THE DUMP (.gsa) THAT YtbnmjbmlejifcaaProg.lean LOADS. Nothing in Lean hashes anything: it is a label: what it is worth is what the hold of that sum in a sandbox is worth. -/
noncomputable def Try.pinned : Pinned := { name := "ytbnmjbmlejifcaa", sum := "89e0a2cb049a5e2ee8fe4ceb3f47f7fe5032c811025471c1122886c679fcc939", checked := Try.checked }
namespace Rows
def none {H : Type} : Left H := { results := [], args := [] }

/-- 'peaveylaw05.DriveRivers': WHATEVER THE INPUT: true; the input reads as it did. -/
def driveRiversSpec : ChangeSpec := { name := "driveRivers", fn := fun _ => fun
  | [d1, d2, d3] => { results := [.lit (.bool true)], args := [d1, d2, d3] }
  | _ => none }
def driveRiversRow : OpenClaim := { program := "ytbnmjbmlejifcaa", sum := "89e0a2cb049a5e2ee8fe4ceb3f47f7fe5032c811025471c1122886c679fcc939", func := "peavey/peaveylaw05.DriveRivers", spec := "driveRivers", unfollowed := true, recurses := true, plainKeys := false, apart := false }
def DriveRiversSaid : Prop := driveRiversRow.holds Try.pinned (OpenSpec.ofChange driveRiversSpec)

/-- ITS FALSE NEIGHBOUR: 'it returns false'. Refute it at one input. -/
def driveRiversWrong : ChangeSpec := { name := "driveRivers", fn := fun _ => fun
  | [d1, d2, d3] => { results := [.lit (.bool false)], args := [d1, d2, d3] }
  | _ => none }
def DriveRiversWrongFalsely : Prop := driveRiversRow.holds Try.pinned (OpenSpec.ofChange driveRiversWrong)

/-- 'peaveylaw05.DrivePlans': WHATEVER THE INPUT: true; the input reads as it did. -/
def drivePlansSpec : ChangeSpec := { name := "drivePlans", fn := fun _ => fun
  | [d] => { results := [.lit (.bool true)], args := [d] }
  | _ => none }
def drivePlansRow : OpenClaim := { program := "ytbnmjbmlejifcaa", sum := "89e0a2cb049a5e2ee8fe4ceb3f47f7fe5032c811025471c1122886c679fcc939", func := "peavey/peaveylaw05.DrivePlans", spec := "drivePlans", unfollowed := true, recurses := true, plainKeys := false, apart := false }
def DrivePlansSaid : Prop := drivePlansRow.holds Try.pinned (OpenSpec.ofChange drivePlansSpec)

/-- ITS FALSE NEIGHBOUR: 'it returns false'. Refute it at one input. -/
def drivePlansWrong : ChangeSpec := { name := "drivePlans", fn := fun _ => fun
  | [d] => { results := [.lit (.bool false)], args := [d] }
  | _ => none }
def DrivePlansWrongFalsely : Prop := drivePlansRow.holds Try.pinned (OpenSpec.ofChange drivePlansWrong)

/-- 'peaveylaw05.DriveMosts': WHATEVER THE INPUT: true; the input reads as it did. -/
def driveMostsSpec : ChangeSpec := { name := "driveMosts", fn := fun _ => fun
  | [d1, d2, d3] => { results := [.lit (.bool true)], args := [d1, d2, d3] }
  | _ => none }
def driveMostsRow : OpenClaim := { program := "ytbnmjbmlejifcaa", sum := "89e0a2cb049a5e2ee8fe4ceb3f47f7fe5032c811025471c1122886c679fcc939", func := "peavey/peaveylaw05.DriveMosts", spec := "driveMosts", unfollowed := true, recurses := true, plainKeys := false, apart := false }
def DriveMostsSaid : Prop := driveMostsRow.holds Try.pinned (OpenSpec.ofChange driveMostsSpec)

/-- ITS FALSE NEIGHBOUR: 'it returns false'. Refute it at one input. -/
def driveMostsWrong : ChangeSpec := { name := "driveMosts", fn := fun _ => fun
  | [d1, d2, d3] => { results := [.lit (.bool false)], args := [d1, d2, d3] }
  | _ => none }
def DriveMostsWrongFalsely : Prop := driveMostsRow.holds Try.pinned (OpenSpec.ofChange driveMostsWrong)

/-- 'peaveylaw05.DriveCuts': WHATEVER THE INPUT: true; the input reads as it did. -/
def driveCutsSpec : ChangeSpec := { name := "driveCuts", fn := fun _ => fun
  | [d1, d2, d3] => { results := [.lit (.bool true)], args := [d1, d2, d3] }
  | _ => none }
def driveCutsRow : OpenClaim := { program := "ytbnmjbmlejifcaa", sum := "89e0a2cb049a5e2ee8fe4ceb3f47f7fe5032c811025471c1122886c679fcc939", func := "peavey/peaveylaw05.DriveCuts", spec := "driveCuts", unfollowed := true, recurses := true, plainKeys := false, apart := false }
def DriveCutsSaid : Prop := driveCutsRow.holds Try.pinned (OpenSpec.ofChange driveCutsSpec)

/-- ITS FALSE NEIGHBOUR: 'it returns false'. Refute it at one input. -/
def driveCutsWrong : ChangeSpec := { name := "driveCuts", fn := fun _ => fun
  | [d1, d2, d3] => { results := [.lit (.bool false)], args := [d1, d2, d3] }
  | _ => none }
def DriveCutsWrongFalsely : Prop := driveCutsRow.holds Try.pinned (OpenSpec.ofChange driveCutsWrong)

/-- 'peaveylaw05.DriveWorths': WHATEVER THE INPUT: true; the input reads as it did. -/
def driveWorthsSpec : ChangeSpec := { name := "driveWorths", fn := fun _ => fun
  | [d1, d2, d3] => { results := [.lit (.bool true)], args := [d1, d2, d3] }
  | _ => none }
def driveWorthsRow : OpenClaim := { program := "ytbnmjbmlejifcaa", sum := "89e0a2cb049a5e2ee8fe4ceb3f47f7fe5032c811025471c1122886c679fcc939", func := "peavey/peaveylaw05.DriveWorths", spec := "driveWorths", unfollowed := true, recurses := true, plainKeys := false, apart := false }
def DriveWorthsSaid : Prop := driveWorthsRow.holds Try.pinned (OpenSpec.ofChange driveWorthsSpec)

/-- ITS FALSE NEIGHBOUR: 'it returns false'. Refute it at one input. -/
def driveWorthsWrong : ChangeSpec := { name := "driveWorths", fn := fun _ => fun
  | [d1, d2, d3] => { results := [.lit (.bool false)], args := [d1, d2, d3] }
  | _ => none }
def DriveWorthsWrongFalsely : Prop := driveWorthsRow.holds Try.pinned (OpenSpec.ofChange driveWorthsWrong)

/-- 'peaveylaw05.DriveProved': WHATEVER THE INPUT: true; the input reads as it did. -/
def driveProvedSpec : ChangeSpec := { name := "driveProved", fn := fun _ => fun
  | [d1, d2, d3, d4] => { results := [.lit (.bool true)], args := [d1, d2, d3, d4] }
  | _ => none }
def driveProvedRow : OpenClaim := { program := "ytbnmjbmlejifcaa", sum := "89e0a2cb049a5e2ee8fe4ceb3f47f7fe5032c811025471c1122886c679fcc939", func := "peavey/peaveylaw05.DriveProved", spec := "driveProved", unfollowed := true, recurses := true, plainKeys := false, apart := false }
def DriveProvedSaid : Prop := driveProvedRow.holds Try.pinned (OpenSpec.ofChange driveProvedSpec)

/-- ITS FALSE NEIGHBOUR: 'it returns false'. Refute it at one input. -/
def driveProvedWrong : ChangeSpec := { name := "driveProved", fn := fun _ => fun
  | [d1, d2, d3, d4] => { results := [.lit (.bool false)], args := [d1, d2, d3, d4] }
  | _ => none }
def DriveProvedWrongFalsely : Prop := driveProvedRow.holds Try.pinned (OpenSpec.ofChange driveProvedWrong)

/-- 'peaveylaw05.DriveEarly': WHATEVER THE INPUT: true; the input reads as it did. -/
def driveEarlySpec : ChangeSpec := { name := "driveEarly", fn := fun _ => fun
  | [d1, d2, d3, d4] => { results := [.lit (.bool true)], args := [d1, d2, d3, d4] }
  | _ => none }
def driveEarlyRow : OpenClaim := { program := "ytbnmjbmlejifcaa", sum := "89e0a2cb049a5e2ee8fe4ceb3f47f7fe5032c811025471c1122886c679fcc939", func := "peavey/peaveylaw05.DriveEarly", spec := "driveEarly", unfollowed := true, recurses := true, plainKeys := false, apart := false }
def DriveEarlySaid : Prop := driveEarlyRow.holds Try.pinned (OpenSpec.ofChange driveEarlySpec)

/-- ITS FALSE NEIGHBOUR: 'it returns false'. Refute it at one input. -/
def driveEarlyWrong : ChangeSpec := { name := "driveEarly", fn := fun _ => fun
  | [d1, d2, d3, d4] => { results := [.lit (.bool false)], args := [d1, d2, d3, d4] }
  | _ => none }
def DriveEarlyWrongFalsely : Prop := driveEarlyRow.holds Try.pinned (OpenSpec.ofChange driveEarlyWrong)

/-- 'peaveylaw05.DriveBy': WHATEVER THE INPUT: true; the input reads as it did. -/
def driveBySpec : ChangeSpec := { name := "driveBy", fn := fun _ => fun
  | [d1, d2, d3, d4] => { results := [.lit (.bool true)], args := [d1, d2, d3, d4] }
  | _ => none }
def driveByRow : OpenClaim := { program := "ytbnmjbmlejifcaa", sum := "89e0a2cb049a5e2ee8fe4ceb3f47f7fe5032c811025471c1122886c679fcc939", func := "peavey/peaveylaw05.DriveBy", spec := "driveBy", unfollowed := true, recurses := true, plainKeys := false, apart := false }
def DriveBySaid : Prop := driveByRow.holds Try.pinned (OpenSpec.ofChange driveBySpec)

/-- ITS FALSE NEIGHBOUR: 'it returns false'. Refute it at one input. -/
def driveByWrong : ChangeSpec := { name := "driveBy", fn := fun _ => fun
  | [d1, d2, d3, d4] => { results := [.lit (.bool false)], args := [d1, d2, d3, d4] }
  | _ => none }
def DriveByWrongFalsely : Prop := driveByRow.holds Try.pinned (OpenSpec.ofChange driveByWrong)

/-- 'peaveylaw05.DriveWorth': WHATEVER THE INPUT: true; the input reads as it did. -/
def driveWorthSpec : ChangeSpec := { name := "driveWorth", fn := fun _ => fun
  | [d1, d2, d3] => { results := [.lit (.bool true)], args := [d1, d2, d3] }
  | _ => none }
def driveWorthRow : OpenClaim := { program := "ytbnmjbmlejifcaa", sum := "89e0a2cb049a5e2ee8fe4ceb3f47f7fe5032c811025471c1122886c679fcc939", func := "peavey/peaveylaw05.DriveWorth", spec := "driveWorth", unfollowed := true, recurses := true, plainKeys := false, apart := false }
def DriveWorthSaid : Prop := driveWorthRow.holds Try.pinned (OpenSpec.ofChange driveWorthSpec)

/-- ITS FALSE NEIGHBOUR: 'it returns false'. Refute it at one input. -/
def driveWorthWrong : ChangeSpec := { name := "driveWorth", fn := fun _ => fun
  | [d1, d2, d3] => { results := [.lit (.bool false)], args := [d1, d2, d3] }
  | _ => none }
def DriveWorthWrongFalsely : Prop := driveWorthRow.holds Try.pinned (OpenSpec.ofChange driveWorthWrong)

/-- 'peaveylaw05.DriveLatest': WHATEVER THE INPUT: true; the input reads as it did. -/
def driveLatestSpec : ChangeSpec := { name := "driveLatest", fn := fun _ => fun
  | [d1, d2, d3, d4] => { results := [.lit (.bool true)], args := [d1, d2, d3, d4] }
  | _ => none }
def driveLatestRow : OpenClaim := { program := "ytbnmjbmlejifcaa", sum := "89e0a2cb049a5e2ee8fe4ceb3f47f7fe5032c811025471c1122886c679fcc939", func := "peavey/peaveylaw05.DriveLatest", spec := "driveLatest", unfollowed := true, recurses := true, plainKeys := false, apart := false }
def DriveLatestSaid : Prop := driveLatestRow.holds Try.pinned (OpenSpec.ofChange driveLatestSpec)

/-- ITS FALSE NEIGHBOUR: 'it returns false'. Refute it at one input. -/
def driveLatestWrong : ChangeSpec := { name := "driveLatest", fn := fun _ => fun
  | [d1, d2, d3, d4] => { results := [.lit (.bool false)], args := [d1, d2, d3, d4] }
  | _ => none }
def DriveLatestWrongFalsely : Prop := driveLatestRow.holds Try.pinned (OpenSpec.ofChange driveLatestWrong)

/-- 'peaveylaw05.DriveTimes': WHATEVER THE INPUT: true; the input reads as it did. -/
def driveTimesSpec : ChangeSpec := { name := "driveTimes", fn := fun _ => fun
  | [d1, d2, d3, d4, d5] => { results := [.lit (.bool true)], args := [d1, d2, d3, d4, d5] }
  | _ => none }
def driveTimesRow : OpenClaim := { program := "ytbnmjbmlejifcaa", sum := "89e0a2cb049a5e2ee8fe4ceb3f47f7fe5032c811025471c1122886c679fcc939", func := "peavey/peaveylaw05.DriveTimes", spec := "driveTimes", unfollowed := true, recurses := true, plainKeys := false, apart := false }
def DriveTimesSaid : Prop := driveTimesRow.holds Try.pinned (OpenSpec.ofChange driveTimesSpec)

/-- ITS FALSE NEIGHBOUR: 'it returns false'. Refute it at one input. -/
def driveTimesWrong : ChangeSpec := { name := "driveTimes", fn := fun _ => fun
  | [d1, d2, d3, d4, d5] => { results := [.lit (.bool false)], args := [d1, d2, d3, d4, d5] }
  | _ => none }
def DriveTimesWrongFalsely : Prop := driveTimesRow.holds Try.pinned (OpenSpec.ofChange driveTimesWrong)

/-- 'peaveylaw05.DriveMoved': WHATEVER THE INPUT: true; the input reads as it did. -/
def driveMovedSpec : ChangeSpec := { name := "driveMoved", fn := fun _ => fun
  | [d1, d2, d3] => { results := [.lit (.bool true)], args := [d1, d2, d3] }
  | _ => none }
def driveMovedRow : OpenClaim := { program := "ytbnmjbmlejifcaa", sum := "89e0a2cb049a5e2ee8fe4ceb3f47f7fe5032c811025471c1122886c679fcc939", func := "peavey/peaveylaw05.DriveMoved", spec := "driveMoved", unfollowed := true, recurses := true, plainKeys := false, apart := false }
def DriveMovedSaid : Prop := driveMovedRow.holds Try.pinned (OpenSpec.ofChange driveMovedSpec)

/-- ITS FALSE NEIGHBOUR: 'it returns false'. Refute it at one input. -/
def driveMovedWrong : ChangeSpec := { name := "driveMoved", fn := fun _ => fun
  | [d1, d2, d3] => { results := [.lit (.bool false)], args := [d1, d2, d3] }
  | _ => none }
def DriveMovedWrongFalsely : Prop := driveMovedRow.holds Try.pinned (OpenSpec.ofChange driveMovedWrong)

/-- 'peaveylaw05.DriveMore': WHATEVER THE INPUT: true; the input reads as it did. -/
def driveMoreSpec : ChangeSpec := { name := "driveMore", fn := fun _ => fun
  | [d1, d2, d3, d4] => { results := [.lit (.bool true)], args := [d1, d2, d3, d4] }
  | _ => none }
def driveMoreRow : OpenClaim := { program := "ytbnmjbmlejifcaa", sum := "89e0a2cb049a5e2ee8fe4ceb3f47f7fe5032c811025471c1122886c679fcc939", func := "peavey/peaveylaw05.DriveMore", spec := "driveMore", unfollowed := true, recurses := true, plainKeys := false, apart := false }
def DriveMoreSaid : Prop := driveMoreRow.holds Try.pinned (OpenSpec.ofChange driveMoreSpec)

/-- ITS FALSE NEIGHBOUR: 'it returns false'. Refute it at one input. -/
def driveMoreWrong : ChangeSpec := { name := "driveMore", fn := fun _ => fun
  | [d1, d2, d3, d4] => { results := [.lit (.bool false)], args := [d1, d2, d3, d4] }
  | _ => none }
def DriveMoreWrongFalsely : Prop := driveMoreRow.holds Try.pinned (OpenSpec.ofChange driveMoreWrong)

/-- 'peaveylaw05.DrivePut': WHATEVER THE INPUT: true; the input reads as it did. -/
def drivePutSpec : ChangeSpec := { name := "drivePut", fn := fun _ => fun
  | [d1, d2, d3] => { results := [.lit (.bool true)], args := [d1, d2, d3] }
  | _ => none }
def drivePutRow : OpenClaim := { program := "ytbnmjbmlejifcaa", sum := "89e0a2cb049a5e2ee8fe4ceb3f47f7fe5032c811025471c1122886c679fcc939", func := "peavey/peaveylaw05.DrivePut", spec := "drivePut", unfollowed := true, recurses := true, plainKeys := false, apart := false }
def DrivePutSaid : Prop := drivePutRow.holds Try.pinned (OpenSpec.ofChange drivePutSpec)

/-- ITS FALSE NEIGHBOUR: 'it returns false'. Refute it at one input. -/
def drivePutWrong : ChangeSpec := { name := "drivePut", fn := fun _ => fun
  | [d1, d2, d3] => { results := [.lit (.bool false)], args := [d1, d2, d3] }
  | _ => none }
def DrivePutWrongFalsely : Prop := drivePutRow.holds Try.pinned (OpenSpec.ofChange drivePutWrong)

/-- 'peaveylaw05.DriveKnown': WHATEVER THE INPUT: true; the input reads as it did. -/
def driveKnownSpec : ChangeSpec := { name := "driveKnown", fn := fun _ => fun
  | [] => { results := [.lit (.bool true)], args := [] }
  | _ => none }
def driveKnownRow : OpenClaim := { program := "ytbnmjbmlejifcaa", sum := "89e0a2cb049a5e2ee8fe4ceb3f47f7fe5032c811025471c1122886c679fcc939", func := "peavey/peaveylaw05.DriveKnown", spec := "driveKnown", unfollowed := true, recurses := true, plainKeys := false, apart := false }
def DriveKnownSaid : Prop := driveKnownRow.holds Try.pinned (OpenSpec.ofChange driveKnownSpec)

/-- ITS FALSE NEIGHBOUR: 'it returns false'. Refute it at one input. -/
def driveKnownWrong : ChangeSpec := { name := "driveKnown", fn := fun _ => fun
  | [] => { results := [.lit (.bool false)], args := [] }
  | _ => none }
def DriveKnownWrongFalsely : Prop := driveKnownRow.holds Try.pinned (OpenSpec.ofChange driveKnownWrong)

/- THE SECOND FORM. 'bulk': how many values and letters a reading holds, each counted each time it is reached (what is shared counts as often as it is met; a slice's spare places count too). A statement '..UptoSaid' is the law's where the arguments, and the package variables that the reading takes, are together of bulk at most 1048576: NARROWER than '..Said'. Prove '..Said' where nothing that the law and all that it calls make is longer than what came in: it says more and counts as full. Else prove '..UptoSaid'. A law counts once. -/
mutual
def uptoBulk {H : Type} : DataW H → Nat
  | .lit (.string bytes) => bytes.length + 1
  | .lit _ => 1
  | .nil => 1
  | .ptr d => uptoBulk d + 1
  | .slice elems spare => uptoBulkAll elems + uptoBulkAll spare + 1
  | .agg parts => uptoBulkAll parts + 1
  | .iface _ d => uptoBulk d + 1
  | .map entries => uptoBulkEntries entries + 1
  | .held _ => 1
def uptoBulkAll {H : Type} : List (DataW H) → Nat
  | [] => 0
  | d :: r => uptoBulk d + uptoBulkAll r
def uptoBulkEntries {H : Type} : List (Lit × DataW H) → Nat
  | [] => 0
  | x :: r => uptoBulkEntry x + uptoBulkEntries r
def uptoBulkEntry {H : Type} : Lit × DataW H → Nat
  | (.string bytes, d) => bytes.length + uptoBulk d + 1
  | (_, d) => uptoBulk d + 1
 end
def uptoSmall : (H : Type) → List (DataW H) → Bool := fun _ ds => decide (uptoBulkAll ds ≤ 1048576)
def OpenSpec.upto (s : _root_.Go.ChangeSpec) : _root_.Go.OpenSpec := { _root_.Go.OpenSpec.ofChange s with cond := some uptoSmall }

/-- 'peaveylaw05.DriveRivers', WHERE WHAT IT READS IS OF BULK AT MOST 1048576: true; the input reads as it did. -/
def driveRiversUptoRow : OpenClaim := { program := "ytbnmjbmlejifcaa", sum := "89e0a2cb049a5e2ee8fe4ceb3f47f7fe5032c811025471c1122886c679fcc939", func := "peavey/peaveylaw05.DriveRivers", spec := "driveRivers", unfollowed := true, recurses := true, plainKeys := false, apart := false, narrowed := true }
def DriveRiversUptoSaid : Prop := driveRiversUptoRow.holds Try.pinned (OpenSpec.upto driveRiversSpec)

/-- 'peaveylaw05.DrivePlans', WHERE WHAT IT READS IS OF BULK AT MOST 1048576: true; the input reads as it did. -/
def drivePlansUptoRow : OpenClaim := { program := "ytbnmjbmlejifcaa", sum := "89e0a2cb049a5e2ee8fe4ceb3f47f7fe5032c811025471c1122886c679fcc939", func := "peavey/peaveylaw05.DrivePlans", spec := "drivePlans", unfollowed := true, recurses := true, plainKeys := false, apart := false, narrowed := true }
def DrivePlansUptoSaid : Prop := drivePlansUptoRow.holds Try.pinned (OpenSpec.upto drivePlansSpec)

/-- 'peaveylaw05.DriveMosts', WHERE WHAT IT READS IS OF BULK AT MOST 1048576: true; the input reads as it did. -/
def driveMostsUptoRow : OpenClaim := { program := "ytbnmjbmlejifcaa", sum := "89e0a2cb049a5e2ee8fe4ceb3f47f7fe5032c811025471c1122886c679fcc939", func := "peavey/peaveylaw05.DriveMosts", spec := "driveMosts", unfollowed := true, recurses := true, plainKeys := false, apart := false, narrowed := true }
def DriveMostsUptoSaid : Prop := driveMostsUptoRow.holds Try.pinned (OpenSpec.upto driveMostsSpec)

/-- 'peaveylaw05.DriveCuts', WHERE WHAT IT READS IS OF BULK AT MOST 1048576: true; the input reads as it did. -/
def driveCutsUptoRow : OpenClaim := { program := "ytbnmjbmlejifcaa", sum := "89e0a2cb049a5e2ee8fe4ceb3f47f7fe5032c811025471c1122886c679fcc939", func := "peavey/peaveylaw05.DriveCuts", spec := "driveCuts", unfollowed := true, recurses := true, plainKeys := false, apart := false, narrowed := true }
def DriveCutsUptoSaid : Prop := driveCutsUptoRow.holds Try.pinned (OpenSpec.upto driveCutsSpec)

/-- 'peaveylaw05.DriveWorths', WHERE WHAT IT READS IS OF BULK AT MOST 1048576: true; the input reads as it did. -/
def driveWorthsUptoRow : OpenClaim := { program := "ytbnmjbmlejifcaa", sum := "89e0a2cb049a5e2ee8fe4ceb3f47f7fe5032c811025471c1122886c679fcc939", func := "peavey/peaveylaw05.DriveWorths", spec := "driveWorths", unfollowed := true, recurses := true, plainKeys := false, apart := false, narrowed := true }
def DriveWorthsUptoSaid : Prop := driveWorthsUptoRow.holds Try.pinned (OpenSpec.upto driveWorthsSpec)

/-- 'peaveylaw05.DriveProved', WHERE WHAT IT READS IS OF BULK AT MOST 1048576: true; the input reads as it did. -/
def driveProvedUptoRow : OpenClaim := { program := "ytbnmjbmlejifcaa", sum := "89e0a2cb049a5e2ee8fe4ceb3f47f7fe5032c811025471c1122886c679fcc939", func := "peavey/peaveylaw05.DriveProved", spec := "driveProved", unfollowed := true, recurses := true, plainKeys := false, apart := false, narrowed := true }
def DriveProvedUptoSaid : Prop := driveProvedUptoRow.holds Try.pinned (OpenSpec.upto driveProvedSpec)

/-- 'peaveylaw05.DriveEarly', WHERE WHAT IT READS IS OF BULK AT MOST 1048576: true; the input reads as it did. -/
def driveEarlyUptoRow : OpenClaim := { program := "ytbnmjbmlejifcaa", sum := "89e0a2cb049a5e2ee8fe4ceb3f47f7fe5032c811025471c1122886c679fcc939", func := "peavey/peaveylaw05.DriveEarly", spec := "driveEarly", unfollowed := true, recurses := true, plainKeys := false, apart := false, narrowed := true }
def DriveEarlyUptoSaid : Prop := driveEarlyUptoRow.holds Try.pinned (OpenSpec.upto driveEarlySpec)

/-- 'peaveylaw05.DriveBy', WHERE WHAT IT READS IS OF BULK AT MOST 1048576: true; the input reads as it did. -/
def driveByUptoRow : OpenClaim := { program := "ytbnmjbmlejifcaa", sum := "89e0a2cb049a5e2ee8fe4ceb3f47f7fe5032c811025471c1122886c679fcc939", func := "peavey/peaveylaw05.DriveBy", spec := "driveBy", unfollowed := true, recurses := true, plainKeys := false, apart := false, narrowed := true }
def DriveByUptoSaid : Prop := driveByUptoRow.holds Try.pinned (OpenSpec.upto driveBySpec)

/-- 'peaveylaw05.DriveWorth', WHERE WHAT IT READS IS OF BULK AT MOST 1048576: true; the input reads as it did. -/
def driveWorthUptoRow : OpenClaim := { program := "ytbnmjbmlejifcaa", sum := "89e0a2cb049a5e2ee8fe4ceb3f47f7fe5032c811025471c1122886c679fcc939", func := "peavey/peaveylaw05.DriveWorth", spec := "driveWorth", unfollowed := true, recurses := true, plainKeys := false, apart := false, narrowed := true }
def DriveWorthUptoSaid : Prop := driveWorthUptoRow.holds Try.pinned (OpenSpec.upto driveWorthSpec)

/-- 'peaveylaw05.DriveLatest', WHERE WHAT IT READS IS OF BULK AT MOST 1048576: true; the input reads as it did. -/
def driveLatestUptoRow : OpenClaim := { program := "ytbnmjbmlejifcaa", sum := "89e0a2cb049a5e2ee8fe4ceb3f47f7fe5032c811025471c1122886c679fcc939", func := "peavey/peaveylaw05.DriveLatest", spec := "driveLatest", unfollowed := true, recurses := true, plainKeys := false, apart := false, narrowed := true }
def DriveLatestUptoSaid : Prop := driveLatestUptoRow.holds Try.pinned (OpenSpec.upto driveLatestSpec)

/-- 'peaveylaw05.DriveTimes', WHERE WHAT IT READS IS OF BULK AT MOST 1048576: true; the input reads as it did. -/
def driveTimesUptoRow : OpenClaim := { program := "ytbnmjbmlejifcaa", sum := "89e0a2cb049a5e2ee8fe4ceb3f47f7fe5032c811025471c1122886c679fcc939", func := "peavey/peaveylaw05.DriveTimes", spec := "driveTimes", unfollowed := true, recurses := true, plainKeys := false, apart := false, narrowed := true }
def DriveTimesUptoSaid : Prop := driveTimesUptoRow.holds Try.pinned (OpenSpec.upto driveTimesSpec)

/-- 'peaveylaw05.DriveMoved', WHERE WHAT IT READS IS OF BULK AT MOST 1048576: true; the input reads as it did. -/
def driveMovedUptoRow : OpenClaim := { program := "ytbnmjbmlejifcaa", sum := "89e0a2cb049a5e2ee8fe4ceb3f47f7fe5032c811025471c1122886c679fcc939", func := "peavey/peaveylaw05.DriveMoved", spec := "driveMoved", unfollowed := true, recurses := true, plainKeys := false, apart := false, narrowed := true }
def DriveMovedUptoSaid : Prop := driveMovedUptoRow.holds Try.pinned (OpenSpec.upto driveMovedSpec)

/-- 'peaveylaw05.DriveMore', WHERE WHAT IT READS IS OF BULK AT MOST 1048576: true; the input reads as it did. -/
def driveMoreUptoRow : OpenClaim := { program := "ytbnmjbmlejifcaa", sum := "89e0a2cb049a5e2ee8fe4ceb3f47f7fe5032c811025471c1122886c679fcc939", func := "peavey/peaveylaw05.DriveMore", spec := "driveMore", unfollowed := true, recurses := true, plainKeys := false, apart := false, narrowed := true }
def DriveMoreUptoSaid : Prop := driveMoreUptoRow.holds Try.pinned (OpenSpec.upto driveMoreSpec)

/-- 'peaveylaw05.DrivePut', WHERE WHAT IT READS IS OF BULK AT MOST 1048576: true; the input reads as it did. -/
def drivePutUptoRow : OpenClaim := { program := "ytbnmjbmlejifcaa", sum := "89e0a2cb049a5e2ee8fe4ceb3f47f7fe5032c811025471c1122886c679fcc939", func := "peavey/peaveylaw05.DrivePut", spec := "drivePut", unfollowed := true, recurses := true, plainKeys := false, apart := false, narrowed := true }
def DrivePutUptoSaid : Prop := drivePutUptoRow.holds Try.pinned (OpenSpec.upto drivePutSpec)

/-- 'peaveylaw05.DriveKnown', WHERE WHAT IT READS IS OF BULK AT MOST 1048576: true; the input reads as it did. -/
def driveKnownUptoRow : OpenClaim := { program := "ytbnmjbmlejifcaa", sum := "89e0a2cb049a5e2ee8fe4ceb3f47f7fe5032c811025471c1122886c679fcc939", func := "peavey/peaveylaw05.DriveKnown", spec := "driveKnown", unfollowed := true, recurses := true, plainKeys := false, apart := false, narrowed := true }
def DriveKnownUptoSaid : Prop := driveKnownUptoRow.holds Try.pinned (OpenSpec.upto driveKnownSpec)

end Rows
end Go.Proofs.Ytbnmjbmlejifcaa
