/- What the boom computes (plain). -/
import Derived.Test.YtlkoadcbolkhoaaKit
set_option linter.all false
namespace Go.Proofs.Ytlkoadcbolkhoaa

/-- Numbers from one to another one. -/
def inB (lo hi n : Int) : Bool := decide (lo ≤ n) && decide (n ≤ hi)
/-- A strictly increasing list of cells, from one on. -/
def listB (n : Int) : Int → List Int → Bool
  | _, [] => true
  | k, x :: l => decide (k ≤ x) && decide (x ≤ n - 1) && listB n (x + 1) l
/-- Which pond is valid. -/
def pondE (wd hg : Int) (want keep : List Int) : Int :=
  if ¬ (1 ≤ wd ∧ wd ≤ 8 ∧ 1 ≤ hg ∧ hg ≤ 8) then 3
  else if listB (wd * hg) 0 want = false ∨ listB (wd * hg) 0 keep = false then 2
  else if want.any (fun n => keep.contains n) = true then 11 else 0
/-- The neighbour in a direction; -1: none. -/
def nbr (wd hg c d : Int) : Int :=
  if d = 0 then (if c % wd + 1 < wd then c + 1 else -1)
  else if d = 1 then (if c / wd + 1 < hg then c + wd else -1)
  else if d = 2 then (if 0 < c % wd then c - 1 else -1)
  else (if 0 < c / wd then c - wd else -1)
/-- How many sticks a cell of the water has. -/
def stickC (wd hg : Int) (water : List Int) (c : Int) (d : Int) : Int := if nbr wd hg c d < 0 ∨ water.contains (nbr wd hg c d) = false then 1 else 0
def stickN (wd hg : Int) (water : List Int) : List Int → Int
  | [] => 0
  | c :: l => stickC wd hg water c 0 + stickC wd hg water c 1 + stickC wd hg water c 2 + stickC wd hg water c 3 + stickN wd hg water l
def enclB (want keep water : List Int) : Bool := !(keep.any fun n => water.contains n) && !(want.any fun n => !water.contains n)
def sticksE (wd hg : Int) (want keep water : List Int) : Int :=
  if pondE wd hg want keep ≠ 0 then pondE wd hg want keep
  else if listB (wd * hg) 0 water = false then 2
  else if enclB want keep water = false then 19 else 0
def sticksV (wd hg : Int) (want keep water : List Int) : Int := if sticksE wd hg want keep water = 0 then stickN wd hg water water else 0

/-! ### Ways over sides -/
/-- A side of a cell, in a direction. -/
abbrev Side := Int × Int
abbrev Used := Int × Int → Int
def putU (u : Used) (s : Side) (v : Int) : Used := fun q => if q = s then v else u q
inductive Out
  | go (by_ : List Side) (wait : List Int)
  | stop (by_ : List Side) (last : Side)
/-- The directions of a cell, one after another. -/
def dirsF (u : Used) (wd hg c : Int) : Nat → Int → List Side → List Int → Out
  | 0, _, by_, wait => .go by_ wait
  | k + 1, d, by_, wait =>
    if ¬ u (c, d) < 1 then dirsF u wd hg c k (d + 1) by_ wait
    else if nbr wd hg c d < 0 then .stop by_ (c, d)
    else if (by_.getD (nbr wd hg c d).toNat (0, 0)).1 < 0 then dirsF u wd hg c k (d + 1) (by_.set (nbr wd hg c d).toNat (c, d)) (wait ++ [nbr wd hg c d])
    else dirsF u wd hg c k (d + 1) by_ wait
/-- From where each cell is reached. -/
def reachF (u : Used) (wd hg : Int) (keep : List Int) : Nat → List Side → List Int → List Side × Side × Bool
  | 0, by_, _ => (by_, (0, 0), false)
  | _ + 1, by_, [] => (by_, (0, 0), false)
  | f + 1, by_, c :: wait =>
    if keep.contains c = true then (by_, (c, -1), true)
    else match dirsF u wd hg c 4 0 by_ wait with
      | .stop by_ last => (by_, last, true)
      | .go by_ wait => reachF u wd hg keep f by_ wait
/-- At first: those that are wanted. -/
def byW : List Int → List Side → List Side
  | [], by_ => by_
  | c :: l, by_ => byW l (by_.set c.toNat (c, -1))
def by0 (n : Nat) (want : List Int) : List Side := byW want (List.replicate n (-1, -1))
def reachU (u : Used) (wd hg : Int) (want keep : List Int) : List Side × Side × Bool := reachF u wd hg keep ((wd * hg).toNat + 1) (by0 (wd * hg).toNat want) want
def overU (u : Used) (s : Side) (to : Int) : Used :=
  if 0 ≤ to then (if 0 < u (to, (s.2 + 2) % 4) then putU u (to, (s.2 + 2) % 4) 0 else putU u s 1) else putU u s 1
/-- Back along the sides over which cells were reached. -/
def chainU (by_ : List Side) : Nat → Int → Used → Used
  | 0, _, u => u
  | f + 1, at_, u => if 0 ≤ (by_.getD at_.toNat (0, 0)).2 then chainU by_ f (by_.getD at_.toNat (0, 0)).1 (overU u (by_.getD at_.toNat (0, 0)) at_) else u
/-- One more way. -/
def oneU (u : Used) (wd hg : Int) (want keep : List Int) : Option Used :=
  match reachU u wd hg want keep with
  | (_, _, false) => none
  | (by_, last, true) => some (chainU by_ (wd * hg).toNat last.1 (if 0 ≤ last.2 then overU u last (-1) else u))
/-- As many ways as there can be. -/
def raftU (wd hg : Int) (want keep : List Int) : Nat → Used → Nat → Used × Nat
  | 0, u, m => (u, m)
  | f + 1, u, m => match oneU u wd hg want keep with
    | none => (u, m)
    | some u' => raftU wd hg want keep f u' (m + 1)
def raft (wd hg : Int) (want keep : List Int) : Used × Nat := raftU wd hg want keep 257 (fun _ => 0) 0
/-- The cells that are reached. -/
def smallL (wd hg : Int) (want keep : List Int) : List Int := ((List.range (wd * hg).toNat).map fun (i : Nat) => (i : Int)).filter fun c => decide (0 ≤ ((reachU (raft wd hg want keep).1 wd hg want keep).1.getD c.toNat (0, 0)).1)
/-- One direction of a cell: what is lost. -/
def loseD (u : Used) (wd hg c d : Int) (st : List Int × Bool) : List Int × Bool :=
  if st.1.getD c.toNat 0 = 0 ∧ u (c, d) < 1 ∧ (nbr wd hg c d < 0 ∨ st.1.getD (nbr wd hg c d).toNat 0 = 1) then (st.1.set c.toNat 1, true) else st
def loseC (u : Used) (wd hg c : Int) (st : List Int × Bool) : List Int × Bool := loseD u wd hg c 3 (loseD u wd hg c 2 (loseD u wd hg c 1 (loseD u wd hg c 0 st)))
def losePass (u : Used) (wd hg : Int) : Nat → Nat → List Int × Bool → List Int × Bool
  | 0, _, st => st
  | k + 1, c, st => losePass u wd hg k (c + 1) (loseC u wd hg c st)
def loseF (u : Used) (wd hg : Int) : Nat → List Int → List Int
  | 0, l => l
  | f + 1, l => if (losePass u wd hg (wd * hg).toNat 0 (l, false)).2 = true then loseF u wd hg f (losePass u wd hg (wd * hg).toNat 0 (l, false)).1 else (losePass u wd hg (wd * hg).toNat 0 (l, false)).1
def lost0 (n : Nat) : List Int → List Int
  | l => l.foldl (fun s c => s.set c.toNat 1) (List.replicate n 0)
def lostL (u : Used) (wd hg : Int) (keep : List Int) : List Int := loseF u wd hg ((wd * hg).toNat + 1) (lost0 (wd * hg).toNat keep)
def largeL (wd hg : Int) (want keep : List Int) : List Int := ((List.range (wd * hg).toNat).map fun (i : Nat) => (i : Int)).filter fun c => decide ((lostL (raft wd hg want keep).1 wd hg keep).getD c.toNat 0 = 0)
def kindE (wd hg : Int) (want keep : List Int) (c : Int) : Int := if (smallL wd hg want keep).contains c = true then 2 else if (largeL wd hg want keep).contains c = true then 1 else 0
/-- A way: its cells, and over which edge. -/
structure Way where
  cells : List Int
  out : Int
/-- The first direction over which a way leads. -/
def dirU (u : Used) (c : Int) : Int := if u (c, 0) = 1 then 0 else if u (c, 1) = 1 then 1 else if u (c, 2) = 1 then 2 else if u (c, 3) = 1 then 3 else -1
def noneU (u : Used) (c : Int) : Bool := decide (u (c, 0) = 0 ∧ u (c, 1) = 0 ∧ u (c, 2) = 0 ∧ u (c, 3) = 0)
/-- A circle is left out. -/
def cutL (l : List Int) (c : Int) : List Int := l.takeWhile (fun x => decide (x ≠ c))
/-- A way is taken away. -/
def takeU (wd hg : Int) (keep : List Int) : Nat → Used → Int → List Int → Used × Way × Bool
  | 0, u, _, cells => (u, ⟨cells, -1⟩, false)
  | f + 1, u, c, cells =>
    if noneU u c = true then (u, ⟨cells, -1⟩, keep.contains c)
    else if nbr wd hg c (dirU u c) < 0 then (putU u (c, dirU u c) 0, ⟨cells, dirU u c⟩, true)
    else takeU wd hg keep f (putU u (c, dirU u c) 0) (nbr wd hg c (dirU u c)) (cutL cells (nbr wd hg c (dirU u c)) ++ [nbr wd hg c (dirU u c)])
def takeC (wd hg : Int) (keep : List Int) (u : Used) (c : Int) : Used × Way × Bool := takeU wd hg keep 257 u c [c]
/-- The first cell that is wanted from which a way leads. -/
def firstW (wd hg : Int) (keep : List Int) : List Int → Used → Used × Option Way
  | [], u => (u, none)
  | c :: l, u => match takeC wd hg keep u c with
    | (u', w, true) => (u', some w)
    | (u', _, false) => firstW wd hg keep l u'
def waysU (wd hg : Int) (want keep : List Int) : Nat → Used → List Way → Used × List Way
  | 0, u, out => (u, out)
  | k + 1, u, out => match firstW wd hg keep want u with
    | (u', some w) => waysU wd hg want keep k u' (out ++ [w])
    | (u', none) => waysU wd hg want keep k u' out
def waysL (wd hg : Int) (want keep : List Int) : List Way := (waysU wd hg want keep (raft wd hg want keep).2 (raft wd hg want keep).1 []).2

end Go.Proofs.Ytlkoadcbolkhoaa
