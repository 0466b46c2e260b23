/-
  No cell of these rows narrows 'for every input' (looked for: loops, veiled, ifaces, maps, wideKeys, modest, calm, conditions, laid).
  DERIVED. THE GIVEN ROWS OF THIS SEAT. 15 by the template 'for every input the law returns true; each argument reads behind the call as it read before'; 0 by the template 'total and deterministic' (their statements: YtnldfjoadmehcaaTotals.lean).
  GIVEN WITH THE SEED: the statements are not yours to turn. If you find one false, say at which input.
  Laid BY PROGRAM, IN A SANDBOX (cutbox-rows.mjs): the forced cells as the released guide's own fill.sh prints them over the translation 866edf49434b28ae… (all of the seat's roots in one cut). By AI agents, Wed Nov 11 2026. No macro, syntax, notation, axiom, sorry.
-/
import Derived.Test.YtnldfjoadmehcaaChecked
import GoSem.Claim
import GoSem.ClaimJoined
import GoSem.ClaimMapViews
import Derived.JoinedTies
import Derived.KernelRfl
namespace Go.Proofs.Ytnldfjoadmehcaa
/- THE CELL 'sum', in the pinned program and in every row, IS THE sha256 OF THE DUMP (.gsa) THAT YtnldfjoadmehcaaProg.lean LOADS. Nothing in Lean hashes anything: it is a label: what it is worth is what the hold of that sum in a sandbox is worth. -/
noncomputable def Try.pinned : Pinned := { name := "ytnldfjoadmehcaa", sum := "866edf49434b28aefa154069a762b3b04fe74326c109d901e36bd70b6ff02a9a", checked := Try.checked }
namespace Rows
def none {H : Type} : Left H := { results := [], args := [] }

/-- 'garlandlaw05.SubTwice': WHATEVER THE INPUT: true; the input reads as it did. -/
def subTwiceSpec : ChangeSpec := { name := "subTwice", fn := fun _ => fun
  | [d1, d2, d3, d4] => { results := [.lit (.bool true)], args := [d1, d2, d3, d4] }
  | _ => none }
def subTwiceRow : OpenClaim := { program := "ytnldfjoadmehcaa", sum := "866edf49434b28aefa154069a762b3b04fe74326c109d901e36bd70b6ff02a9a", func := "garland/garlandlaw05.SubTwice", spec := "subTwice", unfollowed := true, recurses := true, apart := false }
def SubTwiceSaid : Prop := subTwiceRow.holds Try.pinned (OpenSpec.ofChange subTwiceSpec)

/-- ITS FALSE NEIGHBOUR: 'it returns false'. Refute it at one input. -/
def subTwiceWrong : ChangeSpec := { name := "subTwice", fn := fun _ => fun
  | [d1, d2, d3, d4] => { results := [.lit (.bool false)], args := [d1, d2, d3, d4] }
  | _ => none }
def SubTwiceWrongFalsely : Prop := subTwiceRow.holds Try.pinned (OpenSpec.ofChange subTwiceWrong)

/-- 'garlandlaw05.SubJoined': WHATEVER THE INPUT: true; the input reads as it did. -/
def subJoinedSpec : ChangeSpec := { name := "subJoined", fn := fun _ => fun
  | [d1, d2, d3] => { results := [.lit (.bool true)], args := [d1, d2, d3] }
  | _ => none }
def subJoinedRow : OpenClaim := { program := "ytnldfjoadmehcaa", sum := "866edf49434b28aefa154069a762b3b04fe74326c109d901e36bd70b6ff02a9a", func := "garland/garlandlaw05.SubJoined", spec := "subJoined", unfollowed := true, recurses := true, apart := false }
def SubJoinedSaid : Prop := subJoinedRow.holds Try.pinned (OpenSpec.ofChange subJoinedSpec)

/-- ITS FALSE NEIGHBOUR: 'it returns false'. Refute it at one input. -/
def subJoinedWrong : ChangeSpec := { name := "subJoined", fn := fun _ => fun
  | [d1, d2, d3] => { results := [.lit (.bool false)], args := [d1, d2, d3] }
  | _ => none }
def SubJoinedWrongFalsely : Prop := subJoinedRow.holds Try.pinned (OpenSpec.ofChange subJoinedWrong)

/-- 'garlandlaw05.SubEdges': WHATEVER THE INPUT: true; the input reads as it did. -/
def subEdgesSpec : ChangeSpec := { name := "subEdges", fn := fun _ => fun
  | [d1, d2, d3] => { results := [.lit (.bool true)], args := [d1, d2, d3] }
  | _ => none }
def subEdgesRow : OpenClaim := { program := "ytnldfjoadmehcaa", sum := "866edf49434b28aefa154069a762b3b04fe74326c109d901e36bd70b6ff02a9a", func := "garland/garlandlaw05.SubEdges", spec := "subEdges", unfollowed := true, recurses := true, apart := false }
def SubEdgesSaid : Prop := subEdgesRow.holds Try.pinned (OpenSpec.ofChange subEdgesSpec)

/-- ITS FALSE NEIGHBOUR: 'it returns false'. Refute it at one input. -/
def subEdgesWrong : ChangeSpec := { name := "subEdges", fn := fun _ => fun
  | [d1, d2, d3] => { results := [.lit (.bool false)], args := [d1, d2, d3] }
  | _ => none }
def SubEdgesWrongFalsely : Prop := subEdgesRow.holds Try.pinned (OpenSpec.ofChange subEdgesWrong)

/-- 'garlandlaw05.SubTells': WHATEVER THE INPUT: true; the input reads as it did. -/
def subTellsSpec : ChangeSpec := { name := "subTells", fn := fun _ => fun
  | [d1, d2, d3] => { results := [.lit (.bool true)], args := [d1, d2, d3] }
  | _ => none }
def subTellsRow : OpenClaim := { program := "ytnldfjoadmehcaa", sum := "866edf49434b28aefa154069a762b3b04fe74326c109d901e36bd70b6ff02a9a", func := "garland/garlandlaw05.SubTells", spec := "subTells", unfollowed := true, recurses := true, apart := false }
def SubTellsSaid : Prop := subTellsRow.holds Try.pinned (OpenSpec.ofChange subTellsSpec)

/-- ITS FALSE NEIGHBOUR: 'it returns false'. Refute it at one input. -/
def subTellsWrong : ChangeSpec := { name := "subTells", fn := fun _ => fun
  | [d1, d2, d3] => { results := [.lit (.bool false)], args := [d1, d2, d3] }
  | _ => none }
def SubTellsWrongFalsely : Prop := subTellsRow.holds Try.pinned (OpenSpec.ofChange subTellsWrong)

/-- 'garlandlaw10.GreedyTells': WHATEVER THE INPUT: true; the input reads as it did. -/
def greedyTellsSpec : ChangeSpec := { name := "greedyTells", fn := fun _ => fun
  | [d1, d2] => { results := [.lit (.bool true)], args := [d1, d2] }
  | _ => none }
def greedyTellsRow : OpenClaim := { program := "ytnldfjoadmehcaa", sum := "866edf49434b28aefa154069a762b3b04fe74326c109d901e36bd70b6ff02a9a", func := "garland/garlandlaw10.GreedyTells", spec := "greedyTells", unfollowed := true, recurses := true, apart := false }
def GreedyTellsSaid : Prop := greedyTellsRow.holds Try.pinned (OpenSpec.ofChange greedyTellsSpec)

/-- ITS FALSE NEIGHBOUR: 'it returns false'. Refute it at one input. -/
def greedyTellsWrong : ChangeSpec := { name := "greedyTells", fn := fun _ => fun
  | [d1, d2] => { results := [.lit (.bool false)], args := [d1, d2] }
  | _ => none }
def GreedyTellsWrongFalsely : Prop := greedyTellsRow.holds Try.pinned (OpenSpec.ofChange greedyTellsWrong)

/-- 'garlandlaw10.GreedyHalf': WHATEVER THE INPUT: true; the input reads as it did. -/
def greedyHalfSpec : ChangeSpec := { name := "greedyHalf", fn := fun _ => fun
  | [d1, d2] => { results := [.lit (.bool true)], args := [d1, d2] }
  | _ => none }
def greedyHalfRow : OpenClaim := { program := "ytnldfjoadmehcaa", sum := "866edf49434b28aefa154069a762b3b04fe74326c109d901e36bd70b6ff02a9a", func := "garland/garlandlaw10.GreedyHalf", spec := "greedyHalf", unfollowed := true, recurses := true, apart := false }
def GreedyHalfSaid : Prop := greedyHalfRow.holds Try.pinned (OpenSpec.ofChange greedyHalfSpec)

/-- ITS FALSE NEIGHBOUR: 'it returns false'. Refute it at one input. -/
def greedyHalfWrong : ChangeSpec := { name := "greedyHalf", fn := fun _ => fun
  | [d1, d2] => { results := [.lit (.bool false)], args := [d1, d2] }
  | _ => none }
def GreedyHalfWrongFalsely : Prop := greedyHalfRow.holds Try.pinned (OpenSpec.ofChange greedyHalfWrong)

/-- 'garlandlaw10.GreedyBeside': WHATEVER THE INPUT: true; the input reads as it did. -/
def greedyBesideSpec : ChangeSpec := { name := "greedyBeside", fn := fun _ => fun
  | [d1, d2, d3, d4] => { results := [.lit (.bool true)], args := [d1, d2, d3, d4] }
  | _ => none }
def greedyBesideRow : OpenClaim := { program := "ytnldfjoadmehcaa", sum := "866edf49434b28aefa154069a762b3b04fe74326c109d901e36bd70b6ff02a9a", func := "garland/garlandlaw10.GreedyBeside", spec := "greedyBeside", unfollowed := true, recurses := true, apart := false }
def GreedyBesideSaid : Prop := greedyBesideRow.holds Try.pinned (OpenSpec.ofChange greedyBesideSpec)

/-- ITS FALSE NEIGHBOUR: 'it returns false'. Refute it at one input. -/
def greedyBesideWrong : ChangeSpec := { name := "greedyBeside", fn := fun _ => fun
  | [d1, d2, d3, d4] => { results := [.lit (.bool false)], args := [d1, d2, d3, d4] }
  | _ => none }
def GreedyBesideWrongFalsely : Prop := greedyBesideRow.holds Try.pinned (OpenSpec.ofChange greedyBesideWrong)

/-- 'garlandlaw08.MatesWrong': WHATEVER THE INPUT: true; the input reads as it did. -/
def matesWrongSpec : ChangeSpec := { name := "matesWrong", fn := fun _ => fun
  | [d1, d2, d3, d4, d5] => { results := [.lit (.bool true)], args := [d1, d2, d3, d4, d5] }
  | _ => none }
def matesWrongRow : OpenClaim := { program := "ytnldfjoadmehcaa", sum := "866edf49434b28aefa154069a762b3b04fe74326c109d901e36bd70b6ff02a9a", func := "garland/garlandlaw08.MatesWrong", spec := "matesWrong", unfollowed := true, recurses := true, apart := false }
def MatesWrongSaid : Prop := matesWrongRow.holds Try.pinned (OpenSpec.ofChange matesWrongSpec)

/-- ITS FALSE NEIGHBOUR: 'it returns false'. Refute it at one input. -/
def matesWrongWrong : ChangeSpec := { name := "matesWrong", fn := fun _ => fun
  | [d1, d2, d3, d4, d5] => { results := [.lit (.bool false)], args := [d1, d2, d3, d4, d5] }
  | _ => none }
def MatesWrongWrongFalsely : Prop := matesWrongRow.holds Try.pinned (OpenSpec.ofChange matesWrongWrong)

/-- 'garlandlaw08.MatesEdges': WHATEVER THE INPUT: true; the input reads as it did. -/
def matesEdgesSpec : ChangeSpec := { name := "matesEdges", fn := fun _ => fun
  | [d1, d2, d3, d4] => { results := [.lit (.bool true)], args := [d1, d2, d3, d4] }
  | _ => none }
def matesEdgesRow : OpenClaim := { program := "ytnldfjoadmehcaa", sum := "866edf49434b28aefa154069a762b3b04fe74326c109d901e36bd70b6ff02a9a", func := "garland/garlandlaw08.MatesEdges", spec := "matesEdges", unfollowed := true, recurses := true, apart := false }
def MatesEdgesSaid : Prop := matesEdgesRow.holds Try.pinned (OpenSpec.ofChange matesEdgesSpec)

/-- ITS FALSE NEIGHBOUR: 'it returns false'. Refute it at one input. -/
def matesEdgesWrong : ChangeSpec := { name := "matesEdges", fn := fun _ => fun
  | [d1, d2, d3, d4] => { results := [.lit (.bool false)], args := [d1, d2, d3, d4] }
  | _ => none }
def MatesEdgesWrongFalsely : Prop := matesEdgesRow.holds Try.pinned (OpenSpec.ofChange matesEdgesWrong)

/-- 'garlandlaw08.MatesTell': WHATEVER THE INPUT: true; the input reads as it did. -/
def matesTellSpec : ChangeSpec := { name := "matesTell", fn := fun _ => fun
  | [d1, d2, d3] => { results := [.lit (.bool true)], args := [d1, d2, d3] }
  | _ => none }
def matesTellRow : OpenClaim := { program := "ytnldfjoadmehcaa", sum := "866edf49434b28aefa154069a762b3b04fe74326c109d901e36bd70b6ff02a9a", func := "garland/garlandlaw08.MatesTell", spec := "matesTell", unfollowed := true, recurses := true, apart := false }
def MatesTellSaid : Prop := matesTellRow.holds Try.pinned (OpenSpec.ofChange matesTellSpec)

/-- ITS FALSE NEIGHBOUR: 'it returns false'. Refute it at one input. -/
def matesTellWrong : ChangeSpec := { name := "matesTell", fn := fun _ => fun
  | [d1, d2, d3] => { results := [.lit (.bool false)], args := [d1, d2, d3] }
  | _ => none }
def MatesTellWrongFalsely : Prop := matesTellRow.holds Try.pinned (OpenSpec.ofChange matesTellWrong)

/-- 'garlandlaw08.MatesBack': WHATEVER THE INPUT: true; the input reads as it did. -/
def matesBackSpec : ChangeSpec := { name := "matesBack", fn := fun _ => fun
  | [d1, d2, d3] => { results := [.lit (.bool true)], args := [d1, d2, d3] }
  | _ => none }
def matesBackRow : OpenClaim := { program := "ytnldfjoadmehcaa", sum := "866edf49434b28aefa154069a762b3b04fe74326c109d901e36bd70b6ff02a9a", func := "garland/garlandlaw08.MatesBack", spec := "matesBack", unfollowed := true, recurses := true, apart := false }
def MatesBackSaid : Prop := matesBackRow.holds Try.pinned (OpenSpec.ofChange matesBackSpec)

/-- ITS FALSE NEIGHBOUR: 'it returns false'. Refute it at one input. -/
def matesBackWrong : ChangeSpec := { name := "matesBack", fn := fun _ => fun
  | [d1, d2, d3] => { results := [.lit (.bool false)], args := [d1, d2, d3] }
  | _ => none }
def MatesBackWrongFalsely : Prop := matesBackRow.holds Try.pinned (OpenSpec.ofChange matesBackWrong)

/-- 'garlandlaw04.SidesTell': WHATEVER THE INPUT: true; the input reads as it did. -/
def sidesTellSpec : ChangeSpec := { name := "sidesTell", fn := fun _ => fun
  | [d1, d2] => { results := [.lit (.bool true)], args := [d1, d2] }
  | _ => none }
def sidesTellRow : OpenClaim := { program := "ytnldfjoadmehcaa", sum := "866edf49434b28aefa154069a762b3b04fe74326c109d901e36bd70b6ff02a9a", func := "garland/garlandlaw04.SidesTell", spec := "sidesTell", unfollowed := true, recurses := true, apart := false }
def SidesTellSaid : Prop := sidesTellRow.holds Try.pinned (OpenSpec.ofChange sidesTellSpec)

/-- ITS FALSE NEIGHBOUR: 'it returns false'. Refute it at one input. -/
def sidesTellWrong : ChangeSpec := { name := "sidesTell", fn := fun _ => fun
  | [d1, d2] => { results := [.lit (.bool false)], args := [d1, d2] }
  | _ => none }
def SidesTellWrongFalsely : Prop := sidesTellRow.holds Try.pinned (OpenSpec.ofChange sidesTellWrong)

/-- 'garlandlaw04.SidesEither': WHATEVER THE INPUT: true; the input reads as it did. -/
def sidesEitherSpec : ChangeSpec := { name := "sidesEither", fn := fun _ => fun
  | [d1, d2, d3, d4, d5] => { results := [.lit (.bool true)], args := [d1, d2, d3, d4, d5] }
  | _ => none }
def sidesEitherRow : OpenClaim := { program := "ytnldfjoadmehcaa", sum := "866edf49434b28aefa154069a762b3b04fe74326c109d901e36bd70b6ff02a9a", func := "garland/garlandlaw04.SidesEither", spec := "sidesEither", unfollowed := true, recurses := true, apart := false }
def SidesEitherSaid : Prop := sidesEitherRow.holds Try.pinned (OpenSpec.ofChange sidesEitherSpec)

/-- ITS FALSE NEIGHBOUR: 'it returns false'. Refute it at one input. -/
def sidesEitherWrong : ChangeSpec := { name := "sidesEither", fn := fun _ => fun
  | [d1, d2, d3, d4, d5] => { results := [.lit (.bool false)], args := [d1, d2, d3, d4, d5] }
  | _ => none }
def SidesEitherWrongFalsely : Prop := sidesEitherRow.holds Try.pinned (OpenSpec.ofChange sidesEitherWrong)

/-- 'garlandlaw04.SidesCycles': WHATEVER THE INPUT: true; the input reads as it did. -/
def sidesCyclesSpec : ChangeSpec := { name := "sidesCycles", fn := fun _ => fun
  | [d1, d2] => { results := [.lit (.bool true)], args := [d1, d2] }
  | _ => none }
def sidesCyclesRow : OpenClaim := { program := "ytnldfjoadmehcaa", sum := "866edf49434b28aefa154069a762b3b04fe74326c109d901e36bd70b6ff02a9a", func := "garland/garlandlaw04.SidesCycles", spec := "sidesCycles", unfollowed := true, recurses := true, apart := false }
def SidesCyclesSaid : Prop := sidesCyclesRow.holds Try.pinned (OpenSpec.ofChange sidesCyclesSpec)

/-- ITS FALSE NEIGHBOUR: 'it returns false'. Refute it at one input. -/
def sidesCyclesWrong : ChangeSpec := { name := "sidesCycles", fn := fun _ => fun
  | [d1, d2] => { results := [.lit (.bool false)], args := [d1, d2] }
  | _ => none }
def SidesCyclesWrongFalsely : Prop := sidesCyclesRow.holds Try.pinned (OpenSpec.ofChange sidesCyclesWrong)

/-- 'garlandlaw04.SidesBeside': WHATEVER THE INPUT: true; the input reads as it did. -/
def sidesBesideSpec : ChangeSpec := { name := "sidesBeside", fn := fun _ => fun
  | [d1, d2, d3, d4] => { results := [.lit (.bool true)], args := [d1, d2, d3, d4] }
  | _ => none }
def sidesBesideRow : OpenClaim := { program := "ytnldfjoadmehcaa", sum := "866edf49434b28aefa154069a762b3b04fe74326c109d901e36bd70b6ff02a9a", func := "garland/garlandlaw04.SidesBeside", spec := "sidesBeside", unfollowed := true, recurses := true, apart := false }
def SidesBesideSaid : Prop := sidesBesideRow.holds Try.pinned (OpenSpec.ofChange sidesBesideSpec)

/-- ITS FALSE NEIGHBOUR: 'it returns false'. Refute it at one input. -/
def sidesBesideWrong : ChangeSpec := { name := "sidesBeside", fn := fun _ => fun
  | [d1, d2, d3, d4] => { results := [.lit (.bool false)], args := [d1, d2, d3, d4] }
  | _ => none }
def SidesBesideWrongFalsely : Prop := sidesBesideRow.holds Try.pinned (OpenSpec.ofChange sidesBesideWrong)

/- THE SECOND FORM. 'bulk': how many values and letters a reading holds, each counted each time it is reached (what is shared counts as often as it is met; a slice's spare places count too). A statement '..UptoSaid' is the law's where the arguments, and the package variables that the reading takes, are together of bulk at most 1048576: NARROWER than '..Said'. Prove '..Said' where nothing that the law and all that it calls make is longer than what came in: it says more and counts as full. Else prove '..UptoSaid'. A law counts once. -/
mutual
def uptoBulk {H : Type} : DataW H → Nat
  | .lit (.string bytes) => bytes.length + 1
  | .lit _ => 1
  | .nil => 1
  | .ptr d => uptoBulk d + 1
  | .slice elems spare => uptoBulkAll elems + uptoBulkAll spare + 1
  | .agg parts => uptoBulkAll parts + 1
  | .iface _ d => uptoBulk d + 1
  | .map entries => uptoBulkEntries entries + 1
  | .held _ => 1
def uptoBulkAll {H : Type} : List (DataW H) → Nat
  | [] => 0
  | d :: r => uptoBulk d + uptoBulkAll r
def uptoBulkEntries {H : Type} : List (Lit × DataW H) → Nat
  | [] => 0
  | x :: r => uptoBulkEntry x + uptoBulkEntries r
def uptoBulkEntry {H : Type} : Lit × DataW H → Nat
  | (.string bytes, d) => bytes.length + uptoBulk d + 1
  | (_, d) => uptoBulk d + 1
 end
def uptoSmall : (H : Type) → List (DataW H) → Bool := fun _ ds => decide (uptoBulkAll ds ≤ 1048576)
def OpenSpec.upto (s : _root_.Go.ChangeSpec) : _root_.Go.OpenSpec := { _root_.Go.OpenSpec.ofChange s with cond := some uptoSmall }

/-- 'garlandlaw05.SubTwice', WHERE WHAT IT READS IS OF BULK AT MOST 1048576: true; the input reads as it did. -/
def subTwiceUptoRow : OpenClaim := { program := "ytnldfjoadmehcaa", sum := "866edf49434b28aefa154069a762b3b04fe74326c109d901e36bd70b6ff02a9a", func := "garland/garlandlaw05.SubTwice", spec := "subTwice", unfollowed := true, recurses := true, apart := false, narrowed := true }
def SubTwiceUptoSaid : Prop := subTwiceUptoRow.holds Try.pinned (OpenSpec.upto subTwiceSpec)

/-- 'garlandlaw05.SubJoined', WHERE WHAT IT READS IS OF BULK AT MOST 1048576: true; the input reads as it did. -/
def subJoinedUptoRow : OpenClaim := { program := "ytnldfjoadmehcaa", sum := "866edf49434b28aefa154069a762b3b04fe74326c109d901e36bd70b6ff02a9a", func := "garland/garlandlaw05.SubJoined", spec := "subJoined", unfollowed := true, recurses := true, apart := false, narrowed := true }
def SubJoinedUptoSaid : Prop := subJoinedUptoRow.holds Try.pinned (OpenSpec.upto subJoinedSpec)

/-- 'garlandlaw05.SubEdges', WHERE WHAT IT READS IS OF BULK AT MOST 1048576: true; the input reads as it did. -/
def subEdgesUptoRow : OpenClaim := { program := "ytnldfjoadmehcaa", sum := "866edf49434b28aefa154069a762b3b04fe74326c109d901e36bd70b6ff02a9a", func := "garland/garlandlaw05.SubEdges", spec := "subEdges", unfollowed := true, recurses := true, apart := false, narrowed := true }
def SubEdgesUptoSaid : Prop := subEdgesUptoRow.holds Try.pinned (OpenSpec.upto subEdgesSpec)

/-- 'garlandlaw05.SubTells', WHERE WHAT IT READS IS OF BULK AT MOST 1048576: true; the input reads as it did. -/
def subTellsUptoRow : OpenClaim := { program := "ytnldfjoadmehcaa", sum := "866edf49434b28aefa154069a762b3b04fe74326c109d901e36bd70b6ff02a9a", func := "garland/garlandlaw05.SubTells", spec := "subTells", unfollowed := true, recurses := true, apart := false, narrowed := true }
def SubTellsUptoSaid : Prop := subTellsUptoRow.holds Try.pinned (OpenSpec.upto subTellsSpec)

/-- 'garlandlaw10.GreedyTells', WHERE WHAT IT READS IS OF BULK AT MOST 1048576: true; the input reads as it did. -/
def greedyTellsUptoRow : OpenClaim := { program := "ytnldfjoadmehcaa", sum := "866edf49434b28aefa154069a762b3b04fe74326c109d901e36bd70b6ff02a9a", func := "garland/garlandlaw10.GreedyTells", spec := "greedyTells", unfollowed := true, recurses := true, apart := false, narrowed := true }
def GreedyTellsUptoSaid : Prop := greedyTellsUptoRow.holds Try.pinned (OpenSpec.upto greedyTellsSpec)

/-- 'garlandlaw10.GreedyHalf', WHERE WHAT IT READS IS OF BULK AT MOST 1048576: true; the input reads as it did. -/
def greedyHalfUptoRow : OpenClaim := { program := "ytnldfjoadmehcaa", sum := "866edf49434b28aefa154069a762b3b04fe74326c109d901e36bd70b6ff02a9a", func := "garland/garlandlaw10.GreedyHalf", spec := "greedyHalf", unfollowed := true, recurses := true, apart := false, narrowed := true }
def GreedyHalfUptoSaid : Prop := greedyHalfUptoRow.holds Try.pinned (OpenSpec.upto greedyHalfSpec)

/-- 'garlandlaw10.GreedyBeside', WHERE WHAT IT READS IS OF BULK AT MOST 1048576: true; the input reads as it did. -/
def greedyBesideUptoRow : OpenClaim := { program := "ytnldfjoadmehcaa", sum := "866edf49434b28aefa154069a762b3b04fe74326c109d901e36bd70b6ff02a9a", func := "garland/garlandlaw10.GreedyBeside", spec := "greedyBeside", unfollowed := true, recurses := true, apart := false, narrowed := true }
def GreedyBesideUptoSaid : Prop := greedyBesideUptoRow.holds Try.pinned (OpenSpec.upto greedyBesideSpec)

/-- 'garlandlaw08.MatesWrong', WHERE WHAT IT READS IS OF BULK AT MOST 1048576: true; the input reads as it did. -/
def matesWrongUptoRow : OpenClaim := { program := "ytnldfjoadmehcaa", sum := "866edf49434b28aefa154069a762b3b04fe74326c109d901e36bd70b6ff02a9a", func := "garland/garlandlaw08.MatesWrong", spec := "matesWrong", unfollowed := true, recurses := true, apart := false, narrowed := true }
def MatesWrongUptoSaid : Prop := matesWrongUptoRow.holds Try.pinned (OpenSpec.upto matesWrongSpec)

/-- 'garlandlaw08.MatesEdges', WHERE WHAT IT READS IS OF BULK AT MOST 1048576: true; the input reads as it did. -/
def matesEdgesUptoRow : OpenClaim := { program := "ytnldfjoadmehcaa", sum := "866edf49434b28aefa154069a762b3b04fe74326c109d901e36bd70b6ff02a9a", func := "garland/garlandlaw08.MatesEdges", spec := "matesEdges", unfollowed := true, recurses := true, apart := false, narrowed := true }
def MatesEdgesUptoSaid : Prop := matesEdgesUptoRow.holds Try.pinned (OpenSpec.upto matesEdgesSpec)

/-- 'garlandlaw08.MatesTell', WHERE WHAT IT READS IS OF BULK AT MOST 1048576: true; the input reads as it did. -/
def matesTellUptoRow : OpenClaim := { program := "ytnldfjoadmehcaa", sum := "866edf49434b28aefa154069a762b3b04fe74326c109d901e36bd70b6ff02a9a", func := "garland/garlandlaw08.MatesTell", spec := "matesTell", unfollowed := true, recurses := true, apart := false, narrowed := true }
def MatesTellUptoSaid : Prop := matesTellUptoRow.holds Try.pinned (OpenSpec.upto matesTellSpec)

/-- 'garlandlaw08.MatesBack', WHERE WHAT IT READS IS OF BULK AT MOST 1048576: true; the input reads as it did. -/
def matesBackUptoRow : OpenClaim := { program := "ytnldfjoadmehcaa", sum := "866edf49434b28aefa154069a762b3b04fe74326c109d901e36bd70b6ff02a9a", func := "garland/garlandlaw08.MatesBack", spec := "matesBack", unfollowed := true, recurses := true, apart := false, narrowed := true }
def MatesBackUptoSaid : Prop := matesBackUptoRow.holds Try.pinned (OpenSpec.upto matesBackSpec)

/-- 'garlandlaw04.SidesTell', WHERE WHAT IT READS IS OF BULK AT MOST 1048576: true; the input reads as it did. -/
def sidesTellUptoRow : OpenClaim := { program := "ytnldfjoadmehcaa", sum := "866edf49434b28aefa154069a762b3b04fe74326c109d901e36bd70b6ff02a9a", func := "garland/garlandlaw04.SidesTell", spec := "sidesTell", unfollowed := true, recurses := true, apart := false, narrowed := true }
def SidesTellUptoSaid : Prop := sidesTellUptoRow.holds Try.pinned (OpenSpec.upto sidesTellSpec)

/-- 'garlandlaw04.SidesEither', WHERE WHAT IT READS IS OF BULK AT MOST 1048576: true; the input reads as it did. -/
def sidesEitherUptoRow : OpenClaim := { program := "ytnldfjoadmehcaa", sum := "866edf49434b28aefa154069a762b3b04fe74326c109d901e36bd70b6ff02a9a", func := "garland/garlandlaw04.SidesEither", spec := "sidesEither", unfollowed := true, recurses := true, apart := false, narrowed := true }
def SidesEitherUptoSaid : Prop := sidesEitherUptoRow.holds Try.pinned (OpenSpec.upto sidesEitherSpec)

/-- 'garlandlaw04.SidesCycles', WHERE WHAT IT READS IS OF BULK AT MOST 1048576: true; the input reads as it did. -/
def sidesCyclesUptoRow : OpenClaim := { program := "ytnldfjoadmehcaa", sum := "866edf49434b28aefa154069a762b3b04fe74326c109d901e36bd70b6ff02a9a", func := "garland/garlandlaw04.SidesCycles", spec := "sidesCycles", unfollowed := true, recurses := true, apart := false, narrowed := true }
def SidesCyclesUptoSaid : Prop := sidesCyclesUptoRow.holds Try.pinned (OpenSpec.upto sidesCyclesSpec)

/-- 'garlandlaw04.SidesBeside', WHERE WHAT IT READS IS OF BULK AT MOST 1048576: true; the input reads as it did. -/
def sidesBesideUptoRow : OpenClaim := { program := "ytnldfjoadmehcaa", sum := "866edf49434b28aefa154069a762b3b04fe74326c109d901e36bd70b6ff02a9a", func := "garland/garlandlaw04.SidesBeside", spec := "sidesBeside", unfollowed := true, recurses := true, apart := false, narrowed := true }
def SidesBesideUptoSaid : Prop := sidesBesideUptoRow.holds Try.pinned (OpenSpec.upto sidesBesideSpec)

end Rows
end Go.Proofs.Ytnldfjoadmehcaa
