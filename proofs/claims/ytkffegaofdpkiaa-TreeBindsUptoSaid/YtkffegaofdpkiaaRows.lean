/-
  No cell of these rows narrows 'for every input' (looked for: loops, veiled, ifaces, maps, wideKeys, modest, calm, conditions, laid).
  DERIVED. THE GIVEN ROWS OF THIS SEAT. 14 by the template 'for every input the law returns true; each argument reads behind the call as it read before'; 0 by the template 'total and deterministic' (their statements: YtkffegaofdpkiaaTotals.lean).
  GIVEN WITH THE SEED: the statements are not yours to turn. If you find one false, say at which input.
  Laid BY PROGRAM, IN A SANDBOX (cutbox-rows.mjs): the forced cells as the released guide's own fill.sh prints them over the translation 2d616a8b0a19ea13… (all of the seat's roots in one cut). By AI agents, Wed Nov 11 2026. No macro, syntax, notation, axiom, sorry.
-/
import Derived.Test.YtkffegaofdpkiaaChecked
import GoSem.Claim
import GoSem.ClaimJoined
import GoSem.ClaimMapViews
import Derived.JoinedTies
import Derived.KernelRfl
namespace Go.Proofs.Ytkffegaofdpkiaa
/- THE CELL 'sum', in the pinned program and in every row, IS THE sha256 OF THE DUMP (.gsa) THAT YtkffegaofdpkiaaProg.lean LOADS. Nothing in Lean hashes anything: it is a label: what it is worth is what the hold of that sum in a sandbox is worth. -/
noncomputable def Try.pinned : Pinned := { name := "ytkffegaofdpkiaa", sum := "2d616a8b0a19ea13d58d05ed17c9c13068c19ec6216d03944305ebe5303a88e8", checked := Try.checked }
namespace Rows
def none {H : Type} : Left H := { results := [], args := [] }

/-- 'incipitlaw04.TreePaths': WHATEVER THE INPUT: true; the input reads as it did. -/
def treePathsSpec : ChangeSpec := { name := "treePaths", fn := fun _ => fun
  | [d1, d2] => { results := [.lit (.bool true)], args := [d1, d2] }
  | _ => none }
def treePathsRow : OpenClaim := { program := "ytkffegaofdpkiaa", sum := "2d616a8b0a19ea13d58d05ed17c9c13068c19ec6216d03944305ebe5303a88e8", func := "incipit/incipitlaw04.TreePaths", spec := "treePaths", unfollowed := true, recurses := true, plainKeys := false, apart := false }
def TreePathsSaid : Prop := treePathsRow.holds Try.pinned (OpenSpec.ofChange treePathsSpec)

/-- ITS FALSE NEIGHBOUR: 'it returns false'. Refute it at one input. -/
def treePathsWrong : ChangeSpec := { name := "treePaths", fn := fun _ => fun
  | [d1, d2] => { results := [.lit (.bool false)], args := [d1, d2] }
  | _ => none }
def TreePathsWrongFalsely : Prop := treePathsRow.holds Try.pinned (OpenSpec.ofChange treePathsWrong)

/-- 'incipitlaw04.TreeHalves': WHATEVER THE INPUT: true; the input reads as it did. -/
def treeHalvesSpec : ChangeSpec := { name := "treeHalves", fn := fun _ => fun
  | [d1, d2] => { results := [.lit (.bool true)], args := [d1, d2] }
  | _ => none }
def treeHalvesRow : OpenClaim := { program := "ytkffegaofdpkiaa", sum := "2d616a8b0a19ea13d58d05ed17c9c13068c19ec6216d03944305ebe5303a88e8", func := "incipit/incipitlaw04.TreeHalves", spec := "treeHalves", unfollowed := true, recurses := true, plainKeys := false, apart := false }
def TreeHalvesSaid : Prop := treeHalvesRow.holds Try.pinned (OpenSpec.ofChange treeHalvesSpec)

/-- ITS FALSE NEIGHBOUR: 'it returns false'. Refute it at one input. -/
def treeHalvesWrong : ChangeSpec := { name := "treeHalves", fn := fun _ => fun
  | [d1, d2] => { results := [.lit (.bool false)], args := [d1, d2] }
  | _ => none }
def TreeHalvesWrongFalsely : Prop := treeHalvesRow.holds Try.pinned (OpenSpec.ofChange treeHalvesWrong)

/-- 'incipitlaw04.TreeShows': WHATEVER THE INPUT: true; the input reads as it did. -/
def treeShowsSpec : ChangeSpec := { name := "treeShows", fn := fun _ => fun
  | [d] => { results := [.lit (.bool true)], args := [d] }
  | _ => none }
def treeShowsRow : OpenClaim := { program := "ytkffegaofdpkiaa", sum := "2d616a8b0a19ea13d58d05ed17c9c13068c19ec6216d03944305ebe5303a88e8", func := "incipit/incipitlaw04.TreeShows", spec := "treeShows", unfollowed := true, recurses := true, plainKeys := false, apart := false }
def TreeShowsSaid : Prop := treeShowsRow.holds Try.pinned (OpenSpec.ofChange treeShowsSpec)

/-- ITS FALSE NEIGHBOUR: 'it returns false'. Refute it at one input. -/
def treeShowsWrong : ChangeSpec := { name := "treeShows", fn := fun _ => fun
  | [d] => { results := [.lit (.bool false)], args := [d] }
  | _ => none }
def TreeShowsWrongFalsely : Prop := treeShowsRow.holds Try.pinned (OpenSpec.ofChange treeShowsWrong)

/-- 'incipitlaw04.TreeShort': WHATEVER THE INPUT: true; the input reads as it did. -/
def treeShortSpec : ChangeSpec := { name := "treeShort", fn := fun _ => fun
  | [d1, d2] => { results := [.lit (.bool true)], args := [d1, d2] }
  | _ => none }
def treeShortRow : OpenClaim := { program := "ytkffegaofdpkiaa", sum := "2d616a8b0a19ea13d58d05ed17c9c13068c19ec6216d03944305ebe5303a88e8", func := "incipit/incipitlaw04.TreeShort", spec := "treeShort", unfollowed := true, recurses := true, plainKeys := false, apart := false }
def TreeShortSaid : Prop := treeShortRow.holds Try.pinned (OpenSpec.ofChange treeShortSpec)

/-- ITS FALSE NEIGHBOUR: 'it returns false'. Refute it at one input. -/
def treeShortWrong : ChangeSpec := { name := "treeShort", fn := fun _ => fun
  | [d1, d2] => { results := [.lit (.bool false)], args := [d1, d2] }
  | _ => none }
def TreeShortWrongFalsely : Prop := treeShortRow.holds Try.pinned (OpenSpec.ofChange treeShortWrong)

/-- 'incipitlaw04.TreeRoots': WHATEVER THE INPUT: true; the input reads as it did. -/
def treeRootsSpec : ChangeSpec := { name := "treeRoots", fn := fun _ => fun
  | [d] => { results := [.lit (.bool true)], args := [d] }
  | _ => none }
def treeRootsRow : OpenClaim := { program := "ytkffegaofdpkiaa", sum := "2d616a8b0a19ea13d58d05ed17c9c13068c19ec6216d03944305ebe5303a88e8", func := "incipit/incipitlaw04.TreeRoots", spec := "treeRoots", unfollowed := true, recurses := true, plainKeys := false, apart := false }
def TreeRootsSaid : Prop := treeRootsRow.holds Try.pinned (OpenSpec.ofChange treeRootsSpec)

/-- ITS FALSE NEIGHBOUR: 'it returns false'. Refute it at one input. -/
def treeRootsWrong : ChangeSpec := { name := "treeRoots", fn := fun _ => fun
  | [d] => { results := [.lit (.bool false)], args := [d] }
  | _ => none }
def TreeRootsWrongFalsely : Prop := treeRootsRow.holds Try.pinned (OpenSpec.ofChange treeRootsWrong)

/-- 'incipitlaw04.TreeLeads': WHATEVER THE INPUT: true; the input reads as it did. -/
def treeLeadsSpec : ChangeSpec := { name := "treeLeads", fn := fun _ => fun
  | [d1, d2, d3, d4] => { results := [.lit (.bool true)], args := [d1, d2, d3, d4] }
  | _ => none }
def treeLeadsRow : OpenClaim := { program := "ytkffegaofdpkiaa", sum := "2d616a8b0a19ea13d58d05ed17c9c13068c19ec6216d03944305ebe5303a88e8", func := "incipit/incipitlaw04.TreeLeads", spec := "treeLeads", unfollowed := true, recurses := true, plainKeys := false, apart := false }
def TreeLeadsSaid : Prop := treeLeadsRow.holds Try.pinned (OpenSpec.ofChange treeLeadsSpec)

/-- ITS FALSE NEIGHBOUR: 'it returns false'. Refute it at one input. -/
def treeLeadsWrong : ChangeSpec := { name := "treeLeads", fn := fun _ => fun
  | [d1, d2, d3, d4] => { results := [.lit (.bool false)], args := [d1, d2, d3, d4] }
  | _ => none }
def TreeLeadsWrongFalsely : Prop := treeLeadsRow.holds Try.pinned (OpenSpec.ofChange treeLeadsWrong)

/-- 'incipitlaw04.TreeBinds': WHATEVER THE INPUT: true; the input reads as it did. -/
def treeBindsSpec : ChangeSpec := { name := "treeBinds", fn := fun _ => fun
  | [d1, d2, d3, d4] => { results := [.lit (.bool true)], args := [d1, d2, d3, d4] }
  | _ => none }
def treeBindsRow : OpenClaim := { program := "ytkffegaofdpkiaa", sum := "2d616a8b0a19ea13d58d05ed17c9c13068c19ec6216d03944305ebe5303a88e8", func := "incipit/incipitlaw04.TreeBinds", spec := "treeBinds", unfollowed := true, recurses := true, plainKeys := false, apart := false }
def TreeBindsSaid : Prop := treeBindsRow.holds Try.pinned (OpenSpec.ofChange treeBindsSpec)

/-- ITS FALSE NEIGHBOUR: 'it returns false'. Refute it at one input. -/
def treeBindsWrong : ChangeSpec := { name := "treeBinds", fn := fun _ => fun
  | [d1, d2, d3, d4] => { results := [.lit (.bool false)], args := [d1, d2, d3, d4] }
  | _ => none }
def TreeBindsWrongFalsely : Prop := treeBindsRow.holds Try.pinned (OpenSpec.ofChange treeBindsWrong)

/-- 'incipitlaw04.TreeUnlike': WHATEVER THE INPUT: true; the input reads as it did. -/
def treeUnlikeSpec : ChangeSpec := { name := "treeUnlike", fn := fun _ => fun
  | [d1, d2] => { results := [.lit (.bool true)], args := [d1, d2] }
  | _ => none }
def treeUnlikeRow : OpenClaim := { program := "ytkffegaofdpkiaa", sum := "2d616a8b0a19ea13d58d05ed17c9c13068c19ec6216d03944305ebe5303a88e8", func := "incipit/incipitlaw04.TreeUnlike", spec := "treeUnlike", unfollowed := true, recurses := true, plainKeys := false, apart := false }
def TreeUnlikeSaid : Prop := treeUnlikeRow.holds Try.pinned (OpenSpec.ofChange treeUnlikeSpec)

/-- ITS FALSE NEIGHBOUR: 'it returns false'. Refute it at one input. -/
def treeUnlikeWrong : ChangeSpec := { name := "treeUnlike", fn := fun _ => fun
  | [d1, d2] => { results := [.lit (.bool false)], args := [d1, d2] }
  | _ => none }
def TreeUnlikeWrongFalsely : Prop := treeUnlikeRow.holds Try.pinned (OpenSpec.ofChange treeUnlikeWrong)

/-- 'incipitlaw05.GrowPaths': WHATEVER THE INPUT: true; the input reads as it did. -/
def growPathsSpec : ChangeSpec := { name := "growPaths", fn := fun _ => fun
  | [d1, d2, d3] => { results := [.lit (.bool true)], args := [d1, d2, d3] }
  | _ => none }
def growPathsRow : OpenClaim := { program := "ytkffegaofdpkiaa", sum := "2d616a8b0a19ea13d58d05ed17c9c13068c19ec6216d03944305ebe5303a88e8", func := "incipit/incipitlaw05.GrowPaths", spec := "growPaths", unfollowed := true, recurses := true, plainKeys := false, apart := false }
def GrowPathsSaid : Prop := growPathsRow.holds Try.pinned (OpenSpec.ofChange growPathsSpec)

/-- ITS FALSE NEIGHBOUR: 'it returns false'. Refute it at one input. -/
def growPathsWrong : ChangeSpec := { name := "growPaths", fn := fun _ => fun
  | [d1, d2, d3] => { results := [.lit (.bool false)], args := [d1, d2, d3] }
  | _ => none }
def GrowPathsWrongFalsely : Prop := growPathsRow.holds Try.pinned (OpenSpec.ofChange growPathsWrong)

/-- 'incipitlaw05.GrowShows': WHATEVER THE INPUT: true; the input reads as it did. -/
def growShowsSpec : ChangeSpec := { name := "growShows", fn := fun _ => fun
  | [d1, d2] => { results := [.lit (.bool true)], args := [d1, d2] }
  | _ => none }
def growShowsRow : OpenClaim := { program := "ytkffegaofdpkiaa", sum := "2d616a8b0a19ea13d58d05ed17c9c13068c19ec6216d03944305ebe5303a88e8", func := "incipit/incipitlaw05.GrowShows", spec := "growShows", unfollowed := true, recurses := true, plainKeys := false, apart := false }
def GrowShowsSaid : Prop := growShowsRow.holds Try.pinned (OpenSpec.ofChange growShowsSpec)

/-- ITS FALSE NEIGHBOUR: 'it returns false'. Refute it at one input. -/
def growShowsWrong : ChangeSpec := { name := "growShows", fn := fun _ => fun
  | [d1, d2] => { results := [.lit (.bool false)], args := [d1, d2] }
  | _ => none }
def GrowShowsWrongFalsely : Prop := growShowsRow.holds Try.pinned (OpenSpec.ofChange growShowsWrong)

/-- 'incipitlaw05.GrowOn': WHATEVER THE INPUT: true; the input reads as it did. -/
def growOnSpec : ChangeSpec := { name := "growOn", fn := fun _ => fun
  | [d1, d2, d3] => { results := [.lit (.bool true)], args := [d1, d2, d3] }
  | _ => none }
def growOnRow : OpenClaim := { program := "ytkffegaofdpkiaa", sum := "2d616a8b0a19ea13d58d05ed17c9c13068c19ec6216d03944305ebe5303a88e8", func := "incipit/incipitlaw05.GrowOn", spec := "growOn", unfollowed := true, recurses := true, plainKeys := false, apart := false }
def GrowOnSaid : Prop := growOnRow.holds Try.pinned (OpenSpec.ofChange growOnSpec)

/-- ITS FALSE NEIGHBOUR: 'it returns false'. Refute it at one input. -/
def growOnWrong : ChangeSpec := { name := "growOn", fn := fun _ => fun
  | [d1, d2, d3] => { results := [.lit (.bool false)], args := [d1, d2, d3] }
  | _ => none }
def GrowOnWrongFalsely : Prop := growOnRow.holds Try.pinned (OpenSpec.ofChange growOnWrong)

/-- 'incipitlaw05.GrowShort': WHATEVER THE INPUT: true; the input reads as it did. -/
def growShortSpec : ChangeSpec := { name := "growShort", fn := fun _ => fun
  | [d1, d2] => { results := [.lit (.bool true)], args := [d1, d2] }
  | _ => none }
def growShortRow : OpenClaim := { program := "ytkffegaofdpkiaa", sum := "2d616a8b0a19ea13d58d05ed17c9c13068c19ec6216d03944305ebe5303a88e8", func := "incipit/incipitlaw05.GrowShort", spec := "growShort", unfollowed := true, recurses := true, plainKeys := false, apart := false }
def GrowShortSaid : Prop := growShortRow.holds Try.pinned (OpenSpec.ofChange growShortSpec)

/-- ITS FALSE NEIGHBOUR: 'it returns false'. Refute it at one input. -/
def growShortWrong : ChangeSpec := { name := "growShort", fn := fun _ => fun
  | [d1, d2] => { results := [.lit (.bool false)], args := [d1, d2] }
  | _ => none }
def GrowShortWrongFalsely : Prop := growShortRow.holds Try.pinned (OpenSpec.ofChange growShortWrong)

/-- 'incipitlaw05.GrowTells': WHATEVER THE INPUT: true; the input reads as it did. -/
def growTellsSpec : ChangeSpec := { name := "growTells", fn := fun _ => fun
  | [d1, d2, d3, d4, d5] => { results := [.lit (.bool true)], args := [d1, d2, d3, d4, d5] }
  | _ => none }
def growTellsRow : OpenClaim := { program := "ytkffegaofdpkiaa", sum := "2d616a8b0a19ea13d58d05ed17c9c13068c19ec6216d03944305ebe5303a88e8", func := "incipit/incipitlaw05.GrowTells", spec := "growTells", unfollowed := true, recurses := true, plainKeys := false, apart := false }
def GrowTellsSaid : Prop := growTellsRow.holds Try.pinned (OpenSpec.ofChange growTellsSpec)

/-- ITS FALSE NEIGHBOUR: 'it returns false'. Refute it at one input. -/
def growTellsWrong : ChangeSpec := { name := "growTells", fn := fun _ => fun
  | [d1, d2, d3, d4, d5] => { results := [.lit (.bool false)], args := [d1, d2, d3, d4, d5] }
  | _ => none }
def GrowTellsWrongFalsely : Prop := growTellsRow.holds Try.pinned (OpenSpec.ofChange growTellsWrong)

/-- 'incipitlaw05.GrowBinds': WHATEVER THE INPUT: true; the input reads as it did. -/
def growBindsSpec : ChangeSpec := { name := "growBinds", fn := fun _ => fun
  | [d1, d2, d3, d4] => { results := [.lit (.bool true)], args := [d1, d2, d3, d4] }
  | _ => none }
def growBindsRow : OpenClaim := { program := "ytkffegaofdpkiaa", sum := "2d616a8b0a19ea13d58d05ed17c9c13068c19ec6216d03944305ebe5303a88e8", func := "incipit/incipitlaw05.GrowBinds", spec := "growBinds", unfollowed := true, recurses := true, plainKeys := false, apart := false }
def GrowBindsSaid : Prop := growBindsRow.holds Try.pinned (OpenSpec.ofChange growBindsSpec)

/-- ITS FALSE NEIGHBOUR: 'it returns false'. Refute it at one input. -/
def growBindsWrong : ChangeSpec := { name := "growBinds", fn := fun _ => fun
  | [d1, d2, d3, d4] => { results := [.lit (.bool false)], args := [d1, d2, d3, d4] }
  | _ => none }
def GrowBindsWrongFalsely : Prop := growBindsRow.holds Try.pinned (OpenSpec.ofChange growBindsWrong)

/- THE SECOND FORM. 'bulk': how many values and letters a reading holds, each counted each time it is reached (what is shared counts as often as it is met; a slice's spare places count too). A statement '..UptoSaid' is the law's where the arguments, and the package variables that the reading takes, are together of bulk at most 1048576: NARROWER than '..Said'. Prove '..Said' where nothing that the law and all that it calls make is longer than what came in: it says more and counts as full. Else prove '..UptoSaid'. A law counts once. -/
mutual
def uptoBulk {H : Type} : DataW H → Nat
  | .lit (.string bytes) => bytes.length + 1
  | .lit _ => 1
  | .nil => 1
  | .ptr d => uptoBulk d + 1
  | .slice elems spare => uptoBulkAll elems + uptoBulkAll spare + 1
  | .agg parts => uptoBulkAll parts + 1
  | .iface _ d => uptoBulk d + 1
  | .map entries => uptoBulkEntries entries + 1
  | .held _ => 1
def uptoBulkAll {H : Type} : List (DataW H) → Nat
  | [] => 0
  | d :: r => uptoBulk d + uptoBulkAll r
def uptoBulkEntries {H : Type} : List (Lit × DataW H) → Nat
  | [] => 0
  | x :: r => uptoBulkEntry x + uptoBulkEntries r
def uptoBulkEntry {H : Type} : Lit × DataW H → Nat
  | (.string bytes, d) => bytes.length + uptoBulk d + 1
  | (_, d) => uptoBulk d + 1
 end
def uptoSmall : (H : Type) → List (DataW H) → Bool := fun _ ds => decide (uptoBulkAll ds ≤ 1048576)
def OpenSpec.upto (s : _root_.Go.ChangeSpec) : _root_.Go.OpenSpec := { _root_.Go.OpenSpec.ofChange s with cond := some uptoSmall }

/-- 'incipitlaw04.TreePaths', WHERE WHAT IT READS IS OF BULK AT MOST 1048576: true; the input reads as it did. -/
def treePathsUptoRow : OpenClaim := { program := "ytkffegaofdpkiaa", sum := "2d616a8b0a19ea13d58d05ed17c9c13068c19ec6216d03944305ebe5303a88e8", func := "incipit/incipitlaw04.TreePaths", spec := "treePaths", unfollowed := true, recurses := true, plainKeys := false, apart := false, narrowed := true }
def TreePathsUptoSaid : Prop := treePathsUptoRow.holds Try.pinned (OpenSpec.upto treePathsSpec)

/-- 'incipitlaw04.TreeHalves', WHERE WHAT IT READS IS OF BULK AT MOST 1048576: true; the input reads as it did. -/
def treeHalvesUptoRow : OpenClaim := { program := "ytkffegaofdpkiaa", sum := "2d616a8b0a19ea13d58d05ed17c9c13068c19ec6216d03944305ebe5303a88e8", func := "incipit/incipitlaw04.TreeHalves", spec := "treeHalves", unfollowed := true, recurses := true, plainKeys := false, apart := false, narrowed := true }
def TreeHalvesUptoSaid : Prop := treeHalvesUptoRow.holds Try.pinned (OpenSpec.upto treeHalvesSpec)

/-- 'incipitlaw04.TreeShows', WHERE WHAT IT READS IS OF BULK AT MOST 1048576: true; the input reads as it did. -/
def treeShowsUptoRow : OpenClaim := { program := "ytkffegaofdpkiaa", sum := "2d616a8b0a19ea13d58d05ed17c9c13068c19ec6216d03944305ebe5303a88e8", func := "incipit/incipitlaw04.TreeShows", spec := "treeShows", unfollowed := true, recurses := true, plainKeys := false, apart := false, narrowed := true }
def TreeShowsUptoSaid : Prop := treeShowsUptoRow.holds Try.pinned (OpenSpec.upto treeShowsSpec)

/-- 'incipitlaw04.TreeShort', WHERE WHAT IT READS IS OF BULK AT MOST 1048576: true; the input reads as it did. -/
def treeShortUptoRow : OpenClaim := { program := "ytkffegaofdpkiaa", sum := "2d616a8b0a19ea13d58d05ed17c9c13068c19ec6216d03944305ebe5303a88e8", func := "incipit/incipitlaw04.TreeShort", spec := "treeShort", unfollowed := true, recurses := true, plainKeys := false, apart := false, narrowed := true }
def TreeShortUptoSaid : Prop := treeShortUptoRow.holds Try.pinned (OpenSpec.upto treeShortSpec)

/-- 'incipitlaw04.TreeRoots', WHERE WHAT IT READS IS OF BULK AT MOST 1048576: true; the input reads as it did. -/
def treeRootsUptoRow : OpenClaim := { program := "ytkffegaofdpkiaa", sum := "2d616a8b0a19ea13d58d05ed17c9c13068c19ec6216d03944305ebe5303a88e8", func := "incipit/incipitlaw04.TreeRoots", spec := "treeRoots", unfollowed := true, recurses := true, plainKeys := false, apart := false, narrowed := true }
def TreeRootsUptoSaid : Prop := treeRootsUptoRow.holds Try.pinned (OpenSpec.upto treeRootsSpec)

/-- 'incipitlaw04.TreeLeads', WHERE WHAT IT READS IS OF BULK AT MOST 1048576: true; the input reads as it did. -/
def treeLeadsUptoRow : OpenClaim := { program := "ytkffegaofdpkiaa", sum := "2d616a8b0a19ea13d58d05ed17c9c13068c19ec6216d03944305ebe5303a88e8", func := "incipit/incipitlaw04.TreeLeads", spec := "treeLeads", unfollowed := true, recurses := true, plainKeys := false, apart := false, narrowed := true }
def TreeLeadsUptoSaid : Prop := treeLeadsUptoRow.holds Try.pinned (OpenSpec.upto treeLeadsSpec)

/-- 'incipitlaw04.TreeBinds', WHERE WHAT IT READS IS OF BULK AT MOST 1048576: true; the input reads as it did. -/
def treeBindsUptoRow : OpenClaim := { program := "ytkffegaofdpkiaa", sum := "2d616a8b0a19ea13d58d05ed17c9c13068c19ec6216d03944305ebe5303a88e8", func := "incipit/incipitlaw04.TreeBinds", spec := "treeBinds", unfollowed := true, recurses := true, plainKeys := false, apart := false, narrowed := true }
def TreeBindsUptoSaid : Prop := treeBindsUptoRow.holds Try.pinned (OpenSpec.upto treeBindsSpec)

/-- 'incipitlaw04.TreeUnlike', WHERE WHAT IT READS IS OF BULK AT MOST 1048576: true; the input reads as it did. -/
def treeUnlikeUptoRow : OpenClaim := { program := "ytkffegaofdpkiaa", sum := "2d616a8b0a19ea13d58d05ed17c9c13068c19ec6216d03944305ebe5303a88e8", func := "incipit/incipitlaw04.TreeUnlike", spec := "treeUnlike", unfollowed := true, recurses := true, plainKeys := false, apart := false, narrowed := true }
def TreeUnlikeUptoSaid : Prop := treeUnlikeUptoRow.holds Try.pinned (OpenSpec.upto treeUnlikeSpec)

/-- 'incipitlaw05.GrowPaths', WHERE WHAT IT READS IS OF BULK AT MOST 1048576: true; the input reads as it did. -/
def growPathsUptoRow : OpenClaim := { program := "ytkffegaofdpkiaa", sum := "2d616a8b0a19ea13d58d05ed17c9c13068c19ec6216d03944305ebe5303a88e8", func := "incipit/incipitlaw05.GrowPaths", spec := "growPaths", unfollowed := true, recurses := true, plainKeys := false, apart := false, narrowed := true }
def GrowPathsUptoSaid : Prop := growPathsUptoRow.holds Try.pinned (OpenSpec.upto growPathsSpec)

/-- 'incipitlaw05.GrowShows', WHERE WHAT IT READS IS OF BULK AT MOST 1048576: true; the input reads as it did. -/
def growShowsUptoRow : OpenClaim := { program := "ytkffegaofdpkiaa", sum := "2d616a8b0a19ea13d58d05ed17c9c13068c19ec6216d03944305ebe5303a88e8", func := "incipit/incipitlaw05.GrowShows", spec := "growShows", unfollowed := true, recurses := true, plainKeys := false, apart := false, narrowed := true }
def GrowShowsUptoSaid : Prop := growShowsUptoRow.holds Try.pinned (OpenSpec.upto growShowsSpec)

/-- 'incipitlaw05.GrowOn', WHERE WHAT IT READS IS OF BULK AT MOST 1048576: true; the input reads as it did. -/
def growOnUptoRow : OpenClaim := { program := "ytkffegaofdpkiaa", sum := "2d616a8b0a19ea13d58d05ed17c9c13068c19ec6216d03944305ebe5303a88e8", func := "incipit/incipitlaw05.GrowOn", spec := "growOn", unfollowed := true, recurses := true, plainKeys := false, apart := false, narrowed := true }
def GrowOnUptoSaid : Prop := growOnUptoRow.holds Try.pinned (OpenSpec.upto growOnSpec)

/-- 'incipitlaw05.GrowShort', WHERE WHAT IT READS IS OF BULK AT MOST 1048576: true; the input reads as it did. -/
def growShortUptoRow : OpenClaim := { program := "ytkffegaofdpkiaa", sum := "2d616a8b0a19ea13d58d05ed17c9c13068c19ec6216d03944305ebe5303a88e8", func := "incipit/incipitlaw05.GrowShort", spec := "growShort", unfollowed := true, recurses := true, plainKeys := false, apart := false, narrowed := true }
def GrowShortUptoSaid : Prop := growShortUptoRow.holds Try.pinned (OpenSpec.upto growShortSpec)

/-- 'incipitlaw05.GrowTells', WHERE WHAT IT READS IS OF BULK AT MOST 1048576: true; the input reads as it did. -/
def growTellsUptoRow : OpenClaim := { program := "ytkffegaofdpkiaa", sum := "2d616a8b0a19ea13d58d05ed17c9c13068c19ec6216d03944305ebe5303a88e8", func := "incipit/incipitlaw05.GrowTells", spec := "growTells", unfollowed := true, recurses := true, plainKeys := false, apart := false, narrowed := true }
def GrowTellsUptoSaid : Prop := growTellsUptoRow.holds Try.pinned (OpenSpec.upto growTellsSpec)

/-- 'incipitlaw05.GrowBinds', WHERE WHAT IT READS IS OF BULK AT MOST 1048576: true; the input reads as it did. -/
def growBindsUptoRow : OpenClaim := { program := "ytkffegaofdpkiaa", sum := "2d616a8b0a19ea13d58d05ed17c9c13068c19ec6216d03944305ebe5303a88e8", func := "incipit/incipitlaw05.GrowBinds", spec := "growBinds", unfollowed := true, recurses := true, plainKeys := false, apart := false, narrowed := true }
def GrowBindsUptoSaid : Prop := growBindsUptoRow.holds Try.pinned (OpenSpec.upto growBindsSpec)

end Rows
end Go.Proofs.Ytkffegaofdpkiaa
