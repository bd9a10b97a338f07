/-
  No cell of these rows narrows 'for every input' (looked for: loops, veiled, ifaces, maps, wideKeys, modest, calm, conditions, laid).
  DERIVED. THE GIVEN ROWS OF THIS SEAT. 11 by the template 'for every input the law returns true; each argument reads behind the call as it read before'; 0 by the template 'total and deterministic' (their statements: YtmjjkpiglbpkhaaTotals.lean).
  GIVEN WITH THE SEED: the statements are not yours to turn. If you find one false, say at which input.
  Laid BY PROGRAM, IN A SANDBOX (cutbox-rows.mjs): the forced cells as the released guide's own fill.sh prints them over the translation 25f375735e6e897d… (all of the seat's roots in one cut). By AI agents, Wed Nov 11 2026. No macro, syntax, notation, axiom, sorry.
-/
import Derived.Test.YtmjjkpiglbpkhaaChecked
import GoSem.Claim
import GoSem.ClaimJoined
import GoSem.ClaimMapViews
import Derived.JoinedTies
import Derived.KernelRfl
namespace Go.Proofs.Ytmjjkpiglbpkhaa
/- THE CELL 'sum', in the pinned program and in every row, IS THE sha256 OF THE DUMP (.gsa) THAT YtmjjkpiglbpkhaaProg.lean LOADS. Nothing in Lean hashes anything: it is a label: what it is worth is what the hold of that sum in a sandbox is worth. -/
noncomputable def Try.pinned : Pinned := { name := "ytmjjkpiglbpkhaa", sum := "25f375735e6e897d8e315a552e9d412b639bf9bc92c6a37f8bbb8f97caf9092e", checked := Try.checked }
namespace Rows
def none {H : Type} : Left H := { results := [], args := [] }

/-- 'incipitlaw15.ChainHeads': WHATEVER THE INPUT: true; the input reads as it did. -/
def chainHeadsSpec : ChangeSpec := { name := "chainHeads", fn := fun _ => fun
  | [d1, d2, d3] => { results := [.lit (.bool true)], args := [d1, d2, d3] }
  | _ => none }
def chainHeadsRow : OpenClaim := { program := "ytmjjkpiglbpkhaa", sum := "25f375735e6e897d8e315a552e9d412b639bf9bc92c6a37f8bbb8f97caf9092e", func := "incipit/incipitlaw15.ChainHeads", spec := "chainHeads", unfollowed := true, recurses := true, plainKeys := false, apart := false }
def ChainHeadsSaid : Prop := chainHeadsRow.holds Try.pinned (OpenSpec.ofChange chainHeadsSpec)

/-- ITS FALSE NEIGHBOUR: 'it returns false'. Refute it at one input. -/
def chainHeadsWrong : ChangeSpec := { name := "chainHeads", fn := fun _ => fun
  | [d1, d2, d3] => { results := [.lit (.bool false)], args := [d1, d2, d3] }
  | _ => none }
def ChainHeadsWrongFalsely : Prop := chainHeadsRow.holds Try.pinned (OpenSpec.ofChange chainHeadsWrong)

/-- 'incipitlaw15.ChainBack': WHATEVER THE INPUT: true; the input reads as it did. -/
def chainBackSpec : ChangeSpec := { name := "chainBack", fn := fun _ => fun
  | [d1, d2] => { results := [.lit (.bool true)], args := [d1, d2] }
  | _ => none }
def chainBackRow : OpenClaim := { program := "ytmjjkpiglbpkhaa", sum := "25f375735e6e897d8e315a552e9d412b639bf9bc92c6a37f8bbb8f97caf9092e", func := "incipit/incipitlaw15.ChainBack", spec := "chainBack", unfollowed := true, recurses := true, plainKeys := false, apart := false }
def ChainBackSaid : Prop := chainBackRow.holds Try.pinned (OpenSpec.ofChange chainBackSpec)

/-- ITS FALSE NEIGHBOUR: 'it returns false'. Refute it at one input. -/
def chainBackWrong : ChangeSpec := { name := "chainBack", fn := fun _ => fun
  | [d1, d2] => { results := [.lit (.bool false)], args := [d1, d2] }
  | _ => none }
def ChainBackWrongFalsely : Prop := chainBackRow.holds Try.pinned (OpenSpec.ofChange chainBackWrong)

/-- 'incipitlaw06.KeyedTells': WHATEVER THE INPUT: true; the input reads as it did. -/
def keyedTellsSpec : ChangeSpec := { name := "keyedTells", fn := fun _ => fun
  | [d1, d2] => { results := [.lit (.bool true)], args := [d1, d2] }
  | _ => none }
def keyedTellsRow : OpenClaim := { program := "ytmjjkpiglbpkhaa", sum := "25f375735e6e897d8e315a552e9d412b639bf9bc92c6a37f8bbb8f97caf9092e", func := "incipit/incipitlaw06.KeyedTells", spec := "keyedTells", inPlace := ["internal/bytealg.Compare"], unfollowed := true, recurses := true, plainKeys := false, apart := false }
def KeyedTellsSaid : Prop := keyedTellsRow.holds Try.pinned (OpenSpec.ofChange keyedTellsSpec)

/-- ITS FALSE NEIGHBOUR: 'it returns false'. Refute it at one input. -/
def keyedTellsWrong : ChangeSpec := { name := "keyedTells", fn := fun _ => fun
  | [d1, d2] => { results := [.lit (.bool false)], args := [d1, d2] }
  | _ => none }
def KeyedTellsWrongFalsely : Prop := keyedTellsRow.holds Try.pinned (OpenSpec.ofChange keyedTellsWrong)

/-- 'incipitlaw06.KeyedBinds': WHATEVER THE INPUT: true; the input reads as it did. -/
def keyedBindsSpec : ChangeSpec := { name := "keyedBinds", fn := fun _ => fun
  | [d1, d2, d3] => { results := [.lit (.bool true)], args := [d1, d2, d3] }
  | _ => none }
def keyedBindsRow : OpenClaim := { program := "ytmjjkpiglbpkhaa", sum := "25f375735e6e897d8e315a552e9d412b639bf9bc92c6a37f8bbb8f97caf9092e", func := "incipit/incipitlaw06.KeyedBinds", spec := "keyedBinds", inPlace := ["internal/bytealg.Compare"], unfollowed := true, recurses := true, plainKeys := false, apart := false }
def KeyedBindsSaid : Prop := keyedBindsRow.holds Try.pinned (OpenSpec.ofChange keyedBindsSpec)

/-- ITS FALSE NEIGHBOUR: 'it returns false'. Refute it at one input. -/
def keyedBindsWrong : ChangeSpec := { name := "keyedBinds", fn := fun _ => fun
  | [d1, d2, d3] => { results := [.lit (.bool false)], args := [d1, d2, d3] }
  | _ => none }
def KeyedBindsWrongFalsely : Prop := keyedBindsRow.holds Try.pinned (OpenSpec.ofChange keyedBindsWrong)

/-- 'incipitlaw06.KeyedLooks': WHATEVER THE INPUT: true; the input reads as it did. -/
def keyedLooksSpec : ChangeSpec := { name := "keyedLooks", fn := fun _ => fun
  | [d1, d2, d3] => { results := [.lit (.bool true)], args := [d1, d2, d3] }
  | _ => none }
def keyedLooksRow : OpenClaim := { program := "ytmjjkpiglbpkhaa", sum := "25f375735e6e897d8e315a552e9d412b639bf9bc92c6a37f8bbb8f97caf9092e", func := "incipit/incipitlaw06.KeyedLooks", spec := "keyedLooks", inPlace := ["internal/bytealg.Compare"], unfollowed := true, recurses := true, plainKeys := false, apart := false }
def KeyedLooksSaid : Prop := keyedLooksRow.holds Try.pinned (OpenSpec.ofChange keyedLooksSpec)

/-- ITS FALSE NEIGHBOUR: 'it returns false'. Refute it at one input. -/
def keyedLooksWrong : ChangeSpec := { name := "keyedLooks", fn := fun _ => fun
  | [d1, d2, d3] => { results := [.lit (.bool false)], args := [d1, d2, d3] }
  | _ => none }
def KeyedLooksWrongFalsely : Prop := keyedLooksRow.holds Try.pinned (OpenSpec.ofChange keyedLooksWrong)

/-- 'incipitlaw06.KeyedShows': WHATEVER THE INPUT: true; the input reads as it did. -/
def keyedShowsSpec : ChangeSpec := { name := "keyedShows", fn := fun _ => fun
  | [d1, d2] => { results := [.lit (.bool true)], args := [d1, d2] }
  | _ => none }
def keyedShowsRow : OpenClaim := { program := "ytmjjkpiglbpkhaa", sum := "25f375735e6e897d8e315a552e9d412b639bf9bc92c6a37f8bbb8f97caf9092e", func := "incipit/incipitlaw06.KeyedShows", spec := "keyedShows", inPlace := ["internal/bytealg.Compare"], unfollowed := true, recurses := true, plainKeys := false, apart := false }
def KeyedShowsSaid : Prop := keyedShowsRow.holds Try.pinned (OpenSpec.ofChange keyedShowsSpec)

/-- ITS FALSE NEIGHBOUR: 'it returns false'. Refute it at one input. -/
def keyedShowsWrong : ChangeSpec := { name := "keyedShows", fn := fun _ => fun
  | [d1, d2] => { results := [.lit (.bool false)], args := [d1, d2] }
  | _ => none }
def KeyedShowsWrongFalsely : Prop := keyedShowsRow.holds Try.pinned (OpenSpec.ofChange keyedShowsWrong)

/-- 'incipitlaw06.KeyedBytes': WHATEVER THE INPUT: true; the input reads as it did. -/
def keyedBytesSpec : ChangeSpec := { name := "keyedBytes", fn := fun _ => fun
  | [d1, d2, d3] => { results := [.lit (.bool true)], args := [d1, d2, d3] }
  | _ => none }
def keyedBytesRow : OpenClaim := { program := "ytmjjkpiglbpkhaa", sum := "25f375735e6e897d8e315a552e9d412b639bf9bc92c6a37f8bbb8f97caf9092e", func := "incipit/incipitlaw06.KeyedBytes", spec := "keyedBytes", inPlace := ["internal/bytealg.Compare"], unfollowed := true, recurses := true, plainKeys := false, apart := false }
def KeyedBytesSaid : Prop := keyedBytesRow.holds Try.pinned (OpenSpec.ofChange keyedBytesSpec)

/-- ITS FALSE NEIGHBOUR: 'it returns false'. Refute it at one input. -/
def keyedBytesWrong : ChangeSpec := { name := "keyedBytes", fn := fun _ => fun
  | [d1, d2, d3] => { results := [.lit (.bool false)], args := [d1, d2, d3] }
  | _ => none }
def KeyedBytesWrongFalsely : Prop := keyedBytesRow.holds Try.pinned (OpenSpec.ofChange keyedBytesWrong)

/-- 'incipitlaw06.KeyedBack': WHATEVER THE INPUT: true; the input reads as it did. -/
def keyedBackSpec : ChangeSpec := { name := "keyedBack", fn := fun _ => fun
  | [d1, d2] => { results := [.lit (.bool true)], args := [d1, d2] }
  | _ => none }
def keyedBackRow : OpenClaim := { program := "ytmjjkpiglbpkhaa", sum := "25f375735e6e897d8e315a552e9d412b639bf9bc92c6a37f8bbb8f97caf9092e", func := "incipit/incipitlaw06.KeyedBack", spec := "keyedBack", inPlace := ["internal/bytealg.Compare"], unfollowed := true, recurses := true, plainKeys := false, apart := false }
def KeyedBackSaid : Prop := keyedBackRow.holds Try.pinned (OpenSpec.ofChange keyedBackSpec)

/-- ITS FALSE NEIGHBOUR: 'it returns false'. Refute it at one input. -/
def keyedBackWrong : ChangeSpec := { name := "keyedBack", fn := fun _ => fun
  | [d1, d2] => { results := [.lit (.bool false)], args := [d1, d2] }
  | _ => none }
def KeyedBackWrongFalsely : Prop := keyedBackRow.holds Try.pinned (OpenSpec.ofChange keyedBackWrong)

/-- 'incipitlaw03.SealNotes': WHATEVER THE INPUT: true; the input reads as it did. -/
def sealNotesSpec : ChangeSpec := { name := "sealNotes", fn := fun _ => fun
  | [d1, d2] => { results := [.lit (.bool true)], args := [d1, d2] }
  | _ => none }
def sealNotesRow : OpenClaim := { program := "ytmjjkpiglbpkhaa", sum := "25f375735e6e897d8e315a552e9d412b639bf9bc92c6a37f8bbb8f97caf9092e", func := "incipit/incipitlaw03.SealNotes", spec := "sealNotes", unfollowed := true, recurses := true, plainKeys := false, apart := false }
def SealNotesSaid : Prop := sealNotesRow.holds Try.pinned (OpenSpec.ofChange sealNotesSpec)

/-- ITS FALSE NEIGHBOUR: 'it returns false'. Refute it at one input. -/
def sealNotesWrong : ChangeSpec := { name := "sealNotes", fn := fun _ => fun
  | [d1, d2] => { results := [.lit (.bool false)], args := [d1, d2] }
  | _ => none }
def SealNotesWrongFalsely : Prop := sealNotesRow.holds Try.pinned (OpenSpec.ofChange sealNotesWrong)

/-- 'incipitlaw03.SealClashes': WHATEVER THE INPUT: true; the input reads as it did. -/
def sealClashesSpec : ChangeSpec := { name := "sealClashes", fn := fun _ => fun
  | [d1, d2] => { results := [.lit (.bool true)], args := [d1, d2] }
  | _ => none }
def sealClashesRow : OpenClaim := { program := "ytmjjkpiglbpkhaa", sum := "25f375735e6e897d8e315a552e9d412b639bf9bc92c6a37f8bbb8f97caf9092e", func := "incipit/incipitlaw03.SealClashes", spec := "sealClashes", unfollowed := true, recurses := true, plainKeys := false, apart := false }
def SealClashesSaid : Prop := sealClashesRow.holds Try.pinned (OpenSpec.ofChange sealClashesSpec)

/-- ITS FALSE NEIGHBOUR: 'it returns false'. Refute it at one input. -/
def sealClashesWrong : ChangeSpec := { name := "sealClashes", fn := fun _ => fun
  | [d1, d2] => { results := [.lit (.bool false)], args := [d1, d2] }
  | _ => none }
def SealClashesWrongFalsely : Prop := sealClashesRow.holds Try.pinned (OpenSpec.ofChange sealClashesWrong)

/-- 'incipitlaw03.SealMeets': WHATEVER THE INPUT: true; the input reads as it did. -/
def sealMeetsSpec : ChangeSpec := { name := "sealMeets", fn := fun _ => fun
  | [d] => { results := [.lit (.bool true)], args := [d] }
  | _ => none }
def sealMeetsRow : OpenClaim := { program := "ytmjjkpiglbpkhaa", sum := "25f375735e6e897d8e315a552e9d412b639bf9bc92c6a37f8bbb8f97caf9092e", func := "incipit/incipitlaw03.SealMeets", spec := "sealMeets", unfollowed := true, recurses := true, plainKeys := false, apart := false }
def SealMeetsSaid : Prop := sealMeetsRow.holds Try.pinned (OpenSpec.ofChange sealMeetsSpec)

/-- ITS FALSE NEIGHBOUR: 'it returns false'. Refute it at one input. -/
def sealMeetsWrong : ChangeSpec := { name := "sealMeets", fn := fun _ => fun
  | [d] => { results := [.lit (.bool false)], args := [d] }
  | _ => none }
def SealMeetsWrongFalsely : Prop := sealMeetsRow.holds Try.pinned (OpenSpec.ofChange sealMeetsWrong)

/- THE SECOND FORM. 'bulk': how many values and letters a reading holds, each counted each time it is reached (what is shared counts as often as it is met; a slice's spare places count too). A statement '..UptoSaid' is the law's where the arguments, and the package variables that the reading takes, are together of bulk at most 1048576: NARROWER than '..Said'. Prove '..Said' where nothing that the law and all that it calls make is longer than what came in: it says more and counts as full. Else prove '..UptoSaid'. A law counts once. -/
mutual
def uptoBulk {H : Type} : DataW H → Nat
  | .lit (.string bytes) => bytes.length + 1
  | .lit _ => 1
  | .nil => 1
  | .ptr d => uptoBulk d + 1
  | .slice elems spare => uptoBulkAll elems + uptoBulkAll spare + 1
  | .agg parts => uptoBulkAll parts + 1
  | .iface _ d => uptoBulk d + 1
  | .map entries => uptoBulkEntries entries + 1
  | .held _ => 1
def uptoBulkAll {H : Type} : List (DataW H) → Nat
  | [] => 0
  | d :: r => uptoBulk d + uptoBulkAll r
def uptoBulkEntries {H : Type} : List (Lit × DataW H) → Nat
  | [] => 0
  | x :: r => uptoBulkEntry x + uptoBulkEntries r
def uptoBulkEntry {H : Type} : Lit × DataW H → Nat
  | (.string bytes, d) => bytes.length + uptoBulk d + 1
  | (_, d) => uptoBulk d + 1
 end
def uptoSmall : (H : Type) → List (DataW H) → Bool := fun _ ds => decide (uptoBulkAll ds ≤ 1048576)
def OpenSpec.upto (s : _root_.Go.ChangeSpec) : _root_.Go.OpenSpec := { _root_.Go.OpenSpec.ofChange s with cond := some uptoSmall }

/-- 'incipitlaw15.ChainHeads', WHERE WHAT IT READS IS OF BULK AT MOST 1048576: true; the input reads as it did. -/
def chainHeadsUptoRow : OpenClaim := { program := "ytmjjkpiglbpkhaa", sum := "25f375735e6e897d8e315a552e9d412b639bf9bc92c6a37f8bbb8f97caf9092e", func := "incipit/incipitlaw15.ChainHeads", spec := "chainHeads", unfollowed := true, recurses := true, plainKeys := false, apart := false, narrowed := true }
def ChainHeadsUptoSaid : Prop := chainHeadsUptoRow.holds Try.pinned (OpenSpec.upto chainHeadsSpec)

/-- 'incipitlaw15.ChainBack', WHERE WHAT IT READS IS OF BULK AT MOST 1048576: true; the input reads as it did. -/
def chainBackUptoRow : OpenClaim := { program := "ytmjjkpiglbpkhaa", sum := "25f375735e6e897d8e315a552e9d412b639bf9bc92c6a37f8bbb8f97caf9092e", func := "incipit/incipitlaw15.ChainBack", spec := "chainBack", unfollowed := true, recurses := true, plainKeys := false, apart := false, narrowed := true }
def ChainBackUptoSaid : Prop := chainBackUptoRow.holds Try.pinned (OpenSpec.upto chainBackSpec)

/-- 'incipitlaw06.KeyedTells', WHERE WHAT IT READS IS OF BULK AT MOST 1048576: true; the input reads as it did. -/
def keyedTellsUptoRow : OpenClaim := { program := "ytmjjkpiglbpkhaa", sum := "25f375735e6e897d8e315a552e9d412b639bf9bc92c6a37f8bbb8f97caf9092e", func := "incipit/incipitlaw06.KeyedTells", spec := "keyedTells", inPlace := ["internal/bytealg.Compare"], unfollowed := true, recurses := true, plainKeys := false, apart := false, narrowed := true }
def KeyedTellsUptoSaid : Prop := keyedTellsUptoRow.holds Try.pinned (OpenSpec.upto keyedTellsSpec)

/-- 'incipitlaw06.KeyedBinds', WHERE WHAT IT READS IS OF BULK AT MOST 1048576: true; the input reads as it did. -/
def keyedBindsUptoRow : OpenClaim := { program := "ytmjjkpiglbpkhaa", sum := "25f375735e6e897d8e315a552e9d412b639bf9bc92c6a37f8bbb8f97caf9092e", func := "incipit/incipitlaw06.KeyedBinds", spec := "keyedBinds", inPlace := ["internal/bytealg.Compare"], unfollowed := true, recurses := true, plainKeys := false, apart := false, narrowed := true }
def KeyedBindsUptoSaid : Prop := keyedBindsUptoRow.holds Try.pinned (OpenSpec.upto keyedBindsSpec)

/-- 'incipitlaw06.KeyedLooks', WHERE WHAT IT READS IS OF BULK AT MOST 1048576: true; the input reads as it did. -/
def keyedLooksUptoRow : OpenClaim := { program := "ytmjjkpiglbpkhaa", sum := "25f375735e6e897d8e315a552e9d412b639bf9bc92c6a37f8bbb8f97caf9092e", func := "incipit/incipitlaw06.KeyedLooks", spec := "keyedLooks", inPlace := ["internal/bytealg.Compare"], unfollowed := true, recurses := true, plainKeys := false, apart := false, narrowed := true }
def KeyedLooksUptoSaid : Prop := keyedLooksUptoRow.holds Try.pinned (OpenSpec.upto keyedLooksSpec)

/-- 'incipitlaw06.KeyedShows', WHERE WHAT IT READS IS OF BULK AT MOST 1048576: true; the input reads as it did. -/
def keyedShowsUptoRow : OpenClaim := { program := "ytmjjkpiglbpkhaa", sum := "25f375735e6e897d8e315a552e9d412b639bf9bc92c6a37f8bbb8f97caf9092e", func := "incipit/incipitlaw06.KeyedShows", spec := "keyedShows", inPlace := ["internal/bytealg.Compare"], unfollowed := true, recurses := true, plainKeys := false, apart := false, narrowed := true }
def KeyedShowsUptoSaid : Prop := keyedShowsUptoRow.holds Try.pinned (OpenSpec.upto keyedShowsSpec)

/-- 'incipitlaw06.KeyedBytes', WHERE WHAT IT READS IS OF BULK AT MOST 1048576: true; the input reads as it did. -/
def keyedBytesUptoRow : OpenClaim := { program := "ytmjjkpiglbpkhaa", sum := "25f375735e6e897d8e315a552e9d412b639bf9bc92c6a37f8bbb8f97caf9092e", func := "incipit/incipitlaw06.KeyedBytes", spec := "keyedBytes", inPlace := ["internal/bytealg.Compare"], unfollowed := true, recurses := true, plainKeys := false, apart := false, narrowed := true }
def KeyedBytesUptoSaid : Prop := keyedBytesUptoRow.holds Try.pinned (OpenSpec.upto keyedBytesSpec)

/-- 'incipitlaw06.KeyedBack', WHERE WHAT IT READS IS OF BULK AT MOST 1048576: true; the input reads as it did. -/
def keyedBackUptoRow : OpenClaim := { program := "ytmjjkpiglbpkhaa", sum := "25f375735e6e897d8e315a552e9d412b639bf9bc92c6a37f8bbb8f97caf9092e", func := "incipit/incipitlaw06.KeyedBack", spec := "keyedBack", inPlace := ["internal/bytealg.Compare"], unfollowed := true, recurses := true, plainKeys := false, apart := false, narrowed := true }
def KeyedBackUptoSaid : Prop := keyedBackUptoRow.holds Try.pinned (OpenSpec.upto keyedBackSpec)

/-- 'incipitlaw03.SealNotes', WHERE WHAT IT READS IS OF BULK AT MOST 1048576: true; the input reads as it did. -/
def sealNotesUptoRow : OpenClaim := { program := "ytmjjkpiglbpkhaa", sum := "25f375735e6e897d8e315a552e9d412b639bf9bc92c6a37f8bbb8f97caf9092e", func := "incipit/incipitlaw03.SealNotes", spec := "sealNotes", unfollowed := true, recurses := true, plainKeys := false, apart := false, narrowed := true }
def SealNotesUptoSaid : Prop := sealNotesUptoRow.holds Try.pinned (OpenSpec.upto sealNotesSpec)

/-- 'incipitlaw03.SealClashes', WHERE WHAT IT READS IS OF BULK AT MOST 1048576: true; the input reads as it did. -/
def sealClashesUptoRow : OpenClaim := { program := "ytmjjkpiglbpkhaa", sum := "25f375735e6e897d8e315a552e9d412b639bf9bc92c6a37f8bbb8f97caf9092e", func := "incipit/incipitlaw03.SealClashes", spec := "sealClashes", unfollowed := true, recurses := true, plainKeys := false, apart := false, narrowed := true }
def SealClashesUptoSaid : Prop := sealClashesUptoRow.holds Try.pinned (OpenSpec.upto sealClashesSpec)

/-- 'incipitlaw03.SealMeets', WHERE WHAT IT READS IS OF BULK AT MOST 1048576: true; the input reads as it did. -/
def sealMeetsUptoRow : OpenClaim := { program := "ytmjjkpiglbpkhaa", sum := "25f375735e6e897d8e315a552e9d412b639bf9bc92c6a37f8bbb8f97caf9092e", func := "incipit/incipitlaw03.SealMeets", spec := "sealMeets", unfollowed := true, recurses := true, plainKeys := false, apart := false, narrowed := true }
def SealMeetsUptoSaid : Prop := sealMeetsUptoRow.holds Try.pinned (OpenSpec.upto sealMeetsSpec)

end Rows
end Go.Proofs.Ytmjjkpiglbpkhaa
