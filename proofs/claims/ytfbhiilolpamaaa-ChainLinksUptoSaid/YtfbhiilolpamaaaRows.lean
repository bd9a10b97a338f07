/-
  No cell of these rows narrows 'for every input' (looked for: loops, veiled, ifaces, maps, wideKeys, modest, calm, conditions, laid).
  DERIVED. THE GIVEN ROWS OF THIS SEAT. 10 by the template 'for every input the law returns true; each argument reads behind the call as it read before'; 0 by the template 'total and deterministic' (their statements: YtfbhiilolpamaaaTotals.lean).
  GIVEN WITH THE SEED: the statements are not yours to turn. If you find one false, say at which input.
  Laid BY PROGRAM, IN A SANDBOX (cutbox-rows.mjs): the forced cells as the released guide's own fill.sh prints them over the translation d32c31965356e5c3… (all of the seat's roots in one cut). By AI agents, Wed Nov 11 2026. No macro, syntax, notation, axiom, sorry.
-/
import Derived.Test.YtfbhiilolpamaaaChecked
import GoSem.Claim
import GoSem.ClaimJoined
import GoSem.ClaimMapViews
import Derived.JoinedTies
import Derived.KernelRfl
namespace Go.Proofs.Ytfbhiilolpamaaa
/- THE CELL 'sum', in the pinned program and in every row, IS THE sha256 OF THE DUMP (.gsa) THAT YtfbhiilolpamaaaProg.lean LOADS. Nothing in Lean hashes anything: it is a label: what it is worth is what the hold of that sum in a sandbox is worth. -/
noncomputable def Try.pinned : Pinned := { name := "ytfbhiilolpamaaa", sum := "d32c31965356e5c3d498ee7fa7aeae1a317b54590d1ba55fde3d720488ab385a", checked := Try.checked }
namespace Rows
def none {H : Type} : Left H := { results := [], args := [] }

/-- 'incipitlaw03.SealNotes': WHATEVER THE INPUT: true; the input reads as it did. -/
def sealNotesSpec : ChangeSpec := { name := "sealNotes", fn := fun _ => fun
  | [d1, d2] => { results := [.lit (.bool true)], args := [d1, d2] }
  | _ => none }
def sealNotesRow : OpenClaim := { program := "ytfbhiilolpamaaa", sum := "d32c31965356e5c3d498ee7fa7aeae1a317b54590d1ba55fde3d720488ab385a", func := "incipit/incipitlaw03.SealNotes", spec := "sealNotes", unfollowed := true, recurses := true, plainKeys := false, apart := false }
def SealNotesSaid : Prop := sealNotesRow.holds Try.pinned (OpenSpec.ofChange sealNotesSpec)

/-- ITS FALSE NEIGHBOUR: 'it returns false'. Refute it at one input. -/
def sealNotesWrong : ChangeSpec := { name := "sealNotes", fn := fun _ => fun
  | [d1, d2] => { results := [.lit (.bool false)], args := [d1, d2] }
  | _ => none }
def SealNotesWrongFalsely : Prop := sealNotesRow.holds Try.pinned (OpenSpec.ofChange sealNotesWrong)

/-- 'incipitlaw03.SealNobody': WHATEVER THE INPUT: true; the input reads as it did. -/
def sealNobodySpec : ChangeSpec := { name := "sealNobody", fn := fun _ => fun
  | [d] => { results := [.lit (.bool true)], args := [d] }
  | _ => none }
def sealNobodyRow : OpenClaim := { program := "ytfbhiilolpamaaa", sum := "d32c31965356e5c3d498ee7fa7aeae1a317b54590d1ba55fde3d720488ab385a", func := "incipit/incipitlaw03.SealNobody", spec := "sealNobody", unfollowed := true, recurses := true, plainKeys := false, apart := false }
def SealNobodySaid : Prop := sealNobodyRow.holds Try.pinned (OpenSpec.ofChange sealNobodySpec)

/-- ITS FALSE NEIGHBOUR: 'it returns false'. Refute it at one input. -/
def sealNobodyWrong : ChangeSpec := { name := "sealNobody", fn := fun _ => fun
  | [d] => { results := [.lit (.bool false)], args := [d] }
  | _ => none }
def SealNobodyWrongFalsely : Prop := sealNobodyRow.holds Try.pinned (OpenSpec.ofChange sealNobodyWrong)

/-- 'incipitlaw03.SealClashes': WHATEVER THE INPUT: true; the input reads as it did. -/
def sealClashesSpec : ChangeSpec := { name := "sealClashes", fn := fun _ => fun
  | [d1, d2] => { results := [.lit (.bool true)], args := [d1, d2] }
  | _ => none }
def sealClashesRow : OpenClaim := { program := "ytfbhiilolpamaaa", sum := "d32c31965356e5c3d498ee7fa7aeae1a317b54590d1ba55fde3d720488ab385a", func := "incipit/incipitlaw03.SealClashes", spec := "sealClashes", unfollowed := true, recurses := true, plainKeys := false, apart := false }
def SealClashesSaid : Prop := sealClashesRow.holds Try.pinned (OpenSpec.ofChange sealClashesSpec)

/-- ITS FALSE NEIGHBOUR: 'it returns false'. Refute it at one input. -/
def sealClashesWrong : ChangeSpec := { name := "sealClashes", fn := fun _ => fun
  | [d1, d2] => { results := [.lit (.bool false)], args := [d1, d2] }
  | _ => none }
def SealClashesWrongFalsely : Prop := sealClashesRow.holds Try.pinned (OpenSpec.ofChange sealClashesWrong)

/-- 'incipitlaw03.SealApart': WHATEVER THE INPUT: true; the input reads as it did. -/
def sealApartSpec : ChangeSpec := { name := "sealApart", fn := fun _ => fun
  | [d1, d2, d3, d4] => { results := [.lit (.bool true)], args := [d1, d2, d3, d4] }
  | _ => none }
def sealApartRow : OpenClaim := { program := "ytfbhiilolpamaaa", sum := "d32c31965356e5c3d498ee7fa7aeae1a317b54590d1ba55fde3d720488ab385a", func := "incipit/incipitlaw03.SealApart", spec := "sealApart", unfollowed := true, recurses := true, plainKeys := false, apart := false }
def SealApartSaid : Prop := sealApartRow.holds Try.pinned (OpenSpec.ofChange sealApartSpec)

/-- ITS FALSE NEIGHBOUR: 'it returns false'. Refute it at one input. -/
def sealApartWrong : ChangeSpec := { name := "sealApart", fn := fun _ => fun
  | [d1, d2, d3, d4] => { results := [.lit (.bool false)], args := [d1, d2, d3, d4] }
  | _ => none }
def SealApartWrongFalsely : Prop := sealApartRow.holds Try.pinned (OpenSpec.ofChange sealApartWrong)

/-- 'incipitlaw03.SealMeets': WHATEVER THE INPUT: true; the input reads as it did. -/
def sealMeetsSpec : ChangeSpec := { name := "sealMeets", fn := fun _ => fun
  | [d] => { results := [.lit (.bool true)], args := [d] }
  | _ => none }
def sealMeetsRow : OpenClaim := { program := "ytfbhiilolpamaaa", sum := "d32c31965356e5c3d498ee7fa7aeae1a317b54590d1ba55fde3d720488ab385a", func := "incipit/incipitlaw03.SealMeets", spec := "sealMeets", unfollowed := true, recurses := true, plainKeys := false, apart := false }
def SealMeetsSaid : Prop := sealMeetsRow.holds Try.pinned (OpenSpec.ofChange sealMeetsSpec)

/-- ITS FALSE NEIGHBOUR: 'it returns false'. Refute it at one input. -/
def sealMeetsWrong : ChangeSpec := { name := "sealMeets", fn := fun _ => fun
  | [d] => { results := [.lit (.bool false)], args := [d] }
  | _ => none }
def SealMeetsWrongFalsely : Prop := sealMeetsRow.holds Try.pinned (OpenSpec.ofChange sealMeetsWrong)

/-- 'incipitlaw03.SealGrows': WHATEVER THE INPUT: true; the input reads as it did. -/
def sealGrowsSpec : ChangeSpec := { name := "sealGrows", fn := fun _ => fun
  | [d1, d2, d3] => { results := [.lit (.bool true)], args := [d1, d2, d3] }
  | _ => none }
def sealGrowsRow : OpenClaim := { program := "ytfbhiilolpamaaa", sum := "d32c31965356e5c3d498ee7fa7aeae1a317b54590d1ba55fde3d720488ab385a", func := "incipit/incipitlaw03.SealGrows", spec := "sealGrows", unfollowed := true, recurses := true, plainKeys := false, apart := false }
def SealGrowsSaid : Prop := sealGrowsRow.holds Try.pinned (OpenSpec.ofChange sealGrowsSpec)

/-- ITS FALSE NEIGHBOUR: 'it returns false'. Refute it at one input. -/
def sealGrowsWrong : ChangeSpec := { name := "sealGrows", fn := fun _ => fun
  | [d1, d2, d3] => { results := [.lit (.bool false)], args := [d1, d2, d3] }
  | _ => none }
def SealGrowsWrongFalsely : Prop := sealGrowsRow.holds Try.pinned (OpenSpec.ofChange sealGrowsWrong)

/-- 'incipitlaw15.ChainHeads': WHATEVER THE INPUT: true; the input reads as it did. -/
def chainHeadsSpec : ChangeSpec := { name := "chainHeads", fn := fun _ => fun
  | [d1, d2, d3] => { results := [.lit (.bool true)], args := [d1, d2, d3] }
  | _ => none }
def chainHeadsRow : OpenClaim := { program := "ytfbhiilolpamaaa", sum := "d32c31965356e5c3d498ee7fa7aeae1a317b54590d1ba55fde3d720488ab385a", func := "incipit/incipitlaw15.ChainHeads", spec := "chainHeads", unfollowed := true, recurses := true, plainKeys := false, apart := false }
def ChainHeadsSaid : Prop := chainHeadsRow.holds Try.pinned (OpenSpec.ofChange chainHeadsSpec)

/-- ITS FALSE NEIGHBOUR: 'it returns false'. Refute it at one input. -/
def chainHeadsWrong : ChangeSpec := { name := "chainHeads", fn := fun _ => fun
  | [d1, d2, d3] => { results := [.lit (.bool false)], args := [d1, d2, d3] }
  | _ => none }
def ChainHeadsWrongFalsely : Prop := chainHeadsRow.holds Try.pinned (OpenSpec.ofChange chainHeadsWrong)

/-- 'incipitlaw15.ChainBound': WHATEVER THE INPUT: true; the input reads as it did. -/
def chainBoundSpec : ChangeSpec := { name := "chainBound", fn := fun _ => fun
  | [d1, d2] => { results := [.lit (.bool true)], args := [d1, d2] }
  | _ => none }
def chainBoundRow : OpenClaim := { program := "ytfbhiilolpamaaa", sum := "d32c31965356e5c3d498ee7fa7aeae1a317b54590d1ba55fde3d720488ab385a", func := "incipit/incipitlaw15.ChainBound", spec := "chainBound", unfollowed := true, recurses := true, plainKeys := false, apart := false }
def ChainBoundSaid : Prop := chainBoundRow.holds Try.pinned (OpenSpec.ofChange chainBoundSpec)

/-- ITS FALSE NEIGHBOUR: 'it returns false'. Refute it at one input. -/
def chainBoundWrong : ChangeSpec := { name := "chainBound", fn := fun _ => fun
  | [d1, d2] => { results := [.lit (.bool false)], args := [d1, d2] }
  | _ => none }
def ChainBoundWrongFalsely : Prop := chainBoundRow.holds Try.pinned (OpenSpec.ofChange chainBoundWrong)

/-- 'incipitlaw15.ChainLinks': WHATEVER THE INPUT: true; the input reads as it did. -/
def chainLinksSpec : ChangeSpec := { name := "chainLinks", fn := fun _ => fun
  | [d1, d2, d3, d4] => { results := [.lit (.bool true)], args := [d1, d2, d3, d4] }
  | _ => none }
def chainLinksRow : OpenClaim := { program := "ytfbhiilolpamaaa", sum := "d32c31965356e5c3d498ee7fa7aeae1a317b54590d1ba55fde3d720488ab385a", func := "incipit/incipitlaw15.ChainLinks", spec := "chainLinks", unfollowed := true, recurses := true, plainKeys := false, apart := false }
def ChainLinksSaid : Prop := chainLinksRow.holds Try.pinned (OpenSpec.ofChange chainLinksSpec)

/-- ITS FALSE NEIGHBOUR: 'it returns false'. Refute it at one input. -/
def chainLinksWrong : ChangeSpec := { name := "chainLinks", fn := fun _ => fun
  | [d1, d2, d3, d4] => { results := [.lit (.bool false)], args := [d1, d2, d3, d4] }
  | _ => none }
def ChainLinksWrongFalsely : Prop := chainLinksRow.holds Try.pinned (OpenSpec.ofChange chainLinksWrong)

/-- 'incipitlaw15.ChainBack': WHATEVER THE INPUT: true; the input reads as it did. -/
def chainBackSpec : ChangeSpec := { name := "chainBack", fn := fun _ => fun
  | [d1, d2] => { results := [.lit (.bool true)], args := [d1, d2] }
  | _ => none }
def chainBackRow : OpenClaim := { program := "ytfbhiilolpamaaa", sum := "d32c31965356e5c3d498ee7fa7aeae1a317b54590d1ba55fde3d720488ab385a", func := "incipit/incipitlaw15.ChainBack", spec := "chainBack", unfollowed := true, recurses := true, plainKeys := false, apart := false }
def ChainBackSaid : Prop := chainBackRow.holds Try.pinned (OpenSpec.ofChange chainBackSpec)

/-- ITS FALSE NEIGHBOUR: 'it returns false'. Refute it at one input. -/
def chainBackWrong : ChangeSpec := { name := "chainBack", fn := fun _ => fun
  | [d1, d2] => { results := [.lit (.bool false)], args := [d1, d2] }
  | _ => none }
def ChainBackWrongFalsely : Prop := chainBackRow.holds Try.pinned (OpenSpec.ofChange chainBackWrong)

/- THE SECOND FORM. 'bulk': how many values and letters a reading holds, each counted each time it is reached (what is shared counts as often as it is met; a slice's spare places count too). A statement '..UptoSaid' is the law's where the arguments, and the package variables that the reading takes, are together of bulk at most 1048576: NARROWER than '..Said'. Prove '..Said' where nothing that the law and all that it calls make is longer than what came in: it says more and counts as full. Else prove '..UptoSaid'. A law counts once. -/
mutual
def uptoBulk {H : Type} : DataW H → Nat
  | .lit (.string bytes) => bytes.length + 1
  | .lit _ => 1
  | .nil => 1
  | .ptr d => uptoBulk d + 1
  | .slice elems spare => uptoBulkAll elems + uptoBulkAll spare + 1
  | .agg parts => uptoBulkAll parts + 1
  | .iface _ d => uptoBulk d + 1
  | .map entries => uptoBulkEntries entries + 1
  | .held _ => 1
def uptoBulkAll {H : Type} : List (DataW H) → Nat
  | [] => 0
  | d :: r => uptoBulk d + uptoBulkAll r
def uptoBulkEntries {H : Type} : List (Lit × DataW H) → Nat
  | [] => 0
  | x :: r => uptoBulkEntry x + uptoBulkEntries r
def uptoBulkEntry {H : Type} : Lit × DataW H → Nat
  | (.string bytes, d) => bytes.length + uptoBulk d + 1
  | (_, d) => uptoBulk d + 1
 end
def uptoSmall : (H : Type) → List (DataW H) → Bool := fun _ ds => decide (uptoBulkAll ds ≤ 1048576)
def OpenSpec.upto (s : _root_.Go.ChangeSpec) : _root_.Go.OpenSpec := { _root_.Go.OpenSpec.ofChange s with cond := some uptoSmall }

/-- 'incipitlaw03.SealNotes', WHERE WHAT IT READS IS OF BULK AT MOST 1048576: true; the input reads as it did. -/
def sealNotesUptoRow : OpenClaim := { program := "ytfbhiilolpamaaa", sum := "d32c31965356e5c3d498ee7fa7aeae1a317b54590d1ba55fde3d720488ab385a", func := "incipit/incipitlaw03.SealNotes", spec := "sealNotes", unfollowed := true, recurses := true, plainKeys := false, apart := false, narrowed := true }
def SealNotesUptoSaid : Prop := sealNotesUptoRow.holds Try.pinned (OpenSpec.upto sealNotesSpec)

/-- 'incipitlaw03.SealNobody', WHERE WHAT IT READS IS OF BULK AT MOST 1048576: true; the input reads as it did. -/
def sealNobodyUptoRow : OpenClaim := { program := "ytfbhiilolpamaaa", sum := "d32c31965356e5c3d498ee7fa7aeae1a317b54590d1ba55fde3d720488ab385a", func := "incipit/incipitlaw03.SealNobody", spec := "sealNobody", unfollowed := true, recurses := true, plainKeys := false, apart := false, narrowed := true }
def SealNobodyUptoSaid : Prop := sealNobodyUptoRow.holds Try.pinned (OpenSpec.upto sealNobodySpec)

/-- 'incipitlaw03.SealClashes', WHERE WHAT IT READS IS OF BULK AT MOST 1048576: true; the input reads as it did. -/
def sealClashesUptoRow : OpenClaim := { program := "ytfbhiilolpamaaa", sum := "d32c31965356e5c3d498ee7fa7aeae1a317b54590d1ba55fde3d720488ab385a", func := "incipit/incipitlaw03.SealClashes", spec := "sealClashes", unfollowed := true, recurses := true, plainKeys := false, apart := false, narrowed := true }
def SealClashesUptoSaid : Prop := sealClashesUptoRow.holds Try.pinned (OpenSpec.upto sealClashesSpec)

/-- 'incipitlaw03.SealApart', WHERE WHAT IT READS IS OF BULK AT MOST 1048576: true; the input reads as it did. -/
def sealApartUptoRow : OpenClaim := { program := "ytfbhiilolpamaaa", sum := "d32c31965356e5c3d498ee7fa7aeae1a317b54590d1ba55fde3d720488ab385a", func := "incipit/incipitlaw03.SealApart", spec := "sealApart", unfollowed := true, recurses := true, plainKeys := false, apart := false, narrowed := true }
def SealApartUptoSaid : Prop := sealApartUptoRow.holds Try.pinned (OpenSpec.upto sealApartSpec)

/-- 'incipitlaw03.SealMeets', WHERE WHAT IT READS IS OF BULK AT MOST 1048576: true; the input reads as it did. -/
def sealMeetsUptoRow : OpenClaim := { program := "ytfbhiilolpamaaa", sum := "d32c31965356e5c3d498ee7fa7aeae1a317b54590d1ba55fde3d720488ab385a", func := "incipit/incipitlaw03.SealMeets", spec := "sealMeets", unfollowed := true, recurses := true, plainKeys := false, apart := false, narrowed := true }
def SealMeetsUptoSaid : Prop := sealMeetsUptoRow.holds Try.pinned (OpenSpec.upto sealMeetsSpec)

/-- 'incipitlaw03.SealGrows', WHERE WHAT IT READS IS OF BULK AT MOST 1048576: true; the input reads as it did. -/
def sealGrowsUptoRow : OpenClaim := { program := "ytfbhiilolpamaaa", sum := "d32c31965356e5c3d498ee7fa7aeae1a317b54590d1ba55fde3d720488ab385a", func := "incipit/incipitlaw03.SealGrows", spec := "sealGrows", unfollowed := true, recurses := true, plainKeys := false, apart := false, narrowed := true }
def SealGrowsUptoSaid : Prop := sealGrowsUptoRow.holds Try.pinned (OpenSpec.upto sealGrowsSpec)

/-- 'incipitlaw15.ChainHeads', WHERE WHAT IT READS IS OF BULK AT MOST 1048576: true; the input reads as it did. -/
def chainHeadsUptoRow : OpenClaim := { program := "ytfbhiilolpamaaa", sum := "d32c31965356e5c3d498ee7fa7aeae1a317b54590d1ba55fde3d720488ab385a", func := "incipit/incipitlaw15.ChainHeads", spec := "chainHeads", unfollowed := true, recurses := true, plainKeys := false, apart := false, narrowed := true }
def ChainHeadsUptoSaid : Prop := chainHeadsUptoRow.holds Try.pinned (OpenSpec.upto chainHeadsSpec)

/-- 'incipitlaw15.ChainBound', WHERE WHAT IT READS IS OF BULK AT MOST 1048576: true; the input reads as it did. -/
def chainBoundUptoRow : OpenClaim := { program := "ytfbhiilolpamaaa", sum := "d32c31965356e5c3d498ee7fa7aeae1a317b54590d1ba55fde3d720488ab385a", func := "incipit/incipitlaw15.ChainBound", spec := "chainBound", unfollowed := true, recurses := true, plainKeys := false, apart := false, narrowed := true }
def ChainBoundUptoSaid : Prop := chainBoundUptoRow.holds Try.pinned (OpenSpec.upto chainBoundSpec)

/-- 'incipitlaw15.ChainLinks', WHERE WHAT IT READS IS OF BULK AT MOST 1048576: true; the input reads as it did. -/
def chainLinksUptoRow : OpenClaim := { program := "ytfbhiilolpamaaa", sum := "d32c31965356e5c3d498ee7fa7aeae1a317b54590d1ba55fde3d720488ab385a", func := "incipit/incipitlaw15.ChainLinks", spec := "chainLinks", unfollowed := true, recurses := true, plainKeys := false, apart := false, narrowed := true }
def ChainLinksUptoSaid : Prop := chainLinksUptoRow.holds Try.pinned (OpenSpec.upto chainLinksSpec)

/-- 'incipitlaw15.ChainBack', WHERE WHAT IT READS IS OF BULK AT MOST 1048576: true; the input reads as it did. -/
def chainBackUptoRow : OpenClaim := { program := "ytfbhiilolpamaaa", sum := "d32c31965356e5c3d498ee7fa7aeae1a317b54590d1ba55fde3d720488ab385a", func := "incipit/incipitlaw15.ChainBack", spec := "chainBack", unfollowed := true, recurses := true, plainKeys := false, apart := false, narrowed := true }
def ChainBackUptoSaid : Prop := chainBackUptoRow.holds Try.pinned (OpenSpec.upto chainBackSpec)

end Rows
end Go.Proofs.Ytfbhiilolpamaaa
