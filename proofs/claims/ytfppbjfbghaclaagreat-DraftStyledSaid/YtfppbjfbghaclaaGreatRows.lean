/-
  No cell of these rows narrows 'for every input' (looked for: loops, veiled, ifaces, maps, wideKeys, modest, calm, conditions, laid).
  DERIVED. THE GIVEN ROWS OF THIS SEAT. 11 by the template 'for every input the law returns true; each argument reads behind the call as it read before'; 0 by the template 'total and deterministic' (their statements: YtfppbjfbghaclaaGreatTotals.lean).
  GIVEN WITH THE SEED: the statements are not yours to turn. If you find one false, say at which input.
  Laid BY PROGRAM, IN A SANDBOX (cutbox-rows.mjs): the forced cells as the released guide's own fill.sh prints them over the translation 778b678ea095ad50… (all of the seat's roots in one cut). By AI agents, Wed Nov 11 2026. No macro, syntax, notation, axiom, sorry.
-/
import Derived.Test.YtfppbjfbghaclaaGreatChecked
import GoSem.Claim
import GoSem.ClaimJoined
import GoSem.ClaimMapViews
import Derived.JoinedTies
import Derived.KernelRfl
namespace Go.Proofs.YtfppbjfbghaclaaGreat
/- THE CELL 'sum', in the pinned program and in every row, IS THE sha256 OF THE DUMP (.gsa) THAT YtfppbjfbghaclaaGreatProg.lean LOADS. Nothing in Lean hashes anything: it is a label: what it is worth is what the hold of that sum in a sandbox is worth. -/
noncomputable def Tryz.pinned : Pinned := { name := "ytfppbjfbghaclaagreat", sum := "778b678ea095ad504eb0c792002f378497431e64d1d5fec6e2843488bb052a5b", checked := Tryz.checked }
namespace Rows
def none {H : Type} : Left H := { results := [], args := [] }

/-- 'palantypelaw03.DraftTraces': WHATEVER THE INPUT: true; the input reads as it did. -/
def draftTracesSpec : ChangeSpec := { name := "draftTraces", fn := fun _ => fun
  | [d1, d2] => { results := [.lit (.bool true)], args := [d1, d2] }
  | _ => none }
def draftTracesRow : OpenClaim := { program := "ytfppbjfbghaclaagreat", sum := "778b678ea095ad504eb0c792002f378497431e64d1d5fec6e2843488bb052a5b", func := "palantype/palantypelaw03.DraftTraces", spec := "draftTraces", inPlace := ["slices.overlaps[palantype/draft.item]"], unfollowed := true, recurses := true, apart := false }
def DraftTracesSaid : Prop := draftTracesRow.holds Tryz.pinned (OpenSpec.ofChange draftTracesSpec)

/-- ITS FALSE NEIGHBOUR: 'it returns false'. Refute it at one input. -/
def draftTracesWrong : ChangeSpec := { name := "draftTraces", fn := fun _ => fun
  | [d1, d2] => { results := [.lit (.bool false)], args := [d1, d2] }
  | _ => none }
def DraftTracesWrongFalsely : Prop := draftTracesRow.holds Tryz.pinned (OpenSpec.ofChange draftTracesWrong)

/-- 'palantypelaw03.DraftSeen': WHATEVER THE INPUT: true; the input reads as it did. -/
def draftSeenSpec : ChangeSpec := { name := "draftSeen", fn := fun _ => fun
  | [d1, d2] => { results := [.lit (.bool true)], args := [d1, d2] }
  | _ => none }
def draftSeenRow : OpenClaim := { program := "ytfppbjfbghaclaagreat", sum := "778b678ea095ad504eb0c792002f378497431e64d1d5fec6e2843488bb052a5b", func := "palantype/palantypelaw03.DraftSeen", spec := "draftSeen", inPlace := ["slices.overlaps[palantype/draft.item]"], unfollowed := true, recurses := true, apart := false }
def DraftSeenSaid : Prop := draftSeenRow.holds Tryz.pinned (OpenSpec.ofChange draftSeenSpec)

/-- ITS FALSE NEIGHBOUR: 'it returns false'. Refute it at one input. -/
def draftSeenWrong : ChangeSpec := { name := "draftSeen", fn := fun _ => fun
  | [d1, d2] => { results := [.lit (.bool false)], args := [d1, d2] }
  | _ => none }
def DraftSeenWrongFalsely : Prop := draftSeenRow.holds Tryz.pinned (OpenSpec.ofChange draftSeenWrong)

/-- 'palantypelaw03.DraftKept': WHATEVER THE INPUT: true; the input reads as it did. -/
def draftKeptSpec : ChangeSpec := { name := "draftKept", fn := fun _ => fun
  | [d1, d2] => { results := [.lit (.bool true)], args := [d1, d2] }
  | _ => none }
def draftKeptRow : OpenClaim := { program := "ytfppbjfbghaclaagreat", sum := "778b678ea095ad504eb0c792002f378497431e64d1d5fec6e2843488bb052a5b", func := "palantype/palantypelaw03.DraftKept", spec := "draftKept", inPlace := ["slices.overlaps[palantype/draft.item]"], unfollowed := true, recurses := true, apart := false }
def DraftKeptSaid : Prop := draftKeptRow.holds Tryz.pinned (OpenSpec.ofChange draftKeptSpec)

/-- ITS FALSE NEIGHBOUR: 'it returns false'. Refute it at one input. -/
def draftKeptWrong : ChangeSpec := { name := "draftKept", fn := fun _ => fun
  | [d1, d2] => { results := [.lit (.bool false)], args := [d1, d2] }
  | _ => none }
def DraftKeptWrongFalsely : Prop := draftKeptRow.holds Tryz.pinned (OpenSpec.ofChange draftKeptWrong)

/-- 'palantypelaw03.DraftApart': WHATEVER THE INPUT: true; the input reads as it did. -/
def draftApartSpec : ChangeSpec := { name := "draftApart", fn := fun _ => fun
  | [d1, d2, d3, d4] => { results := [.lit (.bool true)], args := [d1, d2, d3, d4] }
  | _ => none }
def draftApartRow : OpenClaim := { program := "ytfppbjfbghaclaagreat", sum := "778b678ea095ad504eb0c792002f378497431e64d1d5fec6e2843488bb052a5b", func := "palantype/palantypelaw03.DraftApart", spec := "draftApart", inPlace := ["slices.overlaps[palantype/draft.item]"], unfollowed := true, recurses := true, apart := false }
def DraftApartSaid : Prop := draftApartRow.holds Tryz.pinned (OpenSpec.ofChange draftApartSpec)

/-- ITS FALSE NEIGHBOUR: 'it returns false'. Refute it at one input. -/
def draftApartWrong : ChangeSpec := { name := "draftApart", fn := fun _ => fun
  | [d1, d2, d3, d4] => { results := [.lit (.bool false)], args := [d1, d2, d3, d4] }
  | _ => none }
def DraftApartWrongFalsely : Prop := draftApartRow.holds Tryz.pinned (OpenSpec.ofChange draftApartWrong)

/-- 'palantypelaw03.DraftAtOnce': WHATEVER THE INPUT: true; the input reads as it did. -/
def draftAtOnceSpec : ChangeSpec := { name := "draftAtOnce", fn := fun _ => fun
  | [d1, d2, d3] => { results := [.lit (.bool true)], args := [d1, d2, d3] }
  | _ => none }
def draftAtOnceRow : OpenClaim := { program := "ytfppbjfbghaclaagreat", sum := "778b678ea095ad504eb0c792002f378497431e64d1d5fec6e2843488bb052a5b", func := "palantype/palantypelaw03.DraftAtOnce", spec := "draftAtOnce", inPlace := ["slices.overlaps[palantype/draft.item]"], unfollowed := true, recurses := true, apart := false }
def DraftAtOnceSaid : Prop := draftAtOnceRow.holds Tryz.pinned (OpenSpec.ofChange draftAtOnceSpec)

/-- ITS FALSE NEIGHBOUR: 'it returns false'. Refute it at one input. -/
def draftAtOnceWrong : ChangeSpec := { name := "draftAtOnce", fn := fun _ => fun
  | [d1, d2, d3] => { results := [.lit (.bool false)], args := [d1, d2, d3] }
  | _ => none }
def DraftAtOnceWrongFalsely : Prop := draftAtOnceRow.holds Tryz.pinned (OpenSpec.ofChange draftAtOnceWrong)

/-- 'palantypelaw03.DraftSound': WHATEVER THE INPUT: true; the input reads as it did. -/
def draftSoundSpec : ChangeSpec := { name := "draftSound", fn := fun _ => fun
  | [d1, d2] => { results := [.lit (.bool true)], args := [d1, d2] }
  | _ => none }
def draftSoundRow : OpenClaim := { program := "ytfppbjfbghaclaagreat", sum := "778b678ea095ad504eb0c792002f378497431e64d1d5fec6e2843488bb052a5b", func := "palantype/palantypelaw03.DraftSound", spec := "draftSound", inPlace := ["slices.overlaps[palantype/draft.item]"], unfollowed := true, recurses := true, apart := false }
def DraftSoundSaid : Prop := draftSoundRow.holds Tryz.pinned (OpenSpec.ofChange draftSoundSpec)

/-- ITS FALSE NEIGHBOUR: 'it returns false'. Refute it at one input. -/
def draftSoundWrong : ChangeSpec := { name := "draftSound", fn := fun _ => fun
  | [d1, d2] => { results := [.lit (.bool false)], args := [d1, d2] }
  | _ => none }
def DraftSoundWrongFalsely : Prop := draftSoundRow.holds Tryz.pinned (OpenSpec.ofChange draftSoundWrong)

/-- 'palantypelaw03.DraftPlays': WHATEVER THE INPUT: true; the input reads as it did. -/
def draftPlaysSpec : ChangeSpec := { name := "draftPlays", fn := fun _ => fun
  | [d1, d2] => { results := [.lit (.bool true)], args := [d1, d2] }
  | _ => none }
def draftPlaysRow : OpenClaim := { program := "ytfppbjfbghaclaagreat", sum := "778b678ea095ad504eb0c792002f378497431e64d1d5fec6e2843488bb052a5b", func := "palantype/palantypelaw03.DraftPlays", spec := "draftPlays", inPlace := ["slices.overlaps[palantype/draft.item]"], unfollowed := true, recurses := true, apart := false }
def DraftPlaysSaid : Prop := draftPlaysRow.holds Tryz.pinned (OpenSpec.ofChange draftPlaysSpec)

/-- ITS FALSE NEIGHBOUR: 'it returns false'. Refute it at one input. -/
def draftPlaysWrong : ChangeSpec := { name := "draftPlays", fn := fun _ => fun
  | [d1, d2] => { results := [.lit (.bool false)], args := [d1, d2] }
  | _ => none }
def DraftPlaysWrongFalsely : Prop := draftPlaysRow.holds Tryz.pinned (OpenSpec.ofChange draftPlaysWrong)

/-- 'palantypelaw03.DraftUndoes': WHATEVER THE INPUT: true; the input reads as it did. -/
def draftUndoesSpec : ChangeSpec := { name := "draftUndoes", fn := fun _ => fun
  | [d1, d2] => { results := [.lit (.bool true)], args := [d1, d2] }
  | _ => none }
def draftUndoesRow : OpenClaim := { program := "ytfppbjfbghaclaagreat", sum := "778b678ea095ad504eb0c792002f378497431e64d1d5fec6e2843488bb052a5b", func := "palantype/palantypelaw03.DraftUndoes", spec := "draftUndoes", inPlace := ["slices.overlaps[palantype/draft.item]"], unfollowed := true, recurses := true, apart := false }
def DraftUndoesSaid : Prop := draftUndoesRow.holds Tryz.pinned (OpenSpec.ofChange draftUndoesSpec)

/-- ITS FALSE NEIGHBOUR: 'it returns false'. Refute it at one input. -/
def draftUndoesWrong : ChangeSpec := { name := "draftUndoes", fn := fun _ => fun
  | [d1, d2] => { results := [.lit (.bool false)], args := [d1, d2] }
  | _ => none }
def DraftUndoesWrongFalsely : Prop := draftUndoesRow.holds Tryz.pinned (OpenSpec.ofChange draftUndoesWrong)

/-- 'palantypelaw03.DraftBack': WHATEVER THE INPUT: true; the input reads as it did. -/
def draftBackSpec : ChangeSpec := { name := "draftBack", fn := fun _ => fun
  | [d1, d2, d3] => { results := [.lit (.bool true)], args := [d1, d2, d3] }
  | _ => none }
def draftBackRow : OpenClaim := { program := "ytfppbjfbghaclaagreat", sum := "778b678ea095ad504eb0c792002f378497431e64d1d5fec6e2843488bb052a5b", func := "palantype/palantypelaw03.DraftBack", spec := "draftBack", inPlace := ["slices.overlaps[palantype/draft.item]"], unfollowed := true, recurses := true, apart := false }
def DraftBackSaid : Prop := draftBackRow.holds Tryz.pinned (OpenSpec.ofChange draftBackSpec)

/-- ITS FALSE NEIGHBOUR: 'it returns false'. Refute it at one input. -/
def draftBackWrong : ChangeSpec := { name := "draftBack", fn := fun _ => fun
  | [d1, d2, d3] => { results := [.lit (.bool false)], args := [d1, d2, d3] }
  | _ => none }
def DraftBackWrongFalsely : Prop := draftBackRow.holds Tryz.pinned (OpenSpec.ofChange draftBackWrong)

/-- 'palantypelaw03.DraftStyles': WHATEVER THE INPUT: true; the input reads as it did. -/
def draftStylesSpec : ChangeSpec := { name := "draftStyles", fn := fun _ => fun
  | [d1, d2] => { results := [.lit (.bool true)], args := [d1, d2] }
  | _ => none }
def draftStylesRow : OpenClaim := { program := "ytfppbjfbghaclaagreat", sum := "778b678ea095ad504eb0c792002f378497431e64d1d5fec6e2843488bb052a5b", func := "palantype/palantypelaw03.DraftStyles", spec := "draftStyles", inPlace := ["slices.overlaps[palantype/draft.item]"], unfollowed := true, recurses := true, apart := false }
def DraftStylesSaid : Prop := draftStylesRow.holds Tryz.pinned (OpenSpec.ofChange draftStylesSpec)

/-- ITS FALSE NEIGHBOUR: 'it returns false'. Refute it at one input. -/
def draftStylesWrong : ChangeSpec := { name := "draftStyles", fn := fun _ => fun
  | [d1, d2] => { results := [.lit (.bool false)], args := [d1, d2] }
  | _ => none }
def DraftStylesWrongFalsely : Prop := draftStylesRow.holds Tryz.pinned (OpenSpec.ofChange draftStylesWrong)

/-- 'palantypelaw03.DraftStyled': WHATEVER THE INPUT: true; the input reads as it did. -/
def draftStyledSpec : ChangeSpec := { name := "draftStyled", fn := fun _ => fun
  | [d1, d2] => { results := [.lit (.bool true)], args := [d1, d2] }
  | _ => none }
def draftStyledRow : OpenClaim := { program := "ytfppbjfbghaclaagreat", sum := "778b678ea095ad504eb0c792002f378497431e64d1d5fec6e2843488bb052a5b", func := "palantype/palantypelaw03.DraftStyled", spec := "draftStyled", inPlace := ["slices.overlaps[palantype/draft.item]"], unfollowed := true, recurses := true, apart := false }
def DraftStyledSaid : Prop := draftStyledRow.holds Tryz.pinned (OpenSpec.ofChange draftStyledSpec)

/-- ITS FALSE NEIGHBOUR: 'it returns false'. Refute it at one input. -/
def draftStyledWrong : ChangeSpec := { name := "draftStyled", fn := fun _ => fun
  | [d1, d2] => { results := [.lit (.bool false)], args := [d1, d2] }
  | _ => none }
def DraftStyledWrongFalsely : Prop := draftStyledRow.holds Tryz.pinned (OpenSpec.ofChange draftStyledWrong)

/- THE SECOND FORM. 'bulk': how many values and letters a reading holds, each counted each time it is reached (what is shared counts as often as it is met; a slice's spare places count too). A statement '..UptoSaid' is the law's where the arguments, and the package variables that the reading takes, are together of bulk at most 1048576: NARROWER than '..Said'. Prove '..Said' where nothing that the law and all that it calls make is longer than what came in: it says more and counts as full. Else prove '..UptoSaid'. A law counts once. -/
mutual
def uptoBulk {H : Type} : DataW H → Nat
  | .lit (.string bytes) => bytes.length + 1
  | .lit _ => 1
  | .nil => 1
  | .ptr d => uptoBulk d + 1
  | .slice elems spare => uptoBulkAll elems + uptoBulkAll spare + 1
  | .agg parts => uptoBulkAll parts + 1
  | .iface _ d => uptoBulk d + 1
  | .map entries => uptoBulkEntries entries + 1
  | .held _ => 1
def uptoBulkAll {H : Type} : List (DataW H) → Nat
  | [] => 0
  | d :: r => uptoBulk d + uptoBulkAll r
def uptoBulkEntries {H : Type} : List (Lit × DataW H) → Nat
  | [] => 0
  | x :: r => uptoBulkEntry x + uptoBulkEntries r
def uptoBulkEntry {H : Type} : Lit × DataW H → Nat
  | (.string bytes, d) => bytes.length + uptoBulk d + 1
  | (_, d) => uptoBulk d + 1
 end
def uptoSmall : (H : Type) → List (DataW H) → Bool := fun _ ds => decide (uptoBulkAll ds ≤ 1048576)
def OpenSpec.upto (s : _root_.Go.ChangeSpec) : _root_.Go.OpenSpec := { _root_.Go.OpenSpec.ofChange s with cond := some uptoSmall }

/-- 'palantypelaw03.DraftTraces', WHERE WHAT IT READS IS OF BULK AT MOST 1048576: true; the input reads as it did. -/
def draftTracesUptoRow : OpenClaim := { program := "ytfppbjfbghaclaagreat", sum := "778b678ea095ad504eb0c792002f378497431e64d1d5fec6e2843488bb052a5b", func := "palantype/palantypelaw03.DraftTraces", spec := "draftTraces", inPlace := ["slices.overlaps[palantype/draft.item]"], unfollowed := true, recurses := true, apart := false, narrowed := true }
def DraftTracesUptoSaid : Prop := draftTracesUptoRow.holds Tryz.pinned (OpenSpec.upto draftTracesSpec)

/-- 'palantypelaw03.DraftSeen', WHERE WHAT IT READS IS OF BULK AT MOST 1048576: true; the input reads as it did. -/
def draftSeenUptoRow : OpenClaim := { program := "ytfppbjfbghaclaagreat", sum := "778b678ea095ad504eb0c792002f378497431e64d1d5fec6e2843488bb052a5b", func := "palantype/palantypelaw03.DraftSeen", spec := "draftSeen", inPlace := ["slices.overlaps[palantype/draft.item]"], unfollowed := true, recurses := true, apart := false, narrowed := true }
def DraftSeenUptoSaid : Prop := draftSeenUptoRow.holds Tryz.pinned (OpenSpec.upto draftSeenSpec)

/-- 'palantypelaw03.DraftKept', WHERE WHAT IT READS IS OF BULK AT MOST 1048576: true; the input reads as it did. -/
def draftKeptUptoRow : OpenClaim := { program := "ytfppbjfbghaclaagreat", sum := "778b678ea095ad504eb0c792002f378497431e64d1d5fec6e2843488bb052a5b", func := "palantype/palantypelaw03.DraftKept", spec := "draftKept", inPlace := ["slices.overlaps[palantype/draft.item]"], unfollowed := true, recurses := true, apart := false, narrowed := true }
def DraftKeptUptoSaid : Prop := draftKeptUptoRow.holds Tryz.pinned (OpenSpec.upto draftKeptSpec)

/-- 'palantypelaw03.DraftApart', WHERE WHAT IT READS IS OF BULK AT MOST 1048576: true; the input reads as it did. -/
def draftApartUptoRow : OpenClaim := { program := "ytfppbjfbghaclaagreat", sum := "778b678ea095ad504eb0c792002f378497431e64d1d5fec6e2843488bb052a5b", func := "palantype/palantypelaw03.DraftApart", spec := "draftApart", inPlace := ["slices.overlaps[palantype/draft.item]"], unfollowed := true, recurses := true, apart := false, narrowed := true }
def DraftApartUptoSaid : Prop := draftApartUptoRow.holds Tryz.pinned (OpenSpec.upto draftApartSpec)

/-- 'palantypelaw03.DraftAtOnce', WHERE WHAT IT READS IS OF BULK AT MOST 1048576: true; the input reads as it did. -/
def draftAtOnceUptoRow : OpenClaim := { program := "ytfppbjfbghaclaagreat", sum := "778b678ea095ad504eb0c792002f378497431e64d1d5fec6e2843488bb052a5b", func := "palantype/palantypelaw03.DraftAtOnce", spec := "draftAtOnce", inPlace := ["slices.overlaps[palantype/draft.item]"], unfollowed := true, recurses := true, apart := false, narrowed := true }
def DraftAtOnceUptoSaid : Prop := draftAtOnceUptoRow.holds Tryz.pinned (OpenSpec.upto draftAtOnceSpec)

/-- 'palantypelaw03.DraftSound', WHERE WHAT IT READS IS OF BULK AT MOST 1048576: true; the input reads as it did. -/
def draftSoundUptoRow : OpenClaim := { program := "ytfppbjfbghaclaagreat", sum := "778b678ea095ad504eb0c792002f378497431e64d1d5fec6e2843488bb052a5b", func := "palantype/palantypelaw03.DraftSound", spec := "draftSound", inPlace := ["slices.overlaps[palantype/draft.item]"], unfollowed := true, recurses := true, apart := false, narrowed := true }
def DraftSoundUptoSaid : Prop := draftSoundUptoRow.holds Tryz.pinned (OpenSpec.upto draftSoundSpec)

/-- 'palantypelaw03.DraftPlays', WHERE WHAT IT READS IS OF BULK AT MOST 1048576: true; the input reads as it did. -/
def draftPlaysUptoRow : OpenClaim := { program := "ytfppbjfbghaclaagreat", sum := "778b678ea095ad504eb0c792002f378497431e64d1d5fec6e2843488bb052a5b", func := "palantype/palantypelaw03.DraftPlays", spec := "draftPlays", inPlace := ["slices.overlaps[palantype/draft.item]"], unfollowed := true, recurses := true, apart := false, narrowed := true }
def DraftPlaysUptoSaid : Prop := draftPlaysUptoRow.holds Tryz.pinned (OpenSpec.upto draftPlaysSpec)

/-- 'palantypelaw03.DraftUndoes', WHERE WHAT IT READS IS OF BULK AT MOST 1048576: true; the input reads as it did. -/
def draftUndoesUptoRow : OpenClaim := { program := "ytfppbjfbghaclaagreat", sum := "778b678ea095ad504eb0c792002f378497431e64d1d5fec6e2843488bb052a5b", func := "palantype/palantypelaw03.DraftUndoes", spec := "draftUndoes", inPlace := ["slices.overlaps[palantype/draft.item]"], unfollowed := true, recurses := true, apart := false, narrowed := true }
def DraftUndoesUptoSaid : Prop := draftUndoesUptoRow.holds Tryz.pinned (OpenSpec.upto draftUndoesSpec)

/-- 'palantypelaw03.DraftBack', WHERE WHAT IT READS IS OF BULK AT MOST 1048576: true; the input reads as it did. -/
def draftBackUptoRow : OpenClaim := { program := "ytfppbjfbghaclaagreat", sum := "778b678ea095ad504eb0c792002f378497431e64d1d5fec6e2843488bb052a5b", func := "palantype/palantypelaw03.DraftBack", spec := "draftBack", inPlace := ["slices.overlaps[palantype/draft.item]"], unfollowed := true, recurses := true, apart := false, narrowed := true }
def DraftBackUptoSaid : Prop := draftBackUptoRow.holds Tryz.pinned (OpenSpec.upto draftBackSpec)

/-- 'palantypelaw03.DraftStyles', WHERE WHAT IT READS IS OF BULK AT MOST 1048576: true; the input reads as it did. -/
def draftStylesUptoRow : OpenClaim := { program := "ytfppbjfbghaclaagreat", sum := "778b678ea095ad504eb0c792002f378497431e64d1d5fec6e2843488bb052a5b", func := "palantype/palantypelaw03.DraftStyles", spec := "draftStyles", inPlace := ["slices.overlaps[palantype/draft.item]"], unfollowed := true, recurses := true, apart := false, narrowed := true }
def DraftStylesUptoSaid : Prop := draftStylesUptoRow.holds Tryz.pinned (OpenSpec.upto draftStylesSpec)

/-- 'palantypelaw03.DraftStyled', WHERE WHAT IT READS IS OF BULK AT MOST 1048576: true; the input reads as it did. -/
def draftStyledUptoRow : OpenClaim := { program := "ytfppbjfbghaclaagreat", sum := "778b678ea095ad504eb0c792002f378497431e64d1d5fec6e2843488bb052a5b", func := "palantype/palantypelaw03.DraftStyled", spec := "draftStyled", inPlace := ["slices.overlaps[palantype/draft.item]"], unfollowed := true, recurses := true, apart := false, narrowed := true }
def DraftStyledUptoSaid : Prop := draftStyledUptoRow.holds Tryz.pinned (OpenSpec.upto draftStyledSpec)

end Rows
end Go.Proofs.YtfppbjfbghaclaaGreat
