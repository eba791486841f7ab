/-
  No cell of these rows narrows 'for every input' (looked for: loops, veiled, ifaces, maps, wideKeys, modest, calm, conditions, laid).
  DERIVED. THE GIVEN ROWS OF THIS SEAT. 3 by the template 'for every input the law returns true; each argument reads behind the call as it read before'; 0 by the template 'total and deterministic' (their statements: YtefnikpoimaiiaaTotals.lean).
  GIVEN WITH THE SEED: the statements are not yours to turn. If you find one false, say at which input.
  Laid BY PROGRAM, IN A SANDBOX (cutbox-rows.mjs): the forced cells as the released guide's own fill.sh prints them over the translation b6dd54e39f4dcd35… (all of the seat's roots in one cut). By AI agents, Wed Nov 11 2026. No macro, syntax, notation, axiom, sorry.
-/
import Derived.Test.YtefnikpoimaiiaaChecked
import GoSem.Claim
import GoSem.ClaimJoined
import GoSem.ClaimMapViews
import Derived.JoinedTies
import Derived.KernelRfl
namespace Go.Proofs.Ytefnikpoimaiiaa
/- THE CELL 'sum', in the pinned program and in every row, IS THE sha256 OF THE DUMP (.gsa) THAT YtefnikpoimaiiaaProg.lean LOADS. Nothing in Lean hashes anything: it is a label: what it is worth is what the hold of that sum in a sandbox is worth. -/
noncomputable def Try.pinned : Pinned := { name := "ytefnikpoimaiiaa", sum := "b6dd54e39f4dcd35f232eae2f897ea3fea5e922d24cb1523cec2ff7f07093436", checked := Try.checked }
namespace Rows
def none {H : Type} : Left H := { results := [], args := [] }

/-- 'palantypetop.TopSpeaks': WHATEVER THE INPUT: true; the input reads as it did. -/
def topSpeaksSpec : ChangeSpec := { name := "topSpeaks", fn := fun _ => fun
  | [d1, d2] => { results := [.lit (.bool true)], args := [d1, d2] }
  | _ => none }
def topSpeaksRow : OpenClaim := { program := "ytefnikpoimaiiaa", sum := "b6dd54e39f4dcd35f232eae2f897ea3fea5e922d24cb1523cec2ff7f07093436", func := "palantype/palantypetop.TopSpeaks", spec := "topSpeaks", unfollowed := true, recurses := true, plainKeys := false, apart := false }
def TopSpeaksSaid : Prop := topSpeaksRow.holds Try.pinned (OpenSpec.ofChange topSpeaksSpec)

/-- ITS FALSE NEIGHBOUR: 'it returns false'. Refute it at one input. -/
def topSpeaksWrong : ChangeSpec := { name := "topSpeaks", fn := fun _ => fun
  | [d1, d2] => { results := [.lit (.bool false)], args := [d1, d2] }
  | _ => none }
def TopSpeaksWrongFalsely : Prop := topSpeaksRow.holds Try.pinned (OpenSpec.ofChange topSpeaksWrong)

/-- 'palantypetop.TopQuoted': WHATEVER THE INPUT: true; the input reads as it did. -/
def topQuotedSpec : ChangeSpec := { name := "topQuoted", fn := fun _ => fun
  | [d1, d2, d3] => { results := [.lit (.bool true)], args := [d1, d2, d3] }
  | _ => none }
def topQuotedRow : OpenClaim := { program := "ytefnikpoimaiiaa", sum := "b6dd54e39f4dcd35f232eae2f897ea3fea5e922d24cb1523cec2ff7f07093436", func := "palantype/palantypetop.TopQuoted", spec := "topQuoted", inPlace := ["slices.overlaps[palantype/draft.item]"], unfollowed := true, recurses := true, plainKeys := false, apart := false }
def TopQuotedSaid : Prop := topQuotedRow.holds Try.pinned (OpenSpec.ofChange topQuotedSpec)

/-- ITS FALSE NEIGHBOUR: 'it returns false'. Refute it at one input. -/
def topQuotedWrong : ChangeSpec := { name := "topQuoted", fn := fun _ => fun
  | [d1, d2, d3] => { results := [.lit (.bool false)], args := [d1, d2, d3] }
  | _ => none }
def TopQuotedWrongFalsely : Prop := topQuotedRow.holds Try.pinned (OpenSpec.ofChange topQuotedWrong)

/-- 'palantypetop.TopLevel': WHATEVER THE INPUT: true; the input reads as it did. -/
def topLevelSpec : ChangeSpec := { name := "topLevel", fn := fun _ => fun
  | [d1, d2] => { results := [.lit (.bool true)], args := [d1, d2] }
  | _ => none }
def topLevelRow : OpenClaim := { program := "ytefnikpoimaiiaa", sum := "b6dd54e39f4dcd35f232eae2f897ea3fea5e922d24cb1523cec2ff7f07093436", func := "palantype/palantypetop.TopLevel", spec := "topLevel", inPlace := ["slices.overlaps[palantype/volume.entry]"], unfollowed := true, recurses := true, plainKeys := false, apart := false }
def TopLevelSaid : Prop := topLevelRow.holds Try.pinned (OpenSpec.ofChange topLevelSpec)

/-- ITS FALSE NEIGHBOUR: 'it returns false'. Refute it at one input. -/
def topLevelWrong : ChangeSpec := { name := "topLevel", fn := fun _ => fun
  | [d1, d2] => { results := [.lit (.bool false)], args := [d1, d2] }
  | _ => none }
def TopLevelWrongFalsely : Prop := topLevelRow.holds Try.pinned (OpenSpec.ofChange topLevelWrong)

/- THE SECOND FORM. 'bulk': how many values and letters a reading holds, each counted each time it is reached (what is shared counts as often as it is met; a slice's spare places count too). A statement '..UptoSaid' is the law's where the arguments, and the package variables that the reading takes, are together of bulk at most 1048576: NARROWER than '..Said'. Prove '..Said' where nothing that the law and all that it calls make is longer than what came in: it says more and counts as full. Else prove '..UptoSaid'. A law counts once. -/
mutual
def uptoBulk {H : Type} : DataW H → Nat
  | .lit (.string bytes) => bytes.length + 1
  | .lit _ => 1
  | .nil => 1
  | .ptr d => uptoBulk d + 1
  | .slice elems spare => uptoBulkAll elems + uptoBulkAll spare + 1
  | .agg parts => uptoBulkAll parts + 1
  | .iface _ d => uptoBulk d + 1
  | .map entries => uptoBulkEntries entries + 1
  | .held _ => 1
def uptoBulkAll {H : Type} : List (DataW H) → Nat
  | [] => 0
  | d :: r => uptoBulk d + uptoBulkAll r
def uptoBulkEntries {H : Type} : List (Lit × DataW H) → Nat
  | [] => 0
  | x :: r => uptoBulkEntry x + uptoBulkEntries r
def uptoBulkEntry {H : Type} : Lit × DataW H → Nat
  | (.string bytes, d) => bytes.length + uptoBulk d + 1
  | (_, d) => uptoBulk d + 1
 end
def uptoSmall : (H : Type) → List (DataW H) → Bool := fun _ ds => decide (uptoBulkAll ds ≤ 1048576)
def OpenSpec.upto (s : _root_.Go.ChangeSpec) : _root_.Go.OpenSpec := { _root_.Go.OpenSpec.ofChange s with cond := some uptoSmall }

/-- 'palantypetop.TopSpeaks', WHERE WHAT IT READS IS OF BULK AT MOST 1048576: true; the input reads as it did. -/
def topSpeaksUptoRow : OpenClaim := { program := "ytefnikpoimaiiaa", sum := "b6dd54e39f4dcd35f232eae2f897ea3fea5e922d24cb1523cec2ff7f07093436", func := "palantype/palantypetop.TopSpeaks", spec := "topSpeaks", unfollowed := true, recurses := true, plainKeys := false, apart := false, narrowed := true }
def TopSpeaksUptoSaid : Prop := topSpeaksUptoRow.holds Try.pinned (OpenSpec.upto topSpeaksSpec)

/-- 'palantypetop.TopQuoted', WHERE WHAT IT READS IS OF BULK AT MOST 1048576: true; the input reads as it did. -/
def topQuotedUptoRow : OpenClaim := { program := "ytefnikpoimaiiaa", sum := "b6dd54e39f4dcd35f232eae2f897ea3fea5e922d24cb1523cec2ff7f07093436", func := "palantype/palantypetop.TopQuoted", spec := "topQuoted", inPlace := ["slices.overlaps[palantype/draft.item]"], unfollowed := true, recurses := true, plainKeys := false, apart := false, narrowed := true }
def TopQuotedUptoSaid : Prop := topQuotedUptoRow.holds Try.pinned (OpenSpec.upto topQuotedSpec)

/-- 'palantypetop.TopLevel', WHERE WHAT IT READS IS OF BULK AT MOST 1048576: true; the input reads as it did. -/
def topLevelUptoRow : OpenClaim := { program := "ytefnikpoimaiiaa", sum := "b6dd54e39f4dcd35f232eae2f897ea3fea5e922d24cb1523cec2ff7f07093436", func := "palantype/palantypetop.TopLevel", spec := "topLevel", inPlace := ["slices.overlaps[palantype/volume.entry]"], unfollowed := true, recurses := true, plainKeys := false, apart := false, narrowed := true }
def TopLevelUptoSaid : Prop := topLevelUptoRow.holds Try.pinned (OpenSpec.upto topLevelSpec)

end Rows
end Go.Proofs.Ytefnikpoimaiiaa
