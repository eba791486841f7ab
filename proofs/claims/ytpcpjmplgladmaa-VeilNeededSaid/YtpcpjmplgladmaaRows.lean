/-
  No cell of these rows narrows 'for every input' (looked for: loops, veiled, ifaces, maps, wideKeys, modest, calm, conditions, laid).
  DERIVED. THE GIVEN ROWS OF THIS SEAT. 10 by the template 'for every input the law returns true; each argument reads behind the call as it read before'; 0 by the template 'total and deterministic' (their statements: YtpcpjmplgladmaaTotals.lean).
  GIVEN WITH THE SEED: the statements are not yours to turn. If you find one false, say at which input.
  Laid BY PROGRAM, IN A SANDBOX (cutbox-rows.mjs): the forced cells as the released guide's own fill.sh prints them over the translation fbd4458ac8f1d987… (all of the seat's roots in one cut). By AI agents, Wed Nov 11 2026. No macro, syntax, notation, axiom, sorry.
-/
import Derived.Test.YtpcpjmplgladmaaChecked
import GoSem.Claim
import GoSem.ClaimJoined
import GoSem.ClaimMapViews
import Derived.JoinedTies
import Derived.KernelRfl
namespace Go.Proofs.Ytpcpjmplgladmaa
/- THE CELL 'sum', in the pinned program and in every row, IS THE sha256 OF THE DUMP (.gsa) THAT YtpcpjmplgladmaaProg.lean LOADS. Nothing in Lean hashes anything: it is a label: what it is worth is what the hold of that sum in a sandbox is worth. -/
noncomputable def Try.pinned : Pinned := { name := "ytpcpjmplgladmaa", sum := "fbd4458ac8f1d9876da4cd910be48f741cc3d005e0b51c77ede728bebc3c79c4", checked := Try.checked }
namespace Rows
def none {H : Type} : Left H := { results := [], args := [] }

/-- 'palantypelaw09.VeilIndexes': WHATEVER THE INPUT: true; the input reads as it did. -/
def veilIndexesSpec : ChangeSpec := { name := "veilIndexes", fn := fun _ => fun
  | [d1, d2] => { results := [.lit (.bool true)], args := [d1, d2] }
  | _ => none }
def veilIndexesRow : OpenClaim := { program := "ytpcpjmplgladmaa", sum := "fbd4458ac8f1d9876da4cd910be48f741cc3d005e0b51c77ede728bebc3c79c4", func := "palantype/palantypelaw09.VeilIndexes", spec := "veilIndexes", unfollowed := true, recurses := true, apart := false }
def VeilIndexesSaid : Prop := veilIndexesRow.holds Try.pinned (OpenSpec.ofChange veilIndexesSpec)

/-- ITS FALSE NEIGHBOUR: 'it returns false'. Refute it at one input. -/
def veilIndexesWrong : ChangeSpec := { name := "veilIndexes", fn := fun _ => fun
  | [d1, d2] => { results := [.lit (.bool false)], args := [d1, d2] }
  | _ => none }
def VeilIndexesWrongFalsely : Prop := veilIndexesRow.holds Try.pinned (OpenSpec.ofChange veilIndexesWrong)

/-- 'palantypelaw09.VeilShuts': WHATEVER THE INPUT: true; the input reads as it did. -/
def veilShutsSpec : ChangeSpec := { name := "veilShuts", fn := fun _ => fun
  | [d1, d2] => { results := [.lit (.bool true)], args := [d1, d2] }
  | _ => none }
def veilShutsRow : OpenClaim := { program := "ytpcpjmplgladmaa", sum := "fbd4458ac8f1d9876da4cd910be48f741cc3d005e0b51c77ede728bebc3c79c4", func := "palantype/palantypelaw09.VeilShuts", spec := "veilShuts", unfollowed := true, recurses := true, apart := false }
def VeilShutsSaid : Prop := veilShutsRow.holds Try.pinned (OpenSpec.ofChange veilShutsSpec)

/-- ITS FALSE NEIGHBOUR: 'it returns false'. Refute it at one input. -/
def veilShutsWrong : ChangeSpec := { name := "veilShuts", fn := fun _ => fun
  | [d1, d2] => { results := [.lit (.bool false)], args := [d1, d2] }
  | _ => none }
def VeilShutsWrongFalsely : Prop := veilShutsRow.holds Try.pinned (OpenSpec.ofChange veilShutsWrong)

/-- 'palantypelaw09.VeilLater': WHATEVER THE INPUT: true; the input reads as it did. -/
def veilLaterSpec : ChangeSpec := { name := "veilLater", fn := fun _ => fun
  | [d1, d2, d3, d4] => { results := [.lit (.bool true)], args := [d1, d2, d3, d4] }
  | _ => none }
def veilLaterRow : OpenClaim := { program := "ytpcpjmplgladmaa", sum := "fbd4458ac8f1d9876da4cd910be48f741cc3d005e0b51c77ede728bebc3c79c4", func := "palantype/palantypelaw09.VeilLater", spec := "veilLater", unfollowed := true, recurses := true, apart := false }
def VeilLaterSaid : Prop := veilLaterRow.holds Try.pinned (OpenSpec.ofChange veilLaterSpec)

/-- ITS FALSE NEIGHBOUR: 'it returns false'. Refute it at one input. -/
def veilLaterWrong : ChangeSpec := { name := "veilLater", fn := fun _ => fun
  | [d1, d2, d3, d4] => { results := [.lit (.bool false)], args := [d1, d2, d3, d4] }
  | _ => none }
def VeilLaterWrongFalsely : Prop := veilLaterRow.holds Try.pinned (OpenSpec.ofChange veilLaterWrong)

/-- 'palantypelaw09.VeilOpens': WHATEVER THE INPUT: true; the input reads as it did. -/
def veilOpensSpec : ChangeSpec := { name := "veilOpens", fn := fun _ => fun
  | [d1, d2, d3, d4] => { results := [.lit (.bool true)], args := [d1, d2, d3, d4] }
  | _ => none }
def veilOpensRow : OpenClaim := { program := "ytpcpjmplgladmaa", sum := "fbd4458ac8f1d9876da4cd910be48f741cc3d005e0b51c77ede728bebc3c79c4", func := "palantype/palantypelaw09.VeilOpens", spec := "veilOpens", unfollowed := true, recurses := true, apart := false }
def VeilOpensSaid : Prop := veilOpensRow.holds Try.pinned (OpenSpec.ofChange veilOpensSpec)

/-- ITS FALSE NEIGHBOUR: 'it returns false'. Refute it at one input. -/
def veilOpensWrong : ChangeSpec := { name := "veilOpens", fn := fun _ => fun
  | [d1, d2, d3, d4] => { results := [.lit (.bool false)], args := [d1, d2, d3, d4] }
  | _ => none }
def VeilOpensWrongFalsely : Prop := veilOpensRow.holds Try.pinned (OpenSpec.ofChange veilOpensWrong)

/-- 'palantypelaw09.VeilTurned': WHATEVER THE INPUT: true; the input reads as it did. -/
def veilTurnedSpec : ChangeSpec := { name := "veilTurned", fn := fun _ => fun
  | [d1, d2, d3, d4] => { results := [.lit (.bool true)], args := [d1, d2, d3, d4] }
  | _ => none }
def veilTurnedRow : OpenClaim := { program := "ytpcpjmplgladmaa", sum := "fbd4458ac8f1d9876da4cd910be48f741cc3d005e0b51c77ede728bebc3c79c4", func := "palantype/palantypelaw09.VeilTurned", spec := "veilTurned", unfollowed := true, recurses := true, apart := false }
def VeilTurnedSaid : Prop := veilTurnedRow.holds Try.pinned (OpenSpec.ofChange veilTurnedSpec)

/-- ITS FALSE NEIGHBOUR: 'it returns false'. Refute it at one input. -/
def veilTurnedWrong : ChangeSpec := { name := "veilTurned", fn := fun _ => fun
  | [d1, d2, d3, d4] => { results := [.lit (.bool false)], args := [d1, d2, d3, d4] }
  | _ => none }
def VeilTurnedWrongFalsely : Prop := veilTurnedRow.holds Try.pinned (OpenSpec.ofChange veilTurnedWrong)

/-- 'palantypelaw09.VeilLooks': WHATEVER THE INPUT: true; the input reads as it did. -/
def veilLooksSpec : ChangeSpec := { name := "veilLooks", fn := fun _ => fun
  | [d1, d2, d3] => { results := [.lit (.bool true)], args := [d1, d2, d3] }
  | _ => none }
def veilLooksRow : OpenClaim := { program := "ytpcpjmplgladmaa", sum := "fbd4458ac8f1d9876da4cd910be48f741cc3d005e0b51c77ede728bebc3c79c4", func := "palantype/palantypelaw09.VeilLooks", spec := "veilLooks", unfollowed := true, recurses := true, apart := false }
def VeilLooksSaid : Prop := veilLooksRow.holds Try.pinned (OpenSpec.ofChange veilLooksSpec)

/-- ITS FALSE NEIGHBOUR: 'it returns false'. Refute it at one input. -/
def veilLooksWrong : ChangeSpec := { name := "veilLooks", fn := fun _ => fun
  | [d1, d2, d3] => { results := [.lit (.bool false)], args := [d1, d2, d3] }
  | _ => none }
def VeilLooksWrongFalsely : Prop := veilLooksRow.holds Try.pinned (OpenSpec.ofChange veilLooksWrong)

/-- 'palantypelaw09.VeilAll': WHATEVER THE INPUT: true; the input reads as it did. -/
def veilAllSpec : ChangeSpec := { name := "veilAll", fn := fun _ => fun
  | [d1, d2] => { results := [.lit (.bool true)], args := [d1, d2] }
  | _ => none }
def veilAllRow : OpenClaim := { program := "ytpcpjmplgladmaa", sum := "fbd4458ac8f1d9876da4cd910be48f741cc3d005e0b51c77ede728bebc3c79c4", func := "palantype/palantypelaw09.VeilAll", spec := "veilAll", unfollowed := true, recurses := true, apart := false }
def VeilAllSaid : Prop := veilAllRow.holds Try.pinned (OpenSpec.ofChange veilAllSpec)

/-- ITS FALSE NEIGHBOUR: 'it returns false'. Refute it at one input. -/
def veilAllWrong : ChangeSpec := { name := "veilAll", fn := fun _ => fun
  | [d1, d2] => { results := [.lit (.bool false)], args := [d1, d2] }
  | _ => none }
def VeilAllWrongFalsely : Prop := veilAllRow.holds Try.pinned (OpenSpec.ofChange veilAllWrong)

/-- 'palantypelaw09.VeilHeads': WHATEVER THE INPUT: true; the input reads as it did. -/
def veilHeadsSpec : ChangeSpec := { name := "veilHeads", fn := fun _ => fun
  | [d1, d2] => { results := [.lit (.bool true)], args := [d1, d2] }
  | _ => none }
def veilHeadsRow : OpenClaim := { program := "ytpcpjmplgladmaa", sum := "fbd4458ac8f1d9876da4cd910be48f741cc3d005e0b51c77ede728bebc3c79c4", func := "palantype/palantypelaw09.VeilHeads", spec := "veilHeads", unfollowed := true, recurses := true, apart := false }
def VeilHeadsSaid : Prop := veilHeadsRow.holds Try.pinned (OpenSpec.ofChange veilHeadsSpec)

/-- ITS FALSE NEIGHBOUR: 'it returns false'. Refute it at one input. -/
def veilHeadsWrong : ChangeSpec := { name := "veilHeads", fn := fun _ => fun
  | [d1, d2] => { results := [.lit (.bool false)], args := [d1, d2] }
  | _ => none }
def VeilHeadsWrongFalsely : Prop := veilHeadsRow.holds Try.pinned (OpenSpec.ofChange veilHeadsWrong)

/-- 'palantypelaw09.VeilOrders': WHATEVER THE INPUT: true; the input reads as it did. -/
def veilOrdersSpec : ChangeSpec := { name := "veilOrders", fn := fun _ => fun
  | [d1, d2] => { results := [.lit (.bool true)], args := [d1, d2] }
  | _ => none }
def veilOrdersRow : OpenClaim := { program := "ytpcpjmplgladmaa", sum := "fbd4458ac8f1d9876da4cd910be48f741cc3d005e0b51c77ede728bebc3c79c4", func := "palantype/palantypelaw09.VeilOrders", spec := "veilOrders", unfollowed := true, recurses := true, apart := false }
def VeilOrdersSaid : Prop := veilOrdersRow.holds Try.pinned (OpenSpec.ofChange veilOrdersSpec)

/-- ITS FALSE NEIGHBOUR: 'it returns false'. Refute it at one input. -/
def veilOrdersWrong : ChangeSpec := { name := "veilOrders", fn := fun _ => fun
  | [d1, d2] => { results := [.lit (.bool false)], args := [d1, d2] }
  | _ => none }
def VeilOrdersWrongFalsely : Prop := veilOrdersRow.holds Try.pinned (OpenSpec.ofChange veilOrdersWrong)

/-- 'palantypelaw09.VeilNeeded': WHATEVER THE INPUT: true; the input reads as it did. -/
def veilNeededSpec : ChangeSpec := { name := "veilNeeded", fn := fun _ => fun
  | [d1, d2, d3] => { results := [.lit (.bool true)], args := [d1, d2, d3] }
  | _ => none }
def veilNeededRow : OpenClaim := { program := "ytpcpjmplgladmaa", sum := "fbd4458ac8f1d9876da4cd910be48f741cc3d005e0b51c77ede728bebc3c79c4", func := "palantype/palantypelaw09.VeilNeeded", spec := "veilNeeded", unfollowed := true, recurses := true, apart := false }
def VeilNeededSaid : Prop := veilNeededRow.holds Try.pinned (OpenSpec.ofChange veilNeededSpec)

/-- ITS FALSE NEIGHBOUR: 'it returns false'. Refute it at one input. -/
def veilNeededWrong : ChangeSpec := { name := "veilNeeded", fn := fun _ => fun
  | [d1, d2, d3] => { results := [.lit (.bool false)], args := [d1, d2, d3] }
  | _ => none }
def VeilNeededWrongFalsely : Prop := veilNeededRow.holds Try.pinned (OpenSpec.ofChange veilNeededWrong)

/- THE SECOND FORM. 'bulk': how many values and letters a reading holds, each counted each time it is reached (what is shared counts as often as it is met; a slice's spare places count too). A statement '..UptoSaid' is the law's where the arguments, and the package variables that the reading takes, are together of bulk at most 1048576: NARROWER than '..Said'. Prove '..Said' where nothing that the law and all that it calls make is longer than what came in: it says more and counts as full. Else prove '..UptoSaid'. A law counts once. -/
mutual
def uptoBulk {H : Type} : DataW H → Nat
  | .lit (.string bytes) => bytes.length + 1
  | .lit _ => 1
  | .nil => 1
  | .ptr d => uptoBulk d + 1
  | .slice elems spare => uptoBulkAll elems + uptoBulkAll spare + 1
  | .agg parts => uptoBulkAll parts + 1
  | .iface _ d => uptoBulk d + 1
  | .map entries => uptoBulkEntries entries + 1
  | .held _ => 1
def uptoBulkAll {H : Type} : List (DataW H) → Nat
  | [] => 0
  | d :: r => uptoBulk d + uptoBulkAll r
def uptoBulkEntries {H : Type} : List (Lit × DataW H) → Nat
  | [] => 0
  | x :: r => uptoBulkEntry x + uptoBulkEntries r
def uptoBulkEntry {H : Type} : Lit × DataW H → Nat
  | (.string bytes, d) => bytes.length + uptoBulk d + 1
  | (_, d) => uptoBulk d + 1
 end
def uptoSmall : (H : Type) → List (DataW H) → Bool := fun _ ds => decide (uptoBulkAll ds ≤ 1048576)
def OpenSpec.upto (s : _root_.Go.ChangeSpec) : _root_.Go.OpenSpec := { _root_.Go.OpenSpec.ofChange s with cond := some uptoSmall }

/-- 'palantypelaw09.VeilIndexes', WHERE WHAT IT READS IS OF BULK AT MOST 1048576: true; the input reads as it did. -/
def veilIndexesUptoRow : OpenClaim := { program := "ytpcpjmplgladmaa", sum := "fbd4458ac8f1d9876da4cd910be48f741cc3d005e0b51c77ede728bebc3c79c4", func := "palantype/palantypelaw09.VeilIndexes", spec := "veilIndexes", unfollowed := true, recurses := true, apart := false, narrowed := true }
def VeilIndexesUptoSaid : Prop := veilIndexesUptoRow.holds Try.pinned (OpenSpec.upto veilIndexesSpec)

/-- 'palantypelaw09.VeilShuts', WHERE WHAT IT READS IS OF BULK AT MOST 1048576: true; the input reads as it did. -/
def veilShutsUptoRow : OpenClaim := { program := "ytpcpjmplgladmaa", sum := "fbd4458ac8f1d9876da4cd910be48f741cc3d005e0b51c77ede728bebc3c79c4", func := "palantype/palantypelaw09.VeilShuts", spec := "veilShuts", unfollowed := true, recurses := true, apart := false, narrowed := true }
def VeilShutsUptoSaid : Prop := veilShutsUptoRow.holds Try.pinned (OpenSpec.upto veilShutsSpec)

/-- 'palantypelaw09.VeilLater', WHERE WHAT IT READS IS OF BULK AT MOST 1048576: true; the input reads as it did. -/
def veilLaterUptoRow : OpenClaim := { program := "ytpcpjmplgladmaa", sum := "fbd4458ac8f1d9876da4cd910be48f741cc3d005e0b51c77ede728bebc3c79c4", func := "palantype/palantypelaw09.VeilLater", spec := "veilLater", unfollowed := true, recurses := true, apart := false, narrowed := true }
def VeilLaterUptoSaid : Prop := veilLaterUptoRow.holds Try.pinned (OpenSpec.upto veilLaterSpec)

/-- 'palantypelaw09.VeilOpens', WHERE WHAT IT READS IS OF BULK AT MOST 1048576: true; the input reads as it did. -/
def veilOpensUptoRow : OpenClaim := { program := "ytpcpjmplgladmaa", sum := "fbd4458ac8f1d9876da4cd910be48f741cc3d005e0b51c77ede728bebc3c79c4", func := "palantype/palantypelaw09.VeilOpens", spec := "veilOpens", unfollowed := true, recurses := true, apart := false, narrowed := true }
def VeilOpensUptoSaid : Prop := veilOpensUptoRow.holds Try.pinned (OpenSpec.upto veilOpensSpec)

/-- 'palantypelaw09.VeilTurned', WHERE WHAT IT READS IS OF BULK AT MOST 1048576: true; the input reads as it did. -/
def veilTurnedUptoRow : OpenClaim := { program := "ytpcpjmplgladmaa", sum := "fbd4458ac8f1d9876da4cd910be48f741cc3d005e0b51c77ede728bebc3c79c4", func := "palantype/palantypelaw09.VeilTurned", spec := "veilTurned", unfollowed := true, recurses := true, apart := false, narrowed := true }
def VeilTurnedUptoSaid : Prop := veilTurnedUptoRow.holds Try.pinned (OpenSpec.upto veilTurnedSpec)

/-- 'palantypelaw09.VeilLooks', WHERE WHAT IT READS IS OF BULK AT MOST 1048576: true; the input reads as it did. -/
def veilLooksUptoRow : OpenClaim := { program := "ytpcpjmplgladmaa", sum := "fbd4458ac8f1d9876da4cd910be48f741cc3d005e0b51c77ede728bebc3c79c4", func := "palantype/palantypelaw09.VeilLooks", spec := "veilLooks", unfollowed := true, recurses := true, apart := false, narrowed := true }
def VeilLooksUptoSaid : Prop := veilLooksUptoRow.holds Try.pinned (OpenSpec.upto veilLooksSpec)

/-- 'palantypelaw09.VeilAll', WHERE WHAT IT READS IS OF BULK AT MOST 1048576: true; the input reads as it did. -/
def veilAllUptoRow : OpenClaim := { program := "ytpcpjmplgladmaa", sum := "fbd4458ac8f1d9876da4cd910be48f741cc3d005e0b51c77ede728bebc3c79c4", func := "palantype/palantypelaw09.VeilAll", spec := "veilAll", unfollowed := true, recurses := true, apart := false, narrowed := true }
def VeilAllUptoSaid : Prop := veilAllUptoRow.holds Try.pinned (OpenSpec.upto veilAllSpec)

/-- 'palantypelaw09.VeilHeads', WHERE WHAT IT READS IS OF BULK AT MOST 1048576: true; the input reads as it did. -/
def veilHeadsUptoRow : OpenClaim := { program := "ytpcpjmplgladmaa", sum := "fbd4458ac8f1d9876da4cd910be48f741cc3d005e0b51c77ede728bebc3c79c4", func := "palantype/palantypelaw09.VeilHeads", spec := "veilHeads", unfollowed := true, recurses := true, apart := false, narrowed := true }
def VeilHeadsUptoSaid : Prop := veilHeadsUptoRow.holds Try.pinned (OpenSpec.upto veilHeadsSpec)

/-- 'palantypelaw09.VeilOrders', WHERE WHAT IT READS IS OF BULK AT MOST 1048576: true; the input reads as it did. -/
def veilOrdersUptoRow : OpenClaim := { program := "ytpcpjmplgladmaa", sum := "fbd4458ac8f1d9876da4cd910be48f741cc3d005e0b51c77ede728bebc3c79c4", func := "palantype/palantypelaw09.VeilOrders", spec := "veilOrders", unfollowed := true, recurses := true, apart := false, narrowed := true }
def VeilOrdersUptoSaid : Prop := veilOrdersUptoRow.holds Try.pinned (OpenSpec.upto veilOrdersSpec)

/-- 'palantypelaw09.VeilNeeded', WHERE WHAT IT READS IS OF BULK AT MOST 1048576: true; the input reads as it did. -/
def veilNeededUptoRow : OpenClaim := { program := "ytpcpjmplgladmaa", sum := "fbd4458ac8f1d9876da4cd910be48f741cc3d005e0b51c77ede728bebc3c79c4", func := "palantype/palantypelaw09.VeilNeeded", spec := "veilNeeded", unfollowed := true, recurses := true, apart := false, narrowed := true }
def VeilNeededUptoSaid : Prop := veilNeededUptoRow.holds Try.pinned (OpenSpec.upto veilNeededSpec)

end Rows
end Go.Proofs.Ytpcpjmplgladmaa
