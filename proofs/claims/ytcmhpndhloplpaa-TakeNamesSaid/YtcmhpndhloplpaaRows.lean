/-
  No cell of these rows narrows 'for every input' (looked for: loops, veiled, ifaces, maps, wideKeys, modest, calm, conditions, laid).
  DERIVED. THE GIVEN ROWS OF THIS SEAT. 7 by the template 'for every input the law returns true; each argument reads behind the call as it read before'; 0 by the template 'total and deterministic' (their statements: YtcmhpndhloplpaaTotals.lean).
  GIVEN WITH THE SEED: the statements are not yours to turn. If you find one false, say at which input.
  Laid BY PROGRAM, IN A SANDBOX (cutbox-rows.mjs): the forced cells as the released guide's own fill.sh prints them over the translation f80396f071c1967c… (all of the seat's roots in one cut). By AI agents, Wed Nov 11 2026. No macro, syntax, notation, axiom, sorry.
-/
import Derived.Test.YtcmhpndhloplpaaChecked
import GoSem.Claim
import GoSem.ClaimJoined
import GoSem.ClaimMapViews
import Derived.JoinedTies
import Derived.KernelRfl
namespace Go.Proofs.Ytcmhpndhloplpaa
/- THE CELL 'sum', in the pinned program and in every row, IS THE sha256 OF THE DUMP (.gsa) THAT YtcmhpndhloplpaaProg.lean LOADS. Nothing in Lean hashes anything: it is a label: what it is worth is what the hold of that sum in a sandbox is worth. -/
noncomputable def Try.pinned : Pinned := { name := "ytcmhpndhloplpaa", sum := "f80396f071c1967c7d1477606ab81ec9a4ba45285ba1e7d6a0ee52788b0d44a5", checked := Try.checked }
namespace Rows
def none {H : Type} : Left H := { results := [], args := [] }

/-- 'palantypelaw01.TakeLengths': WHATEVER THE INPUT: true; the input reads as it did. -/
def takeLengthsSpec : ChangeSpec := { name := "takeLengths", fn := fun _ => fun
  | [d] => { results := [.lit (.bool true)], args := [d] }
  | _ => none }
def takeLengthsRow : OpenClaim := { program := "ytcmhpndhloplpaa", sum := "f80396f071c1967c7d1477606ab81ec9a4ba45285ba1e7d6a0ee52788b0d44a5", func := "palantype/palantypelaw01.TakeLengths", spec := "takeLengths", unfollowed := true, recurses := true, plainKeys := false, apart := false }
def TakeLengthsSaid : Prop := takeLengthsRow.holds Try.pinned (OpenSpec.ofChange takeLengthsSpec)

/-- ITS FALSE NEIGHBOUR: 'it returns false'. Refute it at one input. -/
def takeLengthsWrong : ChangeSpec := { name := "takeLengths", fn := fun _ => fun
  | [d] => { results := [.lit (.bool false)], args := [d] }
  | _ => none }
def TakeLengthsWrongFalsely : Prop := takeLengthsRow.holds Try.pinned (OpenSpec.ofChange takeLengthsWrong)

/-- 'palantypelaw01.TakeOnce': WHATEVER THE INPUT: true; the input reads as it did. -/
def takeOnceSpec : ChangeSpec := { name := "takeOnce", fn := fun _ => fun
  | [d1, d2] => { results := [.lit (.bool true)], args := [d1, d2] }
  | _ => none }
def takeOnceRow : OpenClaim := { program := "ytcmhpndhloplpaa", sum := "f80396f071c1967c7d1477606ab81ec9a4ba45285ba1e7d6a0ee52788b0d44a5", func := "palantype/palantypelaw01.TakeOnce", spec := "takeOnce", unfollowed := true, recurses := true, plainKeys := false, apart := false }
def TakeOnceSaid : Prop := takeOnceRow.holds Try.pinned (OpenSpec.ofChange takeOnceSpec)

/-- ITS FALSE NEIGHBOUR: 'it returns false'. Refute it at one input. -/
def takeOnceWrong : ChangeSpec := { name := "takeOnce", fn := fun _ => fun
  | [d1, d2] => { results := [.lit (.bool false)], args := [d1, d2] }
  | _ => none }
def TakeOnceWrongFalsely : Prop := takeOnceRow.holds Try.pinned (OpenSpec.ofChange takeOnceWrong)

/-- 'palantypelaw01.TakeFirst': WHATEVER THE INPUT: true; the input reads as it did. -/
def takeFirstSpec : ChangeSpec := { name := "takeFirst", fn := fun _ => fun
  | [d1, d2, d3] => { results := [.lit (.bool true)], args := [d1, d2, d3] }
  | _ => none }
def takeFirstRow : OpenClaim := { program := "ytcmhpndhloplpaa", sum := "f80396f071c1967c7d1477606ab81ec9a4ba45285ba1e7d6a0ee52788b0d44a5", func := "palantype/palantypelaw01.TakeFirst", spec := "takeFirst", unfollowed := true, recurses := true, plainKeys := false, apart := false }
def TakeFirstSaid : Prop := takeFirstRow.holds Try.pinned (OpenSpec.ofChange takeFirstSpec)

/-- ITS FALSE NEIGHBOUR: 'it returns false'. Refute it at one input. -/
def takeFirstWrong : ChangeSpec := { name := "takeFirst", fn := fun _ => fun
  | [d1, d2, d3] => { results := [.lit (.bool false)], args := [d1, d2, d3] }
  | _ => none }
def TakeFirstWrongFalsely : Prop := takeFirstRow.holds Try.pinned (OpenSpec.ofChange takeFirstWrong)

/-- 'palantypelaw01.TakeEasier': WHATEVER THE INPUT: true; the input reads as it did. -/
def takeEasierSpec : ChangeSpec := { name := "takeEasier", fn := fun _ => fun
  | [d1, d2, d3, d4, d5, d6] => { results := [.lit (.bool true)], args := [d1, d2, d3, d4, d5, d6] }
  | _ => none }
def takeEasierRow : OpenClaim := { program := "ytcmhpndhloplpaa", sum := "f80396f071c1967c7d1477606ab81ec9a4ba45285ba1e7d6a0ee52788b0d44a5", func := "palantype/palantypelaw01.TakeEasier", spec := "takeEasier", unfollowed := true, recurses := true, plainKeys := false, apart := false }
def TakeEasierSaid : Prop := takeEasierRow.holds Try.pinned (OpenSpec.ofChange takeEasierSpec)

/-- ITS FALSE NEIGHBOUR: 'it returns false'. Refute it at one input. -/
def takeEasierWrong : ChangeSpec := { name := "takeEasier", fn := fun _ => fun
  | [d1, d2, d3, d4, d5, d6] => { results := [.lit (.bool false)], args := [d1, d2, d3, d4, d5, d6] }
  | _ => none }
def TakeEasierWrongFalsely : Prop := takeEasierRow.holds Try.pinned (OpenSpec.ofChange takeEasierWrong)

/-- 'palantypelaw01.TakeAny': WHATEVER THE INPUT: true; the input reads as it did. -/
def takeAnySpec : ChangeSpec := { name := "takeAny", fn := fun _ => fun
  | [d1, d2, d3] => { results := [.lit (.bool true)], args := [d1, d2, d3] }
  | _ => none }
def takeAnyRow : OpenClaim := { program := "ytcmhpndhloplpaa", sum := "f80396f071c1967c7d1477606ab81ec9a4ba45285ba1e7d6a0ee52788b0d44a5", func := "palantype/palantypelaw01.TakeAny", spec := "takeAny", unfollowed := true, recurses := true, plainKeys := false, apart := false }
def TakeAnySaid : Prop := takeAnyRow.holds Try.pinned (OpenSpec.ofChange takeAnySpec)

/-- ITS FALSE NEIGHBOUR: 'it returns false'. Refute it at one input. -/
def takeAnyWrong : ChangeSpec := { name := "takeAny", fn := fun _ => fun
  | [d1, d2, d3] => { results := [.lit (.bool false)], args := [d1, d2, d3] }
  | _ => none }
def TakeAnyWrongFalsely : Prop := takeAnyRow.holds Try.pinned (OpenSpec.ofChange takeAnyWrong)

/-- 'palantypelaw01.TakeRelieved': WHATEVER THE INPUT: true; the input reads as it did. -/
def takeRelievedSpec : ChangeSpec := { name := "takeRelieved", fn := fun _ => fun
  | [d1, d2, d3, d4] => { results := [.lit (.bool true)], args := [d1, d2, d3, d4] }
  | _ => none }
def takeRelievedRow : OpenClaim := { program := "ytcmhpndhloplpaa", sum := "f80396f071c1967c7d1477606ab81ec9a4ba45285ba1e7d6a0ee52788b0d44a5", func := "palantype/palantypelaw01.TakeRelieved", spec := "takeRelieved", unfollowed := true, recurses := true, plainKeys := false, apart := false }
def TakeRelievedSaid : Prop := takeRelievedRow.holds Try.pinned (OpenSpec.ofChange takeRelievedSpec)

/-- ITS FALSE NEIGHBOUR: 'it returns false'. Refute it at one input. -/
def takeRelievedWrong : ChangeSpec := { name := "takeRelieved", fn := fun _ => fun
  | [d1, d2, d3, d4] => { results := [.lit (.bool false)], args := [d1, d2, d3, d4] }
  | _ => none }
def TakeRelievedWrongFalsely : Prop := takeRelievedRow.holds Try.pinned (OpenSpec.ofChange takeRelievedWrong)

/-- 'palantypelaw01.TakeNames': WHATEVER THE INPUT: true; the input reads as it did. -/
def takeNamesSpec : ChangeSpec := { name := "takeNames", fn := fun _ => fun
  | [] => { results := [.lit (.bool true)], args := [] }
  | _ => none }
def takeNamesRow : OpenClaim := { program := "ytcmhpndhloplpaa", sum := "f80396f071c1967c7d1477606ab81ec9a4ba45285ba1e7d6a0ee52788b0d44a5", func := "palantype/palantypelaw01.TakeNames", spec := "takeNames", unfollowed := true, recurses := true, plainKeys := false, apart := false }
def TakeNamesSaid : Prop := takeNamesRow.holds Try.pinned (OpenSpec.ofChange takeNamesSpec)

/-- ITS FALSE NEIGHBOUR: 'it returns false'. Refute it at one input. -/
def takeNamesWrong : ChangeSpec := { name := "takeNames", fn := fun _ => fun
  | [] => { results := [.lit (.bool false)], args := [] }
  | _ => none }
def TakeNamesWrongFalsely : Prop := takeNamesRow.holds Try.pinned (OpenSpec.ofChange takeNamesWrong)

/- THE SECOND FORM. 'bulk': how many values and letters a reading holds, each counted each time it is reached (what is shared counts as often as it is met; a slice's spare places count too). A statement '..UptoSaid' is the law's where the arguments, and the package variables that the reading takes, are together of bulk at most 1048576: NARROWER than '..Said'. Prove '..Said' where nothing that the law and all that it calls make is longer than what came in: it says more and counts as full. Else prove '..UptoSaid'. A law counts once. -/
mutual
def uptoBulk {H : Type} : DataW H → Nat
  | .lit (.string bytes) => bytes.length + 1
  | .lit _ => 1
  | .nil => 1
  | .ptr d => uptoBulk d + 1
  | .slice elems spare => uptoBulkAll elems + uptoBulkAll spare + 1
  | .agg parts => uptoBulkAll parts + 1
  | .iface _ d => uptoBulk d + 1
  | .map entries => uptoBulkEntries entries + 1
  | .held _ => 1
def uptoBulkAll {H : Type} : List (DataW H) → Nat
  | [] => 0
  | d :: r => uptoBulk d + uptoBulkAll r
def uptoBulkEntries {H : Type} : List (Lit × DataW H) → Nat
  | [] => 0
  | x :: r => uptoBulkEntry x + uptoBulkEntries r
def uptoBulkEntry {H : Type} : Lit × DataW H → Nat
  | (.string bytes, d) => bytes.length + uptoBulk d + 1
  | (_, d) => uptoBulk d + 1
 end
def uptoSmall : (H : Type) → List (DataW H) → Bool := fun _ ds => decide (uptoBulkAll ds ≤ 1048576)
def OpenSpec.upto (s : _root_.Go.ChangeSpec) : _root_.Go.OpenSpec := { _root_.Go.OpenSpec.ofChange s with cond := some uptoSmall }

/-- 'palantypelaw01.TakeLengths', WHERE WHAT IT READS IS OF BULK AT MOST 1048576: true; the input reads as it did. -/
def takeLengthsUptoRow : OpenClaim := { program := "ytcmhpndhloplpaa", sum := "f80396f071c1967c7d1477606ab81ec9a4ba45285ba1e7d6a0ee52788b0d44a5", func := "palantype/palantypelaw01.TakeLengths", spec := "takeLengths", unfollowed := true, recurses := true, plainKeys := false, apart := false, narrowed := true }
def TakeLengthsUptoSaid : Prop := takeLengthsUptoRow.holds Try.pinned (OpenSpec.upto takeLengthsSpec)

/-- 'palantypelaw01.TakeOnce', WHERE WHAT IT READS IS OF BULK AT MOST 1048576: true; the input reads as it did. -/
def takeOnceUptoRow : OpenClaim := { program := "ytcmhpndhloplpaa", sum := "f80396f071c1967c7d1477606ab81ec9a4ba45285ba1e7d6a0ee52788b0d44a5", func := "palantype/palantypelaw01.TakeOnce", spec := "takeOnce", unfollowed := true, recurses := true, plainKeys := false, apart := false, narrowed := true }
def TakeOnceUptoSaid : Prop := takeOnceUptoRow.holds Try.pinned (OpenSpec.upto takeOnceSpec)

/-- 'palantypelaw01.TakeFirst', WHERE WHAT IT READS IS OF BULK AT MOST 1048576: true; the input reads as it did. -/
def takeFirstUptoRow : OpenClaim := { program := "ytcmhpndhloplpaa", sum := "f80396f071c1967c7d1477606ab81ec9a4ba45285ba1e7d6a0ee52788b0d44a5", func := "palantype/palantypelaw01.TakeFirst", spec := "takeFirst", unfollowed := true, recurses := true, plainKeys := false, apart := false, narrowed := true }
def TakeFirstUptoSaid : Prop := takeFirstUptoRow.holds Try.pinned (OpenSpec.upto takeFirstSpec)

/-- 'palantypelaw01.TakeEasier', WHERE WHAT IT READS IS OF BULK AT MOST 1048576: true; the input reads as it did. -/
def takeEasierUptoRow : OpenClaim := { program := "ytcmhpndhloplpaa", sum := "f80396f071c1967c7d1477606ab81ec9a4ba45285ba1e7d6a0ee52788b0d44a5", func := "palantype/palantypelaw01.TakeEasier", spec := "takeEasier", unfollowed := true, recurses := true, plainKeys := false, apart := false, narrowed := true }
def TakeEasierUptoSaid : Prop := takeEasierUptoRow.holds Try.pinned (OpenSpec.upto takeEasierSpec)

/-- 'palantypelaw01.TakeAny', WHERE WHAT IT READS IS OF BULK AT MOST 1048576: true; the input reads as it did. -/
def takeAnyUptoRow : OpenClaim := { program := "ytcmhpndhloplpaa", sum := "f80396f071c1967c7d1477606ab81ec9a4ba45285ba1e7d6a0ee52788b0d44a5", func := "palantype/palantypelaw01.TakeAny", spec := "takeAny", unfollowed := true, recurses := true, plainKeys := false, apart := false, narrowed := true }
def TakeAnyUptoSaid : Prop := takeAnyUptoRow.holds Try.pinned (OpenSpec.upto takeAnySpec)

/-- 'palantypelaw01.TakeRelieved', WHERE WHAT IT READS IS OF BULK AT MOST 1048576: true; the input reads as it did. -/
def takeRelievedUptoRow : OpenClaim := { program := "ytcmhpndhloplpaa", sum := "f80396f071c1967c7d1477606ab81ec9a4ba45285ba1e7d6a0ee52788b0d44a5", func := "palantype/palantypelaw01.TakeRelieved", spec := "takeRelieved", unfollowed := true, recurses := true, plainKeys := false, apart := false, narrowed := true }
def TakeRelievedUptoSaid : Prop := takeRelievedUptoRow.holds Try.pinned (OpenSpec.upto takeRelievedSpec)

/-- 'palantypelaw01.TakeNames', WHERE WHAT IT READS IS OF BULK AT MOST 1048576: true; the input reads as it did. -/
def takeNamesUptoRow : OpenClaim := { program := "ytcmhpndhloplpaa", sum := "f80396f071c1967c7d1477606ab81ec9a4ba45285ba1e7d6a0ee52788b0d44a5", func := "palantype/palantypelaw01.TakeNames", spec := "takeNames", unfollowed := true, recurses := true, plainKeys := false, apart := false, narrowed := true }
def TakeNamesUptoSaid : Prop := takeNamesUptoRow.holds Try.pinned (OpenSpec.upto takeNamesSpec)

end Rows
end Go.Proofs.Ytcmhpndhloplpaa
