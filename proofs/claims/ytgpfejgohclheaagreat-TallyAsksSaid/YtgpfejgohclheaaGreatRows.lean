/-
  No cell of these rows narrows 'for every input' (looked for: loops, veiled, ifaces, maps, wideKeys, modest, calm, conditions, laid).
  DERIVED. THE GIVEN ROWS OF THIS SEAT. 7 by the template 'for every input the law returns true; each argument reads behind the call as it read before'; 0 by the template 'total and deterministic' (their statements: YtgpfejgohclheaaGreatTotals.lean).
  GIVEN WITH THE SEED: the statements are not yours to turn. If you find one false, say at which input.
  Laid BY PROGRAM, IN A SANDBOX (cutbox-rows.mjs): the forced cells as the released guide's own fill.sh prints them over the translation 49487a72f0a424ae… (all of the seat's roots in one cut). By AI agents, Wed Nov 11 2026. No macro, syntax, notation, axiom, sorry.
-/
import Derived.Test.YtgpfejgohclheaaGreatChecked
import GoSem.Claim
import GoSem.ClaimJoined
import GoSem.ClaimMapViews
import Derived.JoinedTies
import Derived.KernelRfl
namespace Go.Proofs.YtgpfejgohclheaaGreat
/- THE CELL 'sum', in the pinned program and in every row, IS THE sha256 OF THE DUMP (.gsa) THAT YtgpfejgohclheaaGreatProg.lean LOADS. Nothing in Lean hashes anything: it is a label: what it is worth is what the hold of that sum in a sandbox is worth. -/
noncomputable def Tryz.pinned : Pinned := { name := "ytgpfejgohclheaagreat", sum := "49487a72f0a424ae99a6cc7621d461de8fc66bf7777bdbbca481a4f60f7c0fb0", checked := Tryz.checked }
namespace Rows
def none {H : Type} : Left H := { results := [], args := [] }

/-- 'palantypelaw07.TallyAsks': WHATEVER THE INPUT: true; the input reads as it did. -/
def tallyAsksSpec : ChangeSpec := { name := "tallyAsks", fn := fun _ => fun
  | [d1, d2] => { results := [.lit (.bool true)], args := [d1, d2] }
  | _ => none }
def tallyAsksRow : OpenClaim := { program := "ytgpfejgohclheaagreat", sum := "49487a72f0a424ae99a6cc7621d461de8fc66bf7777bdbbca481a4f60f7c0fb0", func := "palantype/palantypelaw07.TallyAsks", spec := "tallyAsks", unfollowed := true, recurses := true, plainKeys := false, apart := false }
def TallyAsksSaid : Prop := tallyAsksRow.holds Tryz.pinned (OpenSpec.ofChange tallyAsksSpec)

/-- ITS FALSE NEIGHBOUR: 'it returns false'. Refute it at one input. -/
def tallyAsksWrong : ChangeSpec := { name := "tallyAsks", fn := fun _ => fun
  | [d1, d2] => { results := [.lit (.bool false)], args := [d1, d2] }
  | _ => none }
def TallyAsksWrongFalsely : Prop := tallyAsksRow.holds Tryz.pinned (OpenSpec.ofChange tallyAsksWrong)

/-- 'palantypelaw07.TallyCounts': WHATEVER THE INPUT: true; the input reads as it did. -/
def tallyCountsSpec : ChangeSpec := { name := "tallyCounts", fn := fun _ => fun
  | [d1, d2] => { results := [.lit (.bool true)], args := [d1, d2] }
  | _ => none }
def tallyCountsRow : OpenClaim := { program := "ytgpfejgohclheaagreat", sum := "49487a72f0a424ae99a6cc7621d461de8fc66bf7777bdbbca481a4f60f7c0fb0", func := "palantype/palantypelaw07.TallyCounts", spec := "tallyCounts", unfollowed := true, recurses := true, plainKeys := false, apart := false }
def TallyCountsSaid : Prop := tallyCountsRow.holds Tryz.pinned (OpenSpec.ofChange tallyCountsSpec)

/-- ITS FALSE NEIGHBOUR: 'it returns false'. Refute it at one input. -/
def tallyCountsWrong : ChangeSpec := { name := "tallyCounts", fn := fun _ => fun
  | [d1, d2] => { results := [.lit (.bool false)], args := [d1, d2] }
  | _ => none }
def TallyCountsWrongFalsely : Prop := tallyCountsRow.holds Tryz.pinned (OpenSpec.ofChange tallyCountsWrong)

/-- 'palantypelaw07.TallyTruth': WHATEVER THE INPUT: true; the input reads as it did. -/
def tallyTruthSpec : ChangeSpec := { name := "tallyTruth", fn := fun _ => fun
  | [d1, d2] => { results := [.lit (.bool true)], args := [d1, d2] }
  | _ => none }
def tallyTruthRow : OpenClaim := { program := "ytgpfejgohclheaagreat", sum := "49487a72f0a424ae99a6cc7621d461de8fc66bf7777bdbbca481a4f60f7c0fb0", func := "palantype/palantypelaw07.TallyTruth", spec := "tallyTruth", unfollowed := true, recurses := true, plainKeys := false, apart := false }
def TallyTruthSaid : Prop := tallyTruthRow.holds Tryz.pinned (OpenSpec.ofChange tallyTruthSpec)

/-- ITS FALSE NEIGHBOUR: 'it returns false'. Refute it at one input. -/
def tallyTruthWrong : ChangeSpec := { name := "tallyTruth", fn := fun _ => fun
  | [d1, d2] => { results := [.lit (.bool false)], args := [d1, d2] }
  | _ => none }
def TallyTruthWrongFalsely : Prop := tallyTruthRow.holds Tryz.pinned (OpenSpec.ofChange tallyTruthWrong)

/-- 'palantypelaw07.TallyMore': WHATEVER THE INPUT: true; the input reads as it did. -/
def tallyMoreSpec : ChangeSpec := { name := "tallyMore", fn := fun _ => fun
  | [d1, d2, d3] => { results := [.lit (.bool true)], args := [d1, d2, d3] }
  | _ => none }
def tallyMoreRow : OpenClaim := { program := "ytgpfejgohclheaagreat", sum := "49487a72f0a424ae99a6cc7621d461de8fc66bf7777bdbbca481a4f60f7c0fb0", func := "palantype/palantypelaw07.TallyMore", spec := "tallyMore", unfollowed := true, recurses := true, plainKeys := false, apart := false }
def TallyMoreSaid : Prop := tallyMoreRow.holds Tryz.pinned (OpenSpec.ofChange tallyMoreSpec)

/-- ITS FALSE NEIGHBOUR: 'it returns false'. Refute it at one input. -/
def tallyMoreWrong : ChangeSpec := { name := "tallyMore", fn := fun _ => fun
  | [d1, d2, d3] => { results := [.lit (.bool false)], args := [d1, d2, d3] }
  | _ => none }
def TallyMoreWrongFalsely : Prop := tallyMoreRow.holds Tryz.pinned (OpenSpec.ofChange tallyMoreWrong)

/-- 'palantypelaw07.TallyPairs': WHATEVER THE INPUT: true; the input reads as it did. -/
def tallyPairsSpec : ChangeSpec := { name := "tallyPairs", fn := fun _ => fun
  | [d1, d2, d3, d4] => { results := [.lit (.bool true)], args := [d1, d2, d3, d4] }
  | _ => none }
def tallyPairsRow : OpenClaim := { program := "ytgpfejgohclheaagreat", sum := "49487a72f0a424ae99a6cc7621d461de8fc66bf7777bdbbca481a4f60f7c0fb0", func := "palantype/palantypelaw07.TallyPairs", spec := "tallyPairs", unfollowed := true, recurses := true, plainKeys := false, apart := false }
def TallyPairsSaid : Prop := tallyPairsRow.holds Tryz.pinned (OpenSpec.ofChange tallyPairsSpec)

/-- ITS FALSE NEIGHBOUR: 'it returns false'. Refute it at one input. -/
def tallyPairsWrong : ChangeSpec := { name := "tallyPairs", fn := fun _ => fun
  | [d1, d2, d3, d4] => { results := [.lit (.bool false)], args := [d1, d2, d3, d4] }
  | _ => none }
def TallyPairsWrongFalsely : Prop := tallyPairsRow.holds Tryz.pinned (OpenSpec.ofChange tallyPairsWrong)

/-- 'palantypelaw07.TallyAnswers': WHATEVER THE INPUT: true; the input reads as it did. -/
def tallyAnswersSpec : ChangeSpec := { name := "tallyAnswers", fn := fun _ => fun
  | [d1, d2] => { results := [.lit (.bool true)], args := [d1, d2] }
  | _ => none }
def tallyAnswersRow : OpenClaim := { program := "ytgpfejgohclheaagreat", sum := "49487a72f0a424ae99a6cc7621d461de8fc66bf7777bdbbca481a4f60f7c0fb0", func := "palantype/palantypelaw07.TallyAnswers", spec := "tallyAnswers", unfollowed := true, recurses := true, plainKeys := false, apart := false }
def TallyAnswersSaid : Prop := tallyAnswersRow.holds Tryz.pinned (OpenSpec.ofChange tallyAnswersSpec)

/-- ITS FALSE NEIGHBOUR: 'it returns false'. Refute it at one input. -/
def tallyAnswersWrong : ChangeSpec := { name := "tallyAnswers", fn := fun _ => fun
  | [d1, d2] => { results := [.lit (.bool false)], args := [d1, d2] }
  | _ => none }
def TallyAnswersWrongFalsely : Prop := tallyAnswersRow.holds Tryz.pinned (OpenSpec.ofChange tallyAnswersWrong)

/-- 'palantypelaw07.TallyWitness': WHATEVER THE INPUT: true; the input reads as it did. -/
def tallyWitnessSpec : ChangeSpec := { name := "tallyWitness", fn := fun _ => fun
  | [d] => { results := [.lit (.bool true)], args := [d] }
  | _ => none }
def tallyWitnessRow : OpenClaim := { program := "ytgpfejgohclheaagreat", sum := "49487a72f0a424ae99a6cc7621d461de8fc66bf7777bdbbca481a4f60f7c0fb0", func := "palantype/palantypelaw07.TallyWitness", spec := "tallyWitness", unfollowed := true, recurses := true, plainKeys := false, apart := false }
def TallyWitnessSaid : Prop := tallyWitnessRow.holds Tryz.pinned (OpenSpec.ofChange tallyWitnessSpec)

/-- ITS FALSE NEIGHBOUR: 'it returns false'. Refute it at one input. -/
def tallyWitnessWrong : ChangeSpec := { name := "tallyWitness", fn := fun _ => fun
  | [d] => { results := [.lit (.bool false)], args := [d] }
  | _ => none }
def TallyWitnessWrongFalsely : Prop := tallyWitnessRow.holds Tryz.pinned (OpenSpec.ofChange tallyWitnessWrong)

/- THE SECOND FORM. 'bulk': how many values and letters a reading holds, each counted each time it is reached (what is shared counts as often as it is met; a slice's spare places count too). A statement '..UptoSaid' is the law's where the arguments, and the package variables that the reading takes, are together of bulk at most 1048576: NARROWER than '..Said'. Prove '..Said' where nothing that the law and all that it calls make is longer than what came in: it says more and counts as full. Else prove '..UptoSaid'. A law counts once. -/
mutual
def uptoBulk {H : Type} : DataW H → Nat
  | .lit (.string bytes) => bytes.length + 1
  | .lit _ => 1
  | .nil => 1
  | .ptr d => uptoBulk d + 1
  | .slice elems spare => uptoBulkAll elems + uptoBulkAll spare + 1
  | .agg parts => uptoBulkAll parts + 1
  | .iface _ d => uptoBulk d + 1
  | .map entries => uptoBulkEntries entries + 1
  | .held _ => 1
def uptoBulkAll {H : Type} : List (DataW H) → Nat
  | [] => 0
  | d :: r => uptoBulk d + uptoBulkAll r
def uptoBulkEntries {H : Type} : List (Lit × DataW H) → Nat
  | [] => 0
  | x :: r => uptoBulkEntry x + uptoBulkEntries r
def uptoBulkEntry {H : Type} : Lit × DataW H → Nat
  | (.string bytes, d) => bytes.length + uptoBulk d + 1
  | (_, d) => uptoBulk d + 1
 end
def uptoSmall : (H : Type) → List (DataW H) → Bool := fun _ ds => decide (uptoBulkAll ds ≤ 1048576)
def OpenSpec.upto (s : _root_.Go.ChangeSpec) : _root_.Go.OpenSpec := { _root_.Go.OpenSpec.ofChange s with cond := some uptoSmall }

/-- 'palantypelaw07.TallyAsks', WHERE WHAT IT READS IS OF BULK AT MOST 1048576: true; the input reads as it did. -/
def tallyAsksUptoRow : OpenClaim := { program := "ytgpfejgohclheaagreat", sum := "49487a72f0a424ae99a6cc7621d461de8fc66bf7777bdbbca481a4f60f7c0fb0", func := "palantype/palantypelaw07.TallyAsks", spec := "tallyAsks", unfollowed := true, recurses := true, plainKeys := false, apart := false, narrowed := true }
def TallyAsksUptoSaid : Prop := tallyAsksUptoRow.holds Tryz.pinned (OpenSpec.upto tallyAsksSpec)

/-- 'palantypelaw07.TallyCounts', WHERE WHAT IT READS IS OF BULK AT MOST 1048576: true; the input reads as it did. -/
def tallyCountsUptoRow : OpenClaim := { program := "ytgpfejgohclheaagreat", sum := "49487a72f0a424ae99a6cc7621d461de8fc66bf7777bdbbca481a4f60f7c0fb0", func := "palantype/palantypelaw07.TallyCounts", spec := "tallyCounts", unfollowed := true, recurses := true, plainKeys := false, apart := false, narrowed := true }
def TallyCountsUptoSaid : Prop := tallyCountsUptoRow.holds Tryz.pinned (OpenSpec.upto tallyCountsSpec)

/-- 'palantypelaw07.TallyTruth', WHERE WHAT IT READS IS OF BULK AT MOST 1048576: true; the input reads as it did. -/
def tallyTruthUptoRow : OpenClaim := { program := "ytgpfejgohclheaagreat", sum := "49487a72f0a424ae99a6cc7621d461de8fc66bf7777bdbbca481a4f60f7c0fb0", func := "palantype/palantypelaw07.TallyTruth", spec := "tallyTruth", unfollowed := true, recurses := true, plainKeys := false, apart := false, narrowed := true }
def TallyTruthUptoSaid : Prop := tallyTruthUptoRow.holds Tryz.pinned (OpenSpec.upto tallyTruthSpec)

/-- 'palantypelaw07.TallyMore', WHERE WHAT IT READS IS OF BULK AT MOST 1048576: true; the input reads as it did. -/
def tallyMoreUptoRow : OpenClaim := { program := "ytgpfejgohclheaagreat", sum := "49487a72f0a424ae99a6cc7621d461de8fc66bf7777bdbbca481a4f60f7c0fb0", func := "palantype/palantypelaw07.TallyMore", spec := "tallyMore", unfollowed := true, recurses := true, plainKeys := false, apart := false, narrowed := true }
def TallyMoreUptoSaid : Prop := tallyMoreUptoRow.holds Tryz.pinned (OpenSpec.upto tallyMoreSpec)

/-- 'palantypelaw07.TallyPairs', WHERE WHAT IT READS IS OF BULK AT MOST 1048576: true; the input reads as it did. -/
def tallyPairsUptoRow : OpenClaim := { program := "ytgpfejgohclheaagreat", sum := "49487a72f0a424ae99a6cc7621d461de8fc66bf7777bdbbca481a4f60f7c0fb0", func := "palantype/palantypelaw07.TallyPairs", spec := "tallyPairs", unfollowed := true, recurses := true, plainKeys := false, apart := false, narrowed := true }
def TallyPairsUptoSaid : Prop := tallyPairsUptoRow.holds Tryz.pinned (OpenSpec.upto tallyPairsSpec)

/-- 'palantypelaw07.TallyAnswers', WHERE WHAT IT READS IS OF BULK AT MOST 1048576: true; the input reads as it did. -/
def tallyAnswersUptoRow : OpenClaim := { program := "ytgpfejgohclheaagreat", sum := "49487a72f0a424ae99a6cc7621d461de8fc66bf7777bdbbca481a4f60f7c0fb0", func := "palantype/palantypelaw07.TallyAnswers", spec := "tallyAnswers", unfollowed := true, recurses := true, plainKeys := false, apart := false, narrowed := true }
def TallyAnswersUptoSaid : Prop := tallyAnswersUptoRow.holds Tryz.pinned (OpenSpec.upto tallyAnswersSpec)

/-- 'palantypelaw07.TallyWitness', WHERE WHAT IT READS IS OF BULK AT MOST 1048576: true; the input reads as it did. -/
def tallyWitnessUptoRow : OpenClaim := { program := "ytgpfejgohclheaagreat", sum := "49487a72f0a424ae99a6cc7621d461de8fc66bf7777bdbbca481a4f60f7c0fb0", func := "palantype/palantypelaw07.TallyWitness", spec := "tallyWitness", unfollowed := true, recurses := true, plainKeys := false, apart := false, narrowed := true }
def TallyWitnessUptoSaid : Prop := tallyWitnessUptoRow.holds Tryz.pinned (OpenSpec.upto tallyWitnessSpec)

end Rows
end Go.Proofs.YtgpfejgohclheaaGreat
