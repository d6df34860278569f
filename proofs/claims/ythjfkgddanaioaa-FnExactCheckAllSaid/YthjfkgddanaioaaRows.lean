/-
  No cell of these rows narrows 'for every input' (looked for: loops, veiled, ifaces, maps, wideKeys, modest, calm, conditions, laid).
  DERIVED. THE GIVEN ROWS OF THIS SEAT. 10 by the template 'for every input the law returns true; each argument reads behind the call as it read before'; 0 by the template 'total and deterministic' (their statements: YthjfkgddanaioaaTotals.lean).
  GIVEN WITH THE SEED: the statements are not yours to turn. If you find one false, say at which input.
  Laid BY PROGRAM, IN A SANDBOX (cutbox-rows.mjs): the forced cells as the released guide's own fill.sh prints them over the translation 06c4603431cb8c51… (all of the seat's roots in one cut). By AI agents, Wed Nov 11 2026. No macro, syntax, notation, axiom, sorry.
-/
import Derived.Test.YthjfkgddanaioaaChecked
import GoSem.Claim
import GoSem.ClaimJoined
import GoSem.ClaimMapViews
import Derived.JoinedTies
import Derived.KernelRfl
namespace Go.Proofs.Ythjfkgddanaioaa
/- THE CELL 'sum', in the pinned program and in every row, IS THE sha256 OF THE DUMP (.gsa) THAT YthjfkgddanaioaaProg.lean LOADS. Nothing in Lean hashes anything: it is a label: what it is worth is what the hold of that sum in a sandbox is worth. -/
noncomputable def Try.pinned : Pinned := { name := "ythjfkgddanaioaa", sum := "06c4603431cb8c512c8b0d604a0ab5e5a779a367d9949c1c531bc273e48780f9", checked := Try.checked }
namespace Rows
def none {H : Type} : Left H := { results := [], args := [] }

/-- 'laws.FnExactSumCheck': WHATEVER THE INPUT: true; the input reads as it did. -/
def fnExactSumCheckSpec : ChangeSpec := { name := "fnExactSumCheck", fn := fun _ => fun
  | [d] => { results := [.lit (.bool true)], args := [d] }
  | _ => none }
def fnExactSumCheckRow : OpenClaim := { program := "ythjfkgddanaioaa", sum := "06c4603431cb8c512c8b0d604a0ab5e5a779a367d9949c1c531bc273e48780f9", func := "loop.example/g00940/laws.FnExactSumCheck", spec := "fnExactSumCheck", apart := false }
def FnExactSumCheckSaid : Prop := fnExactSumCheckRow.holds Try.pinned (OpenSpec.ofChange fnExactSumCheckSpec)

/-- ITS FALSE NEIGHBOUR: 'it returns false'. Refute it at one input. -/
def fnExactSumCheckWrong : ChangeSpec := { name := "fnExactSumCheck", fn := fun _ => fun
  | [d] => { results := [.lit (.bool false)], args := [d] }
  | _ => none }
def FnExactSumCheckWrongFalsely : Prop := fnExactSumCheckRow.holds Try.pinned (OpenSpec.ofChange fnExactSumCheckWrong)

/-- 'laws.FnExactFillErased': WHATEVER THE INPUT: true; the input reads as it did. -/
def fnExactFillErasedSpec : ChangeSpec := { name := "fnExactFillErased", fn := fun _ => fun
  | [d1, d2] => { results := [.lit (.bool true)], args := [d1, d2] }
  | _ => none }
def fnExactFillErasedRow : OpenClaim := { program := "ythjfkgddanaioaa", sum := "06c4603431cb8c512c8b0d604a0ab5e5a779a367d9949c1c531bc273e48780f9", func := "loop.example/g00940/laws.FnExactFillErased", spec := "fnExactFillErased", apart := false }
def FnExactFillErasedSaid : Prop := fnExactFillErasedRow.holds Try.pinned (OpenSpec.ofChange fnExactFillErasedSpec)

/-- ITS FALSE NEIGHBOUR: 'it returns false'. Refute it at one input. -/
def fnExactFillErasedWrong : ChangeSpec := { name := "fnExactFillErased", fn := fun _ => fun
  | [d1, d2] => { results := [.lit (.bool false)], args := [d1, d2] }
  | _ => none }
def FnExactFillErasedWrongFalsely : Prop := fnExactFillErasedRow.holds Try.pinned (OpenSpec.ofChange fnExactFillErasedWrong)

/-- 'laws.FnExactSeesExchange': WHATEVER THE INPUT: true; the input reads as it did. -/
def fnExactSeesExchangeSpec : ChangeSpec := { name := "fnExactSeesExchange", fn := fun _ => fun
  | [d1, d2, d3] => { results := [.lit (.bool true)], args := [d1, d2, d3] }
  | _ => none }
def fnExactSeesExchangeRow : OpenClaim := { program := "ythjfkgddanaioaa", sum := "06c4603431cb8c512c8b0d604a0ab5e5a779a367d9949c1c531bc273e48780f9", func := "loop.example/g00940/laws.FnExactSeesExchange", spec := "fnExactSeesExchange", apart := false }
def FnExactSeesExchangeSaid : Prop := fnExactSeesExchangeRow.holds Try.pinned (OpenSpec.ofChange fnExactSeesExchangeSpec)

/-- ITS FALSE NEIGHBOUR: 'it returns false'. Refute it at one input. -/
def fnExactSeesExchangeWrong : ChangeSpec := { name := "fnExactSeesExchange", fn := fun _ => fun
  | [d1, d2, d3] => { results := [.lit (.bool false)], args := [d1, d2, d3] }
  | _ => none }
def FnExactSeesExchangeWrongFalsely : Prop := fnExactSeesExchangeRow.holds Try.pinned (OpenSpec.ofChange fnExactSeesExchangeWrong)

/-- 'laws.FnExactPairChecks': WHATEVER THE INPUT: true; the input reads as it did. -/
def fnExactPairChecksSpec : ChangeSpec := { name := "fnExactPairChecks", fn := fun _ => fun
  | [d] => { results := [.lit (.bool true)], args := [d] }
  | _ => none }
def fnExactPairChecksRow : OpenClaim := { program := "ythjfkgddanaioaa", sum := "06c4603431cb8c512c8b0d604a0ab5e5a779a367d9949c1c531bc273e48780f9", func := "loop.example/g00940/laws.FnExactPairChecks", spec := "fnExactPairChecks", apart := false }
def FnExactPairChecksSaid : Prop := fnExactPairChecksRow.holds Try.pinned (OpenSpec.ofChange fnExactPairChecksSpec)

/-- ITS FALSE NEIGHBOUR: 'it returns false'. Refute it at one input. -/
def fnExactPairChecksWrong : ChangeSpec := { name := "fnExactPairChecks", fn := fun _ => fun
  | [d] => { results := [.lit (.bool false)], args := [d] }
  | _ => none }
def FnExactPairChecksWrongFalsely : Prop := fnExactPairChecksRow.holds Try.pinned (OpenSpec.ofChange fnExactPairChecksWrong)

/-- 'laws.FnExactWrongShutters': WHATEVER THE INPUT: true; the input reads as it did. -/
def fnExactWrongShuttersSpec : ChangeSpec := { name := "fnExactWrongShutters", fn := fun _ => fun
  | [d1, d2] => { results := [.lit (.bool true)], args := [d1, d2] }
  | _ => none }
def fnExactWrongShuttersRow : OpenClaim := { program := "ythjfkgddanaioaa", sum := "06c4603431cb8c512c8b0d604a0ab5e5a779a367d9949c1c531bc273e48780f9", func := "loop.example/g00940/laws.FnExactWrongShutters", spec := "fnExactWrongShutters", apart := false }
def FnExactWrongShuttersSaid : Prop := fnExactWrongShuttersRow.holds Try.pinned (OpenSpec.ofChange fnExactWrongShuttersSpec)

/-- ITS FALSE NEIGHBOUR: 'it returns false'. Refute it at one input. -/
def fnExactWrongShuttersWrong : ChangeSpec := { name := "fnExactWrongShutters", fn := fun _ => fun
  | [d1, d2] => { results := [.lit (.bool false)], args := [d1, d2] }
  | _ => none }
def FnExactWrongShuttersWrongFalsely : Prop := fnExactWrongShuttersRow.holds Try.pinned (OpenSpec.ofChange fnExactWrongShuttersWrong)

/-- 'laws.FnExactWithPair': WHATEVER THE INPUT: true; the input reads as it did. -/
def fnExactWithPairSpec : ChangeSpec := { name := "fnExactWithPair", fn := fun _ => fun
  | [d] => { results := [.lit (.bool true)], args := [d] }
  | _ => none }
def fnExactWithPairRow : OpenClaim := { program := "ythjfkgddanaioaa", sum := "06c4603431cb8c512c8b0d604a0ab5e5a779a367d9949c1c531bc273e48780f9", func := "loop.example/g00940/laws.FnExactWithPair", spec := "fnExactWithPair", apart := false }
def FnExactWithPairSaid : Prop := fnExactWithPairRow.holds Try.pinned (OpenSpec.ofChange fnExactWithPairSpec)

/-- ITS FALSE NEIGHBOUR: 'it returns false'. Refute it at one input. -/
def fnExactWithPairWrong : ChangeSpec := { name := "fnExactWithPair", fn := fun _ => fun
  | [d] => { results := [.lit (.bool false)], args := [d] }
  | _ => none }
def FnExactWithPairWrongFalsely : Prop := fnExactWithPairRow.holds Try.pinned (OpenSpec.ofChange fnExactWithPairWrong)

/-- 'laws.FnExactCorrectOne': WHATEVER THE INPUT: true; the input reads as it did. -/
def fnExactCorrectOneSpec : ChangeSpec := { name := "fnExactCorrectOne", fn := fun _ => fun
  | [d] => { results := [.lit (.bool true)], args := [d] }
  | _ => none }
def fnExactCorrectOneRow : OpenClaim := { program := "ythjfkgddanaioaa", sum := "06c4603431cb8c512c8b0d604a0ab5e5a779a367d9949c1c531bc273e48780f9", func := "loop.example/g00940/laws.FnExactCorrectOne", spec := "fnExactCorrectOne", apart := false }
def FnExactCorrectOneSaid : Prop := fnExactCorrectOneRow.holds Try.pinned (OpenSpec.ofChange fnExactCorrectOneSpec)

/-- ITS FALSE NEIGHBOUR: 'it returns false'. Refute it at one input. -/
def fnExactCorrectOneWrong : ChangeSpec := { name := "fnExactCorrectOne", fn := fun _ => fun
  | [d] => { results := [.lit (.bool false)], args := [d] }
  | _ => none }
def FnExactCorrectOneWrongFalsely : Prop := fnExactCorrectOneRow.holds Try.pinned (OpenSpec.ofChange fnExactCorrectOneWrong)

/-- 'laws.FnExactCheckAll': WHATEVER THE INPUT: true; the input reads as it did. -/
def fnExactCheckAllSpec : ChangeSpec := { name := "fnExactCheckAll", fn := fun _ => fun
  | [d] => { results := [.lit (.bool true)], args := [d] }
  | _ => none }
def fnExactCheckAllRow : OpenClaim := { program := "ythjfkgddanaioaa", sum := "06c4603431cb8c512c8b0d604a0ab5e5a779a367d9949c1c531bc273e48780f9", func := "loop.example/g00940/laws.FnExactCheckAll", spec := "fnExactCheckAll", apart := false }
def FnExactCheckAllSaid : Prop := fnExactCheckAllRow.holds Try.pinned (OpenSpec.ofChange fnExactCheckAllSpec)

/-- ITS FALSE NEIGHBOUR: 'it returns false'. Refute it at one input. -/
def fnExactCheckAllWrong : ChangeSpec := { name := "fnExactCheckAll", fn := fun _ => fun
  | [d] => { results := [.lit (.bool false)], args := [d] }
  | _ => none }
def FnExactCheckAllWrongFalsely : Prop := fnExactCheckAllRow.holds Try.pinned (OpenSpec.ofChange fnExactCheckAllWrong)

/-- 'laws.FnChecks': WHATEVER THE INPUT: true; the input reads as it did. -/
def fnChecksSpec : ChangeSpec := { name := "fnChecks", fn := fun _ => fun
  | [d1, d2] => { results := [.lit (.bool true)], args := [d1, d2] }
  | _ => none }
def fnChecksRow : OpenClaim := { program := "ythjfkgddanaioaa", sum := "06c4603431cb8c512c8b0d604a0ab5e5a779a367d9949c1c531bc273e48780f9", func := "loop.example/g00940/laws.FnChecks", spec := "fnChecks", apart := false }
def FnChecksSaid : Prop := fnChecksRow.holds Try.pinned (OpenSpec.ofChange fnChecksSpec)

/-- ITS FALSE NEIGHBOUR: 'it returns false'. Refute it at one input. -/
def fnChecksWrong : ChangeSpec := { name := "fnChecks", fn := fun _ => fun
  | [d1, d2] => { results := [.lit (.bool false)], args := [d1, d2] }
  | _ => none }
def FnChecksWrongFalsely : Prop := fnChecksRow.holds Try.pinned (OpenSpec.ofChange fnChecksWrong)

/-- 'laws.FnErrors': WHATEVER THE INPUT: true; the input reads as it did. -/
def fnErrorsSpec : ChangeSpec := { name := "fnErrors", fn := fun _ => fun
  | [d1, d2] => { results := [.lit (.bool true)], args := [d1, d2] }
  | _ => none }
def fnErrorsRow : OpenClaim := { program := "ythjfkgddanaioaa", sum := "06c4603431cb8c512c8b0d604a0ab5e5a779a367d9949c1c531bc273e48780f9", func := "loop.example/g00940/laws.FnErrors", spec := "fnErrors", apart := false }
def FnErrorsSaid : Prop := fnErrorsRow.holds Try.pinned (OpenSpec.ofChange fnErrorsSpec)

/-- ITS FALSE NEIGHBOUR: 'it returns false'. Refute it at one input. -/
def fnErrorsWrong : ChangeSpec := { name := "fnErrors", fn := fun _ => fun
  | [d1, d2] => { results := [.lit (.bool false)], args := [d1, d2] }
  | _ => none }
def FnErrorsWrongFalsely : Prop := fnErrorsRow.holds Try.pinned (OpenSpec.ofChange fnErrorsWrong)

/- THE SECOND FORM. 'bulk': how many values and letters a reading holds, each counted each time it is reached (what is shared counts as often as it is met; a slice's spare places count too). A statement '..UptoSaid' is the law's where the arguments, and the package variables that the reading takes, are together of bulk at most 1048576: NARROWER than '..Said'. Prove '..Said' where nothing that the law and all that it calls make is longer than what came in: it says more and counts as full. Else prove '..UptoSaid'. A law counts once. -/
mutual
def uptoBulk {H : Type} : DataW H → Nat
  | .lit (.string bytes) => bytes.length + 1
  | .lit _ => 1
  | .nil => 1
  | .ptr d => uptoBulk d + 1
  | .slice elems spare => uptoBulkAll elems + uptoBulkAll spare + 1
  | .agg parts => uptoBulkAll parts + 1
  | .iface _ d => uptoBulk d + 1
  | .map entries => uptoBulkEntries entries + 1
  | .held _ => 1
def uptoBulkAll {H : Type} : List (DataW H) → Nat
  | [] => 0
  | d :: r => uptoBulk d + uptoBulkAll r
def uptoBulkEntries {H : Type} : List (Lit × DataW H) → Nat
  | [] => 0
  | x :: r => uptoBulkEntry x + uptoBulkEntries r
def uptoBulkEntry {H : Type} : Lit × DataW H → Nat
  | (.string bytes, d) => bytes.length + uptoBulk d + 1
  | (_, d) => uptoBulk d + 1
 end
def uptoSmall : (H : Type) → List (DataW H) → Bool := fun _ ds => decide (uptoBulkAll ds ≤ 1048576)
def OpenSpec.upto (s : _root_.Go.ChangeSpec) : _root_.Go.OpenSpec := { _root_.Go.OpenSpec.ofChange s with cond := some uptoSmall }

/-- 'laws.FnExactSumCheck', WHERE WHAT IT READS IS OF BULK AT MOST 1048576: true; the input reads as it did. -/
def fnExactSumCheckUptoRow : OpenClaim := { program := "ythjfkgddanaioaa", sum := "06c4603431cb8c512c8b0d604a0ab5e5a779a367d9949c1c531bc273e48780f9", func := "loop.example/g00940/laws.FnExactSumCheck", spec := "fnExactSumCheck", apart := false, narrowed := true }
def FnExactSumCheckUptoSaid : Prop := fnExactSumCheckUptoRow.holds Try.pinned (OpenSpec.upto fnExactSumCheckSpec)

/-- 'laws.FnExactFillErased', WHERE WHAT IT READS IS OF BULK AT MOST 1048576: true; the input reads as it did. -/
def fnExactFillErasedUptoRow : OpenClaim := { program := "ythjfkgddanaioaa", sum := "06c4603431cb8c512c8b0d604a0ab5e5a779a367d9949c1c531bc273e48780f9", func := "loop.example/g00940/laws.FnExactFillErased", spec := "fnExactFillErased", apart := false, narrowed := true }
def FnExactFillErasedUptoSaid : Prop := fnExactFillErasedUptoRow.holds Try.pinned (OpenSpec.upto fnExactFillErasedSpec)

/-- 'laws.FnExactSeesExchange', WHERE WHAT IT READS IS OF BULK AT MOST 1048576: true; the input reads as it did. -/
def fnExactSeesExchangeUptoRow : OpenClaim := { program := "ythjfkgddanaioaa", sum := "06c4603431cb8c512c8b0d604a0ab5e5a779a367d9949c1c531bc273e48780f9", func := "loop.example/g00940/laws.FnExactSeesExchange", spec := "fnExactSeesExchange", apart := false, narrowed := true }
def FnExactSeesExchangeUptoSaid : Prop := fnExactSeesExchangeUptoRow.holds Try.pinned (OpenSpec.upto fnExactSeesExchangeSpec)

/-- 'laws.FnExactPairChecks', WHERE WHAT IT READS IS OF BULK AT MOST 1048576: true; the input reads as it did. -/
def fnExactPairChecksUptoRow : OpenClaim := { program := "ythjfkgddanaioaa", sum := "06c4603431cb8c512c8b0d604a0ab5e5a779a367d9949c1c531bc273e48780f9", func := "loop.example/g00940/laws.FnExactPairChecks", spec := "fnExactPairChecks", apart := false, narrowed := true }
def FnExactPairChecksUptoSaid : Prop := fnExactPairChecksUptoRow.holds Try.pinned (OpenSpec.upto fnExactPairChecksSpec)

/-- 'laws.FnExactWrongShutters', WHERE WHAT IT READS IS OF BULK AT MOST 1048576: true; the input reads as it did. -/
def fnExactWrongShuttersUptoRow : OpenClaim := { program := "ythjfkgddanaioaa", sum := "06c4603431cb8c512c8b0d604a0ab5e5a779a367d9949c1c531bc273e48780f9", func := "loop.example/g00940/laws.FnExactWrongShutters", spec := "fnExactWrongShutters", apart := false, narrowed := true }
def FnExactWrongShuttersUptoSaid : Prop := fnExactWrongShuttersUptoRow.holds Try.pinned (OpenSpec.upto fnExactWrongShuttersSpec)

/-- 'laws.FnExactWithPair', WHERE WHAT IT READS IS OF BULK AT MOST 1048576: true; the input reads as it did. -/
def fnExactWithPairUptoRow : OpenClaim := { program := "ythjfkgddanaioaa", sum := "06c4603431cb8c512c8b0d604a0ab5e5a779a367d9949c1c531bc273e48780f9", func := "loop.example/g00940/laws.FnExactWithPair", spec := "fnExactWithPair", apart := false, narrowed := true }
def FnExactWithPairUptoSaid : Prop := fnExactWithPairUptoRow.holds Try.pinned (OpenSpec.upto fnExactWithPairSpec)

/-- 'laws.FnExactCorrectOne', WHERE WHAT IT READS IS OF BULK AT MOST 1048576: true; the input reads as it did. -/
def fnExactCorrectOneUptoRow : OpenClaim := { program := "ythjfkgddanaioaa", sum := "06c4603431cb8c512c8b0d604a0ab5e5a779a367d9949c1c531bc273e48780f9", func := "loop.example/g00940/laws.FnExactCorrectOne", spec := "fnExactCorrectOne", apart := false, narrowed := true }
def FnExactCorrectOneUptoSaid : Prop := fnExactCorrectOneUptoRow.holds Try.pinned (OpenSpec.upto fnExactCorrectOneSpec)

/-- 'laws.FnExactCheckAll', WHERE WHAT IT READS IS OF BULK AT MOST 1048576: true; the input reads as it did. -/
def fnExactCheckAllUptoRow : OpenClaim := { program := "ythjfkgddanaioaa", sum := "06c4603431cb8c512c8b0d604a0ab5e5a779a367d9949c1c531bc273e48780f9", func := "loop.example/g00940/laws.FnExactCheckAll", spec := "fnExactCheckAll", apart := false, narrowed := true }
def FnExactCheckAllUptoSaid : Prop := fnExactCheckAllUptoRow.holds Try.pinned (OpenSpec.upto fnExactCheckAllSpec)

/-- 'laws.FnChecks', WHERE WHAT IT READS IS OF BULK AT MOST 1048576: true; the input reads as it did. -/
def fnChecksUptoRow : OpenClaim := { program := "ythjfkgddanaioaa", sum := "06c4603431cb8c512c8b0d604a0ab5e5a779a367d9949c1c531bc273e48780f9", func := "loop.example/g00940/laws.FnChecks", spec := "fnChecks", apart := false, narrowed := true }
def FnChecksUptoSaid : Prop := fnChecksUptoRow.holds Try.pinned (OpenSpec.upto fnChecksSpec)

/-- 'laws.FnErrors', WHERE WHAT IT READS IS OF BULK AT MOST 1048576: true; the input reads as it did. -/
def fnErrorsUptoRow : OpenClaim := { program := "ythjfkgddanaioaa", sum := "06c4603431cb8c512c8b0d604a0ab5e5a779a367d9949c1c531bc273e48780f9", func := "loop.example/g00940/laws.FnErrors", spec := "fnErrors", apart := false, narrowed := true }
def FnErrorsUptoSaid : Prop := fnErrorsUptoRow.holds Try.pinned (OpenSpec.upto fnErrorsSpec)

end Rows
end Go.Proofs.Ythjfkgddanaioaa
