/-
  No cell of these rows narrows 'for every input' (looked for: loops, veiled, ifaces, maps, wideKeys, modest, calm, conditions, laid).
  DERIVED. THE GIVEN ROWS OF THIS SEAT. 3 by the template 'for every input the law returns true; each argument reads behind the call as it read before'; 0 by the template 'total and deterministic' (their statements: YtnoagmjajhlmjaaTotals.lean).
  GIVEN WITH THE SEED: the statements are not yours to turn. If you find one false, say at which input.
  Laid BY PROGRAM, IN A SANDBOX (cutbox-rows.mjs): the forced cells as the released guide's own fill.sh prints them over the translation 8aa93f8de8232dcf… (all of the seat's roots in one cut). By AI agents, Wed Nov 11 2026. No macro, syntax, notation, axiom, sorry.
-/
import Derived.Test.YtnoagmjajhlmjaaChecked
import GoSem.Claim
import GoSem.ClaimJoined
import GoSem.ClaimMapViews
import Derived.JoinedTies
import Derived.KernelRfl
namespace Go.Proofs.Ytnoagmjajhlmjaa
/- THE CELL 'sum', in the pinned program and in every row, IS THE sha256 OF THE DUMP (.gsa) THAT YtnoagmjajhlmjaaProg.lean LOADS. Nothing in Lean hashes anything: it is a label: what it is worth is what the hold of that sum in a sandbox is worth. -/
noncomputable def Try.pinned : Pinned := { name := "ytnoagmjajhlmjaa", sum := "8aa93f8de8232dcfe528bf1ad98d7b38f9ce370dc719cb34a83d93480652d24d", checked := Try.checked }
namespace Rows
def none {H : Type} : Left H := { results := [], args := [] }

/-- 'laws.FnExactReverseSight': WHATEVER THE INPUT: true; the input reads as it did. -/
def fnExactReverseSightSpec : ChangeSpec := { name := "fnExactReverseSight", fn := fun _ => fun
  | [d] => { results := [.lit (.bool true)], args := [d] }
  | _ => none }
def fnExactReverseSightRow : OpenClaim := { program := "ytnoagmjajhlmjaa", sum := "8aa93f8de8232dcfe528bf1ad98d7b38f9ce370dc719cb34a83d93480652d24d", func := "loop.example/g00940/laws.FnExactReverseSight", spec := "fnExactReverseSight", unfollowed := true, recurses := true, apart := false }
def FnExactReverseSightSaid : Prop := fnExactReverseSightRow.holds Try.pinned (OpenSpec.ofChange fnExactReverseSightSpec)

/-- ITS FALSE NEIGHBOUR: 'it returns false'. Refute it at one input. -/
def fnExactReverseSightWrong : ChangeSpec := { name := "fnExactReverseSight", fn := fun _ => fun
  | [d] => { results := [.lit (.bool false)], args := [d] }
  | _ => none }
def FnExactReverseSightWrongFalsely : Prop := fnExactReverseSightRow.holds Try.pinned (OpenSpec.ofChange fnExactReverseSightWrong)

/-- 'laws.FnHeights': WHATEVER THE INPUT: true; the input reads as it did. -/
def fnHeightsSpec : ChangeSpec := { name := "fnHeights", fn := fun _ => fun
  | [d1, d2] => { results := [.lit (.bool true)], args := [d1, d2] }
  | _ => none }
def fnHeightsRow : OpenClaim := { program := "ytnoagmjajhlmjaa", sum := "8aa93f8de8232dcfe528bf1ad98d7b38f9ce370dc719cb34a83d93480652d24d", func := "loop.example/g00940/laws.FnHeights", spec := "fnHeights", unfollowed := true, recurses := true, apart := false }
def FnHeightsSaid : Prop := fnHeightsRow.holds Try.pinned (OpenSpec.ofChange fnHeightsSpec)

/-- ITS FALSE NEIGHBOUR: 'it returns false'. Refute it at one input. -/
def fnHeightsWrong : ChangeSpec := { name := "fnHeights", fn := fun _ => fun
  | [d1, d2] => { results := [.lit (.bool false)], args := [d1, d2] }
  | _ => none }
def FnHeightsWrongFalsely : Prop := fnHeightsRow.holds Try.pinned (OpenSpec.ofChange fnHeightsWrong)

/-- 'laws.FnSights': WHATEVER THE INPUT: true; the input reads as it did. -/
def fnSightsSpec : ChangeSpec := { name := "fnSights", fn := fun _ => fun
  | [d1, d2] => { results := [.lit (.bool true)], args := [d1, d2] }
  | _ => none }
def fnSightsRow : OpenClaim := { program := "ytnoagmjajhlmjaa", sum := "8aa93f8de8232dcfe528bf1ad98d7b38f9ce370dc719cb34a83d93480652d24d", func := "loop.example/g00940/laws.FnSights", spec := "fnSights", unfollowed := true, recurses := true, apart := false }
def FnSightsSaid : Prop := fnSightsRow.holds Try.pinned (OpenSpec.ofChange fnSightsSpec)

/-- ITS FALSE NEIGHBOUR: 'it returns false'. Refute it at one input. -/
def fnSightsWrong : ChangeSpec := { name := "fnSights", fn := fun _ => fun
  | [d1, d2] => { results := [.lit (.bool false)], args := [d1, d2] }
  | _ => none }
def FnSightsWrongFalsely : Prop := fnSightsRow.holds Try.pinned (OpenSpec.ofChange fnSightsWrong)

/- THE SECOND FORM. 'bulk': how many values and letters a reading holds, each counted each time it is reached (what is shared counts as often as it is met; a slice's spare places count too). A statement '..UptoSaid' is the law's where the arguments, and the package variables that the reading takes, are together of bulk at most 1048576: NARROWER than '..Said'. Prove '..Said' where nothing that the law and all that it calls make is longer than what came in: it says more and counts as full. Else prove '..UptoSaid'. A law counts once. -/
mutual
def uptoBulk {H : Type} : DataW H → Nat
  | .lit (.string bytes) => bytes.length + 1
  | .lit _ => 1
  | .nil => 1
  | .ptr d => uptoBulk d + 1
  | .slice elems spare => uptoBulkAll elems + uptoBulkAll spare + 1
  | .agg parts => uptoBulkAll parts + 1
  | .iface _ d => uptoBulk d + 1
  | .map entries => uptoBulkEntries entries + 1
  | .held _ => 1
def uptoBulkAll {H : Type} : List (DataW H) → Nat
  | [] => 0
  | d :: r => uptoBulk d + uptoBulkAll r
def uptoBulkEntries {H : Type} : List (Lit × DataW H) → Nat
  | [] => 0
  | x :: r => uptoBulkEntry x + uptoBulkEntries r
def uptoBulkEntry {H : Type} : Lit × DataW H → Nat
  | (.string bytes, d) => bytes.length + uptoBulk d + 1
  | (_, d) => uptoBulk d + 1
 end
def uptoSmall : (H : Type) → List (DataW H) → Bool := fun _ ds => decide (uptoBulkAll ds ≤ 1048576)
def OpenSpec.upto (s : _root_.Go.ChangeSpec) : _root_.Go.OpenSpec := { _root_.Go.OpenSpec.ofChange s with cond := some uptoSmall }

/-- 'laws.FnExactReverseSight', WHERE WHAT IT READS IS OF BULK AT MOST 1048576: true; the input reads as it did. -/
def fnExactReverseSightUptoRow : OpenClaim := { program := "ytnoagmjajhlmjaa", sum := "8aa93f8de8232dcfe528bf1ad98d7b38f9ce370dc719cb34a83d93480652d24d", func := "loop.example/g00940/laws.FnExactReverseSight", spec := "fnExactReverseSight", unfollowed := true, recurses := true, apart := false, narrowed := true }
def FnExactReverseSightUptoSaid : Prop := fnExactReverseSightUptoRow.holds Try.pinned (OpenSpec.upto fnExactReverseSightSpec)

/-- 'laws.FnHeights', WHERE WHAT IT READS IS OF BULK AT MOST 1048576: true; the input reads as it did. -/
def fnHeightsUptoRow : OpenClaim := { program := "ytnoagmjajhlmjaa", sum := "8aa93f8de8232dcfe528bf1ad98d7b38f9ce370dc719cb34a83d93480652d24d", func := "loop.example/g00940/laws.FnHeights", spec := "fnHeights", unfollowed := true, recurses := true, apart := false, narrowed := true }
def FnHeightsUptoSaid : Prop := fnHeightsUptoRow.holds Try.pinned (OpenSpec.upto fnHeightsSpec)

/-- 'laws.FnSights', WHERE WHAT IT READS IS OF BULK AT MOST 1048576: true; the input reads as it did. -/
def fnSightsUptoRow : OpenClaim := { program := "ytnoagmjajhlmjaa", sum := "8aa93f8de8232dcfe528bf1ad98d7b38f9ce370dc719cb34a83d93480652d24d", func := "loop.example/g00940/laws.FnSights", spec := "fnSights", unfollowed := true, recurses := true, apart := false, narrowed := true }
def FnSightsUptoSaid : Prop := fnSightsUptoRow.holds Try.pinned (OpenSpec.upto fnSightsSpec)

end Rows
end Go.Proofs.Ytnoagmjajhlmjaa
