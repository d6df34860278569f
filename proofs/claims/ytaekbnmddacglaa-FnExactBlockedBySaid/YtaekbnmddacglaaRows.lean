/-
  No cell of these rows narrows 'for every input' (looked for: loops, veiled, ifaces, maps, wideKeys, modest, calm, conditions, laid).
  DERIVED. THE GIVEN ROWS OF THIS SEAT. 12 by the template 'for every input the law returns true; each argument reads behind the call as it read before'; 0 by the template 'total and deterministic' (their statements: YtaekbnmddacglaaTotals.lean).
  GIVEN WITH THE SEED: the statements are not yours to turn. If you find one false, say at which input.
  Laid BY PROGRAM, IN A SANDBOX (cutbox-rows.mjs): the forced cells as the released guide's own fill.sh prints them over the translation 0bd206c1798d2267… (all of the seat's roots in one cut). By AI agents, Wed Nov 11 2026. No macro, syntax, notation, axiom, sorry.
-/
import Derived.Test.YtaekbnmddacglaaChecked
import GoSem.Claim
import GoSem.ClaimJoined
import GoSem.ClaimMapViews
import Derived.JoinedTies
import Derived.KernelRfl
namespace Go.Proofs.Ytaekbnmddacglaa
/- THE CELL 'sum', in the pinned program and in every row, IS THE sha256 OF THE DUMP (.gsa) THAT YtaekbnmddacglaaProg.lean LOADS. Nothing in Lean hashes anything: it is a label: what it is worth is what the hold of that sum in a sandbox is worth. -/
noncomputable def Try.pinned : Pinned := { name := "ytaekbnmddacglaa", sum := "0bd206c1798d2267c435ad9a30f9b32611b8d41bd86651269ad31efbe575708e", checked := Try.checked }
namespace Rows
def none {H : Type} : Left H := { results := [], args := [] }

/-- 'laws.FnExactBulgeAt': WHATEVER THE INPUT: true; the input reads as it did. -/
def fnExactBulgeAtSpec : ChangeSpec := { name := "fnExactBulgeAt", fn := fun _ => fun
  | [d1, d2, d3] => { results := [.lit (.bool true)], args := [d1, d2, d3] }
  | _ => none }
def fnExactBulgeAtRow : OpenClaim := { program := "ytaekbnmddacglaa", sum := "0bd206c1798d2267c435ad9a30f9b32611b8d41bd86651269ad31efbe575708e", func := "loop.example/g00940/laws.FnExactBulgeAt", spec := "fnExactBulgeAt", apart := false }
def FnExactBulgeAtSaid : Prop := fnExactBulgeAtRow.holds Try.pinned (OpenSpec.ofChange fnExactBulgeAtSpec)

/-- ITS FALSE NEIGHBOUR: 'it returns false'. Refute it at one input. -/
def fnExactBulgeAtWrong : ChangeSpec := { name := "fnExactBulgeAt", fn := fun _ => fun
  | [d1, d2, d3] => { results := [.lit (.bool false)], args := [d1, d2, d3] }
  | _ => none }
def FnExactBulgeAtWrongFalsely : Prop := fnExactBulgeAtRow.holds Try.pinned (OpenSpec.ofChange fnExactBulgeAtWrong)

/-- 'laws.FnExactHorizonOf': WHATEVER THE INPUT: true; the input reads as it did. -/
def fnExactHorizonOfSpec : ChangeSpec := { name := "fnExactHorizonOf", fn := fun _ => fun
  | [d1, d2] => { results := [.lit (.bool true)], args := [d1, d2] }
  | _ => none }
def fnExactHorizonOfRow : OpenClaim := { program := "ytaekbnmddacglaa", sum := "0bd206c1798d2267c435ad9a30f9b32611b8d41bd86651269ad31efbe575708e", func := "loop.example/g00940/laws.FnExactHorizonOf", spec := "fnExactHorizonOf", apart := false }
def FnExactHorizonOfSaid : Prop := fnExactHorizonOfRow.holds Try.pinned (OpenSpec.ofChange fnExactHorizonOfSpec)

/-- ITS FALSE NEIGHBOUR: 'it returns false'. Refute it at one input. -/
def fnExactHorizonOfWrong : ChangeSpec := { name := "fnExactHorizonOf", fn := fun _ => fun
  | [d1, d2] => { results := [.lit (.bool false)], args := [d1, d2] }
  | _ => none }
def FnExactHorizonOfWrongFalsely : Prop := fnExactHorizonOfRow.holds Try.pinned (OpenSpec.ofChange fnExactHorizonOfWrong)

/-- 'laws.FnExactIsSight': WHATEVER THE INPUT: true; the input reads as it did. -/
def fnExactIsSightSpec : ChangeSpec := { name := "fnExactIsSight", fn := fun _ => fun
  | [d] => { results := [.lit (.bool true)], args := [d] }
  | _ => none }
def fnExactIsSightRow : OpenClaim := { program := "ytaekbnmddacglaa", sum := "0bd206c1798d2267c435ad9a30f9b32611b8d41bd86651269ad31efbe575708e", func := "loop.example/g00940/laws.FnExactIsSight", spec := "fnExactIsSight", apart := false }
def FnExactIsSightSaid : Prop := fnExactIsSightRow.holds Try.pinned (OpenSpec.ofChange fnExactIsSightSpec)

/-- ITS FALSE NEIGHBOUR: 'it returns false'. Refute it at one input. -/
def fnExactIsSightWrong : ChangeSpec := { name := "fnExactIsSight", fn := fun _ => fun
  | [d] => { results := [.lit (.bool false)], args := [d] }
  | _ => none }
def FnExactIsSightWrongFalsely : Prop := fnExactIsSightRow.holds Try.pinned (OpenSpec.ofChange fnExactIsSightWrong)

/-- 'laws.FnExactSeesAt': WHATEVER THE INPUT: true; the input reads as it did. -/
def fnExactSeesAtSpec : ChangeSpec := { name := "fnExactSeesAt", fn := fun _ => fun
  | [d1, d2] => { results := [.lit (.bool true)], args := [d1, d2] }
  | _ => none }
def fnExactSeesAtRow : OpenClaim := { program := "ytaekbnmddacglaa", sum := "0bd206c1798d2267c435ad9a30f9b32611b8d41bd86651269ad31efbe575708e", func := "loop.example/g00940/laws.FnExactSeesAt", spec := "fnExactSeesAt", unfollowed := true, recurses := true, apart := false }
def FnExactSeesAtSaid : Prop := fnExactSeesAtRow.holds Try.pinned (OpenSpec.ofChange fnExactSeesAtSpec)

/-- ITS FALSE NEIGHBOUR: 'it returns false'. Refute it at one input. -/
def fnExactSeesAtWrong : ChangeSpec := { name := "fnExactSeesAt", fn := fun _ => fun
  | [d1, d2] => { results := [.lit (.bool false)], args := [d1, d2] }
  | _ => none }
def FnExactSeesAtWrongFalsely : Prop := fnExactSeesAtRow.holds Try.pinned (OpenSpec.ofChange fnExactSeesAtWrong)

/-- 'laws.FnExactSightBounds': WHATEVER THE INPUT: true; the input reads as it did. -/
def fnExactSightBoundsSpec : ChangeSpec := { name := "fnExactSightBounds", fn := fun _ => fun
  | [d] => { results := [.lit (.bool true)], args := [d] }
  | _ => none }
def fnExactSightBoundsRow : OpenClaim := { program := "ytaekbnmddacglaa", sum := "0bd206c1798d2267c435ad9a30f9b32611b8d41bd86651269ad31efbe575708e", func := "loop.example/g00940/laws.FnExactSightBounds", spec := "fnExactSightBounds", unfollowed := true, recurses := true, apart := false }
def FnExactSightBoundsSaid : Prop := fnExactSightBoundsRow.holds Try.pinned (OpenSpec.ofChange fnExactSightBoundsSpec)

/-- ITS FALSE NEIGHBOUR: 'it returns false'. Refute it at one input. -/
def fnExactSightBoundsWrong : ChangeSpec := { name := "fnExactSightBounds", fn := fun _ => fun
  | [d] => { results := [.lit (.bool false)], args := [d] }
  | _ => none }
def FnExactSightBoundsWrongFalsely : Prop := fnExactSightBoundsRow.holds Try.pinned (OpenSpec.ofChange fnExactSightBoundsWrong)

/-- 'laws.FnExactLeastHeight': WHATEVER THE INPUT: true; the input reads as it did. -/
def fnExactLeastHeightSpec : ChangeSpec := { name := "fnExactLeastHeight", fn := fun _ => fun
  | [d1, d2] => { results := [.lit (.bool true)], args := [d1, d2] }
  | _ => none }
def fnExactLeastHeightRow : OpenClaim := { program := "ytaekbnmddacglaa", sum := "0bd206c1798d2267c435ad9a30f9b32611b8d41bd86651269ad31efbe575708e", func := "loop.example/g00940/laws.FnExactLeastHeight", spec := "fnExactLeastHeight", unfollowed := true, recurses := true, apart := false }
def FnExactLeastHeightSaid : Prop := fnExactLeastHeightRow.holds Try.pinned (OpenSpec.ofChange fnExactLeastHeightSpec)

/-- ITS FALSE NEIGHBOUR: 'it returns false'. Refute it at one input. -/
def fnExactLeastHeightWrong : ChangeSpec := { name := "fnExactLeastHeight", fn := fun _ => fun
  | [d1, d2] => { results := [.lit (.bool false)], args := [d1, d2] }
  | _ => none }
def FnExactLeastHeightWrongFalsely : Prop := fnExactLeastHeightRow.holds Try.pinned (OpenSpec.ofChange fnExactLeastHeightWrong)

/-- 'laws.FnExactReverseSight': WHATEVER THE INPUT: true; the input reads as it did. -/
def fnExactReverseSightSpec : ChangeSpec := { name := "fnExactReverseSight", fn := fun _ => fun
  | [d] => { results := [.lit (.bool true)], args := [d] }
  | _ => none }
def fnExactReverseSightRow : OpenClaim := { program := "ytaekbnmddacglaa", sum := "0bd206c1798d2267c435ad9a30f9b32611b8d41bd86651269ad31efbe575708e", func := "loop.example/g00940/laws.FnExactReverseSight", spec := "fnExactReverseSight", unfollowed := true, recurses := true, apart := false }
def FnExactReverseSightSaid : Prop := fnExactReverseSightRow.holds Try.pinned (OpenSpec.ofChange fnExactReverseSightSpec)

/-- ITS FALSE NEIGHBOUR: 'it returns false'. Refute it at one input. -/
def fnExactReverseSightWrong : ChangeSpec := { name := "fnExactReverseSight", fn := fun _ => fun
  | [d] => { results := [.lit (.bool false)], args := [d] }
  | _ => none }
def FnExactReverseSightWrongFalsely : Prop := fnExactReverseSightRow.holds Try.pinned (OpenSpec.ofChange fnExactReverseSightWrong)

/-- 'laws.FnExactLeastRaise': WHATEVER THE INPUT: true; the input reads as it did. -/
def fnExactLeastRaiseSpec : ChangeSpec := { name := "fnExactLeastRaise", fn := fun _ => fun
  | [d1, d2] => { results := [.lit (.bool true)], args := [d1, d2] }
  | _ => none }
def fnExactLeastRaiseRow : OpenClaim := { program := "ytaekbnmddacglaa", sum := "0bd206c1798d2267c435ad9a30f9b32611b8d41bd86651269ad31efbe575708e", func := "loop.example/g00940/laws.FnExactLeastRaise", spec := "fnExactLeastRaise", unfollowed := true, recurses := true, apart := false }
def FnExactLeastRaiseSaid : Prop := fnExactLeastRaiseRow.holds Try.pinned (OpenSpec.ofChange fnExactLeastRaiseSpec)

/-- ITS FALSE NEIGHBOUR: 'it returns false'. Refute it at one input. -/
def fnExactLeastRaiseWrong : ChangeSpec := { name := "fnExactLeastRaise", fn := fun _ => fun
  | [d1, d2] => { results := [.lit (.bool false)], args := [d1, d2] }
  | _ => none }
def FnExactLeastRaiseWrongFalsely : Prop := fnExactLeastRaiseRow.holds Try.pinned (OpenSpec.ofChange fnExactLeastRaiseWrong)

/-- 'laws.FnExactClearance': WHATEVER THE INPUT: true; the input reads as it did. -/
def fnExactClearanceSpec : ChangeSpec := { name := "fnExactClearance", fn := fun _ => fun
  | [d1, d2] => { results := [.lit (.bool true)], args := [d1, d2] }
  | _ => none }
def fnExactClearanceRow : OpenClaim := { program := "ytaekbnmddacglaa", sum := "0bd206c1798d2267c435ad9a30f9b32611b8d41bd86651269ad31efbe575708e", func := "loop.example/g00940/laws.FnExactClearance", spec := "fnExactClearance", apart := false }
def FnExactClearanceSaid : Prop := fnExactClearanceRow.holds Try.pinned (OpenSpec.ofChange fnExactClearanceSpec)

/-- ITS FALSE NEIGHBOUR: 'it returns false'. Refute it at one input. -/
def fnExactClearanceWrong : ChangeSpec := { name := "fnExactClearance", fn := fun _ => fun
  | [d1, d2] => { results := [.lit (.bool false)], args := [d1, d2] }
  | _ => none }
def FnExactClearanceWrongFalsely : Prop := fnExactClearanceRow.holds Try.pinned (OpenSpec.ofChange fnExactClearanceWrong)

/-- 'laws.FnExactBlockedBy': WHATEVER THE INPUT: true; the input reads as it did. -/
def fnExactBlockedBySpec : ChangeSpec := { name := "fnExactBlockedBy", fn := fun _ => fun
  | [d1, d2] => { results := [.lit (.bool true)], args := [d1, d2] }
  | _ => none }
def fnExactBlockedByRow : OpenClaim := { program := "ytaekbnmddacglaa", sum := "0bd206c1798d2267c435ad9a30f9b32611b8d41bd86651269ad31efbe575708e", func := "loop.example/g00940/laws.FnExactBlockedBy", spec := "fnExactBlockedBy", apart := false }
def FnExactBlockedBySaid : Prop := fnExactBlockedByRow.holds Try.pinned (OpenSpec.ofChange fnExactBlockedBySpec)

/-- ITS FALSE NEIGHBOUR: 'it returns false'. Refute it at one input. -/
def fnExactBlockedByWrong : ChangeSpec := { name := "fnExactBlockedBy", fn := fun _ => fun
  | [d1, d2] => { results := [.lit (.bool false)], args := [d1, d2] }
  | _ => none }
def FnExactBlockedByWrongFalsely : Prop := fnExactBlockedByRow.holds Try.pinned (OpenSpec.ofChange fnExactBlockedByWrong)

/-- 'laws.FnHeights': WHATEVER THE INPUT: true; the input reads as it did. -/
def fnHeightsSpec : ChangeSpec := { name := "fnHeights", fn := fun _ => fun
  | [d1, d2] => { results := [.lit (.bool true)], args := [d1, d2] }
  | _ => none }
def fnHeightsRow : OpenClaim := { program := "ytaekbnmddacglaa", sum := "0bd206c1798d2267c435ad9a30f9b32611b8d41bd86651269ad31efbe575708e", func := "loop.example/g00940/laws.FnHeights", spec := "fnHeights", unfollowed := true, recurses := true, apart := false }
def FnHeightsSaid : Prop := fnHeightsRow.holds Try.pinned (OpenSpec.ofChange fnHeightsSpec)

/-- ITS FALSE NEIGHBOUR: 'it returns false'. Refute it at one input. -/
def fnHeightsWrong : ChangeSpec := { name := "fnHeights", fn := fun _ => fun
  | [d1, d2] => { results := [.lit (.bool false)], args := [d1, d2] }
  | _ => none }
def FnHeightsWrongFalsely : Prop := fnHeightsRow.holds Try.pinned (OpenSpec.ofChange fnHeightsWrong)

/-- 'laws.FnSights': WHATEVER THE INPUT: true; the input reads as it did. -/
def fnSightsSpec : ChangeSpec := { name := "fnSights", fn := fun _ => fun
  | [d1, d2] => { results := [.lit (.bool true)], args := [d1, d2] }
  | _ => none }
def fnSightsRow : OpenClaim := { program := "ytaekbnmddacglaa", sum := "0bd206c1798d2267c435ad9a30f9b32611b8d41bd86651269ad31efbe575708e", func := "loop.example/g00940/laws.FnSights", spec := "fnSights", unfollowed := true, recurses := true, apart := false }
def FnSightsSaid : Prop := fnSightsRow.holds Try.pinned (OpenSpec.ofChange fnSightsSpec)

/-- ITS FALSE NEIGHBOUR: 'it returns false'. Refute it at one input. -/
def fnSightsWrong : ChangeSpec := { name := "fnSights", fn := fun _ => fun
  | [d1, d2] => { results := [.lit (.bool false)], args := [d1, d2] }
  | _ => none }
def FnSightsWrongFalsely : Prop := fnSightsRow.holds Try.pinned (OpenSpec.ofChange fnSightsWrong)

/- THE SECOND FORM. 'bulk': how many values and letters a reading holds, each counted each time it is reached (what is shared counts as often as it is met; a slice's spare places count too). A statement '..UptoSaid' is the law's where the arguments, and the package variables that the reading takes, are together of bulk at most 1048576: NARROWER than '..Said'. Prove '..Said' where nothing that the law and all that it calls make is longer than what came in: it says more and counts as full. Else prove '..UptoSaid'. A law counts once. -/
mutual
def uptoBulk {H : Type} : DataW H → Nat
  | .lit (.string bytes) => bytes.length + 1
  | .lit _ => 1
  | .nil => 1
  | .ptr d => uptoBulk d + 1
  | .slice elems spare => uptoBulkAll elems + uptoBulkAll spare + 1
  | .agg parts => uptoBulkAll parts + 1
  | .iface _ d => uptoBulk d + 1
  | .map entries => uptoBulkEntries entries + 1
  | .held _ => 1
def uptoBulkAll {H : Type} : List (DataW H) → Nat
  | [] => 0
  | d :: r => uptoBulk d + uptoBulkAll r
def uptoBulkEntries {H : Type} : List (Lit × DataW H) → Nat
  | [] => 0
  | x :: r => uptoBulkEntry x + uptoBulkEntries r
def uptoBulkEntry {H : Type} : Lit × DataW H → Nat
  | (.string bytes, d) => bytes.length + uptoBulk d + 1
  | (_, d) => uptoBulk d + 1
 end
def uptoSmall : (H : Type) → List (DataW H) → Bool := fun _ ds => decide (uptoBulkAll ds ≤ 1048576)
def OpenSpec.upto (s : _root_.Go.ChangeSpec) : _root_.Go.OpenSpec := { _root_.Go.OpenSpec.ofChange s with cond := some uptoSmall }

/-- 'laws.FnExactBulgeAt', WHERE WHAT IT READS IS OF BULK AT MOST 1048576: true; the input reads as it did. -/
def fnExactBulgeAtUptoRow : OpenClaim := { program := "ytaekbnmddacglaa", sum := "0bd206c1798d2267c435ad9a30f9b32611b8d41bd86651269ad31efbe575708e", func := "loop.example/g00940/laws.FnExactBulgeAt", spec := "fnExactBulgeAt", apart := false, narrowed := true }
def FnExactBulgeAtUptoSaid : Prop := fnExactBulgeAtUptoRow.holds Try.pinned (OpenSpec.upto fnExactBulgeAtSpec)

/-- 'laws.FnExactHorizonOf', WHERE WHAT IT READS IS OF BULK AT MOST 1048576: true; the input reads as it did. -/
def fnExactHorizonOfUptoRow : OpenClaim := { program := "ytaekbnmddacglaa", sum := "0bd206c1798d2267c435ad9a30f9b32611b8d41bd86651269ad31efbe575708e", func := "loop.example/g00940/laws.FnExactHorizonOf", spec := "fnExactHorizonOf", apart := false, narrowed := true }
def FnExactHorizonOfUptoSaid : Prop := fnExactHorizonOfUptoRow.holds Try.pinned (OpenSpec.upto fnExactHorizonOfSpec)

/-- 'laws.FnExactIsSight', WHERE WHAT IT READS IS OF BULK AT MOST 1048576: true; the input reads as it did. -/
def fnExactIsSightUptoRow : OpenClaim := { program := "ytaekbnmddacglaa", sum := "0bd206c1798d2267c435ad9a30f9b32611b8d41bd86651269ad31efbe575708e", func := "loop.example/g00940/laws.FnExactIsSight", spec := "fnExactIsSight", apart := false, narrowed := true }
def FnExactIsSightUptoSaid : Prop := fnExactIsSightUptoRow.holds Try.pinned (OpenSpec.upto fnExactIsSightSpec)

/-- 'laws.FnExactSeesAt', WHERE WHAT IT READS IS OF BULK AT MOST 1048576: true; the input reads as it did. -/
def fnExactSeesAtUptoRow : OpenClaim := { program := "ytaekbnmddacglaa", sum := "0bd206c1798d2267c435ad9a30f9b32611b8d41bd86651269ad31efbe575708e", func := "loop.example/g00940/laws.FnExactSeesAt", spec := "fnExactSeesAt", unfollowed := true, recurses := true, apart := false, narrowed := true }
def FnExactSeesAtUptoSaid : Prop := fnExactSeesAtUptoRow.holds Try.pinned (OpenSpec.upto fnExactSeesAtSpec)

/-- 'laws.FnExactSightBounds', WHERE WHAT IT READS IS OF BULK AT MOST 1048576: true; the input reads as it did. -/
def fnExactSightBoundsUptoRow : OpenClaim := { program := "ytaekbnmddacglaa", sum := "0bd206c1798d2267c435ad9a30f9b32611b8d41bd86651269ad31efbe575708e", func := "loop.example/g00940/laws.FnExactSightBounds", spec := "fnExactSightBounds", unfollowed := true, recurses := true, apart := false, narrowed := true }
def FnExactSightBoundsUptoSaid : Prop := fnExactSightBoundsUptoRow.holds Try.pinned (OpenSpec.upto fnExactSightBoundsSpec)

/-- 'laws.FnExactLeastHeight', WHERE WHAT IT READS IS OF BULK AT MOST 1048576: true; the input reads as it did. -/
def fnExactLeastHeightUptoRow : OpenClaim := { program := "ytaekbnmddacglaa", sum := "0bd206c1798d2267c435ad9a30f9b32611b8d41bd86651269ad31efbe575708e", func := "loop.example/g00940/laws.FnExactLeastHeight", spec := "fnExactLeastHeight", unfollowed := true, recurses := true, apart := false, narrowed := true }
def FnExactLeastHeightUptoSaid : Prop := fnExactLeastHeightUptoRow.holds Try.pinned (OpenSpec.upto fnExactLeastHeightSpec)

/-- 'laws.FnExactReverseSight', WHERE WHAT IT READS IS OF BULK AT MOST 1048576: true; the input reads as it did. -/
def fnExactReverseSightUptoRow : OpenClaim := { program := "ytaekbnmddacglaa", sum := "0bd206c1798d2267c435ad9a30f9b32611b8d41bd86651269ad31efbe575708e", func := "loop.example/g00940/laws.FnExactReverseSight", spec := "fnExactReverseSight", unfollowed := true, recurses := true, apart := false, narrowed := true }
def FnExactReverseSightUptoSaid : Prop := fnExactReverseSightUptoRow.holds Try.pinned (OpenSpec.upto fnExactReverseSightSpec)

/-- 'laws.FnExactLeastRaise', WHERE WHAT IT READS IS OF BULK AT MOST 1048576: true; the input reads as it did. -/
def fnExactLeastRaiseUptoRow : OpenClaim := { program := "ytaekbnmddacglaa", sum := "0bd206c1798d2267c435ad9a30f9b32611b8d41bd86651269ad31efbe575708e", func := "loop.example/g00940/laws.FnExactLeastRaise", spec := "fnExactLeastRaise", unfollowed := true, recurses := true, apart := false, narrowed := true }
def FnExactLeastRaiseUptoSaid : Prop := fnExactLeastRaiseUptoRow.holds Try.pinned (OpenSpec.upto fnExactLeastRaiseSpec)

/-- 'laws.FnExactClearance', WHERE WHAT IT READS IS OF BULK AT MOST 1048576: true; the input reads as it did. -/
def fnExactClearanceUptoRow : OpenClaim := { program := "ytaekbnmddacglaa", sum := "0bd206c1798d2267c435ad9a30f9b32611b8d41bd86651269ad31efbe575708e", func := "loop.example/g00940/laws.FnExactClearance", spec := "fnExactClearance", apart := false, narrowed := true }
def FnExactClearanceUptoSaid : Prop := fnExactClearanceUptoRow.holds Try.pinned (OpenSpec.upto fnExactClearanceSpec)

/-- 'laws.FnExactBlockedBy', WHERE WHAT IT READS IS OF BULK AT MOST 1048576: true; the input reads as it did. -/
def fnExactBlockedByUptoRow : OpenClaim := { program := "ytaekbnmddacglaa", sum := "0bd206c1798d2267c435ad9a30f9b32611b8d41bd86651269ad31efbe575708e", func := "loop.example/g00940/laws.FnExactBlockedBy", spec := "fnExactBlockedBy", apart := false, narrowed := true }
def FnExactBlockedByUptoSaid : Prop := fnExactBlockedByUptoRow.holds Try.pinned (OpenSpec.upto fnExactBlockedBySpec)

/-- 'laws.FnHeights', WHERE WHAT IT READS IS OF BULK AT MOST 1048576: true; the input reads as it did. -/
def fnHeightsUptoRow : OpenClaim := { program := "ytaekbnmddacglaa", sum := "0bd206c1798d2267c435ad9a30f9b32611b8d41bd86651269ad31efbe575708e", func := "loop.example/g00940/laws.FnHeights", spec := "fnHeights", unfollowed := true, recurses := true, apart := false, narrowed := true }
def FnHeightsUptoSaid : Prop := fnHeightsUptoRow.holds Try.pinned (OpenSpec.upto fnHeightsSpec)

/-- 'laws.FnSights', WHERE WHAT IT READS IS OF BULK AT MOST 1048576: true; the input reads as it did. -/
def fnSightsUptoRow : OpenClaim := { program := "ytaekbnmddacglaa", sum := "0bd206c1798d2267c435ad9a30f9b32611b8d41bd86651269ad31efbe575708e", func := "loop.example/g00940/laws.FnSights", spec := "fnSights", unfollowed := true, recurses := true, apart := false, narrowed := true }
def FnSightsUptoSaid : Prop := fnSightsUptoRow.holds Try.pinned (OpenSpec.upto fnSightsSpec)

end Rows
end Go.Proofs.Ytaekbnmddacglaa
