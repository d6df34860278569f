/-
  No cell of these rows narrows 'for every input' (looked for: loops, veiled, ifaces, maps, wideKeys, modest, calm, conditions, laid).
  DERIVED. THE GIVEN ROWS OF THIS SEAT. 8 by the template 'for every input the law returns true; each argument reads behind the call as it read before'; 0 by the template 'total and deterministic' (their statements: YtngnagicgheenaaTotals.lean).
  GIVEN WITH THE SEED: the statements are not yours to turn. If you find one false, say at which input.
  Laid BY PROGRAM, IN A SANDBOX (cutbox-rows.mjs): the forced cells as the released guide's own fill.sh prints them over the translation e0e263860e49fb84… (all of the seat's roots in one cut). By AI agents, Wed Nov 11 2026. No macro, syntax, notation, axiom, sorry.
-/
import Derived.Test.YtngnagicgheenaaChecked
import GoSem.Claim
import GoSem.ClaimJoined
import GoSem.ClaimMapViews
import Derived.JoinedTies
import Derived.KernelRfl
namespace Go.Proofs.Ytngnagicgheenaa
/- THE CELL 'sum', in the pinned program and in every row, IS THE sha256 OF THE DUMP (.gsa) THAT YtngnagicgheenaaProg.lean LOADS. Nothing in Lean hashes anything: it is a label: what it is worth is what the hold of that sum in a sandbox is worth. -/
noncomputable def Try.pinned : Pinned := { name := "ytngnagicgheenaa", sum := "e0e263860e49fb842a61c9b2628c4aac2f1e1b8fc75f9ff28f5bbd94720b0f84", checked := Try.checked }
namespace Rows
def none {H : Type} : Left H := { results := [], args := [] }

/-- 'laws.FnExactAreFogs': WHATEVER THE INPUT: true; the input reads as it did. -/
def fnExactAreFogsSpec : ChangeSpec := { name := "fnExactAreFogs", fn := fun _ => fun
  | [d1, d2] => { results := [.lit (.bool true)], args := [d1, d2] }
  | _ => none }
def fnExactAreFogsRow : OpenClaim := { program := "ytngnagicgheenaa", sum := "e0e263860e49fb842a61c9b2628c4aac2f1e1b8fc75f9ff28f5bbd94720b0f84", func := "loop.example/g00940/laws.FnExactAreFogs", spec := "fnExactAreFogs", apart := false }
def FnExactAreFogsSaid : Prop := fnExactAreFogsRow.holds Try.pinned (OpenSpec.ofChange fnExactAreFogsSpec)

/-- ITS FALSE NEIGHBOUR: 'it returns false'. Refute it at one input. -/
def fnExactAreFogsWrong : ChangeSpec := { name := "fnExactAreFogs", fn := fun _ => fun
  | [d1, d2] => { results := [.lit (.bool false)], args := [d1, d2] }
  | _ => none }
def FnExactAreFogsWrongFalsely : Prop := fnExactAreFogsRow.holds Try.pinned (OpenSpec.ofChange fnExactAreFogsWrong)

/-- 'laws.FnExactEarliestStart': WHATEVER THE INPUT: true; the input reads as it did. -/
def fnExactEarliestStartSpec : ChangeSpec := { name := "fnExactEarliestStart", fn := fun _ => fun
  | [d1, d2, d3, d4, d5] => { results := [.lit (.bool true)], args := [d1, d2, d3, d4, d5] }
  | _ => none }
def fnExactEarliestStartRow : OpenClaim := { program := "ytngnagicgheenaa", sum := "e0e263860e49fb842a61c9b2628c4aac2f1e1b8fc75f9ff28f5bbd94720b0f84", func := "loop.example/g00940/laws.FnExactEarliestStart", spec := "fnExactEarliestStart", apart := false }
def FnExactEarliestStartSaid : Prop := fnExactEarliestStartRow.holds Try.pinned (OpenSpec.ofChange fnExactEarliestStartSpec)

/-- ITS FALSE NEIGHBOUR: 'it returns false'. Refute it at one input. -/
def fnExactEarliestStartWrong : ChangeSpec := { name := "fnExactEarliestStart", fn := fun _ => fun
  | [d1, d2, d3, d4, d5] => { results := [.lit (.bool false)], args := [d1, d2, d3, d4, d5] }
  | _ => none }
def FnExactEarliestStartWrongFalsely : Prop := fnExactEarliestStartRow.holds Try.pinned (OpenSpec.ofChange fnExactEarliestStartWrong)

/-- 'laws.FnExactNextClear': WHATEVER THE INPUT: true; the input reads as it did. -/
def fnExactNextClearSpec : ChangeSpec := { name := "fnExactNextClear", fn := fun _ => fun
  | [d1, d2, d3, d4] => { results := [.lit (.bool true)], args := [d1, d2, d3, d4] }
  | _ => none }
def fnExactNextClearRow : OpenClaim := { program := "ytngnagicgheenaa", sum := "e0e263860e49fb842a61c9b2628c4aac2f1e1b8fc75f9ff28f5bbd94720b0f84", func := "loop.example/g00940/laws.FnExactNextClear", spec := "fnExactNextClear", apart := false }
def FnExactNextClearSaid : Prop := fnExactNextClearRow.holds Try.pinned (OpenSpec.ofChange fnExactNextClearSpec)

/-- ITS FALSE NEIGHBOUR: 'it returns false'. Refute it at one input. -/
def fnExactNextClearWrong : ChangeSpec := { name := "fnExactNextClear", fn := fun _ => fun
  | [d1, d2, d3, d4] => { results := [.lit (.bool false)], args := [d1, d2, d3, d4] }
  | _ => none }
def FnExactNextClearWrongFalsely : Prop := fnExactNextClearRow.holds Try.pinned (OpenSpec.ofChange fnExactNextClearWrong)

/-- 'laws.FnExactIsClear': WHATEVER THE INPUT: true; the input reads as it did. -/
def fnExactIsClearSpec : ChangeSpec := { name := "fnExactIsClear", fn := fun _ => fun
  | [d1, d2, d3, d4] => { results := [.lit (.bool true)], args := [d1, d2, d3, d4] }
  | _ => none }
def fnExactIsClearRow : OpenClaim := { program := "ytngnagicgheenaa", sum := "e0e263860e49fb842a61c9b2628c4aac2f1e1b8fc75f9ff28f5bbd94720b0f84", func := "loop.example/g00940/laws.FnExactIsClear", spec := "fnExactIsClear", unfollowed := true, recurses := true, apart := false }
def FnExactIsClearSaid : Prop := fnExactIsClearRow.holds Try.pinned (OpenSpec.ofChange fnExactIsClearSpec)

/-- ITS FALSE NEIGHBOUR: 'it returns false'. Refute it at one input. -/
def fnExactIsClearWrong : ChangeSpec := { name := "fnExactIsClear", fn := fun _ => fun
  | [d1, d2, d3, d4] => { results := [.lit (.bool false)], args := [d1, d2, d3, d4] }
  | _ => none }
def FnExactIsClearWrongFalsely : Prop := fnExactIsClearRow.holds Try.pinned (OpenSpec.ofChange fnExactIsClearWrong)

/-- 'laws.FnExactFogSeconds': WHATEVER THE INPUT: true; the input reads as it did. -/
def fnExactFogSecondsSpec : ChangeSpec := { name := "fnExactFogSeconds", fn := fun _ => fun
  | [d1, d2, d3, d4, d5] => { results := [.lit (.bool true)], args := [d1, d2, d3, d4, d5] }
  | _ => none }
def fnExactFogSecondsRow : OpenClaim := { program := "ytngnagicgheenaa", sum := "e0e263860e49fb842a61c9b2628c4aac2f1e1b8fc75f9ff28f5bbd94720b0f84", func := "loop.example/g00940/laws.FnExactFogSeconds", spec := "fnExactFogSeconds", apart := false }
def FnExactFogSecondsSaid : Prop := fnExactFogSecondsRow.holds Try.pinned (OpenSpec.ofChange fnExactFogSecondsSpec)

/-- ITS FALSE NEIGHBOUR: 'it returns false'. Refute it at one input. -/
def fnExactFogSecondsWrong : ChangeSpec := { name := "fnExactFogSeconds", fn := fun _ => fun
  | [d1, d2, d3, d4, d5] => { results := [.lit (.bool false)], args := [d1, d2, d3, d4, d5] }
  | _ => none }
def FnExactFogSecondsWrongFalsely : Prop := fnExactFogSecondsRow.holds Try.pinned (OpenSpec.ofChange fnExactFogSecondsWrong)

/-- 'laws.FnExactFoggiestLink': WHATEVER THE INPUT: true; the input reads as it did. -/
def fnExactFoggiestLinkSpec : ChangeSpec := { name := "fnExactFoggiestLink", fn := fun _ => fun
  | [d1, d2] => { results := [.lit (.bool true)], args := [d1, d2] }
  | _ => none }
def fnExactFoggiestLinkRow : OpenClaim := { program := "ytngnagicgheenaa", sum := "e0e263860e49fb842a61c9b2628c4aac2f1e1b8fc75f9ff28f5bbd94720b0f84", func := "loop.example/g00940/laws.FnExactFoggiestLink", spec := "fnExactFoggiestLink", apart := false }
def FnExactFoggiestLinkSaid : Prop := fnExactFoggiestLinkRow.holds Try.pinned (OpenSpec.ofChange fnExactFoggiestLinkSpec)

/-- ITS FALSE NEIGHBOUR: 'it returns false'. Refute it at one input. -/
def fnExactFoggiestLinkWrong : ChangeSpec := { name := "fnExactFoggiestLink", fn := fun _ => fun
  | [d1, d2] => { results := [.lit (.bool false)], args := [d1, d2] }
  | _ => none }
def FnExactFoggiestLinkWrongFalsely : Prop := fnExactFoggiestLinkRow.holds Try.pinned (OpenSpec.ofChange fnExactFoggiestLinkWrong)

/-- 'laws.FnExactFoggyLinks': WHATEVER THE INPUT: true; the input reads as it did. -/
def fnExactFoggyLinksSpec : ChangeSpec := { name := "fnExactFoggyLinks", fn := fun _ => fun
  | [d1, d2, d3] => { results := [.lit (.bool true)], args := [d1, d2, d3] }
  | _ => none }
def fnExactFoggyLinksRow : OpenClaim := { program := "ytngnagicgheenaa", sum := "e0e263860e49fb842a61c9b2628c4aac2f1e1b8fc75f9ff28f5bbd94720b0f84", func := "loop.example/g00940/laws.FnExactFoggyLinks", spec := "fnExactFoggyLinks", unfollowed := true, recurses := true, apart := false }
def FnExactFoggyLinksSaid : Prop := fnExactFoggyLinksRow.holds Try.pinned (OpenSpec.ofChange fnExactFoggyLinksSpec)

/-- ITS FALSE NEIGHBOUR: 'it returns false'. Refute it at one input. -/
def fnExactFoggyLinksWrong : ChangeSpec := { name := "fnExactFoggyLinks", fn := fun _ => fun
  | [d1, d2, d3] => { results := [.lit (.bool false)], args := [d1, d2, d3] }
  | _ => none }
def FnExactFoggyLinksWrongFalsely : Prop := fnExactFoggyLinksRow.holds Try.pinned (OpenSpec.ofChange fnExactFoggyLinksWrong)

/-- 'laws.FnExactJoinedAt': WHATEVER THE INPUT: true; the input reads as it did. -/
def fnExactJoinedAtSpec : ChangeSpec := { name := "fnExactJoinedAt", fn := fun _ => fun
  | [d1, d2, d3] => { results := [.lit (.bool true)], args := [d1, d2, d3] }
  | _ => none }
def fnExactJoinedAtRow : OpenClaim := { program := "ytngnagicgheenaa", sum := "e0e263860e49fb842a61c9b2628c4aac2f1e1b8fc75f9ff28f5bbd94720b0f84", func := "loop.example/g00940/laws.FnExactJoinedAt", spec := "fnExactJoinedAt", unfollowed := true, recurses := true, apart := false }
def FnExactJoinedAtSaid : Prop := fnExactJoinedAtRow.holds Try.pinned (OpenSpec.ofChange fnExactJoinedAtSpec)

/-- ITS FALSE NEIGHBOUR: 'it returns false'. Refute it at one input. -/
def fnExactJoinedAtWrong : ChangeSpec := { name := "fnExactJoinedAt", fn := fun _ => fun
  | [d1, d2, d3] => { results := [.lit (.bool false)], args := [d1, d2, d3] }
  | _ => none }
def FnExactJoinedAtWrongFalsely : Prop := fnExactJoinedAtRow.holds Try.pinned (OpenSpec.ofChange fnExactJoinedAtWrong)

/- THE SECOND FORM. 'bulk': how many values and letters a reading holds, each counted each time it is reached (what is shared counts as often as it is met; a slice's spare places count too). A statement '..UptoSaid' is the law's where the arguments, and the package variables that the reading takes, are together of bulk at most 1048576: NARROWER than '..Said'. Prove '..Said' where nothing that the law and all that it calls make is longer than what came in: it says more and counts as full. Else prove '..UptoSaid'. A law counts once. -/
mutual
def uptoBulk {H : Type} : DataW H → Nat
  | .lit (.string bytes) => bytes.length + 1
  | .lit _ => 1
  | .nil => 1
  | .ptr d => uptoBulk d + 1
  | .slice elems spare => uptoBulkAll elems + uptoBulkAll spare + 1
  | .agg parts => uptoBulkAll parts + 1
  | .iface _ d => uptoBulk d + 1
  | .map entries => uptoBulkEntries entries + 1
  | .held _ => 1
def uptoBulkAll {H : Type} : List (DataW H) → Nat
  | [] => 0
  | d :: r => uptoBulk d + uptoBulkAll r
def uptoBulkEntries {H : Type} : List (Lit × DataW H) → Nat
  | [] => 0
  | x :: r => uptoBulkEntry x + uptoBulkEntries r
def uptoBulkEntry {H : Type} : Lit × DataW H → Nat
  | (.string bytes, d) => bytes.length + uptoBulk d + 1
  | (_, d) => uptoBulk d + 1
 end
def uptoSmall : (H : Type) → List (DataW H) → Bool := fun _ ds => decide (uptoBulkAll ds ≤ 1048576)
def OpenSpec.upto (s : _root_.Go.ChangeSpec) : _root_.Go.OpenSpec := { _root_.Go.OpenSpec.ofChange s with cond := some uptoSmall }

/-- 'laws.FnExactAreFogs', WHERE WHAT IT READS IS OF BULK AT MOST 1048576: true; the input reads as it did. -/
def fnExactAreFogsUptoRow : OpenClaim := { program := "ytngnagicgheenaa", sum := "e0e263860e49fb842a61c9b2628c4aac2f1e1b8fc75f9ff28f5bbd94720b0f84", func := "loop.example/g00940/laws.FnExactAreFogs", spec := "fnExactAreFogs", apart := false, narrowed := true }
def FnExactAreFogsUptoSaid : Prop := fnExactAreFogsUptoRow.holds Try.pinned (OpenSpec.upto fnExactAreFogsSpec)

/-- 'laws.FnExactEarliestStart', WHERE WHAT IT READS IS OF BULK AT MOST 1048576: true; the input reads as it did. -/
def fnExactEarliestStartUptoRow : OpenClaim := { program := "ytngnagicgheenaa", sum := "e0e263860e49fb842a61c9b2628c4aac2f1e1b8fc75f9ff28f5bbd94720b0f84", func := "loop.example/g00940/laws.FnExactEarliestStart", spec := "fnExactEarliestStart", apart := false, narrowed := true }
def FnExactEarliestStartUptoSaid : Prop := fnExactEarliestStartUptoRow.holds Try.pinned (OpenSpec.upto fnExactEarliestStartSpec)

/-- 'laws.FnExactNextClear', WHERE WHAT IT READS IS OF BULK AT MOST 1048576: true; the input reads as it did. -/
def fnExactNextClearUptoRow : OpenClaim := { program := "ytngnagicgheenaa", sum := "e0e263860e49fb842a61c9b2628c4aac2f1e1b8fc75f9ff28f5bbd94720b0f84", func := "loop.example/g00940/laws.FnExactNextClear", spec := "fnExactNextClear", apart := false, narrowed := true }
def FnExactNextClearUptoSaid : Prop := fnExactNextClearUptoRow.holds Try.pinned (OpenSpec.upto fnExactNextClearSpec)

/-- 'laws.FnExactIsClear', WHERE WHAT IT READS IS OF BULK AT MOST 1048576: true; the input reads as it did. -/
def fnExactIsClearUptoRow : OpenClaim := { program := "ytngnagicgheenaa", sum := "e0e263860e49fb842a61c9b2628c4aac2f1e1b8fc75f9ff28f5bbd94720b0f84", func := "loop.example/g00940/laws.FnExactIsClear", spec := "fnExactIsClear", unfollowed := true, recurses := true, apart := false, narrowed := true }
def FnExactIsClearUptoSaid : Prop := fnExactIsClearUptoRow.holds Try.pinned (OpenSpec.upto fnExactIsClearSpec)

/-- 'laws.FnExactFogSeconds', WHERE WHAT IT READS IS OF BULK AT MOST 1048576: true; the input reads as it did. -/
def fnExactFogSecondsUptoRow : OpenClaim := { program := "ytngnagicgheenaa", sum := "e0e263860e49fb842a61c9b2628c4aac2f1e1b8fc75f9ff28f5bbd94720b0f84", func := "loop.example/g00940/laws.FnExactFogSeconds", spec := "fnExactFogSeconds", apart := false, narrowed := true }
def FnExactFogSecondsUptoSaid : Prop := fnExactFogSecondsUptoRow.holds Try.pinned (OpenSpec.upto fnExactFogSecondsSpec)

/-- 'laws.FnExactFoggiestLink', WHERE WHAT IT READS IS OF BULK AT MOST 1048576: true; the input reads as it did. -/
def fnExactFoggiestLinkUptoRow : OpenClaim := { program := "ytngnagicgheenaa", sum := "e0e263860e49fb842a61c9b2628c4aac2f1e1b8fc75f9ff28f5bbd94720b0f84", func := "loop.example/g00940/laws.FnExactFoggiestLink", spec := "fnExactFoggiestLink", apart := false, narrowed := true }
def FnExactFoggiestLinkUptoSaid : Prop := fnExactFoggiestLinkUptoRow.holds Try.pinned (OpenSpec.upto fnExactFoggiestLinkSpec)

/-- 'laws.FnExactFoggyLinks', WHERE WHAT IT READS IS OF BULK AT MOST 1048576: true; the input reads as it did. -/
def fnExactFoggyLinksUptoRow : OpenClaim := { program := "ytngnagicgheenaa", sum := "e0e263860e49fb842a61c9b2628c4aac2f1e1b8fc75f9ff28f5bbd94720b0f84", func := "loop.example/g00940/laws.FnExactFoggyLinks", spec := "fnExactFoggyLinks", unfollowed := true, recurses := true, apart := false, narrowed := true }
def FnExactFoggyLinksUptoSaid : Prop := fnExactFoggyLinksUptoRow.holds Try.pinned (OpenSpec.upto fnExactFoggyLinksSpec)

/-- 'laws.FnExactJoinedAt', WHERE WHAT IT READS IS OF BULK AT MOST 1048576: true; the input reads as it did. -/
def fnExactJoinedAtUptoRow : OpenClaim := { program := "ytngnagicgheenaa", sum := "e0e263860e49fb842a61c9b2628c4aac2f1e1b8fc75f9ff28f5bbd94720b0f84", func := "loop.example/g00940/laws.FnExactJoinedAt", spec := "fnExactJoinedAt", unfollowed := true, recurses := true, apart := false, narrowed := true }
def FnExactJoinedAtUptoSaid : Prop := fnExactJoinedAtUptoRow.holds Try.pinned (OpenSpec.upto fnExactJoinedAtSpec)

end Rows
end Go.Proofs.Ytngnagicgheenaa
