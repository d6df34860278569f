/-
  No cell of these rows narrows 'for every input' (looked for: loops, veiled, ifaces, maps, wideKeys, modest, calm, conditions, laid).
  DERIVED. THE GIVEN ROWS OF THIS SEAT. 3 by the template 'for every input the law returns true; each argument reads behind the call as it read before'; 0 by the template 'total and deterministic' (their statements: YtickoloadgnenaaTotals.lean).
  GIVEN WITH THE SEED: the statements are not yours to turn. If you find one false, say at which input.
  Laid BY PROGRAM, IN A SANDBOX (cutbox-rows.mjs): the forced cells as the released guide's own fill.sh prints them over the translation de98ee17d8f5a49a… (all of the seat's roots in one cut). By AI agents, Wed Nov 11 2026. No macro, syntax, notation, axiom, sorry.
-/
import Derived.Test.YtickoloadgnenaaChecked
import GoSem.Claim
import GoSem.ClaimJoined
import GoSem.ClaimMapViews
import Derived.JoinedTies
import Derived.KernelRfl
namespace Go.Proofs.Ytickoloadgnenaa
/- THE CELL 'sum', in the pinned program and in every row, IS THE sha256 OF THE DUMP (.gsa) THAT YtickoloadgnenaaProg.lean LOADS. Nothing in Lean hashes anything: it is a label: what it is worth is what the hold of that sum in a sandbox is worth. -/
noncomputable def Try.pinned : Pinned := { name := "ytickoloadgnenaa", sum := "de98ee17d8f5a49a5e8daea2cbe398f4662b35d300c68c0fe1ddf60b6919624e", checked := Try.checked }
namespace Rows
def none {H : Type} : Left H := { results := [], args := [] }

/-- 'laws.FnExactLeastHeight': WHATEVER THE INPUT: true; the input reads as it did. -/
def fnExactLeastHeightSpec : ChangeSpec := { name := "fnExactLeastHeight", fn := fun _ => fun
  | [d1, d2] => { results := [.lit (.bool true)], args := [d1, d2] }
  | _ => none }
def fnExactLeastHeightRow : OpenClaim := { program := "ytickoloadgnenaa", sum := "de98ee17d8f5a49a5e8daea2cbe398f4662b35d300c68c0fe1ddf60b6919624e", func := "loop.example/g00940/laws.FnExactLeastHeight", spec := "fnExactLeastHeight", unfollowed := true, recurses := true, apart := false }
def FnExactLeastHeightSaid : Prop := fnExactLeastHeightRow.holds Try.pinned (OpenSpec.ofChange fnExactLeastHeightSpec)

/-- ITS FALSE NEIGHBOUR: 'it returns false'. Refute it at one input. -/
def fnExactLeastHeightWrong : ChangeSpec := { name := "fnExactLeastHeight", fn := fun _ => fun
  | [d1, d2] => { results := [.lit (.bool false)], args := [d1, d2] }
  | _ => none }
def FnExactLeastHeightWrongFalsely : Prop := fnExactLeastHeightRow.holds Try.pinned (OpenSpec.ofChange fnExactLeastHeightWrong)

/-- 'laws.FnExactLeastRaise': WHATEVER THE INPUT: true; the input reads as it did. -/
def fnExactLeastRaiseSpec : ChangeSpec := { name := "fnExactLeastRaise", fn := fun _ => fun
  | [d1, d2] => { results := [.lit (.bool true)], args := [d1, d2] }
  | _ => none }
def fnExactLeastRaiseRow : OpenClaim := { program := "ytickoloadgnenaa", sum := "de98ee17d8f5a49a5e8daea2cbe398f4662b35d300c68c0fe1ddf60b6919624e", func := "loop.example/g00940/laws.FnExactLeastRaise", spec := "fnExactLeastRaise", unfollowed := true, recurses := true, apart := false }
def FnExactLeastRaiseSaid : Prop := fnExactLeastRaiseRow.holds Try.pinned (OpenSpec.ofChange fnExactLeastRaiseSpec)

/-- ITS FALSE NEIGHBOUR: 'it returns false'. Refute it at one input. -/
def fnExactLeastRaiseWrong : ChangeSpec := { name := "fnExactLeastRaise", fn := fun _ => fun
  | [d1, d2] => { results := [.lit (.bool false)], args := [d1, d2] }
  | _ => none }
def FnExactLeastRaiseWrongFalsely : Prop := fnExactLeastRaiseRow.holds Try.pinned (OpenSpec.ofChange fnExactLeastRaiseWrong)

/-- 'laws.FnExactClearance': WHATEVER THE INPUT: true; the input reads as it did. -/
def fnExactClearanceSpec : ChangeSpec := { name := "fnExactClearance", fn := fun _ => fun
  | [d1, d2] => { results := [.lit (.bool true)], args := [d1, d2] }
  | _ => none }
def fnExactClearanceRow : OpenClaim := { program := "ytickoloadgnenaa", sum := "de98ee17d8f5a49a5e8daea2cbe398f4662b35d300c68c0fe1ddf60b6919624e", func := "loop.example/g00940/laws.FnExactClearance", spec := "fnExactClearance", apart := false }
def FnExactClearanceSaid : Prop := fnExactClearanceRow.holds Try.pinned (OpenSpec.ofChange fnExactClearanceSpec)

/-- ITS FALSE NEIGHBOUR: 'it returns false'. Refute it at one input. -/
def fnExactClearanceWrong : ChangeSpec := { name := "fnExactClearance", fn := fun _ => fun
  | [d1, d2] => { results := [.lit (.bool false)], args := [d1, d2] }
  | _ => none }
def FnExactClearanceWrongFalsely : Prop := fnExactClearanceRow.holds Try.pinned (OpenSpec.ofChange fnExactClearanceWrong)

/- THE SECOND FORM. 'bulk': how many values and letters a reading holds, each counted each time it is reached (what is shared counts as often as it is met; a slice's spare places count too). A statement '..UptoSaid' is the law's where the arguments, and the package variables that the reading takes, are together of bulk at most 1048576: NARROWER than '..Said'. Prove '..Said' where nothing that the law and all that it calls make is longer than what came in: it says more and counts as full. Else prove '..UptoSaid'. A law counts once. -/
mutual
def uptoBulk {H : Type} : DataW H → Nat
  | .lit (.string bytes) => bytes.length + 1
  | .lit _ => 1
  | .nil => 1
  | .ptr d => uptoBulk d + 1
  | .slice elems spare => uptoBulkAll elems + uptoBulkAll spare + 1
  | .agg parts => uptoBulkAll parts + 1
  | .iface _ d => uptoBulk d + 1
  | .map entries => uptoBulkEntries entries + 1
  | .held _ => 1
def uptoBulkAll {H : Type} : List (DataW H) → Nat
  | [] => 0
  | d :: r => uptoBulk d + uptoBulkAll r
def uptoBulkEntries {H : Type} : List (Lit × DataW H) → Nat
  | [] => 0
  | x :: r => uptoBulkEntry x + uptoBulkEntries r
def uptoBulkEntry {H : Type} : Lit × DataW H → Nat
  | (.string bytes, d) => bytes.length + uptoBulk d + 1
  | (_, d) => uptoBulk d + 1
 end
def uptoSmall : (H : Type) → List (DataW H) → Bool := fun _ ds => decide (uptoBulkAll ds ≤ 1048576)
def OpenSpec.upto (s : _root_.Go.ChangeSpec) : _root_.Go.OpenSpec := { _root_.Go.OpenSpec.ofChange s with cond := some uptoSmall }

/-- 'laws.FnExactLeastHeight', WHERE WHAT IT READS IS OF BULK AT MOST 1048576: true; the input reads as it did. -/
def fnExactLeastHeightUptoRow : OpenClaim := { program := "ytickoloadgnenaa", sum := "de98ee17d8f5a49a5e8daea2cbe398f4662b35d300c68c0fe1ddf60b6919624e", func := "loop.example/g00940/laws.FnExactLeastHeight", spec := "fnExactLeastHeight", unfollowed := true, recurses := true, apart := false, narrowed := true }
def FnExactLeastHeightUptoSaid : Prop := fnExactLeastHeightUptoRow.holds Try.pinned (OpenSpec.upto fnExactLeastHeightSpec)

/-- 'laws.FnExactLeastRaise', WHERE WHAT IT READS IS OF BULK AT MOST 1048576: true; the input reads as it did. -/
def fnExactLeastRaiseUptoRow : OpenClaim := { program := "ytickoloadgnenaa", sum := "de98ee17d8f5a49a5e8daea2cbe398f4662b35d300c68c0fe1ddf60b6919624e", func := "loop.example/g00940/laws.FnExactLeastRaise", spec := "fnExactLeastRaise", unfollowed := true, recurses := true, apart := false, narrowed := true }
def FnExactLeastRaiseUptoSaid : Prop := fnExactLeastRaiseUptoRow.holds Try.pinned (OpenSpec.upto fnExactLeastRaiseSpec)

/-- 'laws.FnExactClearance', WHERE WHAT IT READS IS OF BULK AT MOST 1048576: true; the input reads as it did. -/
def fnExactClearanceUptoRow : OpenClaim := { program := "ytickoloadgnenaa", sum := "de98ee17d8f5a49a5e8daea2cbe398f4662b35d300c68c0fe1ddf60b6919624e", func := "loop.example/g00940/laws.FnExactClearance", spec := "fnExactClearance", apart := false, narrowed := true }
def FnExactClearanceUptoSaid : Prop := fnExactClearanceUptoRow.holds Try.pinned (OpenSpec.upto fnExactClearanceSpec)

end Rows
end Go.Proofs.Ytickoloadgnenaa
