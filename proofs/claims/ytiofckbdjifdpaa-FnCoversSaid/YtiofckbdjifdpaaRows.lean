/-
  No cell of these rows narrows 'for every input' (looked for: loops, veiled, ifaces, maps, wideKeys, modest, calm, conditions, laid).
  DERIVED. THE GIVEN ROWS OF THIS SEAT. 3 by the template 'for every input the law returns true; each argument reads behind the call as it read before'; 0 by the template 'total and deterministic' (their statements: YtiofckbdjifdpaaTotals.lean).
  GIVEN WITH THE SEED: the statements are not yours to turn. If you find one false, say at which input.
  Laid BY PROGRAM, IN A SANDBOX (cutbox-rows.mjs): the forced cells as the released guide's own fill.sh prints them over the translation 1c28f75004b8b0a8… (all of the seat's roots in one cut). By AI agents, Wed Nov 11 2026. No macro, syntax, notation, axiom, sorry.
-/
import Derived.Test.YtiofckbdjifdpaaChecked
import GoSem.Claim
import GoSem.ClaimJoined
import GoSem.ClaimMapViews
import Derived.JoinedTies
import Derived.KernelRfl
namespace Go.Proofs.Ytiofckbdjifdpaa
/- THE CELL 'sum', in the pinned program and in every row, IS THE sha256 OF THE DUMP (.gsa) THAT YtiofckbdjifdpaaProg.lean LOADS. Nothing in Lean hashes anything: it is a label: what it is worth is what the hold of that sum in a sandbox is worth. -/
noncomputable def Try.pinned : Pinned := { name := "ytiofckbdjifdpaa", sum := "1c28f75004b8b0a822413b7dc80455eec247a36a57f4c0293f27e86d50268f75", checked := Try.checked }
namespace Rows
def none {H : Type} : Left H := { results := [], args := [] }

/-- 'laws.FnExactMostApart': WHATEVER THE INPUT: true; the input reads as it did. -/
def fnExactMostApartSpec : ChangeSpec := { name := "fnExactMostApart", fn := fun _ => fun
  | [d1, d2] => { results := [.lit (.bool true)], args := [d1, d2] }
  | _ => none }
def fnExactMostApartRow : OpenClaim := { program := "ytiofckbdjifdpaa", sum := "1c28f75004b8b0a822413b7dc80455eec247a36a57f4c0293f27e86d50268f75", func := "loop.example/g00940/laws.FnExactMostApart", spec := "fnExactMostApart", unfollowed := true, recurses := true, apart := false }
def FnExactMostApartSaid : Prop := fnExactMostApartRow.holds Try.pinned (OpenSpec.ofChange fnExactMostApartSpec)

/-- ITS FALSE NEIGHBOUR: 'it returns false'. Refute it at one input. -/
def fnExactMostApartWrong : ChangeSpec := { name := "fnExactMostApart", fn := fun _ => fun
  | [d1, d2] => { results := [.lit (.bool false)], args := [d1, d2] }
  | _ => none }
def FnExactMostApartWrongFalsely : Prop := fnExactMostApartRow.holds Try.pinned (OpenSpec.ofChange fnExactMostApartWrong)

/-- 'laws.FnCertificates': WHATEVER THE INPUT: true; the input reads as it did. -/
def fnCertificatesSpec : ChangeSpec := { name := "fnCertificates", fn := fun _ => fun
  | [d1, d2] => { results := [.lit (.bool true)], args := [d1, d2] }
  | _ => none }
def fnCertificatesRow : OpenClaim := { program := "ytiofckbdjifdpaa", sum := "1c28f75004b8b0a822413b7dc80455eec247a36a57f4c0293f27e86d50268f75", func := "loop.example/g00940/laws.FnCertificates", spec := "fnCertificates", unfollowed := true, recurses := true, apart := false }
def FnCertificatesSaid : Prop := fnCertificatesRow.holds Try.pinned (OpenSpec.ofChange fnCertificatesSpec)

/-- ITS FALSE NEIGHBOUR: 'it returns false'. Refute it at one input. -/
def fnCertificatesWrong : ChangeSpec := { name := "fnCertificates", fn := fun _ => fun
  | [d1, d2] => { results := [.lit (.bool false)], args := [d1, d2] }
  | _ => none }
def FnCertificatesWrongFalsely : Prop := fnCertificatesRow.holds Try.pinned (OpenSpec.ofChange fnCertificatesWrong)

/-- 'laws.FnCovers': WHATEVER THE INPUT: true; the input reads as it did. -/
def fnCoversSpec : ChangeSpec := { name := "fnCovers", fn := fun _ => fun
  | [d1, d2] => { results := [.lit (.bool true)], args := [d1, d2] }
  | _ => none }
def fnCoversRow : OpenClaim := { program := "ytiofckbdjifdpaa", sum := "1c28f75004b8b0a822413b7dc80455eec247a36a57f4c0293f27e86d50268f75", func := "loop.example/g00940/laws.FnCovers", spec := "fnCovers", unfollowed := true, recurses := true, apart := false }
def FnCoversSaid : Prop := fnCoversRow.holds Try.pinned (OpenSpec.ofChange fnCoversSpec)

/-- ITS FALSE NEIGHBOUR: 'it returns false'. Refute it at one input. -/
def fnCoversWrong : ChangeSpec := { name := "fnCovers", fn := fun _ => fun
  | [d1, d2] => { results := [.lit (.bool false)], args := [d1, d2] }
  | _ => none }
def FnCoversWrongFalsely : Prop := fnCoversRow.holds Try.pinned (OpenSpec.ofChange fnCoversWrong)

/- THE SECOND FORM. 'bulk': how many values and letters a reading holds, each counted each time it is reached (what is shared counts as often as it is met; a slice's spare places count too). A statement '..UptoSaid' is the law's where the arguments, and the package variables that the reading takes, are together of bulk at most 1048576: NARROWER than '..Said'. Prove '..Said' where nothing that the law and all that it calls make is longer than what came in: it says more and counts as full. Else prove '..UptoSaid'. A law counts once. -/
mutual
def uptoBulk {H : Type} : DataW H → Nat
  | .lit (.string bytes) => bytes.length + 1
  | .lit _ => 1
  | .nil => 1
  | .ptr d => uptoBulk d + 1
  | .slice elems spare => uptoBulkAll elems + uptoBulkAll spare + 1
  | .agg parts => uptoBulkAll parts + 1
  | .iface _ d => uptoBulk d + 1
  | .map entries => uptoBulkEntries entries + 1
  | .held _ => 1
def uptoBulkAll {H : Type} : List (DataW H) → Nat
  | [] => 0
  | d :: r => uptoBulk d + uptoBulkAll r
def uptoBulkEntries {H : Type} : List (Lit × DataW H) → Nat
  | [] => 0
  | x :: r => uptoBulkEntry x + uptoBulkEntries r
def uptoBulkEntry {H : Type} : Lit × DataW H → Nat
  | (.string bytes, d) => bytes.length + uptoBulk d + 1
  | (_, d) => uptoBulk d + 1
 end
def uptoSmall : (H : Type) → List (DataW H) → Bool := fun _ ds => decide (uptoBulkAll ds ≤ 1048576)
def OpenSpec.upto (s : _root_.Go.ChangeSpec) : _root_.Go.OpenSpec := { _root_.Go.OpenSpec.ofChange s with cond := some uptoSmall }

/-- 'laws.FnExactMostApart', WHERE WHAT IT READS IS OF BULK AT MOST 1048576: true; the input reads as it did. -/
def fnExactMostApartUptoRow : OpenClaim := { program := "ytiofckbdjifdpaa", sum := "1c28f75004b8b0a822413b7dc80455eec247a36a57f4c0293f27e86d50268f75", func := "loop.example/g00940/laws.FnExactMostApart", spec := "fnExactMostApart", unfollowed := true, recurses := true, apart := false, narrowed := true }
def FnExactMostApartUptoSaid : Prop := fnExactMostApartUptoRow.holds Try.pinned (OpenSpec.upto fnExactMostApartSpec)

/-- 'laws.FnCertificates', WHERE WHAT IT READS IS OF BULK AT MOST 1048576: true; the input reads as it did. -/
def fnCertificatesUptoRow : OpenClaim := { program := "ytiofckbdjifdpaa", sum := "1c28f75004b8b0a822413b7dc80455eec247a36a57f4c0293f27e86d50268f75", func := "loop.example/g00940/laws.FnCertificates", spec := "fnCertificates", unfollowed := true, recurses := true, apart := false, narrowed := true }
def FnCertificatesUptoSaid : Prop := fnCertificatesUptoRow.holds Try.pinned (OpenSpec.upto fnCertificatesSpec)

/-- 'laws.FnCovers', WHERE WHAT IT READS IS OF BULK AT MOST 1048576: true; the input reads as it did. -/
def fnCoversUptoRow : OpenClaim := { program := "ytiofckbdjifdpaa", sum := "1c28f75004b8b0a822413b7dc80455eec247a36a57f4c0293f27e86d50268f75", func := "loop.example/g00940/laws.FnCovers", spec := "fnCovers", unfollowed := true, recurses := true, apart := false, narrowed := true }
def FnCoversUptoSaid : Prop := fnCoversUptoRow.holds Try.pinned (OpenSpec.upto fnCoversSpec)

end Rows
end Go.Proofs.Ytiofckbdjifdpaa
