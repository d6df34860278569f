/-
  No cell of these rows narrows 'for every input' (looked for: loops, veiled, ifaces, maps, wideKeys, modest, calm, conditions, laid).
  DERIVED. THE GIVEN ROWS OF THIS SEAT. 4 by the template 'for every input the law returns true; each argument reads behind the call as it read before'; 0 by the template 'total and deterministic' (their statements: YtiipjlcmekakaaaTotals.lean).
  GIVEN WITH THE SEED: the statements are not yours to turn. If you find one false, say at which input.
  Laid BY PROGRAM, IN A SANDBOX (cutbox-rows.mjs): the forced cells as the released guide's own fill.sh prints them over the translation 1b4acb58356c5676… (all of the seat's roots in one cut). By AI agents, Wed Nov 11 2026. No macro, syntax, notation, axiom, sorry.
-/
import Derived.Test.YtiipjlcmekakaaaChecked
import GoSem.Claim
import GoSem.ClaimJoined
import GoSem.ClaimMapViews
import Derived.JoinedTies
import Derived.KernelRfl
namespace Go.Proofs.Ytiipjlcmekakaaa
/- THE CELL 'sum', in the pinned program and in every row, IS THE sha256 OF THE DUMP (.gsa) THAT YtiipjlcmekakaaaProg.lean LOADS. Nothing in Lean hashes anything: it is a label: what it is worth is what the hold of that sum in a sandbox is worth. -/
noncomputable def Try.pinned : Pinned := { name := "ytiipjlcmekakaaa", sum := "1b4acb58356c56762d20f469cc1b21252171a31a2198c2c117e5c2085bb3aac9", checked := Try.checked }
namespace Rows
def none {H : Type} : Left H := { results := [], args := [] }

/-- 'laws.FnNetChanges': WHATEVER THE INPUT: true; the input reads as it did. -/
def fnNetChangesSpec : ChangeSpec := { name := "fnNetChanges", fn := fun _ => fun
  | [d1, d2] => { results := [.lit (.bool true)], args := [d1, d2] }
  | _ => none }
def fnNetChangesRow : OpenClaim := { program := "ytiipjlcmekakaaa", sum := "1b4acb58356c56762d20f469cc1b21252171a31a2198c2c117e5c2085bb3aac9", func := "loop.example/g00940/laws.FnNetChanges", spec := "fnNetChanges", inPlace := ["slices.overlaps[loop.example/g00940/impl.Link]"], unfollowed := true, recurses := true, apart := false }
def FnNetChangesSaid : Prop := fnNetChangesRow.holds Try.pinned (OpenSpec.ofChange fnNetChangesSpec)

/-- ITS FALSE NEIGHBOUR: 'it returns false'. Refute it at one input. -/
def fnNetChangesWrong : ChangeSpec := { name := "fnNetChanges", fn := fun _ => fun
  | [d1, d2] => { results := [.lit (.bool false)], args := [d1, d2] }
  | _ => none }
def FnNetChangesWrongFalsely : Prop := fnNetChangesRow.holds Try.pinned (OpenSpec.ofChange fnNetChangesWrong)

/-- 'laws.FnExactDropTower': WHATEVER THE INPUT: true; the input reads as it did. -/
def fnExactDropTowerSpec : ChangeSpec := { name := "fnExactDropTower", fn := fun _ => fun
  | [d1, d2] => { results := [.lit (.bool true)], args := [d1, d2] }
  | _ => none }
def fnExactDropTowerRow : OpenClaim := { program := "ytiipjlcmekakaaa", sum := "1b4acb58356c56762d20f469cc1b21252171a31a2198c2c117e5c2085bb3aac9", func := "loop.example/g00940/laws.FnExactDropTower", spec := "fnExactDropTower", apart := false }
def FnExactDropTowerSaid : Prop := fnExactDropTowerRow.holds Try.pinned (OpenSpec.ofChange fnExactDropTowerSpec)

/-- ITS FALSE NEIGHBOUR: 'it returns false'. Refute it at one input. -/
def fnExactDropTowerWrong : ChangeSpec := { name := "fnExactDropTower", fn := fun _ => fun
  | [d1, d2] => { results := [.lit (.bool false)], args := [d1, d2] }
  | _ => none }
def FnExactDropTowerWrongFalsely : Prop := fnExactDropTowerRow.holds Try.pinned (OpenSpec.ofChange fnExactDropTowerWrong)

/-- 'laws.FnExactBridgesOf': WHATEVER THE INPUT: true; the input reads as it did. -/
def fnExactBridgesOfSpec : ChangeSpec := { name := "fnExactBridgesOf", fn := fun _ => fun
  | [d] => { results := [.lit (.bool true)], args := [d] }
  | _ => none }
def fnExactBridgesOfRow : OpenClaim := { program := "ytiipjlcmekakaaa", sum := "1b4acb58356c56762d20f469cc1b21252171a31a2198c2c117e5c2085bb3aac9", func := "loop.example/g00940/laws.FnExactBridgesOf", spec := "fnExactBridgesOf", unfollowed := true, recurses := true, apart := false }
def FnExactBridgesOfSaid : Prop := fnExactBridgesOfRow.holds Try.pinned (OpenSpec.ofChange fnExactBridgesOfSpec)

/-- ITS FALSE NEIGHBOUR: 'it returns false'. Refute it at one input. -/
def fnExactBridgesOfWrong : ChangeSpec := { name := "fnExactBridgesOf", fn := fun _ => fun
  | [d] => { results := [.lit (.bool false)], args := [d] }
  | _ => none }
def FnExactBridgesOfWrongFalsely : Prop := fnExactBridgesOfRow.holds Try.pinned (OpenSpec.ofChange fnExactBridgesOfWrong)

/-- 'laws.FnExactAddLink': WHATEVER THE INPUT: true; the input reads as it did. -/
def fnExactAddLinkSpec : ChangeSpec := { name := "fnExactAddLink", fn := fun _ => fun
  | [d1, d2] => { results := [.lit (.bool true)], args := [d1, d2] }
  | _ => none }
def fnExactAddLinkRow : OpenClaim := { program := "ytiipjlcmekakaaa", sum := "1b4acb58356c56762d20f469cc1b21252171a31a2198c2c117e5c2085bb3aac9", func := "loop.example/g00940/laws.FnExactAddLink", spec := "fnExactAddLink", inPlace := ["slices.overlaps[loop.example/g00940/impl.Link]"], apart := false }
def FnExactAddLinkSaid : Prop := fnExactAddLinkRow.holds Try.pinned (OpenSpec.ofChange fnExactAddLinkSpec)

/-- ITS FALSE NEIGHBOUR: 'it returns false'. Refute it at one input. -/
def fnExactAddLinkWrong : ChangeSpec := { name := "fnExactAddLink", fn := fun _ => fun
  | [d1, d2] => { results := [.lit (.bool false)], args := [d1, d2] }
  | _ => none }
def FnExactAddLinkWrongFalsely : Prop := fnExactAddLinkRow.holds Try.pinned (OpenSpec.ofChange fnExactAddLinkWrong)

/- THE SECOND FORM. 'bulk': how many values and letters a reading holds, each counted each time it is reached (what is shared counts as often as it is met; a slice's spare places count too). A statement '..UptoSaid' is the law's where the arguments, and the package variables that the reading takes, are together of bulk at most 1048576: NARROWER than '..Said'. Prove '..Said' where nothing that the law and all that it calls make is longer than what came in: it says more and counts as full. Else prove '..UptoSaid'. A law counts once. -/
mutual
def uptoBulk {H : Type} : DataW H → Nat
  | .lit (.string bytes) => bytes.length + 1
  | .lit _ => 1
  | .nil => 1
  | .ptr d => uptoBulk d + 1
  | .slice elems spare => uptoBulkAll elems + uptoBulkAll spare + 1
  | .agg parts => uptoBulkAll parts + 1
  | .iface _ d => uptoBulk d + 1
  | .map entries => uptoBulkEntries entries + 1
  | .held _ => 1
def uptoBulkAll {H : Type} : List (DataW H) → Nat
  | [] => 0
  | d :: r => uptoBulk d + uptoBulkAll r
def uptoBulkEntries {H : Type} : List (Lit × DataW H) → Nat
  | [] => 0
  | x :: r => uptoBulkEntry x + uptoBulkEntries r
def uptoBulkEntry {H : Type} : Lit × DataW H → Nat
  | (.string bytes, d) => bytes.length + uptoBulk d + 1
  | (_, d) => uptoBulk d + 1
 end
def uptoSmall : (H : Type) → List (DataW H) → Bool := fun _ ds => decide (uptoBulkAll ds ≤ 1048576)
def OpenSpec.upto (s : _root_.Go.ChangeSpec) : _root_.Go.OpenSpec := { _root_.Go.OpenSpec.ofChange s with cond := some uptoSmall }

/-- 'laws.FnNetChanges', WHERE WHAT IT READS IS OF BULK AT MOST 1048576: true; the input reads as it did. -/
def fnNetChangesUptoRow : OpenClaim := { program := "ytiipjlcmekakaaa", sum := "1b4acb58356c56762d20f469cc1b21252171a31a2198c2c117e5c2085bb3aac9", func := "loop.example/g00940/laws.FnNetChanges", spec := "fnNetChanges", inPlace := ["slices.overlaps[loop.example/g00940/impl.Link]"], unfollowed := true, recurses := true, apart := false, narrowed := true }
def FnNetChangesUptoSaid : Prop := fnNetChangesUptoRow.holds Try.pinned (OpenSpec.upto fnNetChangesSpec)

/-- 'laws.FnExactDropTower', WHERE WHAT IT READS IS OF BULK AT MOST 1048576: true; the input reads as it did. -/
def fnExactDropTowerUptoRow : OpenClaim := { program := "ytiipjlcmekakaaa", sum := "1b4acb58356c56762d20f469cc1b21252171a31a2198c2c117e5c2085bb3aac9", func := "loop.example/g00940/laws.FnExactDropTower", spec := "fnExactDropTower", apart := false, narrowed := true }
def FnExactDropTowerUptoSaid : Prop := fnExactDropTowerUptoRow.holds Try.pinned (OpenSpec.upto fnExactDropTowerSpec)

/-- 'laws.FnExactBridgesOf', WHERE WHAT IT READS IS OF BULK AT MOST 1048576: true; the input reads as it did. -/
def fnExactBridgesOfUptoRow : OpenClaim := { program := "ytiipjlcmekakaaa", sum := "1b4acb58356c56762d20f469cc1b21252171a31a2198c2c117e5c2085bb3aac9", func := "loop.example/g00940/laws.FnExactBridgesOf", spec := "fnExactBridgesOf", unfollowed := true, recurses := true, apart := false, narrowed := true }
def FnExactBridgesOfUptoSaid : Prop := fnExactBridgesOfUptoRow.holds Try.pinned (OpenSpec.upto fnExactBridgesOfSpec)

/-- 'laws.FnExactAddLink', WHERE WHAT IT READS IS OF BULK AT MOST 1048576: true; the input reads as it did. -/
def fnExactAddLinkUptoRow : OpenClaim := { program := "ytiipjlcmekakaaa", sum := "1b4acb58356c56762d20f469cc1b21252171a31a2198c2c117e5c2085bb3aac9", func := "loop.example/g00940/laws.FnExactAddLink", spec := "fnExactAddLink", inPlace := ["slices.overlaps[loop.example/g00940/impl.Link]"], apart := false, narrowed := true }
def FnExactAddLinkUptoSaid : Prop := fnExactAddLinkUptoRow.holds Try.pinned (OpenSpec.upto fnExactAddLinkSpec)

end Rows
end Go.Proofs.Ytiipjlcmekakaaa
