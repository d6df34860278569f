/-
  DERIVED. GIVEN WITH THE SEED: THE CARDS: each row of YtmaaeemhbccpcaaGreatDoorRows.lean that lists a variable, with what it lists TIED to the program's text (the seventh form; the later family's looks); each row that meets fmt, with fmt's text TOLD by the authors' own Lean function (tested against real Go, not proved from fmt's source: count such statements apart). THE CARD IS WHAT COUNTS. Prove the row's statement (the work); the ties are given (YtmaaeemhbccpcaaGreatDoorTie.lean); close each card by the builder's one call (the guide's Derived/Test/ToyasCard.lean, 'card_holds'). Laid BY PROGRAM, IN A SANDBOX (cutbox-door.mjs). By AI agents, Wed Nov 11 2026. No macro, syntax, notation, axiom, sorry.
-/
import Derived.Test.YtmaaeemhbccpcaaGreatDoorRows
import GoSem.ClaimSeven
namespace Go.Proofs.YtmaaeemhbccpcaaGreatDoor
namespace Rows

/-- THE TIED CARD OF 'laws.FnNets'. -/
def fnNetsCard : Claim7 := { stood := { row := fnNetsRow, standIns := [], harness := (true, "8b3f6aa0f3bb479b0dd2616e07c9a3274a4af5aa88f993d42c9a7111ae194011"), looks := true }, kinds := [], alts := [], laidByText := true, laidKinds := [.data, .data, .data, .data, .sentinel, .sentinel, .pinned], laidTests := true, laidLooks := .later }
def FnNetsCardSaid : Prop := Claim7.holds Tryz.pinned (.plain (OpenSpec.ofChange fnNetsSpec)) fnNetsCard

/-- THE SECOND FORM's CARD OF 'laws.FnNets'. -/
def fnNetsUptoCard : Claim7 := { stood := { row := fnNetsUptoRow, standIns := [], harness := (true, "8b3f6aa0f3bb479b0dd2616e07c9a3274a4af5aa88f993d42c9a7111ae194011"), looks := true }, kinds := [], alts := [], laidByText := true, laidKinds := [.data, .data, .data, .data, .sentinel, .sentinel, .pinned], laidTests := true, laidLooks := .later }
def FnNetsUptoCardSaid : Prop := Claim7.holds Tryz.pinned (.plain (OpenSpec.upto fnNetsSpec)) fnNetsUptoCard
end Rows
end Go.Proofs.YtmaaeemhbccpcaaGreatDoor
