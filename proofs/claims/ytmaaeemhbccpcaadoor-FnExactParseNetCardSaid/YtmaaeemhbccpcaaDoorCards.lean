/-
  DERIVED. GIVEN WITH THE SEED: THE CARDS: each row of YtmaaeemhbccpcaaDoorRows.lean that lists a variable, with what it lists TIED to the program's text (the seventh form; the later family's looks); each row that meets fmt, with fmt's text TOLD by the authors' own Lean function (tested against real Go, not proved from fmt's source: count such statements apart). THE CARD IS WHAT COUNTS. Prove the row's statement (the work); the ties are given (YtmaaeemhbccpcaaDoorTie.lean); close each card by the builder's one call (the guide's Derived/Test/ToyasCard.lean, 'card_holds'). Laid BY PROGRAM, IN A SANDBOX (cutbox-door.mjs). By AI agents, Wed Nov 11 2026. No macro, syntax, notation, axiom, sorry.
-/
import Derived.Test.YtmaaeemhbccpcaaDoorRows
import GoSem.ClaimSeven
namespace Go.Proofs.YtmaaeemhbccpcaaDoor
namespace Rows

/-- THE TIED CARD OF 'laws.FnExactNetText'. -/
def fnExactNetTextCard : Claim7 := { stood := { row := fnExactNetTextRow, standIns := [], harness := (true, "a27a9db8f37855a77df6a821956a104366ca3fd2c883a96c8be61e4f129ca637"), looks := true }, kinds := [], alts := [], laidByText := true, laidKinds := [.data, .data, .data], laidTests := true, laidLooks := .later }
def FnExactNetTextCardSaid : Prop := Claim7.holds Tryd.pinned (.plain (OpenSpec.ofChange fnExactNetTextSpec)) fnExactNetTextCard

/-- THE TIED CARD OF 'laws.FnExactParseNet'. -/
def fnExactParseNetCard : Claim7 := { stood := { row := fnExactParseNetRow, standIns := [], harness := (true, "a27a9db8f37855a77df6a821956a104366ca3fd2c883a96c8be61e4f129ca637"), looks := true }, kinds := [], alts := [], laidByText := true, laidKinds := [.data, .data, .data, .data, .sentinel, .sentinel, .pinned], laidTests := true, laidLooks := .later }
def FnExactParseNetCardSaid : Prop := Claim7.holds Tryd.pinned (.plain (OpenSpec.ofChange fnExactParseNetSpec)) fnExactParseNetCard

/-- THE SECOND FORM's CARD OF 'laws.FnExactNetText'. -/
def fnExactNetTextUptoCard : Claim7 := { stood := { row := fnExactNetTextUptoRow, standIns := [], harness := (true, "a27a9db8f37855a77df6a821956a104366ca3fd2c883a96c8be61e4f129ca637"), looks := true }, kinds := [], alts := [], laidByText := true, laidKinds := [.data, .data, .data], laidTests := true, laidLooks := .later }
def FnExactNetTextUptoCardSaid : Prop := Claim7.holds Tryd.pinned (.plain (OpenSpec.upto fnExactNetTextSpec)) fnExactNetTextUptoCard

/-- THE SECOND FORM's CARD OF 'laws.FnExactParseNet'. -/
def fnExactParseNetUptoCard : Claim7 := { stood := { row := fnExactParseNetUptoRow, standIns := [], harness := (true, "a27a9db8f37855a77df6a821956a104366ca3fd2c883a96c8be61e4f129ca637"), looks := true }, kinds := [], alts := [], laidByText := true, laidKinds := [.data, .data, .data, .data, .sentinel, .sentinel, .pinned], laidTests := true, laidLooks := .later }
def FnExactParseNetUptoCardSaid : Prop := Claim7.holds Tryd.pinned (.plain (OpenSpec.upto fnExactParseNetSpec)) fnExactParseNetUptoCard
end Rows
end Go.Proofs.YtmaaeemhbccpcaaDoor
