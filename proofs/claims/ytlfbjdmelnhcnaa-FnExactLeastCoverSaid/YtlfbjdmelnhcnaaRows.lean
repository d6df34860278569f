/-
  No cell of these rows narrows 'for every input' (looked for: loops, veiled, ifaces, maps, wideKeys, modest, calm, conditions, laid).
  DERIVED. THE GIVEN ROWS OF THIS SEAT. 12 by the template 'for every input the law returns true; each argument reads behind the call as it read before'; 0 by the template 'total and deterministic' (their statements: YtlfbjdmelnhcnaaTotals.lean).
  GIVEN WITH THE SEED: the statements are not yours to turn. If you find one false, say at which input.
  Laid BY PROGRAM, IN A SANDBOX (cutbox-rows.mjs): the forced cells as the released guide's own fill.sh prints them over the translation e27da9c7d91f4c60… (all of the seat's roots in one cut). By AI agents, Wed Nov 11 2026. No macro, syntax, notation, axiom, sorry.
-/
import Derived.Test.YtlfbjdmelnhcnaaChecked
import GoSem.Claim
import GoSem.ClaimJoined
import GoSem.ClaimMapViews
import Derived.JoinedTies
import Derived.KernelRfl
namespace Go.Proofs.Ytlfbjdmelnhcnaa
/- THE CELL 'sum', in the pinned program and in every row, IS THE sha256 OF THE DUMP (.gsa) THAT YtlfbjdmelnhcnaaProg.lean LOADS. Nothing in Lean hashes anything: it is a label: what it is worth is what the hold of that sum in a sandbox is worth. -/
noncomputable def Try.pinned : Pinned := { name := "ytlfbjdmelnhcnaa", sum := "e27da9c7d91f4c609fbd6f8e2ff1c125f9389b7c13431f75e0cc8a4455c30ad8", checked := Try.checked }
namespace Rows
def none {H : Type} : Left H := { results := [], args := [] }

/-- 'laws.FnExactAreSites': WHATEVER THE INPUT: true; the input reads as it did. -/
def fnExactAreSitesSpec : ChangeSpec := { name := "fnExactAreSites", fn := fun _ => fun
  | [d1, d2] => { results := [.lit (.bool true)], args := [d1, d2] }
  | _ => none }
def fnExactAreSitesRow : OpenClaim := { program := "ytlfbjdmelnhcnaa", sum := "e27da9c7d91f4c609fbd6f8e2ff1c125f9389b7c13431f75e0cc8a4455c30ad8", func := "loop.example/g00940/laws.FnExactAreSites", spec := "fnExactAreSites", apart := false }
def FnExactAreSitesSaid : Prop := fnExactAreSitesRow.holds Try.pinned (OpenSpec.ofChange fnExactAreSitesSpec)

/-- ITS FALSE NEIGHBOUR: 'it returns false'. Refute it at one input. -/
def fnExactAreSitesWrong : ChangeSpec := { name := "fnExactAreSites", fn := fun _ => fun
  | [d1, d2] => { results := [.lit (.bool false)], args := [d1, d2] }
  | _ => none }
def FnExactAreSitesWrongFalsely : Prop := fnExactAreSitesRow.holds Try.pinned (OpenSpec.ofChange fnExactAreSitesWrong)

/-- 'laws.FnExactAreApart': WHATEVER THE INPUT: true; the input reads as it did. -/
def fnExactAreApartSpec : ChangeSpec := { name := "fnExactAreApart", fn := fun _ => fun
  | [d1, d2, d3] => { results := [.lit (.bool true)], args := [d1, d2, d3] }
  | _ => none }
def fnExactAreApartRow : OpenClaim := { program := "ytlfbjdmelnhcnaa", sum := "e27da9c7d91f4c609fbd6f8e2ff1c125f9389b7c13431f75e0cc8a4455c30ad8", func := "loop.example/g00940/laws.FnExactAreApart", spec := "fnExactAreApart", apart := false }
def FnExactAreApartSaid : Prop := fnExactAreApartRow.holds Try.pinned (OpenSpec.ofChange fnExactAreApartSpec)

/-- ITS FALSE NEIGHBOUR: 'it returns false'. Refute it at one input. -/
def fnExactAreApartWrong : ChangeSpec := { name := "fnExactAreApart", fn := fun _ => fun
  | [d1, d2, d3] => { results := [.lit (.bool false)], args := [d1, d2, d3] }
  | _ => none }
def FnExactAreApartWrongFalsely : Prop := fnExactAreApartRow.holds Try.pinned (OpenSpec.ofChange fnExactAreApartWrong)

/-- 'laws.FnExactIsCover': WHATEVER THE INPUT: true; the input reads as it did. -/
def fnExactIsCoverSpec : ChangeSpec := { name := "fnExactIsCover", fn := fun _ => fun
  | [d1, d2, d3, d4] => { results := [.lit (.bool true)], args := [d1, d2, d3, d4] }
  | _ => none }
def fnExactIsCoverRow : OpenClaim := { program := "ytlfbjdmelnhcnaa", sum := "e27da9c7d91f4c609fbd6f8e2ff1c125f9389b7c13431f75e0cc8a4455c30ad8", func := "loop.example/g00940/laws.FnExactIsCover", spec := "fnExactIsCover", apart := false }
def FnExactIsCoverSaid : Prop := fnExactIsCoverRow.holds Try.pinned (OpenSpec.ofChange fnExactIsCoverSpec)

/-- ITS FALSE NEIGHBOUR: 'it returns false'. Refute it at one input. -/
def fnExactIsCoverWrong : ChangeSpec := { name := "fnExactIsCover", fn := fun _ => fun
  | [d1, d2, d3, d4] => { results := [.lit (.bool false)], args := [d1, d2, d3, d4] }
  | _ => none }
def FnExactIsCoverWrongFalsely : Prop := fnExactIsCoverRow.holds Try.pinned (OpenSpec.ofChange fnExactIsCoverWrong)

/-- 'laws.FnExactSeenFrom': WHATEVER THE INPUT: true; the input reads as it did. -/
def fnExactSeenFromSpec : ChangeSpec := { name := "fnExactSeenFrom", fn := fun _ => fun
  | [d1, d2, d3] => { results := [.lit (.bool true)], args := [d1, d2, d3] }
  | _ => none }
def fnExactSeenFromRow : OpenClaim := { program := "ytlfbjdmelnhcnaa", sum := "e27da9c7d91f4c609fbd6f8e2ff1c125f9389b7c13431f75e0cc8a4455c30ad8", func := "loop.example/g00940/laws.FnExactSeenFrom", spec := "fnExactSeenFrom", apart := false }
def FnExactSeenFromSaid : Prop := fnExactSeenFromRow.holds Try.pinned (OpenSpec.ofChange fnExactSeenFromSpec)

/-- ITS FALSE NEIGHBOUR: 'it returns false'. Refute it at one input. -/
def fnExactSeenFromWrong : ChangeSpec := { name := "fnExactSeenFrom", fn := fun _ => fun
  | [d1, d2, d3] => { results := [.lit (.bool false)], args := [d1, d2, d3] }
  | _ => none }
def FnExactSeenFromWrongFalsely : Prop := fnExactSeenFromRow.holds Try.pinned (OpenSpec.ofChange fnExactSeenFromWrong)

/-- 'laws.FnExactCountCovers': WHATEVER THE INPUT: true; the input reads as it did. -/
def fnExactCountCoversSpec : ChangeSpec := { name := "fnExactCountCovers", fn := fun _ => fun
  | [d1, d2, d3] => { results := [.lit (.bool true)], args := [d1, d2, d3] }
  | _ => none }
def fnExactCountCoversRow : OpenClaim := { program := "ytlfbjdmelnhcnaa", sum := "e27da9c7d91f4c609fbd6f8e2ff1c125f9389b7c13431f75e0cc8a4455c30ad8", func := "loop.example/g00940/laws.FnExactCountCovers", spec := "fnExactCountCovers", apart := false }
def FnExactCountCoversSaid : Prop := fnExactCountCoversRow.holds Try.pinned (OpenSpec.ofChange fnExactCountCoversSpec)

/-- ITS FALSE NEIGHBOUR: 'it returns false'. Refute it at one input. -/
def fnExactCountCoversWrong : ChangeSpec := { name := "fnExactCountCovers", fn := fun _ => fun
  | [d1, d2, d3] => { results := [.lit (.bool false)], args := [d1, d2, d3] }
  | _ => none }
def FnExactCountCoversWrongFalsely : Prop := fnExactCountCoversRow.holds Try.pinned (OpenSpec.ofChange fnExactCountCoversWrong)

/-- 'laws.FnExactGreedyCover': WHATEVER THE INPUT: true; the input reads as it did. -/
def fnExactGreedyCoverSpec : ChangeSpec := { name := "fnExactGreedyCover", fn := fun _ => fun
  | [d1, d2] => { results := [.lit (.bool true)], args := [d1, d2] }
  | _ => none }
def fnExactGreedyCoverRow : OpenClaim := { program := "ytlfbjdmelnhcnaa", sum := "e27da9c7d91f4c609fbd6f8e2ff1c125f9389b7c13431f75e0cc8a4455c30ad8", func := "loop.example/g00940/laws.FnExactGreedyCover", spec := "fnExactGreedyCover", apart := false }
def FnExactGreedyCoverSaid : Prop := fnExactGreedyCoverRow.holds Try.pinned (OpenSpec.ofChange fnExactGreedyCoverSpec)

/-- ITS FALSE NEIGHBOUR: 'it returns false'. Refute it at one input. -/
def fnExactGreedyCoverWrong : ChangeSpec := { name := "fnExactGreedyCover", fn := fun _ => fun
  | [d1, d2] => { results := [.lit (.bool false)], args := [d1, d2] }
  | _ => none }
def FnExactGreedyCoverWrongFalsely : Prop := fnExactGreedyCoverRow.holds Try.pinned (OpenSpec.ofChange fnExactGreedyCoverWrong)

/-- 'laws.FnExactNeededSites': WHATEVER THE INPUT: true; the input reads as it did. -/
def fnExactNeededSitesSpec : ChangeSpec := { name := "fnExactNeededSites", fn := fun _ => fun
  | [d1, d2] => { results := [.lit (.bool true)], args := [d1, d2] }
  | _ => none }
def fnExactNeededSitesRow : OpenClaim := { program := "ytlfbjdmelnhcnaa", sum := "e27da9c7d91f4c609fbd6f8e2ff1c125f9389b7c13431f75e0cc8a4455c30ad8", func := "loop.example/g00940/laws.FnExactNeededSites", spec := "fnExactNeededSites", unfollowed := true, recurses := true, apart := false }
def FnExactNeededSitesSaid : Prop := fnExactNeededSitesRow.holds Try.pinned (OpenSpec.ofChange fnExactNeededSitesSpec)

/-- ITS FALSE NEIGHBOUR: 'it returns false'. Refute it at one input. -/
def fnExactNeededSitesWrong : ChangeSpec := { name := "fnExactNeededSites", fn := fun _ => fun
  | [d1, d2] => { results := [.lit (.bool false)], args := [d1, d2] }
  | _ => none }
def FnExactNeededSitesWrongFalsely : Prop := fnExactNeededSitesRow.holds Try.pinned (OpenSpec.ofChange fnExactNeededSitesWrong)

/-- 'laws.FnExactThinCover': WHATEVER THE INPUT: true; the input reads as it did. -/
def fnExactThinCoverSpec : ChangeSpec := { name := "fnExactThinCover", fn := fun _ => fun
  | [d1, d2, d3] => { results := [.lit (.bool true)], args := [d1, d2, d3] }
  | _ => none }
def fnExactThinCoverRow : OpenClaim := { program := "ytlfbjdmelnhcnaa", sum := "e27da9c7d91f4c609fbd6f8e2ff1c125f9389b7c13431f75e0cc8a4455c30ad8", func := "loop.example/g00940/laws.FnExactThinCover", spec := "fnExactThinCover", apart := false }
def FnExactThinCoverSaid : Prop := fnExactThinCoverRow.holds Try.pinned (OpenSpec.ofChange fnExactThinCoverSpec)

/-- ITS FALSE NEIGHBOUR: 'it returns false'. Refute it at one input. -/
def fnExactThinCoverWrong : ChangeSpec := { name := "fnExactThinCover", fn := fun _ => fun
  | [d1, d2, d3] => { results := [.lit (.bool false)], args := [d1, d2, d3] }
  | _ => none }
def FnExactThinCoverWrongFalsely : Prop := fnExactThinCoverRow.holds Try.pinned (OpenSpec.ofChange fnExactThinCoverWrong)

/-- 'laws.FnExactMostApart': WHATEVER THE INPUT: true; the input reads as it did. -/
def fnExactMostApartSpec : ChangeSpec := { name := "fnExactMostApart", fn := fun _ => fun
  | [d1, d2] => { results := [.lit (.bool true)], args := [d1, d2] }
  | _ => none }
def fnExactMostApartRow : OpenClaim := { program := "ytlfbjdmelnhcnaa", sum := "e27da9c7d91f4c609fbd6f8e2ff1c125f9389b7c13431f75e0cc8a4455c30ad8", func := "loop.example/g00940/laws.FnExactMostApart", spec := "fnExactMostApart", unfollowed := true, recurses := true, apart := false }
def FnExactMostApartSaid : Prop := fnExactMostApartRow.holds Try.pinned (OpenSpec.ofChange fnExactMostApartSpec)

/-- ITS FALSE NEIGHBOUR: 'it returns false'. Refute it at one input. -/
def fnExactMostApartWrong : ChangeSpec := { name := "fnExactMostApart", fn := fun _ => fun
  | [d1, d2] => { results := [.lit (.bool false)], args := [d1, d2] }
  | _ => none }
def FnExactMostApartWrongFalsely : Prop := fnExactMostApartRow.holds Try.pinned (OpenSpec.ofChange fnExactMostApartWrong)

/-- 'laws.FnExactLeastCover': WHATEVER THE INPUT: true; the input reads as it did. -/
def fnExactLeastCoverSpec : ChangeSpec := { name := "fnExactLeastCover", fn := fun _ => fun
  | [d1, d2, d3] => { results := [.lit (.bool true)], args := [d1, d2, d3] }
  | _ => none }
def fnExactLeastCoverRow : OpenClaim := { program := "ytlfbjdmelnhcnaa", sum := "e27da9c7d91f4c609fbd6f8e2ff1c125f9389b7c13431f75e0cc8a4455c30ad8", func := "loop.example/g00940/laws.FnExactLeastCover", spec := "fnExactLeastCover", apart := false }
def FnExactLeastCoverSaid : Prop := fnExactLeastCoverRow.holds Try.pinned (OpenSpec.ofChange fnExactLeastCoverSpec)

/-- ITS FALSE NEIGHBOUR: 'it returns false'. Refute it at one input. -/
def fnExactLeastCoverWrong : ChangeSpec := { name := "fnExactLeastCover", fn := fun _ => fun
  | [d1, d2, d3] => { results := [.lit (.bool false)], args := [d1, d2, d3] }
  | _ => none }
def FnExactLeastCoverWrongFalsely : Prop := fnExactLeastCoverRow.holds Try.pinned (OpenSpec.ofChange fnExactLeastCoverWrong)

/-- 'laws.FnCertificates': WHATEVER THE INPUT: true; the input reads as it did. -/
def fnCertificatesSpec : ChangeSpec := { name := "fnCertificates", fn := fun _ => fun
  | [d1, d2] => { results := [.lit (.bool true)], args := [d1, d2] }
  | _ => none }
def fnCertificatesRow : OpenClaim := { program := "ytlfbjdmelnhcnaa", sum := "e27da9c7d91f4c609fbd6f8e2ff1c125f9389b7c13431f75e0cc8a4455c30ad8", func := "loop.example/g00940/laws.FnCertificates", spec := "fnCertificates", unfollowed := true, recurses := true, apart := false }
def FnCertificatesSaid : Prop := fnCertificatesRow.holds Try.pinned (OpenSpec.ofChange fnCertificatesSpec)

/-- ITS FALSE NEIGHBOUR: 'it returns false'. Refute it at one input. -/
def fnCertificatesWrong : ChangeSpec := { name := "fnCertificates", fn := fun _ => fun
  | [d1, d2] => { results := [.lit (.bool false)], args := [d1, d2] }
  | _ => none }
def FnCertificatesWrongFalsely : Prop := fnCertificatesRow.holds Try.pinned (OpenSpec.ofChange fnCertificatesWrong)

/-- 'laws.FnCovers': WHATEVER THE INPUT: true; the input reads as it did. -/
def fnCoversSpec : ChangeSpec := { name := "fnCovers", fn := fun _ => fun
  | [d1, d2] => { results := [.lit (.bool true)], args := [d1, d2] }
  | _ => none }
def fnCoversRow : OpenClaim := { program := "ytlfbjdmelnhcnaa", sum := "e27da9c7d91f4c609fbd6f8e2ff1c125f9389b7c13431f75e0cc8a4455c30ad8", func := "loop.example/g00940/laws.FnCovers", spec := "fnCovers", unfollowed := true, recurses := true, apart := false }
def FnCoversSaid : Prop := fnCoversRow.holds Try.pinned (OpenSpec.ofChange fnCoversSpec)

/-- ITS FALSE NEIGHBOUR: 'it returns false'. Refute it at one input. -/
def fnCoversWrong : ChangeSpec := { name := "fnCovers", fn := fun _ => fun
  | [d1, d2] => { results := [.lit (.bool false)], args := [d1, d2] }
  | _ => none }
def FnCoversWrongFalsely : Prop := fnCoversRow.holds Try.pinned (OpenSpec.ofChange fnCoversWrong)

/- THE SECOND FORM. 'bulk': how many values and letters a reading holds, each counted each time it is reached (what is shared counts as often as it is met; a slice's spare places count too). A statement '..UptoSaid' is the law's where the arguments, and the package variables that the reading takes, are together of bulk at most 1048576: NARROWER than '..Said'. Prove '..Said' where nothing that the law and all that it calls make is longer than what came in: it says more and counts as full. Else prove '..UptoSaid'. A law counts once. -/
mutual
def uptoBulk {H : Type} : DataW H → Nat
  | .lit (.string bytes) => bytes.length + 1
  | .lit _ => 1
  | .nil => 1
  | .ptr d => uptoBulk d + 1
  | .slice elems spare => uptoBulkAll elems + uptoBulkAll spare + 1
  | .agg parts => uptoBulkAll parts + 1
  | .iface _ d => uptoBulk d + 1
  | .map entries => uptoBulkEntries entries + 1
  | .held _ => 1
def uptoBulkAll {H : Type} : List (DataW H) → Nat
  | [] => 0
  | d :: r => uptoBulk d + uptoBulkAll r
def uptoBulkEntries {H : Type} : List (Lit × DataW H) → Nat
  | [] => 0
  | x :: r => uptoBulkEntry x + uptoBulkEntries r
def uptoBulkEntry {H : Type} : Lit × DataW H → Nat
  | (.string bytes, d) => bytes.length + uptoBulk d + 1
  | (_, d) => uptoBulk d + 1
 end
def uptoSmall : (H : Type) → List (DataW H) → Bool := fun _ ds => decide (uptoBulkAll ds ≤ 1048576)
def OpenSpec.upto (s : _root_.Go.ChangeSpec) : _root_.Go.OpenSpec := { _root_.Go.OpenSpec.ofChange s with cond := some uptoSmall }

/-- 'laws.FnExactAreSites', WHERE WHAT IT READS IS OF BULK AT MOST 1048576: true; the input reads as it did. -/
def fnExactAreSitesUptoRow : OpenClaim := { program := "ytlfbjdmelnhcnaa", sum := "e27da9c7d91f4c609fbd6f8e2ff1c125f9389b7c13431f75e0cc8a4455c30ad8", func := "loop.example/g00940/laws.FnExactAreSites", spec := "fnExactAreSites", apart := false, narrowed := true }
def FnExactAreSitesUptoSaid : Prop := fnExactAreSitesUptoRow.holds Try.pinned (OpenSpec.upto fnExactAreSitesSpec)

/-- 'laws.FnExactAreApart', WHERE WHAT IT READS IS OF BULK AT MOST 1048576: true; the input reads as it did. -/
def fnExactAreApartUptoRow : OpenClaim := { program := "ytlfbjdmelnhcnaa", sum := "e27da9c7d91f4c609fbd6f8e2ff1c125f9389b7c13431f75e0cc8a4455c30ad8", func := "loop.example/g00940/laws.FnExactAreApart", spec := "fnExactAreApart", apart := false, narrowed := true }
def FnExactAreApartUptoSaid : Prop := fnExactAreApartUptoRow.holds Try.pinned (OpenSpec.upto fnExactAreApartSpec)

/-- 'laws.FnExactIsCover', WHERE WHAT IT READS IS OF BULK AT MOST 1048576: true; the input reads as it did. -/
def fnExactIsCoverUptoRow : OpenClaim := { program := "ytlfbjdmelnhcnaa", sum := "e27da9c7d91f4c609fbd6f8e2ff1c125f9389b7c13431f75e0cc8a4455c30ad8", func := "loop.example/g00940/laws.FnExactIsCover", spec := "fnExactIsCover", apart := false, narrowed := true }
def FnExactIsCoverUptoSaid : Prop := fnExactIsCoverUptoRow.holds Try.pinned (OpenSpec.upto fnExactIsCoverSpec)

/-- 'laws.FnExactSeenFrom', WHERE WHAT IT READS IS OF BULK AT MOST 1048576: true; the input reads as it did. -/
def fnExactSeenFromUptoRow : OpenClaim := { program := "ytlfbjdmelnhcnaa", sum := "e27da9c7d91f4c609fbd6f8e2ff1c125f9389b7c13431f75e0cc8a4455c30ad8", func := "loop.example/g00940/laws.FnExactSeenFrom", spec := "fnExactSeenFrom", apart := false, narrowed := true }
def FnExactSeenFromUptoSaid : Prop := fnExactSeenFromUptoRow.holds Try.pinned (OpenSpec.upto fnExactSeenFromSpec)

/-- 'laws.FnExactCountCovers', WHERE WHAT IT READS IS OF BULK AT MOST 1048576: true; the input reads as it did. -/
def fnExactCountCoversUptoRow : OpenClaim := { program := "ytlfbjdmelnhcnaa", sum := "e27da9c7d91f4c609fbd6f8e2ff1c125f9389b7c13431f75e0cc8a4455c30ad8", func := "loop.example/g00940/laws.FnExactCountCovers", spec := "fnExactCountCovers", apart := false, narrowed := true }
def FnExactCountCoversUptoSaid : Prop := fnExactCountCoversUptoRow.holds Try.pinned (OpenSpec.upto fnExactCountCoversSpec)

/-- 'laws.FnExactGreedyCover', WHERE WHAT IT READS IS OF BULK AT MOST 1048576: true; the input reads as it did. -/
def fnExactGreedyCoverUptoRow : OpenClaim := { program := "ytlfbjdmelnhcnaa", sum := "e27da9c7d91f4c609fbd6f8e2ff1c125f9389b7c13431f75e0cc8a4455c30ad8", func := "loop.example/g00940/laws.FnExactGreedyCover", spec := "fnExactGreedyCover", apart := false, narrowed := true }
def FnExactGreedyCoverUptoSaid : Prop := fnExactGreedyCoverUptoRow.holds Try.pinned (OpenSpec.upto fnExactGreedyCoverSpec)

/-- 'laws.FnExactNeededSites', WHERE WHAT IT READS IS OF BULK AT MOST 1048576: true; the input reads as it did. -/
def fnExactNeededSitesUptoRow : OpenClaim := { program := "ytlfbjdmelnhcnaa", sum := "e27da9c7d91f4c609fbd6f8e2ff1c125f9389b7c13431f75e0cc8a4455c30ad8", func := "loop.example/g00940/laws.FnExactNeededSites", spec := "fnExactNeededSites", unfollowed := true, recurses := true, apart := false, narrowed := true }
def FnExactNeededSitesUptoSaid : Prop := fnExactNeededSitesUptoRow.holds Try.pinned (OpenSpec.upto fnExactNeededSitesSpec)

/-- 'laws.FnExactThinCover', WHERE WHAT IT READS IS OF BULK AT MOST 1048576: true; the input reads as it did. -/
def fnExactThinCoverUptoRow : OpenClaim := { program := "ytlfbjdmelnhcnaa", sum := "e27da9c7d91f4c609fbd6f8e2ff1c125f9389b7c13431f75e0cc8a4455c30ad8", func := "loop.example/g00940/laws.FnExactThinCover", spec := "fnExactThinCover", apart := false, narrowed := true }
def FnExactThinCoverUptoSaid : Prop := fnExactThinCoverUptoRow.holds Try.pinned (OpenSpec.upto fnExactThinCoverSpec)

/-- 'laws.FnExactMostApart', WHERE WHAT IT READS IS OF BULK AT MOST 1048576: true; the input reads as it did. -/
def fnExactMostApartUptoRow : OpenClaim := { program := "ytlfbjdmelnhcnaa", sum := "e27da9c7d91f4c609fbd6f8e2ff1c125f9389b7c13431f75e0cc8a4455c30ad8", func := "loop.example/g00940/laws.FnExactMostApart", spec := "fnExactMostApart", unfollowed := true, recurses := true, apart := false, narrowed := true }
def FnExactMostApartUptoSaid : Prop := fnExactMostApartUptoRow.holds Try.pinned (OpenSpec.upto fnExactMostApartSpec)

/-- 'laws.FnExactLeastCover', WHERE WHAT IT READS IS OF BULK AT MOST 1048576: true; the input reads as it did. -/
def fnExactLeastCoverUptoRow : OpenClaim := { program := "ytlfbjdmelnhcnaa", sum := "e27da9c7d91f4c609fbd6f8e2ff1c125f9389b7c13431f75e0cc8a4455c30ad8", func := "loop.example/g00940/laws.FnExactLeastCover", spec := "fnExactLeastCover", apart := false, narrowed := true }
def FnExactLeastCoverUptoSaid : Prop := fnExactLeastCoverUptoRow.holds Try.pinned (OpenSpec.upto fnExactLeastCoverSpec)

/-- 'laws.FnCertificates', WHERE WHAT IT READS IS OF BULK AT MOST 1048576: true; the input reads as it did. -/
def fnCertificatesUptoRow : OpenClaim := { program := "ytlfbjdmelnhcnaa", sum := "e27da9c7d91f4c609fbd6f8e2ff1c125f9389b7c13431f75e0cc8a4455c30ad8", func := "loop.example/g00940/laws.FnCertificates", spec := "fnCertificates", unfollowed := true, recurses := true, apart := false, narrowed := true }
def FnCertificatesUptoSaid : Prop := fnCertificatesUptoRow.holds Try.pinned (OpenSpec.upto fnCertificatesSpec)

/-- 'laws.FnCovers', WHERE WHAT IT READS IS OF BULK AT MOST 1048576: true; the input reads as it did. -/
def fnCoversUptoRow : OpenClaim := { program := "ytlfbjdmelnhcnaa", sum := "e27da9c7d91f4c609fbd6f8e2ff1c125f9389b7c13431f75e0cc8a4455c30ad8", func := "loop.example/g00940/laws.FnCovers", spec := "fnCovers", unfollowed := true, recurses := true, apart := false, narrowed := true }
def FnCoversUptoSaid : Prop := fnCoversUptoRow.holds Try.pinned (OpenSpec.upto fnCoversSpec)

end Rows
end Go.Proofs.Ytlfbjdmelnhcnaa
