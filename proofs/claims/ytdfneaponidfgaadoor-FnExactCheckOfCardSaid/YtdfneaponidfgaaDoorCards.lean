/-
  DERIVED. GIVEN WITH THE SEED: THE CARDS: each row of YtdfneaponidfgaaDoorRows.lean that lists a variable, with what it lists TIED to the program's text (the seventh form; the later family's looks); each row that meets fmt, with fmt's text TOLD by the authors' own Lean function (tested against real Go, not proved from fmt's source: count such statements apart). THE CARD IS WHAT COUNTS. Prove the row's statement (the work); the ties are given (YtdfneaponidfgaaDoorTie.lean); close each card by the builder's one call (the guide's Derived/Test/ToyasCard.lean, 'card_holds'). Laid BY PROGRAM, IN A SANDBOX (cutbox-door.mjs). By AI agents, Wed Nov 11 2026. No macro, syntax, notation, axiom, sorry.
-/
import Derived.Test.YtdfneaponidfgaaDoorRows
import GoSem.ClaimSeven
namespace Go.Proofs.YtdfneaponidfgaaDoor
namespace Rows

/-- THE TIED CARD OF 'laws.FnExactCheckOf'. -/
def fnExactCheckOfCard : Claim7 := { stood := { row := fnExactCheckOfRow, standIns := [], harness := (true, "0bbf0f7f2a24cc77fa79d27d03bcabd9d8a99f8fc1dbca177fec4b9975a26f28"), looks := false }, kinds := [], alts := [], laidByText := true, laidKinds := [.data, .data, .data], laidTests := true, laidLooks := .later }
def FnExactCheckOfCardSaid : Prop := Claim7.holds Tryd.pinned (.plain (OpenSpec.ofChange fnExactCheckOfSpec)) fnExactCheckOfCard

/-- THE TIED CARD OF 'laws.FnCheckOf'. -/
def fnCheckOfCard : Claim7 := { stood := { row := fnCheckOfRow, standIns := [], harness := (true, "0bbf0f7f2a24cc77fa79d27d03bcabd9d8a99f8fc1dbca177fec4b9975a26f28"), looks := false }, kinds := [], alts := [], laidByText := true, laidKinds := [.data, .data, .data], laidTests := true, laidLooks := .later }
def FnCheckOfCardSaid : Prop := Claim7.holds Tryd.pinned (.plain (OpenSpec.ofChange fnCheckOfSpec)) fnCheckOfCard

/-- THE SECOND FORM's CARD OF 'laws.FnExactCheckOf'. -/
def fnExactCheckOfUptoCard : Claim7 := { stood := { row := fnExactCheckOfUptoRow, standIns := [], harness := (true, "0bbf0f7f2a24cc77fa79d27d03bcabd9d8a99f8fc1dbca177fec4b9975a26f28"), looks := false }, kinds := [], alts := [], laidByText := true, laidKinds := [.data, .data, .data], laidTests := true, laidLooks := .later }
def FnExactCheckOfUptoCardSaid : Prop := Claim7.holds Tryd.pinned (.plain (OpenSpec.upto fnExactCheckOfSpec)) fnExactCheckOfUptoCard

/-- THE SECOND FORM's CARD OF 'laws.FnCheckOf'. -/
def fnCheckOfUptoCard : Claim7 := { stood := { row := fnCheckOfUptoRow, standIns := [], harness := (true, "0bbf0f7f2a24cc77fa79d27d03bcabd9d8a99f8fc1dbca177fec4b9975a26f28"), looks := false }, kinds := [], alts := [], laidByText := true, laidKinds := [.data, .data, .data], laidTests := true, laidLooks := .later }
def FnCheckOfUptoCardSaid : Prop := Claim7.holds Tryd.pinned (.plain (OpenSpec.upto fnCheckOfSpec)) fnCheckOfUptoCard
end Rows
end Go.Proofs.YtdfneaponidfgaaDoor
