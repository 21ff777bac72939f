/-
  DERIVED. GIVEN WITH THE SEED: THE CARDS: each row of YtdpbkpfdokgolaaDoorRows.lean that lists a variable, with what it lists TIED to the program's text (the seventh form; the later family's looks); each row that meets fmt, with fmt's text TOLD by the authors' own Lean function (tested against real Go, not proved from fmt's source: count such statements apart). THE CARD IS WHAT COUNTS. Prove the row's statement (the work); the ties are given (YtdpbkpfdokgolaaDoorTie.lean); close each card by the builder's one call (the guide's Derived/Test/ToyasCard.lean, 'card_holds'). Laid BY PROGRAM, IN A SANDBOX (cutbox-door.mjs). By AI agents, Wed Nov 11 2026. No macro, syntax, notation, axiom, sorry.
-/
import Derived.Test.YtdpbkpfdokgolaaDoorRows
import GoSem.ClaimSeven
namespace Go.Proofs.YtdpbkpfdokgolaaDoor
namespace Rows

/-- THE TIED CARD OF 'skylarklaw06.RingPoints'. -/
def ringPointsCard : Claim7 := { stood := { row := ringPointsRow, standIns := [], harness := (true, "172246784382e22eb1bb323554b77ddc9b067c318bd68f73936386817f8b632e"), looks := false }, kinds := [], alts := [], laidByText := true, laidKinds := [.data, .data, .data], laidTests := true, laidLooks := .later }
def RingPointsCardSaid : Prop := Claim7.holds Tryd.pinned (.plain (OpenSpec.ofChange ringPointsSpec)) ringPointsCard

/-- THE TIED CARD OF 'skylarklaw06.RingPlaces'. -/
def ringPlacesCard : Claim7 := { stood := { row := ringPlacesRow, standIns := [], harness := (true, "172246784382e22eb1bb323554b77ddc9b067c318bd68f73936386817f8b632e"), looks := false }, kinds := [], alts := [], laidByText := true, laidKinds := [.data, .data, .data], laidTests := true, laidLooks := .later }
def RingPlacesCardSaid : Prop := Claim7.holds Tryd.pinned (.plain (OpenSpec.ofChange ringPlacesSpec)) ringPlacesCard

/-- THE TIED CARD OF 'skylarklaw24.ClientEnds'. -/
def clientEndsCard : Claim7 := { stood := { row := clientEndsRow, standIns := [], harness := (true, "172246784382e22eb1bb323554b77ddc9b067c318bd68f73936386817f8b632e"), looks := false }, kinds := [], alts := [], laidByText := true, laidKinds := [.data, .data, .data], laidTests := true, laidLooks := .later }
def ClientEndsCardSaid : Prop := Claim7.holds Tryd.pinned (.plain (OpenSpec.ofChange clientEndsSpec)) clientEndsCard

/-- THE TIED CARD OF 'skylarklaw22.MoveSizes'. -/
def moveSizesCard : Claim7 := { stood := { row := moveSizesRow, standIns := [], harness := (true, "172246784382e22eb1bb323554b77ddc9b067c318bd68f73936386817f8b632e"), looks := false }, kinds := [], alts := [], laidByText := true, laidKinds := [.data, .data, .data], laidTests := true, laidLooks := .later }
def MoveSizesCardSaid : Prop := Claim7.holds Tryd.pinned (.plain (OpenSpec.ofChange moveSizesSpec)) moveSizesCard

/-- THE SECOND FORM's CARD OF 'skylarklaw06.RingPoints'. -/
def ringPointsUptoCard : Claim7 := { stood := { row := ringPointsUptoRow, standIns := [], harness := (true, "172246784382e22eb1bb323554b77ddc9b067c318bd68f73936386817f8b632e"), looks := false }, kinds := [], alts := [], laidByText := true, laidKinds := [.data, .data, .data], laidTests := true, laidLooks := .later }
def RingPointsUptoCardSaid : Prop := Claim7.holds Tryd.pinned (.plain (OpenSpec.upto ringPointsSpec)) ringPointsUptoCard

/-- THE SECOND FORM's CARD OF 'skylarklaw06.RingPlaces'. -/
def ringPlacesUptoCard : Claim7 := { stood := { row := ringPlacesUptoRow, standIns := [], harness := (true, "172246784382e22eb1bb323554b77ddc9b067c318bd68f73936386817f8b632e"), looks := false }, kinds := [], alts := [], laidByText := true, laidKinds := [.data, .data, .data], laidTests := true, laidLooks := .later }
def RingPlacesUptoCardSaid : Prop := Claim7.holds Tryd.pinned (.plain (OpenSpec.upto ringPlacesSpec)) ringPlacesUptoCard

/-- THE SECOND FORM's CARD OF 'skylarklaw24.ClientEnds'. -/
def clientEndsUptoCard : Claim7 := { stood := { row := clientEndsUptoRow, standIns := [], harness := (true, "172246784382e22eb1bb323554b77ddc9b067c318bd68f73936386817f8b632e"), looks := false }, kinds := [], alts := [], laidByText := true, laidKinds := [.data, .data, .data], laidTests := true, laidLooks := .later }
def ClientEndsUptoCardSaid : Prop := Claim7.holds Tryd.pinned (.plain (OpenSpec.upto clientEndsSpec)) clientEndsUptoCard

/-- THE SECOND FORM's CARD OF 'skylarklaw22.MoveSizes'. -/
def moveSizesUptoCard : Claim7 := { stood := { row := moveSizesUptoRow, standIns := [], harness := (true, "172246784382e22eb1bb323554b77ddc9b067c318bd68f73936386817f8b632e"), looks := false }, kinds := [], alts := [], laidByText := true, laidKinds := [.data, .data, .data], laidTests := true, laidLooks := .later }
def MoveSizesUptoCardSaid : Prop := Claim7.holds Tryd.pinned (.plain (OpenSpec.upto moveSizesSpec)) moveSizesUptoCard
end Rows
end Go.Proofs.YtdpbkpfdokgolaaDoor
