/-
  DERIVED. GIVEN WITH THE SEED: THE CARDS: each row of YtpmjbobgglgnaaaGreatDoorRows.lean that lists a variable, with what it lists TIED to the program's text (the seventh form; the later family's looks); each row that meets fmt, with fmt's text TOLD by the authors' own Lean function (tested against real Go, not proved from fmt's source: count such statements apart). THE CARD IS WHAT COUNTS. Prove the row's statement (the work); the ties are given (YtpmjbobgglgnaaaGreatDoorTie.lean); close each card by the builder's one call (the guide's Derived/Test/ToyasCard.lean, 'card_holds'). Laid BY PROGRAM, IN A SANDBOX (cutbox-door.mjs). By AI agents, Wed Nov 11 2026. No macro, syntax, notation, axiom, sorry.
-/
import Derived.Test.YtpmjbobgglgnaaaGreatDoorRows
import GoSem.ClaimSeven
namespace Go.Proofs.YtpmjbobgglgnaaaGreatDoor
namespace Rows

/-- THE TIED CARD OF 'louvrelaw31.BookApplies'. -/
def bookAppliesCard : Claim7 := { stood := { row := bookAppliesRow, standIns := [], harness := (true, "187e91e4e5154dc8e39b8dd5ec7380bbf60fb8aa6ec324944b924762dd45dce4"), looks := true }, kinds := [], alts := [], laidByText := true, laidKinds := [.data], laidTests := true, laidLooks := .later }
def BookAppliesCardSaid : Prop := Claim7.holds Tryz.pinned (.plain (OpenSpec.ofChange bookAppliesSpec)) bookAppliesCard

/-- THE TIED CARD OF 'louvrelaw31.BookStatic'. -/
def bookStaticCard : Claim7 := { stood := { row := bookStaticRow, standIns := [], harness := (true, "187e91e4e5154dc8e39b8dd5ec7380bbf60fb8aa6ec324944b924762dd45dce4"), looks := true }, kinds := [], alts := [], laidByText := true, laidKinds := [.data], laidTests := true, laidLooks := .later }
def BookStaticCardSaid : Prop := Claim7.holds Tryz.pinned (.plain (OpenSpec.ofChange bookStaticSpec)) bookStaticCard

/-- THE TIED CARD OF 'louvrelaw31.BookChecks'. -/
def bookChecksCard : Claim7 := { stood := { row := bookChecksRow, standIns := [], harness := (true, "187e91e4e5154dc8e39b8dd5ec7380bbf60fb8aa6ec324944b924762dd45dce4"), looks := true }, kinds := [], alts := [], laidByText := true, laidKinds := [.data], laidTests := true, laidLooks := .later }
def BookChecksCardSaid : Prop := Claim7.holds Tryz.pinned (.plain (OpenSpec.ofChange bookChecksSpec)) bookChecksCard

/-- THE TIED CARD OF 'louvrelaw31.BookSame'. -/
def bookSameCard : Claim7 := { stood := { row := bookSameRow, standIns := [], harness := (true, "187e91e4e5154dc8e39b8dd5ec7380bbf60fb8aa6ec324944b924762dd45dce4"), looks := true }, kinds := [], alts := [], laidByText := true, laidKinds := [.data], laidTests := true, laidLooks := .later }
def BookSameCardSaid : Prop := Claim7.holds Tryz.pinned (.plain (OpenSpec.ofChange bookSameSpec)) bookSameCard

/-- THE TIED CARD OF 'louvrelaw31.BookRights'. -/
def bookRightsCard : Claim7 := { stood := { row := bookRightsRow, standIns := [], harness := (true, "187e91e4e5154dc8e39b8dd5ec7380bbf60fb8aa6ec324944b924762dd45dce4"), looks := true }, kinds := [], alts := [], laidByText := true, laidKinds := [.data], laidTests := true, laidLooks := .later }
def BookRightsCardSaid : Prop := Claim7.holds Tryz.pinned (.plain (OpenSpec.ofChange bookRightsSpec)) bookRightsCard

/-- THE TIED CARD OF 'louvrelaw34.ReleaseMatches'. -/
def releaseMatchesCard : Claim7 := { stood := { row := releaseMatchesRow, standIns := [], harness := (true, "187e91e4e5154dc8e39b8dd5ec7380bbf60fb8aa6ec324944b924762dd45dce4"), looks := true }, kinds := [], alts := [], laidByText := true, laidKinds := [.data], laidTests := true, laidLooks := .later }
def ReleaseMatchesCardSaid : Prop := Claim7.holds Tryz.pinned (.plain (OpenSpec.ofChange releaseMatchesSpec)) releaseMatchesCard

/-- THE TIED CARD OF 'louvrelaw34.ReleaseStays'. -/
def releaseStaysCard : Claim7 := { stood := { row := releaseStaysRow, standIns := [], harness := (true, "187e91e4e5154dc8e39b8dd5ec7380bbf60fb8aa6ec324944b924762dd45dce4"), looks := true }, kinds := [], alts := [], laidByText := true, laidKinds := [.data], laidTests := true, laidLooks := .later }
def ReleaseStaysCardSaid : Prop := Claim7.holds Tryz.pinned (.plain (OpenSpec.ofChange releaseStaysSpec)) releaseStaysCard

/-- THE TIED CARD OF 'louvrelaw34.ReleaseCovers'. -/
def releaseCoversCard : Claim7 := { stood := { row := releaseCoversRow, standIns := [], harness := (true, "187e91e4e5154dc8e39b8dd5ec7380bbf60fb8aa6ec324944b924762dd45dce4"), looks := true }, kinds := [], alts := [], laidByText := true, laidKinds := [.data], laidTests := true, laidLooks := .later }
def ReleaseCoversCardSaid : Prop := Claim7.holds Tryz.pinned (.plain (OpenSpec.ofChange releaseCoversSpec)) releaseCoversCard

/-- THE SECOND FORM's CARD OF 'louvrelaw31.BookApplies'. -/
def bookAppliesUptoCard : Claim7 := { stood := { row := bookAppliesUptoRow, standIns := [], harness := (true, "187e91e4e5154dc8e39b8dd5ec7380bbf60fb8aa6ec324944b924762dd45dce4"), looks := true }, kinds := [], alts := [], laidByText := true, laidKinds := [.data], laidTests := true, laidLooks := .later }
def BookAppliesUptoCardSaid : Prop := Claim7.holds Tryz.pinned (.plain (OpenSpec.upto bookAppliesSpec)) bookAppliesUptoCard

/-- THE SECOND FORM's CARD OF 'louvrelaw31.BookStatic'. -/
def bookStaticUptoCard : Claim7 := { stood := { row := bookStaticUptoRow, standIns := [], harness := (true, "187e91e4e5154dc8e39b8dd5ec7380bbf60fb8aa6ec324944b924762dd45dce4"), looks := true }, kinds := [], alts := [], laidByText := true, laidKinds := [.data], laidTests := true, laidLooks := .later }
def BookStaticUptoCardSaid : Prop := Claim7.holds Tryz.pinned (.plain (OpenSpec.upto bookStaticSpec)) bookStaticUptoCard

/-- THE SECOND FORM's CARD OF 'louvrelaw31.BookChecks'. -/
def bookChecksUptoCard : Claim7 := { stood := { row := bookChecksUptoRow, standIns := [], harness := (true, "187e91e4e5154dc8e39b8dd5ec7380bbf60fb8aa6ec324944b924762dd45dce4"), looks := true }, kinds := [], alts := [], laidByText := true, laidKinds := [.data], laidTests := true, laidLooks := .later }
def BookChecksUptoCardSaid : Prop := Claim7.holds Tryz.pinned (.plain (OpenSpec.upto bookChecksSpec)) bookChecksUptoCard

/-- THE SECOND FORM's CARD OF 'louvrelaw31.BookSame'. -/
def bookSameUptoCard : Claim7 := { stood := { row := bookSameUptoRow, standIns := [], harness := (true, "187e91e4e5154dc8e39b8dd5ec7380bbf60fb8aa6ec324944b924762dd45dce4"), looks := true }, kinds := [], alts := [], laidByText := true, laidKinds := [.data], laidTests := true, laidLooks := .later }
def BookSameUptoCardSaid : Prop := Claim7.holds Tryz.pinned (.plain (OpenSpec.upto bookSameSpec)) bookSameUptoCard

/-- THE SECOND FORM's CARD OF 'louvrelaw31.BookRights'. -/
def bookRightsUptoCard : Claim7 := { stood := { row := bookRightsUptoRow, standIns := [], harness := (true, "187e91e4e5154dc8e39b8dd5ec7380bbf60fb8aa6ec324944b924762dd45dce4"), looks := true }, kinds := [], alts := [], laidByText := true, laidKinds := [.data], laidTests := true, laidLooks := .later }
def BookRightsUptoCardSaid : Prop := Claim7.holds Tryz.pinned (.plain (OpenSpec.upto bookRightsSpec)) bookRightsUptoCard

/-- THE SECOND FORM's CARD OF 'louvrelaw34.ReleaseMatches'. -/
def releaseMatchesUptoCard : Claim7 := { stood := { row := releaseMatchesUptoRow, standIns := [], harness := (true, "187e91e4e5154dc8e39b8dd5ec7380bbf60fb8aa6ec324944b924762dd45dce4"), looks := true }, kinds := [], alts := [], laidByText := true, laidKinds := [.data], laidTests := true, laidLooks := .later }
def ReleaseMatchesUptoCardSaid : Prop := Claim7.holds Tryz.pinned (.plain (OpenSpec.upto releaseMatchesSpec)) releaseMatchesUptoCard

/-- THE SECOND FORM's CARD OF 'louvrelaw34.ReleaseStays'. -/
def releaseStaysUptoCard : Claim7 := { stood := { row := releaseStaysUptoRow, standIns := [], harness := (true, "187e91e4e5154dc8e39b8dd5ec7380bbf60fb8aa6ec324944b924762dd45dce4"), looks := true }, kinds := [], alts := [], laidByText := true, laidKinds := [.data], laidTests := true, laidLooks := .later }
def ReleaseStaysUptoCardSaid : Prop := Claim7.holds Tryz.pinned (.plain (OpenSpec.upto releaseStaysSpec)) releaseStaysUptoCard

/-- THE SECOND FORM's CARD OF 'louvrelaw34.ReleaseCovers'. -/
def releaseCoversUptoCard : Claim7 := { stood := { row := releaseCoversUptoRow, standIns := [], harness := (true, "187e91e4e5154dc8e39b8dd5ec7380bbf60fb8aa6ec324944b924762dd45dce4"), looks := true }, kinds := [], alts := [], laidByText := true, laidKinds := [.data], laidTests := true, laidLooks := .later }
def ReleaseCoversUptoCardSaid : Prop := Claim7.holds Tryz.pinned (.plain (OpenSpec.upto releaseCoversSpec)) releaseCoversUptoCard
end Rows
end Go.Proofs.YtpmjbobgglgnaaaGreatDoor
