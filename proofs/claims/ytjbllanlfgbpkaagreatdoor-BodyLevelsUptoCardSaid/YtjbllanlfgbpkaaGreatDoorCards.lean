/-
  DERIVED. GIVEN WITH THE SEED: THE CARDS: each row of YtjbllanlfgbpkaaGreatDoorRows.lean that lists a variable, with what it lists TIED to the program's text (the seventh form; the later family's looks); each row that meets fmt, with fmt's text TOLD by the authors' own Lean function (tested against real Go, not proved from fmt's source: count such statements apart). THE CARD IS WHAT COUNTS. Prove the row's statement (the work); the ties are given (YtjbllanlfgbpkaaGreatDoorTie.lean); close each card by the builder's one call (the guide's Derived/Test/ToyasCard.lean, 'card_holds'). Laid BY PROGRAM, IN A SANDBOX (cutbox-door.mjs). By AI agents, Wed Nov 11 2026. No macro, syntax, notation, axiom, sorry.
-/
import Derived.Test.YtjbllanlfgbpkaaGreatDoorRows
import GoSem.ClaimSeven
namespace Go.Proofs.YtjbllanlfgbpkaaGreatDoor
namespace Rows

/-- THE TIED CARD OF 'missivelaw14.BodyClean'. -/
def bodyCleanCard : Claim7 := { stood := { row := bodyCleanRow, standIns := [], harness := (true, "abc12a018b6851116641e57af5560e53cd53892404a54c6793f6a79a55cffc58"), looks := true }, kinds := [], alts := [], laidByText := true, laidKinds := [.data, .data, .data, .data, .sentinel, .sentinel, .data, .data, .pinned], laidTests := true, laidLooks := .later }
def BodyCleanCardSaid : Prop := Claim7.holds Tryz.pinned (.plain (OpenSpec.ofChange bodyCleanSpec)) bodyCleanCard

/-- THE TIED CARD OF 'missivelaw14.BodyEscapes'. -/
def bodyEscapesCard : Claim7 := { stood := { row := bodyEscapesRow, standIns := [], harness := (true, "abc12a018b6851116641e57af5560e53cd53892404a54c6793f6a79a55cffc58"), looks := true }, kinds := [], alts := [], laidByText := true, laidKinds := [.data, .data, .data, .data, .sentinel, .sentinel, .data, .data, .pinned], laidTests := true, laidLooks := .later }
def BodyEscapesCardSaid : Prop := Claim7.holds Tryz.pinned (.plain (OpenSpec.ofChange bodyEscapesSpec)) bodyEscapesCard

/-- THE TIED CARD OF 'missivelaw14.BodyLevels'. -/
def bodyLevelsCard : Claim7 := { stood := { row := bodyLevelsRow, standIns := [], harness := (true, "abc12a018b6851116641e57af5560e53cd53892404a54c6793f6a79a55cffc58"), looks := true }, kinds := [], alts := [], laidByText := true, laidKinds := [.data, .data, .data, .data, .sentinel, .sentinel, .data, .data, .pinned], laidTests := true, laidLooks := .later }
def BodyLevelsCardSaid : Prop := Claim7.holds Tryz.pinned (.plain (OpenSpec.ofChange bodyLevelsSpec)) bodyLevelsCard

/-- THE TIED CARD OF 'missivelaw14.BodyParts'. -/
def bodyPartsCard : Claim7 := { stood := { row := bodyPartsRow, standIns := [], harness := (true, "abc12a018b6851116641e57af5560e53cd53892404a54c6793f6a79a55cffc58"), looks := true }, kinds := [], alts := [], laidByText := true, laidKinds := [.data, .data, .data, .data, .sentinel, .sentinel, .data, .data, .pinned], laidTests := true, laidLooks := .later }
def BodyPartsCardSaid : Prop := Claim7.holds Tryz.pinned (.plain (OpenSpec.ofChange bodyPartsSpec)) bodyPartsCard

/-- THE TIED CARD OF 'missivelaw14.BodyCarries'. -/
def bodyCarriesCard : Claim7 := { stood := { row := bodyCarriesRow, standIns := [], harness := (true, "abc12a018b6851116641e57af5560e53cd53892404a54c6793f6a79a55cffc58"), looks := true }, kinds := [], alts := [], laidByText := true, laidKinds := [.data, .data, .data, .data, .sentinel, .sentinel, .data, .data, .pinned], laidTests := true, laidLooks := .later }
def BodyCarriesCardSaid : Prop := Claim7.holds Tryz.pinned (.plain (OpenSpec.ofChange bodyCarriesSpec)) bodyCarriesCard

/-- THE SECOND FORM's CARD OF 'missivelaw14.BodyClean'. -/
def bodyCleanUptoCard : Claim7 := { stood := { row := bodyCleanUptoRow, standIns := [], harness := (true, "abc12a018b6851116641e57af5560e53cd53892404a54c6793f6a79a55cffc58"), looks := true }, kinds := [], alts := [], laidByText := true, laidKinds := [.data, .data, .data, .data, .sentinel, .sentinel, .data, .data, .pinned], laidTests := true, laidLooks := .later }
def BodyCleanUptoCardSaid : Prop := Claim7.holds Tryz.pinned (.plain (OpenSpec.upto bodyCleanSpec)) bodyCleanUptoCard

/-- THE SECOND FORM's CARD OF 'missivelaw14.BodyEscapes'. -/
def bodyEscapesUptoCard : Claim7 := { stood := { row := bodyEscapesUptoRow, standIns := [], harness := (true, "abc12a018b6851116641e57af5560e53cd53892404a54c6793f6a79a55cffc58"), looks := true }, kinds := [], alts := [], laidByText := true, laidKinds := [.data, .data, .data, .data, .sentinel, .sentinel, .data, .data, .pinned], laidTests := true, laidLooks := .later }
def BodyEscapesUptoCardSaid : Prop := Claim7.holds Tryz.pinned (.plain (OpenSpec.upto bodyEscapesSpec)) bodyEscapesUptoCard

/-- THE SECOND FORM's CARD OF 'missivelaw14.BodyLevels'. -/
def bodyLevelsUptoCard : Claim7 := { stood := { row := bodyLevelsUptoRow, standIns := [], harness := (true, "abc12a018b6851116641e57af5560e53cd53892404a54c6793f6a79a55cffc58"), looks := true }, kinds := [], alts := [], laidByText := true, laidKinds := [.data, .data, .data, .data, .sentinel, .sentinel, .data, .data, .pinned], laidTests := true, laidLooks := .later }
def BodyLevelsUptoCardSaid : Prop := Claim7.holds Tryz.pinned (.plain (OpenSpec.upto bodyLevelsSpec)) bodyLevelsUptoCard

/-- THE SECOND FORM's CARD OF 'missivelaw14.BodyParts'. -/
def bodyPartsUptoCard : Claim7 := { stood := { row := bodyPartsUptoRow, standIns := [], harness := (true, "abc12a018b6851116641e57af5560e53cd53892404a54c6793f6a79a55cffc58"), looks := true }, kinds := [], alts := [], laidByText := true, laidKinds := [.data, .data, .data, .data, .sentinel, .sentinel, .data, .data, .pinned], laidTests := true, laidLooks := .later }
def BodyPartsUptoCardSaid : Prop := Claim7.holds Tryz.pinned (.plain (OpenSpec.upto bodyPartsSpec)) bodyPartsUptoCard

/-- THE SECOND FORM's CARD OF 'missivelaw14.BodyCarries'. -/
def bodyCarriesUptoCard : Claim7 := { stood := { row := bodyCarriesUptoRow, standIns := [], harness := (true, "abc12a018b6851116641e57af5560e53cd53892404a54c6793f6a79a55cffc58"), looks := true }, kinds := [], alts := [], laidByText := true, laidKinds := [.data, .data, .data, .data, .sentinel, .sentinel, .data, .data, .pinned], laidTests := true, laidLooks := .later }
def BodyCarriesUptoCardSaid : Prop := Claim7.holds Tryz.pinned (.plain (OpenSpec.upto bodyCarriesSpec)) bodyCarriesUptoCard
end Rows
end Go.Proofs.YtjbllanlfgbpkaaGreatDoor
