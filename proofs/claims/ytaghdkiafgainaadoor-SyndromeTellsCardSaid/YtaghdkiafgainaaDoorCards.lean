/-
  DERIVED. GIVEN WITH THE SEED: THE CARDS: each row of YtaghdkiafgainaaDoorRows.lean that lists a variable, with what it lists TIED to the program's text (the seventh form; the later family's looks); each row that meets fmt, with fmt's text TOLD by the authors' own Lean function (tested against real Go, not proved from fmt's source: count such statements apart). THE CARD IS WHAT COUNTS. Prove the row's statement (the work); the ties are given (YtaghdkiafgainaaDoorTie.lean); close each card by the builder's one call (the guide's Derived/Test/ToyasCard.lean, 'card_holds'). Laid BY PROGRAM, IN A SANDBOX (cutbox-door.mjs). By AI agents, Wed Nov 11 2026. No macro, syntax, notation, axiom, sorry.
-/
import Derived.Test.YtaghdkiafgainaaDoorRows
import GoSem.ClaimSeven
namespace Go.Proofs.YtaghdkiafgainaaDoor
namespace Rows

/-- THE TIED CARD OF 'revetmentlaw05.SyndromeGood'. -/
def syndromeGoodCard : Claim7 := { stood := { row := syndromeGoodRow, standIns := [], harness := (true, "c2e2388c174cca339e004aa2b050ed29f70ca9f0307cdf751a4a8db6d463489a"), looks := false }, kinds := [], alts := [], laidByText := true, laidKinds := [.data, .pinned], laidTests := true, laidLooks := .later }
def SyndromeGoodCardSaid : Prop := Claim7.holds Tryd.pinned (.plain (OpenSpec.ofChange syndromeGoodSpec)) syndromeGoodCard

/-- THE TIED CARD OF 'revetmentlaw05.SyndromeTells'. -/
def syndromeTellsCard : Claim7 := { stood := { row := syndromeTellsRow, standIns := [], harness := (true, "c2e2388c174cca339e004aa2b050ed29f70ca9f0307cdf751a4a8db6d463489a"), looks := false }, kinds := [], alts := [], laidByText := true, laidKinds := [.data, .pinned], laidTests := true, laidLooks := .later }
def SyndromeTellsCardSaid : Prop := Claim7.holds Tryd.pinned (.plain (OpenSpec.ofChange syndromeTellsSpec)) syndromeTellsCard

/-- THE SECOND FORM's CARD OF 'revetmentlaw05.SyndromeGood'. -/
def syndromeGoodUptoCard : Claim7 := { stood := { row := syndromeGoodUptoRow, standIns := [], harness := (true, "c2e2388c174cca339e004aa2b050ed29f70ca9f0307cdf751a4a8db6d463489a"), looks := false }, kinds := [], alts := [], laidByText := true, laidKinds := [.data, .pinned], laidTests := true, laidLooks := .later }
def SyndromeGoodUptoCardSaid : Prop := Claim7.holds Tryd.pinned (.plain (OpenSpec.upto syndromeGoodSpec)) syndromeGoodUptoCard

/-- THE SECOND FORM's CARD OF 'revetmentlaw05.SyndromeTells'. -/
def syndromeTellsUptoCard : Claim7 := { stood := { row := syndromeTellsUptoRow, standIns := [], harness := (true, "c2e2388c174cca339e004aa2b050ed29f70ca9f0307cdf751a4a8db6d463489a"), looks := false }, kinds := [], alts := [], laidByText := true, laidKinds := [.data, .pinned], laidTests := true, laidLooks := .later }
def SyndromeTellsUptoCardSaid : Prop := Claim7.holds Tryd.pinned (.plain (OpenSpec.upto syndromeTellsSpec)) syndromeTellsUptoCard
end Rows
end Go.Proofs.YtaghdkiafgainaaDoor
