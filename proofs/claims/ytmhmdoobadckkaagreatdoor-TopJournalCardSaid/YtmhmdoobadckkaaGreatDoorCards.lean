/-
  DERIVED. GIVEN WITH THE SEED: THE CARDS: each row of YtmhmdoobadckkaaGreatDoorRows.lean that lists a variable, with what it lists TIED to the program's text (the seventh form; the later family's looks); each row that meets fmt, with fmt's text TOLD by the authors' own Lean function (tested against real Go, not proved from fmt's source: count such statements apart). THE CARD IS WHAT COUNTS. Prove the row's statement (the work); the ties are given (YtmhmdoobadckkaaGreatDoorTie.lean); close each card by the builder's one call (the guide's Derived/Test/ToyasCard.lean, 'card_holds'). Laid BY PROGRAM, IN A SANDBOX (cutbox-door.mjs). By AI agents, Wed Nov 11 2026. No macro, syntax, notation, axiom, sorry.
-/
import Derived.Test.YtmhmdoobadckkaaGreatDoorRows
import GoSem.ClaimSeven
namespace Go.Proofs.YtmhmdoobadckkaaGreatDoor
namespace Rows

/-- THE TIED CARD OF 'revetmenttop.TopJournal'. -/
def topJournalCard : Claim7 := { stood := { row := topJournalRow, standIns := [], harness := (true, "f2bed20debb28d0d608d006ee409374b488e30e1ee296e9a7ebaa16a81e3abe6"), looks := false }, kinds := [], alts := [], laidByText := true, laidKinds := [.data, .data, .pinned], laidTests := true, laidLooks := .later }
def TopJournalCardSaid : Prop := Claim7.holds Tryz.pinned (.plain (OpenSpec.ofChange topJournalSpec)) topJournalCard

/-- THE TIED CARD OF 'revetmenttop.TopGood'. -/
def topGoodCard : Claim7 := { stood := { row := topGoodRow, standIns := [], harness := (true, "f2bed20debb28d0d608d006ee409374b488e30e1ee296e9a7ebaa16a81e3abe6"), looks := false }, kinds := [], alts := [], laidByText := true, laidKinds := [.data, .data, .pinned], laidTests := true, laidLooks := .later }
def TopGoodCardSaid : Prop := Claim7.holds Tryz.pinned (.plain (OpenSpec.ofChange topGoodSpec)) topGoodCard

/-- THE TIED CARD OF 'revetmenttop.TopTwice'. -/
def topTwiceCard : Claim7 := { stood := { row := topTwiceRow, standIns := [], harness := (true, "f2bed20debb28d0d608d006ee409374b488e30e1ee296e9a7ebaa16a81e3abe6"), looks := false }, kinds := [], alts := [], laidByText := true, laidKinds := [.data, .data, .pinned], laidTests := true, laidLooks := .later }
def TopTwiceCardSaid : Prop := Claim7.holds Tryz.pinned (.plain (OpenSpec.ofChange topTwiceSpec)) topTwiceCard

/-- THE TIED CARD OF 'revetmentlaw21.ArrayHolds'. -/
def arrayHoldsCard : Claim7 := { stood := { row := arrayHoldsRow, standIns := [], harness := (true, "f2bed20debb28d0d608d006ee409374b488e30e1ee296e9a7ebaa16a81e3abe6"), looks := false }, kinds := [], alts := [], laidByText := true, laidKinds := [.data], laidTests := true, laidLooks := .later }
def ArrayHoldsCardSaid : Prop := Claim7.holds Tryz.pinned (.plain (OpenSpec.ofChange arrayHoldsSpec)) arrayHoldsCard

/-- THE TIED CARD OF 'revetmentlaw21.ArraySizes'. -/
def arraySizesCard : Claim7 := { stood := { row := arraySizesRow, standIns := [], harness := (true, "f2bed20debb28d0d608d006ee409374b488e30e1ee296e9a7ebaa16a81e3abe6"), looks := false }, kinds := [], alts := [], laidByText := true, laidKinds := [.data], laidTests := true, laidLooks := .later }
def ArraySizesCardSaid : Prop := Claim7.holds Tryz.pinned (.plain (OpenSpec.ofChange arraySizesSpec)) arraySizesCard

/-- THE TIED CARD OF 'revetmentlaw21.ArrayFails'. -/
def arrayFailsCard : Claim7 := { stood := { row := arrayFailsRow, standIns := [], harness := (true, "f2bed20debb28d0d608d006ee409374b488e30e1ee296e9a7ebaa16a81e3abe6"), looks := false }, kinds := [], alts := [], laidByText := true, laidKinds := [.data], laidTests := true, laidLooks := .later }
def ArrayFailsCardSaid : Prop := Claim7.holds Tryz.pinned (.plain (OpenSpec.ofChange arrayFailsSpec)) arrayFailsCard

/-- THE TIED CARD OF 'revetmentlaw21.ArrayStatus'. -/
def arrayStatusCard : Claim7 := { stood := { row := arrayStatusRow, standIns := [], harness := (true, "f2bed20debb28d0d608d006ee409374b488e30e1ee296e9a7ebaa16a81e3abe6"), looks := false }, kinds := [], alts := [], laidByText := true, laidKinds := [.data, .data, .pinned], laidTests := true, laidLooks := .later }
def ArrayStatusCardSaid : Prop := Claim7.holds Tryz.pinned (.plain (OpenSpec.ofChange arrayStatusSpec)) arrayStatusCard

/-- THE TIED CARD OF 'revetmentlaw21.ArrayFlat'. -/
def arrayFlatCard : Claim7 := { stood := { row := arrayFlatRow, standIns := [], harness := (true, "f2bed20debb28d0d608d006ee409374b488e30e1ee296e9a7ebaa16a81e3abe6"), looks := false }, kinds := [], alts := [], laidByText := true, laidKinds := [.data, .data, .pinned], laidTests := true, laidLooks := .later }
def ArrayFlatCardSaid : Prop := Claim7.holds Tryz.pinned (.plain (OpenSpec.ofChange arrayFlatSpec)) arrayFlatCard

/-- THE TIED CARD OF 'revetmentlaw21.ArrayMends'. -/
def arrayMendsCard : Claim7 := { stood := { row := arrayMendsRow, standIns := [], harness := (true, "f2bed20debb28d0d608d006ee409374b488e30e1ee296e9a7ebaa16a81e3abe6"), looks := false }, kinds := [], alts := [], laidByText := true, laidKinds := [.data, .data, .pinned], laidTests := true, laidLooks := .later }
def ArrayMendsCardSaid : Prop := Claim7.holds Tryz.pinned (.plain (OpenSpec.ofChange arrayMendsSpec)) arrayMendsCard

/-- THE TIED CARD OF 'revetmentlaw21.ArrayGrows'. -/
def arrayGrowsCard : Claim7 := { stood := { row := arrayGrowsRow, standIns := [], harness := (true, "f2bed20debb28d0d608d006ee409374b488e30e1ee296e9a7ebaa16a81e3abe6"), looks := false }, kinds := [], alts := [], laidByText := true, laidKinds := [.data, .data, .pinned], laidTests := true, laidLooks := .later }
def ArrayGrowsCardSaid : Prop := Claim7.holds Tryz.pinned (.plain (OpenSpec.ofChange arrayGrowsSpec)) arrayGrowsCard

/-- THE TIED CARD OF 'revetmentlaw21.ArrayScrubs'. -/
def arrayScrubsCard : Claim7 := { stood := { row := arrayScrubsRow, standIns := [], harness := (true, "f2bed20debb28d0d608d006ee409374b488e30e1ee296e9a7ebaa16a81e3abe6"), looks := false }, kinds := [], alts := [], laidByText := true, laidKinds := [.data, .data, .pinned], laidTests := true, laidLooks := .later }
def ArrayScrubsCardSaid : Prop := Claim7.holds Tryz.pinned (.plain (OpenSpec.ofChange arrayScrubsSpec)) arrayScrubsCard

/-- THE TIED CARD OF 'revetmenttop.TopForgets'. -/
def topForgetsCard : Claim7 := { stood := { row := topForgetsRow, standIns := [], harness := (true, "f2bed20debb28d0d608d006ee409374b488e30e1ee296e9a7ebaa16a81e3abe6"), looks := false }, kinds := [], alts := [], laidByText := true, laidKinds := [.data, .data, .pinned], laidTests := true, laidLooks := .later }
def TopForgetsCardSaid : Prop := Claim7.holds Tryz.pinned (.plain (OpenSpec.ofChange topForgetsSpec)) topForgetsCard

/-- THE SECOND FORM's CARD OF 'revetmenttop.TopJournal'. -/
def topJournalUptoCard : Claim7 := { stood := { row := topJournalUptoRow, standIns := [], harness := (true, "f2bed20debb28d0d608d006ee409374b488e30e1ee296e9a7ebaa16a81e3abe6"), looks := false }, kinds := [], alts := [], laidByText := true, laidKinds := [.data, .data, .pinned], laidTests := true, laidLooks := .later }
def TopJournalUptoCardSaid : Prop := Claim7.holds Tryz.pinned (.plain (OpenSpec.upto topJournalSpec)) topJournalUptoCard

/-- THE SECOND FORM's CARD OF 'revetmenttop.TopGood'. -/
def topGoodUptoCard : Claim7 := { stood := { row := topGoodUptoRow, standIns := [], harness := (true, "f2bed20debb28d0d608d006ee409374b488e30e1ee296e9a7ebaa16a81e3abe6"), looks := false }, kinds := [], alts := [], laidByText := true, laidKinds := [.data, .data, .pinned], laidTests := true, laidLooks := .later }
def TopGoodUptoCardSaid : Prop := Claim7.holds Tryz.pinned (.plain (OpenSpec.upto topGoodSpec)) topGoodUptoCard

/-- THE SECOND FORM's CARD OF 'revetmenttop.TopTwice'. -/
def topTwiceUptoCard : Claim7 := { stood := { row := topTwiceUptoRow, standIns := [], harness := (true, "f2bed20debb28d0d608d006ee409374b488e30e1ee296e9a7ebaa16a81e3abe6"), looks := false }, kinds := [], alts := [], laidByText := true, laidKinds := [.data, .data, .pinned], laidTests := true, laidLooks := .later }
def TopTwiceUptoCardSaid : Prop := Claim7.holds Tryz.pinned (.plain (OpenSpec.upto topTwiceSpec)) topTwiceUptoCard

/-- THE SECOND FORM's CARD OF 'revetmentlaw21.ArrayHolds'. -/
def arrayHoldsUptoCard : Claim7 := { stood := { row := arrayHoldsUptoRow, standIns := [], harness := (true, "f2bed20debb28d0d608d006ee409374b488e30e1ee296e9a7ebaa16a81e3abe6"), looks := false }, kinds := [], alts := [], laidByText := true, laidKinds := [.data], laidTests := true, laidLooks := .later }
def ArrayHoldsUptoCardSaid : Prop := Claim7.holds Tryz.pinned (.plain (OpenSpec.upto arrayHoldsSpec)) arrayHoldsUptoCard

/-- THE SECOND FORM's CARD OF 'revetmentlaw21.ArraySizes'. -/
def arraySizesUptoCard : Claim7 := { stood := { row := arraySizesUptoRow, standIns := [], harness := (true, "f2bed20debb28d0d608d006ee409374b488e30e1ee296e9a7ebaa16a81e3abe6"), looks := false }, kinds := [], alts := [], laidByText := true, laidKinds := [.data], laidTests := true, laidLooks := .later }
def ArraySizesUptoCardSaid : Prop := Claim7.holds Tryz.pinned (.plain (OpenSpec.upto arraySizesSpec)) arraySizesUptoCard

/-- THE SECOND FORM's CARD OF 'revetmentlaw21.ArrayFails'. -/
def arrayFailsUptoCard : Claim7 := { stood := { row := arrayFailsUptoRow, standIns := [], harness := (true, "f2bed20debb28d0d608d006ee409374b488e30e1ee296e9a7ebaa16a81e3abe6"), looks := false }, kinds := [], alts := [], laidByText := true, laidKinds := [.data], laidTests := true, laidLooks := .later }
def ArrayFailsUptoCardSaid : Prop := Claim7.holds Tryz.pinned (.plain (OpenSpec.upto arrayFailsSpec)) arrayFailsUptoCard

/-- THE SECOND FORM's CARD OF 'revetmentlaw21.ArrayStatus'. -/
def arrayStatusUptoCard : Claim7 := { stood := { row := arrayStatusUptoRow, standIns := [], harness := (true, "f2bed20debb28d0d608d006ee409374b488e30e1ee296e9a7ebaa16a81e3abe6"), looks := false }, kinds := [], alts := [], laidByText := true, laidKinds := [.data, .data, .pinned], laidTests := true, laidLooks := .later }
def ArrayStatusUptoCardSaid : Prop := Claim7.holds Tryz.pinned (.plain (OpenSpec.upto arrayStatusSpec)) arrayStatusUptoCard

/-- THE SECOND FORM's CARD OF 'revetmentlaw21.ArrayFlat'. -/
def arrayFlatUptoCard : Claim7 := { stood := { row := arrayFlatUptoRow, standIns := [], harness := (true, "f2bed20debb28d0d608d006ee409374b488e30e1ee296e9a7ebaa16a81e3abe6"), looks := false }, kinds := [], alts := [], laidByText := true, laidKinds := [.data, .data, .pinned], laidTests := true, laidLooks := .later }
def ArrayFlatUptoCardSaid : Prop := Claim7.holds Tryz.pinned (.plain (OpenSpec.upto arrayFlatSpec)) arrayFlatUptoCard

/-- THE SECOND FORM's CARD OF 'revetmentlaw21.ArrayMends'. -/
def arrayMendsUptoCard : Claim7 := { stood := { row := arrayMendsUptoRow, standIns := [], harness := (true, "f2bed20debb28d0d608d006ee409374b488e30e1ee296e9a7ebaa16a81e3abe6"), looks := false }, kinds := [], alts := [], laidByText := true, laidKinds := [.data, .data, .pinned], laidTests := true, laidLooks := .later }
def ArrayMendsUptoCardSaid : Prop := Claim7.holds Tryz.pinned (.plain (OpenSpec.upto arrayMendsSpec)) arrayMendsUptoCard

/-- THE SECOND FORM's CARD OF 'revetmentlaw21.ArrayGrows'. -/
def arrayGrowsUptoCard : Claim7 := { stood := { row := arrayGrowsUptoRow, standIns := [], harness := (true, "f2bed20debb28d0d608d006ee409374b488e30e1ee296e9a7ebaa16a81e3abe6"), looks := false }, kinds := [], alts := [], laidByText := true, laidKinds := [.data, .data, .pinned], laidTests := true, laidLooks := .later }
def ArrayGrowsUptoCardSaid : Prop := Claim7.holds Tryz.pinned (.plain (OpenSpec.upto arrayGrowsSpec)) arrayGrowsUptoCard

/-- THE SECOND FORM's CARD OF 'revetmentlaw21.ArrayScrubs'. -/
def arrayScrubsUptoCard : Claim7 := { stood := { row := arrayScrubsUptoRow, standIns := [], harness := (true, "f2bed20debb28d0d608d006ee409374b488e30e1ee296e9a7ebaa16a81e3abe6"), looks := false }, kinds := [], alts := [], laidByText := true, laidKinds := [.data, .data, .pinned], laidTests := true, laidLooks := .later }
def ArrayScrubsUptoCardSaid : Prop := Claim7.holds Tryz.pinned (.plain (OpenSpec.upto arrayScrubsSpec)) arrayScrubsUptoCard

/-- THE SECOND FORM's CARD OF 'revetmenttop.TopForgets'. -/
def topForgetsUptoCard : Claim7 := { stood := { row := topForgetsUptoRow, standIns := [], harness := (true, "f2bed20debb28d0d608d006ee409374b488e30e1ee296e9a7ebaa16a81e3abe6"), looks := false }, kinds := [], alts := [], laidByText := true, laidKinds := [.data, .data, .pinned], laidTests := true, laidLooks := .later }
def TopForgetsUptoCardSaid : Prop := Claim7.holds Tryz.pinned (.plain (OpenSpec.upto topForgetsSpec)) topForgetsUptoCard
end Rows
end Go.Proofs.YtmhmdoobadckkaaGreatDoor
