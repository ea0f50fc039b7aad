/- The closed facts of 'revetmenttop.TopJournal', each a theorem of its own (the kernel gives its memory back behind each). -/
import Derived.Test.YtmhmdoobadckkaaGreatDoorProg
import Derived.Test.YtmhmdoobadckkaaGreatDoorTie
import Derived.Test.YtmhmdoobadckkaaGreatDoorRows
import Derived.Test.YtmhmdoobadckkaaGreatDoorCards
import Derived.WalkKit
import Derived.ProofKit
import Derived.JoinedOf
import Derived.SevenTiedAt
namespace Go.Proofs.YtmhmdoobadckkaaGreatDoor.topJournal
open Go.ChangeShapes Go.WideShapes Go.ChangeAt Go.RowKit
theorem and_tt {a b : Bool} (h1 : a = true) (h2 : b = true) : (a && b) = true := by rw [h1, h2]; rfl
theorem cf_inPlace : (Rows.topJournalRow.inPlace == Tryz.prog.inPlace 3) = true := by kernel_rfl
theorem cf_unfollowed : (Rows.topJournalRow.unfollowed == Tryz.prog.unfollowed 3) = true := by kernel_rfl
theorem cf_recurses : (Rows.topJournalRow.recurses == Tryz.prog.recurses 3) = true := by kernel_rfl
theorem cf_named : (Rows.topJournalRow.named == Tryz.prog.varsNamed 3) = true := by kernel_rfl
set_option maxHeartbeats 100000000 in
theorem cf_joined : joinedFacts Tryz.prog 3 Tryz.f3 Rows.topJournalSpec Rows.topJournalRow = true := by
  unfold joinedFacts
  repeat' (with_reducible apply and_tt)
  all_goals first | with_reducible exact cf_inPlace | with_reducible exact cf_unfollowed | with_reducible exact cf_recurses | with_reducible exact cf_named | (as_aux_lemma => kernel_rfl)
theorem cf_func : Tryz.prog.funcNamed "revetment/revetmenttop.TopJournal" = some 3 := by kernel_rfl
theorem cf_func2 : Tryz.prog.funcNamed Rows.topJournalRow.func = some 3 := by kernel_rfl
theorem cf_wf : Rows.topJournalRow.wfByText (OpenSpec.ofChange Rows.topJournalSpec) = true := by kernel_rfl
theorem cf_main : Tryz.prog.mainIs = some (true, "f2bed20debb28d0d608d006ee409374b488e30e1ee296e9a7ebaa16a81e3abe6".toList) := by kernel_rfl
theorem cf_looks : false = Tryz.prog.looks [] := by kernel_rfl
theorem cf_hall : ([22, 5, 9].all fun u => !Tryz.prog.wantsStandIn u) = true := by kernel_rfl
theorem cf_goes : false = Rows.topJournalRow.goesBy Tryz.prog := by kernel_rfl
theorem cf_inst : Tryz.f3.isInstance Tryz.prog Rows.topJournalRow.origin Rows.topJournalRow.targs := of_decide_eq_true (by kernel_rfl)
theorem cf_wrap : Tryz.f3.isWrapper Tryz.prog Rows.topJournalRow.wrapper Rows.topJournalRow.mainSum := by unfold Func.isWrapper; first | (rw [if_pos (by decide +kernel)]; kernel_rfl) | (rw [if_neg (by decide +kernel)]; exact ⟨rfl, rfl⟩)
end Go.Proofs.YtmhmdoobadckkaaGreatDoor.topJournal
