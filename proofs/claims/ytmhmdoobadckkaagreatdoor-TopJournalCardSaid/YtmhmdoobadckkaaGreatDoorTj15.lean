/- Own texts, joined: TopJL. -/
import Derived.Test.YtmhmdoobadckkaaGreatDoorTj14
/- TopJournal: the walk, as the row's frame takes it. -/
namespace Go.Proofs.YtmhmdoobadckkaaGreatDoor
set_option maxRecDepth 20000
open Go.RowKit Go.OpenShut

theorem topJournal_law (A : Option Addr) (n c : Nat) (xs : List ByteArray) (at_ : Int) (d : ByteArray) (w : World) (hx : StrsIn w A n c xs) (ha : (Lit.int .u8 at_).wf = true) (hd : d.size ≤ maxLen) :
    Calls Tryz.prog 3 #[.slice A n c, .int .u8 at_, .string d] w fun e w' => e = .returned (.bool true) ∧ Below w.heap.size w w' :=
  topJournal_walk A n c at_ d xs w hx ha hd
end Go.Proofs.YtmhmdoobadckkaaGreatDoor
