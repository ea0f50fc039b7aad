/- super's parts, and their widths. -/
import Derived.Test.YtfoflbbeckepoaaSuMay
import Derived.Test.YtfoflbbeckepoaaPDec
import Derived.Test.YtfoflbbeckepoaaNF
namespace Go.Proofs.Ytfoflbbeckepoaa
open Go.RowKit Go.OpenShut

def partCells (g : Nat) (cl : Value) : Array Value := #[.pointer (some ⟨g, 2, none⟩), .int .i64 1, .pointer (some ⟨g, 3, none⟩), .int .i64 1, .pointer (some ⟨g, 4, none⟩), .int .i64 1, .pointer (some ⟨g, 5, none⟩), .int .i64 2, cl, .int .i64 1, .pointer (some ⟨g, 7, none⟩), .int .i64 2, .pointer (some ⟨g, 8, none⟩), .int .i64 1, .pointer (some ⟨g, 9, none⟩), .int .i64 2]
set_option maxHeartbeats 2000000 in
theorem parts_any (w : World) (g : Nat) (cl : Option Addr) :
    Calls Try.prog 19 #[.pointer (some ⟨g, 0, none⟩), .pointer cl] w fun e w' => e = .returned (.slice (some ⟨w.heap.size, 0, none⟩) 8 8) ∧ w' = w.drew.alloc (.cells (partCells g (.pointer cl)) 53) := by
  go_enter Try.func19, Try.ntmps19
  go_wp2_with fail
  refine wp_region_nf (fun _ => True) (fun _ => false) ((List.range 33).map (fun i => (i, true)) ++ [(33, false), (34, true)]) (by kernel_rfl) rfl (by kernel_rfl) (by kernel_rfl) (fun d _ _ _ _ h => by cases d <;> exact h) ?_
  repeat (refine nf_pure rfl trivial (fun w1 _ => by go_wp2; exact ⟨rfl, rfl, rfl⟩) rfl ?_ ?_; rfl)
  refine nf_imp rfl ?_
  go_wp2_with fail
  refine ⟨fun _ => trivial, ?_⟩
  repeat (refine nf_pure rfl trivial (fun w1 _ => by go_wp2; exact ⟨rfl, rfl, rfl⟩) rfl ?_ ?_; rfl)
  refine nf_nil ?_
  go_wp2_with fail
  go_ret
  exact ⟨rfl, rfl⟩
end Go.Proofs.Ytfoflbbeckepoaa
