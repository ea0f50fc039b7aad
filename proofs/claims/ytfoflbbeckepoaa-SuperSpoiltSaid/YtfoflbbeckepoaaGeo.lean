/- layout.Check: which geometries may be. -/
import Derived.Test.YtfoflbbeckepoaaB1
namespace Go.Proofs.Ytfoflbbeckepoaa
open Go.RowKit Go.OpenShut

def geoOK (c k r : Int) : Bool := decide (4 ≤ c ∧ c ≤ 10) && decide (1 ≤ k ∧ k ≤ 4) && decide (1 ≤ r ∧ r ≤ 256)
def geoE (c k r : Int) : Int := if geoOK c k r then 0 else 1
theorem geoOK_iff (c k r : Int) : geoOK c k r = true ↔ (4 ≤ c ∧ c ≤ 10) ∧ (1 ≤ k ∧ k ≤ 4) ∧ (1 ≤ r ∧ r ≤ 256) := by
  simp [geoOK, and_assoc]
theorem geoE_no {c k r : Int} (h : ¬ ((4 ≤ c ∧ c ≤ 10) ∧ (1 ≤ k ∧ k ≤ 4) ∧ (1 ≤ r ∧ r ≤ 256))) : geoE c k r = 1 := by
  unfold geoE
  rw [if_neg (fun e => h ((geoOK_iff c k r).1 e))]
theorem geoE_yes {c k r : Int} (h : (4 ≤ c ∧ c ≤ 10) ∧ (1 ≤ k ∧ k ≤ 4) ∧ (1 ≤ r ∧ r ≤ 256)) : geoE c k r = 0 := by
  unfold geoE
  rw [if_pos ((geoOK_iff c k r).2 h)]
theorem geoE_val (c k r : Int) : geoE c k r = 0 ∧ geoOK c k r = true ∨ geoE c k r = 1 ∧ geoOK c k r = false := by
  unfold geoE
  cases geoOK c k r
  · exact Or.inr ⟨rfl, rfl⟩
  · exact Or.inl ⟨rfl, rfl⟩
theorem ret_i64 {a b : Int} (h : a = b) : Ending.returned (.int .i64 a) = .returned (.int .i64 b) := by rw [h]
set_option maxHeartbeats 1000000 in
theorem check_any (w : World) (c k r : Int) :
    Calls Try.prog 24 #[.agg #[.int .i64 c, .int .i64 k, .int .i64 r]] w fun e w' => e = .returned (.int .i64 (geoE c k r)) ∧ Below w.heap.size w w' := by
  have i0 : ∀ w, (Instr.index 75 (.agg #[.int .i64 4, .int .i64 c, .int .i64 10, .int .i64 1, .int .i64 k, .int .i64 4, .int .i64 1, .int .i64 r, .int .i64 256]) (.int .i64 0)).run Try.prog w = .ok (.agg #[.int .i64 4, .int .i64 c, .int .i64 10]) w := fun _ => by kernel_rfl
  have i1 : ∀ w, (Instr.index 75 (.agg #[.int .i64 4, .int .i64 c, .int .i64 10, .int .i64 1, .int .i64 k, .int .i64 4, .int .i64 1, .int .i64 r, .int .i64 256]) (.int .i64 1)).run Try.prog w = .ok (.agg #[.int .i64 1, .int .i64 k, .int .i64 4]) w := fun _ => by kernel_rfl
  have i2 : ∀ w, (Instr.index 75 (.agg #[.int .i64 4, .int .i64 c, .int .i64 10, .int .i64 1, .int .i64 k, .int .i64 4, .int .i64 1, .int .i64 r, .int .i64 256]) (.int .i64 2)).run Try.prog w = .ok (.agg #[.int .i64 1, .int .i64 r, .int .i64 256]) w := fun _ => by kernel_rfl
  go_enter Try.func24, Try.ntmps24
  go_wp2_with fail
  refine wp_loop_rounds 4 ?_
  repeat any_goals (rw [rounds_succ]; go_wp2_with fail)
  all_goals
    go_ret
    refine ⟨ret_i64 (by first | (rw [geoE_yes (by omega)]) | (rw [geoE_no (by omega)])), ?_⟩
    repeat (first | exact Below.refl _ _ | refine Below.alloc ?_ (by simp <;> omega) _)
end Go.Proofs.Ytfoflbbeckepoaa
