import Derived.Test.YtaghdkiafgainaaDoorGfOnce
namespace Go.Proofs.YtaghdkiafgainaaDoor
set_option maxRecDepth 20000
open Go.RowKit Go.OpenShut

def zt : Array Value := #[.int .u32 0, .int .i32 0, .int .u32 0, .int .i32 0] ++ Array.replicate 510 (.int .u8 0) ++ Array.replicate 256 (.int .i64 0)
theorem zt_info : (Tryd.prog.info? 69).map (fun i => i.zero) = some (some (.agg zt)) := by kernel_rfl
theorem run_zt (W : World) : (zeroValue 69).run Tryd.prog W = .ok (.agg zt) W := by
  have h := zt_info
  cases hi : Tryd.prog.info? 69 with
  | none => rw [hi] at h; cases h
  | some i =>
    rw [hi] at h
    have hz : i.zero = some (.agg zt) := by simpa using h
    simp [zeroValue, typeInfo, hi, hz, go_sem]

theorem zt_size : zt.size = 770 := by simp [zt]
theorem add_made (a : Addr) (w : World) (hc : w.cell? a = some (.int .i32 0)) (hz : w.frozen? a = false) :
    Calls Tryd.prog 54 #[.pointer (some a), .int .i32 1] w fun e w' => e = .returned (.int .i32 1) ∧ w' = w.setCell a (.int .i32 1) := by
  have hadd := run_call_add (P := Tryd.prog) Tryd.func63 (by kernel_rfl) (by kernel_rfl) (by kernel_rfl) .i32 (by kernel_rfl) (y := 1) (s := 1) hc hz (by simp [go_sem]; rfl)
  go_enter Tryd.func54, Tryd.ntmps54
  go_wp2
  go_ret
  exact ⟨rfl, rfl⟩

end Go.Proofs.YtaghdkiafgainaaDoor
