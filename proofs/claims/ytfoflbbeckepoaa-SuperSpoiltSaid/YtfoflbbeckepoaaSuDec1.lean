/- super.Decode: the walk. -/
import Derived.Test.YtfoflbbeckepoaaSuDec
namespace Go.Proofs.Ytfoflbbeckepoaa
open Go.RowKit Go.OpenShut

theorem supDec_short (w : World) (b : ByteArray) (h : b.size ≠ 64) :
    Calls Try.prog 14 #[.string b] w fun e w' => e = .returned (.tuple #[(Sup.zero).v, .int .i64 31]) ∧ Below w.heap.size w w' := by
  have hn : ((b.size : Int) != 64) = true := by rw [bne_iff_ne]; omega
  go_enter Try.func14, Try.ntmps14
  go_wp2_with fail
  exact bodyPost_ret (v := .tuple #[(Sup.zero).v, .int .i64 31]) (by simp [results, Try.results14, go_sem, Sup.v, Sup.zero]) rfl ⟨rfl, (Below.refl _ _).alloc (Nat.le_refl _) _⟩
set_option maxHeartbeats 2000000 in
theorem supDec_sum (w : World) (b : ByteArray) (h : b.size = 64) (ho : openB b.data.toList = false) :
    Calls Try.prog 14 #[.string b] w fun e w' => e = .returned (.tuple #[(Sup.zero).v, .int .i64 80]) ∧ Below w.heap.size w w' := by
  have hn : ((b.size : Int) != 64) = false := by rw [h]; rfl
  have HO := Lib.hid (fun w => open_any w b (by rw [h]; unfold maxLen; omega))
  rw [ho] at HO
  clear h ho
  go_enter Try.func14, Try.ntmps14
  go_wp2_with fail
  refine (HO.out _).mono ?_
  rintro e w1 ⟨rfl, hb1⟩
  obtain ⟨hc1, hf1⟩ := bcell hb1
  have hz := hb1.size
  have hbe := ((Below.refl w.heap.size w).alloc (Nat.le_refl _) _).trans (hb1.mono (by simp))
  go_wp2_with fail
  refine bodyPost_ret (v := .tuple #[(Sup.zero).v, .int .i64 80]) (by simp [results, Try.results14, go_sem, Sup.v, Sup.zero, hc1]) rfl ⟨rfl, ?_⟩
  iterate 10 refine Below.setCell ?_ (by exact Nat.le_refl _) _
  exact hbe
end Go.Proofs.Ytfoflbbeckepoaa
