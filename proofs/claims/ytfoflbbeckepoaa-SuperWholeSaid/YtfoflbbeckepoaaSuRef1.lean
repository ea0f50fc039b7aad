/- super's Whole, and the document's May, Whole, widths, Encode for all superblocks. -/
import Derived.Test.YtfoflbbeckepoaaSuRef
import Derived.Test.YtfoflbbeckepoaaPRef
import Derived.Test.YtfoflbbeckepoaaCRef
namespace Go.Proofs.Ytfoflbbeckepoaa
open Go.RowKit Go.OpenShut

theorem refMay_any (w : World) (s : Sup) (h : s.wf) :
    Calls Try.prog 17 #[s.v] w fun e' w' => e' = .returned (.bool s.may) ∧ Below w.heap.size w w' := by
  obtain ⟨u, e, r, c, k, n, cl, b, nw, gr⟩ := s
  cases hu : (u == 0)
  · exact refMay1_any w u e r c k n b nw gr cl hu h.nw1
  · obtain rfl : u = 0 := by simpa using hu
    have : Sup.may ⟨0, e, r, c, k, n, cl, b, nw, gr⟩ = false := by simp [Sup.may]
    rw [this]
    exact refMay0_any w e r c k n b nw gr cl

def Sup.whole (s : Sup) : Bool := s.may && decide (s.r < s.c) && decide (s.b = s.n)
set_option maxHeartbeats 1000000 in
theorem whole_any (w : World) (s : Sup) (h : s.wf) :
    Calls Try.prog 13 #[s.v] w fun e' w' => e' = .returned (.bool s.whole) ∧ Below w.heap.size w w' := by
  have H := Lib.hid (fun w => may_any w s h)
  unfold Sup.whole
  generalize s.may = m at *
  clear h
  obtain ⟨u, e, r, c, k, n, cl, b, nw, gr⟩ := s
  unfold Sup.v at *
  cases m
  all_goals
    go_enter Try.func13, Try.ntmps13
    go_wp2_with fail
    refine (H.out _).mono ?_
    rintro e1 w1 ⟨rfl, hb1⟩
    have hB := (Blk.new w 26 #[.int .u64 u, .int .u64 e, .int .i64 r, .int .i64 c, .int .i64 k, .int .i64 n, .bool cl, .int .i64 b, .int .i64 nw, .int .i64 gr]).below hb1 (by simp)
    have hq := hB.cell
    have hbel := ((Below.refl w.heap.size w).alloc (Nat.le_refl _) _).trans (hb1.mono (by simp))
    clear hb1 hB
    go_wp2_with fail
  all_goals
    go_ret
    refine ⟨ret_b ?_, hbel⟩
    rw [Bool.eq_iff_iff]
    simp <;> omega
set_option maxHeartbeats 1000000 in
theorem refWhole_any (w : World) (s : Sup) (h : s.wf) :
    Calls Try.prog 18 #[s.v] w fun e' w' => e' = .returned (.bool s.whole) ∧ Below w.heap.size w w' := by
  have H := Lib.hid (fun w => refMay_any w s h)
  unfold Sup.whole
  generalize s.may = m at *
  clear h
  obtain ⟨u, e, r, c, k, n, cl, b, nw, gr⟩ := s
  unfold Sup.v at *
  cases m
  all_goals
    go_enter Try.func18, Try.ntmps18
    go_wp2_with fail
    refine (H.out _).mono ?_
    rintro e1 w1 ⟨rfl, hb1⟩
    have hB := (Blk.new w 43 #[.int .u64 u, .int .u64 e, .int .i64 r, .int .i64 c, .int .i64 k, .int .i64 n, .bool cl, .int .i64 b, .int .i64 nw, .int .i64 gr]).below hb1 (by simp)
    have hq := hB.cell
    have hbel := ((Below.refl w.heap.size w).alloc (Nat.le_refl _) _).trans (hb1.mono (by simp))
    clear hb1 hB
    go_wp2_with fail
  all_goals
    go_ret
    refine ⟨ret_b ?_, hbel⟩
    rw [Bool.eq_iff_iff]
    simp <;> omega
theorem refWidths_any (w : World) :
    Calls Try.prog 29 #[] w fun e w' => e = .returned (.slice (some ⟨w.heap.size, 0, none⟩) 11 11) ∧ w' = w.alloc (.cells (ws11.map (Value.int .i64)).toArray 3) := by
  go_enter Try.func29, Try.ntmps29
  go_wp2_with fail
  go_ret
  exact ⟨rfl, rfl⟩
end Go.Proofs.Ytfoflbbeckepoaa
