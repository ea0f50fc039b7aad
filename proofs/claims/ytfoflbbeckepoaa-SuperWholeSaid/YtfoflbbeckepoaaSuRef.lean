/- super, the document's: Check, May, Whole. -/
import Derived.Test.YtfoflbbeckepoaaSuDec2
namespace Go.Proofs.Ytfoflbbeckepoaa
open Go.RowKit Go.OpenShut

set_option maxHeartbeats 2000000 in
theorem refCheck_any (w : World) (c k r : Int) :
    Calls Try.prog 33 #[.agg #[.int .i64 c, .int .i64 k, .int .i64 r]] w fun e w' => e = .returned (.int .i64 (geoE c k r)) ∧ Below w.heap.size w w' := by
  by_cases h : (4 ≤ c ∧ c ≤ 10) ∧ (1 ≤ k ∧ k ≤ 4) ∧ (1 ≤ r ∧ r ≤ 256)
  · have HE := Lib.hid (geoE_yes h)
    obtain ⟨⟨h1, h2⟩, ⟨h3, h4⟩, h5, h6⟩ := h
    go_enter Try.func33, Try.ntmps33
    go_wp2_with fail
    go_ret
    exact ⟨ret_i64 (by rw [HE.out]), (Below.refl _ _).alloc (Nat.le_refl _) _⟩
  · have HE := Lib.hid (geoE_no h)
    have HH := Lib.hid h
    clear h
    go_enter Try.func33, Try.ntmps33
    go_wp2_with fail
    all_goals
      go_ret
      refine ⟨ret_i64 ?_, (Below.refl _ _).alloc (Nat.le_refl _) _⟩
      first
        | (rw [HE.out]; done)
        | (exfalso; exact HH.out (by omega))

set_option maxHeartbeats 2000000 in
theorem refMay0_any (w : World) (e r c k n b nw gr : Int) (cl : Bool) :
    Calls Try.prog 17 #[Sup.v ⟨0, e, r, c, k, n, cl, b, nw, gr⟩] w fun e' w' => e' = .returned (.bool false) ∧ Below w.heap.size w w' := by
  unfold Sup.v
  go_enter Try.func17, Try.ntmps17
  go_wp2_with fail
  go_ret
  exact ⟨rfl, (Below.refl _ _).alloc (Nat.le_refl _) _⟩
set_option maxHeartbeats 4000000 in
theorem refMay1_any (w : World) (u e r c k n b nw gr : Int) (cl : Bool) (hu : (u == 0) = false) (hnw : nw ≤ 9223372036854775807) :
    Calls Try.prog 17 #[Sup.v ⟨u, e, r, c, k, n, cl, b, nw, gr⟩] w fun e' w' => e' = .returned (.bool (Sup.may ⟨u, e, r, c, k, n, cl, b, nw, gr⟩)) ∧ Below w.heap.size w w' := by
  unfold Sup.v at *
  obtain ⟨m, hm⟩ : ∃ m, Sup.may ⟨u, e, r, c, k, n, cl, b, nw, gr⟩ = m := ⟨_, rfl⟩
  rw [hm]
  have HM := Lib.hid hm
  clear hm
  unfold Sup.may at HM
  simp only [hu] at HM
  go_enter Try.func17, Try.ntmps17
  go_wp2_with fail
  refine (refCheck_any _ c k n).mono ?_
  rintro e1 w1 ⟨rfl, hb1⟩
  have hB := (Blk.new w 43 #[.int .u64 u, .int .u64 e, .int .i64 r, .int .i64 c, .int .i64 k, .int .i64 n, .bool cl, .int .i64 b, .int .i64 nw, .int .i64 gr]).below hb1 (by simp)
  have hq := hB.cell
  have hbel := ((Below.refl w.heap.size w).alloc (Nat.le_refl _) _).trans (hb1.mono (by simp))
  clear hb1 hB
  rcases geoE_val c k n with ⟨hg, hok⟩ | ⟨hg, hok⟩
  · rw [hg]
    have h10 : 4 ≤ c ∧ c ≤ 10 := ((geoOK_iff c k n).1 hok).1
    obtain ⟨h10a, h10b⟩ := h10
    rw [hok] at HM
    clear hg hok
    go_wp2_with fail
    all_goals
      go_ret
      refine ⟨ret_b ?_, hbel⟩
      have hm := HM.out
      clear HM hq hbel
      rw [← hm, Bool.eq_iff_iff]
      simp only [bne_eq_false_iff_eq, bne_iff_ne, ne_eq] at *
      simp [wi]
      try omega
  · rw [hg]
    rw [hok] at HM
    clear hg hok
    go_wp2_with fail
    go_ret
    exact ⟨ret_b (by simpa using HM.out), hbel⟩
end Go.Proofs.Ytfoflbbeckepoaa
