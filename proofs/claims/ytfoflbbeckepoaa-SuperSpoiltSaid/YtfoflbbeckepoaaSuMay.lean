import Derived.Test.YtfoflbbeckepoaaSuEq
namespace Go.Proofs.Ytfoflbbeckepoaa
open Go.RowKit Go.OpenShut

set_option maxHeartbeats 2000000 in
theorem may1_any (w : World) (u e r c k n b nw gr : Int) (cl : Bool) (hu : (u == 0) = false) (hnw : nw ≤ 9223372036854775807) :
    Calls Try.prog 10 #[Sup.v ⟨u, e, r, c, k, n, cl, b, nw, gr⟩] w fun e' w' => e' = .returned (.bool (Sup.may ⟨u, e, r, c, k, n, cl, b, nw, gr⟩)) ∧ Below w.heap.size w w' := by
  have heq := fun w => eq_sup w ⟨u, e, r, c, k, n, cl, b, nw, gr⟩ Sup.zero
  rw [show Sup.same ⟨u, e, r, c, k, n, cl, b, nw, gr⟩ Sup.zero = false by simp [Sup.same, Sup.zero, hu]] at heq
  unfold Sup.v Sup.zero at *
  obtain ⟨m, hm⟩ : ∃ m, Sup.may ⟨u, e, r, c, k, n, cl, b, nw, gr⟩ = m := ⟨_, rfl⟩
  rw [hm]
  have HM := Lib.hid hm
  clear hm
  unfold Sup.may at HM
  simp only [hu] at HM
  go_enter Try.func10, Try.ntmps10
  go_wp2_with fail
  refine (check_any _ c k n).mono ?_
  rintro e1 w1 ⟨rfl, hb1⟩
  clear heq
  obtain ⟨hc1, hf1⟩ := bcell hb1
  have hbel := ((Below.refl w.heap.size w).alloc (Nat.le_refl _) _).trans (hb1.mono (by simp))
  clear hb1
  rcases geoE_val c k n with ⟨hg, hok⟩ | ⟨hg, hok⟩
  · rw [hg]
    have h10 : 4 ≤ c ∧ c ≤ 10 := ((geoOK_iff c k n).1 hok).1
    obtain ⟨h10a, h10b⟩ := h10
    rw [hok] at HM
    clear hg hok
    by_cases hn : nw = 0
    · have hn1 : (nw == 0) = true := by simp [hn]
      have hn2 : (nw != 0) = false := by simp [hn]
      go_wp2_with (go_at_call 23; refine (within_any _ _ _ _).mono ?_; rintro e' w' ⟨rfl, rfl⟩)
      all_goals
        go_ret
        refine ⟨ret_b ?_, hbel⟩
        have hm := HM.out
        clear HM hc1 hf1 hbel
        simp_all
    · have hn1 : (nw == 0) = false := by simp [hn]
      have hn2 : (nw != 0) = true := by simp [hn]
      go_wp2_with fail
      refine (within_any _ _ _ _).mono ?_
      rintro e' w' ⟨rfl, rfl⟩
      obtain ⟨f, hf⟩ : ∃ f, wi nw (c + 1) 10 = f := ⟨_, rfl⟩
      rw [hf] at HM ⊢
      clear hf
      cases f
      · go_wp2_with fail
        go_ret
        refine ⟨ret_b ?_, hbel⟩
        have hm := HM.out
        clear HM hc1 hf1 hbel
        simp_all
      · go_wp2_with (go_at_call 23; refine (within_any _ _ _ _).mono ?_; rintro e' w' ⟨rfl, rfl⟩)
        all_goals
          go_ret
          refine ⟨ret_b ?_, hbel⟩
          have hm := HM.out
          clear HM hc1 hf1 hbel
          simp_all
  · rw [hg]
    rw [hok] at HM
    go_wp2_with fail
    go_ret
    exact ⟨ret_b (by simpa using HM.out), hbel⟩
end Go.Proofs.Ytfoflbbeckepoaa
