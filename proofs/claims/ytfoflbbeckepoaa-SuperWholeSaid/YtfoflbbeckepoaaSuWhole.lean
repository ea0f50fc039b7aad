/- revetmentlaw08.SuperWhole: its walk. -/
import Derived.Test.YtfoflbbeckepoaaSuSome
import Derived.Test.YtfoflbbeckepoaaSuRef1
namespace Go.Proofs.Ytfoflbbeckepoaa
open Go.RowKit Go.OpenShut

theorem whole_set (s : Sup) (h : s.may = true) : Sup.whole ⟨s.u, s.e, 0, s.c, s.k, s.n, s.cl, s.n, s.nw, s.gr⟩ = true ∧ Sup.whole ⟨s.u, s.e, 254, s.c, s.k, s.n, s.cl, s.n, s.nw, s.gr⟩ = false ∧ s.whole = (decide (s.r < s.c) && decide (s.b = s.n)) := by
  have hs := may_small h
  have h' := h
  unfold Sup.may at h'
  simp only [Bool.and_eq_true, Bool.or_eq_true, decide_eq_true_eq, wi_iff, geoOK_iff] at h'
  obtain ⟨⟨⟨⟨⟨⟨h1, h2⟩, h3⟩, h4⟩, h5⟩, h6⟩, h7⟩ := h'
  refine ⟨?_, ?_, ?_⟩
  · unfold Sup.whole Sup.may
    simp only [Bool.and_eq_true, Bool.or_eq_true, decide_eq_true_eq, wi_iff, geoOK_iff]
    refine ⟨⟨⟨⟨⟨⟨⟨⟨h1, h2⟩, h3⟩, h4⟩, ?_⟩, ?_⟩, h7⟩, ?_⟩, trivial⟩ <;> omega
  · unfold Sup.whole
    have : decide ((254 : Int) < s.c) = false := decide_eq_false (by have := hs.c1; omega)
    simp only [this, Bool.and_false, Bool.false_and]
  · unfold Sup.whole
    rw [h, Bool.true_and]
set_option maxHeartbeats 4000000 in
theorem superWhole_walk (u e : Int) (l0 l1 l2 l3 l4 l5 l6 l7 : Nat) (hu : (Lit.int .u64 u).wf = true) (he : (Lit.int .u64 e).wf = true) (h0 : l0 < 256) (h1 : l1 < 256) (h2 : l2 < 256) (h3 : l3 < 256) (h4 : l4 < 256) (h5 : l5 < 256) (h6 : l6 < 256) (h7 : l7 < 256) (w : World) :
    Calls Try.prog 5 #[.int .u64 u, .int .u64 e, .agg #[.int .u8 l0, .int .u8 l1, .int .u8 l2, .int .u8 l3, .int .u8 l4, .int .u8 l5, .int .u8 l6, .int .u8 l7]] w fun e w' => e = .returned (.bool true) ∧ Below w.heap.size w w' := by
  have hb1 := bounds_u64 hu
  have hb2 := bounds_u64 he
  have HS := fun w => some_any w u e l0 l1 l2 l3 l4 l5 l6 l7 h0 h1 h2 h3 h4 h5 h6 h7
  have hwf := someS_wf u e l0 l1 l2 l3 l4 l5 l6 l7 hb1.1 (by omega) hb2.1 (by omega)
  obtain ⟨w1, w2, w3⟩ := whole_set _ (someS_may u e l0 l1 l2 l3 l4 l5 l6 l7 h2)
  have hm := may_small (someS_may u e l0 l1 l2 l3 l4 l5 l6 l7 h2)
  clear h0 h1 h2 h3 h4 h5 h6 h7 hu he hb1 hb2
  generalize someS u e l0 l1 l2 l3 l4 l5 l6 l7 = s at *
  have HW := Lib.hid hwf
  have HW1 : Hid (Sup.mk s.u s.e 0 s.c s.k s.n s.cl s.n s.nw s.gr).wf := Lib.hid ⟨hwf.u0, hwf.u1, hwf.e0, hwf.e1, hwf.nw1⟩
  have HW2 : Hid (Sup.mk s.u s.e 254 s.c s.k s.n s.cl s.n s.nw s.gr).wf := Lib.hid ⟨hwf.u0, hwf.u1, hwf.e0, hwf.e1, hwf.nw1⟩
  clear hwf hm
  obtain ⟨u', e', r, c, k, n, cl, b, nw, gr⟩ := s
  dsimp only [Sup.v] at HS HW1 HW2 w1 w2 w3
  replace HS := Lib.hid HS
  have H1 := Lib.hid w1
  have H2 := Lib.hid w2
  have H3 := Lib.hid w3
  clear w1 w2 w3
  rcases Decidable.em (r < c) with hrc | hrc
  · rcases Decidable.em (n = b) with rfl | hbn
    · have HX : Hid (Sup.whole ⟨u', e', r, c, k, n, cl, n, nw, gr⟩ = true) := Lib.hid (by rw [H3.out]; simp [hrc])
      clear H3
      go_enter Try.func5, Try.ntmps5
      go_wp2_with fail
      refine (HS.out _).mono ?_
      rintro e1 w1 ⟨rfl, hb1⟩
      have hbe := ((Below.refl w.heap.size w).alloc (Nat.le_refl _) _).trans (hb1.mono (by simp))
      have hz := hbe.size
      clear hb1
      go_wp2_with fail
      have hB := Blk.new w1 26 #[.int .u64 u', .int .u64 e', .int .i64 r, .int .i64 c, .int .i64 k, .int .i64 n, .bool cl, .int .i64 n, .int .i64 nw, .int .i64 gr]
      replace hbe := hbe.alloc hbe.size (.cells #[.int .u64 u', .int .u64 e', .int .i64 r, .int .i64 c, .int .i64 k, .int .i64 n, .bool cl, .int .i64 n, .int .i64 nw, .int .i64 gr] 26)
      generalize w1.alloc (.cells #[.int .u64 u', .int .u64 e', .int .i64 r, .int .i64 c, .int .i64 k, .int .i64 n, .bool cl, .int .i64 n, .int .i64 nw, .int .i64 gr] 26) = w2 at *
      refine (whole_any _ ⟨u', e', r, c, k, n, cl, n, nw, gr⟩ HW.out).mono ?_
      rintro e1 w3 ⟨rfl, hb3⟩
      rw [HX.out]
      replace hB := hB.below hb3 hB.lt
      replace hbe := hbe.trans (hb3.mono hbe.size)
      clear hb3
      have hq := hB.cell
      have hf := hB.frozen
      go_wp2_with fail
      refine (shown8_any _).mono ?_
      rintro e1 w4 ⟨rfl, hb3⟩
      replace hB := hB.below hb3 hB.lt
      replace hbe := hbe.trans (hb3.mono hbe.size)
      clear hb3 hq hf
      have hq := hB.cell
      have hf := hB.frozen
      go_wp2_with fail
      replace hB := (hB.set_ 7 (.int .i64 n)).set_ 2 (.int .i64 0)
      replace hbe := (hbe.setCell (p := ⟨w1.heap.size, 7, none⟩) hz (.int .i64 n)).setCell (p := ⟨w1.heap.size, 2, none⟩) hz (.int .i64 0)
      rw [show (#[.int .u64 u', .int .u64 e', .int .i64 r, .int .i64 c, .int .i64 k, .int .i64 n, .bool cl, .int .i64 n, .int .i64 nw, .int .i64 gr].setIfInBounds 7 (Value.int .i64 n)).setIfInBounds 2 (.int .i64 0) = #[.int .u64 u', .int .u64 e', .int .i64 0, .int .i64 c, .int .i64 k, .int .i64 n, .bool cl, .int .i64 n, .int .i64 nw, .int .i64 gr] by simp] at hB
      clear hq hf
      generalize World.setCell _ _ _ = w5 at *
      refine (whole_any _ ⟨u', e', 0, c, k, n, cl, n, nw, gr⟩ HW1.out).mono ?_
      rintro e1 w6 ⟨rfl, hb3⟩
      rw [H1.out]
      replace hB := hB.below hb3 hB.lt
      replace hbe := hbe.trans (hb3.mono hbe.size)
      clear hb3
      have hq := hB.cell
      have hf := hB.frozen
      go_wp2_with fail
      refine (whole_any _ ⟨u', e', 254, c, k, n, cl, n, nw, gr⟩ HW2.out).mono ?_
      rintro e1 w7 ⟨rfl, hb3⟩
      rw [H2.out]
      go_wp2_with fail
      go_ret
      exact ⟨rfl, (hbe.setCell (p := ⟨w1.heap.size, 2, none⟩) hz (.int .i64 254)).trans (hb3.mono (hbe.setCell (p := ⟨w1.heap.size, 2, none⟩) hz (.int .i64 254)).size)⟩
    · have hbn' : (b == n) = false := by rw [beq_eq_false_iff_ne]; omega
      replace hbn : ¬ b = n := by omega
      have HX : Hid (Sup.whole ⟨u', e', r, c, k, n, cl, b, nw, gr⟩ = false) := Lib.hid (by rw [H3.out]; simp [hrc, hbn])
      clear H3
      go_enter Try.func5, Try.ntmps5
      go_wp2_with fail
      refine (HS.out _).mono ?_
      rintro e1 w1 ⟨rfl, hb1⟩
      have hbe := ((Below.refl w.heap.size w).alloc (Nat.le_refl _) _).trans (hb1.mono (by simp))
      have hz := hbe.size
      clear hb1
      go_wp2_with fail
      have hB := Blk.new w1 26 #[.int .u64 u', .int .u64 e', .int .i64 r, .int .i64 c, .int .i64 k, .int .i64 n, .bool cl, .int .i64 b, .int .i64 nw, .int .i64 gr]
      replace hbe := hbe.alloc hbe.size (.cells #[.int .u64 u', .int .u64 e', .int .i64 r, .int .i64 c, .int .i64 k, .int .i64 n, .bool cl, .int .i64 b, .int .i64 nw, .int .i64 gr] 26)
      generalize w1.alloc (.cells #[.int .u64 u', .int .u64 e', .int .i64 r, .int .i64 c, .int .i64 k, .int .i64 n, .bool cl, .int .i64 b, .int .i64 nw, .int .i64 gr] 26) = w2 at *
      refine (whole_any _ ⟨u', e', r, c, k, n, cl, b, nw, gr⟩ HW.out).mono ?_
      rintro e1 w3 ⟨rfl, hb3⟩
      rw [HX.out]
      replace hB := hB.below hb3 hB.lt
      replace hbe := hbe.trans (hb3.mono hbe.size)
      clear hb3
      have hq := hB.cell
      have hf := hB.frozen
      go_wp2_with fail
      refine (shown8_any _).mono ?_
      rintro e1 w4 ⟨rfl, hb3⟩
      replace hB := hB.below hb3 hB.lt
      replace hbe := hbe.trans (hb3.mono hbe.size)
      clear hb3 hq hf
      have hq := hB.cell
      have hf := hB.frozen
      go_wp2_with fail
      replace hB := (hB.set_ 7 (.int .i64 n)).set_ 2 (.int .i64 0)
      replace hbe := (hbe.setCell (p := ⟨w1.heap.size, 7, none⟩) hz (.int .i64 n)).setCell (p := ⟨w1.heap.size, 2, none⟩) hz (.int .i64 0)
      rw [show (#[.int .u64 u', .int .u64 e', .int .i64 r, .int .i64 c, .int .i64 k, .int .i64 n, .bool cl, .int .i64 b, .int .i64 nw, .int .i64 gr].setIfInBounds 7 (Value.int .i64 n)).setIfInBounds 2 (.int .i64 0) = #[.int .u64 u', .int .u64 e', .int .i64 0, .int .i64 c, .int .i64 k, .int .i64 n, .bool cl, .int .i64 n, .int .i64 nw, .int .i64 gr] by simp] at hB
      clear hq hf
      generalize World.setCell _ _ _ = w5 at *
      refine (whole_any _ ⟨u', e', 0, c, k, n, cl, n, nw, gr⟩ HW1.out).mono ?_
      rintro e1 w6 ⟨rfl, hb3⟩
      rw [H1.out]
      replace hB := hB.below hb3 hB.lt
      replace hbe := hbe.trans (hb3.mono hbe.size)
      clear hb3
      have hq := hB.cell
      have hf := hB.frozen
      go_wp2_with fail
      refine (whole_any _ ⟨u', e', 254, c, k, n, cl, n, nw, gr⟩ HW2.out).mono ?_
      rintro e1 w7 ⟨rfl, hb3⟩
      rw [H2.out]
      go_wp2_with fail
      go_ret
      exact ⟨rfl, (hbe.setCell (p := ⟨w1.heap.size, 2, none⟩) hz (.int .i64 254)).trans (hb3.mono (hbe.setCell (p := ⟨w1.heap.size, 2, none⟩) hz (.int .i64 254)).size)⟩
  · rcases Decidable.em (n = b) with rfl | hbn
    · have HX : Hid (Sup.whole ⟨u', e', r, c, k, n, cl, n, nw, gr⟩ = false) := Lib.hid (by rw [H3.out]; simp [hrc])
      clear H3
      go_enter Try.func5, Try.ntmps5
      go_wp2_with fail
      refine (HS.out _).mono ?_
      rintro e1 w1 ⟨rfl, hb1⟩
      have hbe := ((Below.refl w.heap.size w).alloc (Nat.le_refl _) _).trans (hb1.mono (by simp))
      have hz := hbe.size
      clear hb1
      go_wp2_with fail
      have hB := Blk.new w1 26 #[.int .u64 u', .int .u64 e', .int .i64 r, .int .i64 c, .int .i64 k, .int .i64 n, .bool cl, .int .i64 n, .int .i64 nw, .int .i64 gr]
      replace hbe := hbe.alloc hbe.size (.cells #[.int .u64 u', .int .u64 e', .int .i64 r, .int .i64 c, .int .i64 k, .int .i64 n, .bool cl, .int .i64 n, .int .i64 nw, .int .i64 gr] 26)
      generalize w1.alloc (.cells #[.int .u64 u', .int .u64 e', .int .i64 r, .int .i64 c, .int .i64 k, .int .i64 n, .bool cl, .int .i64 n, .int .i64 nw, .int .i64 gr] 26) = w2 at *
      refine (whole_any _ ⟨u', e', r, c, k, n, cl, n, nw, gr⟩ HW.out).mono ?_
      rintro e1 w3 ⟨rfl, hb3⟩
      rw [HX.out]
      replace hB := hB.below hb3 hB.lt
      replace hbe := hbe.trans (hb3.mono hbe.size)
      clear hb3
      have hq := hB.cell
      have hf := hB.frozen
      go_wp2_with fail
      refine (shown8_any _).mono ?_
      rintro e1 w4 ⟨rfl, hb3⟩
      replace hB := hB.below hb3 hB.lt
      replace hbe := hbe.trans (hb3.mono hbe.size)
      clear hb3 hq hf
      have hq := hB.cell
      have hf := hB.frozen
      go_wp2_with fail
      replace hB := (hB.set_ 7 (.int .i64 n)).set_ 2 (.int .i64 0)
      replace hbe := (hbe.setCell (p := ⟨w1.heap.size, 7, none⟩) hz (.int .i64 n)).setCell (p := ⟨w1.heap.size, 2, none⟩) hz (.int .i64 0)
      rw [show (#[.int .u64 u', .int .u64 e', .int .i64 r, .int .i64 c, .int .i64 k, .int .i64 n, .bool cl, .int .i64 n, .int .i64 nw, .int .i64 gr].setIfInBounds 7 (Value.int .i64 n)).setIfInBounds 2 (.int .i64 0) = #[.int .u64 u', .int .u64 e', .int .i64 0, .int .i64 c, .int .i64 k, .int .i64 n, .bool cl, .int .i64 n, .int .i64 nw, .int .i64 gr] by simp] at hB
      clear hq hf
      generalize World.setCell _ _ _ = w5 at *
      refine (whole_any _ ⟨u', e', 0, c, k, n, cl, n, nw, gr⟩ HW1.out).mono ?_
      rintro e1 w6 ⟨rfl, hb3⟩
      rw [H1.out]
      replace hB := hB.below hb3 hB.lt
      replace hbe := hbe.trans (hb3.mono hbe.size)
      clear hb3
      have hq := hB.cell
      have hf := hB.frozen
      go_wp2_with fail
      refine (whole_any _ ⟨u', e', 254, c, k, n, cl, n, nw, gr⟩ HW2.out).mono ?_
      rintro e1 w7 ⟨rfl, hb3⟩
      rw [H2.out]
      go_wp2_with fail
      go_ret
      exact ⟨rfl, (hbe.setCell (p := ⟨w1.heap.size, 2, none⟩) hz (.int .i64 254)).trans (hb3.mono (hbe.setCell (p := ⟨w1.heap.size, 2, none⟩) hz (.int .i64 254)).size)⟩
    · have hbn' : (b == n) = false := by rw [beq_eq_false_iff_ne]; omega
      replace hbn : ¬ b = n := by omega
      have HX : Hid (Sup.whole ⟨u', e', r, c, k, n, cl, b, nw, gr⟩ = false) := Lib.hid (by rw [H3.out]; simp [hrc, hbn])
      clear H3
      go_enter Try.func5, Try.ntmps5
      go_wp2_with fail
      refine (HS.out _).mono ?_
      rintro e1 w1 ⟨rfl, hb1⟩
      have hbe := ((Below.refl w.heap.size w).alloc (Nat.le_refl _) _).trans (hb1.mono (by simp))
      have hz := hbe.size
      clear hb1
      go_wp2_with fail
      have hB := Blk.new w1 26 #[.int .u64 u', .int .u64 e', .int .i64 r, .int .i64 c, .int .i64 k, .int .i64 n, .bool cl, .int .i64 b, .int .i64 nw, .int .i64 gr]
      replace hbe := hbe.alloc hbe.size (.cells #[.int .u64 u', .int .u64 e', .int .i64 r, .int .i64 c, .int .i64 k, .int .i64 n, .bool cl, .int .i64 b, .int .i64 nw, .int .i64 gr] 26)
      generalize w1.alloc (.cells #[.int .u64 u', .int .u64 e', .int .i64 r, .int .i64 c, .int .i64 k, .int .i64 n, .bool cl, .int .i64 b, .int .i64 nw, .int .i64 gr] 26) = w2 at *
      refine (whole_any _ ⟨u', e', r, c, k, n, cl, b, nw, gr⟩ HW.out).mono ?_
      rintro e1 w3 ⟨rfl, hb3⟩
      rw [HX.out]
      replace hB := hB.below hb3 hB.lt
      replace hbe := hbe.trans (hb3.mono hbe.size)
      clear hb3
      have hq := hB.cell
      have hf := hB.frozen
      go_wp2_with fail
      refine (shown8_any _).mono ?_
      rintro e1 w4 ⟨rfl, hb3⟩
      replace hB := hB.below hb3 hB.lt
      replace hbe := hbe.trans (hb3.mono hbe.size)
      clear hb3 hq hf
      have hq := hB.cell
      have hf := hB.frozen
      go_wp2_with fail
      replace hB := (hB.set_ 7 (.int .i64 n)).set_ 2 (.int .i64 0)
      replace hbe := (hbe.setCell (p := ⟨w1.heap.size, 7, none⟩) hz (.int .i64 n)).setCell (p := ⟨w1.heap.size, 2, none⟩) hz (.int .i64 0)
      rw [show (#[.int .u64 u', .int .u64 e', .int .i64 r, .int .i64 c, .int .i64 k, .int .i64 n, .bool cl, .int .i64 b, .int .i64 nw, .int .i64 gr].setIfInBounds 7 (Value.int .i64 n)).setIfInBounds 2 (.int .i64 0) = #[.int .u64 u', .int .u64 e', .int .i64 0, .int .i64 c, .int .i64 k, .int .i64 n, .bool cl, .int .i64 n, .int .i64 nw, .int .i64 gr] by simp] at hB
      clear hq hf
      generalize World.setCell _ _ _ = w5 at *
      refine (whole_any _ ⟨u', e', 0, c, k, n, cl, n, nw, gr⟩ HW1.out).mono ?_
      rintro e1 w6 ⟨rfl, hb3⟩
      rw [H1.out]
      replace hB := hB.below hb3 hB.lt
      replace hbe := hbe.trans (hb3.mono hbe.size)
      clear hb3
      have hq := hB.cell
      have hf := hB.frozen
      go_wp2_with fail
      refine (whole_any _ ⟨u', e', 254, c, k, n, cl, n, nw, gr⟩ HW2.out).mono ?_
      rintro e1 w7 ⟨rfl, hb3⟩
      rw [H2.out]
      go_wp2_with fail
      go_ret
      exact ⟨rfl, (hbe.setCell (p := ⟨w1.heap.size, 2, none⟩) hz (.int .i64 254)).trans (hb3.mono (hbe.setCell (p := ⟨w1.heap.size, 2, none⟩) hz (.int .i64 254)).size)⟩
end Go.Proofs.Ytfoflbbeckepoaa
