/- super, the document's: Encode. -/
import Derived.Test.YtfoflbbeckepoaaSuRef1
import Derived.Test.YtfoflbbeckepoaaNT
namespace Go.Proofs.Ytfoflbbeckepoaa
open Go.RowKit Go.OpenShut

theorem refSupEnc_no (w : World) (s : Sup) (h : s.wf) (hm : s.may = false) :
    Calls Try.prog 15 #[s.v] w fun e w' => e = .returned (.tuple #[.string ⟨#[]⟩, .int .i64 1]) ∧ Below w.heap.size w w' := by
  have HM := fun w => refMay_any w s h
  rw [hm] at HM
  have H := Lib.hid HM
  clear HM hm h
  obtain ⟨u, e, r, c, k, n, cl, b, nw, gr⟩ := s
  unfold Sup.v at *
  go_enter Try.func15, Try.ntmps15
  go_wp2_with fail
  refine (H.out _).mono ?_
  rintro e' w1 ⟨rfl, hb1⟩
  go_wp2_with fail
  go_ret2
  exact ⟨rfl, ((Below.refl w.heap.size w).alloc (Nat.le_refl _) _).trans (hb1.mono (by simp))⟩

set_option maxHeartbeats 2000000 in
theorem refSupEnc_yes (w : World) (s : Sup) (h : s.wf) (hm : s.may = true) :
    Calls Try.prog 15 #[s.v] w fun e w' => e = .returned (.tuple #[.string ⟨s.bytes.toArray⟩, .int .i64 0]) ∧ Below w.heap.size w w' := by
  have HM := fun w => refMay_any w s h
  rw [hm] at HM
  have H := Lib.hid HM
  have hs := may_small hm
  have HE := Lib.hid (enc_sup s h hs)
  have HSE := Lib.hid (sup_seal s h hs)
  have HU := Lib.hid (nums_u64 s h hs)
  obtain ⟨r0, r1, c0, c1, k0, k1, n0, n1, b0, b1, nw0, nw1, gr0, gr1⟩ := hs
  clear HM hm h
  obtain ⟨u, e, r, c, k, n, cl, b, nw, gr⟩ := s
  obtain ⟨s, hs⟩ : ∃ s, s = Sup.mk u e r c k n cl b nw gr := ⟨_, rfl⟩
  have HS := Lib.hid hs
  rw [← hs] at HE HSE HU ⊢
  rw [← hs] at H
  rw [show s.v = .agg #[.int .u64 u, .int .u64 e, .int .i64 r, .int .i64 c, .int .i64 k, .int .i64 n, .bool cl, .int .i64 b, .int .i64 nw, .int .i64 gr] by rw [hs]; rfl] at H ⊢
  clear hs
  dsimp only at r0 r1 c0 c1 k0 k1 n0 n1 b0 b1 nw0 nw1 gr0 gr1
  go_enter Try.func15, Try.ntmps15
  go_wp2_with fail
  refine (H.out _).mono ?_
  rintro e' w1 ⟨rfl, hb1⟩
  have hB := (Blk.new w 43 #[.int .u64 u, .int .u64 e, .int .i64 r, .int .i64 c, .int .i64 k, .int .i64 n, .bool cl, .int .i64 b, .int .i64 nw, .int .i64 gr]).below hb1 (by simp)
  have hq := hB.cell
  have hbe := ((Below.refl w.heap.size w).alloc (Nat.le_refl _) (.cells #[.int .u64 u, .int .u64 e, .int .i64 r, .int .i64 c, .int .i64 k, .int .i64 n, .bool cl, .int .i64 b, .int .i64 nw, .int .i64 gr] 43)).trans (hb1.mono (by simp))
  clear hb1 hB
  cases cl
  all_goals
    go_wp2_with fail
    have hlt : w.heap.size < w1.heap.size := by
      rcases Nat.lt_or_ge w.heap.size w1.heap.size with hlt | hge
      · exact hlt
      · have h0 := hq 0
        unfold World.cell? at h0
        rw [Array.getElem?_eq_none hge] at h0
        cases h0
    refine wp_region_nt (fun x => Below w.heap.size w x ∧ Below w1.heap.size w1 x) (fun _ => false) (NT.pures [0, 1, 2, 3, 4, 5, 6, 7, 8, 9, 10, 11, 12, 13, 14, 15, 16, 17, 18, 19, 20, 21, 22, 23, 24, 25, 26, 27, 28] (.fork 29 (.imp 30 (.imp 31 (NT.pures [32, 33, 34, 35, 36] .nil))) 30 (.imp 29 (.imp 31 (NT.pures [32, 33, 34, 35, 36] .nil))))) (by kernel_rfl) (by kernel_rfl) (by kernel_rfl) (fun d _ _ _ _ h => by cases d <;> exact h) ?_
    have hb0 := (Below.refl w1.heap.size w1).drew
    have hbd := hbe.drew
    repeat (refine nt_pure rfl ⟨hbd, hb0⟩ (fun x hS => by have hx := fun i => (hS.2.cell (p := ⟨w.heap.size, i, none⟩) hlt).trans (hq i); clear hS; go_wp2; exact ⟨rfl, rfl, rfl⟩) rfl ?_ ?_; rfl)
    refine nt_fork rfl rfl ?_ ?_
    · go_wp2_with fail
      have hA := (Blk.new w1 22 (s.nums.map (Value.int .u64)).toArray).drew
      have hbA := ((Below.refl w1.heap.size w1).alloc (Nat.le_refl _) (.cells (s.nums.map (Value.int .u64)).toArray 22)).drew
      rw [show (s.nums.map (Value.int .u64)).toArray = _ from congrArg (fun s => (s.nums.map (Value.int .u64)).toArray) HS.out] at hA hbA
      simp only [Sup.nums, clN, List.map_cons, List.map_nil, Bool.false_eq_true, if_false, if_true] at hA hbA
      clear hb0 hbd hq
      generalize World.drew _ = W2 at *
      have hA' : Blk W2 w1.heap.size 22 (s.nums.map (Value.int .u64)).toArray := by rw [HS.out]; exact hA
      clear hA
      refine ⟨fun _ => ⟨hbe.trans (hbA.mono hbe.size), hbA⟩, ?_⟩
      refine nt_imp rfl ?_
      go_wp2_with fail
      refine (refWidths_any _).mono ?_
      rintro e3 w3 ⟨rfl, rfl⟩
      go_wp2_with fail
      have hB := Blk.new W2 3 (ws11.map (Value.int .i64)).toArray
      replace hA' := hA'.alloc (.cells (ws11.map (Value.int .i64)).toArray 3)
      have hbB := hbA.alloc hbA.size (.cells (ws11.map (Value.int .i64)).toArray 3)
      clear hbA
      generalize W2.alloc (.cells (ws11.map (Value.int .i64)).toArray 3) = W3 at *
      refine ⟨fun _ => ⟨hbe.trans (hbB.mono hbe.size), hbB⟩, ?_⟩
      refine nt_imp rfl ?_
      go_wp2_with fail
      refine (refEncode_any _ _ _ _ _ _ _ s.nums ws11 (IntsA.blk hA' rfl hA'.lt) (IntsA.blk hB rfl hB.lt) HU.out).mono ?_
      rintro e4 w4 ⟨rfl, hb4⟩
      rw [HE.out.1, HE.out.2]
      have hb4' := hbB.trans (hb4.mono hbB.size)
      clear hbB hb4
      go_wp2_with fail
      refine ⟨fun _ => ⟨hbe.trans (hb4'.mono hbe.size), hb4'⟩, ?_⟩
      repeat (refine nt_pure rfl ⟨hbe.trans (hb4'.mono hbe.size), hb4'⟩ (fun x hS => by clear hS; go_wp2; exact ⟨rfl, rfl, rfl⟩) rfl ?_ ?_; rfl)
      refine nt_nil ?_
      go_wp2_with fail
      refine (refSeal_any _ _ _).mono ?_
      rintro e5 w5 ⟨rfl, hb5⟩
      rw [HSE.out.1, HSE.out.2]
      go_wp2_with fail
      go_ret2
      exact ⟨rfl, hbe.trans ((hb4'.trans (hb5.mono hb4'.size)).mono hbe.size)⟩
    · go_wp2_with fail
      refine (refWidths_any _).mono ?_
      rintro e3 w3 ⟨rfl, rfl⟩
      go_wp2_with fail
      have hB := (Blk.new w1 3 (ws11.map (Value.int .i64)).toArray).drew
      have hbB := ((Below.refl w1.heap.size w1).alloc (Nat.le_refl _) (.cells (ws11.map (Value.int .i64)).toArray 3)).drew
      clear hb0 hbd hq
      generalize World.drew _ = W2 at *
      refine ⟨fun _ => ⟨hbe.trans (hbB.mono hbe.size), hbB⟩, ?_⟩
      refine nt_imp rfl ?_
      go_wp2_with fail
      have hA := Blk.new W2 22 (s.nums.map (Value.int .u64)).toArray
      replace hB := hB.alloc (.cells (s.nums.map (Value.int .u64)).toArray 22)
      have hbA := hbB.alloc hbB.size (.cells (s.nums.map (Value.int .u64)).toArray 22)
      rw [show (s.nums.map (Value.int .u64)).toArray = _ from congrArg (fun s => (s.nums.map (Value.int .u64)).toArray) HS.out] at hA hbA hB
      simp only [Sup.nums, clN, List.map_cons, List.map_nil, Bool.false_eq_true, if_false, if_true] at hA hbA hB
      clear hbB
      generalize W2.alloc (.cells #[.int .u64 827610706, .int .u64 u, .int .u64 e, .int .u64 r, .int .u64 c, .int .u64 k, .int .u64 n, .int .u64 _, .int .u64 b, .int .u64 nw, .int .u64 gr] 22) = W3 at *
      have hA' : Blk W3 W2.heap.size 22 (s.nums.map (Value.int .u64)).toArray := by rw [HS.out]; exact hA
      clear hA
      refine ⟨fun _ => ⟨hbe.trans (hbA.mono hbe.size), hbA⟩, ?_⟩
      refine nt_imp rfl ?_
      go_wp2_with fail
      refine (refEncode_any _ _ _ _ _ _ _ s.nums ws11 (IntsA.blk hA' rfl hA'.lt) (IntsA.blk hB rfl hB.lt) HU.out).mono ?_
      rintro e4 w4 ⟨rfl, hb4⟩
      rw [HE.out.1, HE.out.2]
      have hb4' := hbA.trans (hb4.mono hbA.size)
      clear hbA hb4
      go_wp2_with fail
      refine ⟨fun _ => ⟨hbe.trans (hb4'.mono hbe.size), hb4'⟩, ?_⟩
      repeat (refine nt_pure rfl ⟨hbe.trans (hb4'.mono hbe.size), hb4'⟩ (fun x hS => by clear hS; go_wp2; exact ⟨rfl, rfl, rfl⟩) rfl ?_ ?_; rfl)
      refine nt_nil ?_
      go_wp2_with fail
      refine (refSeal_any _ _ _).mono ?_
      rintro e5 w5 ⟨rfl, hb5⟩
      rw [HSE.out.1, HSE.out.2]
      go_wp2_with fail
      go_ret2
      exact ⟨rfl, hbe.trans ((hb4'.trans (hb5.mono hb4'.size)).mono hbe.size)⟩

theorem refSupEnc_any (w : World) (s : Sup) (h : s.wf) :
    Calls Try.prog 15 #[s.v] w fun e w' => e = .returned (.tuple #[.string s.str, .int .i64 s.err]) ∧ Below w.heap.size w w' := by
  unfold Sup.str Sup.err
  cases hm : s.may
  · exact refSupEnc_no w s h hm
  · exact refSupEnc_yes w s h hm
end Go.Proofs.Ytfoflbbeckepoaa
