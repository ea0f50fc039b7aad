/- super.Encode, for all superblocks: the walk. -/
import Derived.Test.YtfoflbbeckepoaaSuEnc
namespace Go.Proofs.Ytfoflbbeckepoaa
open Go.RowKit Go.OpenShut

theorem supEnc_no (w : World) (s : Sup) (h : s.wf) (hm : s.may = false) :
    Calls Try.prog 9 #[s.v] w fun e w' => e = .returned (.tuple #[.string ⟨#[]⟩, .int .i64 1]) ∧ Below w.heap.size w w' := by
  obtain ⟨sv, hsv⟩ : ∃ sv, s = sv := ⟨_, rfl⟩
  have HM := fun w => may_any w s h
  rw [hm] at HM
  have H := Lib.hid HM
  clear HM hm hsv h
  obtain ⟨u, e, r, c, k, n, cl, b, nw, gr⟩ := s
  unfold Sup.v
  go_enter Try.func9, Try.ntmps9
  go_wp2_with fail
  refine (H.out _).mono ?_
  rintro e' w1 ⟨rfl, hb1⟩
  go_wp2_with fail
  go_ret2
  exact ⟨rfl, ((Below.refl w.heap.size w).alloc (Nat.le_refl _) _).trans (hb1.mono (by simp))⟩

theorem enc_world {w w1 : World} (s : Sup) (u e x : Int) (hu : s.u = u) (he : s.e = e) (hx : clN s.cl = x) (hB : Blk w1 w.heap.size 26 s.v.cells) (hbe : Below w.heap.size w w1) :
    ∃ W, (((w1.alloc (.cells #[.int .i64 x] 3)).alloc (.cells #[.int .u64 827610706, .int .u64 u, .int .u64 e] 22)).alloc (.cells (partCells w.heap.size (.pointer (some ⟨w1.heap.size, 0, none⟩))) 53)).drew = W ∧
      OwnI W w.heap.size 22 .u64 (.slice (some ⟨w1.heap.size + 1, 0, none⟩) 3 3) (s.nums.take (3 + 0)) ∧ Blk W w.heap.size 26 s.v.cells ∧ Blk W w1.heap.size 3 #[.int .i64 (clN s.cl)] ∧
      Blk W (w1.heap.size + 1 + 1) 53 (partCells w.heap.size (.pointer (some ⟨w1.heap.size, 0, none⟩))) ∧ Below w.heap.size w W := by
  subst hu he
  refine ⟨_, rfl, ?_, ?_, ?_, ?_, ?_⟩
  · have h := ((Blk.new (w1.alloc (.cells #[.int .i64 x] 3)) 22 #[.int .u64 827610706, .int .u64 s.u, .int .u64 s.e]).alloc (.cells (partCells w.heap.size (.pointer (some ⟨w1.heap.size, 0, none⟩))) 53)).drew
    rw [show (w1.alloc (.cells #[.int .i64 x] 3)).heap.size = w1.heap.size + 1 by simp] at h
    exact ⟨rfl, Or.inr ⟨w1.heap.size + 1, 3, _, rfl, by have := hbe.size; omega, h, Nat.le_refl _, by unfold maxLen; omega, rfl, rfl⟩⟩
  · exact (((hB.alloc _).alloc _).alloc _).drew
  · rw [hx]
    exact (((Blk.new w1 3 #[.int .i64 x]).alloc _).alloc _).drew
  · have h := (Blk.new ((w1.alloc (.cells #[.int .i64 x] 3)).alloc (.cells #[.int .u64 827610706, .int .u64 s.u, .int .u64 s.e] 22)) 53 (partCells w.heap.size (.pointer (some ⟨w1.heap.size, 0, none⟩)))).drew
    rw [show ((w1.alloc (.cells #[.int .i64 x] 3)).alloc (.cells #[.int .u64 827610706, .int .u64 s.u, .int .u64 s.e] 22)).heap.size = w1.heap.size + 1 + 1 by simp] at h
    exact h
  · have hz := hbe.size
    exact (((hbe.alloc hz _).alloc (by simp; omega) _).alloc (by simp; omega) _).drew

set_option maxHeartbeats 2000000 in
theorem supEnc_yes (w : World) (s : Sup) (h : s.wf) (hm : s.may = true) :
    Calls Try.prog 9 #[s.v] w fun e w' => e = .returned (.tuple #[.string ⟨s.bytes.toArray⟩, .int .i64 0]) ∧ Below w.heap.size w w' := by
  have HM := fun w => may_any w s h
  rw [hm] at HM
  have H := Lib.hid HM
  have hs := may_small hm
  have HE := Lib.hid (enc_sup s h hs)
  have HSE := Lib.hid (sup_seal s h hs)
  have HU := Lib.hid (nums_u64 s h hs)
  have HV := Lib.hid (pV_bd s hs)
  clear HM hm hs h
  obtain ⟨u, e, r, c, k, n, cl, b, nw, gr⟩ := s
  obtain ⟨s, hs⟩ : ∃ s, s = Sup.mk u e r c k n cl b nw gr := ⟨_, rfl⟩
  have HS := Lib.hid hs
  rw [← hs] at HE HSE HU HV ⊢
  rw [← hs] at H
  rw [show s.v = .agg #[.int .u64 u, .int .u64 e, .int .i64 r, .int .i64 c, .int .i64 k, .int .i64 n, .bool cl, .int .i64 b, .int .i64 nw, .int .i64 gr] by rw [hs]; rfl] at H ⊢
  clear hs
  go_enter Try.func9, Try.ntmps9
  go_wp2_with fail
  refine (H.out _).mono ?_
  rintro e' w1 ⟨rfl, hb1⟩
  have hB := (Blk.new w 26 #[.int .u64 u, .int .u64 e, .int .i64 r, .int .i64 c, .int .i64 k, .int .i64 n, .bool cl, .int .i64 b, .int .i64 nw, .int .i64 gr]).below hb1 (by simp)
  have hB' : Blk w1 w.heap.size 26 s.v.cells := by rw [HS.out]; exact hB
  have hq : ∀ i, w1.cell? ⟨w.heap.size, i, none⟩ = #[Value.int .u64 u, .int .u64 e, .int .i64 r, .int .i64 c, .int .i64 k, .int .i64 n, .bool cl, .int .i64 b, .int .i64 nw, .int .i64 gr][i]? := hB.cell
  have hbe := ((Below.refl w.heap.size w).alloc (Nat.le_refl _) (.cells #[.int .u64 u, .int .u64 e, .int .i64 r, .int .i64 c, .int .i64 k, .int .i64 n, .bool cl, .int .i64 b, .int .i64 nw, .int .i64 gr] 26)).trans (hb1.mono (by simp))
  have hz := hb1.size
  rw [show (w.alloc (.cells #[.int .u64 u, .int .u64 e, .int .i64 r, .int .i64 c, .int .i64 k, .int .i64 n, .bool cl, .int .i64 b, .int .i64 nw, .int .i64 gr] 26)).heap.size = w.heap.size + 1 by simp] at hz
  have hz' : w.heap.size < w1.heap.size := by omega
  clear hb1
  cases cl
  all_goals
    go_wp2_with fail
    refine (parts_any _ _ _).mono ?_
    rintro e'' w2 ⟨rfl, rfl⟩
    go_wp2_with fail
    obtain ⟨W, hW, hv, hS, hC, hP, hbW⟩ := enc_world s u e _ (by rw [HS.out]) (by rw [HS.out]) (by rw [HS.out]) hB' hbe
    simp only [clN, Bool.false_eq_true, if_false, if_true] at hW
    rw [hW]
    have HZ := Lib.hid hz
    have HZ' := Lib.hid hz'
    clear hW hB hB' hbe hq hz hz'
    go_loopw [5, 24] (fun v i wr => ∃ j : Nat, j ≤ 8 ∧ i = .int .i64 j ∧ OwnI wr w.heap.size 22 .u64 v (s.nums.take (3 + j)) ∧ Blk wr w.heap.size 26 s.v.cells ∧ Blk wr w1.heap.size 3 #[.int .i64 (clN s.cl)] ∧ Blk wr (w1.heap.size + 1 + 1) 53 (partCells w.heap.size (.pointer (some ⟨w1.heap.size, 0, none⟩))) ∧ Below w.heap.size w wr) (fun _ i _ => 8 - (intOf i).toNat)
    case atStart => exact ⟨0, by omega, rfl, hv, hS, hC, hP, hbW⟩
    case round =>
      obtain ⟨j, hj, rfl, hw, hs, hc, hp, hb⟩ := hrel
      clear hv hS hC hP hbW W
      by_cases hlt : j < 8
      · obtain ⟨hc1, hc2⟩ := part_cells hp j hlt
        obtain ⟨q, o, hq1, hq2⟩ := part_val hs hc j hlt
        rw [hq1] at hc1
        have HN := Lib.hid (nums_next s j hlt)
        have hbd := HV.out j hlt
        have hl := nums_len s (3 + j)
        obtain ⟨y, hy⟩ : ∃ y, pW.getD j 0 = y := ⟨_, rfl⟩
        obtain ⟨z, hz⟩ : ∃ z, s.pV.getD j 0 = z := ⟨_, rfl⟩
        rw [hy] at hc2
        rw [hz] at hq2 HN hbd
        obtain ⟨hz0, hz1⟩ := hbd
        have hsz := hb.size
        have hqb : q < wr.heap.size := by
          rcases Nat.lt_or_ge q wr.heap.size with e | e
          · exact e
          · exfalso
            unfold World.cell? at hq2
            rw [Array.getElem?_eq_none e] at hq2
            cases hq2
        clear hy hz hq1
        go_wp2_with (at_builtin; refine wp_pushI 48 22 .u64 Try.underlying48 info_u64 rfl (.tmp 28) (.tmp 34) rfl w.heap.size _ _ ((hw.alloc _).alloc _) rfl ⟨wr.heap.size + 1, 0, none⟩ 1 z rfl (cell_two _ _ _ _) ?c1 ?c2 ?_; (case c1 => omega); (case c2 => simp; omega); intro v4 w4 hv4 hg4 hb4; have hp4 := ((hp.alloc _).alloc _).grown hg4 (hw.ne_blk hp (by decide)); have hs4 := ((hs.alloc _).alloc _).grown hg4 (hw.ne_blk hs (by decide)); have hc4 := ((hc.alloc _).alloc _).grown hg4 (hw.ne_blk hc (by decide)); have hbe4 := (((hb.alloc hb.size _).alloc (by simp; omega) _).trans hb4))
        go_roundw
        case rel => exact ⟨j + 1, by omega, by go_num, by rw [← Nat.add_assoc, HN.out]; exact hv4, hs4, hc4, hp4, hbe4⟩
        case measure => simp [intOf]; omega
      · obtain rfl : j = 8 := by omega
        obtain ⟨A, c, rfl⟩ := hw.shape
        have hsz := hb.size
        clear hs hc hp
        go_wp2_with fail
        refine (widths_any _).mono ?_
        rintro e3 w3 ⟨v3, rfl, hv3, hb3⟩
        obtain ⟨A3, c3, rfl⟩ := hv3.shape
        have hi := (hw.below hb3).ints
        have hi3 := hv3.ints
        have hbe3 := hb.trans (hb3.mono hsz)
        clear hw hv3 hb hb3 hsz
        go_wp2_with fail
        refine (encode_any _ _ _ _ _ _ _ s.nums ws11 hi hi3 (by simp) HU.out).mono ?_
        rintro e4 w4 ⟨rfl, hb4⟩
        rw [HE.out.1, HE.out.2]
        have hbe4 := hbe3.trans (hb4.mono hbe3.size)
        clear hbe3 hb4 hi hi3
        go_wp2_with fail
        refine (seal_any _ _ _).mono ?_
        rintro e5 w5 ⟨rfl, hb5⟩
        have hbe5 := hbe4.trans (hb5.mono hbe4.size)
        clear hbe4 hb5
        rw [HSE.out.1, HSE.out.2]
        go_wp2_with fail
        go_ret2
        exact ⟨rfl, hbe5⟩

theorem supEnc_any (w : World) (s : Sup) (h : s.wf) :
    Calls Try.prog 9 #[s.v] w fun e w' => e = .returned (.tuple #[.string s.str, .int .i64 s.err]) ∧ Below w.heap.size w w' := by
  unfold Sup.str Sup.err
  cases hm : s.may
  · exact supEnc_no w s h hm
  · exact supEnc_yes w s h hm
end Go.Proofs.Ytfoflbbeckepoaa
