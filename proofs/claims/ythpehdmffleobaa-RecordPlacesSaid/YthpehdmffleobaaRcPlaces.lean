/- revetmentlaw12.RecordPlaces: its walk. -/
import Derived.Test.YthpehdmffleobaaRcPlPlain
import Derived.Test.YthpehdmffleobaaRcShown
namespace Go.Proofs.Ythpehdmffleobaa
open Go.RowKit Go.OpenShut

set_option maxRecDepth 8000 in
set_option maxHeartbeats 4000000 in
theorem places_go (w : World) (seq : Int) (row fr many : Nat) (tw : Bool) (hs : 0 ≤ seq ∧ seq < 18446744073709551616) (hr : row < 256) (hf : fr < 256) (hm : many < 256) (n : Nat) (hn : many % 50 = n) :
    Calls Try.prog 3 #[.int .u64 seq, .int .u8 row, .int .u8 fr, .int .u8 many, .bool tw] w fun e w' => e = .returned (.bool true) ∧ Below w.heap.size w w' := by
  have hn50 : n < 50 := by omega
  have hrem : (many : Int) % 50 = (n : Int) := by omega
  clear hn
  go_enter Try.func3, Try.ntmps3
  go_wp2_with fail
  rw [hrem]
  clear hrem
  have hv := OwnS.new w w.heap.size (Nat.le_refl _)
  have hb0 := (Below.refl w.heap.size w).alloc (Nat.le_refl _) (.cells #[] 9)
  generalize w.alloc (.cells #[] 9) = w0 at *
  go_loopw [12, 13] (fun v i wr => ∃ k : Nat, k ≤ n ∧ i = .int .i64 k ∧ OwnS wr w.heap.size v (List.replicate k ⟨#[120]⟩) ∧ Below w.heap.size w wr) (fun _ i _ => n - (intOf i).toNat)
  case atStart => exact ⟨0, by omega, rfl, hv, hb0⟩
  case round =>
    obtain ⟨k, hk, rfl, hw, hbr⟩ := hrel
    clear hv hb0
    by_cases hlt : k < n
    · have hlt' : (k : Int) < (n : Int) := by omega
      go_wp2_with (at_builtin; refine wp_appS rfl (.tmp 26) (.tmp 27) rfl w.heap.size _ _ (hw.alloc _) rfl _ _ _ _ rfl (StrsA.lit1 rfl) (fun h => by cases h) ?c1 ?c2 ?_; (case c1 => rw [List.length_replicate]; omega); (case c2 => have := hbr.size; simp; omega); intro v7 w7 hv7 hg7 hb7)
      have hbe := (hbr.alloc hbr.size (.cells #[.string ⟨#[120]⟩] 9)).trans hb7
      rw [← List.replicate_succ'] at hv7
      go_roundw
      case rel => exact ⟨k + 1, by omega, by go_num, hv7, hbe⟩
      case measure => simp [intOf]; go_num
    · obtain rfl : k = n := by omega
      obtain ⟨A, c, rfl, hc⟩ := hw.shape
      rw [List.length_replicate] at hw hc ⊢
      have hst := hw.strs
      have HST := Lib.hid (fun V (h : StrsA V V.heap.size A k (List.replicate k ⟨#[120]⟩)) => some_any V seq row fr hr hf A k c _ h (by unfold maxLen; omega) (fun x hx => by rw [(List.mem_replicate.1 hx).2]; decide))
      obtain ⟨N, hN, hNk, hN40⟩ : ∃ N, min k 40 = N ∧ (N = 0 ↔ k = 0) ∧ N ≤ 40 := ⟨_, rfl, by omega, by omega⟩
      have hmin : min (k : Int) 40 = (N : Int) := by omega
      rw [hN] at HST
      have HMY := Lib.hid (some_may row fr hr (List.replicate k ⟨#[120]⟩) N hN40)
      have HTM := Lib.hid (twice_may row fr hr (List.replicate k ⟨#[120]⟩) N hN40)
      have HLN := Lib.hid (someL_len fr (List.replicate k ⟨#[120]⟩) N)
      clear hw hN
      generalize someL fr (List.replicate k ⟨#[120]⟩) N = ps at *
      generalize List.replicate k (⟨#[120]⟩ : ByteArray) = xs at *
      go_wp2_with fail
      refine (HST.out _ hst).mono ?_
      rintro e w1 ⟨A1, c1, rfl, hc1, hc1m, hA1, hP, hb1⟩
      replace hbr := hbr.trans (hb1.mono hbr.size)
      clear hb1 hst
      unfold recV
      go_wp2_with fail
      have hgw := hbr.size
      have hB := Blk.new w1 26 #[.int .u64 seq, .int .i64 row, .slice A1 N c1]
      have hal := (Below.refl w1.heap.size w1).alloc (Nat.le_refl _) (.cells #[.int .u64 seq, .int .i64 row, .slice A1 N c1] 26)
      replace hP := (hP.below hal).mono hal.size
      replace hbr := hbr.trans (hal.mono hbr.size)
      clear hal
      generalize hgr : w1.heap.size = gr at *
      generalize w1.alloc (.cells #[.int .u64 seq, .int .i64 row, .slice A1 N c1] 26) = w2 at *
      refine (may_any w2 seq row A1 N c1 ps hP (by unfold maxLen; omega)).mono ?_
      rintro e w3 ⟨rfl, hb3⟩
      rw [HMY.out]
      replace hB := hB.below hb3 hB.lt
      replace hP := (hP.below hb3).mono hb3.size
      replace hbr := hbr.trans (hb3.mono hbr.size)
      clear hb3
      by_cases hk0 : k = 0
      · have hN0 : N = 0 := hNk.2 hk0
        have hk1 : ((k : Int) == 0) = true := by rw [hk0]; rfl
        rw [decide_eq_false (fun h => h hN0)]
        clear hk0 hN0 hNk HTM HMY HST HLN
        go_wp2_with fail
        refine (shown12_any _).mono ?_
        rintro e w4 ⟨rfl, hb4⟩
        go_wp2_with fail
        go_ret
        exact ⟨rfl, hbr.trans (hb4.mono hbr.size)⟩
      · have hN0 : N ≠ 0 := fun e => hk0 (hNk.1 e)
        have hk0' : ((k : Int) == 0) = false := by rw [beq_eq_false_iff_ne]; omega
        rw [decide_eq_true hN0]
        go_wp2_with fail
        refine (shown12_any _).mono ?_
        rintro e w4 ⟨rfl, hb4⟩
        replace hB := hB.below hb4 hB.lt
        replace hP := (hP.below hb4).mono hb4.size
        replace hbr := hbr.trans (hb4.mono hbr.size)
        clear hb4
        have hM0 := Blk.new w4 26 #[.int .u64 seq, .int .i64 row, .slice none 0 0]
        have hal := (Below.refl w4.heap.size w4).alloc (Nat.le_refl _) (.cells #[.int .u64 seq, .int .i64 row, .slice none 0 0] 26)
        have hB0 := hB.below hal hB.lt
        have hP0 := (hP.below hal).mono hal.size
        have hbr0 := hbr.trans (hal.mono hbr.size)
        have hgm : w.heap.size ≤ w4.heap.size := hbr.size
        have hv0 := OwnP.none_ (e := 31) (w4.alloc (.cells #[.int .u64 seq, .int .i64 row, .slice none 0 0] 26)) (w4.heap.size + 1)
        have hq2 := hB0.cell 2
        cases tw
        all_goals go_wp2_with (at_builtin; go_loud (refine wp_appP 24 31 Try.underlying24 info_part rfl (.tmp 60) (.tmp 62) rfl (w4.heap.size + 1) _ _ hv0 rfl A1 N c1 _ rfl hP0 hA1 ?c1 ?c2 ?_; (case c1 => simp; omega); (case c2 => simp); intro v5 w5 hv5 hg5 hb5 ha5; have hM5 := hM0.below hb5 (by omega); have hqf := hM5.frozen; have hqc := hM5.cell 2; have hqc0 := hM5.cell 0; have hqc1 := hM5.cell 1; rw [List.nil_append] at hv5; obtain ⟨A5, c5, rfl, hc5, hcm5⟩ := hv5.shape; rw [HLN.out] at hv5 hc5 ⊢))
        · have hbe5 := hbr0.trans (hb5.mono (by omega))
          have hMM : Blk ((w5.setCell ⟨w4.heap.size, 2, none⟩ (.slice A5 N c5)).setCell ⟨w4.heap.size, 1, none⟩ (.int .i64 256)) w4.heap.size 26 #[.int .u64 seq, .int .i64 256, .slice A5 N c5] := (hM5.set_ 2 (.slice A5 N c5)).set_ 1 (.int .i64 256)
          have hv7 := (hv5.far (p := ⟨w4.heap.size, 2, none⟩) (fun e => by have := (hv5.lt _ e.symm).1; dsimp only at this; omega) (.slice A5 N c5)).far (p := ⟨w4.heap.size, 1, none⟩) (fun e => by have := (hv5.lt _ e.symm).1; dsimp only at this; omega) (.int .i64 256)
          have hbe7 := (hbe5.setCell (p := ⟨w4.heap.size, 2, none⟩) hgm (.slice A5 N c5)).setCell (p := ⟨w4.heap.size, 1, none⟩) hgm (.int .i64 256)
          refine (may_any _ seq 256 A5 N c5 ps hv7.parts (by unfold maxLen; omega)).mono ?_
          rintro e w8 ⟨rfl, hb8⟩
          rw [row_no]
          go_wp2_with fail
          go_ret
          exact ⟨rfl, hbe7.trans (hb8.mono hbe7.size)⟩
        · have hbe5 := hbr0.trans (hb5.mono (by omega))
          obtain ⟨g5, rfl⟩ := hv5.some_ (by omega)
          have hMM : Blk (w5.setCell ⟨w4.heap.size, 2, none⟩ (.slice (some ⟨g5, 0, none⟩) N c5)) w4.heap.size 26 #[.int .u64 seq, .int .i64 row, .slice (some ⟨g5, 0, none⟩) N c5] := hM5.set_ 2 _
          have hv6 := hv5.far (p := ⟨w4.heap.size, 2, none⟩) (fun e => by have := (hv5.lt _ e.symm).1; dsimp only at this; omega) (.slice (some ⟨g5, 0, none⟩) N c5)
          have hbe6 := hbe5.setCell (p := ⟨w4.heap.size, 2, none⟩) hgm (.slice (some ⟨g5, 0, none⟩) N c5)
          have hg5w : w4.heap.size + 1 ≤ g5 := (hv6.lt g5 rfl).1
          clear hM5 hqf hqc hqc0 hqc1 hv5 hbe5 hb5 hg5 ha5 hM0 hal hB0 hP0 hbr0 hv0 hq2 hP hB
          generalize w5.setCell ⟨w4.heap.size, 2, none⟩ (.slice (some ⟨g5, 0, none⟩) N c5) = w6 at *
          obtain ⟨j, hj⟩ : ∃ j, N - 1 = j := ⟨_, rfl⟩
          have hjN : j < N := by omega
          have hsub : (N : Int) - 1 = (j : Int) := by omega
          have HTW := Lib.hid (show twiceL ps = (ps.set j ⟨(ps.getD 0 prt0).col, (ps.getD j prt0).off, (ps.getD j prt0).data⟩).set j ⟨(ps.getD 0 prt0).col, (ps.getD 0 prt0).off, (ps.getD j prt0).data⟩ by
            unfold twiceL; rw [HLN.out, hj, List.set_set])
          clear hj
          obtain ⟨a0, a1, a2⟩ := hv6.at_ HLN.out 0 (by omega)
          obtain ⟨b0, b1, b2⟩ := hv6.at_ HLN.out j hjN
          have hfz := hv6.froz HLN.out
          have hv7 := hv6.set0 HLN.out j hjN (ps.getD 0 prt0).col
          have HL7 := Lib.hid (show (ps.set j ⟨(ps.getD 0 prt0).col, (ps.getD j prt0).off, (ps.getD j prt0).data⟩).length = N by rw [List.length_set, HLN.out])
          have H70 := Lib.hid (show ((ps.set j ⟨(ps.getD 0 prt0).col, (ps.getD j prt0).off, (ps.getD j prt0).data⟩).getD 0 prt0).off = (ps.getD 0 prt0).off by
            have h0 := HLN.out
            by_cases e : j = 0
            · subst e; simp [List.getD, show 0 < ps.length by omega]
            · simp [List.getD, List.getElem?_set_ne e])
          have H7j := Lib.hid (show (ps.set j ⟨(ps.getD 0 prt0).col, (ps.getD j prt0).off, (ps.getD j prt0).data⟩).getD j prt0 = ⟨(ps.getD 0 prt0).col, (ps.getD j prt0).off, (ps.getD j prt0).data⟩ by
            have h0 := HLN.out
            simp [List.getD, show j < ps.length by omega])
          rw [Nat.zero_add, Nat.zero_mul] at a0
          rw [Nat.zero_add] at b0
          clear a1 a2 b1 b2
          generalize ps.set j ⟨(ps.getD 0 prt0).col, (ps.getD j prt0).off, (ps.getD j prt0).data⟩ = ps7 at *
          generalize (ps.getD 0 prt0).col = x0 at *
          generalize (ps.getD 0 prt0).off = y0 at *
          generalize (ps.getD j prt0).col = xj at *
          generalize (ps.getD j prt0).off = yj at *
          generalize (ps.getD j prt0).data = dj at *
          have hb7 := hbe6.setCell (p := ⟨g5, j * 3, none⟩) (show w.heap.size ≤ g5 by omega) (.int .i64 x0)
          have hM7 := hMM.far (p := ⟨g5, j * 3, none⟩) (show w4.heap.size ≠ g5 by omega) (.int .i64 x0)
          refine wp_region_nf (fun Y => Y = w6.drew) (fun i => i == 11) [(0, true), (1, true), (2, true), (3, true), (4, true), (5, true), (6, true), (7, true), (8, true), (9, false), (10, false), (11, false)] (by kernel_rfl) rfl (by kernel_rfl) (by kernel_rfl) (fun d _ _ _ _ h => by cases d <;> exact h) ?_
          have qq : w6.drew.cell? ⟨w4.heap.size, 2, none⟩ = some (.slice (some ⟨g5, 0, none⟩) N c5) := hMM.cell 2
          have a0' : w6.drew.cell? ⟨g5, 0, none⟩ = some (.int .i64 x0) := a0
          have b0' : w6.drew.cell? ⟨g5, j * 3, none⟩ = some (.int .i64 xj) := b0
          have fz' : ∀ i, w6.drew.frozen? ⟨g5, i, none⟩ = false := hfz
          have e7 : w6.drew.setCell ⟨g5, j * 3, none⟩ (.int .i64 x0) = (w6.setCell ⟨g5, j * 3, none⟩ (.int .i64 x0)).drew := rfl
          replace hb7 := hb7.drew
          replace hv7 := hv7.drew
          replace hM7 : Blk (w6.setCell ⟨g5, j * 3, none⟩ (.int .i64 x0)).drew w4.heap.size 26 _ := hM7
          rw [← e7] at hb7 hv7 hM7
          clear a0 b0 hfz e7 hMM hv6 hbe6
          generalize w6.drew = V at *
          repeat (refine nf_pure rfl rfl (fun Y hY => by subst hY; go_wp2; exact ⟨rfl, rfl, rfl⟩) rfl ?_ ?_; rfl)
          refine nf_imp rfl ?_
          go_wp2_with fail
          refine ⟨fun _ => rfl, ?_⟩
          refine nf_imp rfl ?_
          go_wp2_with fail
          refine ⟨fun _ => rfl, ?_⟩
          refine nf_imp rfl ?_
          go_wp2_with fail
          refine ⟨fun h => (by cases h), ?_⟩
          refine nf_nil ?_
          clear a0' b0' qq fz'
          generalize V.setCell ⟨g5, j * 3, none⟩ (.int .i64 x0) = V1 at *
          obtain ⟨a0, a1, a2⟩ := hv7.at_ HL7.out 0 (by omega)
          obtain ⟨b0, b1, b2⟩ := hv7.at_ HL7.out j hjN
          rw [H70.out] at a1
          replace a1 : V1.cell? ⟨g5, 1, none⟩ = some (.int .i64 y0) := by simpa using a1
          rw [H7j.out, Nat.zero_add] at b1
          have hfz := hv7.froz HL7.out
          have hv8 := hv7.set1 HL7.out j hjN y0
          rw [H7j.out] at hv8
          dsimp only at hv8 b1
          rw [← HTW.out] at hv8
          clear a0 a2 b0 b2
          have hb8 := hb7.setCell (p := ⟨g5, j * 3 + 1, none⟩) (show w.heap.size ≤ g5 by omega) (.int .i64 y0)
          have hM8 := hM7.far (p := ⟨g5, j * 3 + 1, none⟩) (show w4.heap.size ≠ g5 by omega) (.int .i64 y0)
          have qq := hM7.cell 2
          go_wp2_with fail
          refine wp_region_nf (fun Y => Y = V1.drew) (fun i => i == 11) [(0, true), (1, true), (2, true), (3, true), (4, true), (5, true), (6, true), (7, true), (8, true), (9, false), (10, false), (11, false)] (by kernel_rfl) rfl (by kernel_rfl) (by kernel_rfl) (fun d _ _ _ _ h => by cases d <;> exact h) ?_
          have qq' : V1.drew.cell? ⟨w4.heap.size, 2, none⟩ = some (.slice (some ⟨g5, 0, none⟩) N c5) := hM7.cell 2
          have a1' : V1.drew.cell? ⟨g5, 1, none⟩ = some (.int .i64 y0) := a1
          have b1' : V1.drew.cell? ⟨g5, j * 3 + 1, none⟩ = some (.int .i64 yj) := b1
          have fz' : ∀ i, V1.drew.frozen? ⟨g5, i, none⟩ = false := hfz
          have e8 : V1.drew.setCell ⟨g5, j * 3 + 1, none⟩ (.int .i64 y0) = (V1.setCell ⟨g5, j * 3 + 1, none⟩ (.int .i64 y0)).drew := rfl
          replace hb8 := hb8.drew
          replace hv8 := hv8.drew
          replace hM8 : Blk (V1.setCell ⟨g5, j * 3 + 1, none⟩ (.int .i64 y0)).drew w4.heap.size 26 _ := hM8
          rw [← e8] at hb8 hv8 hM8
          clear a1 b1 hfz e8 qq hM7 hv7 hb7
          generalize V1.drew = V2 at *
          repeat (refine nf_pure rfl rfl (fun Y hY => by subst hY; go_wp2; exact ⟨rfl, rfl, rfl⟩) rfl ?_ ?_; rfl)
          refine nf_imp rfl ?_
          go_wp2_with fail
          refine ⟨fun _ => rfl, ?_⟩
          refine nf_imp rfl ?_
          go_wp2_with fail
          refine ⟨fun _ => rfl, ?_⟩
          refine nf_imp rfl ?_
          go_wp2_with fail
          refine ⟨fun h => (by cases h), ?_⟩
          refine nf_nil ?_
          clear a1' b1' qq' fz'
          generalize V2.setCell ⟨g5, j * 3 + 1, none⟩ (.int .i64 y0) = V3 at *
          have qq := hM8.cell
          go_wp2_with fail
          refine (may_any _ seq row (some ⟨g5, 0, none⟩) N c5 (twiceL ps) hv8.parts (by unfold maxLen; omega)).mono ?_
          rintro e w8 ⟨rfl, hb9⟩
          rw [HTM.out hN0]
          have he : decide (N = 1) = ((N : Int) == 1) := by
            rw [Bool.eq_iff_iff, decide_eq_true_eq, beq_iff_eq]
            omega
          rw [he]
          clear he hsub hjN
          go_wp2_with fail
          go_ret
          exact ⟨rfl, hb8.trans (hb9.mono hb8.size)⟩
theorem recordPlaces_walk (seq row fr many : Int) (tw : Bool) (hs : (Lit.int .u64 seq).wf = true) (hr : (Lit.int .u8 row).wf = true) (hf : (Lit.int .u8 fr).wf = true) (hm : (Lit.int .u8 many).wf = true) (w : World) :
    Calls Try.prog 3 #[.int .u64 seq, .int .u8 row, .int .u8 fr, .int .u8 many, .bool tw] w fun e w' => e = .returned (.bool true) ∧ Below w.heap.size w w' := by
  have h0 := bounds_u64 hs
  have h1 := bounds_u8 hr
  have h2 := bounds_u8 hf
  have h3 := bounds_u8 hm
  obtain ⟨row, rfl⟩ := Int.eq_ofNat_of_zero_le h1.1
  obtain ⟨fr, rfl⟩ := Int.eq_ofNat_of_zero_le h2.1
  obtain ⟨many, rfl⟩ := Int.eq_ofNat_of_zero_le h3.1
  exact places_go w seq row fr many tw (by omega) (by omega) (by omega) (by omega) _ rfl
end Go.Proofs.Ythpehdmffleobaa
