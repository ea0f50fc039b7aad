/- The document's Encode of a record. -/
import Derived.Test.YthpehdmffleobaaRcRf2
namespace Go.Proofs.Ythpehdmffleobaa
open Go.RowKit Go.OpenShut

set_option maxHeartbeats 1000000 in
theorem refEnc12_no (w : World) (seq row : Int) (A : Option Addr) (n c : Nat) (ps : List Prt) (h : PartsA w w.heap.size A n ps) (hn : n ≤ maxLen) (hm : mayB row ps = false) :
    Calls Try.prog 14 #[recV seq row A n c] w fun e w' => e = .returned (.tuple #[.string ⟨#[]⟩, .slice none 0 0, .int .i64 1]) ∧ Below w.heap.size w w' := by
  have HM := Lib.hid (fun V (h : PartsA V V.heap.size A n ps) => refMay_any V seq row A n c ps h hn)
  rw [hm] at HM
  unfold recV at *
  have hb0 := (Below.refl w.heap.size w).alloc (Nat.le_refl _) (.cells #[.int .u64 seq, .int .i64 row, .slice A n c] 41)
  have h1 := (h.below hb0).mono hb0.size
  clear h hm
  go_enter Try.func14, Try.ntmps14
  go_wp2_with fail
  refine (HM.out _ h1).mono ?_
  rintro e W1 ⟨rfl, hb3⟩
  go_wp2_with fail
  refine bodyPost_ret (results_tmp3 rfl _ _ _) rfl ?_
  exact ⟨rfl, hb0.trans (hb3.mono hb0.size)⟩
theorem flat_succ (ps : List Prt) (k : Nat) (h : k < ps.length) : flatL (ps.take (k + 1)) = flatL (ps.take k) ++ (ps.getD k prt0).data.data.toList := by
  rw [take_succP ps k h]
  simp [flatL]
theorem flat_take (ps : List Prt) (k : Nat) (h : loadedB ps = true) (hk : k ≤ ps.length) : (flatL (ps.take k)).length = k * 64 := by
  have h2 : loadedB (ps.take k) = true := by
    unfold loadedB at *
    rw [List.all_eq_true] at *
    exact fun x hx => h x (List.mem_of_mem_take hx)
  rw [flat_len _ h2, List.length_take, Nat.min_eq_left hk]
set_option maxRecDepth 8000 in
set_option maxHeartbeats 4000000 in
theorem refEnc12_yes (w : World) (seq row : Int) (A : Option Addr) (n c : Nat) (ps : List Prt) (h : PartsA w w.heap.size A n ps) (hn : n ≤ maxLen) (hm : mayB row ps = true) (hs : 0 ≤ seq ∧ seq < 18446744073709551616) :
    Calls Try.prog 14 #[recV seq row A n c] w fun e w' => ∃ A' c', e = .returned (.tuple #[.string ⟨(headB seq row (recSum ps) ps).toArray⟩, .slice A' n c', .int .i64 0]) ∧ n ≤ c' ∧ c' ≤ maxLen ∧ (A' = none → c' = 0) ∧ StrsA w' w'.heap.size A' n (loadS ps) ∧ Below w.heap.size w w' := by
  have HM := Lib.hid (fun V (h : PartsA V V.heap.size A n ps) => refMay_any V seq row A n c ps h hn)
  rw [hm] at HM
  unfold mayB at hm
  rw [Bool.and_eq_true] at hm
  obtain ⟨hpl, hld⟩ := hm
  obtain ⟨_, _, n1, n40, _⟩ := placed_row hpl
  have HL := Lib.hid h.1
  rw [HL.out] at n1 n40
  have HHD := Lib.hid (fun V (h : PartsA V V.heap.size A n ps) sum (hsum : sum < 4294967296) => refHd_any V seq row A n c ps sum h hpl hs hsum)
  have HFT := Lib.hid (fun k (hk : k ≤ n) => flat_take ps k hld (by rw [HL.out]; exact hk))
  unfold recV at *
  have hb0 := (Below.refl w.heap.size w).alloc (Nat.le_refl _) (.cells #[.int .u64 seq, .int .i64 row, .slice A n c] 41)
  have hR := Blk.new w 41 #[.int .u64 seq, .int .i64 row, .slice A n c]
  have h1 := (h.below hb0).mono hb0.size
  clear hpl hld
  go_enter Try.func14, Try.ntmps14
  go_wp2_with fail
  refine (HM.out _ h1).mono ?_
  rintro e W1 ⟨rfl, hb3⟩
  have hbe := hb0.trans (hb3.mono hb0.size)
  replace hR := hR.below hb3 hR.lt
  have hws : w.heap.size + 1 ≤ W1.heap.size := Nat.le_trans (by simp) hb3.size
  clear hb0 hb3 h1
  go_wp2_with fail
  have hv := OwnS.new W1 (w.heap.size + 1) hws
  have hbx := hbe.alloc hbe.size (.cells #[] 9)
  replace hR := hR.alloc (.cells #[] 9)
  have hwx : w.heap.size + 1 ≤ (W1.alloc (.cells #[] 9)).heap.size := by simp; omega
  generalize W1.alloc (.cells #[] 9) = W2 at *
  clear hws hbe
  have H0 : Hid ((⟨#[]⟩ : ByteArray) = ⟨(flatL (ps.take 0)).toArray⟩) := Lib.hid (by simp [flatL])
  go_loopw [5, 6, 7] (fun s v i wr => ∃ k : Nat, k ≤ n ∧ i = .int .i64 k ∧ s = .string ⟨(flatL (ps.take k)).toArray⟩ ∧ OwnS wr (w.heap.size + 1) v (loadS (ps.take k)) ∧ Blk wr w.heap.size 41 #[.int .u64 seq, .int .i64 row, .slice A n c] ∧ w.heap.size + 1 ≤ wr.heap.size ∧ Below w.heap.size w wr) (fun _ _ i _ => n - (intOf i).toNat)
  case atStart => exact ⟨0, by omega, rfl, congrArg Value.string H0.out, by simpa [loadS] using hv, hR, hwx, hbx⟩
  case round =>
    obtain ⟨k, hk, rfl, rfl, hw, hR1, hw1, hbr⟩ := hrel
    clear hv hR hwx hbx
    by_cases hlt : k < n
    · obtain ⟨b, o, rfl, hb, hc⟩ := h.2 (by omega)
      obtain ⟨c0, c1, c2⟩ := (hc k hlt).below hbr hb
      have HT := Lib.hid (loadS_take ps k (by rw [HL.out]; exact hlt))
      have HTL := Lib.hid (show (loadS (ps.take k)).length = k by rw [loadS_len, List.length_take, HL.out]; omega)
      have HS := Lib.hid (flat_succ ps k (by rw [HL.out]; exact hlt))
      have hsz : (⟨(flatL (ps.take k)).toArray⟩ : ByteArray).size ≤ 2560 := by rw [size_mk, HFT.out k hk]; omega
      have HSZ1 := Lib.hid (HFT.out (k + 1) (by omega))
      generalize ps.getD k prt0 = p at *
      obtain ⟨pc, po, pd⟩ := p
      dsimp only at c0 c1 c2 HT HS
      have HAP : Hid ((⟨(flatL (ps.take k)).toArray⟩ : ByteArray) ++ pd = ⟨(flatL (ps.take (k + 1))).toArray⟩) := Lib.hid (by
        rw [HS.out]
        apply ByteArray.ext
        apply Array.toList_inj.1
        simp)
      have hpd : pd.size ≤ 2560 := by
        have h2 := congrArg ByteArray.size HAP.out
        rw [ByteArray.size_append, size_mk (flatL (ps.take (k + 1))), HSZ1.out] at h2
        omega
      generalize (⟨(flatL (ps.take k)).toArray⟩ : ByteArray) = s at *
      clear hc
      have q2 := hR1.cell 2
      go_wp2_with (at_builtin; refine wp_appS rfl (.tmp 27) (.tmp 34) rfl (w.heap.size + 1) _ _ (hw.alloc _) rfl _ _ _ _ rfl (StrsA.lit1 rfl) (fun h => by cases h) ?c1 ?c2 ?_; (case c1 => rw [HTL.out]; omega); (case c2 => simp; omega); intro v7 w7 hv7 hg7 hb7)
      have hR7 := (hR1.alloc (.cells #[.string pd] 9)).below hb7 (by omega)
      have hbe7 := (hbr.alloc hbr.size (.cells #[.string pd] 9)).trans (hb7.mono (by omega))
      have hw7 : w.heap.size + 1 ≤ w7.heap.size := Nat.le_trans (by simp; omega) hb7.size
      rw [← HT.out] at hv7
      rw [HAP.out]
      go_roundw
      case rel => exact ⟨k + 1, by omega, by go_num, rfl, hv7, hR7, hw7, hbe7⟩
      case measure => simp [intOf]; go_num
    · obtain rfl : k = n := by omega
      rw [List.take_of_length_le (by rw [HL.out]; exact Nat.le_refl _)] at hw ⊢
      have HSL := Lib.hid ((loadS_len ps).trans HL.out)
      obtain ⟨A5, c5, rfl, hc5, hcm5, hA5⟩ := hw.shape3
      rw [HSL.out] at hw hc5 ⊢
      have hst := hw.strs
      have hp1 := (h.below hbr).mono hbr.size
      have HSM : Hid (∀ V, Calls Try.prog 30 #[.string ⟨(flatL ps).toArray⟩] V fun e w' => e = .returned (.int .u32 (recSum ps : Nat)) ∧ V = w') := Lib.hid (fun V => by
        have h := refSum_any V ⟨(flatL ps).toArray⟩ (by
          have h3 := HFT.out k (Nat.le_refl _)
          rw [List.take_of_length_le (by rw [HL.out]; exact Nat.le_refl _)] at h3
          rw [size_mk, h3]
          unfold maxLen
          omega)
        rw [list_mk] at h
        exact h)
      have hsl : recSum ps < 4294967296 := cmore_lt _ _
      have hq := hR1.cell
      generalize (⟨(flatL ps).toArray⟩ : ByteArray) = FL at *
      go_wp2_with fail
      refine wp_region_nf (fun Y => Below wr.heap.size wr Y) (fun _ => false) [(0, true), (1, true), (4, true), (2, false), (3, false), (5, true), (6, true), (7, true)] (by kernel_rfl) rfl (by kernel_rfl) (by kernel_rfl) (fun d _ _ _ _ h => by cases d <;> exact h) ?_
      have hbd := (Below.refl wr.heap.size wr).drew
      have HRQ := Lib.hid (fun (Y : World) (hY : Below wr.heap.size wr Y) => (hR1.below hY hR1.lt).cell)
      repeat (refine nf_pure rfl hbd (fun Y hY => by have q := HRQ.out Y hY; clear hY; go_wp2; exact ⟨rfl, rfl, rfl⟩) rfl ?_ ?_; rfl)
      refine nf_imp rfl ?_
      go_wp2_with fail
      refine (HSM.out _).mono ?_
      rintro e W3 ⟨rfl, rfl⟩
      go_wp2_with fail
      refine ⟨fun _ => hbd, ?_⟩
      refine nf_imp rfl ?_
      go_wp2_with fail
      refine (HHD.out _ ((hp1.below hbd).mono hbd.size) (recSum ps) hsl).mono ?_
      rintro e W4 ⟨rfl, hb2⟩
      replace hbd := hbd.trans (hb2.mono hbd.size)
      clear hb2
      go_wp2_with fail
      refine ⟨fun _ => hbd, ?_⟩
      repeat (refine nf_pure rfl hbd (fun Y hY => by clear hY; go_wp2; exact ⟨rfl, rfl, rfl⟩) rfl ?_ ?_; rfl)
      refine nf_nil ?_
      go_wp2_with fail
      refine bodyPost_ret (results_tmp3 rfl _ _ _) rfl ?_
      exact ⟨A5, c5, rfl, hc5, hcm5, hA5, (hst.below hbd).mono hbd.size, hbr.trans (hbd.mono hbr.size)⟩
end Go.Proofs.Ythpehdmffleobaa
