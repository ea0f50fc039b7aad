/- revetmentlaw12.RecordBack: its walk. -/
import Derived.Test.YthpehdmffleobaaRcPlain
import Derived.Test.YthpehdmffleobaaRcSame
import Derived.Test.YthpehdmffleobaaRcHeads
namespace Go.Proofs.Ythpehdmffleobaa
open Go.RowKit Go.OpenShut

set_option maxRecDepth 8000 in
set_option maxHeartbeats 2000000 in
theorem back_no (w : World) (sq rw_ fr : Int) (A : Option Addr) (n c : Nat) (xs : List ByteArray) (hx : StrsA w w.heap.size A n xs) (hn : n ≤ maxLen) (hb : heavyB xs = true ∨ n = 0 ∨ 40 < n) :
    Calls Try.prog 5 #[.int .u64 sq, .int .u8 rw_, .int .u8 fr, .slice A n c] w fun e w' => e = .returned (.bool true) ∧ Below w.heap.size w w' := by
  have HV := Lib.hid (heavy_any w A n c xs hx hn)
  by_cases h1 : heavyB xs = true
  · rw [h1] at HV
    clear hb h1
    go_enter Try.func5, Try.ntmps5
    go_wp2_with fail
    refine HV.out.mono ?_
    rintro e w1 ⟨rfl, rfl⟩
    go_wp2_with fail
    refine (shown12_any _).mono ?_
    rintro e w1 ⟨rfl, hb⟩
    go_wp2_with fail
    go_ret
    exact ⟨rfl, hb⟩
  · rw [Bool.not_eq_true] at h1
    rw [h1] at HV
    by_cases h2 : n = 0
    · subst h2
      clear hb h1
      go_enter Try.func5, Try.ntmps5
      go_wp2_with fail
      refine HV.out.mono ?_
      rintro e w1 ⟨rfl, rfl⟩
      go_wp2_with fail
      refine (shown12_any _).mono ?_
      rintro e w1 ⟨rfl, hb⟩
      go_wp2_with fail
      go_ret
      exact ⟨rfl, hb⟩
    · have h3 : (n : Int) > 40 := by
        rcases hb with e | e | e
        · rw [h1] at e; cases e
        · omega
        · omega
      have h6 : ((n : Int) == 0) = false := by rw [beq_eq_false_iff_ne]; omega
      clear hb h1
      go_enter Try.func5, Try.ntmps5
      go_wp2_with fail
      refine HV.out.mono ?_
      rintro e w1 ⟨rfl, rfl⟩
      go_wp2_with fail
      refine (shown12_any _).mono ?_
      rintro e w1 ⟨rfl, hb⟩
      go_wp2_with fail
      go_ret
      exact ⟨rfl, hb⟩
set_option maxRecDepth 8000 in
set_option maxHeartbeats 4000000 in
theorem back_yes (w : World) (sq row fr : Nat) (hs : sq < 18446744073709551616) (hr : row < 256) (hf : fr < 256) (A : Option Addr) (n c : Nat) (xs : List ByteArray) (hx : StrsA w w.heap.size A n xs) (hv : heavyB xs = false) (n1 : 1 ≤ n) (n40 : n ≤ 40) :
    Calls Try.prog 5 #[.int .u64 sq, .int .u8 row, .int .u8 fr, .slice A n c] w fun e w' => e = .returned (.bool true) ∧ Below w.heap.size w w' := by
  have HV := Lib.hid (heavy_any w A n c xs hx (by unfold maxLen; omega))
  rw [hv] at HV
  have HST := Lib.hid (fun V (h : StrsA V V.heap.size A n xs) => some_any V sq row fr hr hf A n c xs h (by unfold maxLen; omega) (fun x hx => by have := ((heavyB_no xs).1 hv).2 x hx; omega))
  rw [Nat.min_eq_left n40] at HST
  have hmay := some_may row fr hr xs n n40
  rw [decide_eq_true (by omega)] at hmay
  have HPL := Lib.hid (someL_len fr xs n)
  generalize someL fr xs n = ps at *
  have hpl : placedB row ps = true := by
    unfold mayB at hmay
    rw [Bool.and_eq_true] at hmay
    exact hmay.1
  have hsum : recSum ps < 4294967296 := cmore_lt _ _
  obtain ⟨hE, hR⟩ := head_of hpl hs hsum
  have HEN := Lib.hid (fun V A1 c1 (h : PartsA V V.heap.size A1 n ps) => encode12_yes V sq row A1 n c1 ps h (by unfold maxLen; omega) hmay (by omega))
  have HMAY := Lib.hid (fun V A1 c1 (h : PartsA V V.heap.size A1 n ps) => may_any V sq row A1 n c1 ps h (by unfold maxLen; omega))
  rw [hmay] at HMAY
  have HSL := Lib.hid ((loadS_len ps).trans HPL.out)
  obtain ⟨hd0, hdr⟩ := dec_self (seq := sq) (row := row) (ps := ps) hmay hs
  have HDS := Lib.hid (fun (ys : List ByteArray) (h : ys.length ≠ n) => dec_short (seq := sq) (row := row) (sum := recSum ps) (xs := ys) hpl hs hsum (by rw [HPL.out]; exact h))
  have HHD := Lib.hid (fun V => head12_any V ⟨(headB sq row (recSum ps) ps).toArray⟩)
  rw [hE, hR] at HHD
  have HDD := Lib.hid (fun V A1 c1 (h : StrsA V V.heap.size A1 n (loadS ps)) h1 h2 h3 => decode12_any V ⟨(headB sq row (recSum ps) ps).toArray⟩ A1 n c1 (loadS ps) h h1 h2 h3)
  rw [hd0, hdr] at HDD
  generalize (⟨(headB sq row (recSum ps) ps).toArray⟩ : ByteArray) = H at *
  generalize recSum ps = S at *
  have h6 : ((n : Int) == 0) = false := by rw [beq_eq_false_iff_ne]; omega
  have h7 : ¬ ((n : Int) > 40) := by omega
  clear hmay hpl hE hR hsum hv hd0 hdr
  go_enter Try.func5, Try.ntmps5
  go_wp2_with fail
  refine HV.out.mono ?_
  rintro e w1 ⟨rfl, rfl⟩
  go_wp2_with fail
  refine (shown12_any _).mono ?_
  rintro e w1 ⟨rfl, hb⟩
  have hxs := (hx.below hb).mono hb.size
  go_wp2_with fail
  refine (HST.out _ hxs).mono ?_
  rintro e w2 ⟨A1, c1, rfl, hc1, hc1m, hA1, hP, hb2⟩
  have hbe := hb.trans (hb2.mono hb.size)
  unfold recV
  clear hb hb2 hx hxs
  go_wp2_with fail
  have hB := Blk.new w2 26 #[.int .u64 sq, .int .i64 row, .slice A1 n c1]
  have hal := (Below.refl w2.heap.size w2).alloc (Nat.le_refl _) (.cells #[.int .u64 sq, .int .i64 row, .slice A1 n c1] 26)
  replace hP := (hP.below hal).mono hal.size
  replace hbe := hbe.trans (hal.mono hbe.size)
  generalize w2.alloc (.cells #[.int .u64 sq, .int .i64 row, .slice A1 n c1] 26) = w3 at *
  generalize w2.heap.size = r9 at *
  clear hal
  refine (HEN.out _ _ _ hP).mono ?_
  rintro e w4 ⟨A2, c2, rfl, hc2, hc2m, hA2, hL, hb4⟩
  replace hP := (hP.below hb4).mono hb4.size
  replace hB := hB.below hb4 hB.lt
  replace hbe := hbe.trans (hb4.mono hbe.size)
  clear hb4
  go_wp2_with fail
  refine (HDD.out _ _ _ hL hc2 hc2m hA2).mono ?_
  rintro e w5 ⟨A3, c3, rfl, hv, hb5⟩
  dsimp only at hv ⊢
  rw [HPL.out] at hv ⊢
  unfold recV
  replace hP := (hP.below hb5).mono hb5.size
  replace hL := (hL.below hb5).mono hb5.size
  have hQ := hv.parts
  replace hB := hB.below hb5 hB.lt
  replace hbe := hbe.trans (hb5.mono hbe.size)
  clear hb5 hv
  go_wp2_with fail
  have hC := Blk.new w5 26 #[.int .u64 sq, .int .i64 row, .slice A3 n c3]
  have hal := (Below.refl w5.heap.size w5).alloc (Nat.le_refl _) (.cells #[.int .u64 sq, .int .i64 row, .slice A3 n c3] 26)
  replace hP := (hP.below hal).mono hal.size
  replace hQ := (hQ.below hal).mono hal.size
  replace hL := (hL.below hal).mono hal.size
  replace hB := hB.below hal hB.lt
  replace hbe := hbe.trans (hal.mono hbe.size)
  generalize w5.alloc (.cells #[.int .u64 sq, .int .i64 row, .slice A3 n c3] 26) = w6 at *
  generalize w5.heap.size = r13 at *
  clear hal
  refine (HHD.out _).mono ?_
  rintro e w7 ⟨A4, c4, rfl, hv, hb7⟩
  dsimp only at hv ⊢
  rw [List.length_map, HPL.out] at hv ⊢
  unfold recV
  replace hP := (hP.below hb7).mono hb7.size
  replace hQ := (hQ.below hb7).mono hb7.size
  replace hL := (hL.below hb7).mono hb7.size
  replace hB := hB.below hb7 hB.lt
  replace hC := hC.below hb7 hC.lt
  replace hbe := hbe.trans (hb7.mono hbe.size)
  clear hb7 hv
  go_wp2_with fail
  have hD := Blk.new w7 26 #[.int .u64 sq, .int .i64 row, .slice A4 n c4]
  have hal := (Below.refl w7.heap.size w7).alloc (Nat.le_refl _) (.cells #[.int .u64 sq, .int .i64 row, .slice A4 n c4] 26)
  replace hP := (hP.below hal).mono hal.size
  replace hQ := (hQ.below hal).mono hal.size
  replace hL := (hL.below hal).mono hal.size
  replace hB := hB.below hal hB.lt
  replace hC := hC.below hal hC.lt
  replace hbe := (hbe.trans (hal.mono hbe.size)).drew
  generalize w7.alloc (.cells #[.int .u64 sq, .int .i64 row, .slice A4 n c4] 26) = w8 at *
  generalize w7.heap.size = r15 at *
  clear hal
  have hP1 : PartsA w8.drew w8.drew.heap.size A1 n ps := hP
  have hQ1 : PartsA w8.drew w8.drew.heap.size A3 n ps := hQ
  have hL1 : StrsA w8.drew w8.drew.heap.size A2 n (loadS ps) := hL
  have hB1 : Blk w8.drew r9 _ _ := hB
  have hC1 : Blk w8.drew r13 _ _ := hC
  have hD1 : Blk w8.drew r15 _ _ := hD
  clear hP hQ hL hB hC hD
  have hne : ∀ x : Int, (x != x) = false := fun x => by simp
  have e1 := hne (n : Int)
  have e2 := hne (sq : Int)
  have e3 := hne (row : Int)
  clear hne
  refine wp_region_nf (fun Y => Below w8.drew.heap.size w8.drew Y) (fun _ => false) [(0, true), (1, false), (2, true), (3, true), (4, true), (5, true), (6, true), (7, true), (8, true), (9, true), (10, true), (11, true), (12, true), (13, true), (14, true), (15, true), (16, true), (18, true), (17, false), (19, false), (20, false), (21, true), (22, true), (23, true), (24, true), (25, true), (26, true), (27, true), (28, true), (29, true), (30, true), (31, true), (32, true), (33, true), (34, true), (35, true), (36, true), (37, true), (38, true), (39, true), (40, true), (41, true), (42, true), (43, true)] (by kernel_rfl) rfl (by kernel_rfl) (by kernel_rfl) (fun d _ _ _ _ h => by cases d <;> exact h) ?_
  generalize w8.drew = V at *
  have HCL := Lib.hid (fun (Y : World) (hY : Below V.heap.size V Y) => And.intro (hB1.below hY hB1.lt).cell (And.intro (hC1.below hY hC1.lt).cell (hD1.below hY hD1.lt).cell))
  have hbd := Below.refl V.heap.size V
  refine nf_pure rfl hbd (fun Y hY => by obtain ⟨g1, g2, g3⟩ := HCL.out Y hY; clear hY; go_wp2; exact ⟨rfl, rfl, rfl⟩) rfl ?_ ?_; rfl
  refine nf_imp rfl ?_
  go_wp2_with fail
  refine (HMAY.out _ _ _ hP1).mono ?_
  rintro e W1 ⟨rfl, hb2⟩
  replace hbd := hbd.trans (hb2.mono hbd.size)
  clear hb2
  go_wp2_with fail
  refine ⟨fun _ => hbd, ?_⟩
  repeat (refine nf_pure rfl hbd (fun Y hY => by obtain ⟨g1, g2, g3⟩ := HCL.out Y hY; clear hY; go_wp2; exact ⟨rfl, rfl, rfl⟩) rfl ?_ ?_; rfl)
  refine nf_imp rfl ?_
  go_wp2_with fail
  refine (theirs_any _ sq row A3 n c3 ps ((hQ1.below hbd).mono hbd.size) (by omega)).mono ?_
  rintro e W2 ⟨A5, c5, rfl, hc5, hc5m, hT5, hb2⟩
  replace hbd := hbd.trans (hb2.mono hbd.size)
  clear hb2
  unfold recV
  go_wp2_with fail
  refine ⟨fun _ => hbd, ?_⟩
  refine nf_imp rfl ?_
  go_wp2_with fail
  refine (theirs_any _ sq row A1 n c1 ps ((hP1.below hbd).mono hbd.size) (by omega)).mono ?_
  rintro e W3 ⟨A6, c6, rfl, hc6, hc6m, hT6, hb2⟩
  replace hT5 := (hT5.below hb2).mono hb2.size
  replace hbd := hbd.trans (hb2.mono hbd.size)
  clear hb2
  unfold recV
  go_wp2_with fail
  refine ⟨fun _ => hbd, ?_⟩
  refine nf_imp rfl ?_
  go_wp2_with fail
  refine (refSame_any _ sq row sq row A5 A6 n c5 n c6 ps ps hT5 hT6 (by unfold maxLen; omega)).mono ?_
  rintro e W4 ⟨rfl, hb2⟩
  rw [sameR_self]
  replace hbd := hbd.trans (hb2.mono hbd.size)
  clear hb2 hT5 hT6
  go_wp2_with fail
  refine ⟨fun _ => hbd, ?_⟩
  repeat (refine nf_pure rfl hbd (fun Y hY => by obtain ⟨g1, g2, g3⟩ := HCL.out Y hY; clear hY; go_wp2; exact ⟨rfl, rfl, rfl⟩) rfl ?_ ?_; rfl)
  refine nf_nil ?_
  obtain ⟨bl, ol, rfl, hbl, hcl⟩ := hL1.2 (by omega)
  have hLd := hL1.drop 1 n1
  have HDC := Lib.hid (fun V A c (h : StrsA V V.heap.size A (n - 1) ((loadS ps).drop 1)) h1 h2 h3 => decode12_any V H A (n - 1) c ((loadS ps).drop 1) h h1 h2 h3)
  rw [HDS.out ((loadS ps).drop 1) (by rw [List.length_drop, HSL.out]; omega)] at HDC
  generalize decR12 H ((loadS ps).drop 1) = r5 at *
  clear HCL HDS HHD HST HV HMAY HEN HDD
  have hL4 := (hLd.below hbd).mono hbd.size
  have hbe4 := hbe.trans (hbd.mono hbe.size)
  by_cases hcc : c2 = 1
  · subst hcc
    obtain rfl : n = 1 := by omega
    go_wp2_with fail
    refine (HDC.out _ (some ⟨bl, ol, none⟩) 0 ⟨hL4.1, fun h => by omega⟩ (by omega) (by omega) (fun e => by cases e)).mono ?_
    rintro e w9 ⟨A9, c9, rfl, hv9, hb9⟩
    replace hbe4 := hbe4.trans (hb9.mono hbe4.size)
    clear hv9 hb9 hL4
    unfold recV
    go_wp2_with fail
    go_ret
    exact ⟨rfl, hbe4.alloc hbe4.size _⟩
  · have hcc' : ¬ (c2 : Int) = 1 := by omega
    go_wp2_with fail
    refine (HDC.out _ _ _ hL4 (by omega) (by omega) (fun e => by cases e)).mono ?_
    rintro e w9 ⟨A9, c9, rfl, hv9, hb9⟩
    replace hbe4 := hbe4.trans (hb9.mono hbe4.size)
    clear hv9 hb9 hL4
    unfold recV
    go_wp2_with fail
    go_ret
    exact ⟨rfl, hbe4.alloc hbe4.size _⟩
theorem recordBack_walk (sq rw_ fr : Int) (A : Option Addr) (n c : Nat) (xs : List ByteArray) (w : World) (hs : (Lit.int .u64 sq).wf = true) (hr : (Lit.int .u8 rw_).wf = true) (hf : (Lit.int .u8 fr).wf = true) (hx : StrsIn w A n c xs) :
    Calls Try.prog 5 #[.int .u64 sq, .int .u8 rw_, .int .u8 fr, .slice A n c] w fun e w' => e = .returned (.bool true) ∧ Below w.heap.size w w' := by
  have b1 := bounds_u64 hs
  have b2 := bounds_u8 hr
  have b3 := bounds_u8 hf
  obtain ⟨sq, rfl⟩ := Int.eq_ofNat_of_zero_le b1.1
  obtain ⟨rw_, rfl⟩ := Int.eq_ofNat_of_zero_le b2.1
  obtain ⟨fr, rfl⟩ := Int.eq_ofNat_of_zero_le b3.1
  obtain ⟨h1, h2, h3, _, _⟩ := hx
  by_cases h : heavyB xs = true ∨ n = 0 ∨ 40 < n
  · exact back_no w sq rw_ fr A n c xs h1 (by omega) h
  · simp only [not_or, Bool.not_eq_true] at h
    exact back_yes w sq rw_ fr (by omega) (by omega) (by omega) A n c xs h1 h.1 (by omega) (by omega)
end Go.Proofs.Ythpehdmffleobaa
