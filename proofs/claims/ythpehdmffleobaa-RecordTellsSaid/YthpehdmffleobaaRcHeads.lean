/- revetmentlaw12.RecordHeads: its walk. -/
import Derived.Test.YthpehdmffleobaaRcPlain
namespace Go.Proofs.Ythpehdmffleobaa
open Go.RowKit Go.OpenShut

theorem zero_head : headE ⟨(fullL []).toArray⟩ = 80 ∧ headR ⟨(fullL []).toArray⟩ = ⟨0, 0, 0, []⟩ := by
  have hs : (⟨(fullL []).toArray⟩ : ByteArray).size = 64 := by rw [size_mk, fullL_len]
  have ho : openB (⟨(fullL []).toArray⟩ : ByteArray).data.toList = false := by
    rw [list_mk]
    decide +kernel
  have he : headE ⟨(fullL []).toArray⟩ = 80 := by unfold headE; rw [if_pos hs, ho]; rfl
  exact ⟨he, by unfold headR; rw [he]; rfl⟩
theorem long_head (b : ByteArray) (h : b.size ≠ 64) : headE b = 31 ∧ headR b = ⟨0, 0, 0, []⟩ := by
  have he : headE b = 31 := by unfold headE; rw [if_neg h]
  exact ⟨he, by unfold headR; rw [he]; rfl⟩
theorem clr_getD (ps : List Prt) (k : Nat) : (ps.map clr).getD k prt0 = clr (ps.getD k prt0) := by
  simp only [List.getD, List.getElem?_map]
  cases ps[k]? <;> rfl
theorem OwnS.shape3 {w : World} {base : Nat} {v : Value} {l : List ByteArray} (h : OwnS w base v l) : ∃ A c, v = .slice A l.length c ∧ l.length ≤ c ∧ c ≤ maxLen ∧ (A = none → c = 0) := by
  rcases h.2 with ⟨rfl, h0⟩ | ⟨g, cap, cur, rfl, _, _, hl, h3, _⟩
  · exact ⟨none, 0, by rw [h0], by omega, by omega, fun _ => rfl⟩
  · exact ⟨_, _, rfl, hl, h3, fun e => by cases e⟩
set_option maxRecDepth 8000 in
set_option maxHeartbeats 2000000 in
theorem heads_no (w : World) (sq rw_ fr at_ by_ : Int) (A : Option Addr) (n c : Nat) (xs : List ByteArray) (hx : StrsA w w.heap.size A n xs) (hn : n ≤ maxLen) (hb : heavyB xs = true ∨ n = 0 ∨ 40 < n) :
    Calls Try.prog 7 #[.int .u64 sq, .int .u8 rw_, .int .u8 fr, .slice A n c, .int .u8 at_, .int .u8 by_] w fun e w' => e = .returned (.bool true) ∧ Below w.heap.size w w' := by
  have HV := Lib.hid (heavy_any w A n c xs hx hn)
  by_cases h1 : heavyB xs = true
  · rw [h1] at HV
    clear hb h1
    go_enter Try.func7, Try.ntmps7
    go_wp2_with fail
    refine HV.out.mono ?_
    rintro e w1 ⟨rfl, rfl⟩
    go_wp2_with fail
    refine (shown12_any _).mono ?_
    rintro e w1 ⟨rfl, hb⟩
    go_wp2_with fail
    go_ret
    exact ⟨rfl, hb⟩
  · rw [Bool.not_eq_true] at h1
    rw [h1] at HV
    by_cases h2 : n = 0
    · subst h2
      clear hb h1
      go_enter Try.func7, Try.ntmps7
      go_wp2_with fail
      refine HV.out.mono ?_
      rintro e w1 ⟨rfl, rfl⟩
      go_wp2_with fail
      refine (shown12_any _).mono ?_
      rintro e w1 ⟨rfl, hb⟩
      go_wp2_with fail
      go_ret
      exact ⟨rfl, hb⟩
    · have h3 : (n : Int) > 40 := by
        rcases hb with e | e | e
        · rw [h1] at e; cases e
        · omega
        · omega
      have h6 : ((n : Int) == 0) = false := by rw [beq_eq_false_iff_ne]; omega
      clear hb h1
      go_enter Try.func7, Try.ntmps7
      go_wp2_with fail
      refine HV.out.mono ?_
      rintro e w1 ⟨rfl, rfl⟩
      go_wp2_with fail
      refine (shown12_any _).mono ?_
      rintro e w1 ⟨rfl, hb⟩
      go_wp2_with fail
      go_ret
      exact ⟨rfl, hb⟩
set_option maxRecDepth 8000 in
set_option maxHeartbeats 4000000 in
theorem heads_yes (w : World) (sq row fr : Nat) (at_ by_ : Int) (hs : sq < 18446744073709551616) (hr : row < 256) (hf : fr < 256) (A : Option Addr) (n c : Nat) (xs : List ByteArray) (hx : StrsA w w.heap.size A n xs) (hv : heavyB xs = false) (n1 : 1 ≤ n) (n40 : n ≤ 40) :
    Calls Try.prog 7 #[.int .u64 sq, .int .u8 row, .int .u8 fr, .slice A n c, .int .u8 at_, .int .u8 by_] w fun e w' => e = .returned (.bool true) ∧ Below w.heap.size w w' := by
  have HV := Lib.hid (heavy_any w A n c xs hx (by unfold maxLen; omega))
  rw [hv] at HV
  have HST := Lib.hid (fun V (h : StrsA V V.heap.size A n xs) => some_any V sq row fr hr hf A n c xs h (by unfold maxLen; omega) (fun x hx => by have := ((heavyB_no xs).1 hv).2 x hx; omega))
  rw [Nat.min_eq_left n40] at HST
  have hmay := some_may row fr hr xs n n40
  rw [decide_eq_true (by omega)] at hmay
  have HPL := Lib.hid (someL_len fr xs n)
  generalize someL fr xs n = ps at *
  have hpl : placedB row ps = true := by
    unfold mayB at hmay
    rw [Bool.and_eq_true] at hmay
    exact hmay.1
  have hsum : recSum ps < 4294967296 := cmore_lt _ _
  obtain ⟨hE, hR⟩ := head_of hpl hs hsum
  have HEN := Lib.hid (fun V A1 c1 (h : PartsA V V.heap.size A1 n ps) => encode12_own V sq row A1 n c1 ps h (by unfold maxLen; omega) hmay (by omega))
  have HSL := Lib.hid ((loadS_len ps).trans HPL.out)
  have HDS := Lib.hid (fun (ys : List ByteArray) (h : ys.length ≠ n) => dec_short (seq := sq) (row := row) (sum := recSum ps) (xs := ys) hpl hs hsum (by rw [HPL.out]; exact h))
  have HHL : Hid ((headB sq row (recSum ps) ps).length = 64) := Lib.hid (headB_len sq row (recSum ps) ps (by omega) (by omega) (by rw [HPL.out]; exact n40) hsum)
  have HHX := Lib.hid (long_head (⟨(headB sq row (recSum ps) ps).toArray⟩ ++ ⟨#[120]⟩) (by rw [ByteArray.size_append, size_mk, HHL.out]; decide))
  have hHz : (⟨(headB sq row (recSum ps) ps).toArray⟩ : ByteArray).size ≤ 64 := by rw [size_mk, HHL.out]; exact Nat.le_refl _
  have HHD := Lib.hid (fun V => head12_any V ⟨(headB sq row (recSum ps) ps).toArray⟩)
  rw [hE, hR] at HHD
  generalize (⟨(headB sq row (recSum ps) ps).toArray⟩ : ByteArray) = H at *
  generalize recSum ps = S at *
  have HX := Lib.hid (fun V => head12_any V (H ++ ⟨#[120]⟩))
  rw [HHX.out.1, HHX.out.2] at HX
  have HZ := Lib.hid (fun V => head12_any V ⟨(fullL []).toArray⟩)
  rw [zero_head.1, zero_head.2] at HZ
  have F0 := Lib.hid (fun V => full_any V ⟨#[]⟩ (by decide))
  rw [show (⟨#[]⟩ : ByteArray).data.toList = [] from rfl] at F0
  generalize (⟨(fullL []).toArray⟩ : ByteArray) = Z at *
  have h6 : ((n : Int) == 0) = false := by rw [beq_eq_false_iff_ne]; omega
  have h7 : ¬ ((n : Int) > 40) := by omega
  have h8 : ∀ x : Int, (x != x) = false := fun x => by simp
  have H8 := Lib.hid h8
  clear hmay hpl hE hR hsum hv HHX HHL h8
  go_enter Try.func7, Try.ntmps7
  go_wp2_with fail
  refine HV.out.mono ?_
  rintro e w1 ⟨rfl, rfl⟩
  go_wp2_with fail
  refine (shown12_any _).mono ?_
  rintro e w1 ⟨rfl, hb⟩
  have hxs := (hx.below hb).mono hb.size
  go_wp2_with fail
  refine (HST.out _ hxs).mono ?_
  rintro e w2 ⟨A1, c1, rfl, hc1, hc1m, hA1, hP, hb2⟩
  have hbe := hb.trans (hb2.mono hb.size)
  unfold recV
  clear hb hb2 hx hxs
  go_wp2_with fail
  have hB := Blk.new w2 26 #[.int .u64 sq, .int .i64 row, .slice A1 n c1]
  have hal := (Below.refl w2.heap.size w2).alloc (Nat.le_refl _) (.cells #[.int .u64 sq, .int .i64 row, .slice A1 n c1] 26)
  replace hP := (hP.below hal).mono hal.size
  replace hbe := hbe.trans (hal.mono hbe.size)
  generalize w2.alloc (.cells #[.int .u64 sq, .int .i64 row, .slice A1 n c1] 26) = w3 at *
  generalize w2.heap.size = r13 at *
  clear hal
  have hbw := hbe
  refine (HEN.out _ _ _ hP).mono ?_
  rintro e w4 ⟨A2, c2, rfl, hc2, hc2m, hA2, hL, hO, hb4⟩
  replace hP := (hP.below hb4).mono hb4.size
  replace hB := hB.below hb4 hB.lt
  replace hbe := hbe.trans (hb4.mono hbe.size)
  have hws := hb4.size
  clear hb4
  go_wp2_with fail
  refine (HHD.out _).mono ?_
  rintro e w5 ⟨A3, c3, rfl, hv, hb5⟩
  dsimp only at hv ⊢
  rw [List.length_map, HPL.out] at hv ⊢
  unfold recV
  replace hP := (hP.below hb5).mono hb5.size
  have hQ := hv.parts
  replace hB := hB.below hb5 hB.lt
  replace hbe := hbe.trans (hb5.mono hbe.size)
  replace hO := hO.below hb5
  replace hws := Nat.le_trans hws hb5.size
  clear hb5 hL hv
  go_wp2_with fail
  have hC := Blk.new w5 26 #[.int .u64 sq, .int .i64 row, .slice A3 n c3]
  have hal := (Below.refl w5.heap.size w5).alloc (Nat.le_refl _) (.cells #[.int .u64 sq, .int .i64 row, .slice A3 n c3] 26)
  replace hP := (hP.below hal).mono hal.size
  replace hQ := (hQ.below hal).mono hal.size
  replace hB := hB.below hal hB.lt
  replace hO := hO.below hal
  replace hws := Nat.le_trans hws hal.size
  replace hbe := hbe.trans (hal.mono hbe.size)
  generalize w5.alloc (.cells #[.int .u64 sq, .int .i64 row, .slice A3 n c3] 26) = w6 at *
  generalize w5.heap.size = r17 at *
  clear hal
  go_loopw [20] (fun i wr => ∃ k : Nat, k ≤ n ∧ i = .int .i64 k ∧ Blk wr r13 26 #[.int .u64 sq, .int .i64 row, .slice A1 n c1] ∧ Blk wr r17 26 #[.int .u64 sq, .int .i64 row, .slice A3 n c3] ∧ PartsA wr wr.heap.size A1 n ps ∧ PartsA wr wr.heap.size A3 n (ps.map clr) ∧ OwnS wr w3.heap.size (.slice A2 n c2) (loadS ps) ∧ w3.heap.size ≤ wr.heap.size ∧ Below w.heap.size w wr) (fun i _ => n - (intOf i).toNat)
  case atStart => exact ⟨0, by omega, rfl, hB, hC, hP, hQ, hO, hws, hbe⟩
  case round =>
    obtain ⟨k, hk, rfl, hB1, hC1, hP1, hQ1, hO1, hwr, hbr⟩ := hrel
    clear hB hC hP hQ hO hbe hws
    by_cases hlt : k < n
    · obtain ⟨b1, o1, rfl, hb1, hcc1⟩ := hP1.2 (by omega)
      obtain ⟨b3, o3, rfl, hb3, hcc3⟩ := hQ1.2 (by omega)
      obtain ⟨a0, a1, a2⟩ := hcc1 k hlt
      have hc3k := hcc3 k hlt
      rw [clr_getD] at hc3k
      obtain ⟨d0, d1, d2⟩ := hc3k
      generalize ps.getD k prt0 = p at *
      obtain ⟨pc, po, pd⟩ := p
      dsimp only [clr] at a0 a1 a2 d0 d1 d2
      have x1 : wr.drew.cell? ⟨b1, o1 + k * 3, none⟩ = some (.int .i64 pc) := a0
      have x2 : wr.drew.cell? ⟨b1, o1 + k * 3 + 1, none⟩ = some (.int .i64 po) := a1
      have x3 : wr.drew.cell? ⟨b3, o3 + k * 3, none⟩ = some (.int .i64 pc) := d0
      have x4 : wr.drew.cell? ⟨b3, o3 + k * 3 + 1, none⟩ = some (.int .i64 po) := d1
      have x5 : wr.drew.cell? ⟨b3, o3 + k * 3 + 2, none⟩ = some (.string ⟨#[]⟩) := d2
      have x6 : wr.drew.cell? ⟨r13, 2, none⟩ = some (.slice (some ⟨b1, o1, none⟩) n c1) := hB1.cell 2
      have x7 : wr.drew.cell? ⟨r17, 2, none⟩ = some (.slice (some ⟨b3, o3, none⟩) n c3) := hC1.cell 2
      have hki : (k : Int) < (n : Int) := by omega
      have e1 : (pc != pc) = false := by simp
      have e2 : (po != po) = false := by simp
      clear hcc1 hcc3 a0 a1 a2 d0 d1 d2
      go_wp2_with fail
      refine wp_region_nf (fun Y => Y.cell? ⟨b1, o1 + k * 3, none⟩ = some (.int .i64 pc) ∧ Y.cell? ⟨b1, o1 + k * 3 + 1, none⟩ = some (.int .i64 po) ∧ Y.cell? ⟨b3, o3 + k * 3, none⟩ = some (.int .i64 pc) ∧ Y.cell? ⟨b3, o3 + k * 3 + 1, none⟩ = some (.int .i64 po) ∧ Y.cell? ⟨b3, o3 + k * 3 + 2, none⟩ = some (.string ⟨#[]⟩) ∧ Y.cell? ⟨r13, 2, none⟩ = some (.slice (some ⟨b1, o1, none⟩) n c1) ∧ Y.cell? ⟨r17, 2, none⟩ = some (.slice (some ⟨b3, o3, none⟩) n c3)) (fun _ => false) [(0, true), (1, true), (2, true), (3, true), (4, true), (5, true), (6, true), (7, true), (8, true), (9, true), (10, true), (11, true), (12, true), (13, true), (14, true), (15, true), (16, true), (17, true), (18, true), (19, true), (20, true), (21, true), (22, true), (23, true), (24, true), (25, true), (26, true), (27, true), (28, true), (29, true), (30, true), (31, true), (32, true), (33, true), (34, true), (35, true), (36, true)] (by kernel_rfl) rfl (by kernel_rfl) (by kernel_rfl) (fun d _ _ _ _ h => by cases d <;> exact h) ?_
      have hS := And.intro x1 (And.intro x2 (And.intro x3 (And.intro x4 (And.intro x5 (And.intro x6 x7)))))
      clear x1 x2 x3 x4 x5 x6 x7
      have hbd := hbr.drew
      have hB2 : Blk wr.drew r13 26 _ := hB1
      have hC2 : Blk wr.drew r17 26 _ := hC1
      have hP2 := hP1.drew
      have hQ2 := hQ1.drew
      have hO2 := hO1.drew
      have hws2 : w3.heap.size ≤ wr.drew.heap.size := hwr
      have hP3 : PartsA wr.drew wr.drew.heap.size _ _ _ := hP2
      have hQ3 : PartsA wr.drew wr.drew.heap.size _ _ _ := hQ2
      clear hB1 hC1 hP1 hQ1 hO1 hwr hP2 hQ2 hbr
      generalize wr.drew = V at *
      repeat (refine nf_pure rfl hS (fun Y hY => by obtain ⟨y1, y2, y3, y4, y5, y6, y7⟩ := hY; go_wp2; exact ⟨rfl, rfl, rfl⟩) rfl ?_ ?_; rfl)
      refine nf_nil ?_
      go_wp2_with fail
      go_roundw
      case rel => exact ⟨k + 1, by omega, by go_num, hB2, hC2, hP3, hQ3, hO2, hws2, hbd⟩
      case measure => simp [intOf]; go_num
    · obtain rfl : k = n := by omega
      have HDC := Lib.hid (fun V A c (h : StrsA V V.heap.size A (k + 1) (loadS ps ++ [Z])) h1 h2 h3 => decode12_any V H A (k + 1) c (loadS ps ++ [Z]) h h1 h2 h3)
      rw [HDS.out (loadS ps ++ [Z]) (by rw [List.length_append, HSL.out]; simp)] at HDC
      clear HDS HHD
      go_wp2_with fail
      refine (F0.out _).mono ?_
      rintro e V1 ⟨rfl, rfl⟩
      have HS5 := Lib.hid (StrsA.lit1 (w0 := wr) (t := 9) (x := Z) rfl)
      go_wp2_with (at_builtin; refine wp_appS rfl (.tmp 140) (.tmp 142) rfl w3.heap.size _ _ (hO1.alloc _) rfl _ _ _ _ rfl HS5.out (fun h => by cases h) ?c1 ?c2 ?_; (case c1 => rw [HSL.out]; omega); (case c2 => simp; omega); intro v7 w7 hv7 hg7 hb7; obtain ⟨A7, c7, rfl, hc7, hc7m, hA7⟩ := hv7.shape3; rw [List.length_append, HSL.out] at hv7 hc7 ⊢; rw [show k + [Z].length = k + 1 from rfl] at hv7 hc7 ⊢)
      have hbe7 := (hbr.alloc hbr.size (.cells #[.string Z] 9)).trans (hb7.mono (by have := hwr; have := hbw.size; omega))
      have hst7 := hv7.strs
      generalize decR12 H (loadS ps ++ [Z]) = r5 at *
      clear hB1 hC1 hP1 hQ1 hO1 hv7 hg7 hb7 HS5
      refine (HDC.out _ _ _ hst7 hc7 hc7m hA7).mono ?_
      rintro e w8 ⟨A8, c8, rfl, hv8, hb8⟩
      replace hbe7 := hbe7.trans (hb8.mono hbe7.size)
      clear hv8 hb8 hst7
      unfold recV
      go_wp2_with fail
      replace hbe7 := hbe7.alloc hbe7.size (.cells #[.int .u64 r5.seq, .int .i64 r5.row, .slice A8 r5.ps.length c8] 26)
      generalize w8.alloc (.cells #[.int .u64 r5.seq, .int .i64 r5.row, .slice A8 r5.ps.length c8] 26) = w9 at *
      refine (F0.out _).mono ?_
      rintro e V1 ⟨rfl, rfl⟩
      go_wp2_with fail
      refine (HZ.out _).mono ?_
      rintro e w10 ⟨A10, c10, rfl, hv10, hb10⟩
      dsimp only
      unfold recV
      replace hbe7 := hbe7.trans (hb10.mono hbe7.size)
      clear hv10 hb10
      go_wp2_with fail
      replace hbe7 := hbe7.alloc hbe7.size (.cells #[.int .u64 0, .int .i64 0, .slice A10 0 c10] 26)
      generalize w10.alloc (.cells #[.int .u64 0, .int .i64 0, .slice A10 0 c10] 26) = w11 at *
      refine (HX.out _).mono ?_
      rintro e w12 ⟨A12, c12, rfl, hv12, hb12⟩
      dsimp only
      unfold recV
      replace hbe7 := hbe7.trans (hb12.mono hbe7.size)
      clear hv12 hb12
      go_wp2_with fail
      go_ret
      exact ⟨rfl, hbe7.alloc hbe7.size _⟩
theorem recordHeads_walk (sq rw_ fr : Int) (A : Option Addr) (n c : Nat) (xs : List ByteArray) (at_ by_ : Int) (w : World) (hs : (Lit.int .u64 sq).wf = true) (hr : (Lit.int .u8 rw_).wf = true) (hf : (Lit.int .u8 fr).wf = true) (hx : StrsIn w A n c xs) (_ha : (Lit.int .u8 at_).wf = true) (_hb : (Lit.int .u8 by_).wf = true) :
    Calls Try.prog 7 #[.int .u64 sq, .int .u8 rw_, .int .u8 fr, .slice A n c, .int .u8 at_, .int .u8 by_] w fun e w' => e = .returned (.bool true) ∧ Below w.heap.size w w' := by
  have b1 := bounds_u64 hs
  have b2 := bounds_u8 hr
  have b3 := bounds_u8 hf
  obtain ⟨sq, rfl⟩ := Int.eq_ofNat_of_zero_le b1.1
  obtain ⟨rw_, rfl⟩ := Int.eq_ofNat_of_zero_le b2.1
  obtain ⟨fr, rfl⟩ := Int.eq_ofNat_of_zero_le b3.1
  obtain ⟨h1, h2, h3, _, _⟩ := hx
  by_cases h : heavyB xs = true ∨ n = 0 ∨ 40 < n
  · exact heads_no w sq rw_ fr at_ by_ A n c xs h1 (by omega) h
  · simp only [not_or, Bool.not_eq_true] at h
    exact heads_yes w sq rw_ fr at_ by_ (by omega) (by omega) (by omega) A n c xs h1 h.1 (by omega) (by omega)
end Go.Proofs.Ythpehdmffleobaa
