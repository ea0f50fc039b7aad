import Derived.Test.YtoaihohfbdfbcaaPackLaw
import Derived.Test.YtoaihohfbdfbcaaPackFits
namespace Go.Proofs.Ytoaihohfbdfbcaa
open Go.RowKit Go.OpenShut

theorem ones_ok (n : Nat) (h : n ≤ 64) : wOK (List.replicate n 1) = true := by
  unfold wOK
  rw [Bool.and_eq_true]
  refine ⟨List.all_eq_true.2 fun x hx => ?_, by simp; omega⟩
  rw [List.eq_of_mem_replicate hx]
  decide
theorem ones_no (n : Nat) (h : 64 < n) : wOK (List.replicate n 1) = false := by
  unfold wOK
  rw [Bool.and_eq_false_iff]
  right
  simp
  omega
theorem ones_sum (n : Nat) : sumW (List.replicate n 1) = n := by
  induction n with
  | zero => rfl
  | succ k ih => rw [List.replicate_succ, sumW, ih]; omega
theorem encS_size {ls ws : List Int} (h0 : wOK ws = true) (h1 : ls.length = ws.length) (h : allFit ls ws = true) : ((encS ls ws).size : Int) = sumW ws := by
  rw [(enc_ok h0 h1 h).2, ← placesF_length 0 ws (by unfold wOK at h0; simp at h0; exact h0.1)]
  show (((encL ls ws).toArray.size : Nat) : Int) = _
  simp [encL]
theorem ones_enc (n : Nat) (h : n ≤ 64) : encE (List.replicate n 7) (List.replicate n 1) = 0 ∧ (encS (List.replicate n 7) (List.replicate n 1)).size = n := by
  have ha : allFit (List.replicate n 7) (List.replicate n 1) = true := by
    unfold allFit
    rw [List.all_eq_true]
    intro j hj
    rw [List.mem_range, List.length_replicate] at hj
    have h1 : (List.replicate n (1 : Int)).getD j 0 = 1 := by simp [List.getD, hj]
    have h2 : (List.replicate n (7 : Int)).getD j 0 = 7 := by simp [List.getD, hj]
    rw [h1, h2]
    decide
  have h3 := encS_size (ones_ok n h) (by simp) ha
  rw [ones_sum] at h3
  exact ⟨(enc_ok (ones_ok n h) (by simp) ha).1, by omega⟩
theorem one_ok (x : Int) (h : 1 ≤ x ∧ x ≤ 8) : sizeE [x] = 0 ∧ encE [0] [x] = 0 := by
  have h0 : wOK [x] = true := by
    unfold wOK
    simp
    exact h
  refine ⟨(size_yes h0).2, (enc_ok (ls := [0]) h0 rfl ?_).1⟩
  unfold allFit
  simp
  unfold fitsB
  rw [decide_eq_true h]
  simp
  exact Nat.pow_pos (by omega)
theorem one_no (x : Int) (h : ¬ (1 ≤ x ∧ x ≤ 8)) : sizeE [x] = 1 ∧ encE [0] [x] = 1 := by
  have h0 : wOK [x] = false := by
    unfold wOK
    simp
    omega
  exact ⟨(size_no h0).2, (enc_w h0).1⟩

set_option maxHeartbeats 4000000 in
theorem packWidths_walk0 (n : Nat) (hn : n < 256) (x : Int) (w : World) :
    Calls Try.prog 8 #[.int .u8 n, .int .i64 x] w fun e w' => e = .returned (.bool true) ∧ Below w.heap.size w w' := by
  go_enter Try.func8, Try.ntmps8
  go_wp2_with fail
  have hl0 := (OwnI.new w w.heap.size 3 .i64 (Nat.le_refl _)).alloc (.cells #[] 22)
  have hx0 := OwnI.new (w.alloc (.cells #[] 3)) w.heap.size 22 .u64 (by simp)
  rw [show (w.alloc (.cells #[] 3)).heap.size = w.heap.size + 1 by simp] at hx0
  have hbe0 := ((Below.refl w.heap.size w).alloc (Nat.le_refl _) (.cells #[] 3)).alloc (by simp) (.cells #[] 22)
  generalize (w.alloc (.cells #[] 3)).alloc (.cells #[] 22) = W at *
  go_loopw [5, 6, 7] (fun v u i wr => ∃ k : Nat, k ≤ n ∧ i = .int .i64 k ∧ OwnI wr w.heap.size 3 .i64 v (List.replicate k 1) ∧ OwnI wr w.heap.size 22 .u64 u (List.replicate k 7) ∧ Below w.heap.size w wr) (fun _ _ i _ => n - (intOf i).toNat)
  case atStart => exact ⟨0, by omega, rfl, hl0, hx0, hbe0⟩
  case round =>
    obtain ⟨k, hk, rfl, hl, hx, hbe⟩ := hrel
    have hsW := hbe.size
    clear hl0 hx0 hbe0
    by_cases hlt : k < n
    · have hcb := (Blk.new wr 3 #[.int .i64 1]).cell 0
      have hbt := (Below.refl w.heap.size wr).alloc hsW (.cells #[.int .i64 1] 3)
      go_wp2_with first
        | (at_builtin; refine wp_pushI 27 3 .i64 Try.underlying27 info_int rfl (.tmp 26) (.tmp 27) rfl w.heap.size _ _ (hl.alloc _) rfl ⟨wr.heap.size, 0, none⟩ 1 1 rfl hcb (by simp; omega) (by simp; omega) ?_; intro v4 w4 hv4 hg4 hb4; have hx4 := (hx.alloc (.cells #[.int .i64 1] 3)).grown hg4 (hx.ne hl (by decide)); have hcb4 := (Blk.new w4 22 #[.int .u64 7]).cell 0; have hbe4 := hbt.trans hb4; have hsz4 := hbe4.size)
        | (at_builtin; refine wp_pushI 26 22 .u64 Try.underlying26 info_u64 rfl (.tmp 29) (.tmp 30) rfl w.heap.size _ _ (hx4.alloc _) rfl ⟨w4.heap.size, 0, none⟩ 1 7 rfl hcb4 (by simp; omega) (by simp; omega) ?_; intro v5 w5 hv5 hg5 hb5; have hl5 := (hv4.alloc (.cells #[.int .u64 7] 22)).grown hg5 (hv4.ne hx4 (by decide)))
      go_roundw
      case rel =>
        refine ⟨k + 1, by omega, by go_num, ?_, ?_, ?_⟩
        · rw [List.replicate_succ']; exact hl5
        · rw [List.replicate_succ']; exact hv5
        · exact (hbe.trans hbe4).trans (((Below.refl w.heap.size w4).alloc (by omega) (.cells #[.int .u64 7] 22)).trans hb5)
      case measure => simp [intOf]; omega
    · obtain rfl : k = n := by omega
      clear hlt hk
      obtain ⟨A1, c1, rfl⟩ := hl.shape
      obtain ⟨A2, c2, rfl⟩ := hx.shape
      have hli := hl.ints
      have hxi := hx.ints
      rw [List.length_replicate] at hli hxi
      simp only [List.length_replicate] at *
      clear hl hx
      go_wp2_with fail
      refine (size_any wr wr.heap.size A1 k c1 (List.replicate k 1) hli (by omega)).mono ?_
      rintro e w6 ⟨rfl, rfl⟩
      go_wp2_with fail
      refine (encode_any wr A2 A1 k c2 k c1 (List.replicate k 7) (List.replicate k 1) hxi hli (by omega) (fun x hx => by rw [List.eq_of_mem_replicate hx]; omega)).mono ?_
      rintro e w5 ⟨rfl, hb5⟩
      have hbe5 := hbe.trans (hb5.mono hsW)
      clear hb5 hli hxi hbe
      obtain ⟨kN, hkN⟩ : ∃ y, sizeN (List.replicate k 1) = y := ⟨_, rfl⟩
      obtain ⟨kE, hkE⟩ : ∃ y, sizeE (List.replicate k 1) = y := ⟨_, rfl⟩
      obtain ⟨fE, hfE⟩ : ∃ y, encE (List.replicate k 7) (List.replicate k 1) = y := ⟨_, rfl⟩
      obtain ⟨fS, hfS⟩ : ∃ y, encS (List.replicate k 7) (List.replicate k 1) = y := ⟨_, rfl⟩
      rw [hkN, hkE, hfE, hfS]
      have H1 := Lib.hid hkN
      have H2 := Lib.hid hkE
      have H3 := Lib.hid hfE
      have H4 := Lib.hid hfS
      clear hkN hkE hfE hfS
      go_wp2_with fail
      have hsz5 := hbe5.size
      have b5 := Blk.new w5 3 #[.int .i64 x]
      have hbe6 := hbe5.alloc hsz5 (.cells #[.int .i64 x] 3)
      refine (size_any _ (w5.heap.size + 1) (some ⟨w5.heap.size, 0, none⟩) 1 1 [x] (IntsA.blk (t := 3) b5 rfl (by omega)) (by omega)).mono ?_
      rintro e w6 ⟨rfl, rfl⟩
      clear b5
      generalize w5.alloc (.cells #[.int .i64 x] 3) = W6 at *
      obtain ⟨mN, hmN⟩ : ∃ y, sizeN [x] = y := ⟨_, rfl⟩
      obtain ⟨gE, hgE⟩ : ∃ y, sizeE [x] = y := ⟨_, rfl⟩
      obtain ⟨hE, hhE⟩ : ∃ y, encE [0] [x] = y := ⟨_, rfl⟩
      obtain ⟨hS, hhS⟩ : ∃ y, encS [0] [x] = y := ⟨_, rfl⟩
      rw [hmN, hgE]
      have H5 := Lib.hid hhE
      have H6 := Lib.hid hhS
      have H7 := Lib.hid hgE
      clear hmN hgE hhE hhS
      go_wp2_with fail
      refine (encode_new W6 [0] [x] 1 1 rfl rfl (by omega) (by simp) _ _ rfl rfl).mono ?_
      rintro e w7 ⟨rfl, hb7⟩
      rw [H5.out, H6.out]
      have hbe7 := hbe6.trans (hb7.mono hbe6.size)
      clear hbe6 hb7 hbe5
      go_wp2_with fail
      refine (decode_ok w7 ⟨#[]⟩ none 0 0 [] ⟨rfl, fun h => by omega⟩ (by omega) (by decide) rfl).mono ?_
      rintro e w8 ⟨rfl, _, hb8⟩
      have hbe8 := hbe7.trans (hb8.mono hbe7.size)
      clear hbe7 hb8
      by_cases hbig : 64 < k
      · obtain rfl : kE = 1 := by rw [← H2.out]; exact (size_no (ones_no k hbig)).2
        obtain rfl : fE = 1 := by rw [← H3.out]; exact (enc_w (ones_no k hbig)).1
        obtain rfl : fS = ⟨#[]⟩ := by rw [← H4.out]; exact (enc_w (ones_no k hbig)).2
        go_wp2_with fail
        refine (shown_any _).mono ?_
        rintro e w9 ⟨rfl, hb9⟩
        have hbe9 := hbe8.trans (hb9.mono hbe8.size)
        clear hbe8 hb9
        go_wp2_with fail
        go_ret
        exact ⟨rfl, hbe9⟩
      · have hk64 : k ≤ 64 := by omega
        obtain rfl : kE = 0 := by rw [← H2.out]; exact (size_yes (ones_ok k hk64)).2
        obtain rfl : kN = (k : Int) := by rw [← H1.out, (size_yes (ones_ok k hk64)).1]; exact ones_sum k
        obtain rfl : fE = 0 := by rw [← H3.out]; exact (ones_enc k hk64).1
        have hfs : ((fS.size : Int) == (k : Int)) = true := by rw [← H4.out, (ones_enc k hk64).2]; simp
        clear hbig
        by_cases hx : 1 ≤ x ∧ x ≤ 8
        · obtain rfl : gE = 0 := by rw [← H7.out]; exact (one_ok x hx).1
          obtain rfl : hE = 0 := by rw [← H5.out]; exact (one_ok x hx).2
          obtain ⟨hx1, hx2⟩ := hx
          go_wp2_with fail
          refine (shown_any _).mono ?_
          rintro e w9 ⟨rfl, hb9⟩
          have hbe9 := hbe8.trans (hb9.mono hbe8.size)
          clear hbe8 hb9
          go_wp2_with fail
          go_ret
          exact ⟨rfl, hbe9⟩
        · obtain rfl : gE = 1 := by rw [← H7.out]; exact (one_no x hx).1
          obtain rfl : hE = 1 := by rw [← H5.out]; exact (one_no x hx).2
          by_cases hx1 : 1 ≤ x
          · have hx2 : ¬ x ≤ 8 := by omega
            clear hx
            go_wp2_with fail
            refine (shown_any _).mono ?_
            rintro e w9 ⟨rfl, hb9⟩
            have hbe9 := hbe8.trans (hb9.mono hbe8.size)
            clear hbe8 hb9
            go_wp2_with fail
            go_ret
            exact ⟨ret_bool (show (!decide (x ≤ 8)) = true by simp; omega), hbe9⟩
          · clear hx
            go_wp2_with fail
            refine (shown_any _).mono ?_
            rintro e w9 ⟨rfl, hb9⟩
            have hbe9 := hbe8.trans (hb9.mono hbe8.size)
            clear hbe8 hb9
            go_wp2_with fail
            go_ret
            exact ⟨rfl, hbe9⟩

theorem packWidths_walk (n x : Int) (hn : (Lit.int .u8 n).wf = true) (_hx : (Lit.int .i64 x).wf = true) (w : World) :
    Calls Try.prog 8 #[.int .u8 n, .int .i64 x] w fun e w' => e = .returned (.bool true) ∧ Below w.heap.size w w' := by
  have hb := bounds_u8 hn
  obtain ⟨z, rfl⟩ := Int.eq_ofNat_of_zero_le hb.1
  exact packWidths_walk0 z (by omega) x w
end Go.Proofs.Ytoaihohfbdfbcaa
