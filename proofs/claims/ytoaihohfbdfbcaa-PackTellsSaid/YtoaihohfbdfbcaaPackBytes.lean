import Derived.Test.YtoaihohfbdfbcaaPackBack
namespace Go.Proofs.Ytoaihohfbdfbcaa
open Go.RowKit Go.OpenShut

theorem run_min2 {P : Program} (ts : Array TypeId) (t : TypeId) (k : IntKind) (a b : Int) (w : World) :
    (Builtin.min_ ts t #[.int k a, .int k b]).run P w = .ok (.int k (min a b)) w := by
  have e : ∀ x y : Int, (if y < x then y else x) = min x y := fun x y => by
    rw [Int.min_def]
    split <;> split <;> omega
  simp [Builtin.min_, Builtin.min2, e]
/-- numbers out of bytes go back to those bytes -/
theorem bytes_enc (Y : List Int) (k : Nat) (hY : wOK Y = true) (hk : Y.length = k) (T : ByteArray) (hT : (T.size : Int) = sumW Y) :
    encE ((decL Y T.data.toList).map fun n : Nat => (n : Int)) Y = 0 ∧ encS ((decL Y T.data.toList).map fun n : Nat => (n : Int)) Y = T ∧
      decF T.data.toList k (placesF 0 Y) = decL Y T.data.toList ∧ (∀ x ∈ (decL Y T.data.toList).map fun n : Nat => (n : Int), 0 ≤ x ∧ x < 18446744073709551616) := by
  subst hk
  have hbd : ∀ x ∈ Y, 1 ≤ x ∧ x ≤ 8 := by unfold wOK at hY; simp at hY; exact hY.1
  have hTl : (T.data.toList.length : Int) = sumW Y := by rw [← hT]; simp
  have hlen := decL_len Y T.data.toList
  have hle : ∀ i, i < Y.length → (decL Y T.data.toList).getD i 0 < 256 ^ (Y.getD i 0).toNat ∧ 1 ≤ Y.getD i 0 ∧ Y.getD i 0 ≤ 8 := fun i hi => by
    refine ⟨decL_fits Y T.data.toList i hi, hbd _ ?_⟩
    simp [List.getD, hi]
  have hfit : allFit ((decL Y T.data.toList).map fun n : Nat => (n : Int)) Y = true := by
    unfold allFit
    rw [List.all_eq_true]
    intro i hi
    rw [List.mem_range] at hi
    obtain ⟨h1, h2⟩ := hle i hi
    have h3 : ((decL Y T.data.toList).map fun n : Nat => (n : Int)).getD i 0 = (((decL Y T.data.toList).getD i 0 : Nat) : Int) := by
      have : i < (decL Y T.data.toList).length := by rw [hlen]; exact hi
      simp [List.getD, this]
    rw [h3, Int.toNat_natCast]
    unfold fitsB
    rw [decide_eq_true h2, decide_eq_true h1]
    rfl
  have h1 := enc_ok hY (by rw [List.length_map, hlen]) hfit
  refine ⟨h1.1, ?_, decF_eq Y _ hbd hTl, ?_⟩
  · rw [h1.2, encL_eq _ _ (by rw [List.length_map, hlen]), List.map_map]
    rw [show (Int.toNat ∘ fun n : Nat => (n : Int)) = id from funext fun n => by simp, List.map_id, enc_dec Y _ hbd hTl]
  · intro x hx
    obtain ⟨y, hy, rfl⟩ := List.mem_map.1 hx
    obtain ⟨i, hi, he⟩ := List.mem_iff_getElem.1 hy
    obtain ⟨h1, h2⟩ := hle i (by rw [← hlen]; exact hi)
    have h3 : (decL Y T.data.toList).getD i 0 = y := by simp [List.getD, hi, he]
    rw [h3] at h1
    have h4 : 256 ^ (Y.getD i 0).toNat ≤ 256 ^ 8 := Nat.pow_le_pow_right (by omega) (by omega)
    constructor
    · omega
    · have h5 : y < 256 ^ 8 := Nat.lt_of_lt_of_le h1 h4
      omega

set_option maxHeartbeats 4000000 in
theorem packBytes_go (w : World) (s : ByteArray) (hs : s.size ≤ maxLen) (A' : Option Addr) (m c' : Nat) (us : List Int) (hu : IntsA w w.heap.size .u8 A' m us) (hub : ∀ x ∈ us, 0 ≤ x ∧ x < 256) :
    Calls Try.prog 7 #[.string s, .slice A' m c'] w fun e w' => e = .returned (.bool true) ∧ Below w.heap.size w w' := by
  unfold maxLen at hs
  have hmin := fun w => run_min2 (P := Try.prog) #[3, 3] 3 .i64 (m : Int) 64 w
  obtain ⟨N, hN, hNm, hN64⟩ : ∃ N : Nat, min (m : Int) 64 = (N : Int) ∧ N ≤ m ∧ N ≤ 64 := ⟨min m 64, by omega, by omega, by omega⟩
  rw [hN] at hmin
  have HUL := Lib.hid hu.1
  have HUB := Lib.hid hub
  clear hN hub
  go_enter Try.func7, Try.ntmps7
  go_wp2_with fail
  have hw0 := OwnI.new w w.heap.size 3 .i64 (Nat.le_refl _)
  have hbe0 := (Below.refl w.heap.size w).alloc (Nat.le_refl _) (.cells #[] 3)
  generalize w.alloc (.cells #[] 3) = W at *
  go_loopw [5, 6, 7] (fun v s i wr => ∃ k : Nat, k ≤ N ∧ i = .int .i64 k ∧ s = .int .i64 (sumW (wsB us k)) ∧ OwnI wr w.heap.size 3 .i64 v (wsB us k) ∧ Below w.heap.size w wr) (fun _ _ i _ => N - (intOf i).toNat)
  case atStart => exact ⟨0, by omega, rfl, rfl, hw0, hbe0⟩
  case round =>
    obtain ⟨k, hk, rfl, rfl, hw, hbe⟩ := hrel
    have hsW := hbe.size
    clear hw0 hbe0
    have hsb := sumW_bd _ (wsB_bd us k)
    rw [wsB_len] at hsb
    by_cases hlt : k < N
    · obtain ⟨b', off', rfl, hbl', hc'⟩ := hu.2 (by omega)
      have hck' := (hbe.cell (p := ⟨b', off' + k, none⟩) hbl').trans (hc' k (by omega))
      have hmu : us.getD k 0 ∈ us := by
        have : k < us.length := by rw [HUL.out]; omega
        simp [List.getD, this]
      have hub := HUB.out _ hmu
      obtain ⟨u, hue⟩ : ∃ u : Nat, us.getD k 0 = (u : Int) := ⟨(us.getD k 0).toNat, by omega⟩
      rw [hue] at hck' hub
      have hko : kOf us k = u % 8 + 1 := by unfold kOf; rw [hue, Int.toNat_natCast]
      have hwn := wsB_next us k
      rw [hko] at hwn
      have hsn : sumW (wsB us (k + 1)) = sumW (wsB us k) + ((u % 8 + 1 : Nat) : Int) := by rw [hwn, sumW_snoc]
      have HWN := Lib.hid hwn
      have HSN := Lib.hid hsn
      obtain ⟨K, hK, hK1, hK8⟩ : ∃ K : Nat, u % 8 + 1 = K ∧ 1 ≤ K ∧ K ≤ 8 := ⟨_, rfl, by omega, by omega⟩
      have hKi : ((u : Int) % 8 + 1) = (K : Int) := by omega
      generalize sumW (wsB us k) = S at *
      have HK := Lib.hid hK
      clear hc' hmu hue hko hwn hsn hK
      have hbt := (Below.refl w.heap.size wr).alloc hsW (.cells #[.int .i64 (K : Int)] 3)
      go_wp2_with (at_builtin; refine wp_pushI 27 3 .i64 Try.underlying27 info_int rfl (.tmp 24) (.tmp 32) rfl w.heap.size _ _ (hw.alloc _) rfl ⟨wr.heap.size, 0, none⟩ 1 K rfl (cell_one _ _ _) (by simp [wsB_len]; omega) (by simp; omega) ?_; intro v4 w4 hv4 hg4 hb4; have hbe4 := hbt.trans hb4; have hck4 := (hbe4.cell (p := ⟨b', off' + k, none⟩) hbl').trans hck')
      go_roundw
      case rel =>
        refine ⟨k + 1, by omega, by go_num, ?_, ?_, ?_⟩
        · rw [HSN.out, HK.out]
        · rw [HWN.out, HK.out]; exact hv4
        · exact hbe.trans hbe4
      case measure => simp [intOf]; omega
    · obtain rfl : k = N := by omega
      clear hlt hk
      obtain ⟨A1, c1, rfl⟩ := hw.shape
      have hwi := hw.ints
      rw [wsB_len] at hwi
      have hwl := wsB_len us k
      rw [hwl] at hw ⊢
      have hok := wsB_ok us k hN64
      generalize wsB us k = Y at *
      have HYL := Lib.hid hwl
      clear hw hwl
      obtain ⟨S, hS⟩ : ∃ S : Nat, sumW Y = (S : Int) := ⟨(sumW Y).toNat, by omega⟩
      rw [hS] at hsb ⊢
      have HS := Lib.hid hS
      clear hS
      by_cases hlt : s.size < S
      · go_wp2_with fail
        refine (decode_short wr s A1 k c1 Y hwi (by omega) hok (by rw [HS.out]; omega)).mono ?_
        rintro e w5 ⟨rfl, hb5⟩
        have hbe5 := hbe.trans (hb5.mono hsW)
        clear hbe hb5 hwi
        go_wp2_with fail
        refine (shown_any _).mono ?_
        rintro e w9 ⟨rfl, hb9⟩
        have hbe9 := hbe5.trans (hb9.mono hbe5.size)
        clear hbe5 hb9
        go_wp2_with fail
        go_ret
        exact ⟨rfl, hbe9⟩
      · go_wp2_with fail
        refine (shown_any _).mono ?_
        rintro e w9 ⟨rfl, hb9⟩
        have hbe9 := hbe.trans (hb9.mono hbe.size)
        have hwi9 := (hwi.below hb9).mono hb9.size
        clear hbe hb9 hwi
        go_wp2_with fail
        obtain ⟨T, hT⟩ : ∃ T, s.extract 0 S = T := ⟨_, rfl⟩
        have hTs : T.size = S := by rw [← hT]; simp; omega
        rw [hT]
        obtain ⟨h1, h2, h3, h4⟩ := bytes_enc Y k hok HYL.out T (by rw [HS.out, hTs])
        have hzl : (decL Y T.data.toList).length = k := by rw [decL_len]; exact HYL.out
        have hcat : (T ++ ⟨#[120]⟩).size = S + 1 := by simp [hTs]; rfl
        generalize decL Y T.data.toList = Z at *
        have H1 := Lib.hid h1
        have H2 := Lib.hid h2
        have H3 := Lib.hid h3
        have H4 := Lib.hid h4
        have H5 := Lib.hid hTs
        have H6 := Lib.hid hcat
        clear h1 h2 h3 h4
        refine (decode_ok w9 T A1 k c1 Y hwi9 (by omega) hok (by rw [HS.out, hTs])).mono ?_
        rintro e w6 ⟨rfl, hrow, hb6⟩
        rw [H3.out, ivn_ints] at hrow
        have hyi := IntsA.blk (n := k) (B := w6.heap.size) hrow (by rw [List.length_map]; exact hzl) hrow.lt
        have hwi6 := (hwi9.below hb6).mono hb6.size
        have hbe6 := hbe9.trans (hb6.mono hbe9.size)
        clear hrow hb6 hbe9 hwi9 hzl
        go_wp2_with fail
        refine (encode_any w6 _ A1 k k k c1 (Z.map fun n : Nat => (n : Int)) Y hyi hwi6 (by omega) H4.out).mono ?_
        rintro e w7 ⟨rfl, hb7⟩
        rw [H1.out, H2.out]
        have hbe7 := hbe6.trans (hb7.mono hbe6.size)
        have hwi7 := (hwi6.below hb7).mono hb7.size
        clear hb7 hbe6 hwi6 hyi
        go_wp2_with fail
        refine (decode_short w7 _ A1 k c1 Y hwi7 (by omega) hok (by rw [HS.out, H6.out]; omega)).mono ?_
        rintro e w8 ⟨rfl, hb8⟩
        have hbe8 := hbe7.trans (hb8.mono hbe7.size)
        clear hb8 hbe7 hwi7
        go_wp2_with fail
        go_ret
        exact ⟨rfl, hbe8⟩

theorem packBytes_walk (s : ByteArray) (A' : Option Addr) (m c' : Nat) (zs' : List Int) (w : World) (hs : s.size ≤ maxLen) (h' : RowIn .u8 w A' m c' zs') :
    Calls Try.prog 7 #[.string s, .slice A' m c'] w fun e w' => e = .returned (.bool true) ∧ Below w.heap.size w w' := by
  obtain ⟨hl', hu', _⟩ := h'.ints
  exact packBytes_go w s hs A' m c' _ hl' (fun x hx => by have := bounds_u8 (hu' x hx); omega)
end Go.Proofs.Ytoaihohfbdfbcaa
