import Derived.Test.YtoaihohfbdfbcaaPackShown
namespace Go.Proofs.Ytoaihohfbdfbcaa
open Go.RowKit Go.OpenShut

theorem wOK_one (k : Nat) : wOK [(k : Int)] = (decide (1 ≤ k) && decide (k ≤ 8)) := by
  unfold wOK
  rw [Bool.eq_iff_iff]
  simp
  omega
theorem allFit_one (n k : Nat) : allFit [(n : Int)] [(k : Int)] = fitsB n (k : Int) := by
  unfold allFit
  simp
theorem encE_one (n k : Nat) (h1 : 1 ≤ k) (h2 : k ≤ 8) : encE [(n : Int)] [(k : Int)] = if fitsB n (k : Int) then 0 else 30 := by
  unfold encE
  rw [wOK_one, decide_eq_true h1, decide_eq_true h2, allFit_one]
  rfl
theorem encL_one (n k : Nat) : encL [(n : Int)] [(k : Int)] = (List.range k).map fun j => UInt8.ofNat (n / 256 ^ j) := by
  unfold encL placesF
  simp only [placesF, List.append_nil, List.map_map, Int.toNat_natCast]
  rfl

set_option maxHeartbeats 1000000 in
theorem packFits_no (n k : Nat) (hn : n < 18446744073709551616) (w : World) (width : Nat) (hw : width < 256) (hk : width % 8 + 1 = k) (hf : fitsB n (k : Int) = false) :
    Calls Try.prog 3 #[.int .u64 n, .int .u8 width] w fun e w' => e = .returned (.bool true) ∧ Below w.heap.size w w' := by
  have he : encE [(n : Int)] [(k : Int)] = 30 := by rw [encE_one n k (by omega) (by omega), hf]; rfl
  have hs : encS [(n : Int)] [(k : Int)] = ⟨#[]⟩ := by unfold encS; rw [he]; rfl
  go_enter Try.func3, Try.ntmps3
  go_wp2_with fail
  rw [show (1 + (width : Int) % 8) = (k : Int) by omega]
  refine (encode_new w [(n : Int)] [(k : Int)] 1 1 rfl rfl (by omega) (by simp; omega) _ _ rfl rfl).mono ?_
  rintro e w1 ⟨rfl, hb1⟩
  rw [he, hs]
  clear he hs
  go_wp2_with fail
  refine (fits_any _ n hn k).mono ?_
  rintro e w2 ⟨rfl, rfl⟩
  rw [hf]
  go_wp2_with fail
  refine (shown_any _).mono ?_
  rintro e w2 ⟨rfl, hb2⟩
  have hb3 := hb1.trans (hb2.mono hb1.size)
  clear hb1 hb2
  go_wp2_with fail
  go_ret
  exact ⟨rfl, hb3⟩

theorem bytes_zero {s : ByteArray} {l : List UInt8} (e : s = ⟨l.toArray⟩) (h : 0 < s.size) (h2 : 0 < l.length) : s[0] = l[0] := by
  subst e
  rfl

set_option maxHeartbeats 1000000 in
theorem packFits_yes (n k : Nat) (hn : n < 18446744073709551616) (w : World) (width : Nat) (hw : width < 256) (hk : width % 8 + 1 = k) (hf : fitsB n (k : Int) = true) :
    Calls Try.prog 3 #[.int .u64 n, .int .u8 width] w fun e w' => e = .returned (.bool true) ∧ Below w.heap.size w w' := by
  have he : encE [(n : Int)] [(k : Int)] = 0 := by rw [encE_one n k (by omega) (by omega), hf]; rfl
  have hs : encS [(n : Int)] [(k : Int)] = ⟨((List.range k).map fun j => UInt8.ofNat (n / 256 ^ j)).toArray⟩ := by unfold encS; rw [he, encL_one]; rfl
  obtain ⟨S, hS⟩ : ∃ S, encS [(n : Int)] [(k : Int)] = S := ⟨_, rfl⟩
  rw [hS] at hs
  have hsz : S.size = k := by rw [hs]; simp [ByteArray.size]
  have hbz : ((S.size : Int) == (k : Int)) = true := by rw [hsz]; simp
  have h0 : 0 < S.size := by omega
  have hz0 : ((S[0].toNat : Int) == (n : Int) % 256) = true := by
    have e1 : S[0] = UInt8.ofNat n := by
      rw [bytes_zero hs h0 (by simp; omega)]
      simp
    rw [e1]
    simp
  clear hs
  go_enter Try.func3, Try.ntmps3
  go_wp2_with fail
  rw [show (1 + (width : Int) % 8) = (k : Int) by omega]
  refine (encode_new w [(n : Int)] [(k : Int)] 1 1 rfl rfl (by omega) (by simp; omega) _ _ rfl rfl).mono ?_
  rintro e w1 ⟨rfl, hb1⟩
  rw [he, hS]
  clear he hS
  go_wp2_with fail
  refine (fits_any _ n hn k).mono ?_
  rintro e w2 ⟨rfl, rfl⟩
  rw [hf]
  go_wp2_with fail
  refine (shown_any _).mono ?_
  rintro e w2 ⟨rfl, hb2⟩
  have hb3 := hb1.trans (hb2.mono hb1.size)
  clear hb1 hb2
  go_wp2_with fail
  refine (fits_any _ n hn 8).mono ?_
  rintro e w2 ⟨rfl, rfl⟩
  rw [show fitsB n 8 = true by unfold fitsB; simp; omega]
  go_wp2_with fail
  go_ret
  exact ⟨rfl, hb3⟩

theorem packFits_walk (n width : Int) (hn : (Lit.int .u64 n).wf = true) (hu : (Lit.int .u8 width).wf = true) (w : World) :
    Calls Try.prog 3 #[.int .u64 n, .int .u8 width] w fun e w' => e = .returned (.bool true) ∧ Below w.heap.size w w' := by
  have hb := bounds_u64 hn
  obtain ⟨z, rfl⟩ := Int.eq_ofNat_of_zero_le hb.1
  have hc := bounds_u8 hu
  obtain ⟨y, rfl⟩ := Int.eq_ofNat_of_zero_le hc.1
  cases hf : fitsB z ((y % 8 + 1 : Nat) : Int)
  · exact packFits_no z _ (by omega) w y (by omega) rfl hf
  · exact packFits_yes z _ (by omega) w y (by omega) rfl hf
end Go.Proofs.Ytoaihohfbdfbcaa
