import Derived.Test.YtoaihohfbdfbcaaPackFits
import Derived.Test.YtoaihohfbdfbcaaInts
namespace Go.Proofs.Ytoaihohfbdfbcaa
open Go.RowKit Go.OpenShut

set_option maxHeartbeats 1000000 in
theorem packParts_big (w : World) (A : Option Addr) (n c : Nat) (h : 60 < n) :
    Calls Try.prog 4 #[.slice A n c] w fun e w' => e = .returned (.bool true) ∧ Below w.heap.size w w' := by
  go_enter Try.func4, Try.ntmps4
  go_wp2_with fail
  refine (shown_any _).mono ?_
  rintro e w2 ⟨rfl, hb2⟩
  go_wp2_with fail
  go_ret
  exact ⟨rfl, hb2⟩

def bytes8 (x : Nat) : List UInt8 := (List.range 8).map fun j => UInt8.ofNat (x / 256 ^ j)
def partsL (ls : List Int) (k : Nat) : List UInt8 := (placesF 0 (List.replicate k 8)).map (encByte ls)
def partsS (ls : List Int) (k : Nat) : ByteArray := ⟨(partsL ls k).toArray⟩
theorem partsL_next (ls : List Int) (k x : Nat) (h : ls.getD k 0 = (x : Int)) : partsL ls (k + 1) = partsL ls k ++ bytes8 x := by
  unfold partsL bytes8
  rw [List.replicate_succ', placesF_snoc, List.map_append, List.map_map]
  congr 1
  refine List.map_congr_left fun j _ => ?_
  simp only [Function.comp, encByte, List.length_replicate, Nat.zero_add, h, Int.toNat_natCast]
theorem partsS_next (ls : List Int) (k x : Nat) (h : ls.getD k 0 = (x : Int)) : partsS ls k ++ ⟨(bytes8 x).toArray⟩ = partsS ls (k + 1) := by
  unfold partsS
  rw [partsL_next ls k x h, ← List.append_toArray]
  exact ByteArray.ext (by simp)
theorem partsS_size (ls : List Int) (k : Nat) : (partsS ls k).size = 8 * k := by
  have h := placesF_length 0 (List.replicate k 8) (fun x hx => by rw [List.eq_of_mem_replicate hx]; omega)
  have h2 : sumW (List.replicate k 8) = 8 * k := by
    induction k with
    | zero => rfl
    | succ k ih => rw [List.replicate_succ, sumW, ih (placesF_length 0 _ (fun x hx => by rw [List.eq_of_mem_replicate hx]; omega))]; omega
  show (partsL ls k).toArray.size = _
  unfold partsL
  simp
  omega
theorem wOK_eights (n : Nat) (h : n ≤ 60) : wOK (List.replicate n 8) = true := by
  unfold wOK
  rw [Bool.and_eq_true]
  refine ⟨List.all_eq_true.2 fun x hx => ?_, by simp; omega⟩
  rw [List.eq_of_mem_replicate hx]
  decide
theorem sum_eights (n : Nat) : sumW (List.replicate n 8) = 8 * n := by
  induction n with
  | zero => rfl
  | succ k ih => rw [List.replicate_succ, sumW, ih]; omega
theorem fits_eight (x : Nat) (hx : x < 18446744073709551616) : fitsB x 8 = true := by unfold fitsB; simp; omega
theorem enc_eights (ls : List Int) (n : Nat) (h : n ≤ 60) (hn : ls.length = n) (hu : ∀ x ∈ ls, 0 ≤ x ∧ x < 18446744073709551616) : encE ls (List.replicate n 8) = 0 ∧ encS ls (List.replicate n 8) = partsS ls n := by
  have ha : allFit ls (List.replicate n 8) = true := by
    unfold allFit
    rw [List.all_eq_true]
    intro j hj
    rw [List.mem_range, List.length_replicate] at hj
    have h1 : (List.replicate n (8 : Int)).getD j 0 = 8 := by simp [List.getD, hj]
    rw [h1]
    have h2 := hu (ls.getD j 0) (by
      have : j < ls.length := by omega
      simp [List.getD, this])
    exact fits_eight _ (by omega)
  exact ⟨(enc_ok (wOK_eights n h) (by simp [hn]) ha).1, (enc_ok (wOK_eights n h) (by simp [hn]) ha).2⟩
theorem encE_eight (x : Nat) (hx : x < 18446744073709551616) : encE [(x : Int)] [8] = 0 ∧ encS [(x : Int)] [8] = ⟨(bytes8 x).toArray⟩ := by
  have h0 : encE [(x : Int)] [8] = 0 := by
    have := encE_one x 8 (by omega) (by omega)
    rw [show ((8 : Nat) : Int) = 8 from rfl, fits_eight x hx] at this
    exact this
  refine ⟨h0, ?_⟩
  unfold encS
  rw [h0]
  have := encL_one x 8
  rw [show ((8 : Nat) : Int) = 8 from rfl] at this
  rw [this]
  rfl

set_option maxHeartbeats 2000000 in
theorem packParts_ok (w : World) (A : Option Addr) (n c : Nat) (h : n ≤ 60) (ls : List Int) (hl : IntsA w w.heap.size .u64 A n ls) (hu : ∀ x ∈ ls, 0 ≤ x ∧ x < 18446744073709551616) :
    Calls Try.prog 4 #[.slice A n c] w fun e w' => e = .returned (.bool true) ∧ Below w.heap.size w w' := by
  have HU := Lib.hid hu
  have HL := Lib.hid hl.1
  clear hu
  go_enter Try.func4, Try.ntmps4
  go_wp2_with fail
  refine (shown_any _).mono ?_
  rintro e w2 ⟨rfl, hb2⟩
  go_wp2_with fail
  have ho0 := OwnI.new w2 w.heap.size 3 .i64 hb2.size
  have hbe := hb2.alloc hb2.size (.cells #[] 3)
  generalize w2.alloc (.cells #[] 3) = W at *
  clear hb2
  go_loopw [3, 4, 5] (fun v a i wr => ∃ k : Nat, k ≤ n ∧ i = .int .i64 k ∧ a = .string (partsS ls k) ∧ OwnI wr w.heap.size 3 .i64 v (List.replicate k 8) ∧ Below w.heap.size w wr) (fun _ _ i _ => n - (intOf i).toNat)
  case atStart => exact ⟨0, by omega, rfl, rfl, ho0, hbe⟩
  case round =>
    obtain ⟨k, hk, rfl, rfl, ho, hbe⟩ := hrel
    have hsz := partsS_size ls k
    have hsW := hbe.size
    by_cases hlt : k < n
    · obtain ⟨b, off, rfl, hbw, hc⟩ := hl.2 (by omega)
      have hck := ((hbe.cell (p := ⟨b, off + k, none⟩) hbw).trans (hc k hlt))
      have hx : ls.getD k 0 ∈ ls := by
        have : k < ls.length := by rw [HL.out]; exact hlt
        simp [List.getD, this]
      have hxu := HU.out _ hx
      obtain ⟨x, hxe⟩ : ∃ x, ls.getD k 0 = x := ⟨_, rfl⟩
      rw [hxe] at hck hxu
      obtain ⟨x, rfl⟩ := Int.eq_ofNat_of_zero_le hxu.1
      have hxl : x < 18446744073709551616 := by omega
      obtain ⟨he8, hs8⟩ := encE_eight x hxl
      have HN := Lib.hid (partsS_next ls k x hxe)
      have hbl : (⟨(bytes8 x).toArray⟩ : ByteArray).size = 8 := rfl
      generalize (⟨(bytes8 x).toArray⟩ : ByteArray) = B8 at *
      generalize hP : partsS ls k = P at *
      have H8 := Lib.hid he8
      have HS8 := Lib.hid hs8
      clear hc hx hxe hxu hP he8 hs8
      have hcb := (Blk.new wr 3 #[.int .i64 8]).cell 0
      have hbt := (Below.refl w.heap.size wr).alloc hsW (.cells #[.int .i64 8] 3)
      go_wp2_with (at_builtin; refine wp_pushI 27 3 .i64 Try.underlying27 info_int rfl (.tmp 27) (.tmp 28) rfl w.heap.size _ _ rfl (ho.alloc _) ⟨wr.heap.size, 0, none⟩ 1 8 rfl hcb (by simp; omega) (by simp; omega) ?_; intro v4 w4 hv4 _ hb4; have hck4 := ((hbt.trans hb4).cell (p := ⟨b, off + k, none⟩) hbw).trans hck)
      have hbe4 := (hbe.trans hbt).trans hb4
      have hsz4 := hbe4.size
      clear ho0 ho hcb hbt hck hb4
      refine (encode_new w4 [(x : Int)] [8] 1 1 rfl rfl (by omega) (by simp; omega) _ _ rfl rfl).mono ?_
      rintro e w5 ⟨rfl, hb5⟩
      rw [H8.out, HS8.out]
      have hv5 := hv4.below hb5
      have hbe5 := hbe4.trans (hb5.mono hsz4)
      clear hb5 hbe4 hv4 hck4
      go_wp2_with fail
      go_roundw
      case rel => exact ⟨k + 1, by omega, by go_num, by rw [HN.out], by rw [List.replicate_succ']; exact hv5, hbe5⟩
      case measure => simp [intOf]; omega
    · obtain rfl : k = n := by omega
      obtain ⟨A2, c2, rfl⟩ := ho.shape
      rw [List.length_replicate] at ho
      have hi := ho.ints
      obtain ⟨he, hs⟩ := enc_eights ls k h HL.out HU.out
      obtain ⟨hsN, hsE⟩ := size_yes (wOK_eights k h)
      rw [sum_eights] at hsN
      have HE := Lib.hid he
      have HS := Lib.hid hs
      have HN := Lib.hid hsN
      have HZ := Lib.hid hsE
      generalize hP : partsS ls k = P at *
      clear hP he hs hsN hsE
      simp only [List.length_replicate] at *
      go_wp2_with fail
      refine (encode_any wr A A2 k c k c2 ls (List.replicate k 8) ((hl.below hbe).mono hsW) hi (by omega) HU.out).mono ?_
      rintro e w5 ⟨rfl, hb5⟩
      rw [HE.out, HS.out]
      go_wp2_with fail
      refine (size_any w5 wr.heap.size A2 k c2 (List.replicate k 8) (hi.below hb5) (by omega)).mono ?_
      rintro e w6 ⟨rfl, rfl⟩
      rw [HN.out, HZ.out]
      have hbe5 := hbe.trans (hb5.mono hsW)
      clear ho0 ho hi hb5
      go_wp2_with fail
      go_ret
      exact ⟨rfl, hbe5⟩

theorem packParts_walk (A : Option Addr) (n c : Nat) (zs : List Int) (w : World) (h : RowIn .u64 w A n c zs) :
    Calls Try.prog 4 #[.slice A n c] w fun e w' => e = .returned (.bool true) ∧ Below w.heap.size w w' := by
  obtain ⟨hl, hu, _⟩ := h.ints
  by_cases h : 60 < n
  · exact packParts_big w A n c h
  · exact packParts_ok w A n c (by omega) _ hl (fun x hx => by have := bounds_u64 (hu x hx); omega)
end Go.Proofs.Ytoaihohfbdfbcaa
