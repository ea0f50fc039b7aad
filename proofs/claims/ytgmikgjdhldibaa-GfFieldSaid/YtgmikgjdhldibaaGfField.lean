import Derived.Test.YtgmikgjdhldibaaGfShown
namespace Go.Proofs.Ytgmikgjdhldibaa
open Go.RowKit Go.OpenShut

set_option maxHeartbeats 4000000 in
theorem gfField_go (w : World) (a b c : Nat) (ha : a < 256) (hb : b < 256) (hc : c < 256) :
    Calls Try.prog 3 #[.int .u8 a, .int .u8 b, .int .u8 c] w fun e w' => e = .returned (.bool true) ∧ Below w.heap.size w w' := by
  obtain ⟨p, hp⟩ : ∃ p, gm a b = p := ⟨_, rfl⟩
  obtain ⟨q, hq⟩ : ∃ q, gm b c = q := ⟨_, rfl⟩
  obtain ⟨r, hr⟩ : ∃ r, gm a c = r := ⟨_, rfl⟩
  obtain ⟨s, hs⟩ : ∃ s, gm a q = s := ⟨_, rfl⟩
  have hpl : p < 256 := by rw [← hp]; exact gm_lt ha
  have hql : q < 256 := by rw [← hq]; exact gm_lt hb
  have hrl : r < 256 := by rw [← hr]; exact gm_lt ha
  have HP := Lib.hid hp
  have HP' := Lib.hid (show gm b a = p by rw [gm_comm hb ha, hp])
  have HQ := Lib.hid hq
  have HR := Lib.hid hr
  have HS := Lib.hid hs
  have HS' := Lib.hid (show gm p c = s by rw [← hp, ← gm_assoc ha hb hc, hq, hs])
  obtain ⟨x, hx, hxl, hxe⟩ : ∃ x : Nat, bits BinOp.xor IntKind.u8 (b : Int) (c : Int) = (x : Int) ∧ x < 256 ∧ x = b ^^^ c := ⟨_, xor_u8n b c hb hc, xor_lt hb hc, rfl⟩
  obtain ⟨z, hz, hze⟩ : ∃ z : Nat, bits BinOp.xor IntKind.u8 (p : Int) (r : Int) = (z : Int) ∧ z = p ^^^ r := ⟨_, xor_u8n p r hpl hrl, rfl⟩
  have HX := Lib.hid (show gm a x = z by rw [hxe, hze, gm_xor ha hb hc, hp, hr])
  have H1 := Lib.hid (gm_one ha)
  clear hp hq hr hs hxe hze
  go_enter Try.func3, Try.ntmps3
  go_wp2_with fail
  refine (mul_any _ a b ha hb).mono ?_
  rintro e w1 ⟨rfl, rfl⟩
  rw [HP.out]
  go_wp2_with fail
  refine (mul_any _ b a hb ha).mono ?_
  rintro e w1 ⟨rfl, rfl⟩
  rw [HP'.out]
  go_wp2_with fail
  refine (mul_any _ b c hb hc).mono ?_
  rintro e w1 ⟨rfl, rfl⟩
  rw [HQ.out]
  go_wp2_with fail
  refine (mul_any _ a q ha hql).mono ?_
  rintro e w1 ⟨rfl, rfl⟩
  rw [HS.out]
  go_wp2_with fail
  refine (mul_any _ a b ha hb).mono ?_
  rintro e w1 ⟨rfl, rfl⟩
  rw [HP.out]
  go_wp2_with fail
  refine (mul_any _ p c hpl hc).mono ?_
  rintro e w1 ⟨rfl, rfl⟩
  rw [HS'.out]
  go_wp2_with fail
  refine (mul_any _ a x ha hxl).mono ?_
  rintro e w1 ⟨rfl, rfl⟩
  rw [HX.out]
  go_wp2_with fail
  refine (mul_any _ a b ha hb).mono ?_
  rintro e w1 ⟨rfl, rfl⟩
  rw [HP.out]
  go_wp2_with fail
  refine (mul_any _ a c ha hc).mono ?_
  rintro e w1 ⟨rfl, rfl⟩
  rw [HR.out]
  go_wp2_with fail
  refine (mul_any _ a 1 ha (by omega)).mono ?_
  rintro e w1 ⟨rfl, rfl⟩
  rw [H1.out]
  go_wp2_with fail
  refine (mul_any _ a 0 ha (by omega)).mono ?_
  rintro e w1 ⟨rfl, rfl⟩
  rw [gm_zero_right]
  go_wp2_with fail
  refine (shown_any _).mono ?_
  rintro e w1 ⟨rfl, hbe⟩
  go_wp2_with fail
  go_ret
  exact ⟨rfl, hbe⟩

theorem gfField_walk (a b c : Int) (ha : (Lit.int .u8 a).wf = true) (hb : (Lit.int .u8 b).wf = true) (hc : (Lit.int .u8 c).wf = true) (w : World) :
    Calls Try.prog 3 #[.int .u8 a, .int .u8 b, .int .u8 c] w fun e w' => e = .returned (.bool true) ∧ Below w.heap.size w w' := by
  have h1 := bounds_u8 ha
  have h2 := bounds_u8 hb
  have h3 := bounds_u8 hc
  obtain ⟨x, rfl⟩ := Int.eq_ofNat_of_zero_le h1.1
  obtain ⟨y, rfl⟩ := Int.eq_ofNat_of_zero_le h2.1
  obtain ⟨z, rfl⟩ := Int.eq_ofNat_of_zero_le h3.1
  exact gfField_go w x y z (by omega) (by omega) (by omega)
end Go.Proofs.Ytgmikgjdhldibaa
