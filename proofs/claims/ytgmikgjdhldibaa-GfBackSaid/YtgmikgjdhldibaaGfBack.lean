import Derived.Test.YtgmikgjdhldibaaGfInverse
namespace Go.Proofs.Ytgmikgjdhldibaa
open Go.RowKit Go.OpenShut

theorem ne_false {a : Nat} (h : a ≠ 0) : ((a : Int) == 0) = false := by simp [h]
theorem ne_true {a : Nat} (h : a ≠ 0) : ((a : Int) != 0) = true := by simp [h]

set_option maxHeartbeats 4000000 in
theorem gfBack_go (w : World) (a b p x y : Nat) (f g : Bool) (ha : a < 256) (hb : b < 256) (hp : gm a b = p) (hpl : p < 256) (hx : gm p (invR b) = x) (hy : invR a = y) (hyl : y < 256) (hf : (b != 0) = f) (hg : (a != 0) = g)
    (h1 : ((p : Int) == 0) = (((a : Int) == 0) || ((b : Int) == 0))) (hbi : ((b : Int) != 0) = f) (hai : ((a : Int) != 0) = g) (h2 : f = true → ((x : Int) == (a : Int)) = true) (h3 : g = true → gm y a = 1) :
    Calls Try.prog 6 #[.int .u8 a, .int .u8 b] w fun e w' => e = .returned (.bool true) ∧ Below w.heap.size w w' := by
  obtain ⟨u, hu⟩ : ∃ u, ((a : Int) == 0) = u := ⟨_, rfl⟩
  obtain ⟨v, hv⟩ : ∃ v, ((b : Int) == 0) = v := ⟨_, rfl⟩
  rw [hu, hv] at h1
  have HP := Lib.hid hp
  have HX := Lib.hid hx
  have HY := Lib.hid hy
  have HF := Lib.hid hf
  have HG := Lib.hid hg
  have H2 := Lib.hid h2
  have H3 := Lib.hid h3
  clear hp hx hy hf hg h2 h3
  have huv : u = !g := by rw [← hu, ← hai]; simp [bne]
  have hvv : v = !f := by rw [← hv, ← hbi]; simp [bne]
  subst huv hvv
  go_enter Try.func6, Try.ntmps6
  go_wp2_with fail
  refine (mul_any _ a b ha hb).mono ?_
  rintro e w1 ⟨rfl, rfl⟩
  rw [HP.out]
  go_wp2_with fail
  refine (div_any _ p b hpl hb).mono ?_
  rintro e w1 ⟨rfl, hb1⟩
  rw [HX.out, HF.out]
  go_wp2_with fail
  refine (inv_any _ a ha).mono ?_
  rintro e w2 ⟨rfl, hb2⟩
  have hbe2 := hb1.trans (hb2.mono hb1.size)
  clear hb1 hb2
  rw [HY.out, HG.out]
  cases f
  all_goals cases g
  all_goals simp only [Bool.not_true, Bool.not_false, Bool.or_true, Bool.or_false] at *
  · go_wp2_with fail
    refine (shown_any _).mono ?_
    rintro e w4 ⟨rfl, hb4⟩
    have hbe4 := hbe2.trans (hb4.mono hbe2.size)
    clear hbe2 hb4
    go_wp2_with fail
    go_ret
    exact ⟨rfl, hbe4⟩
  · go_wp2_with fail
    refine (shown_any _).mono ?_
    rintro e w4 ⟨rfl, hb4⟩
    have hbe4 := hbe2.trans (hb4.mono hbe2.size)
    clear hbe2 hb4
    go_wp2_with fail
    refine (mul_any _ y a hyl ha).mono ?_
    rintro e w5 ⟨rfl, rfl⟩
    rw [H3.out trivial]
    go_wp2_with fail
    go_ret
    exact ⟨rfl, hbe4⟩
  · have hxa := H2.out trivial
    go_wp2_with fail
    refine (shown_any _).mono ?_
    rintro e w4 ⟨rfl, hb4⟩
    have hbe4 := hbe2.trans (hb4.mono hbe2.size)
    clear hbe2 hb4
    go_wp2_with fail
    go_ret
    exact ⟨rfl, hbe4⟩
  · have hxa := H2.out trivial
    go_wp2_with fail
    refine (shown_any _).mono ?_
    rintro e w4 ⟨rfl, hb4⟩
    have hbe4 := hbe2.trans (hb4.mono hbe2.size)
    clear hbe2 hb4
    go_wp2_with fail
    refine (mul_any _ y a hyl ha).mono ?_
    rintro e w5 ⟨rfl, rfl⟩
    rw [H3.out trivial]
    go_wp2_with fail
    go_ret
    exact ⟨rfl, hbe4⟩

theorem gfBack_walk (a b : Int) (ha : (Lit.int .u8 a).wf = true) (hb : (Lit.int .u8 b).wf = true) (w : World) :
    Calls Try.prog 6 #[.int .u8 a, .int .u8 b] w fun e w' => e = .returned (.bool true) ∧ Below w.heap.size w w' := by
  have h1 := bounds_u8 ha
  have h2 := bounds_u8 hb
  obtain ⟨x, rfl⟩ := Int.eq_ofNat_of_zero_le h1.1
  obtain ⟨y, rfl⟩ := Int.eq_ofNat_of_zero_le h2.1
  have hx : x < 256 := by omega
  have hy : y < 256 := by omega
  refine gfBack_go w x y (gm x y) (gm (gm x y) (invR y)) (invR x) (y != 0) (x != 0) hx hy rfl (gm_lt hx) rfl rfl (invR_lt x) rfl rfl ?_ ?_ ?_ ?_ ?_
  · rw [Bool.eq_iff_iff, Bool.or_eq_true, beq_iff_eq, beq_iff_eq, beq_iff_eq]
    have := gm_eq_zero hx hy
    omega
  · exact bne_cast y
  · exact bne_cast x
  · intro h
    have h0 : y ≠ 0 := by simpa using h
    rw [invR_nz h0, ← gm_assoc hx hy (inv_lt y), gm_inv hy h0, gm_one hx]
    simp
  · intro h
    have h0 : x ≠ 0 := by simpa using h
    rw [invR_nz h0, gm_comm (inv_lt x) hx, gm_inv hx h0]
end Go.Proofs.Ytgmikgjdhldibaa
