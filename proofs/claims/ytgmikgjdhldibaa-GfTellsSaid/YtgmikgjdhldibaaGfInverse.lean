import Derived.Test.YtgmikgjdhldibaaGfApart
namespace Go.Proofs.Ytgmikgjdhldibaa
open Go.RowKit Go.OpenShut

theorem invR_z : invR 0 = 0 := rfl
theorem invR_nz {a : Nat} (h : a ≠ 0) : invR a = inv a := by unfold invR; rw [if_neg h]

theorem bne_cast (a : Nat) : ((a : Int) != 0) = (a != 0) := by
  by_cases h : a = 0
  · subst h; rfl
  · rw [bne_iff_ne.2 h, bne_iff_ne.2 (by omega)]
set_option maxHeartbeats 4000000 in
theorem gfInverse_go (w : World) (a b : Nat) (ha : a < 256) (hb : b < 256) :
    Calls Try.prog 5 #[.int .u8 a, .int .u8 b] w fun e w' => e = .returned (.bool true) ∧ Below w.heap.size w w' := by
  obtain ⟨x, hx⟩ : ∃ x, invR a = x := ⟨_, rfl⟩
  obtain ⟨y, hy⟩ : ∃ y, invR b = y := ⟨_, rfl⟩
  obtain ⟨z, hz⟩ : ∃ z, invR x = z := ⟨_, rfl⟩
  obtain ⟨f, hf⟩ : ∃ f, (a != 0) = f := ⟨_, rfl⟩
  obtain ⟨g, hg⟩ : ∃ g, (b != 0) = g := ⟨_, rfl⟩
  have hxl : x < 256 := by rw [← hx]; exact invR_lt a
  have hxf : (x != 0) = f := by
    rw [← hx, ← hf]
    by_cases h : a = 0
    · subst h; rfl
    · rw [invR_nz h, bne_iff_ne.2 (inv_ne a), bne_iff_ne.2 h]
  have hai : ((a : Int) != 0) = f := by
    rw [← hf]
    exact bne_cast a
  have hza : f = true → z = a := fun h => by
    rw [h] at hf
    have h0 : a ≠ 0 := by simpa using hf
    rw [← hz, ← hx, invR_nz h0, invR_nz (inv_ne a), inv_inv ha h0]
  have hxy : f = true → g = true → ((x : Int) == (y : Int)) = ((a : Int) == (b : Int)) := fun h h' => by
    rw [h] at hf
    rw [h'] at hg
    have h0 : a ≠ 0 := by simpa using hf
    have h1 : b ≠ 0 := by simpa using hg
    rw [← hx, ← hy, invR_nz h0, invR_nz h1, Bool.eq_iff_iff, beq_iff_eq, beq_iff_eq]
    constructor
    · intro e
      have := inv_inj ha hb h0 h1 (by omega)
      omega
    · intro e
      rw [show a = b by omega]
  have HX := Lib.hid hx
  have HY := Lib.hid hy
  have HZ := Lib.hid hz
  have HF := Lib.hid hf
  have HG := Lib.hid hg
  have HXF := Lib.hid hxf
  have HZA := Lib.hid hza
  have HXY := Lib.hid hxy
  clear hx hy hz hf hg hxf hza hxy
  go_enter Try.func5, Try.ntmps5
  go_wp2_with fail
  refine (inv_any _ a ha).mono ?_
  rintro e w1 ⟨rfl, hb1⟩
  rw [HX.out, HF.out]
  go_wp2_with fail
  refine (inv_any _ b hb).mono ?_
  rintro e w2 ⟨rfl, hb2⟩
  have hbe2 := hb1.trans (hb2.mono hb1.size)
  clear hb1 hb2
  rw [HY.out, HG.out]
  go_wp2_with fail
  refine (inv_any _ x hxl).mono ?_
  rintro e w3 ⟨rfl, hb3⟩
  have hbe3 := hbe2.trans (hb3.mono hbe2.size)
  clear hbe2 hb3
  rw [HZ.out, HXF.out]
  cases f
  · go_wp2_with fail
    refine (shown_any _).mono ?_
    rintro e w4 ⟨rfl, hb4⟩
    have hbe4 := hbe3.trans (hb4.mono hbe3.size)
    clear hbe3 hb4
    go_wp2_with fail
    go_ret
    exact ⟨rfl, hbe4⟩
  · obtain rfl := HZA.out rfl
    cases g
    · go_wp2_with fail
      refine (shown_any _).mono ?_
      rintro e w4 ⟨rfl, hb4⟩
      have hbe4 := hbe3.trans (hb4.mono hbe3.size)
      clear hbe3 hb4
      go_wp2_with fail
      go_ret
      exact ⟨rfl, hbe4⟩
    · have hxy := HXY.out rfl rfl
      obtain ⟨u, hu⟩ : ∃ u, ((z : Int) == (b : Int)) = u := ⟨_, rfl⟩
      rw [hu] at hxy
      cases u
      all_goals
        go_wp2_with fail
        refine (shown_any _).mono ?_
        rintro e w4 ⟨rfl, hb4⟩
        have hbe4 := hbe3.trans (hb4.mono hbe3.size)
        clear hbe3 hb4
        go_wp2_with fail
        go_ret
        exact ⟨rfl, hbe4⟩

theorem gfInverse_walk (a b : Int) (ha : (Lit.int .u8 a).wf = true) (hb : (Lit.int .u8 b).wf = true) (w : World) :
    Calls Try.prog 5 #[.int .u8 a, .int .u8 b] w fun e w' => e = .returned (.bool true) ∧ Below w.heap.size w w' := by
  have h1 := bounds_u8 ha
  have h2 := bounds_u8 hb
  obtain ⟨x, rfl⟩ := Int.eq_ofNat_of_zero_le h1.1
  obtain ⟨y, rfl⟩ := Int.eq_ofNat_of_zero_le h2.1
  exact gfInverse_go w x y (by omega) (by omega)
end Go.Proofs.Ytgmikgjdhldibaa
