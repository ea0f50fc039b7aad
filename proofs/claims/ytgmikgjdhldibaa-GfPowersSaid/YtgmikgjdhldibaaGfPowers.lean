import Derived.Test.YtgmikgjdhldibaaGfRound
namespace Go.Proofs.Ytgmikgjdhldibaa
open Go.RowKit Go.OpenShut

theorem powR_add {a : Nat} (h : a ≠ 0) (n m : Int) : gm (powR a n) (powR a m) = powR a (n + m) := by
  rw [powR_nz h, powR_nz h, powR_nz h, pwI_add, Int.mul_add]
theorem exp_eq (k l : Nat) : ((pw ((k : Int) % 255).toNat : Int) == (pw ((l : Int) % 255).toNat : Int)) = (((k : Int) % 255) == ((l : Int) % 255)) := by
  rw [Bool.eq_iff_iff, beq_iff_eq, beq_iff_eq]
  constructor
  · intro h
    have := pw_inj (i := ((k : Int) % 255).toNat) (j := ((l : Int) % 255).toNat) (by omega) (by omega) (by omega)
    omega
  · intro h
    rw [h]

set_option maxRecDepth 100000 in
set_option maxHeartbeats 4000000 in
theorem gfPowers_go (w : World) (a k l : Nat) (n m : Int) (ha : a < 256) (hn : -32768 ≤ n ∧ n ≤ 32767) (hm : -32768 ≤ m ∧ m ≤ 32767) (hk : k < 256) (hl : l < 256) :
    Calls Try.prog 9 #[.int .u8 a, .int .i16 n, .int .i16 m, .int .u8 k, .int .u8 l] w fun e w' => e = .returned (.bool true) ∧ Below w.heap.size w w' := by
  obtain ⟨p, hp⟩ : ∃ p, powR a n = p := ⟨_, rfl⟩
  obtain ⟨q, hq⟩ : ∃ q, powR a m = q := ⟨_, rfl⟩
  obtain ⟨f, hf⟩ : ∃ f, (a != 0) = f := ⟨_, rfl⟩
  obtain ⟨x, hx⟩ : ∃ x, gm p q = x := ⟨_, rfl⟩
  obtain ⟨L, hL⟩ : ∃ L, lgR a = L := ⟨_, rfl⟩
  obtain ⟨u, hu⟩ : ∃ u, pw ((k : Int) % 255).toNat = u := ⟨_, rfl⟩
  obtain ⟨v, hv⟩ : ∃ v, pw ((l : Int) % 255).toNat = v := ⟨_, rfl⟩
  have huv := exp_eq k l
  rw [hu, hv] at huv
  have hpl : p < 256 := by rw [← hp]; exact powR_lt _ _
  have hql : q < 256 := by rw [← hq]; exact powR_lt _ _
  have haf : ((a : Int) != 0) = f := by rw [bne_cast, hf]
  have hfacts : f = true → powR a (n + m) = x ∧ L < 255 ∧ pw ((L : Int) % 255).toNat = a := fun h => by
    rw [h] at hf
    have h0 : a ≠ 0 := by simpa using hf
    obtain ⟨g1, g2⟩ := pw_lg ha h0
    have hLl : L = lg a := by rw [← hL]; unfold lgR; rw [if_neg h0]
    refine ⟨by rw [← hx, ← hp, ← hq, powR_add h0], by rw [hLl]; exact g1, ?_⟩
    have : pw ((L : Int) % 255).toNat = pwI (L : Int) := rfl
    rw [this, pwI_nat, hLl, g2]
  obtain ⟨B, hB⟩ : ∃ B, (((k : Int) % 255) == ((l : Int) % 255)) = B := ⟨_, rfl⟩
  rw [hB] at huv
  have HP := Lib.hid hp
  have HQ := Lib.hid hq
  have HF := Lib.hid hf
  have HX := Lib.hid hx
  have HL := Lib.hid hL
  have HU := Lib.hid hu
  have HV := Lib.hid hv
  have HFA := Lib.hid hfacts
  have hbe0 := Below.refl w.heap.size w
  clear hp hq hf hx hL hu hv hfacts
  go_enter Try.func9, Try.ntmps9
  go_wp2_with fail
  refine (pow_any _ a n ha).mono ?_
  rintro e w1 ⟨rfl, hb1⟩
  have hbe1 := hbe0.trans (hb1.mono hbe0.size)
  clear hbe0 hb1
  rw [HP.out]
  go_wp2_with fail
  refine (pow_any _ a m ha).mono ?_
  rintro e w2 ⟨rfl, hb2⟩
  have hbe2 := hbe1.trans (hb2.mono hbe1.size)
  clear hbe1 hb2
  rw [HQ.out]
  go_wp2_with fail
  refine (mul_any _ p q hpl hql).mono ?_
  rintro e w3 ⟨rfl, rfl⟩
  rw [HX.out]
  cases f
  · go_wp2_with fail
    refine (shown_any _).mono ?_
    rintro e w3 ⟨rfl, hb3⟩
    have hbe3 := hbe2.trans (hb3.mono hbe2.size)
    clear hbe2 hb3
    go_wp2_with fail
    refine (log_any _ a ha).mono ?_
    rintro e w4 ⟨rfl, hb4⟩
    have hbe4 := hbe3.trans (hb4.mono hbe3.size)
    clear hbe3 hb4
    rw [HL.out, HF.out]
    go_wp2_with fail
    refine (exp_any _ k).mono ?_
    rintro e w5 ⟨rfl, hb5⟩
    have hbe5 := hbe4.trans (hb5.mono hbe4.size)
    clear hbe4 hb5
    rw [HU.out]
    go_wp2_with fail
    refine (exp_any _ l).mono ?_
    rintro e w6 ⟨rfl, hb6⟩
    have hbe6 := hbe5.trans (hb6.mono hbe5.size)
    clear hbe5 hb6
    rw [HV.out]
    cases B
    all_goals
      go_wp2_with fail
      go_ret
      exact ⟨rfl, hbe6⟩
  · obtain ⟨e1, e2, e3⟩ := HFA.out rfl
    have E1 := Lib.hid e1
    have E3 := Lib.hid e3
    clear e1 e3
    go_wp2_with fail
    refine (pow_any _ a (n + m) ha).mono ?_
    rintro e w3 ⟨rfl, hb3⟩
    have hbe3 := hbe2.trans (hb3.mono hbe2.size)
    clear hbe2 hb3
    rw [E1.out]
    go_wp2_with fail
    refine (shown_any _).mono ?_
    rintro e w4 ⟨rfl, hb4⟩
    have hbe4 := hbe3.trans (hb4.mono hbe3.size)
    clear hbe3 hb4
    go_wp2_with fail
    refine (log_any _ a ha).mono ?_
    rintro e w5 ⟨rfl, hb5⟩
    have hbe5 := hbe4.trans (hb5.mono hbe4.size)
    clear hbe4 hb5
    rw [HL.out, HF.out]
    go_wp2_with fail
    refine (exp_any _ L).mono ?_
    rintro e w6 ⟨rfl, hb6⟩
    have hbe6 := hbe5.trans (hb6.mono hbe5.size)
    clear hbe5 hb6
    rw [E3.out]
    go_wp2_with fail
    refine (exp_any _ k).mono ?_
    rintro e w7 ⟨rfl, hb7⟩
    have hbe7 := hbe6.trans (hb7.mono hbe6.size)
    clear hbe6 hb7
    rw [HU.out]
    go_wp2_with fail
    refine (exp_any _ l).mono ?_
    rintro e w8 ⟨rfl, hb8⟩
    have hbe8 := hbe7.trans (hb8.mono hbe7.size)
    clear hbe7 hb8
    rw [HV.out]
    cases B
    all_goals
      go_wp2_with fail
      go_ret
      exact ⟨rfl, hbe8⟩

theorem gfPowers_walk (a n m k l : Int) (ha : (Lit.int .u8 a).wf = true) (hn : (Lit.int .i16 n).wf = true) (hm : (Lit.int .i16 m).wf = true) (hk : (Lit.int .u8 k).wf = true) (hl : (Lit.int .u8 l).wf = true) (w : World) :
    Calls Try.prog 9 #[.int .u8 a, .int .i16 n, .int .i16 m, .int .u8 k, .int .u8 l] w fun e w' => e = .returned (.bool true) ∧ Below w.heap.size w w' := by
  have h1 := bounds_u8 ha
  have h2 := bounds_i16 hn
  have h3 := bounds_i16 hm
  have h4 := bounds_u8 hk
  have h5 := bounds_u8 hl
  obtain ⟨x, rfl⟩ := Int.eq_ofNat_of_zero_le h1.1
  obtain ⟨y, rfl⟩ := Int.eq_ofNat_of_zero_le h4.1
  obtain ⟨z, rfl⟩ := Int.eq_ofNat_of_zero_le h5.1
  exact gfPowers_go w x y z n m (by omega) (by omega) (by omega) (by omega) (by omega)
end Go.Proofs.Ytgmikgjdhldibaa
