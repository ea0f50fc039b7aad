import Derived.Test.YtaghdkiafgainaaDoorGfTab
import Derived.Test.YtaghdkiafgainaaDoorNF
namespace Go.Proofs.YtaghdkiafgainaaDoor
set_option maxRecDepth 20000
open Go.RowKit Go.OpenShut

theorem cell_set (W : World) (g j j' : Nat) (v : Value) (hex : (W.cell? ⟨g, j', none⟩).isSome = true) :
    (W.setCell ⟨g, j, none⟩ v).cell? ⟨g, j', none⟩ = if j = j' then some v else W.cell? ⟨g, j', none⟩ := by
  by_cases e : j = j'
  · subst e
    rw [if_pos rfl]
    obtain ⟨u, hu⟩ := Option.isSome_iff_exists.1 hex
    exact World.cell?_setCell_same W _ _ hu
  · rw [if_neg e]
    exact World.cell?_setCell_other W _ _ _ (fun h => e (Addr.mk.inj h).2.1)
/-- the table in the making: its first k powers and logarithms -/
structure TabK (W0 W : World) (g k : Nat) : Prop where
  ex : ∀ j, j < 770 → (W.cell? ⟨g, j, none⟩).isSome = true
  fr : ∀ j, j < 770 → W.frozen? ⟨g, j, none⟩ = false
  e1 : ∀ i, i < k → W.cell? ⟨g, 4 + i, none⟩ = some (.int .u8 (pw i : Nat))
  e2 : ∀ i, i < k → W.cell? ⟨g, 4 + (i + 255), none⟩ = some (.int .u8 (pw i : Nat))
  lo : ∀ i, i < k → W.cell? ⟨g, 514 + pw i, none⟩ = some (.int .i64 i)
  low : ∀ j, j < 4 → W.cell? ⟨g, j, none⟩ = W0.cell? ⟨g, j, none⟩
  bel : Below g W0 W
theorem TabK.drew {W0 W : World} {g k : Nat} (h : TabK W0 W g k) : TabK W0 W.drew g k := ⟨h.ex, h.fr, h.e1, h.e2, h.lo, h.low, h.bel.drew⟩
def step3 (W : World) (g k p : Nat) : World := ((W.setCell ⟨g, 4 + k, none⟩ (.int .u8 (p : Int))).setCell ⟨g, 4 + (k + 255), none⟩ (.int .u8 (p : Int))).setCell ⟨g, 514 + p, none⟩ (.int .i64 (k : Int))
theorem cell_step3 (W : World) (g k p j : Nat) (hex : ∀ j, j < 770 → (W.cell? ⟨g, j, none⟩).isSome = true) (hj : j < 770) :
    (step3 W g k p).cell? ⟨g, j, none⟩ = if 514 + p = j then some (.int .i64 (k : Int)) else if 4 + (k + 255) = j then some (.int .u8 (p : Int)) else if 4 + k = j then some (.int .u8 (p : Int)) else W.cell? ⟨g, j, none⟩ := by
  have h1 : ∀ j, j < 770 → ((W.setCell ⟨g, 4 + k, none⟩ (.int .u8 (p : Int))).cell? ⟨g, j, none⟩).isSome = true := fun j hj => by
    rw [cell_set _ _ _ _ _ (hex j hj)]
    split
    · rfl
    · exact hex j hj
  have h2 : ∀ j, j < 770 → (((W.setCell ⟨g, 4 + k, none⟩ (.int .u8 (p : Int))).setCell ⟨g, 4 + (k + 255), none⟩ (.int .u8 (p : Int))).cell? ⟨g, j, none⟩).isSome = true := fun j hj => by
    rw [cell_set _ _ _ _ _ (h1 j hj)]
    split
    · rfl
    · exact h1 j hj
  unfold step3
  rw [cell_set _ _ _ _ _ (h2 j hj), cell_set _ _ _ _ _ (h1 j hj), cell_set _ _ _ _ _ (hex j hj)]
theorem tab_step {W0 W : World} {g k : Nat} (h : TabK W0 W g k) (hk : k < 255) : TabK W0 (step3 W g k (pw k)) g (k + 1) := by
  have hp := pw_lt k
  have hc := fun j hj => cell_step3 W g k (pw k) j h.ex hj
  refine ⟨fun j hj => ?_, fun j hj => ?_, fun i hi => ?_, fun i hi => ?_, fun i hi => ?_, fun j hj => ?_, ?_⟩
  · rw [hc j hj]
    repeat' split
    all_goals first | rfl | exact h.ex j hj
  · unfold step3
    rw [World.frozen?_setCell, World.frozen?_setCell, World.frozen?_setCell]
    exact h.fr j hj
  · rw [hc _ (by omega), if_neg (by omega), if_neg (by omega)]
    by_cases e : i = k
    · subst e; rw [if_pos rfl]
    · rw [if_neg (by omega)]; exact h.e1 i (by omega)
  · rw [hc _ (by omega), if_neg (by omega)]
    by_cases e : i = k
    · subst e; rw [if_pos rfl]
    · rw [if_neg (by omega), if_neg (by omega)]; exact h.e2 i (by omega)
  · have hpi := pw_lt i
    rw [hc _ (by omega)]
    by_cases e : i = k
    · subst e; rw [if_pos rfl]
    · have hne : pw k ≠ pw i := fun h => e (pw_inj hk (by omega) h).symm
      rw [if_neg (by omega), if_neg (by omega), if_neg (by omega)]
      exact h.lo i (by omega)
  · rw [hc _ (by omega), if_neg (by omega), if_neg (by omega), if_neg (by omega)]
    exact h.low j hj
  · exact ((h.bel.setCell (by show g ≤ g; omega) _).setCell (by show g ≤ g; omega) _).setCell (by show g ≤ g; omega) _
theorem ofInt_i64n (a : Nat) (ha : a < 9223372036854775808) : (BitVec.ofInt 64 (a : Int)).toNat = a := ofInt_u64 a (by omega)
theorem i64_xor_nat (a b : Nat) (ha : a < 9223372036854775808) (hb : b < 9223372036854775808) : bits .xor .i64 (a : Int) (b : Int) = ((a ^^^ b : Nat) : Int) := by
  have hx : a ^^^ b < 2 ^ 63 := Nat.xor_lt_two_pow (by omega) (by omega)
  show IntKind.i64.wrap ((BitVec.ofInt 64 (a : Int) ^^^ BitVec.ofInt 64 (b : Int)).toNat : Int) = _
  rw [BitVec.toNat_xor, ofInt_i64n a ha, ofInt_i64n b hb, IntKind.wrap_i64]
  omega
theorem xor_285 {p : Nat} (h : ¬ p < 128) (hp : p < 256) : bits BinOp.xor IntKind.i64 ((p : Int) * 2) 285 = ((xt p : Nat) : Int) := by
  rw [xt_eq hp, show p / 128 = 1 by omega, show (p : Int) * 2 = ((2 * p : Nat) : Int) by omega]
  exact i64_xor_nat (2 * p) 285 (by omega) (by omega)

set_option maxHeartbeats 4000000 in
theorem make_any (g : Nat) (w : World) (hex : ∀ j, j < 770 → (w.cell? ⟨g, j, none⟩).isSome = true) (hfr : ∀ j, j < 770 → w.frozen? ⟨g, j, none⟩ = false) (h3 : w.cell? ⟨g, 3, none⟩ = some (.int .i32 0)) :
    Calls Tryd.prog 48 #[.pointer (some ⟨g, 0, none⟩)] w fun e w' => e = .returned (.tuple #[]) ∧ TabK (w.setCell ⟨g, 3, none⟩ (.int .i32 1)) w' g 255 := by
  go_enter Tryd.func48, Tryd.ntmps48
  go_wp2_with fail
  refine (add_made _ _ h3 (hfr 3 (by omega))).mono ?_
  rintro e w1 ⟨rfl, rfl⟩
  have ht0 : TabK (w.setCell ⟨g, 3, none⟩ (.int .i32 1)) (w.setCell ⟨g, 3, none⟩ (.int .i32 1)) g 0 :=
    ⟨fun j hj => by
      rw [cell_set _ _ _ _ _ (hex j hj)]
      split
      · rfl
      · exact hex j hj, fun j hj => by rw [World.frozen?_setCell]; exact hfr j hj, fun i hi => by omega, fun i hi => by omega, fun i hi => by omega, fun _ _ => rfl, Below.refl _ _⟩
  obtain ⟨W, hW⟩ : ∃ W, w.setCell ⟨g, 3, none⟩ (.int .i32 1) = W := ⟨_, rfl⟩
  rw [hW] at ht0 ⊢
  have HWW := Lib.hid hW
  clear hex hfr h3 hW
  go_wp2_with fail
  go_loopw [2, 8] (fun x i wr => ∃ k : Nat, k ≤ 255 ∧ i = .int .i64 k ∧ x = .int .i64 (pw k : Nat) ∧ TabK W wr g k) (fun _ i _ => 255 - (intOf i).toNat)
  case atStart => exact ⟨0, by omega, rfl, rfl, ht0⟩
  case round =>
    obtain ⟨k, hk, rfl, rfl, ht⟩ := hrel
    have HT := Lib.hid ht
    by_cases hlt : k < 255
    · have hps := pw_succ k
      have hp := pw_lt k
      have c1 := ht.ex (4 + k) (by omega)
      have c2 := ht.ex (4 + (k + 255)) (by omega)
      have c3 := ht.ex (514 + pw k) (by omega)
      have f1 := ht.fr (4 + k) (by omega)
      have f2 := ht.fr (4 + (k + 255)) (by omega)
      have f3 := ht.fr (514 + pw k) (by omega)
      have HS := Lib.hid (tab_step ht hlt)
      obtain ⟨v1, hv1⟩ := Option.isSome_iff_exists.1 c1
      obtain ⟨v2, hv2⟩ := Option.isSome_iff_exists.1 c2
      obtain ⟨v3, hv3⟩ := Option.isSome_iff_exists.1 c3
      generalize pw k = p at *
      have HP := Lib.hid hps
      clear ht ht0 c1 c2 c3 hps
      set_option maxRecDepth 100000 in
      go_wp2_with fail
      refine wp_region_nf (fun _ => True) (fun _ => false) [(0, true), (1, true), (2, true), (3, true), (4, true), (5, true), (6, true), (7, true), (8, true), (9, true), (10, true), (11, true), (13, true), (14, true), (12, false), (15, true), (16, false)] (by kernel_rfl) rfl (by kernel_rfl) (by kernel_rfl) (fun d _ _ _ _ h => by cases d <;> exact h) ?_
      repeat (refine nf_pure rfl trivial (fun w1 _ => by go_wp2; exact ⟨rfl, rfl, rfl⟩) rfl ?_ ?_; rfl)
      refine nf_imp rfl ?_
      go_wp2_with fail
      refine ⟨fun _ => trivial, ?_⟩
      repeat (refine nf_pure rfl trivial (fun w1 _ => by go_wp2; exact ⟨rfl, rfl, rfl⟩) rfl ?_ ?_; rfl)
      refine nf_imp rfl ?_
      go_wp2_with fail
      refine ⟨fun _ => trivial, ?_⟩
      refine nf_nil ?_
      by_cases h7 : p < 128
      · go_wp2_with fail
        go_roundw
        case rel =>
          refine ⟨k + 1, by omega, by go_num, ?_, ?_⟩
          · rw [HP.out, xt_small h7]
          · exact HS.out.drew
        case measure => simp [intOf]; omega
      · have h8 := xor_285 h7 hp
        go_wp2_with fail
        go_roundw
        case rel =>
          refine ⟨k + 1, by omega, by go_num, ?_, ?_⟩
          · rw [HP.out]
          · exact HS.out.drew
        case measure => simp [intOf]; omega
    · obtain rfl : k = 255 := by omega
      go_wp2_with fail
      go_end0
      exact ⟨rfl, by rw [HWW.out]; exact HT.out⟩
end Go.Proofs.YtaghdkiafgainaaDoor
