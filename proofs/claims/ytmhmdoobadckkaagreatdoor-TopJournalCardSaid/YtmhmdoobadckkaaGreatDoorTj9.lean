/- Own texts, joined: GfMul, GfOnce, GfTab, GfMake, GfFresh, GExp, GTimes, RangeB, SyQ, Wnt, SyZ, SyTrim, SyPlain, SyGood, SyGoodP. -/
import Derived.Test.YtmhmdoobadckkaaGreatDoorTj1
import Derived.Test.YtmhmdoobadckkaaGreatDoorTj3
import Derived.Test.YtmhmdoobadckkaaGreatDoorTj8
import Derived.Tactics
import Derived.Tactics2
import Derived.Defers
import Derived.Laws.Pointers
import Derived.Laws.LoneSync
import Derived.RegionTactic
import Derived.RegionCalls
import Derived.ChangeAlike
import Derived.Laws.OwnMore
namespace Go.Proofs.YtmhmdoobadckkaaGreatDoor
set_option maxRecDepth 20000
open Go.RowKit Go.OpenShut

theorem xor_u8n (a b : Nat) (ha : a < 256) (hb : b < 256) : bits BinOp.xor IntKind.u8 (a : Int) (b : Int) = ((a ^^^ b : Nat) : Int) := u8_xor_nat a b ha hb
theorem and_one_u8 (y : Nat) (h : y < 256) : bits BinOp.and IntKind.u8 (y : Int) 1 = ((y % 2 : Nat) : Int) := by
  have h1 := u8_and_nat y 1 h (by omega)
  rw [Nat.and_one_is_mod] at h1
  exact h1

theorem xt_small {x : Nat} (h : x < 128) : (x : Int) * 2 = ((xt x : Nat) : Int) := by
  unfold xt
  rw [if_pos h]
  omega
theorem xt_big {x : Nat} (h : ¬ x < 128) (hx : x < 256) : bits BinOp.xor IntKind.u8 ((x : Int) * 2 % 256) 29 = ((xt x : Nat) : Int) := by
  unfold xt
  rw [if_neg h]
  have h1 : (x : Int) * 2 % 256 = ((2 * x - 256 : Nat) : Int) := by omega
  rw [h1]
  exact u8_xor_nat (2 * x - 256) 29 (by omega) (by omega)
set_option maxHeartbeats 1000000 in
theorem mul_any (w : World) (a b : Nat) (ha : a < 256) (hb : b < 256) :
    Calls Tryz.prog 58 #[.int .u8 a, .int .u8 b] w fun e w' => e = .returned (.int .u8 (gm a b : Nat)) ∧ w = w' := by
  obtain ⟨M, hM⟩ : ∃ M, gm a b = M := ⟨_, rfl⟩
  rw [hM]
  have HM := Lib.hid hM
  clear hM
  go_enter Tryz.func58, Tryz.ntmps58
  go_wp2_with fail
  go_loop [0, 1, 5] (fun u v t => ∃ k x y n : Nat, u = .int .u8 x ∧ v = .int .u8 y ∧ t = .int .u8 n ∧ x < 256 ∧ y < 256 ∧ y < 2 ^ k ∧ n < 256 ∧ n ^^^ gmF k x y = M) (fun _ v _ => (intOf v).toNat)
  case atStart => exact ⟨8, a, b, 0, rfl, rfl, rfl, ha, hb, hb, by omega, by rw [Nat.zero_xor]; exact HM.out⟩
  case round =>
    obtain ⟨k, x, y, n, rfl, rfl, rfl, hx, hy, hyk, hn, hinv⟩ := hrel
    have HI := Lib.hid hinv
    have HK := Lib.hid hyk
    clear hinv hyk
    by_cases h0 : 0 < y
    · obtain ⟨k, rfl⟩ : ∃ j, k = j + 1 := by
        cases k with
        | zero => have := HK.out; omega
        | succ j => exact ⟨j, rfl⟩
      have hI := HI.out
      rw [gmF] at hI
      have HI := Lib.hid hI
      have hyk := HK.out
      rw [Nat.pow_succ] at hyk
      obtain ⟨y', hy', hyd, hy'k⟩ : ∃ y' : Nat, (y : Int) / 2 = (y' : Int) ∧ y' = y / 2 ∧ y' < 2 ^ k := ⟨y / 2, by omega, rfl, by omega⟩
      have HK := Lib.hid hy'k
      have HY := Lib.hid hyd
      have h1 := and_one_u8 y hy
      have hnx := xor_u8n n x hn hx
      clear hyk hyd hy'k hI
      by_cases hb : y % 2 = 1
      · rw [hb] at h1
        have hb1 : bits BinOp.and IntKind.u8 (y : Int) 1 = 1 := h1
        obtain ⟨n', hn', hne, hnl⟩ : ∃ n' : Nat, bits BinOp.xor IntKind.u8 (n : Int) (x : Int) = (n' : Int) ∧ n' = n ^^^ x ∧ n' < 256 := ⟨_, hnx, rfl, xor_lt hn hx⟩
        have HN := Lib.hid hne
        have HB := Lib.hid hb
        clear h1 hnx hne hb
        by_cases h7 : x < 128
        · have h70 : (x : Int) / 128 = 0 := by omega
          go_wp2_with fail
          go_round
          case rel => exact ⟨k, xt x, y', n', by rw [xt_small h7], rfl, rfl, xt_lt hx, by have := HY.out; omega, HK.out, hnl, by rw [HN.out, HY.out, ← HI.out, if_pos HB.out, Nat.xor_assoc]⟩
          case measure => simp [intOf]; have := HY.out; omega
        · have h70 : (x : Int) / 128 = 1 := by omega
          go_wp2_with fail
          go_round
          case rel => exact ⟨k, xt x, y', n', by rw [xt_big h7 hx], rfl, rfl, xt_lt hx, by have := HY.out; omega, HK.out, hnl, by rw [HN.out, HY.out, ← HI.out, if_pos HB.out, Nat.xor_assoc]⟩
          case measure => simp [intOf]; have := HY.out; omega
      · have hb2 : y % 2 = 0 := by omega
        rw [hb2] at h1
        have hb1 : bits BinOp.and IntKind.u8 (y : Int) 1 = 0 := h1
        have HB := Lib.hid hb
        clear h1 hnx hb hb2
        by_cases h7 : x < 128
        · have h70 : (x : Int) / 128 = 0 := by omega
          go_wp2_with fail
          go_round
          case rel => exact ⟨k, xt x, y', n, by rw [xt_small h7], rfl, rfl, xt_lt hx, by have := HY.out; omega, HK.out, hn, by rw [HY.out, ← HI.out, if_neg HB.out, Nat.zero_xor]⟩
          case measure => simp [intOf]; have := HY.out; omega
        · have h70 : (x : Int) / 128 = 1 := by omega
          go_wp2_with fail
          go_round
          case rel => exact ⟨k, xt x, y', n, by rw [xt_big h7 hx], rfl, rfl, xt_lt hx, by have := HY.out; omega, HK.out, hn, by rw [HY.out, ← HI.out, if_neg HB.out, Nat.zero_xor]⟩
          case measure => simp [intOf]; have := HY.out; omega
    · obtain rfl : y = 0 := by omega
      have hI := HI.out
      rw [gmF_zero, Nat.xor_zero] at hI
      have HI := Lib.hid hI
      clear hI
      go_wp2_with fail
      go_ret
      exact ⟨by rw [← HI.out]; rfl, rfl⟩
end Go.Proofs.YtmhmdoobadckkaaGreatDoor
/- sync.Once in one goroutine: the kit's worked contracts (Lazy), turned to this program. -/
namespace Go.Proofs.YtmhmdoobadckkaaGreatDoor
set_option maxRecDepth 20000

theorem disable (w : World) : (callFunc 369 #[]).run Tryz.prog w = .ok (.value (.tuple #[])) w := run_call_mark0 Tryz.func369 (by kernel_rfl) (by kernel_rfl) (by kernel_rfl) .disable (by kernel_rfl) w
theorem enable (w : World) : (callFunc 371 #[]).run Tryz.prog w = .ok (.value (.tuple #[])) w := run_call_mark0 Tryz.func371 (by kernel_rfl) (by kernel_rfl) (by kernel_rfl) .enable (by kernel_rfl) w
theorem acquire (a : Addr) (w : World) : (callFunc 372 #[.pointer (some a)]).run Tryz.prog w = .ok (.value (.tuple #[])) w := run_call_marked Tryz.func372 (by kernel_rfl) (by kernel_rfl) (by kernel_rfl) .acquire (by kernel_rfl) a w
theorem releaseMerge (a : Addr) (w : World) : (callFunc 374 #[.pointer (some a)]).run Tryz.prog w = .ok (.value (.tuple #[])) w := run_call_marked Tryz.func374 (by kernel_rfl) (by kernel_rfl) (by kernel_rfl) .releaseMerge (by kernel_rfl) a w

theorem store_deferred (a : Addr) (x : Value) (u : FrameMode) (w : World) (hc : w.cell? a = some x) (hz : w.frozen? a = false) :
    CallsD Tryz.prog 362 #[.pointer (some a), .bool true] u w fun e u' w' => u' = u ∧ (e = .returned (.tuple #[]) ∧ w' = w.drew.setCell a (.int .u32 1)) := by
  have hc' : w.drew.cell? a = some x := by go_simp
  have hz' : w.drew.frozen? a = false := by go_simp
  have hst := run_call_store (P := Tryz.prog) Tryz.func367 (by kernel_rfl) (by kernel_rfl) (by kernel_rfl) (by kernel_rfl) (k := .u32) (y := 1) hc' hz'
  go_enter_d Tryz.func362, Tryz.ntmps362
  go_wp2
  go_region_calls
  all_goals (go_end0; exact ⟨rfl, rfl⟩)

theorem unlock_deferred (a : Addr) (u : FrameMode) (w : World) (hc : w.cell? a = some (.int .i32 1)) (hz : w.frozen? a = false) :
    CallsD Tryz.prog 361 #[.pointer (some a)] u w fun e u' w' => u' = u ∧ (e = .returned (.tuple #[]) ∧ w' = w.setCell a (.int .i32 0)) := by
  have hd := disable
  have he := enable
  have hr := releaseMerge
  have hadd := run_call_add (P := Tryz.prog) Tryz.func363 (by kernel_rfl) (by kernel_rfl) (by kernel_rfl) .i32 (by kernel_rfl) (y := -1) (s := 0) hc hz (by simp [go_sem]; rfl)
  have hcv := run_convert_to_unsafe (P := Tryz.prog) (src := 424) (dst := 346) Tryz.underlying424 Tryz.underlying346 (by kernel_rfl) hc
  go_enter_d Tryz.func361, Tryz.ntmps361
  go_wp2
  go_end0
  go_wp2
  go_end0
  exact ⟨rfl, rfl⟩

theorem lock_free (a : Addr) (w : World) (hc : w.cell? a = some (.int .i32 0)) (hz : w.frozen? a = false) :
    Calls Tryz.prog 360 #[.pointer (some a)] w fun e w' => e = .returned (.tuple #[]) ∧ w' = w.setCell a (.int .i32 1) := by
  have hd := disable
  have he := enable
  have ha := acquire
  have hcas := run_call_cas_hit (P := Tryz.prog) Tryz.func370 (by kernel_rfl) (by kernel_rfl) (by kernel_rfl) .i32 (by kernel_rfl) (y := 1) hc hz
  have hc' : (w.setCell a (.int .i32 1)).cell? a = some (.int .i32 1) := World.cell?_setCell_same w a _ hc
  have hcv := run_convert_to_unsafe (P := Tryz.prog) (src := 424) (dst := 346) Tryz.underlying424 Tryz.underlying346 (by kernel_rfl) hc'
  go_enter Tryz.func360, Tryz.ntmps360
  go_wp2
  first | go_end0 | (simp only [Exit.inBlock, Exit.then]; refine bodyPost_ret (results_none rfl _ _ _) rfl ?_) | refine bodyPost_ret (results_none rfl _ _ _) rfl ?_
  go_wp2
  go_end0
  exact ⟨rfl, rfl⟩

end Go.Proofs.YtmhmdoobadckkaaGreatDoor
namespace Go.Proofs.YtmhmdoobadckkaaGreatDoor
set_option maxRecDepth 20000
open Go.RowKit Go.OpenShut

def zt : Array Value := #[.int .u32 0, .int .i32 0, .int .u32 0, .int .i32 0] ++ Array.replicate 510 (.int .u8 0) ++ Array.replicate 256 (.int .i64 0)
theorem zt_info : (Tryz.prog.info? 380).map (fun i => i.zero) = some (some (.agg zt)) := by kernel_rfl
theorem run_zt (W : World) : (zeroValue 380).run Tryz.prog W = .ok (.agg zt) W := by
  have h := zt_info
  cases hi : Tryz.prog.info? 380 with
  | none => rw [hi] at h; cases h
  | some i =>
    rw [hi] at h
    have hz : i.zero = some (.agg zt) := by simpa using h
    simp [zeroValue, typeInfo, hi, hz, go_sem]

theorem zt_size : zt.size = 770 := by simp [zt]
theorem add_made (a : Addr) (w : World) (hc : w.cell? a = some (.int .i32 0)) (hz : w.frozen? a = false) :
    Calls Tryz.prog 357 #[.pointer (some a), .int .i32 1] w fun e w' => e = .returned (.int .i32 1) ∧ w' = w.setCell a (.int .i32 1) := by
  have hadd := run_call_add (P := Tryz.prog) Tryz.func363 (by kernel_rfl) (by kernel_rfl) (by kernel_rfl) .i32 (by kernel_rfl) (y := 1) (s := 1) hc hz (by simp [go_sem]; rfl)
  go_enter Tryz.func357, Tryz.ntmps357
  go_wp2
  go_ret
  exact ⟨rfl, rfl⟩

end Go.Proofs.YtmhmdoobadckkaaGreatDoor
namespace Go.Proofs.YtmhmdoobadckkaaGreatDoor
set_option maxRecDepth 20000
open Go.RowKit Go.OpenShut

theorem cell_set (W : World) (g j j' : Nat) (v : Value) (hex : (W.cell? ⟨g, j', none⟩).isSome = true) :
    (W.setCell ⟨g, j, none⟩ v).cell? ⟨g, j', none⟩ = if j = j' then some v else W.cell? ⟨g, j', none⟩ := by
  by_cases e : j = j'
  · subst e
    rw [if_pos rfl]
    obtain ⟨u, hu⟩ := Option.isSome_iff_exists.1 hex
    exact World.cell?_setCell_same W _ _ hu
  · rw [if_neg e]
    exact World.cell?_setCell_other W _ _ _ (fun h => e (Addr.mk.inj h).2.1)
/-- the table in the making: its first k powers and logarithms -/
structure TabK (W0 W : World) (g k : Nat) : Prop where
  ex : ∀ j, j < 770 → (W.cell? ⟨g, j, none⟩).isSome = true
  fr : ∀ j, j < 770 → W.frozen? ⟨g, j, none⟩ = false
  e1 : ∀ i, i < k → W.cell? ⟨g, 4 + i, none⟩ = some (.int .u8 (pw i : Nat))
  e2 : ∀ i, i < k → W.cell? ⟨g, 4 + (i + 255), none⟩ = some (.int .u8 (pw i : Nat))
  lo : ∀ i, i < k → W.cell? ⟨g, 514 + pw i, none⟩ = some (.int .i64 i)
  low : ∀ j, j < 4 → W.cell? ⟨g, j, none⟩ = W0.cell? ⟨g, j, none⟩
  bel : Below g W0 W
theorem TabK.drew {W0 W : World} {g k : Nat} (h : TabK W0 W g k) : TabK W0 W.drew g k := ⟨h.ex, h.fr, h.e1, h.e2, h.lo, h.low, h.bel.drew⟩
def step3 (W : World) (g k p : Nat) : World := ((W.setCell ⟨g, 4 + k, none⟩ (.int .u8 (p : Int))).setCell ⟨g, 4 + (k + 255), none⟩ (.int .u8 (p : Int))).setCell ⟨g, 514 + p, none⟩ (.int .i64 (k : Int))
theorem cell_step3 (W : World) (g k p j : Nat) (hex : ∀ j, j < 770 → (W.cell? ⟨g, j, none⟩).isSome = true) (hj : j < 770) :
    (step3 W g k p).cell? ⟨g, j, none⟩ = if 514 + p = j then some (.int .i64 (k : Int)) else if 4 + (k + 255) = j then some (.int .u8 (p : Int)) else if 4 + k = j then some (.int .u8 (p : Int)) else W.cell? ⟨g, j, none⟩ := by
  have h1 : ∀ j, j < 770 → ((W.setCell ⟨g, 4 + k, none⟩ (.int .u8 (p : Int))).cell? ⟨g, j, none⟩).isSome = true := fun j hj => by
    rw [cell_set _ _ _ _ _ (hex j hj)]
    split
    · rfl
    · exact hex j hj
  have h2 : ∀ j, j < 770 → (((W.setCell ⟨g, 4 + k, none⟩ (.int .u8 (p : Int))).setCell ⟨g, 4 + (k + 255), none⟩ (.int .u8 (p : Int))).cell? ⟨g, j, none⟩).isSome = true := fun j hj => by
    rw [cell_set _ _ _ _ _ (h1 j hj)]
    split
    · rfl
    · exact h1 j hj
  unfold step3
  rw [cell_set _ _ _ _ _ (h2 j hj), cell_set _ _ _ _ _ (h1 j hj), cell_set _ _ _ _ _ (hex j hj)]
theorem tab_step {W0 W : World} {g k : Nat} (h : TabK W0 W g k) (hk : k < 255) : TabK W0 (step3 W g k (pw k)) g (k + 1) := by
  have hp := pw_lt k
  have hc := fun j hj => cell_step3 W g k (pw k) j h.ex hj
  refine ⟨fun j hj => ?_, fun j hj => ?_, fun i hi => ?_, fun i hi => ?_, fun i hi => ?_, fun j hj => ?_, ?_⟩
  · rw [hc j hj]
    repeat' split
    all_goals first | rfl | exact h.ex j hj
  · unfold step3
    rw [World.frozen?_setCell, World.frozen?_setCell, World.frozen?_setCell]
    exact h.fr j hj
  · rw [hc _ (by omega), if_neg (by omega), if_neg (by omega)]
    by_cases e : i = k
    · subst e; rw [if_pos rfl]
    · rw [if_neg (by omega)]; exact h.e1 i (by omega)
  · rw [hc _ (by omega), if_neg (by omega)]
    by_cases e : i = k
    · subst e; rw [if_pos rfl]
    · rw [if_neg (by omega), if_neg (by omega)]; exact h.e2 i (by omega)
  · have hpi := pw_lt i
    rw [hc _ (by omega)]
    by_cases e : i = k
    · subst e; rw [if_pos rfl]
    · have hne : pw k ≠ pw i := fun h => e (pw_inj hk (by omega) h).symm
      rw [if_neg (by omega), if_neg (by omega), if_neg (by omega)]
      exact h.lo i (by omega)
  · rw [hc _ (by omega), if_neg (by omega), if_neg (by omega), if_neg (by omega)]
    exact h.low j hj
  · exact ((h.bel.setCell (by show g ≤ g; omega) _).setCell (by show g ≤ g; omega) _).setCell (by show g ≤ g; omega) _
theorem ofInt_i64n (a : Nat) (ha : a < 9223372036854775808) : (BitVec.ofInt 64 (a : Int)).toNat = a := ofInt_u64 a (by omega)
theorem i64_xor_nat (a b : Nat) (ha : a < 9223372036854775808) (hb : b < 9223372036854775808) : bits .xor .i64 (a : Int) (b : Int) = ((a ^^^ b : Nat) : Int) := by
  have hx : a ^^^ b < 2 ^ 63 := Nat.xor_lt_two_pow (by omega) (by omega)
  show IntKind.i64.wrap ((BitVec.ofInt 64 (a : Int) ^^^ BitVec.ofInt 64 (b : Int)).toNat : Int) = _
  rw [BitVec.toNat_xor, ofInt_i64n a ha, ofInt_i64n b hb, IntKind.wrap_i64]
  omega
theorem xor_285 {p : Nat} (h : ¬ p < 128) (hp : p < 256) : bits BinOp.xor IntKind.i64 ((p : Int) * 2) 285 = ((xt p : Nat) : Int) := by
  rw [xt_eq hp, show p / 128 = 1 by omega, show (p : Int) * 2 = ((2 * p : Nat) : Int) by omega]
  exact i64_xor_nat (2 * p) 285 (by omega) (by omega)

set_option maxHeartbeats 4000000 in
theorem make_any (g : Nat) (w : World) (hex : ∀ j, j < 770 → (w.cell? ⟨g, j, none⟩).isSome = true) (hfr : ∀ j, j < 770 → w.frozen? ⟨g, j, none⟩ = false) (h3 : w.cell? ⟨g, 3, none⟩ = some (.int .i32 0)) :
    Calls Tryz.prog 345 #[.pointer (some ⟨g, 0, none⟩)] w fun e w' => e = .returned (.tuple #[]) ∧ TabK (w.setCell ⟨g, 3, none⟩ (.int .i32 1)) w' g 255 := by
  go_enter Tryz.func345, Tryz.ntmps345
  go_wp2_with fail
  refine (add_made _ _ h3 (hfr 3 (by omega))).mono ?_
  rintro e w1 ⟨rfl, rfl⟩
  have ht0 : TabK (w.setCell ⟨g, 3, none⟩ (.int .i32 1)) (w.setCell ⟨g, 3, none⟩ (.int .i32 1)) g 0 :=
    ⟨fun j hj => by
      rw [cell_set _ _ _ _ _ (hex j hj)]
      split
      · rfl
      · exact hex j hj, fun j hj => by rw [World.frozen?_setCell]; exact hfr j hj, fun i hi => by omega, fun i hi => by omega, fun i hi => by omega, fun _ _ => rfl, Below.refl _ _⟩
  obtain ⟨W, hW⟩ : ∃ W, w.setCell ⟨g, 3, none⟩ (.int .i32 1) = W := ⟨_, rfl⟩
  rw [hW] at ht0 ⊢
  have HWW := Lib.hid hW
  clear hex hfr h3 hW
  go_wp2_with fail
  go_loopw [2, 8] (fun x i wr => ∃ k : Nat, k ≤ 255 ∧ i = .int .i64 k ∧ x = .int .i64 (pw k : Nat) ∧ TabK W wr g k) (fun _ i _ => 255 - (intOf i).toNat)
  case atStart => exact ⟨0, by omega, rfl, rfl, ht0⟩
  case round =>
    obtain ⟨k, hk, rfl, rfl, ht⟩ := hrel
    have HT := Lib.hid ht
    by_cases hlt : k < 255
    · have hps := pw_succ k
      have hp := pw_lt k
      have c1 := ht.ex (4 + k) (by omega)
      have c2 := ht.ex (4 + (k + 255)) (by omega)
      have c3 := ht.ex (514 + pw k) (by omega)
      have f1 := ht.fr (4 + k) (by omega)
      have f2 := ht.fr (4 + (k + 255)) (by omega)
      have f3 := ht.fr (514 + pw k) (by omega)
      have HS := Lib.hid (tab_step ht hlt)
      obtain ⟨v1, hv1⟩ := Option.isSome_iff_exists.1 c1
      obtain ⟨v2, hv2⟩ := Option.isSome_iff_exists.1 c2
      obtain ⟨v3, hv3⟩ := Option.isSome_iff_exists.1 c3
      generalize pw k = p at *
      have HP := Lib.hid hps
      clear ht ht0 c1 c2 c3 hps
      set_option maxRecDepth 100000 in
      go_wp2_with fail
      refine wp_region_nf (fun _ => True) (fun _ => false) [(0, true), (1, true), (2, true), (3, true), (4, true), (5, true), (6, true), (7, true), (8, true), (9, true), (10, true), (11, true), (13, true), (14, true), (12, false), (15, true), (16, false)] (by kernel_rfl) rfl (by kernel_rfl) (by kernel_rfl) (fun d _ _ _ _ h => by cases d <;> exact h) ?_
      repeat (refine nf_pure rfl trivial (fun w1 _ => by go_wp2; exact ⟨rfl, rfl, rfl⟩) rfl ?_ ?_; rfl)
      refine nf_imp rfl ?_
      go_wp2_with fail
      refine ⟨fun _ => trivial, ?_⟩
      repeat (refine nf_pure rfl trivial (fun w1 _ => by go_wp2; exact ⟨rfl, rfl, rfl⟩) rfl ?_ ?_; rfl)
      refine nf_imp rfl ?_
      go_wp2_with fail
      refine ⟨fun _ => trivial, ?_⟩
      refine nf_nil ?_
      by_cases h7 : p < 128
      · go_wp2_with fail
        go_roundw
        case rel =>
          refine ⟨k + 1, by omega, by go_num, ?_, ?_⟩
          · rw [HP.out, xt_small h7]
          · exact HS.out.drew
        case measure => simp [intOf]; omega
      · have h8 := xor_285 h7 hp
        go_wp2_with fail
        go_roundw
        case rel =>
          refine ⟨k + 1, by omega, by go_num, ?_, ?_⟩
          · rw [HP.out]
          · exact HS.out.drew
        case measure => simp [intOf]; omega
    · obtain rfl : k = 255 := by omega
      go_wp2_with fail
      go_end0
      exact ⟨rfl, by rw [HWW.out]; exact HT.out⟩
end Go.Proofs.YtmhmdoobadckkaaGreatDoor
namespace Go.Proofs.YtmhmdoobadckkaaGreatDoor
set_option maxRecDepth 20000
open Go.RowKit Go.OpenShut

/-- a table whole -/
structure Tab (W : World) (g : Nat) : Prop where
  e1 : ∀ i, i < 255 → W.cell? ⟨g, 4 + i, none⟩ = some (.int .u8 (pw i : Nat))
  e2 : ∀ i, i < 255 → W.cell? ⟨g, 4 + (i + 255), none⟩ = some (.int .u8 (pw i : Nat))
  lo : ∀ i, i < 255 → W.cell? ⟨g, 514 + pw i, none⟩ = some (.int .i64 i)
  made : W.cell? ⟨g, 3, none⟩ = some (.int .i32 1)
theorem Tab.below {W W' : World} {g : Nat} (h : Tab W g) (hb : Below W.heap.size W W') (hg : g < W.heap.size) : Tab W' g :=
  ⟨fun i hi => (hb.cell (p := ⟨g, _, none⟩) hg).trans (h.e1 i hi), fun i hi => (hb.cell (p := ⟨g, _, none⟩) hg).trans (h.e2 i hi), fun i hi => (hb.cell (p := ⟨g, _, none⟩) hg).trans (h.lo i hi), (hb.cell (p := ⟨g, _, none⟩) hg).trans h.made⟩

theorem bool_load (a : Addr) (w : World) (h0 : w.cell? a = some (.int .u32 0)) :
    Calls Tryz.prog 355 #[.pointer (some a)] w fun e w' => e = .returned (.bool false) ∧ w' = w := by
  have hl := run_call_load (P := Tryz.prog) Tryz.func359 (by kernel_rfl) (by kernel_rfl) (by kernel_rfl) .u32 (by kernel_rfl) h0
  go_enter Tryz.func355, Tryz.ntmps355
  go_wp2
  go_ret
  exact ⟨rfl, rfl⟩

set_option maxRecDepth 100000 in
set_option maxHeartbeats 1600000 in
theorem slow_any (g : Nat) (w : World) (hex : ∀ j, j < 770 → (w.cell? ⟨g, j, none⟩).isSome = true) (hfr : ∀ j, j < 770 → w.frozen? ⟨g, j, none⟩ = false)
    (h0 : w.cell? ⟨g, 0, none⟩ = some (.int .u32 0)) (h1 : w.cell? ⟨g, 1, none⟩ = some (.int .i32 0)) (h3 : w.cell? ⟨g, 3, none⟩ = some (.int .i32 0)) :
    Calls Tryz.prog 356 #[.pointer (some ⟨g, 0, none⟩), .func (.func 345) #[.pointer (some ⟨g, 0, none⟩)] #[]] w fun e w' => e = .returned (.tuple #[]) ∧
      ∃ W2, TabK ((w.setCell ⟨g, 1, none⟩ (.int .i32 1)).setCell ⟨g, 3, none⟩ (.int .i32 1)) W2 g 255 ∧ w' = (W2.drew.setCell ⟨g, 0, none⟩ (.int .u32 1)).setCell ⟨g, 1, none⟩ (.int .i32 0) := by
  have hex1 : ∀ j, j < 770 → ((w.setCell ⟨g, 1, none⟩ (.int .i32 1)).cell? ⟨g, j, none⟩).isSome = true := fun j hj => by
    rw [cell_set _ _ _ _ _ (hex j hj)]
    split
    · rfl
    · exact hex j hj
  have hfr1 : ∀ j, j < 770 → (w.setCell ⟨g, 1, none⟩ (.int .i32 1)).frozen? ⟨g, j, none⟩ = false := fun j hj => by rw [World.frozen?_setCell]; exact hfr j hj
  have h01 : (w.setCell ⟨g, 1, none⟩ (.int .i32 1)).cell? ⟨g, 0, none⟩ = some (.int .u32 0) := (World.cell?_setCell_other _ ⟨g, 1, none⟩ ⟨g, 0, none⟩ _ (by simp)).trans h0
  have h31 : (w.setCell ⟨g, 1, none⟩ (.int .i32 1)).cell? ⟨g, 3, none⟩ = some (.int .i32 0) := (World.cell?_setCell_other _ ⟨g, 1, none⟩ ⟨g, 3, none⟩ _ (by simp)).trans h3
  have hf1 := hfr 1 (by omega)
  have hnot : ∀ (x : Bool) (w : World), (Op.unary .not (.bool x)).run Tryz.prog w = .ok (.bool (!x)) w := fun _ _ => rfl
  have HE := Lib.hid hex1
  have HF := Lib.hid hfr1
  clear hex hex1 hfr hfr1
  go_enter_defers Tryz.func356, Tryz.ntmps356
  go_wp2_with fail
  refine (lock_free ⟨g, 1, none⟩ _ h1 hf1).mono ?_
  rintro e w' ⟨rfl, rfl⟩
  go_wp2_with fail
  refine (bool_load ⟨g, 0, none⟩ _ h01).mono ?_
  rintro e w' ⟨rfl, rfl⟩
  go_wp2_with fail
  refine (make_any g _ HE.out HF.out h31).mono ?_
  rintro e W2 ⟨rfl, hT⟩
  go_wp2_with fail
  have h2 := hT.low 0 (by omega)
  have h12 := hT.low 1 (by omega)
  rw [World.cell?_setCell_other _ ⟨g, 3, none⟩ ⟨g, 0, none⟩ _ (by simp), h01] at h2
  rw [World.cell?_setCell_other _ ⟨g, 3, none⟩ ⟨g, 1, none⟩ _ (by simp), World.cell?_setCell_same w _ _ h1] at h12
  refine leaves_cons (f := 362) (args := #[.pointer (some ⟨g, 0, none⟩), .bool true]) (by simp) (by simp [go_sem]) ?_
  refine (store_deferred ⟨g, 0, none⟩ (.int .u32 0) .returning _ h2 (hT.fr 0 (by omega))).mono ?_
  rintro e u' w'' ⟨rfl, rfl, rfl⟩
  refine leaves_cons (f := 361) (args := #[.pointer (some ⟨g, 1, none⟩)]) (by simp [settle]) (by simp [go_sem]) ?_
  refine (unlock_deferred ⟨g, 1, none⟩ _ _ ?_ ?_).mono ?_
  · exact (World.cell?_setCell_other _ ⟨g, 0, none⟩ ⟨g, 1, none⟩ _ (by simp)).trans h12
  · rw [World.frozen?_setCell]
    exact hT.fr 1 (by omega)
  rintro e u' w'' ⟨rfl, rfl, rfl⟩
  simp [Leaves, settle, results, Tryz.results356]
  exact ⟨W2, hT, rfl⟩

set_option maxRecDepth 100000 in
set_option maxHeartbeats 1600000 in
theorem do_any (g : Nat) (w : World) (hex : ∀ j, j < 770 → (w.cell? ⟨g, j, none⟩).isSome = true) (hfr : ∀ j, j < 770 → w.frozen? ⟨g, j, none⟩ = false)
    (h0 : w.cell? ⟨g, 0, none⟩ = some (.int .u32 0)) (h1 : w.cell? ⟨g, 1, none⟩ = some (.int .i32 0)) (h3 : w.cell? ⟨g, 3, none⟩ = some (.int .i32 0)) :
    Calls Tryz.prog 344 #[.pointer (some ⟨g, 0, none⟩), .func (.func 345) #[.pointer (some ⟨g, 0, none⟩)] #[]] w fun e w' => e = .returned (.tuple #[]) ∧
      ∃ W2, TabK ((w.setCell ⟨g, 1, none⟩ (.int .i32 1)).setCell ⟨g, 3, none⟩ (.int .i32 1)) W2 g 255 ∧ w' = (W2.drew.setCell ⟨g, 0, none⟩ (.int .u32 1)).setCell ⟨g, 1, none⟩ (.int .i32 0) := by
  have hnot : ∀ (x : Bool) (w : World), (Op.unary .not (.bool x)).run Tryz.prog w = .ok (.bool (!x)) w := fun _ _ => rfl
  go_enter Tryz.func344, Tryz.ntmps344
  go_wp2_with fail
  refine (bool_load ⟨g, 0, none⟩ _ h0).mono ?_
  rintro e w' ⟨rfl, rfl⟩
  go_wp2_with fail
  refine (slow_any g _ hex hfr h0 h1 h3).mono ?_
  rintro e w' ⟨rfl, W2, hT, rfl⟩
  clear hex hfr h0 h1 h3
  go_wp2_with fail
  go_end0
  exact ⟨rfl, W2, hT, rfl⟩

theorem tab_of {w W2 : World} {g : Nat} (h3 : (w.cell? ⟨g, 3, none⟩).isSome = true) (hT : TabK ((w.setCell ⟨g, 1, none⟩ (.int .i32 1)).setCell ⟨g, 3, none⟩ (.int .i32 1)) W2 g 255) :
    Tab ((W2.drew.setCell ⟨g, 0, none⟩ (.int .u32 1)).setCell ⟨g, 1, none⟩ (.int .i32 0)) g ∧ Below g w ((W2.drew.setCell ⟨g, 0, none⟩ (.int .u32 1)).setCell ⟨g, 1, none⟩ (.int .i32 0)) := by
  have hc : ∀ j, 2 ≤ j → ((W2.drew.setCell ⟨g, 0, none⟩ (.int .u32 1)).setCell ⟨g, 1, none⟩ (.int .i32 0)).cell? ⟨g, j, none⟩ = W2.cell? ⟨g, j, none⟩ := fun j hj =>
    (World.cell?_setCell_other _ ⟨g, 1, none⟩ ⟨g, j, none⟩ _ (fun h => by have := (Addr.mk.inj h).2.1; omega)).trans (World.cell?_setCell_other _ ⟨g, 0, none⟩ ⟨g, j, none⟩ _ (fun h => by have := (Addr.mk.inj h).2.1; omega))
  refine ⟨⟨fun i hi => (hc _ (by omega)).trans (hT.e1 i hi), fun i hi => (hc _ (by omega)).trans (hT.e2 i hi), fun i hi => (hc _ (by omega)).trans (hT.lo i hi), ?_⟩, ?_⟩
  · rw [hc 3 (by omega), hT.low 3 (by omega)]
    obtain ⟨v, hv⟩ := Option.isSome_iff_exists.1 h3
    exact World.cell?_setCell_same _ _ _ ((World.cell?_setCell_other _ ⟨g, 1, none⟩ ⟨g, 3, none⟩ _ (by simp)).trans hv)
  · exact ((((((Below.refl g w).setCell (by show g ≤ g; omega) _).setCell (by show g ≤ g; omega) _).trans hT.bel).drew).setCell (by show g ≤ g; omega) _).setCell (by show g ≤ g; omega) _

set_option maxRecDepth 100000 in
theorem ready_any (g : Nat) (w : World) (hex : ∀ j, j < 770 → (w.cell? ⟨g, j, none⟩).isSome = true) (hfr : ∀ j, j < 770 → w.frozen? ⟨g, j, none⟩ = false)
    (h0 : w.cell? ⟨g, 0, none⟩ = some (.int .u32 0)) (h1 : w.cell? ⟨g, 1, none⟩ = some (.int .i32 0)) (h3 : w.cell? ⟨g, 3, none⟩ = some (.int .i32 0)) :
    Calls Tryz.prog 316 #[.pointer (some ⟨g, 0, none⟩)] w fun e w' => e = .returned (.pointer (some ⟨g, 0, none⟩)) ∧ Tab w' g ∧ Below g w w' := by
  go_enter Tryz.func316, Tryz.ntmps316
  go_wp2_with fail
  refine (do_any g _ hex hfr h0 h1 h3).mono ?_
  rintro e w' ⟨rfl, W2, hT, rfl⟩
  obtain ⟨t1, t2⟩ := tab_of (by rw [h3]; rfl) hT
  clear hex hfr h0 h1 hT h3
  go_wp2_with fail
  go_ret
  exact ⟨rfl, t1, t2⟩

theorem zt_low : zt[0]? = some (.int .u32 0) ∧ zt[1]? = some (.int .i32 0) ∧ zt[3]? = some (.int .i32 0) := by
  refine ⟨?_, ?_, ?_⟩ <;> simp [zt]
set_option maxRecDepth 100000 in
/-- NEW TABLES -/
theorem fresh_any (w : World) :
    Calls Tryz.prog 251 #[] w fun e w' => e = .returned (.pointer (some ⟨w.heap.size, 0, none⟩)) ∧ Tab w' w.heap.size ∧ Below w.heap.size w w' ∧ w.heap.size < w'.heap.size := by
  have hz := run_zt
  have hk := Blk.new w 380 zt
  have hc : ∀ j, (w.alloc (.cells zt 380)).cell? ⟨w.heap.size, j, none⟩ = zt[j]? := fun j => hk.cell j
  have hb := (Below.refl w.heap.size w).alloc (Nat.le_refl _) (.cells zt 380)
  have hs : (w.alloc (.cells zt 380)).heap.size = w.heap.size + 1 := by simp
  have hex : ∀ j, j < 770 → ((w.alloc (.cells zt 380)).cell? ⟨w.heap.size, j, none⟩).isSome = true := fun j hj => by
    rw [hc j, Array.getElem?_eq_getElem (by rw [zt_size]; exact hj)]
    rfl
  have hfr : ∀ j, j < 770 → (w.alloc (.cells zt 380)).frozen? ⟨w.heap.size, j, none⟩ = false := fun j _ => hk.frozen j
  have h0 : (w.alloc (.cells zt 380)).cell? ⟨w.heap.size, 0, none⟩ = some (.int .u32 0) := (hc 0).trans zt_low.1
  have h1 : (w.alloc (.cells zt 380)).cell? ⟨w.heap.size, 1, none⟩ = some (.int .i32 0) := (hc 1).trans zt_low.2.1
  have h3 : (w.alloc (.cells zt 380)).cell? ⟨w.heap.size, 3, none⟩ = some (.int .i32 0) := (hc 3).trans zt_low.2.2
  clear hk hc
  have HX := Lib.hid hex
  have HF := Lib.hid hfr
  clear hex hfr
  go_enter Tryz.func251, Tryz.ntmps251
  go_wp2_with fail
  refine (ready_any _ _ HX.out HF.out h0 h1 h3).mono ?_
  rintro e w' ⟨rfl, t1, t2⟩
  have hsz := t2.size
  have hbb := hb.trans t2
  rw [hs] at hsz
  clear hz h0 h1 h3 t2 hb hs HX HF
  go_wp2_with fail
  go_ret
  exact ⟨rfl, t1, hbb, by omega⟩
end Go.Proofs.YtmhmdoobadckkaaGreatDoor
/- gf: powers. -/
namespace Go.Proofs.YtmhmdoobadckkaaGreatDoor
set_option maxRecDepth 20000
open Go.RowKit Go.OpenShut

theorem tmod255 (n : Int) : n.tmod 255 = n % 255 ∨ (n % 255 ≠ 0 ∧ n.tmod 255 = n % 255 - 255) := by
  by_cases h : 0 ≤ n
  · left
    exact Int.tmod_eq_emod_of_nonneg h
  · have h1 := Int.neg_tmod (-n) 255
    rw [Int.neg_neg, Int.tmod_eq_emod_of_nonneg (show 0 ≤ -n by omega)] at h1
    omega
theorem power_idx (n : Int) : (wrap64 (n.tmod 255 + 255)).tmod 255 = (((n % 255).toNat : Nat) : Int) := by
  have h1 := tmod255 n
  have h2 : wrap64 (n.tmod 255 + 255) = n.tmod 255 + 255 := by
    unfold wrap64
    omega
  rw [h2, Int.tmod_eq_emod_of_nonneg (by omega)]
  omega

set_option maxHeartbeats 1000000 in
theorem power_any (w : World) (g : Nat) (n : Int) (h : Tab w g) :
    Calls Tryz.prog 342 #[.pointer (some ⟨g, 0, none⟩), .int .i64 n] w fun e w' => e = .returned (.int .u8 (pw (n % 255).toNat : Nat)) ∧ w = w' := by
  have hi := power_idx n
  obtain ⟨k, hk, hk255⟩ : ∃ k : Nat, (n % 255).toNat = k ∧ k < 255 := ⟨_, rfl, by omega⟩
  rw [hk] at hi ⊢
  have hc := h.e1 k hk255
  clear hk
  go_enter Tryz.func342, Tryz.ntmps342
  go_wp2_with fail
  go_ret
  exact ⟨rfl, rfl⟩

theorem Tab.lg {w : World} {g : Nat} (h : Tab w g) {a : Nat} (ha : a < 256) (h0 : a ≠ 0) : w.cell? ⟨g, 514 + a, none⟩ = some (.int .i64 (lg a : Nat)) := by
  obtain ⟨h1, h2⟩ := pw_lg ha h0
  have h3 := h.lo (Go.Proofs.YtmhmdoobadckkaaGreatDoor.lg a) h1
  rw [h2] at h3
  exact h3
theorem Tab.drew {w : World} {g : Nat} (h : Tab w g) : Tab w.drew g := ⟨h.e1, h.e2, h.lo, h.made⟩

set_option maxHeartbeats 1000000 in
theorem exp_any (w : World) (n : Int) :
    Calls Tryz.prog 315 #[.int .i64 n] w fun e w' => e = .returned (.int .u8 (pw (n % 255).toNat : Nat)) ∧ Below w.heap.size w w' := by
  obtain ⟨k, hk⟩ : ∃ k : Nat, (n % 255).toNat = k := ⟨_, rfl⟩
  rw [hk]
  have HK := Lib.hid hk
  clear hk
  go_enter Tryz.func315, Tryz.ntmps315
  go_wp2_with fail
  refine (fresh_any w).mono ?_
  rintro e w1 ⟨rfl, ht, hb, hs⟩
  have HT := Lib.hid ht
  clear ht
  go_wp2_with fail
  refine (power_any _ _ _ HT.out).mono ?_
  rintro e w2 ⟨rfl, rfl⟩
  rw [HK.out]
  go_wp2_with fail
  go_ret
  exact ⟨rfl, hb⟩

end Go.Proofs.YtmhmdoobadckkaaGreatDoor
/- gf.Times. -/
namespace Go.Proofs.YtmhmdoobadckkaaGreatDoor
set_option maxRecDepth 20000
open Go.RowKit Go.OpenShut

theorem Tab.ex {w : World} {g : Nat} (h : Tab w g) (i : Nat) (hi : i < 510) : w.cell? ⟨g, 4 + i, none⟩ = some (.int .u8 (pw i : Nat)) := by
  by_cases h1 : i < 255
  · exact h.e1 i h1
  · obtain ⟨j, rfl⟩ : ∃ j, i = j + 255 := ⟨i - 255, by omega⟩
    rw [pw_add255]
    exact h.e2 j (by omega)

set_option maxRecDepth 100000 in
set_option maxHeartbeats 1000000 in
theorem tmul_ok (w : World) (g a b : Nat) (ht : Tab w g) (ha : a < 256) (hb : b < 256) (h0 : a ≠ 0) (h1 : b ≠ 0) :
    Calls Tryz.prog 252 #[.pointer (some ⟨g, 0, none⟩), .int .u8 a, .int .u8 b] w fun e w' => e = .returned (.int .u8 (gm a b : Nat)) ∧ Below w.heap.size w w' := by
  have ca := ht.lg ha h0
  have cb := ht.lg hb h1
  obtain ⟨ga, ea⟩ := pw_lg ha h0
  obtain ⟨gb, eb⟩ := pw_lg hb h1
  have ce := ht.ex (lg a + lg b) (by omega)
  have hgm : pw (lg a + lg b) = gm a b := by rw [← gm_pp, ea, eb]
  rw [hgm] at ce
  have ha0 : ((a : Int) == 0) = false := beq_eq_false_iff_ne.2 (by omega)
  have hb0 : ((b : Int) == 0) = false := beq_eq_false_iff_ne.2 (by omega)
  generalize gm a b = P at *
  generalize lg a = x at *
  generalize lg b = y at *
  clear ea eb hgm h0 h1 ht
  go_enter Tryz.func252, Tryz.ntmps252
  go_wp2_with fail
  refine wp_region_nf (fun V => V.cell? ⟨g, 514 + a, none⟩ = some (.int .i64 (x : Int)) ∧ V.cell? ⟨g, 514 + b, none⟩ = some (.int .i64 (y : Int)) ∧ V.cell? ⟨g, 4 + (x + y), none⟩ = some (.int .u8 (P : Int))) (fun _ => false) [(0, true), (1, true), (2, true), (3, true), (4, true), (5, true), (6, true), (7, true), (8, true), (9, true), (10, true), (11, true), (12, true), (13, true), (14, true), (15, true), (16, true), (17, true), (18, true)] (by kernel_rfl) rfl (by kernel_rfl) (by kernel_rfl) (fun d _ _ _ _ h => by cases d <;> exact h) ?_
  have hS : w.drew.cell? ⟨g, 514 + a, none⟩ = some (.int .i64 (x : Int)) ∧ w.drew.cell? ⟨g, 514 + b, none⟩ = some (.int .i64 (y : Int)) ∧ w.drew.cell? ⟨g, 4 + (x + y), none⟩ = some (.int .u8 (P : Int)) := ⟨ca, cb, ce⟩
  repeat (refine nf_pure rfl hS (fun w1 hS => by obtain ⟨g1, g2, g3⟩ := hS; go_wp2; exact ⟨rfl, rfl, rfl⟩) rfl ?_ ?_; rfl)
  refine nf_nil ?_
  go_wp2_with fail
  go_ret
  exact ⟨rfl, (Below.refl _ _).drew⟩
theorem tmul_any (w : World) (g a b : Nat) (ht : Tab w g) (ha : a < 256) (hb : b < 256) :
    Calls Tryz.prog 252 #[.pointer (some ⟨g, 0, none⟩), .int .u8 a, .int .u8 b] w fun e w' => e = .returned (.int .u8 (gm a b : Nat)) ∧ Below w.heap.size w w' := by
  by_cases h0 : a = 0
  · subst h0
    rw [gm_zero_left]
    clear ht
    go_enter Tryz.func252, Tryz.ntmps252
    go_wp2_with fail
    go_ret
    exact ⟨rfl, Below.refl _ _⟩
  · by_cases h1 : b = 0
    · subst h1
      rw [gm_zero_right]
      have ha0 : ((a : Int) == 0) = false := beq_eq_false_iff_ne.2 (by omega)
      clear ht
      go_enter Tryz.func252, Tryz.ntmps252
      go_wp2_with fail
      go_ret
      exact ⟨rfl, Below.refl _ _⟩
    · exact tmul_ok w g a b ht ha hb h0 h1

def mulL (l : List UInt8) (b : Nat) : List UInt8 := l.map fun c => UInt8.ofNat (gm c.toNat b)
def mulK (l : List UInt8) (b k : Nat) : List UInt8 := mulL (l.take k) b ++ List.replicate (l.length - k) 0
theorem mulK_len (l : List UInt8) (b k : Nat) (h : k ≤ l.length) : (mulK l b k).length = l.length := by
  simp [mulK, mulL]
  omega
theorem mulK_zero (l : List UInt8) (b : Nat) : mulK l b 0 = List.replicate l.length 0 := by simp [mulK, mulL]
theorem mulK_all (l : List UInt8) (b : Nat) : mulK l b l.length = mulL l b := by simp [mulK]
theorem mulK_set (l : List UInt8) (b k : Nat) (h : k < l.length) : (mulK l b k).set k (UInt8.ofNat (gm l[k].toNat b)) = mulK l b (k + 1) := by
  unfold mulK mulL
  have h1 : l.length - k = (l.length - (k + 1)) + 1 := by omega
  rw [h1, List.replicate_succ, List.take_succ_eq_append_getElem h, List.map_append, List.set_append_right _ _ (by simp; omega)]
  have h2 : k - (List.map (fun c => UInt8.ofNat (gm c.toNat b)) (l.take k)).length = 0 := by simp; omega
  rw [h2]
  simp

theorem mulK_all' (s : ByteArray) (b : Nat) : (mulK s.data.toList b s.size).length = s.size := by
  rw [mulK_len _ _ _ (by simp)]
  simp
theorem BRow.below {w w' : World} {g : Nat} {l : List UInt8} (h : BRow w g l) (hb : Below w.heap.size w w') (hg : g < w.heap.size) : BRow w' g l :=
  ⟨fun i hi => (hb.cell (p := ⟨g, i, none⟩) hg).trans (h.1 i hi), fun i hi => (hb.frozen (p := ⟨g, i, none⟩) hg).trans (h.2 i hi)⟩
set_option maxRecDepth 100000 in
set_option maxHeartbeats 2000000 in
theorem times_any (w : World) (s : ByteArray) (b : Nat) (hs : s.size ≤ 4294967295) (hb : b < 256) :
    Calls Tryz.prog 172 #[.string s, .int .u8 b] w fun e w' => e = .returned (.string ⟨(mulL s.data.toList b).toArray⟩) ∧ Below w.heap.size w w' := by
  have hmk := run_makeB s.size (by omega)
  have hls : s.data.toList.length = s.size := by simp
  obtain ⟨X, hX⟩ : ∃ X, mulL s.data.toList b = X := ⟨_, rfl⟩
  rw [hX]
  have hXk := mulK_all s.data.toList b
  rw [hX, hls] at hXk
  have HX := Lib.hid hXk
  clear hX hXk
  obtain ⟨z, hz⟩ : ∃ z, List.replicate s.size (0 : UInt8) = z := ⟨_, rfl⟩
  have hz0 := mulK_zero s.data.toList b
  rw [hls, hz] at hz0
  rw [hz] at hmk
  have HZ := Lib.hid hz0
  clear hz hz0
  go_enter Tryz.func172, Tryz.ntmps172
  go_wp2_with fail
  refine (fresh_any w).mono ?_
  rintro e w1 ⟨rfl, ht, hbe, hsz⟩
  go_wp2_with fail
  have hblk := Blk.new w1 5 (bcs z).toArray
  have hb1 := hbe.alloc hbe.size (.cells (bcs z).toArray 5)
  have ht1 := ht.below ((Below.refl _ w1).alloc (Nat.le_refl _) (.cells (bcs z).toArray 5)) hsz
  have hs1 : (w1.alloc (.cells (bcs z).toArray 5)).heap.size = w1.heap.size + 1 := by simp
  have hrow : BRow (w1.alloc (.cells (bcs z).toArray 5)) w1.heap.size z := ⟨fun i hi => hblk.bcell i hi, fun i _ => hblk.frozen i⟩
  generalize w1.alloc (.cells (bcs z).toArray 5) = W at *
  generalize w1.heap.size = B at *
  clear hmk ht hbe hblk
  go_loopw [15] (fun i wr => ∃ k : Nat, k ≤ s.size ∧ i = .int .i64 k ∧ BRow wr B (mulK s.data.toList b k) ∧ Tab wr w.heap.size ∧ Below w.heap.size w wr ∧ B < wr.heap.size) (fun i _ => s.size - (intOf i).toNat)
  case atStart => exact ⟨0, by omega, rfl, by rw [HZ.out]; exact hrow, ht1, hb1, by omega⟩
  case round =>
    obtain ⟨k, hk, rfl, hr, ht, hbe, hBs⟩ := hrel
    clear hrow ht1 hb1
    by_cases hlk : k < s.size
    · have hlen := mulK_len s.data.toList b k (by omega)
      have hset := mulK_set s.data.toList b k (by omega)
      have hgl : s.data.toList[k] = s[k] := rfl
      rw [hgl] at hset
      obtain ⟨x, hx⟩ : ∃ x : Nat, (s[k].toNat : Int) = (x : Int) := ⟨_, rfl⟩
      have hx' : s[k].toNat = x := by omega
      have hxl : x < 256 := by rw [← hx']; exact s[k].toNat_lt
      rw [hx'] at hset
      have HSET := Lib.hid hset
      have HT := Lib.hid ht
      have HR := Lib.hid hr
      have HL := Lib.hid hlen
      clear hr ht hset hlen hgl hx'
      go_wp2_with fail
      refine (tmul_any _ _ x b HT.out hxl hb).mono ?_
      rintro e w2 ⟨rfl, hb2⟩
      have hr2 := HR.out.below hb2 hBs
      have ht2 := HT.out.below hb2 (Nat.lt_of_le_of_lt (Nat.le_of_lt hsz) hBs)
      have hbe2 := hbe.trans (hb2.mono hbe.size)
      have hBs2 := Nat.lt_of_lt_of_le hBs hb2.size
      have hc := hr2.1 k (by rw [HL.out]; omega)
      have hf := hr2.2 k (by rw [HL.out]; omega)
      have hgm := gm_lt (b := b) hxl
      have hst := hr2.set_ k (by rw [HL.out]; omega) (UInt8.ofNat (gm x b))
      rw [HSET.out] at hst
      have hbc : bc (UInt8.ofNat (gm x b)) = .int .u8 ((gm x b : Nat) : Int) := by
        unfold bc
        rw [UInt8.toNat_ofNat_of_lt' hgm]
      rw [hbc] at hst
      have htt : Tab (w2.setCell ⟨B, k, none⟩ (.int .u8 ((gm x b : Nat) : Int))) w.heap.size := by
        have hne : ∀ j, (⟨B, k, none⟩ : Addr) ≠ ⟨w.heap.size, j, none⟩ := fun j h => by have := (Addr.mk.inj h).1; omega
        exact ⟨fun i hi => (World.cell?_setCell_other _ _ _ _ (hne _)).trans (ht2.e1 i hi), fun i hi => (World.cell?_setCell_other _ _ _ _ (hne _)).trans (ht2.e2 i hi), fun i hi => (World.cell?_setCell_other _ _ _ _ (hne _)).trans (ht2.lo i hi), (World.cell?_setCell_other _ _ _ _ (hne _)).trans ht2.made⟩
      have HST := Lib.hid hst
      have HTT := Lib.hid htt
      generalize gm x b = P at *
      clear hst htt hr2 ht2 hbe hb2
      go_wp2_with fail
      go_roundw
      case rel => exact ⟨k + 1, by omega, by go_num, HST.out, HTT.out, hbe2.setCell (by show w.heap.size ≤ B; omega) _, by simp [World.setCell]; omega⟩
      case measure => simp [intOf]; omega
    · obtain rfl : k = s.size := by omega
      have hxk := HX.out
      rw [hxk] at hr
      have hXl : X.length = s.size := by rw [← hxk, mulK_all' s b]
      have hcv := fun c => hr.conv (n := s.size) (c := c) hXl
      clear hr ht
      go_wp2_with fail
      go_ret
      exact ⟨rfl, hbe⟩
end Go.Proofs.YtmhmdoobadckkaaGreatDoor
/- A range over a function that may never end by itself: the rounds are bounded by the caller's own invariant. After the kit's law for a range over a function (RangeFuncNested), whose iterators end by themselves. -/
namespace Go.Proofs.YtmhmdoobadckkaaGreatDoor
set_option maxRecDepth 20000
open Go.RowKit

/-- the iterator's contract, where the invariant itself says that there are fewer than N rounds -/
def SeqB {α : Type} (P : Program) (g : Nat) (lb : Array Value) (encs : α → Array Value) (n₀ : Nat) (S Sp : List α → Prop) (N : Nat) (w : World) : Prop :=
  ∀ (l : Nat) (J Jx : List α → World → Prop) (W : World), Below w.heap.size w W → AbidesFrom W.heap.size J → AbidesFrom W.heap.size Jx → (∀ pre V, J pre V → pre.length < N) →
    (∀ pre x W1, J pre W1 → YieldAt Fence.wide 3 P l (encs x) W1 fun e W' =>
      (e = .returned (.bool true) ∧ J (pre ++ [x]) W' ∧ Below n₀ W1 W') ∨ (e = .returned (.bool false) ∧ Jx (pre ++ [x]) W')) →
    J [] W →
    CallsIn Fence.wide 4 P g (#[.func (.yield l) #[] #[]] ++ lb) W fun e W' => (∃ v, e = .returned v) ∧ ((∃ xs, S xs ∧ J xs W') ∨ (∃ pre, Sp pre ∧ Jx pre W'))

theorem wp_rangeBE {P : Program} {α : Type} {g : Operand} {ps : Array Tmp} {assign body : Code} {Q : Exit → Act → World → Prop} {a : Act} {w : World} (n₀ : Nat) (hn₀ : n₀ ≤ w.heap.size)
    {gf : Nat} {lb : Array Value} (hg : a.eval g = .func (.func gf) #[] lb) (eg : ∀ args w, (callFunc gf args).run P w = .ok (.enter gf args) w)
    {encs : α → Array Value} {S Sp : List α → Prop} {N : Nat} (hseq : SeqB P gf lb encs n₀ S Sp N w) (hps : ∀ x, (encs x).size = ps.size)
    (I : List α → World → Prop) (Ix : Code → List α → World → Prop) (hI : OwnFrom w.heap.size I) (hIx : ∀ c, OwnFrom w.heap.size (Ix c)) (hN : ∀ pre V, I pre V → pre.length < N) (h0 : I [] w)
    (hround : ∃ a₁ : α → Act, (∀ (l : Nat) (x : α) (W : World) (K : Act → World → Prop), K (a₁ x) W →
        assign.wpIn (Fence.wide.inRound l) 3 P (Exit.then K (fun _ _ _ => False)) { tmps := (ps.zip (encs x)).foldl (fun t (p, v) => t.setIfInBounds p v) a.tmps, defers := [] } W) ∧
      (∀ (l : Nat) (pre : List α) (x : α) (W : World), I pre W → body.wpIn (Fence.wide.inRound l) 3 P (ownPostG w.heap.size (Below n₀) I Ix (pre ++ [x]) W) (a₁ x) W))
    (hdone : ∀ (D : Nat) (xs : List α) (W : World), w.heap.size ≤ D → S xs → I xs W → W.heap[D]? = some (.deferred (some [])) → Q .normal { a with defers := { target := .collected D, args := #[] } :: a.defers } W)
    (hstop : ∀ (D : Nat) (c : Code) (pre : List α) (W : World), w.heap.size ≤ D → Sp pre → Ix c pre W → W.heap[D]? = some (.deferred (some [])) → c.wp P Q { a with defers := { target := .collected D, args := #[] } :: a.defers } W) :
    (Code.rangeFunc g ps assign body).wp P Q a w := by
  obtain ⟨a₁, hassign, hbody⟩ := hround
  have hKb := belowK_b hn₀
  refine (wpIn_wide (n := 5)).1 (wpIn_rangeFunc ?_)
  intro fn hfn
  obtain ⟨rec, hrec⟩ : ∃ rec : LoopState → Option Code → Loop, rec = fun st pe => { state := st, pending := pe, fn, tmps := a.tmps, params := ps, assign, body, defers := w.heap.size } := ⟨_, rfl⟩
  obtain ⟨W1, hW1⟩ : ∃ W1, (w.alloc (.deferred (some []))).alloc (.loop (rec .ready none)) = W1 := ⟨_, rfl⟩
  have hs1 : W1.heap.size = w.heap.size + 2 := by rw [← hW1]; simp
  have hL1 : W1.heap[w.heap.size + 1]? = some (.loop (rec .ready none)) := by
    have := World.alloc_heap_new (w.alloc (.deferred (some []))) (.loop (rec .ready none))
    rw [hW1, World.size_alloc] at this
    exact this
  have hK1 : W1.heap[w.heap.size]? = some (.deferred (some [])) := by
    rw [← hW1]; exact (Below.heap_alloc _ _ _ (by simp)).trans (World.alloc_heap_new w _)
  have hb1 : Below w.heap.size w W1 := by
    rw [← hW1]; exact ((Below.refl _ w).alloc (Nat.le_refl _) _).alloc (by simp) _
  refine ⟨w.heap.size + 1, [{ target := .collected w.heap.size, args := #[] }], W1, { target := .fn (.func gf) lb, args := #[.func (.yield (w.heap.size + 1)) #[] #[]] }, W1, gf,
    #[.func (.yield (w.heap.size + 1)) #[] #[]] ++ lb, W1, ?_, ?_, fun _ _ => trivial, ?_, fun _ => by omega, ?_⟩
  · rw [← hW1, hrec]; exact run_enterLoop_outer _ _ _ _ _
  · simp only [resolve, hg]
    simp [go_sem]
  · simp [invoke, go_sem, eg]
  · refine (hseq (w.heap.size + 1)
      (fun pre W => I pre W ∧ W.heap[w.heap.size + 1]? = some (.loop (rec .ready none)) ∧ W.heap[w.heap.size]? = some (.deferred (some [])))
      (fun pre W => ∃ c, Ix c pre W ∧ W.heap[w.heap.size + 1]? = some (.loop (rec .done (some c))) ∧ W.heap[w.heap.size]? = some (.deferred (some [])))
      W1 hb1 ?_ ?_ (fun pre V h => hN pre V h.1) ?_ ⟨by rw [← hW1]; exact hI.alloc _ (hI.alloc _ h0), hL1, hK1⟩).mono ?_
    · intro s A B row hs hg' hr
      have hr2 : ∀ r, row = some r → w.heap.size ≤ r ∧ ∃ o : Obj, A.heap[r]? = some o ∧ o.isCells = false := fun r e => by
        obtain ⟨hB, o, ho, hw⟩ := hr r e
        exact ⟨by omega, o, ho, Obj.not_cells_of_walk hw⟩
      exact ⟨hI s A B row hs.1 hg' hr2, (grownBy_keeps hg' (fun r e => (hr r e).2) hs.2.1 rfl).trans hs.2.1, (grownBy_keeps hg' (fun r e => (hr r e).2) hs.2.2 rfl).trans hs.2.2⟩
    · rintro s A B row ⟨c, hc, hl, hk⟩ hg' hr
      have hr2 : ∀ r, row = some r → w.heap.size ≤ r ∧ ∃ o : Obj, A.heap[r]? = some o ∧ o.isCells = false := fun r e => by
        obtain ⟨hB, o, ho, hw⟩ := hr r e
        exact ⟨by omega, o, ho, Obj.not_cells_of_walk hw⟩
      exact ⟨c, hIx c s A B row hc hg' hr2, (grownBy_keeps hg' (fun r e => (hr r e).2) hl rfl).trans hl, (grownBy_keeps hg' (fun r e => (hr r e).2) hk rfl).trans hk⟩
    · rintro pre x W ⟨hi, hl, hk⟩
      have hlt : w.heap.size + 1 < W.heap.size := (Array.getElem?_eq_some_iff.1 hl).1
      have hy := run_yield (P := P) (args := encs x) hl (by rw [hrec]; exact hps x)
      rw [hrec] at hy
      refine ⟨fn, _, assign, body, hy, roundIn_of_wpIn hfn (hassign _ x W _ ⟨_, run_beginRound hl (by rw [hrec]), ?_⟩)⟩
      clear hy
      have hl2 : (W.putObj (w.heap.size + 1) (.loop { rec .ready none with state := .busy })).heap[w.heap.size + 1]? = some (.loop { rec .ready none with state := .busy }) := World.putObj_heap_same hlt
      have hk2 : (W.putObj (w.heap.size + 1) (.loop { rec .ready none with state := .busy })).heap[w.heap.size]? = some (.deferred (some [])) := (World.putObj_heap_other (by omega)).trans hk
      have hw2 : Below n₀ W (W.putObj (w.heap.size + 1) (.loop { rec .ready none with state := .busy })) := hKb _ _ _ _ (by omega) hl rfl rfl
      refine wpIn_mono (hbody _ pre x _ (hI.putObj _ hi (by omega) hl rfl)) ?_
      have fin : ∀ (jump : Option Code) (W3 : World), KeepsFrom w.heap.size (W.putObj (w.heap.size + 1) (.loop { rec .ready none with state := .busy })) W3 →
          (Instr.endRound (w.heap.size + 1) jump).run P W3 = .ok (.bool jump.isNone) (W3.putObj (w.heap.size + 1) (.loop (rec (if jump.isNone then .ready else .done) jump))) ∧
          W3.heap[w.heap.size + 1]? = some (.loop { rec .ready none with state := .busy }) ∧
          (W3.putObj (w.heap.size + 1) (.loop (rec (if jump.isNone then .ready else .done) jump))).heap[w.heap.size + 1]? = some (.loop (rec (if jump.isNone then .ready else .done) jump)) ∧
          (W3.putObj (w.heap.size + 1) (.loop (rec (if jump.isNone then .ready else .done) jump))).heap[w.heap.size]? = some (.deferred (some [])) := fun jump W3 hk3 => by
        have hl3 := hk3.same _ _ (by omega) hl2 rfl
        have := run_endRound (P := P) jump hl3
        rw [hrec] at this ⊢
        exact ⟨this, by rw [hrec] at hl3; exact hl3, World.putObj_heap_same (Array.getElem?_eq_some_iff.1 hl3).1, (World.putObj_heap_other (by omega)).trans (hk3.same _ _ (Nat.le_refl _) hk2 rfl)⟩
      have out : ∀ (c : Code) (W3 : World), KeepsFrom w.heap.size (W.putObj (w.heap.size + 1) (.loop { rec .ready none with state := .busy })) W3 → Ix c (pre ++ [x]) W3 →
          ∃ c', Ix c' (pre ++ [x]) (W3.putObj (w.heap.size + 1) (.loop (rec .done (some c)))) ∧ (W3.putObj (w.heap.size + 1) (.loop (rec .done (some c)))).heap[w.heap.size + 1]? = some (.loop (rec .done (some c'))) ∧ (W3.putObj (w.heap.size + 1) (.loop (rec .done (some c)))).heap[w.heap.size]? = some (.deferred (some [])) := fun c W3 hk3 hi3 => by
        obtain ⟨_, hl3, hl4, hk4⟩ := fin (some c) W3 hk3
        exact ⟨c, (hIx _).putObj _ hi3 (by omega) hl3 rfl, hl4, hk4⟩
      rintro e a3 W3 hp
      cases e with
      | normal =>
        obtain ⟨hk3, hkp3, hi3⟩ := hp
        obtain ⟨hr, hl3, hl4, hk4⟩ := fin none W3 hk3
        exact ⟨_, _, hr, .inl ⟨rfl, ⟨hI.putObj _ hi3 (by omega) hl3 rfl, hl4, hk4⟩, (hw2.trans hkp3).trans (hKb _ _ _ _ (by omega) hl3 rfl rfl)⟩⟩
      | ret => exact ⟨_, _, (fin (some .ret) W3 hp.1).1, .inr ⟨rfl, out .ret W3 hp.1 hp.2⟩⟩
      | exit id => exact ⟨_, _, (fin (some (.exit id)) W3 hp.1).1, .inr ⟨rfl, out (.exit id) W3 hp.1 hp.2⟩⟩
      | goto t => exact ⟨_, _, (fin (some (.goto t)) W3 hp.1).1, .inr ⟨rfl, out (.goto t) W3 hp.1 hp.2⟩⟩
      | panic ch => exact hp.elim
      | outgrown => exact hp.elim
    · rintro e W2 ⟨⟨v, rfl⟩, (⟨xs, hS, hi, hl, hk⟩ | ⟨pre, hSp, c, hi, hl, hk⟩)⟩
      · exact ⟨none, _, by have := run_endLoop (P := P) hl (by rw [hrec]; simp); rw [hrec] at this; exact this, hdone _ xs _ (Nat.le_refl _) hS (hI.putObj _ hi (by omega) hl rfl) ((World.putObj_heap_other (by omega)).trans hk)⟩
      · exact ⟨some c, _, by have := run_endLoop (P := P) hl (by rw [hrec]; simp); rw [hrec] at this; exact this, wpIn_wide.2 (hstop _ c pre _ (Nat.le_refl _) hSp ((hIx c).putObj _ hi (by omega) hl rfl) ((World.putObj_heap_other (by omega)).trans hk))⟩
end Go.Proofs.YtmhmdoobadckkaaGreatDoor
/- syndrome.Q. -/
namespace Go.Proofs.YtmhmdoobadckkaaGreatDoor
set_option maxRecDepth 20000
open Go.RowKit Go.OpenShut
attribute [local go_sem] Oper.semAt_some

theorem xorL_nil (l : List UInt8) : xorL [] l = l := by
  unfold xorL
  apply List.ext_getElem
  · simp
  · intro i h1 h2
    simp [List.getD, h2]
def qZ (xs : List ByteArray) (pre : List Nat) : List UInt8 := (xs.zip pre).foldl (fun s p => xorL s (mulL p.1.data.toList (pw p.2))) []
def qL (xs : List ByteArray) : List UInt8 := qZ xs (List.range xs.length)
theorem zip_snoc' {α β : Type} (ps : List α) (x : β) (bs : List β) (h : bs.length < ps.length) : ps.zip (bs ++ [x]) = ps.zip bs ++ [(ps[bs.length], x)] := by
  induction bs generalizing ps with
  | nil =>
    cases ps with
    | nil => simp at h
    | cons a l => simp
  | cons b bs ih =>
    cases ps with
    | nil => simp at h
    | cons a l =>
      simp only [List.cons_append, List.zip_cons_cons, List.length_cons, List.getElem_cons_succ]
      rw [ih l (by simpa using h)]
theorem qZ_snoc (xs : List ByteArray) (pre : List Nat) (x : Nat) (h : pre.length < xs.length) : qZ xs (pre ++ [x]) = xorL (qZ xs pre) (mulL (xs.getD pre.length ⟨#[]⟩).data.toList (pw x)) := by
  unfold qZ
  rw [zip_snoc' _ _ _ h, List.foldl_append]
  simp [List.getD, h]
theorem qZ_full (xs : List ByteArray) (pre : List Nat) (x : Nat) (h : pre.length = xs.length) : qZ xs (pre ++ [x]) = qZ xs pre := by
  unfold qZ
  congr 1
  induction pre generalizing xs with
  | nil =>
    have : xs = [] := List.eq_nil_of_length_eq_zero h.symm
    subst this
    rfl
  | cons b pre ih =>
    cases xs with
    | nil => simp at h
    | cons a l =>
      simp only [List.cons_append, List.zip_cons_cons]
      rw [ih l (by simpa using h)]
theorem mulL_len (l : List UInt8) (b : Nat) : (mulL l b).length = l.length := by simp [mulL]
theorem qZ_len (M : Nat) : ∀ (xs : List ByteArray) (pre : List Nat), (∀ x ∈ xs, x.size ≤ M) → (qZ xs pre).length ≤ M := by
  intro xs pre
  unfold qZ
  suffices h : ∀ (l : List (ByteArray × Nat)) (acc : List UInt8), acc.length ≤ M → (∀ p ∈ l, p.1.size ≤ M) → (l.foldl (fun s p => xorL s (mulL p.1.data.toList (pw p.2))) acc).length ≤ M from fun hx => h _ [] (by simp) (fun p hp => hx p.1 (List.of_mem_zip hp).1)
  intro l
  induction l with
  | nil => intro acc h _; exact h
  | cons a l ih =>
    intro acc h hx
    refine ih _ ?_ (fun x hm => hx x (by simp [hm]))
    rw [xorL_length, mulL_len]
    have h1 := hx a (by simp)
    have h2 : a.1.data.toList.length = a.1.size := by simp
    omega

theorem powers_any (w : World) :
    Calls Tryz.prog 171 #[] w fun e w' => e = .returned (.func (.func 250) #[] #[]) ∧ w = w' := by
  go_enter Tryz.func171, Tryz.ntmps171
  go_wp2
  go_ret
  exact ⟨rfl, rfl⟩
def pwEnc (k : Nat) : Array Value := #[.int .u8 (pw k : Nat)]

set_option maxRecDepth 100000 in
set_option maxHeartbeats 2000000 in
theorem powers1_in (l n₀ N : Nat) (hN : N ≤ 250) (J Jx : List Nat → World → Prop) (W : World) (hJN : ∀ pre V, J pre V → pre.length < N)
    (hY : ∀ pre x W, J pre W → YieldAt Fence.wide 3 Tryz.prog l (pwEnc x) W fun e W' =>
      (e = .returned (.bool true) ∧ J (pre ++ [x]) W' ∧ Below n₀ W W') ∨ (e = .returned (.bool false) ∧ Jx (pre ++ [x]) W'))
    (h0 : J [] W) :
    CallsIn Fence.wide 4 Tryz.prog 250 #[.func (.yield l) #[] #[]] W fun e W' => (∃ v, e = .returned v) ∧
      ((∃ ys : List Nat, False ∧ J ys W') ∨ (∃ pre : List Nat, pre = List.range pre.length ∧ Jx pre W')) := by
  refine callsIn_of_wp Tryz.func250 rfl trivial ?_ rfl
  simp only [Tryz.ntmps250, List.size_toArray, List.length_cons, List.length_nil, Nat.reduceAdd, Nat.reduceSub, Array.replicate_succ, Array.replicate_zero, List.push_toArray, List.append_toArray, List.nil_append, List.cons_append]
  gi_wp2
  gi_loopw [2] (fun x wr => ∃ k : Nat, k < N ∧ x = .int .u8 (pw k : Nat) ∧ J (List.range k) wr) (fun x _ => N - lg (intOf x).toNat)
  case atStart => exact ⟨0, hJN _ _ h0, rfl, h0⟩
  case round =>
    obtain ⟨k, hk, rfl, hJ⟩ := hrel
    obtain ⟨fn, tmps, assign, body, hy, hR⟩ := hY (List.range k) k wr hJ
    dsimp only [pwEnc] at hy
    have hp := pw_lt k
    have hsucc : gm (pw k) 2 = pw (k + 1) := by
      rw [show (2 : Nat) = pw 1 from rfl, gm_pp]
    have hl1 : lg (pw k) = k := lg_pw (by omega)
    have hl2 : lg (pw (k + 1)) = k + 1 := lg_pw (by omega)
    obtain ⟨q, hq⟩ : ∃ q, pw (k + 1) = q := ⟨_, rfl⟩
    have HQ := Lib.hid hq
    rw [hq] at hsucc hl2
    clear hq
    generalize pw k = p at *
    have HS := Lib.hid hsucc
    have HL1 := Lib.hid hl1
    have HL2 := Lib.hid hl2
    clear hsucc hl1 hl2
    gi_wp2
    refine hR.mono ?_
    rintro e W3 (⟨rfl, hJ3, hk3⟩ | ⟨rfl, hJx3⟩)
    · have hJ4 : J (List.range (k + 1)) W3 := by rw [List.range_succ]; exact hJ3
      have hk4 := hJN _ _ hJ4
      rw [List.length_range] at hk4
      gi_wp2_with fail
      refine ⟨trivial, (callsIn_wide.2 (mul_any _ p 2 hp (by omega))).mono ?_⟩
      rintro e W4 ⟨rfl, rfl⟩
      rw [HS.out]
      gi_wp2
      go_roundw
      case rel => exact ⟨k + 1, hk4, by rw [HQ.out], hJ4⟩
      case measure => simp [intOf]; rw [HL1.out, HL2.out]; omega
    · gi_wp2
      go_end0
      exact ⟨⟨_, rfl⟩, .inr ⟨List.range k ++ [k], by rw [← List.range_succ]; simp, hJx3⟩⟩
theorem powers_seq (n₀ N : Nat) (hN : N ≤ 250) (w : World) : SeqB Tryz.prog 250 #[] pwEnc n₀ (fun _ => False) (fun pre => pre = List.range pre.length) N w :=
  fun l J Jx W _ _ _ hJN hY h0 => powers1_in l n₀ N hN J Jx W hJN hY h0

theorem keeps_below {B : Nat} {V W : World} (h : Below V.heap.size V W) : KeepsFrom B V W :=
  ⟨h.size, fun k _ _ hk _ => (h.block k (Array.getElem?_eq_some_iff.1 hk).1).trans hk⟩
theorem keeps_setc {B : Nat} {p : Addr} (hp : p.block < B) (W : World) (u : Value) : KeepsFrom B W (W.setCell p u) :=
  ⟨by simp [World.setCell], fun k _ hb hk _ => (Below.heap_setCell W p u k (by omega)).trans hk⟩
theorem StrsA.zero (w : World) (B : Nat) (A : Option Addr) : StrsA w B A 0 [] := ⟨rfl, fun h => by omega⟩
set_option maxHeartbeats 4000000 in
theorem Q_any (w : World) (A : Option Addr) (n c : Nat) (xs : List ByteArray) (h : StrsA w w.heap.size A n xs) (hn : n ≤ 200) (hc : n ≤ c) (hx : ∀ x ∈ xs, x.size ≤ 4294967295) :
    Calls Tryz.prog 77 #[.slice A n c] w fun e w' => e = .returned (.string ⟨(qL xs).toArray⟩) ∧ Below w.heap.size w w' := by
  have HL := Lib.hid h.1
  have HX := Lib.hid hx
  have HM := Lib.hid (fun pre => qZ_len 4294967295 xs pre hx)
  clear hx
  refine calls_marks Tryz.func77 rfl ?_
  simp only [Tryz.ntmps77, List.size_toArray, List.length_cons, List.length_nil, Nat.reduceAdd, Nat.reduceSub, Array.replicate_succ, Array.replicate_zero, List.push_toArray, List.append_toArray, List.nil_append, List.cons_append]
  go_wp2_with fail
  refine (powers_any _).mono ?_
  rintro e w1 ⟨rfl, rfl⟩
  go_wp2_with fail
  have hD := (Blk.new w 22 #[.slice A n c]).alloc (.cells #[.string ⟨#[]⟩] 9)
  have hS := Blk.new (w.alloc (.cells #[.slice A n c] 22)) 9 #[.string ⟨#[]⟩]
  rw [show (w.alloc (.cells #[.slice A n c] 22)).heap.size = w.heap.size + 1 by simp] at hS
  have hbe := ((Below.refl w.heap.size w).alloc (Nat.le_refl _) (.cells #[.slice A n c] 22)).alloc (by simp) (.cells #[.string ⟨#[]⟩] 9)
  have hsz : ((w.alloc (.cells #[.slice A n c] 22)).alloc (.cells #[.string ⟨#[]⟩] 9)).heap.size = w.heap.size + 1 + 1 := by simp
  generalize (w.alloc (.cells #[.slice A n c] 22)).alloc (.cells #[.string ⟨#[]⟩] 9) = R at *
  refine wp_rangeBE w.heap.size (by omega) rfl (enters_of Tryz.func250 (by kernel_rfl) rfl) (powers_seq w.heap.size (n + 1) (by omega) R) (fun _ => rfl)
    (fun pre V => pre.length ≤ n ∧ Blk V (w.heap.size + 1) 9 #[.string ⟨(qZ xs pre).toArray⟩] ∧ (∃ A' m c', Blk V w.heap.size 22 #[.slice A' m c'] ∧ m = n - pre.length ∧ m ≤ c' ∧ StrsA V w.heap.size A' m (xs.drop pre.length)) ∧ Below w.heap.size w V)
    (fun cd pre V => cd = .exit 0 ∧ pre.length = n + 1 ∧ Blk V (w.heap.size + 1) 9 #[.string ⟨(qZ xs pre).toArray⟩] ∧ Below w.heap.size w V)
    ?hI ?hIx (fun pre V hp => by have := hp.1; omega) ⟨by simp, (show qZ xs [] = [] by simp [qZ]) ▸ hS, ⟨A, n, c, hD, by simp, hc, h.below hbe⟩, hbe⟩ ?hround (fun _ _ _ _ hf => hf.elim) ?hstop
  case hI =>
    rintro s V V' row ⟨h1, h2, ⟨A', m, c', h3, h4, h5, h6⟩, h7⟩ hg hr
    have hbt := below_turn (Below.refl w.heap.size V) h7.size (show w.heap.size ≤ R.heap.size by omega) hg hr
    exact ⟨h1, h2.turn hg hr, ⟨A', m, c', h3.turn hg hr, h4, h5, h6.below hbt⟩, h7.trans hbt⟩
  case hIx =>
    rintro cd s V V' row ⟨h1, h2, h3, h7⟩ hg hr
    exact ⟨h1, h2, h3.turn hg hr, below_turn h7 (Nat.le_refl _) (by omega) hg hr⟩
  case hround =>
    apply Exists.intro
    constructor
    · intro l x V K hK
      dsimp only [pwEnc]
      gi_wp2
      exact hK
    · rintro l pre x V ⟨h1, h2, ⟨A', m, c', h3, rfl, h5, h6⟩, h7⟩
      have q3 := h3.cell 0
      by_cases he : pre.length = n
      · have hm0 : n - pre.length = 0 := by omega
        rw [hm0] at q3
        gi_wp2
        refine ⟨KeepsFrom.refl _ _, rfl, by rw [List.length_append, he]; rfl, ?_, h7⟩
        rw [qZ_full xs pre x (by rw [he, HL.out])]
        exact h2
      · obtain ⟨M, hM, hM0⟩ : ∃ M, n - pre.length = M + 1 ∧ M + 1 ≤ n := ⟨n - pre.length - 1, by omega, by omega⟩
        rw [hM] at q3 h6 h5 h3
        obtain ⟨b, off, rfl, hbB, hcc⟩ := h6.2 (by omega)
        have hc0 := hcc 0 (by omega)
        have hget : (xs.drop pre.length).getD 0 ⟨#[]⟩ = xs.getD pre.length ⟨#[]⟩ := by simp [List.getD]
        rw [hget, Nat.add_zero] at hc0
        have hpl : pre.length < xs.length := by rw [HL.out]; omega
        have hmem : xs.getD pre.length ⟨#[]⟩ ∈ xs := by simp [List.getD, hpl]
        have HSN := Lib.hid (qZ_snoc xs pre x hpl)
        have HXD := Lib.hid (HX.out _ hmem)
        have hdr := h6.drop 1 (by omega)
        rw [List.drop_drop] at hdr
        have HMM := Lib.hid (HM.out pre)
        have hpw := pw_lt x
        generalize xs.getD pre.length ⟨#[]⟩ = d at *
        have q2 := h2.cell 0
        generalize hacc : qZ xs pre = acc at *
        have HACC := Lib.hid hacc
        clear hacc hcc hget hmem hpl
        have hV1 : w.heap.size + 1 < V.heap.size := h2.lt
        have hV0 : w.heap.size < V.heap.size := h3.lt
        have hVb : b < V.heap.size := by omega
        have kV : ∀ (Y : World), Below V.heap.size V Y → Y.cell? ⟨w.heap.size + 1, 0, none⟩ = some (.string ⟨acc.toArray⟩) ∧ Y.cell? ⟨w.heap.size, 0, none⟩ = some (.slice (some ⟨b, off, none⟩) (M + 1) c') ∧ Y.cell? ⟨b, off, none⟩ = some (.string d) := fun Y hY =>
          ⟨(hY.cell (p := ⟨w.heap.size + 1, 0, none⟩) hV1).trans q2, (hY.cell (p := ⟨w.heap.size, 0, none⟩) hV0).trans q3, (hY.cell (p := ⟨b, off, none⟩) hVb).trans hc0⟩
        have KV := Lib.hid kV
        clear kV
        gi_wp2
        refine wpIn_region_nf l (fun Y => Y.cell? ⟨w.heap.size + 1, 0, none⟩ = some (.string ⟨acc.toArray⟩) ∧ Y.cell? ⟨w.heap.size, 0, none⟩ = some (.slice (some ⟨b, off, none⟩) (M + 1) c') ∧ Y.cell? ⟨b, off, none⟩ = some (.string d)) (fun j => j == 8)
          [(0, true), (1, true), (2, true), (3, true), (4, true), (5, false), (6, false), (7, false), (8, false)] (by kernel_rfl) rfl (by kernel_rfl) (by kernel_rfl) (fun d _ _ _ _ h => by cases d <;> exact h) (by kernel_rfl) (fun ⟨_, _, h⟩ => h) ?_
        have hb0 := (Below.refl V.heap.size V).drew
        have hS := KV.out _ hb0
        repeat (refine nf_pure rfl hS (fun w1 hS => by obtain ⟨g1, g2, g3⟩ := hS; go_wp2; exact ⟨rfl, rfl, rfl⟩) rfl ?_ ?_; rfl)
        refine nf_imp rfl ?_
        go_wp2_with fail
        refine (times_any _ d (pw x) HXD.out hpw).mono ?_
        rintro e w2 ⟨rfl, hb2⟩
        replace hb0 := hb0.trans (hb2.mono hb0.size)
        clear hb2 hS
        go_wp2_with fail
        refine ⟨fun _ => KV.out _ hb0, ?_⟩
        refine nf_imp rfl ?_
        go_wp2_with fail
        have hN := Blk.new w2 9 ([⟨acc.toArray⟩, ⟨(mulL d.data.toList (pw x)).toArray⟩].map Value.string).toArray
        replace hb0 := hb0.alloc hb0.size (.cells #[.string ⟨acc.toArray⟩, .string ⟨(mulL d.data.toList (pw x)).toArray⟩] 9)
        have hML : (mulL d.data.toList (pw x)).length ≤ 4294967295 := by rw [mulL_len]; simpa using HXD.out
        generalize hml : mulL d.data.toList (pw x) = ml at *
        have HMLE := Lib.hid hml
        clear hml
        have hsum : addL [⟨acc.toArray⟩, ⟨ml.toArray⟩] = xorL acc ml := by simp [addL, xorL_nil]
        have HSUM := Lib.hid hsum
        clear hsum
        have hN' : Blk (w2.alloc (.cells #[.string ⟨acc.toArray⟩, .string ⟨ml.toArray⟩] 9)) w2.heap.size 9 ([⟨acc.toArray⟩, ⟨ml.toArray⟩].map Value.string).toArray := hN
        clear hN
        generalize w2.alloc (.cells #[.string ⟨acc.toArray⟩, .string ⟨ml.toArray⟩] 9) = w3 at *
        refine ⟨fun _ => KV.out _ hb0, ?_⟩
        refine nf_imp rfl ?_
        go_wp2_with fail
        refine (added_any _ w3.heap.size _ 2 2 _ (StrsA.blk hN' rfl hN'.lt) (Nat.le_refl _) (by omega) (by simp; exact ⟨by simpa [size_mk] using HMM.out, by simpa [size_mk] using hML⟩)).mono ?_
        rintro e w4 ⟨rfl, hb4⟩
        rw [HSUM.out]
        replace hb0 := hb0.trans (hb4.mono hb0.size)
        clear hb4 hN'
        go_wp2_with fail
        refine ⟨fun _ => KV.out _ hb0, ?_⟩
        have hs4 := h2.below hb0 hV1
        have hd4 := h3.below hb0 hV0
        have qs4 := hs4.cell 0
        have fs4 := hs4.frozen 0
        have qd4 := hd4.cell 0
        have fd4 := hd4.frozen 0
        refine nf_imp rfl ?_
        go_wp2_with fail
        refine ⟨fun h => (by cases h), ?_⟩
        refine nf_nil ?_
        have hz0 : w.heap.size + 1 < R.heap.size := by omega
        have HZR := Lib.hid hsz
        clear hsz
        gi_wp2
        all_goals
          have hne : (w.heap.size + 1 : Nat) ≠ w.heap.size := by omega
          have hfin : ∀ v, KeepsFrom R.heap.size V ((w4.setCell ⟨w.heap.size + 1, 0, none⟩ (.string ⟨(xorL acc ml).toArray⟩)).setCell ⟨w.heap.size, 0, none⟩ v) ∧ Below w.heap.size V ((w4.setCell ⟨w.heap.size + 1, 0, none⟩ (.string ⟨(xorL acc ml).toArray⟩)).setCell ⟨w.heap.size, 0, none⟩ v) ∧
              Blk ((w4.setCell ⟨w.heap.size + 1, 0, none⟩ (.string ⟨(xorL acc ml).toArray⟩)).setCell ⟨w.heap.size, 0, none⟩ v) (w.heap.size + 1) 9 #[.string ⟨(qZ xs (pre ++ [x])).toArray⟩] ∧
              Blk ((w4.setCell ⟨w.heap.size + 1, 0, none⟩ (.string ⟨(xorL acc ml).toArray⟩)).setCell ⟨w.heap.size, 0, none⟩ v) w.heap.size 22 #[v] := fun v => by
            refine ⟨((keeps_below hb0).trans (keeps_setc (p := ⟨w.heap.size + 1, 0, none⟩) (by show w.heap.size + 1 < _; omega) _ _)).trans (keeps_setc (p := ⟨w.heap.size, 0, none⟩) (by show w.heap.size < _; omega) _ _), ?_, ?_, ?_⟩
            · exact (((hb0.mono (by omega))).setCell (by show _ ≤ w.heap.size + 1; omega) _).setCell (by show _ ≤ w.heap.size; omega) _
            · rw [HSN.out]
              exact (hs4.set_ 0 _).far hne _
            · exact (hd4.far (Ne.symm hne) _).set_ 0 v
        · obtain rfl : M = 0 := by omega
          obtain ⟨f1, f2, f3, f4⟩ := hfin (.slice (some ⟨b, off, none⟩) 0 0)
          have hdl : xs.drop (pre ++ [x]).length = [] := List.drop_eq_nil_of_le (by rw [HL.out, List.length_append]; show n ≤ pre.length + 1; omega)
          refine ⟨f1, f2, by rw [List.length_append]; show pre.length + 1 ≤ n; omega, f3, ⟨_, 0, _, f4, by rw [List.length_append]; show 0 = n - (pre.length + 1); omega, Nat.le_refl _, ?_⟩, h7.trans f2⟩
          rw [hdl]
          exact StrsA.zero _ _ _
        · obtain ⟨f1, f2, f3, f4⟩ := hfin (.slice (some ⟨b, off + 1, none⟩) M (c' - 1))
          refine ⟨f1, f2, by rw [List.length_append]; show pre.length + 1 ≤ n; omega, f3, ⟨_, M, _, f4, by rw [List.length_append]; show M = n - (pre.length + 1); omega, by omega, ?_⟩, h7.trans f2⟩
          rw [List.length_append]
          exact hdr.below f2
  case hstop =>
    rintro D cd pre V hD hpre ⟨rfl, hl, h2, h7⟩ hdef
    have q2 := h2.cell 0
    have hq : qZ xs pre = qL xs := by
      rw [hpre, hl, List.range_succ, qZ_full xs _ _ (by rw [List.length_range, HL.out])]
      unfold qL
      rw [HL.out]
    rw [hq] at q2
    clear hpre hq
    go_wp2_with fail
    refine ret_mark rfl hdef (results_tmp rfl _ _ _) ?_
    exact ⟨rfl, h7.trans (belowK_b (w := w) (Nat.le_refl _) V D _ _ (by omega) hdef rfl rfl)⟩
end Go.Proofs.YtmhmdoobadckkaaGreatDoor
/- A map[int]bool as a set of numbers; what stripe.Parts wants of a row. -/
namespace Go.Proofs.YtmhmdoobadckkaaGreatDoor
set_option maxRecDepth 20000
open Go.RowKit Go.OpenShut

theorem mset_sp (l : List Int) (i : Int) : mset (l.map fun j => (j, Value.bool true)) i (.bool true) = (if i ∈ l then l else l ++ [i]).map fun j => (j, Value.bool true) := by
  induction l with
  | nil => rfl
  | cons a l ih =>
    by_cases e : i = a
    · subst e
      simp [mset]
    · rw [List.map_cons, mset, if_neg e, ih]
      by_cases h : i ∈ l
      · rw [if_pos h, if_pos (List.mem_cons_of_mem _ h), List.map_cons]
      · rw [if_neg h, if_neg (fun h2 => (List.mem_cons.1 h2).elim e h)]
        simp
/-- the numbers of p, as a map to true -/
def SetB (w : World) (r : Nat) (p : Int → Prop) : Prop := ∃ ks : List Int, MapB w r (ks.map fun j => (j, Value.bool true)) ∧ ∀ x, x ∈ ks ↔ p x
theorem SetB.lt {w : World} {r : Nat} {p : Int → Prop} (h : SetB w r p) : r < w.heap.size := by
  obtain ⟨ks, h1, _⟩ := h
  exact h1.lt
theorem SetB.old {w w' : World} {r : Nat} {p : Int → Prop} (h : SetB w r p) (e : w'.heap[r]? = w.heap[r]?) : SetB w' r p := by
  obtain ⟨ks, h1, h2⟩ := h
  exact ⟨ks, h1.old e, h2⟩
theorem SetB.below {w w' : World} {r : Nat} {p : Int → Prop} (h : SetB w r p) (hb : Below w.heap.size w w') : SetB w' r p := h.old (hb.block r h.lt)
theorem SetB.iff {w : World} {r : Nat} {p q : Int → Prop} (h : SetB w r p) (hq : ∀ x, p x ↔ q x) : SetB w r q := by
  obtain ⟨ks, h1, h2⟩ := h
  exact ⟨ks, h1, fun x => (h2 x).trans (hq x)⟩
theorem SetB.ne_blk {w : World} {r b : Nat} {p : Int → Prop} {t : TypeId} {cs : Array Value} (h : SetB w r p) (hb : Blk w b t cs) : b ≠ r := fun e => by
  obtain ⟨ks, ⟨es, clock, h1, _⟩, _⟩ := h
  subst e
  unfold Blk at hb
  rw [hb] at h1
  cases h1
theorem SetB.ne_own {w : World} {r B : Nat} {p : Int → Prop} {t : TypeId} {v : Value} {l : List Value} (h : SetB w r p) (ho : OwnV t w B v l) : v.ownBlock ≠ some r := fun e => by
  obtain ⟨ks, ⟨es, clock, h1, _⟩, _⟩ := h
  rcases ho.2 with ⟨rfl, _⟩ | ⟨g, cap, cur, rfl, _, hgb, _⟩
  · cases e
  · obtain rfl : g = r := by simpa [Value.ownBlock] using e
    rw [hgb] at h1
    cases h1
theorem SetB.look {P : Program} {T K E : TypeId} (hT : P.underlying T = some (.map K E)) (hK : P.underlying K = some (.int .i64)) (hz : ∀ w, (zeroValue E).run P w = .ok (.bool false) w) {w : World} {r : Nat} {p : Int → Prop} (h : SetB w r p) (x : Int) (b : Bool) (hb : b = true ↔ p x) :
    (Instr.lookup T (.map (some r)) (.int .i64 x) false).run P w = .ok (.bool b) w := by
  obtain ⟨ks, h1, h2⟩ := h
  rw [lookup_ints hT hK hz h1 x, mfind_sp]
  have h3 : x ∈ ks ↔ b = true := (h2 x).trans hb.symm
  cases b
  · rw [if_neg (by rw [h3]; simp)]; rfl
  · rw [if_pos (h3.2 rfl)]; rfl
section
variable {P : Program} {w : World} {ops : Array Oper} {rest : List Oper} {o : Oper} {a : Act} {Q : Exit → Act → World → Prop}
theorem wp_updateS (hg : o.guard = none) (m x v : Operand) (T : TypeId) (hop : o.op = Op.mapUpdate T m x v) (K E : TypeId) (hT : P.underlying T = some (.map K E)) (hK : P.underlying K = some (.int .i64)) (r : Nat) (p : Int → Prop)
    (hm : a.eval m = .map (some r)) (h : SetB w r p) (k : Int) (hx : a.eval x = .int .i64 k) (hv : a.eval v = .bool true)
    (hQ : ∀ w', SetB w' r (fun y => p y ∨ y = k) → w.grownBy w' (some r) → wpList P ops Q rest (a.put o.dst undef) w') : wpList P ops Q (o :: rest) a w := by
  obtain ⟨ks, h1, h2⟩ := h
  refine wp_updateI hg m x v T hop K E hT hK r _ hm h1 k (.bool true) hx hv fun w' h3 h4 => hQ w' ?_ h4
  rw [mset_sp] at h3
  refine ⟨_, h3, fun y => ?_⟩
  split
  · rename_i hk
    rw [h2 y]
    exact ⟨Or.inl, fun e => e.elim id (fun e => by subst e; exact (h2 _).1 hk)⟩
  · rw [List.mem_append, List.mem_singleton, h2 y]
/-- an entry of a map's literal -/
theorem wp_insertS (hg : o.guard = none) (m x v : Operand) (T : TypeId) (hop : o.op = Op.insert T m x v) (K E : TypeId) (hT : P.underlying T = some (.map K E)) (hK : P.underlying K = some (.int .i64)) (r : Nat) (p : Int → Prop)
    (hm : a.eval m = .map (some r)) (h : SetB w r p) (k : Int) (hx : a.eval x = .int .i64 k) (hv : a.eval v = .bool true)
    (hQ : ∀ w', SetB w' r (fun y => p y ∨ y = k) → w.grownBy w' (some r) → wpList P ops Q rest (a.put o.dst undef) w') : wpList P ops Q (o :: rest) a w := by
  obtain ⟨ks, h1, h2⟩ := h
  refine wpList_plain hg fun K' hK' => ?_
  obtain ⟨w', hrun, h3, h4⟩ := update_ints hT hK h1 k (.bool true)
  unfold Oper.wp
  simp [execOp, hop, hm, hx, hv, hrun, Result.andThen]
  refine hK' _ _ (hQ w' ?_ h4)
  rw [mset_sp] at h3
  refine ⟨_, h3, fun y => ?_⟩
  split
  · rename_i hk
    rw [h2 y]
    exact ⟨Or.inl, fun e => e.elim id (fun e => by subst e; exact (h2 _).1 hk)⟩
  · rw [List.mem_append, List.mem_singleton, h2 y]
end

/-! ### plain: what is wanted, and the parts -/
/-- is a role's sector wanted, where data column i is changed and lost ones are told? n: the data columns -/
def wantB (n i : Nat) (lost : List Int) (r : Nat) : Bool := decide (n ≤ r) || decide ((r : Int) ∈ lost) || decide (r = i)
def newCols (n : Nat) (xs : List Sec) (i : Nat) (d : Sec) : List Sec :=
  ((xs.set i d).set n ⟨(addL ((xs.set i d).take n)).toArray⟩).set (n + 1) ⟨(qL ((xs.set i d).take n)).toArray⟩
theorem newCols_len (n : Nat) (xs : List Sec) (i : Nat) (d : Sec) : (newCols n xs i d).length = xs.length := by simp [newCols]
/-- the parts of the first j roles -/
def partsT (S : RS) (σ : Nat → Option Drv) (row off : Nat) (ys : List Sec) (want : Nat → Bool) : Nat → List Prt
  | 0 => []
  | j + 1 => partsT S σ row off ys want j ++ (if want j && aliveB σ (S.ds.getD (lcol S.n row j) none) then [⟨(lcol S.n row j : Int), (off : Int), ys.getD j ⟨#[]⟩⟩] else [])
theorem partsT_len (S : RS) (σ : Nat → Option Drv) (row off : Nat) (ys : List Sec) (want : Nat → Bool) : ∀ j, (partsT S σ row off ys want j).length ≤ j
  | 0 => Nat.le_refl _
  | j + 1 => by
    have h := partsT_len S σ row off ys want j
    unfold partsT
    rw [List.length_append]
    split <;> simp <;> omega
theorem partsT_mem {S : RS} {σ : Nat → Option Drv} {row off : Nat} {ys : List Sec} {want : Nat → Bool} {p : Prt} : ∀ {j : Nat}, p ∈ partsT S σ row off ys want j → ∃ r, r < j ∧ want r = true ∧ aliveB σ (S.ds.getD (lcol S.n row r) none) = true ∧ p = ⟨(lcol S.n row r : Int), (off : Int), ys.getD r ⟨#[]⟩⟩
  | 0, h => by cases h
  | j + 1, h => by
    unfold partsT at h
    rcases List.mem_append.1 h with h | h
    · obtain ⟨r, h1, h2⟩ := partsT_mem h
      exact ⟨r, by omega, h2⟩
    · split at h
      · rename_i hc
        rw [Bool.and_eq_true] at hc
        exact ⟨j, by omega, hc.1, hc.2, by simpa using h⟩
      · cases h
theorem partsT_fits {S : RS} {σ : Nat → Option Drv} {row off : Nat} {ys : List Sec} {want : Nat → Bool} {j : Nat} (h0 : 0 < S.n) (ho : off < S.k) (hj : j ≤ S.n) (hy : ∀ r, r < S.n → (ys.getD r ⟨#[]⟩).size = 64) : ∀ p ∈ partsT S σ row off ys want j, p.fits S.n S.k := by
  intro p hp
  obtain ⟨r, h1, h2, h3, rfl⟩ := partsT_mem hp
  have := lcol_lt row r h0
  exact ⟨by simp, by simpa using this, by simp, by simpa using ho, hy r (by omega)⟩
end Go.Proofs.YtmhmdoobadckkaaGreatDoor
/- texts of bytes 0. -/
namespace Go.Proofs.YtmhmdoobadckkaaGreatDoor
set_option maxRecDepth 20000
open Go.RowKit Go.OpenShut

def zeroB (l : List UInt8) : Bool := l.all (· == 0)
theorem zeroB_iff (l : List UInt8) : zeroB l = true ↔ ∀ i, i < l.length → l.getD i 0 = 0 := by
  unfold zeroB
  rw [List.all_eq_true]
  constructor
  · intro h i hi
    have := h (l[i]) (List.getElem_mem hi)
    simpa [List.getD, hi] using this
  · intro h x hx
    obtain ⟨i, hi, rfl⟩ := List.mem_iff_getElem.1 hx
    have := h i hi
    simpa [List.getD, hi] using this
theorem mem_getD {xs : List ByteArray} {k : Nat} (h : k < xs.length) : xs.getD k ⟨#[]⟩ ∈ xs := by simp [List.getD, h]
end Go.Proofs.YtmhmdoobadckkaaGreatDoor
/- strings.Trim at the byte 0; what syndrome.Good takes for bytes 0. -/
namespace Go.Proofs.YtmhmdoobadckkaaGreatDoor
set_option maxRecDepth 20000
open Go.RowKit Go.OpenShut

def dz (l : List UInt8) : List UInt8 := l.dropWhile (· == 0)
def dzr (l : List UInt8) : List UInt8 := (dz l.reverse).reverse
theorem dz_all (l : List UInt8) : dz l = [] ↔ ∀ x ∈ l, x = 0 := by
  induction l with
  | nil => simp [dz]
  | cons a l ih =>
    unfold dz at *
    rw [List.dropWhile_cons]
    by_cases h : a = 0
    · subst h; simp [ih]
    · simp [h]
theorem dzr_all (l : List UInt8) : dzr l = [] ↔ ∀ x ∈ l, x = 0 := by
  unfold dzr
  rw [List.reverse_eq_nil_iff, dz_all]
  simp
theorem dz_mem (l : List UInt8) (x : UInt8) (h : x ∈ l) (h0 : x ≠ 0) : x ∈ dz l := by
  induction l with
  | nil => cases h
  | cons a l ih =>
    unfold dz at *
    rw [List.dropWhile_cons]
    by_cases ha : a = 0
    · subst ha
      simp
      rcases List.mem_cons.1 h with rfl | h
      · exact absurd rfl h0
      · exact ih h
    · simp [ha]
      exact List.mem_cons.1 h
theorem trim_zero (l : List UInt8) : (dz (dzr l) == []) = zeroB l := by
  rw [Bool.eq_iff_iff, beq_iff_eq, zeroB, List.all_eq_true, dz_all]
  constructor
  · intro h x hx
    rw [beq_iff_eq]
    by_cases h0 : x = 0
    · exact h0
    · have h1 : x ∈ dz l.reverse := dz_mem _ _ (by simpa using hx) h0
      exact h x (by unfold dzr; simpa using h1)
  · intro h x hx
    unfold dzr dz at hx
    rw [List.mem_reverse] at hx
    have h1 := (List.dropWhile_sublist _).subset hx
    simpa using h x (by simpa using h1)
theorem dz_cons0 (T : List UInt8) (r : List UInt8) (h : T = 0 :: r) : dz T = dz r := by subst h; simp [dz]
theorem dz_stop (T : List UInt8) (h : T = [] ∨ T.getD 0 0 ≠ 0) : dz T = T := by
  cases T with
  | nil => rfl
  | cons a r =>
    rcases h with h | h
    · cases h
    · simp [dz, List.dropWhile_cons]
      intro e
      exact absurd e (by simpa using h)

theorem ext_list (s : ByteArray) (a b : Nat) : (s.extract a b).data.toList = (s.data.toList.drop a).take (b - a) := by
  rw [← Lib.toList_data, Lib.extract_toList]
theorem list_len (s : ByteArray) : s.data.toList.length = s.size := by simp
theorem getD_at (s : ByteArray) (k : Nat) (h : k < s.size) : s.data.toList.getD k 0 = s[k] := by simp [List.getD, h]; rfl
theorem mk_of {s : ByteArray} {l : List UInt8} (h : s.data.toList = l) : s = ⟨l.toArray⟩ := by rw [← h]

set_option maxHeartbeats 1000000 in
theorem trimL_any (w : World) (s : ByteArray) (hs : s.size ≤ 4294967295) :
    Calls Tryz.prog 177 #[.string s, .int .u8 0] w fun e w' => e = .returned (.string ⟨(dz s.data.toList).toArray⟩) ∧ w = w' := by
  obtain ⟨D, hD⟩ : ∃ D, dz s.data.toList = D := ⟨_, rfl⟩
  rw [hD]
  have HD := Lib.hid hD
  clear hD
  go_enter Tryz.func177, Tryz.ntmps177
  go_wp2
  go_loop [0] (fun v => ∃ T : ByteArray, v = .string T ∧ dz T.data.toList = D ∧ T.size ≤ 4294967295) (fun v => match v with | .string T => T.size | _ => 0)
  case atStart => exact ⟨s, rfl, HD.out, hs⟩
  case round =>
    obtain ⟨T, rfl, hT, hz⟩ := hrel
    have HT := Lib.hid hT
    clear hT
    by_cases h0 : 0 < T.size
    · have HG := Lib.hid (getD_at T 0 h0)
      by_cases h1 : T[0] = 0
      · have e1 : ((T[0].toNat : Int) == 0) = true := by rw [h1]; rfl
        go_wp2
        go_round
        case rel =>
          refine ⟨T.extract 1 T.size, rfl, ?_, by simp; omega⟩
          rw [ext_list, List.take_of_length_le (by simp)]
          rw [← HT.out]
          have h2 : T.data.toList = 0 :: T.data.toList.drop 1 := by
            have h3 := list_len T
            cases hc : T.data.toList with
            | nil => rw [hc] at h3; simp at h3; omega
            | cons a r =>
              have h4 := HG.out
              rw [hc, h1] at h4
              simp at h4
              rw [h4]
              rfl
          exact (dz_cons0 _ _ h2).symm
        case measure => simp; omega
      · have e1 : ((T[0].toNat : Int) == 0) = false := by
          rw [beq_eq_false_iff_ne]
          intro e
          exact h1 (UInt8.toNat_inj.1 (by simpa using e))
        go_wp2
        go_ret
        refine ⟨?_, rfl⟩
        rw [← HT.out, dz_stop _ (Or.inr (by rw [HG.out]; exact h1))]
        rfl
    · go_wp2
      go_ret
      refine ⟨?_, rfl⟩
      rw [← HT.out, dz_stop _ (Or.inl (List.eq_nil_of_length_eq_zero (by rw [list_len]; omega)))]
      rfl
theorem dzr_snoc0 (T : List UInt8) (r : List UInt8) (h : T = r ++ [0]) : dzr T = dzr r := by subst h; simp [dzr, dz]
theorem dzr_stop (T : List UInt8) (h : T = [] ∨ ∃ r x, T = r ++ [x] ∧ x ≠ 0) : dzr T = T := by
  rcases h with rfl | ⟨r, x, rfl, h⟩
  · rfl
  · unfold dzr
    rw [List.reverse_append, dz_stop _ (Or.inr (by simpa using h)), List.reverse_append, List.reverse_reverse]
    simp
theorem last_of (T : ByteArray) (n : Nat) (h : T.size = n + 1) : T.data.toList = T.data.toList.take n ++ [T[n]] := by
  have h1 := List.take_append_drop n T.data.toList
  have h2 : T.data.toList.drop n = [T[n]] := by
    have h3 : n < T.data.toList.length := by rw [list_len]; omega
    rw [List.drop_eq_getElem_cons h3, List.drop_of_length_le (by rw [list_len]; omega)]
    rfl
  rw [h2] at h1
  exact h1.symm
set_option maxHeartbeats 1000000 in
theorem trimR_any (w : World) (s : ByteArray) (hs : s.size ≤ 4294967295) :
    Calls Tryz.prog 178 #[.string s, .int .u8 0] w fun e w' => e = .returned (.string ⟨(dzr s.data.toList).toArray⟩) ∧ w = w' := by
  obtain ⟨D, hD⟩ : ∃ D, dzr s.data.toList = D := ⟨_, rfl⟩
  rw [hD]
  have HD := Lib.hid hD
  clear hD
  go_enter Tryz.func178, Tryz.ntmps178
  go_wp2
  go_loop [0] (fun v => ∃ T : ByteArray, v = .string T ∧ dzr T.data.toList = D ∧ T.size ≤ 4294967295) (fun v => match v with | .string T => T.size | _ => 0)
  case atStart => exact ⟨s, rfl, HD.out, hs⟩
  case round =>
    obtain ⟨T, rfl, hT, hz⟩ := hrel
    have HT := Lib.hid hT
    clear hT
    by_cases h0 : 0 < T.size
    · obtain ⟨n, hn⟩ : ∃ n, T.size = n + 1 := ⟨T.size - 1, by omega⟩
      have HL := Lib.hid (last_of T n hn)
      have hsub : (T.size : Int) - 1 = (n : Int) := by omega
      have hlt : n < T.size := by omega
      by_cases h1 : T[n] = 0
      · have e1 : ((T[n].toNat : Int) == 0) = true := by rw [h1]; rfl
        go_wp2
        go_round
        case rel =>
          refine ⟨T.extract 0 n, rfl, ?_, by simp; omega⟩
          rw [ext_list, List.drop_zero, Nat.sub_zero]
          rw [← HT.out]
          exact (dzr_snoc0 _ _ (by rw [← h1]; exact HL.out)).symm
        case measure => simp; omega
      · have e1 : ((T[n].toNat : Int) == 0) = false := by
          rw [beq_eq_false_iff_ne]
          intro e
          exact h1 (UInt8.toNat_inj.1 (by simpa using e))
        go_wp2
        go_ret
        refine ⟨?_, rfl⟩
        rw [← HT.out, dzr_stop _ (Or.inr ⟨_, _, HL.out, h1⟩)]
        rfl
    · go_wp2
      go_ret
      refine ⟨?_, rfl⟩
      rw [← HT.out, dzr_stop _ (Or.inl (List.eq_nil_of_length_eq_zero (by rw [list_len]; omega)))]
      rfl
theorem dzr_len (l : List UInt8) : (dzr l).length ≤ l.length := by
  unfold dzr dz
  rw [List.length_reverse]
  have := (List.dropWhile_sublist (· == (0 : UInt8)) (l := l.reverse)).length_le
  simpa using this
set_option maxHeartbeats 1000000 in
theorem trim_any (w : World) (s : ByteArray) (hs : s.size ≤ 4294967295) :
    Calls Tryz.prog 89 #[.string s, .string ⟨#[0]⟩] w fun e w' => e = .returned (.string ⟨(dz (dzr s.data.toList)).toArray⟩) ∧ Below w.heap.size w w' := by
  by_cases h0 : s = ⟨#[]⟩
  · subst h0
    go_enter Tryz.func89, Tryz.ntmps89
    go_wp2_with fail
    go_ret
    exact ⟨rfl, Below.refl _ _⟩
  · have e0 : s.toList.isEmpty = false := by
      rw [Lib.toList_data, List.isEmpty_eq_false_iff]
      intro e
      exact h0 (mk_of e)
    obtain ⟨R, hR⟩ : ∃ R, dzr s.data.toList = R := ⟨_, rfl⟩
    have hRl : R.length ≤ 4294967295 := by rw [← hR]; have := dzr_len s.data.toList; rw [list_len] at this; omega
    rw [hR]
    have HR := Lib.hid hR
    clear hR
    have hc : ((⟨#[0]⟩ : ByteArray)[0]'Nat.zero_lt_one) = 0 := rfl
    go_enter Tryz.func89, Tryz.ntmps89
    go_wp2_with fail
    refine wp_region_nf (fun Y => Below w.heap.size w Y) (fun _ => false) [(0, true), (1, true), (2, true), (4, true), (5, true), (3, false), (6, false), (7, true)] (by kernel_rfl) rfl (by kernel_rfl) (by kernel_rfl) (fun d _ _ _ _ h => by cases d <;> exact h) ?_
    have hbd := (Below.refl w.heap.size w).drew
    generalize w.drew = V at *
    repeat (refine nf_pure rfl hbd (fun Y hY => by clear hY; go_wp2; exact ⟨rfl, rfl, rfl⟩) rfl ?_ ?_; rfl)
    refine nf_imp rfl ?_
    go_wp2_with fail
    refine (trimR_any _ s hs).mono ?_
    rintro e W1 ⟨rfl, rfl⟩
    rw [HR.out]
    go_wp2_with fail
    refine ⟨fun _ => hbd, ?_⟩
    refine nf_imp rfl ?_
    go_wp2_with fail
    refine (trimL_any _ ⟨R.toArray⟩ (by rw [size_mk]; omega)).mono ?_
    rintro e W2 ⟨rfl, rfl⟩
    rw [mk_list]
    go_wp2_with fail
    refine ⟨fun _ => hbd, ?_⟩
    repeat (refine nf_pure rfl hbd (fun Y hY => by clear hY; go_wp2; exact ⟨rfl, rfl, rfl⟩) rfl ?_ ?_; rfl)
    refine nf_nil ?_
    go_wp2_with fail
    go_ret
    exact ⟨rfl, hbd⟩
theorem empty_mk (l : List UInt8) : ((⟨l.toArray⟩ : ByteArray).toList == []) = (l == []) := by rw [Lib.toList_data]
set_option maxHeartbeats 1000000 in
theorem good1_any (w : World) (s : ByteArray) (hs : s.size ≤ 4294967295) :
    Calls Tryz.prog 88 #[.string s] w fun e w' => e = .returned (.bool (zeroB s.data.toList)) ∧ Below w.heap.size w w' := by
  have h := trim_zero s.data.toList
  obtain ⟨R, hR⟩ : ∃ R, dz (dzr s.data.toList) = R := ⟨_, rfl⟩
  have HT := Lib.hid (trim_any w s hs)
  rw [hR] at HT h
  clear hR
  rw [← h]
  clear h
  go_enter Tryz.func88, Tryz.ntmps88
  go_wp2_with fail
  refine HT.out.mono ?_
  rintro e W2 ⟨rfl, hb⟩
  go_wp2_with fail
  go_ret
  refine ⟨?_, hb⟩
  have e : R.isEmpty = (R == []) := by cases R <;> rfl
  rw [← e]
  rfl
end Go.Proofs.YtmhmdoobadckkaaGreatDoor
/- texts added and multiplied: the plain laws. -/
namespace Go.Proofs.YtmhmdoobadckkaaGreatDoor
set_option maxRecDepth 20000
open Go.RowKit Go.OpenShut

theorem getD_lt {l : List UInt8} {i : Nat} (h : i < l.length) : l.getD i 0 = l[i] := by simp [List.getD, h]
theorem getD_ge {l : List UInt8} {i : Nat} (h : l.length ≤ i) : l.getD i 0 = 0 := by simp [List.getD, List.getElem?_eq_none h]
theorem u8_zero_gm (a : Nat) : UInt8.ofNat (gm (0 : UInt8).toNat a) = 0 := by
  rw [show (0 : UInt8).toNat = 0 from rfl, gm_zero_left]
  rfl
theorem mulL_getD (l : List UInt8) (b i : Nat) : (mulL l b).getD i 0 = UInt8.ofNat (gm (l.getD i 0).toNat b) := by
  rcases Nat.lt_or_ge i l.length with h | h
  · rw [getD_lt (by rw [mulL_len]; exact h), getD_lt h]
    simp [mulL]
  · rw [getD_ge (by rw [mulL_len]; exact h), getD_ge h, u8_zero_gm]
theorem list_ext {l m : List UInt8} (h : l.length = m.length) (h2 : ∀ i, i < l.length → l.getD i 0 = m.getD i 0) : l = m := by
  apply List.ext_getElem h
  intro i h3 h4
  have := h2 i h3
  rw [getD_lt h3, getD_lt h4] at this
  exact this
theorem xorL_getD (s t : List UInt8) (i : Nat) : (xorL s t).getD i 0 = s.getD i 0 ^^^ t.getD i 0 := by
  rcases Nat.lt_or_ge i (max s.length t.length) with h | h
  · rw [getD_lt (by rw [xorL_length]; exact h)]
    simp only [xorL, List.getElem_map, List.getElem_range]
  · rw [getD_ge (by rw [xorL_length]; exact h), getD_ge (l := s) (by omega), getD_ge (l := t) (by omega)]
    rfl
theorem u8_xor_nat' (x y : Nat) : UInt8.ofNat (x ^^^ y) = UInt8.ofNat x ^^^ UInt8.ofNat y := UInt8.ofNat_xor x y
theorem lin4 (s t : List UInt8) (a : Nat) (ha : a < 256) : mulL (xorL s t) a = xorL (mulL s a) (mulL t a) := by
  refine list_ext (by rw [mulL_len, xorL_length, xorL_length, mulL_len, mulL_len]) fun i _ => ?_
  rw [mulL_getD, xorL_getD, xorL_getD, mulL_getD, mulL_getD, ← u8_xor_nat']
  have h1 := (s.getD i 0).toNat_lt
  have h2 := (t.getD i 0).toNat_lt
  rw [UInt8.toNat_xor, gm_comm (xor_lt h1 h2) ha, gm_comm h1 ha, gm_comm h2 ha, gm_xor ha h1 h2]
theorem lin5 (s : List UInt8) (a b : Nat) (ha : a < 256) (hb : b < 256) : mulL (mulL s a) b = mulL s (gm a b) := by
  unfold mulL
  rw [List.map_map]
  refine List.map_congr_left fun c _ => ?_
  have h1 := c.toNat_lt
  simp only [Function.comp]
  rw [UInt8.toNat_ofNat_of_lt' (gm_lt h1), ← gm_assoc h1 ha hb]
theorem lin6 (s : List UInt8) (a b : Nat) (ha : a < 256) (hb : b < 256) : xorL (mulL s a) (mulL s b) = mulL s (a ^^^ b) := by
  refine list_ext (by rw [xorL_length, mulL_len, mulL_len, mulL_len, Nat.max_self]) fun i _ => ?_
  rw [xorL_getD, mulL_getD, mulL_getD, mulL_getD, ← u8_xor_nat', gm_xor (s.getD i 0).toNat_lt ha hb]
theorem lin7 (s : List UInt8) : mulL s 1 = s := by
  unfold mulL
  conv => rhs; rw [← List.map_id s]
  refine List.map_congr_left fun c _ => ?_
  rw [gm_one c.toNat_lt]
  simp
theorem xorL_assoc (s t r : List UInt8) : xorL (xorL s t) r = xorL s (xorL t r) := by
  apply list_ext
  · simp only [xorL_length, Nat.max_assoc]
  · intro i _
    simp only [xorL_getD, UInt8.xor_assoc]
theorem xorL_nilr (s : List UInt8) : xorL s [] = s := by rw [xorL_comm, xorL_nil]
theorem xorL_4 (a b c d : List UInt8) : xorL (xorL a b) (xorL c d) = xorL (xorL a c) (xorL b d) := by
  rw [xorL_assoc, xorL_assoc, ← xorL_assoc b, ← xorL_assoc c, xorL_comm b c]
theorem zip_range_snoc (xs : List ByteArray) (x : ByteArray) : (xs ++ [x]).zip (List.range (xs ++ [x]).length) = xs.zip (List.range xs.length) ++ [(x, xs.length)] := by
  rw [List.length_append, List.length_singleton, List.range_succ, List.zip_append (by simp)]
  rfl
theorem qL_snoc (xs : List ByteArray) (x : ByteArray) : qL (xs ++ [x]) = xorL (qL xs) (mulL x.data.toList (pw xs.length)) := by
  unfold qL qZ
  rw [zip_range_snoc, List.foldl_append]
  rfl
theorem qL_nil : qL [] = [] := rfl
theorem addL_nil : addL [] = [] := rfl
/-- induction over a list's end -/
theorem snoc_ind {P : List ByteArray → Prop} (h0 : P []) (h1 : ∀ xs x, P xs → P (xs ++ [x])) (xs : List ByteArray) : P xs := by
  have h : ∀ n (xs : List ByteArray), xs.length = n → P xs := by
    intro n
    induction n with
    | zero =>
      intro xs h
      rw [List.eq_nil_of_length_eq_zero h]
      exact h0
    | succ n ih =>
      intro xs h
      have hne : xs ≠ [] := by intro e; subst e; simp at h
      rw [← List.dropLast_concat_getLast hne]
      exact h1 _ _ (ih _ (by rw [List.length_dropLast, h]; rfl))
  exact h _ xs rfl
theorem addL_cons (x : ByteArray) (xs : List ByteArray) : addL (x :: xs) = xorL x.data.toList (addL xs) := by
  induction xs using snoc_ind with
  | h0 =>
    show addL ([] ++ [x]) = _
    rw [addL_snoc, addL_nil, xorL_nil, xorL_nilr]
  | h1 xs y ih =>
    rw [← List.cons_append, addL_snoc, ih, addL_snoc, xorL_assoc]
theorem qL_cons (x : ByteArray) (xs : List ByteArray) : qL (x :: xs) = xorL x.data.toList (mulL (qL xs) 2) := by
  induction xs using snoc_ind with
  | h0 =>
    show qL ([] ++ [x]) = _
    rw [qL_snoc, qL_nil, xorL_nil, List.length_nil, show pw 0 = 1 from rfl, lin7]
    exact (xorL_nilr _).symm
  | h1 xs y ih =>
    rw [← List.cons_append, qL_snoc, ih, qL_snoc, lin4 _ _ 2 (by omega), xorL_assoc, lin5 _ _ _ (pw_lt _) (by omega), List.length_cons, show (2 : Nat) = pw 1 from rfl, gm_pp]
theorem addL_reverse (xs : List ByteArray) : addL xs.reverse = addL xs := by
  induction xs with
  | nil => rfl
  | cons x xs ih => rw [List.reverse_cons, addL_snoc, ih, addL_cons, xorL_comm]
theorem addL_turn (xs : List ByteArray) (x : ByteArray) : addL (x :: xs) = addL (xs ++ [x]) := by rw [addL_cons, addL_snoc, xorL_comm]
theorem zeroB_self (l : List UInt8) : zeroB (xorL l l) = true := by
  rw [zeroB_iff]
  intro i _
  rw [xorL_getD, UInt8.xor_self]
theorem zeroB_eq {l m : List UInt8} (h : ∀ i, l.getD i 0 = m.getD i 0) : zeroB (xorL l m) = true := by
  rw [zeroB_iff]
  intro i _
  rw [xorL_getD, h, UInt8.xor_self]
theorem qL_len (M : Nat) (xs : List ByteArray) (h : ∀ x ∈ xs, x.size ≤ M) : (qL xs).length ≤ M := qZ_len M xs _ h

/-! ### one column that is another one -/
theorem addL_set (j : Nat) (y : ByteArray) : ∀ (xs : List ByteArray) (k : Nat), k < xs.length → (addL (xs.set k y)).getD j 0 = ((addL xs).getD j 0 ^^^ (xs.getD k ⟨#[]⟩).data.toList.getD j 0) ^^^ y.data.toList.getD j 0 := by
  intro xs
  induction xs using snoc_ind with
  | h0 => intro k h; simp at h
  | h1 xs x ih =>
    intro k hk
    rw [List.length_append, List.length_singleton] at hk
    rcases Nat.lt_or_ge k xs.length with h | h
    · rw [List.set_append_left _ _ h, addL_snoc, addL_snoc, xorL_getD, xorL_getD, ih k h]
      have e : (xs ++ [x]).getD k ⟨#[]⟩ = xs.getD k ⟨#[]⟩ := by simp [List.getD, List.getElem?_append_left h]
      rw [e]
      ac_rfl
    · obtain rfl : k = xs.length := by omega
      have e : (xs ++ [x]).getD xs.length ⟨#[]⟩ = x := by simp [List.getD]
      have e2 : (xs ++ [x]).set xs.length y = xs ++ [y] := by rw [List.set_append_right _ _ (Nat.le_refl _)]; simp
      rw [e, e2, addL_snoc, addL_snoc, xorL_getD, xorL_getD, UInt8.xor_assoc ((addL xs).getD j 0), UInt8.xor_self, UInt8.xor_zero]
theorem qL_set (j : Nat) (y : ByteArray) : ∀ (xs : List ByteArray) (k : Nat), k < xs.length → (qL (xs.set k y)).getD j 0 = ((qL xs).getD j 0 ^^^ (mulL (xs.getD k ⟨#[]⟩).data.toList (pw k)).getD j 0) ^^^ (mulL y.data.toList (pw k)).getD j 0 := by
  intro xs
  induction xs using snoc_ind with
  | h0 => intro k h; simp at h
  | h1 xs x ih =>
    intro k hk
    rw [List.length_append, List.length_singleton] at hk
    rcases Nat.lt_or_ge k xs.length with h | h
    · rw [List.set_append_left _ _ h, qL_snoc, qL_snoc, xorL_getD, xorL_getD, ih k h, List.length_set]
      have e : (xs ++ [x]).getD k ⟨#[]⟩ = xs.getD k ⟨#[]⟩ := by simp [List.getD, List.getElem?_append_left h]
      rw [e]
      ac_rfl
    · obtain rfl : k = xs.length := by omega
      have e : (xs ++ [x]).getD xs.length ⟨#[]⟩ = x := by simp [List.getD]
      have e2 : (xs ++ [x]).set xs.length y = xs ++ [y] := by rw [List.set_append_right _ _ (Nat.le_refl _)]; simp
      rw [e, e2, qL_snoc, qL_snoc, xorL_getD, xorL_getD, UInt8.xor_assoc ((qL xs).getD j 0), UInt8.xor_self, UInt8.xor_zero]

/-! ### sums of columns -/
def xorS (s t : ByteArray) : ByteArray := ⟨(xorL s.data.toList t.data.toList).toArray⟩
def sumS (l m : List ByteArray) (k : Nat) : List ByteArray := (List.range k).map fun i => xorS (l.getD i ⟨#[]⟩) (m.getD i ⟨#[]⟩)
theorem sumS_len (l m : List ByteArray) (k : Nat) : (sumS l m k).length = k := by simp [sumS]
theorem sumS_succ (l m : List ByteArray) (k : Nat) : sumS l m (k + 1) = sumS l m k ++ [xorS (l.getD k ⟨#[]⟩) (m.getD k ⟨#[]⟩)] := by simp [sumS, List.range_succ]
theorem sumS_add (l m : List ByteArray) : ∀ k, k ≤ l.length → k ≤ m.length → addL (sumS l m k) = xorL (addL (l.take k)) (addL (m.take k)) := by
  intro k
  induction k with
  | zero => intro _ _; rfl
  | succ k ih =>
    intro h1 h2
    rw [sumS_succ, addL_snoc, ih (by omega) (by omega), take_snocS l k h1, take_snocS m k h2, addL_snoc, addL_snoc, xorL_4]
    unfold xorS
    rw [mk_list]
theorem sumS_q (l m : List ByteArray) : ∀ k, k ≤ l.length → k ≤ m.length → qL (sumS l m k) = xorL (qL (l.take k)) (qL (m.take k)) := by
  intro k
  induction k with
  | zero => intro _ _; rfl
  | succ k ih =>
    intro h1 h2
    rw [sumS_succ, qL_snoc, ih (by omega) (by omega), take_snocS l k h1, take_snocS m k h2, qL_snoc, qL_snoc, xorL_4]
    unfold xorS
    rw [mk_list, sumS_len, lin4 _ _ _ (pw_lt _), List.length_take, List.length_take, Nat.min_eq_left (by omega), Nat.min_eq_left (by omega)]
theorem xorS_size (s t : ByteArray) : (xorS s t).size = max s.size t.size := by
  unfold xorS
  rw [size_mk, xorL_length]
  simp
theorem sumS_size (l m : List ByteArray) (M : Nat) (hl : ∀ x ∈ l, x.size ≤ M) (hm : ∀ x ∈ m, x.size ≤ M) (k : Nat) (h1 : k ≤ l.length) (h2 : k ≤ m.length) : ∀ x ∈ sumS l m k, x.size ≤ M := by
  intro x hx
  unfold sumS at hx
  obtain ⟨i, hi, rfl⟩ := List.mem_map.1 hx
  rw [List.mem_range] at hi
  rw [xorS_size]
  have g1 := hl _ (mem_getD (xs := l) (k := i) (by omega))
  have g2 := hm _ (mem_getD (xs := m) (k := i) (by omega))
  omega
end Go.Proofs.YtmhmdoobadckkaaGreatDoor
/- syndrome.Sum and Good. -/
namespace Go.Proofs.YtmhmdoobadckkaaGreatDoor
set_option maxRecDepth 20000
open Go.RowKit Go.OpenShut

def sumPL (xs : List ByteArray) : List UInt8 := if xs.length < 2 then [] else xorL (addL (xs.take (xs.length - 2))) (xs.getD (xs.length - 2) ⟨#[]⟩).data.toList
def sumQL (xs : List ByteArray) : List UInt8 := if xs.length < 2 then [] else xorL (qL (xs.take (xs.length - 2))) (xs.getD (xs.length - 2 + 1) ⟨#[]⟩).data.toList
theorem addL_two (l : List UInt8) (x : ByteArray) : addL [⟨l.toArray⟩, x] = xorL l x.data.toList := by simp [addL, xorL_nil]

set_option maxHeartbeats 1000000 in
theorem ssum_small (w : World) (A : Option Addr) (n c : Nat) (hn : n < 2) :
    Calls Tryz.prog 87 #[.slice A n c] w fun e w' => e = .returned (.tuple #[.string ⟨#[]⟩, .string ⟨#[]⟩]) ∧ w = w' := by
  go_enter Tryz.func87, Tryz.ntmps87
  go_wp2_with fail
  go_ret2
  exact ⟨rfl, rfl⟩

set_option maxHeartbeats 2000000 in
theorem ssum_great (w : World) (b o m c : Nat) (xs : List ByteArray) (h : StrsA w w.heap.size (some ⟨b, o, none⟩) (m + 2) xs) (hb : b < w.heap.size)
    (hc1 : ∀ j, j < m + 2 → w.cell? ⟨b, o + j, none⟩ = some (.string (xs.getD j ⟨#[]⟩))) (hn : m + 2 ≤ 200) (hc : m + 2 ≤ c) (_hcm : c ≤ maxLen) (hx : ∀ x ∈ xs, x.size ≤ 4000000000) :
    Calls Tryz.prog 87 #[.slice (some ⟨b, o, none⟩) (m + 2 : Nat) c] w fun e w' =>
      e = .returned (.tuple #[.string ⟨(xorL (addL (xs.take m)) (xs.getD m ⟨#[]⟩).data.toList).toArray⟩, .string ⟨(xorL (qL (xs.take m)) (xs.getD (m + 1) ⟨#[]⟩).data.toList).toArray⟩]) ∧ Below w.heap.size w w' := by
  have q0 := hc1 m (by omega)
  have q1 := hc1 (m + 1) (by omega)
  have HS0 := Lib.hid (hx _ (mem_getD (xs := xs) (k := m) (by rw [h.1]; omega)))
  have HS1 := Lib.hid (hx _ (mem_getD (xs := xs) (k := m + 1) (by rw [h.1]; omega)))
  have T := Lib.hid (fun x (hm : x ∈ xs.take m) => hx x (List.mem_of_mem_take hm))
  generalize xs.getD m ⟨#[]⟩ = x0 at *
  generalize xs.getD (m + 1) ⟨#[]⟩ = x1 at *
  have ht := h.take m (by omega)
  have LP := addL_len 4000000000 _ T.out
  have LQ := qL_len 4000000000 _ T.out
  have HP := Lib.hid (addL_two (addL (xs.take m)) x0)
  have HQ := Lib.hid (addL_two (qL (xs.take m)) x1)
  have hsub : ((m + 2 : Nat) : Int) - 2 = (m : Int) := by omega
  have HL := Lib.hid (fun (Y : World) (hY : Below w.heap.size w Y) => (⟨(hY.cell (p := ⟨b, o + m, none⟩) hb).trans q0, (hY.cell (p := ⟨b, o + m + 1, none⟩) hb).trans q1⟩ : Y.cell? ⟨b, o + m, none⟩ = some (.string x0) ∧ Y.cell? ⟨b, o + m + 1, none⟩ = some (.string x1)))
  clear hc1 q0 q1 hx h
  go_enter Tryz.func87, Tryz.ntmps87
  go_wp2_with fail
  refine wp_region_nf (fun Y => Below w.heap.size w Y) (fun _ => false) [(0, true), (1, true), (2, true), (3, true), (4, true), (5, true), (6, true), (7, true), (8, true), (9, true), (10, true), (11, true)] (by kernel_rfl) rfl (by kernel_rfl) (by kernel_rfl) (fun d _ _ _ _ h => by cases d <;> exact h) ?_
  have hbd := (Below.refl w.heap.size w).drew
  replace ht := ht.drew
  have hz : w.heap.size = w.drew.heap.size := rfl
  rw [hz] at ht
  clear hz
  have hmc : (m : Int) ≤ (c : Int) := by omega
  generalize w.drew = V at *
  repeat (refine nf_pure rfl hbd (fun Y hY => by obtain ⟨g1, g2⟩ := HL.out Y hY; clear hY; go_wp2; exact ⟨rfl, rfl, rfl⟩) rfl ?_ ?_; rfl)
  refine nf_nil ?_
  go_wp2_with fail
  refine wp_region_nf (fun Y => Below w.heap.size w Y) (fun _ => false) [(0, true), (2, true), (3, true), (4, true), (7, true), (9, true), (10, true), (11, true), (1, false), (5, false), (6, false), (8, false), (12, false), (13, false), (14, true), (15, true)] (by kernel_rfl) rfl (by kernel_rfl) (by kernel_rfl) (fun d _ _ _ _ h => by cases d <;> exact h) ?_
  replace hbd := hbd.drew
  replace ht := ht.drew
  have hz : V.heap.size = V.drew.heap.size := rfl
  rw [hz] at ht
  clear hz
  generalize V.drew = V at *
  repeat (refine nf_pure rfl hbd (fun Y hY => by obtain ⟨g1, g2⟩ := HL.out Y hY; clear hY; go_wp2; exact ⟨rfl, rfl, rfl⟩) rfl ?_ ?_; rfl)
  refine nf_imp rfl ?_
  go_wp2_with fail
  refine (P_any _ _ _ _ _ _ ht (Nat.le_refl _) (by omega) (fun s hs => by have := T.out s hs; omega)).mono ?_
  rintro e W1 ⟨rfl, hb3⟩
  replace ht := (ht.below hb3).mono hb3.size
  replace hbd := hbd.trans (hb3.mono hbd.size)
  clear hb3
  go_wp2_with fail
  refine ⟨fun _ => hbd, ?_⟩
  refine nf_imp rfl ?_
  go_wp2_with fail
  have hN := Blk.new W1 9 ([⟨(addL (xs.take m)).toArray⟩, x0].map Value.string).toArray
  have hal := (Below.refl W1.heap.size W1).alloc (Nat.le_refl _) (.cells ([⟨(addL (xs.take m)).toArray⟩, x0].map Value.string).toArray 9)
  simp only [List.map_cons, List.map_nil] at hN hal
  replace ht := (ht.below hal).mono hal.size
  replace hbd := hbd.trans (hal.mono hbd.size)
  clear hal
  generalize W1.alloc (.cells #[.string ⟨(addL (xs.take m)).toArray⟩, .string x0] 9) = W2 at *
  refine ⟨fun _ => hbd, ?_⟩
  refine nf_imp rfl ?_
  go_wp2_with fail
  refine (added_any _ W2.heap.size _ 2 2 [⟨(addL (xs.take m)).toArray⟩, x0] (StrsA.blk hN rfl hN.lt) (Nat.le_refl _) (by omega) (by simp [size_mk]; have := HS0.out; omega)).mono ?_
  rintro e W3 ⟨rfl, hb3⟩
  rw [HP.out]
  replace ht := (ht.below hb3).mono hb3.size
  replace hbd := hbd.trans (hb3.mono hbd.size)
  clear hb3 hN
  go_wp2_with fail
  refine ⟨fun _ => hbd, ?_⟩
  refine nf_imp rfl ?_
  go_wp2_with fail
  refine (Q_any _ _ _ _ _ ht (by omega) (by omega) (fun s hs => by have := T.out s hs; omega)).mono ?_
  rintro e W4 ⟨rfl, hb3⟩
  replace ht := (ht.below hb3).mono hb3.size
  replace hbd := hbd.trans (hb3.mono hbd.size)
  clear hb3
  go_wp2_with fail
  refine ⟨fun _ => hbd, ?_⟩
  refine nf_imp rfl ?_
  go_wp2_with fail
  have hN := Blk.new W4 9 ([⟨(qL (xs.take m)).toArray⟩, x1].map Value.string).toArray
  have hal := (Below.refl W4.heap.size W4).alloc (Nat.le_refl _) (.cells ([⟨(qL (xs.take m)).toArray⟩, x1].map Value.string).toArray 9)
  simp only [List.map_cons, List.map_nil] at hN hal
  replace ht := (ht.below hal).mono hal.size
  replace hbd := hbd.trans (hal.mono hbd.size)
  clear hal
  generalize W4.alloc (.cells #[.string ⟨(qL (xs.take m)).toArray⟩, .string x1] 9) = W5 at *
  refine ⟨fun _ => hbd, ?_⟩
  refine nf_imp rfl ?_
  go_wp2_with fail
  refine (added_any _ W5.heap.size _ 2 2 [⟨(qL (xs.take m)).toArray⟩, x1] (StrsA.blk hN rfl hN.lt) (Nat.le_refl _) (by omega) (by simp [size_mk]; have := HS1.out; omega)).mono ?_
  rintro e W6 ⟨rfl, hb3⟩
  rw [HQ.out]
  replace hbd := hbd.trans (hb3.mono hbd.size)
  clear hb3 hN ht
  go_wp2_with fail
  refine ⟨fun _ => hbd, ?_⟩
  repeat (refine nf_pure rfl hbd (fun Y hY => by clear hY; go_wp2; exact ⟨rfl, rfl, rfl⟩) rfl ?_ ?_; rfl)
  refine nf_nil ?_
  go_wp2_with fail
  go_ret2
  exact ⟨rfl, hbd⟩
theorem ssum_any (w : World) (A : Option Addr) (n c : Nat) (xs : List ByteArray) (h : StrsA w w.heap.size A n xs) (hn : n ≤ 200) (hc : n ≤ c) (hcm : c ≤ maxLen) (hx : ∀ x ∈ xs, x.size ≤ 4000000000) :
    Calls Tryz.prog 87 #[.slice A n c] w fun e w' => e = .returned (.tuple #[.string ⟨(sumPL xs).toArray⟩, .string ⟨(sumQL xs).toArray⟩]) ∧ Below w.heap.size w w' := by
  have hl := h.1
  unfold sumPL sumQL
  rw [hl]
  by_cases h2 : n < 2
  · rw [if_pos h2, if_pos h2]
    refine (ssum_small w A n c h2).mono ?_
    rintro e w' ⟨rfl, rfl⟩
    exact ⟨rfl, Below.refl _ _⟩
  · rw [if_neg h2, if_neg h2]
    obtain ⟨b, o, rfl, hb, hc1⟩ := h.2 (by omega)
    obtain ⟨m, rfl⟩ : ∃ m, n = m + 2 := ⟨n - 2, by omega⟩
    rw [show m + 2 - 2 = m by omega]
    exact ssum_great w b o m c xs h hb hc1 hn hc hcm hx
theorem sumPL_len (xs : List ByteArray) (M : Nat) (hx : ∀ x ∈ xs, x.size ≤ M) : (sumPL xs).length ≤ M := by
  unfold sumPL
  split
  · simp
  · rw [xorL_length]
    have h1 := addL_len M (xs.take (xs.length - 2)) (fun x h => hx x (List.mem_of_mem_take h))
    have h2 := hx _ (mem_getD (xs := xs) (k := xs.length - 2) (by omega))
    have h3 := list_len (xs.getD (xs.length - 2) ⟨#[]⟩)
    omega
theorem sumQL_len (xs : List ByteArray) (M : Nat) (hx : ∀ x ∈ xs, x.size ≤ M) : (sumQL xs).length ≤ M := by
  unfold sumQL
  split
  · simp
  · rw [xorL_length]
    have h1 := qL_len M (xs.take (xs.length - 2)) (fun x h => hx x (List.mem_of_mem_take h))
    have h2 := hx _ (mem_getD (xs := xs) (k := xs.length - 2 + 1) (by omega))
    have h3 := list_len (xs.getD (xs.length - 2 + 1) ⟨#[]⟩)
    omega
def goodL (xs : List ByteArray) : Bool := decide (1 < xs.length) && (zeroB (sumPL xs) && zeroB (sumQL xs))
set_option maxHeartbeats 2000000 in
theorem sgood_any (w : World) (A : Option Addr) (n c : Nat) (xs : List ByteArray) (h : StrsA w w.heap.size A n xs) (hn : n ≤ 200) (hc : n ≤ c) (hcm : c ≤ maxLen) (hx : ∀ x ∈ xs, x.size ≤ 4000000000) :
    Calls Tryz.prog 30 #[.slice A n c] w fun e w' => e = .returned (.bool (goodL xs)) ∧ Below w.heap.size w w' := by
  have HC := Lib.hid (ssum_any w A n c xs h hn hc hcm hx)
  have lp := sumPL_len xs 4000000000 hx
  have lq := sumQL_len xs 4000000000 hx
  have hg : goodL xs = (decide (1 < n) && (zeroB (sumPL xs) && zeroB (sumQL xs))) := by unfold goodL; rw [h.1]
  generalize goodL xs = R at *
  generalize sumPL xs = P at *
  generalize sumQL xs = Q at *
  have G1 := Lib.hid (fun V => good1_any V ⟨P.toArray⟩ (by rw [size_mk]; omega))
  have G2 := Lib.hid (fun V => good1_any V ⟨Q.toArray⟩ (by rw [size_mk]; omega))
  rw [mk_list] at G1 G2
  generalize zeroB P = p at *
  generalize zeroB Q = q at *
  have HG := Lib.hid hg
  clear hg h hx
  by_cases h1 : 1 < n
  · have hd : decide (1 < n) = true := decide_eq_true h1
    rw [hd] at HG
    clear hd
    cases p
    · obtain rfl : R = false := by rw [HG.out]; rfl
      clear HG
      go_enter Tryz.func30, Tryz.ntmps30
      go_wp2_with fail
      refine HC.out.mono ?_
      rintro e W1 ⟨rfl, hb⟩
      go_wp2_with fail
      refine (G1.out _).mono ?_
      rintro e W2 ⟨rfl, hb2⟩
      go_wp2_with fail
      go_ret
      exact ⟨rfl, hb.trans (hb2.mono hb.size)⟩
    · obtain rfl : R = q := by rw [HG.out]; simp
      clear HG
      go_enter Tryz.func30, Tryz.ntmps30
      go_wp2_with fail
      refine HC.out.mono ?_
      rintro e W1 ⟨rfl, hb⟩
      go_wp2_with fail
      refine (G1.out _).mono ?_
      rintro e W2 ⟨rfl, hb2⟩
      go_wp2_with fail
      refine (G2.out _).mono ?_
      rintro e W3 ⟨rfl, hb3⟩
      go_wp2_with fail
      go_ret
      exact ⟨rfl, (hb.trans (hb2.mono hb.size)).trans (hb3.mono (Nat.le_trans hb.size hb2.size))⟩
  · obtain rfl : R = false := by rw [HG.out, decide_eq_false h1]; rfl
    clear HG
    go_enter Tryz.func30, Tryz.ntmps30
    go_wp2_with fail
    refine HC.out.mono ?_
    rintro e W1 ⟨rfl, hb⟩
    go_wp2_with fail
    go_ret
    exact ⟨rfl, hb⟩
end Go.Proofs.YtmhmdoobadckkaaGreatDoor
/- a row with its own P and Q: the plain law. -/
namespace Go.Proofs.YtmhmdoobadckkaaGreatDoor
set_option maxRecDepth 20000
open Go.RowKit Go.OpenShut

/-! ### the plain law -/
def fullS (xs : List ByteArray) : List ByteArray := xs ++ [⟨(addL xs).toArray⟩, ⟨(qL xs).toArray⟩]
theorem fullS_len (xs : List ByteArray) : (fullS xs).length = xs.length + 2 := by simp [fullS]
theorem sums_at (xs ys : List ByteArray) (a b : ByteArray) (hl : ys.length = xs.length) : sumPL (ys ++ [a, b]) = xorL (addL ys) a.data.toList ∧ sumQL (ys ++ [a, b]) = xorL (qL ys) b.data.toList := by
  have h1 : (ys ++ [a, b]).length = ys.length + 2 := by simp
  have h2 : (ys ++ [a, b]).take ys.length = ys := by simp
  have h3 : (ys ++ [a, b]).getD ys.length ⟨#[]⟩ = a := by simp [List.getD]
  have h4 : (ys ++ [a, b]).getD (ys.length + 1) ⟨#[]⟩ = b := by simp [List.getD]
  unfold sumPL sumQL
  rw [h1, if_neg (by omega), if_neg (by omega), show ys.length + 2 - 2 = ys.length by omega, h2, h3, h4]
  exact ⟨rfl, rfl⟩
theorem good_full (xs : List ByteArray) : goodL (fullS xs) = true := by
  obtain ⟨h1, h2⟩ := sums_at xs xs ⟨(addL xs).toArray⟩ ⟨(qL xs).toArray⟩ rfl
  unfold goodL
  rw [fullS_len]
  unfold fullS
  rw [h1, h2, mk_list, mk_list, zeroB_self, zeroB_self]
  simp
theorem zeroB_not (l : List UInt8) (j : Nat) (h : l.getD j 0 ≠ 0) : zeroB l = false := by
  rw [Bool.eq_false_iff]
  intro e
  by_cases hj : j < l.length
  · exact h ((zeroB_iff l).1 e j hj)
  · exact h (getD_ge (by omega))
theorem good_spoilt (xs : List ByteArray) (i j : Nat) (s' : ByteArray) (by_ : UInt8) (hi : i < xs.length + 2) (hb : by_ ≠ 0)
    (hs : s'.data.toList.getD j 0 = ((fullS xs).getD i ⟨#[]⟩).data.toList.getD j 0 ^^^ by_) : goodL ((fullS xs).set i s') = false := by
  have hx : ∀ a : UInt8, a ^^^ (a ^^^ by_) = by_ := fun a => by rw [← UInt8.xor_assoc, UInt8.xor_self, UInt8.zero_xor]
  have hx2 : ∀ a b : UInt8, (a ^^^ b ^^^ (b ^^^ by_)) ^^^ a = by_ := fun a b => by
    have : (a ^^^ b ^^^ (b ^^^ by_)) ^^^ a = (a ^^^ a) ^^^ (b ^^^ b) ^^^ by_ := by ac_rfl
    rw [this, UInt8.xor_self, UInt8.xor_self, UInt8.xor_zero, UInt8.zero_xor]
  unfold goodL
  rw [Bool.and_eq_false_iff]
  right
  rw [Bool.and_eq_false_iff]
  rcases Nat.lt_or_ge i xs.length with h | h
  · left
    have e1 : (fullS xs).set i s' = xs.set i s' ++ [⟨(addL xs).toArray⟩, ⟨(qL xs).toArray⟩] := by unfold fullS; rw [List.set_append_left _ _ h]
    have e2 : (fullS xs).getD i ⟨#[]⟩ = xs.getD i ⟨#[]⟩ := by unfold fullS; simp [List.getD, List.getElem?_append_left h]
    rw [e2] at hs
    rw [e1, (sums_at xs _ _ _ (by simp)).1, mk_list]
    refine zeroB_not _ j ?_
    rw [xorL_getD, addL_set j s' xs i h, hs, hx2]
    exact hb
  · rcases (show i = xs.length ∨ i = xs.length + 1 by omega) with rfl | rfl
    · left
      have e1 : (fullS xs).set xs.length s' = xs ++ [s', ⟨(qL xs).toArray⟩] := by unfold fullS; rw [List.set_append_right _ _ (Nat.le_refl _)]; simp
      have e2 : (fullS xs).getD xs.length ⟨#[]⟩ = ⟨(addL xs).toArray⟩ := by unfold fullS; simp [List.getD]
      rw [e2, mk_list] at hs
      rw [e1, (sums_at xs _ _ _ rfl).1]
      refine zeroB_not _ j ?_
      rw [xorL_getD, hs, hx]
      exact hb
    · right
      have e1 : (fullS xs).set (xs.length + 1) s' = xs ++ [⟨(addL xs).toArray⟩, s'] := by unfold fullS; rw [List.set_append_right _ _ (by omega)]; simp
      have e2 : (fullS xs).getD (xs.length + 1) ⟨#[]⟩ = ⟨(qL xs).toArray⟩ := by unfold fullS; simp [List.getD]
      rw [e2, mk_list] at hs
      rw [e1, (sums_at xs _ _ _ rfl).2]
      refine zeroB_not _ j ?_
      rw [xorL_getD, hs, hx]
      exact hb
theorem fullS_size (xs : List ByteArray) (M : Nat) (h : ∀ x ∈ xs, x.size ≤ M) : ∀ x ∈ fullS xs, x.size ≤ M := by
  intro x hx
  unfold fullS at hx
  rw [List.mem_append] at hx
  rcases hx with hx | hx
  · exact h x hx
  · simp only [List.mem_cons, List.not_mem_nil, or_false] at hx
    rcases hx with rfl | rfl
    · rw [size_mk]; exact addL_len M xs h
    · rw [size_mk]; exact qL_len M xs h
def spoilS (s : ByteArray) (j : Nat) (b : UInt8) : ByteArray := s.extract 0 j ++ ByteArray.mk #[b] ++ s.extract (j + 1) s.size
theorem spoilS_list (s : ByteArray) (i : Nat) (b : UInt8) : (spoilS s i b).data.toList = s.data.toList.take i ++ b :: s.data.toList.drop (i + 1) := by
  unfold spoilS
  simp
  exact List.take_of_length_le (by simp)
theorem spoilS_size (s : ByteArray) (i : Nat) (b : UInt8) (h : i < s.size) : (spoilS s i b).size = s.size := by
  rw [← list_len, spoilS_list, ← list_len s]
  have := list_len s
  simp
  omega
theorem spoilS_at (s : ByteArray) (i : Nat) (b : UInt8) (h : i < s.size) : (spoilS s i b).data.toList.getD i 0 = b := by
  rw [spoilS_list]
  have h1 : (s.data.toList.take i).length = i := by rw [List.length_take, list_len]; omega
  simp [List.getD, h1]

theorem OwnS.put {w : World} {base g n c : Nat} {l : List ByteArray} (h : OwnS w base (.slice (some ⟨g, 0, none⟩) n c) l) (hl : l.length = n) (j : Nat) (u : ByteArray) :
    OwnS (w.setCell ⟨g, j, none⟩ (.string u)) base (.slice (some ⟨g, 0, none⟩) n c) (l.set j u) := by
  subst hl
  have h1 := (World.ownsRow.stored h j (.string u)).1
  unfold OwnS
  have e : svs (l.set j u) = (svs l).set j (.string u) := by simp [svs, List.map_set]
  rw [e, List.length_set]
  exact h1
theorem OwnS.base' {w : World} {base g n c : Nat} {l : List ByteArray} (h : OwnS w base (.slice (some ⟨g, 0, none⟩) n c) l) : base ≤ g := (World.ownsRow.lt h g rfl).1
theorem conv_new (V : World) (g : Nat) (b : UInt8) (h : Blk V g 5 #[.int .u8 (b.toNat : Int)]) : (convert 62 9 (.slice (some ⟨g, 0, none⟩) 1 1)).run Tryz.prog V = .ok (.string ⟨#[b]⟩) V :=
  Blk.conv (l := [b]) h rfl
end Go.Proofs.YtmhmdoobadckkaaGreatDoor
