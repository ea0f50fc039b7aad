/- gf.Times. -/
import Derived.Test.YtaghdkiafgainaaDoorGExp
namespace Go.Proofs.YtaghdkiafgainaaDoor
set_option maxRecDepth 20000
open Go.RowKit Go.OpenShut

theorem Tab.ex {w : World} {g : Nat} (h : Tab w g) (i : Nat) (hi : i < 510) : w.cell? ⟨g, 4 + i, none⟩ = some (.int .u8 (pw i : Nat)) := by
  by_cases h1 : i < 255
  · exact h.e1 i h1
  · obtain ⟨j, rfl⟩ : ∃ j, i = j + 255 := ⟨i - 255, by omega⟩
    rw [pw_add255]
    exact h.e2 j (by omega)

set_option maxRecDepth 100000 in
set_option maxHeartbeats 1000000 in
theorem tmul_ok (w : World) (g a b : Nat) (ht : Tab w g) (ha : a < 256) (hb : b < 256) (h0 : a ≠ 0) (h1 : b ≠ 0) :
    Calls Tryd.prog 31 #[.pointer (some ⟨g, 0, none⟩), .int .u8 a, .int .u8 b] w fun e w' => e = .returned (.int .u8 (gm a b : Nat)) ∧ Below w.heap.size w w' := by
  have ca := ht.lg ha h0
  have cb := ht.lg hb h1
  obtain ⟨ga, ea⟩ := pw_lg ha h0
  obtain ⟨gb, eb⟩ := pw_lg hb h1
  have ce := ht.ex (lg a + lg b) (by omega)
  have hgm : pw (lg a + lg b) = gm a b := by rw [← gm_pp, ea, eb]
  rw [hgm] at ce
  have ha0 : ((a : Int) == 0) = false := beq_eq_false_iff_ne.2 (by omega)
  have hb0 : ((b : Int) == 0) = false := beq_eq_false_iff_ne.2 (by omega)
  generalize gm a b = P at *
  generalize lg a = x at *
  generalize lg b = y at *
  clear ea eb hgm h0 h1 ht
  go_enter Tryd.func31, Tryd.ntmps31
  go_wp2_with fail
  refine wp_region_nf (fun V => V.cell? ⟨g, 514 + a, none⟩ = some (.int .i64 (x : Int)) ∧ V.cell? ⟨g, 514 + b, none⟩ = some (.int .i64 (y : Int)) ∧ V.cell? ⟨g, 4 + (x + y), none⟩ = some (.int .u8 (P : Int))) (fun _ => false) [(0, true), (1, true), (2, true), (3, true), (4, true), (5, true), (6, true), (7, true), (8, true), (9, true), (10, true), (11, true), (12, true), (13, true), (14, true), (15, true), (16, true), (17, true), (18, true)] (by kernel_rfl) rfl (by kernel_rfl) (by kernel_rfl) (fun d _ _ _ _ h => by cases d <;> exact h) ?_
  have hS : w.drew.cell? ⟨g, 514 + a, none⟩ = some (.int .i64 (x : Int)) ∧ w.drew.cell? ⟨g, 514 + b, none⟩ = some (.int .i64 (y : Int)) ∧ w.drew.cell? ⟨g, 4 + (x + y), none⟩ = some (.int .u8 (P : Int)) := ⟨ca, cb, ce⟩
  repeat (refine nf_pure rfl hS (fun w1 hS => by obtain ⟨g1, g2, g3⟩ := hS; go_wp2; exact ⟨rfl, rfl, rfl⟩) rfl ?_ ?_; rfl)
  refine nf_nil ?_
  go_wp2_with fail
  go_ret
  exact ⟨rfl, (Below.refl _ _).drew⟩
theorem tmul_any (w : World) (g a b : Nat) (ht : Tab w g) (ha : a < 256) (hb : b < 256) :
    Calls Tryd.prog 31 #[.pointer (some ⟨g, 0, none⟩), .int .u8 a, .int .u8 b] w fun e w' => e = .returned (.int .u8 (gm a b : Nat)) ∧ Below w.heap.size w w' := by
  by_cases h0 : a = 0
  · subst h0
    rw [gm_zero_left]
    clear ht
    go_enter Tryd.func31, Tryd.ntmps31
    go_wp2_with fail
    go_ret
    exact ⟨rfl, Below.refl _ _⟩
  · by_cases h1 : b = 0
    · subst h1
      rw [gm_zero_right]
      have ha0 : ((a : Int) == 0) = false := beq_eq_false_iff_ne.2 (by omega)
      clear ht
      go_enter Tryd.func31, Tryd.ntmps31
      go_wp2_with fail
      go_ret
      exact ⟨rfl, Below.refl _ _⟩
    · exact tmul_ok w g a b ht ha hb h0 h1

def mulL (l : List UInt8) (b : Nat) : List UInt8 := l.map fun c => UInt8.ofNat (gm c.toNat b)
def mulK (l : List UInt8) (b k : Nat) : List UInt8 := mulL (l.take k) b ++ List.replicate (l.length - k) 0
theorem mulK_len (l : List UInt8) (b k : Nat) (h : k ≤ l.length) : (mulK l b k).length = l.length := by
  simp [mulK, mulL]
  omega
theorem mulK_zero (l : List UInt8) (b : Nat) : mulK l b 0 = List.replicate l.length 0 := by simp [mulK, mulL]
theorem mulK_all (l : List UInt8) (b : Nat) : mulK l b l.length = mulL l b := by simp [mulK]
theorem mulK_set (l : List UInt8) (b k : Nat) (h : k < l.length) : (mulK l b k).set k (UInt8.ofNat (gm l[k].toNat b)) = mulK l b (k + 1) := by
  unfold mulK mulL
  have h1 : l.length - k = (l.length - (k + 1)) + 1 := by omega
  rw [h1, List.replicate_succ, List.take_succ_eq_append_getElem h, List.map_append, List.set_append_right _ _ (by simp; omega)]
  have h2 : k - (List.map (fun c => UInt8.ofNat (gm c.toNat b)) (l.take k)).length = 0 := by simp; omega
  rw [h2]
  simp

theorem mulK_all' (s : ByteArray) (b : Nat) : (mulK s.data.toList b s.size).length = s.size := by
  rw [mulK_len _ _ _ (by simp)]
  simp
theorem BRow.below {w w' : World} {g : Nat} {l : List UInt8} (h : BRow w g l) (hb : Below w.heap.size w w') (hg : g < w.heap.size) : BRow w' g l :=
  ⟨fun i hi => (hb.cell (p := ⟨g, i, none⟩) hg).trans (h.1 i hi), fun i hi => (hb.frozen (p := ⟨g, i, none⟩) hg).trans (h.2 i hi)⟩
set_option maxRecDepth 100000 in
set_option maxHeartbeats 2000000 in
theorem times_any (w : World) (s : ByteArray) (b : Nat) (hs : s.size ≤ 4294967295) (hb : b < 256) :
    Calls Tryd.prog 19 #[.string s, .int .u8 b] w fun e w' => e = .returned (.string ⟨(mulL s.data.toList b).toArray⟩) ∧ Below w.heap.size w w' := by
  have hmk := run_makeB s.size (by omega)
  have hls : s.data.toList.length = s.size := by simp
  obtain ⟨X, hX⟩ : ∃ X, mulL s.data.toList b = X := ⟨_, rfl⟩
  rw [hX]
  have hXk := mulK_all s.data.toList b
  rw [hX, hls] at hXk
  have HX := Lib.hid hXk
  clear hX hXk
  obtain ⟨z, hz⟩ : ∃ z, List.replicate s.size (0 : UInt8) = z := ⟨_, rfl⟩
  have hz0 := mulK_zero s.data.toList b
  rw [hls, hz] at hz0
  rw [hz] at hmk
  have HZ := Lib.hid hz0
  clear hz hz0
  go_enter Tryd.func19, Tryd.ntmps19
  go_wp2_with fail
  refine (fresh_any w).mono ?_
  rintro e w1 ⟨rfl, ht, hbe, hsz⟩
  go_wp2_with fail
  have hblk := Blk.new w1 5 (bcs z).toArray
  have hb1 := hbe.alloc hbe.size (.cells (bcs z).toArray 5)
  have ht1 := ht.below ((Below.refl _ w1).alloc (Nat.le_refl _) (.cells (bcs z).toArray 5)) hsz
  have hs1 : (w1.alloc (.cells (bcs z).toArray 5)).heap.size = w1.heap.size + 1 := by simp
  have hrow : BRow (w1.alloc (.cells (bcs z).toArray 5)) w1.heap.size z := ⟨fun i hi => hblk.bcell i hi, fun i _ => hblk.frozen i⟩
  generalize w1.alloc (.cells (bcs z).toArray 5) = W at *
  generalize w1.heap.size = B at *
  clear hmk ht hbe hblk
  go_loopw [15] (fun i wr => ∃ k : Nat, k ≤ s.size ∧ i = .int .i64 k ∧ BRow wr B (mulK s.data.toList b k) ∧ Tab wr w.heap.size ∧ Below w.heap.size w wr ∧ B < wr.heap.size) (fun i _ => s.size - (intOf i).toNat)
  case atStart => exact ⟨0, by omega, rfl, by rw [HZ.out]; exact hrow, ht1, hb1, by omega⟩
  case round =>
    obtain ⟨k, hk, rfl, hr, ht, hbe, hBs⟩ := hrel
    clear hrow ht1 hb1
    by_cases hlk : k < s.size
    · have hlen := mulK_len s.data.toList b k (by omega)
      have hset := mulK_set s.data.toList b k (by omega)
      have hgl : s.data.toList[k] = s[k] := rfl
      rw [hgl] at hset
      obtain ⟨x, hx⟩ : ∃ x : Nat, (s[k].toNat : Int) = (x : Int) := ⟨_, rfl⟩
      have hx' : s[k].toNat = x := by omega
      have hxl : x < 256 := by rw [← hx']; exact s[k].toNat_lt
      rw [hx'] at hset
      have HSET := Lib.hid hset
      have HT := Lib.hid ht
      have HR := Lib.hid hr
      have HL := Lib.hid hlen
      clear hr ht hset hlen hgl hx'
      go_wp2_with fail
      refine (tmul_any _ _ x b HT.out hxl hb).mono ?_
      rintro e w2 ⟨rfl, hb2⟩
      have hr2 := HR.out.below hb2 hBs
      have ht2 := HT.out.below hb2 (Nat.lt_of_le_of_lt (Nat.le_of_lt hsz) hBs)
      have hbe2 := hbe.trans (hb2.mono hbe.size)
      have hBs2 := Nat.lt_of_lt_of_le hBs hb2.size
      have hc := hr2.1 k (by rw [HL.out]; omega)
      have hf := hr2.2 k (by rw [HL.out]; omega)
      have hgm := gm_lt (b := b) hxl
      have hst := hr2.set_ k (by rw [HL.out]; omega) (UInt8.ofNat (gm x b))
      rw [HSET.out] at hst
      have hbc : bc (UInt8.ofNat (gm x b)) = .int .u8 ((gm x b : Nat) : Int) := by
        unfold bc
        rw [UInt8.toNat_ofNat_of_lt' hgm]
      rw [hbc] at hst
      have htt : Tab (w2.setCell ⟨B, k, none⟩ (.int .u8 ((gm x b : Nat) : Int))) w.heap.size := by
        have hne : ∀ j, (⟨B, k, none⟩ : Addr) ≠ ⟨w.heap.size, j, none⟩ := fun j h => by have := (Addr.mk.inj h).1; omega
        exact ⟨fun i hi => (World.cell?_setCell_other _ _ _ _ (hne _)).trans (ht2.e1 i hi), fun i hi => (World.cell?_setCell_other _ _ _ _ (hne _)).trans (ht2.e2 i hi), fun i hi => (World.cell?_setCell_other _ _ _ _ (hne _)).trans (ht2.lo i hi), (World.cell?_setCell_other _ _ _ _ (hne _)).trans ht2.made⟩
      have HST := Lib.hid hst
      have HTT := Lib.hid htt
      generalize gm x b = P at *
      clear hst htt hr2 ht2 hbe hb2
      go_wp2_with fail
      go_roundw
      case rel => exact ⟨k + 1, by omega, by go_num, HST.out, HTT.out, hbe2.setCell (by show w.heap.size ≤ B; omega) _, by simp [World.setCell]; omega⟩
      case measure => simp [intOf]; omega
    · obtain rfl : k = s.size := by omega
      have hxk := HX.out
      rw [hxk] at hr
      have hXl : X.length = s.size := by rw [← hxk, mulK_all' s b]
      have hcv := fun c => hr.conv (n := s.size) (c := c) hXl
      clear hr ht
      go_wp2_with fail
      go_ret
      exact ⟨rfl, hbe⟩
end Go.Proofs.YtaghdkiafgainaaDoor
