/- syndrome.Delta; the document's Zero. -/
import Derived.Test.YtaghdkiafgainaaDoorSyQ
namespace Go.Proofs.YtaghdkiafgainaaDoor
set_option maxRecDepth 20000
open Go.RowKit Go.OpenShut

def dL (s t : List UInt8) (i : Int) : List UInt8 := mulL (xorL s t) (pw (i % 255).toNat)
set_option maxHeartbeats 1000000 in
theorem delta_any (w : World) (s t : ByteArray) (i : Int) (hs : s.size ≤ 4294967295) (ht : t.size ≤ 4294967295) :
    Calls Tryd.prog 10 #[.string s, .string t, .int .i64 i] w fun e w' => e = .returned (.tuple #[.string ⟨(xorL s.data.toList t.data.toList).toArray⟩, .string ⟨(dL s.data.toList t.data.toList i).toArray⟩]) ∧ Below w.heap.size w w' := by
  have hX : addL [s, t] = xorL s.data.toList t.data.toList := by simp [addL, xorL_nil]
  have hXl : (xorL s.data.toList t.data.toList).length ≤ 4294967295 := by
    rw [xorL_length]
    have h1 : s.data.toList.length = s.size := by simp
    have h2 : t.data.toList.length = t.size := by simp
    omega
  have hd : dL s.data.toList t.data.toList i = mulL (xorL s.data.toList t.data.toList) (pw (i % 255).toNat) := rfl
  rw [hd]
  clear hd
  generalize xorL s.data.toList t.data.toList = X at *
  have HX := Lib.hid hX
  clear hX
  have hpw := pw_lt (i % 255).toNat
  have HE := Lib.hid (fun w => exp_any w i)
  generalize pw (i % 255).toNat = p at *
  go_enter Tryd.func10, Tryd.ntmps10
  go_wp2_with fail
  have hN : Blk (w.alloc (.cells #[.string s, .string t] 9)) w.heap.size 9 ([s, t].map Value.string).toArray := Blk.new w 9 #[.string s, .string t]
  have hbe := (Below.refl w.heap.size w).alloc (Nat.le_refl _) (.cells #[.string s, .string t] 9)
  generalize w.alloc (.cells #[.string s, .string t] 9) = w0 at *
  refine (added_any _ w0.heap.size _ 2 2 _ (StrsA.blk hN rfl hN.lt) (Nat.le_refl _) (by omega) (by simp; exact ⟨hs, ht⟩)).mono ?_
  rintro e w1 ⟨rfl, hb1⟩
  rw [HX.out]
  replace hbe := hbe.trans (hb1.mono hbe.size)
  clear hb1 hN
  go_wp2_with fail
  refine (HE.out _).mono ?_
  rintro e w2 ⟨rfl, hb1⟩
  replace hbe := hbe.trans (hb1.mono hbe.size)
  clear hb1
  go_wp2_with fail
  refine (times_any _ ⟨X.toArray⟩ p (by rw [size_mk]; exact hXl) hpw).mono ?_
  rintro e w3 ⟨rfl, hb1⟩
  replace hbe := hbe.trans (hb1.mono hbe.size)
  clear hb1
  rw [mk_list]
  go_wp2_with fail
  go_ret2
  exact ⟨rfl, hbe⟩

def zeroB (l : List UInt8) : Bool := l.all (· == 0)
theorem zeroB_iff (l : List UInt8) : zeroB l = true ↔ ∀ i, i < l.length → l.getD i 0 = 0 := by
  unfold zeroB
  rw [List.all_eq_true]
  constructor
  · intro h i hi
    have := h (l[i]) (List.getElem_mem hi)
    simpa [List.getD, hi] using this
  · intro h x hx
    obtain ⟨i, hi, rfl⟩ := List.mem_iff_getElem.1 hx
    have := h i hi
    simpa [List.getD, hi] using this
set_option maxHeartbeats 1000000 in
theorem zero_any (w : World) (s : ByteArray) (hs : s.size ≤ 4294967295) :
    Calls Tryd.prog 26 #[.string s] w fun e w' => e = .returned (.bool (zeroB s.data.toList)) ∧ w = w' := by
  have hl : s.data.toList.length = s.size := by simp
  have HL := Lib.hid hl
  clear hl
  go_enter Tryd.func26, Tryd.ntmps26
  go_wp2
  go_loop [3] (fun i => ∃ k : Nat, k ≤ s.size ∧ i = .int .i64 k ∧ ∀ j, j < k → s.data.toList.getD j 0 = 0) (fun i => s.size - (intOf i).toNat)
  case atStart => exact ⟨0, by omega, rfl, fun j hj => by omega⟩
  case round =>
    obtain ⟨k, hk, rfl, hall⟩ := hrel
    have HA := Lib.hid hall
    clear hall
    by_cases hlt : k < s.size
    · have HG := Lib.hid (show s.data.toList.getD k 0 = s[k] by simp [List.getD, hlt]; rfl)
      go_wp2
      · have hne : ((s[k].toNat : Int) != 0) = true := by assumption
        go_ret
        have hz : zeroB s.data.toList = false := by
          rw [Bool.eq_false_iff]
          intro h
          have h2 := (zeroB_iff _).1 h k (by rw [HL.out]; exact hlt)
          rw [HG.out] at h2
          rw [h2] at hne
          simp at hne
        exact ⟨by rw [hz]; rfl, rfl⟩
      · have heq : ((s[k].toNat : Int) != 0) = false := by assumption
        go_round
        case rel =>
          refine ⟨k + 1, by omega, by go_num, fun j hj => ?_⟩
          by_cases e : j = k
          · subst e
            rw [HG.out]
            apply UInt8.toNat_inj.1
            simpa using heq
          · exact HA.out j (by omega)
        case measure => simp [intOf]; omega
    · obtain rfl : k = s.size := by omega
      go_wp2
      go_ret
      have hz : zeroB s.data.toList = true := (zeroB_iff _).2 (fun i hi => HA.out i (by rw [HL.out] at hi; exact hi))
      exact ⟨by rw [hz]; rfl, rfl⟩
end Go.Proofs.YtaghdkiafgainaaDoor
