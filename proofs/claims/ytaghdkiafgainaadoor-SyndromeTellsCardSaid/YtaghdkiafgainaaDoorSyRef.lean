/- The document's P, Q, Delta, Sum, Good. -/
import Derived.Test.YtaghdkiafgainaaDoorSyGood
import Derived.Test.YtaghdkiafgainaaDoorRExp
import Derived.Test.YtaghdkiafgainaaDoorRXor
namespace Go.Proofs.YtaghdkiafgainaaDoor
set_option maxRecDepth 20000
open Go.RowKit Go.OpenShut

theorem take_getS (xs : List ByteArray) (k : Nat) (h : k < xs.length) : xs.take (k + 1) = xs.take k ++ [xs.getD k ⟨#[]⟩] := take_snocS xs k h
set_option maxHeartbeats 2000000 in
theorem refP_any (w : World) (A : Option Addr) (n c : Nat) (xs : List ByteArray) (h : StrsA w w.heap.size A n xs) (hn : n ≤ 200) (hx : ∀ x ∈ xs, x.size ≤ 4000000000) :
    Calls Tryd.prog 14 #[.slice A n c] w fun e w' => e = .returned (.string ⟨(addL xs).toArray⟩) ∧ Below w.heap.size w w' := by
  have HXX := Lib.hid hx
  have HXL := Lib.hid h.1
  clear hx
  go_enter Tryd.func14, Tryd.ntmps14
  go_wp2_with fail
  go_loopw [3, 4] (fun s i wr => ∃ k : Nat, k ≤ n ∧ i = .int .i64 k ∧ s = .string ⟨(addL (xs.take k)).toArray⟩ ∧ Below w.heap.size w wr) (fun _ i _ => n - (intOf i).toNat)
  case atStart => exact ⟨0, by omega, rfl, rfl, Below.refl _ _⟩
  case round =>
    obtain ⟨k, hk, rfl, rfl, hbr⟩ := hrel
    by_cases hlt : k < n
    · obtain ⟨b, o, rfl, hb, hc1⟩ := h.2 (by omega)
      have q := (hbr.cell (p := ⟨b, o + k, none⟩) hb).trans (hc1 k hlt)
      have HS := Lib.hid (HXX.out _ (mem_getD (xs := xs) (k := k) (by rw [HXL.out]; omega)))
      have HN := Lib.hid (show addL (xs.take (k + 1)) = xorL (addL (xs.take k)) (xs.getD k ⟨#[]⟩).data.toList by rw [take_getS xs k (by rw [HXL.out]; exact hlt), addL_snoc])
      have HL := Lib.hid (addL_len 4000000000 (xs.take k) (fun x hm => HXX.out x (List.mem_of_mem_take hm)))
      generalize xs.getD k ⟨#[]⟩ = x at *
      generalize addL (xs.take k) = P at *
      clear hc1
      go_wp2_with fail
      refine (refXor_any _ ⟨P.toArray⟩ x (by rw [size_mk]; have := HL.out; omega) (by have := HS.out; omega)).mono ?_
      rintro e w3 ⟨rfl, hb3⟩
      rw [mk_list, ← HN.out]
      replace hbr := hbr.trans (hb3.mono hbr.size)
      go_wp2_with fail
      go_roundw
      case rel => exact ⟨k + 1, by omega, by go_num, rfl, hbr⟩
      case measure => simp [intOf]; omega
    · obtain rfl : k = n := by omega
      rw [List.take_of_length_le (by rw [HXL.out]; exact Nat.le_refl _)]
      go_wp2_with fail
      go_ret
      exact ⟨rfl, hbr⟩
set_option maxHeartbeats 2000000 in
theorem refQ_any (w : World) (A : Option Addr) (n c : Nat) (xs : List ByteArray) (h : StrsA w w.heap.size A n xs) (hn : n ≤ 200) (hx : ∀ x ∈ xs, x.size ≤ 4000000000) :
    Calls Tryd.prog 15 #[.slice A n c] w fun e w' => e = .returned (.string ⟨(qL xs).toArray⟩) ∧ Below w.heap.size w w' := by
  have HXX := Lib.hid hx
  have HXL := Lib.hid h.1
  clear hx
  go_enter Tryd.func15, Tryd.ntmps15
  go_wp2_with fail
  go_loopw [3, 4] (fun s i wr => ∃ k : Nat, k ≤ n ∧ i = .int .i64 k ∧ s = .string ⟨(qL (xs.take k)).toArray⟩ ∧ Below w.heap.size w wr) (fun _ i _ => n - (intOf i).toNat)
  case atStart => exact ⟨0, by omega, rfl, rfl, Below.refl _ _⟩
  case round =>
    obtain ⟨k, hk, rfl, rfl, hbr⟩ := hrel
    by_cases hlt : k < n
    · obtain ⟨b, o, rfl, hb, hc1⟩ := h.2 (by omega)
      have q := hc1 k hlt
      have HS := Lib.hid (HXX.out _ (mem_getD (xs := xs) (k := k) (by rw [HXL.out]; omega)))
      have HN := Lib.hid (show qL (xs.take (k + 1)) = xorL (qL (xs.take k)) (mulL (xs.getD k ⟨#[]⟩).data.toList (pw k)) by
        rw [take_getS xs k (by rw [HXL.out]; exact hlt), qL_snoc, List.length_take, HXL.out, Nat.min_eq_left (by omega)])
      have HL := Lib.hid (qL_len 4000000000 (xs.take k) (fun x hm => HXX.out x (List.mem_of_mem_take hm)))
      have HE := Lib.hid (fun V => refExp_any V (k : Int))
      have hke : ((k : Int) % 255).toNat = k := by omega
      rw [hke] at HE
      clear hke
      have hpw := pw_lt k
      generalize pw k = p at *
      generalize xs.getD k ⟨#[]⟩ = x at *
      generalize qL (xs.take k) = P at *
      have HC := Lib.hid (fun (Y : World) (hY : Below w.heap.size w Y) => (hY.cell (p := ⟨b, o + k, none⟩) hb).trans q)
      clear hc1 q
      go_wp2_with fail
      refine wp_region_nf (fun Y => Below w.heap.size w Y) (fun _ => false) [(0, true), (1, true), (2, true), (3, true), (4, true), (5, true), (6, false), (7, false), (8, false), (9, true)] (by kernel_rfl) rfl (by kernel_rfl) (by kernel_rfl) (fun d _ _ _ _ h => by cases d <;> exact h) ?_
      have hbd := hbr.drew
      clear hbr
      generalize wr.drew = V at *
      repeat (refine nf_pure rfl hbd (fun Y hY => by have g1 := HC.out Y hY; clear hY; go_wp2; exact ⟨rfl, rfl, rfl⟩) rfl ?_ ?_; rfl)
      refine nf_imp rfl ?_
      go_wp2_with fail
      refine (HE.out _).mono ?_
      rintro e w3 ⟨rfl, rfl⟩
      go_wp2_with fail
      refine ⟨fun _ => hbd, ?_⟩
      refine nf_imp rfl ?_
      go_wp2_with fail
      refine (refTimes_any _ x p (by have := HS.out; omega) hpw).mono ?_
      rintro e w4 ⟨rfl, hb3⟩
      replace hbd := hbd.trans (hb3.mono hbd.size)
      clear hb3
      have HML := Lib.hid (show (mulL x.data.toList p).length ≤ 4000000000 by rw [mulL_len, list_len]; exact HS.out)
      generalize mulL x.data.toList p = M at *
      go_wp2_with fail
      refine ⟨fun _ => hbd, ?_⟩
      refine nf_imp rfl ?_
      go_wp2_with fail
      refine (refXor_any _ ⟨P.toArray⟩ ⟨M.toArray⟩ (by rw [size_mk]; have := HL.out; omega) (by rw [size_mk]; have := HML.out; omega)).mono ?_
      rintro e w5 ⟨rfl, hb3⟩
      rw [mk_list, mk_list, ← HN.out]
      replace hbd := hbd.trans (hb3.mono hbd.size)
      clear hb3
      go_wp2_with fail
      refine ⟨fun _ => hbd, ?_⟩
      repeat (refine nf_pure rfl hbd (fun Y hY => by clear hY; go_wp2; exact ⟨rfl, rfl, rfl⟩) rfl ?_ ?_; rfl)
      refine nf_nil ?_
      go_wp2_with fail
      go_roundw
      case rel => exact ⟨k + 1, by omega, by go_num, rfl, hbd⟩
      case measure => simp [intOf]; omega
    · obtain rfl : k = n := by omega
      rw [List.take_of_length_le (by rw [HXL.out]; exact Nat.le_refl _)]
      go_wp2_with fail
      go_ret
      exact ⟨rfl, hbr⟩
set_option maxHeartbeats 1000000 in
theorem refDelta_any (w : World) (s t : ByteArray) (i : Int) (hs : s.size ≤ 4000000000) (ht : t.size ≤ 4000000000) :
    Calls Tryd.prog 11 #[.string s, .string t, .int .i64 i] w fun e w' => e = .returned (.tuple #[.string ⟨(xorL s.data.toList t.data.toList).toArray⟩, .string ⟨(dL s.data.toList t.data.toList i).toArray⟩]) ∧ Below w.heap.size w w' := by
  have HX := Lib.hid (fun V => refXor_any V s t (by omega) (by omega))
  have hl : (xorL s.data.toList t.data.toList).length ≤ 4000000000 := by rw [xorL_length, list_len, list_len]; omega
  unfold dL
  generalize xorL s.data.toList t.data.toList = X at *
  have hpw := pw_lt (i % 255).toNat
  have HE := Lib.hid (fun V => refExp_any V i)
  generalize pw (i % 255).toNat = p at *
  go_enter Tryd.func11, Tryd.ntmps11
  go_wp2_with fail
  refine (HX.out _).mono ?_
  rintro e w3 ⟨rfl, hb⟩
  go_wp2_with fail
  refine (HE.out _).mono ?_
  rintro e w4 ⟨rfl, rfl⟩
  go_wp2_with fail
  refine (refTimes_any _ ⟨X.toArray⟩ p (by rw [size_mk]; omega) hpw).mono ?_
  rintro e w4 ⟨rfl, hb3⟩
  rw [mk_list]
  go_wp2_with fail
  go_ret2
  exact ⟨rfl, hb.trans (hb3.mono hb.size)⟩
set_option maxHeartbeats 1000000 in
theorem refSum_small (w : World) (A : Option Addr) (n c : Nat) (hn : n < 2) :
    Calls Tryd.prog 13 #[.slice A n c] w fun e w' => e = .returned (.tuple #[.string ⟨#[]⟩, .string ⟨#[]⟩]) ∧ w = w' := by
  go_enter Tryd.func13, Tryd.ntmps13
  go_wp2_with fail
  go_ret2
  exact ⟨rfl, rfl⟩
set_option maxHeartbeats 2000000 in
theorem refSum_great (w : World) (b o m c : Nat) (xs : List ByteArray) (h : StrsA w w.heap.size (some ⟨b, o, none⟩) (m + 2) xs) (hb : b < w.heap.size)
    (hc1 : ∀ j, j < m + 2 → w.cell? ⟨b, o + j, none⟩ = some (.string (xs.getD j ⟨#[]⟩))) (hn : m + 2 ≤ 200) (hc : m + 2 ≤ c) (hcm : c ≤ maxLen) (hx : ∀ x ∈ xs, x.size ≤ 4000000000) :
    Calls Tryd.prog 13 #[.slice (some ⟨b, o, none⟩) (m + 2 : Nat) c] w fun e w' =>
      e = .returned (.tuple #[.string ⟨(xorL (addL (xs.take m)) (xs.getD m ⟨#[]⟩).data.toList).toArray⟩, .string ⟨(xorL (qL (xs.take m)) (xs.getD (m + 1) ⟨#[]⟩).data.toList).toArray⟩]) ∧ Below w.heap.size w w' := by
  have q0 := hc1 m (by omega)
  have q1 := hc1 (m + 1) (by omega)
  have HS0 := Lib.hid (hx _ (mem_getD (xs := xs) (k := m) (by rw [h.1]; omega)))
  have HS1 := Lib.hid (hx _ (mem_getD (xs := xs) (k := m + 1) (by rw [h.1]; omega)))
  have T := Lib.hid (fun x (hm : x ∈ xs.take m) => hx x (List.mem_of_mem_take hm))
  generalize xs.getD m ⟨#[]⟩ = x0 at *
  generalize xs.getD (m + 1) ⟨#[]⟩ = x1 at *
  have ht := h.take m (by omega)
  have LP := addL_len 4000000000 _ T.out
  have LQ := qL_len 4000000000 _ T.out
  have hsub : ((m + 2 : Nat) : Int) - 2 = (m : Int) := by omega
  have hmc : (m : Int) ≤ (c : Int) := by omega
  have HL := Lib.hid (fun (Y : World) (hY : Below w.heap.size w Y) => (⟨(hY.cell (p := ⟨b, o + m, none⟩) hb).trans q0, (hY.cell (p := ⟨b, o + (m + 1), none⟩) hb).trans q1⟩ : Y.cell? ⟨b, o + m, none⟩ = some (.string x0) ∧ Y.cell? ⟨b, o + (m + 1), none⟩ = some (.string x1)))
  clear hc1 q0 q1 hx h
  go_enter Tryd.func13, Tryd.ntmps13
  go_wp2_with fail
  refine wp_region_nf (fun Y => Below w.heap.size w Y) (fun _ => false) [(0, true), (1, true), (2, true), (4, true), (5, true), (6, true), (7, true), (9, true), (10, true), (11, true), (13, true), (14, true), (15, true), (16, true), (17, true), (3, false), (8, false), (12, false), (18, false), (19, true), (20, true)] (by kernel_rfl) rfl (by kernel_rfl) (by kernel_rfl) (fun d _ _ _ _ h => by cases d <;> exact h) ?_
  have hbd := (Below.refl w.heap.size w).drew
  replace ht := ht.drew
  have hz : w.heap.size = w.drew.heap.size := rfl
  rw [hz] at ht
  clear hz
  generalize w.drew = V at *
  repeat (refine nf_pure rfl hbd (fun Y hY => by obtain ⟨g1, g2⟩ := HL.out Y hY; clear hY; go_wp2; exact ⟨rfl, rfl, rfl⟩) rfl ?_ ?_; rfl)
  refine nf_imp rfl ?_
  go_wp2_with fail
  refine (refP_any _ _ _ _ _ ht (by omega) (fun s hs => T.out s hs)).mono ?_
  rintro e W1 ⟨rfl, hb3⟩
  replace ht := (ht.below hb3).mono hb3.size
  replace hbd := hbd.trans (hb3.mono hbd.size)
  clear hb3
  go_wp2_with fail
  refine ⟨fun _ => hbd, ?_⟩
  refine nf_imp rfl ?_
  go_wp2_with fail
  refine (refXor_any _ ⟨(addL (xs.take m)).toArray⟩ x0 (by rw [size_mk]; omega) (by have := HS0.out; omega)).mono ?_
  rintro e W2 ⟨rfl, hb3⟩
  rw [mk_list]
  replace ht := (ht.below hb3).mono hb3.size
  replace hbd := hbd.trans (hb3.mono hbd.size)
  clear hb3
  go_wp2_with fail
  refine ⟨fun _ => hbd, ?_⟩
  refine nf_imp rfl ?_
  go_wp2_with fail
  refine (refQ_any _ _ _ _ _ ht (by omega) (fun s hs => T.out s hs)).mono ?_
  rintro e W3 ⟨rfl, hb3⟩
  replace hbd := hbd.trans (hb3.mono hbd.size)
  clear hb3 ht
  go_wp2_with fail
  refine ⟨fun _ => hbd, ?_⟩
  refine nf_imp rfl ?_
  go_wp2_with fail
  refine (refXor_any _ ⟨(qL (xs.take m)).toArray⟩ x1 (by rw [size_mk]; omega) (by have := HS1.out; omega)).mono ?_
  rintro e W4 ⟨rfl, hb3⟩
  rw [mk_list]
  replace hbd := hbd.trans (hb3.mono hbd.size)
  clear hb3
  go_wp2_with fail
  refine ⟨fun _ => hbd, ?_⟩
  repeat (refine nf_pure rfl hbd (fun Y hY => by clear hY; go_wp2; exact ⟨rfl, rfl, rfl⟩) rfl ?_ ?_; rfl)
  refine nf_nil ?_
  go_wp2_with fail
  go_ret2
  exact ⟨rfl, hbd⟩
theorem refSum_any (w : World) (A : Option Addr) (n c : Nat) (xs : List ByteArray) (h : StrsA w w.heap.size A n xs) (hn : n ≤ 200) (hc : n ≤ c) (hcm : c ≤ maxLen) (hx : ∀ x ∈ xs, x.size ≤ 4000000000) :
    Calls Tryd.prog 13 #[.slice A n c] w fun e w' => e = .returned (.tuple #[.string ⟨(sumPL xs).toArray⟩, .string ⟨(sumQL xs).toArray⟩]) ∧ Below w.heap.size w w' := by
  have hl := h.1
  unfold sumPL sumQL
  rw [hl]
  by_cases h2 : n < 2
  · rw [if_pos h2, if_pos h2]
    refine (refSum_small w A n c h2).mono ?_
    rintro e w' ⟨rfl, rfl⟩
    exact ⟨rfl, Below.refl _ _⟩
  · rw [if_neg h2, if_neg h2]
    obtain ⟨b, o, rfl, hb, hc1⟩ := h.2 (by omega)
    obtain ⟨m, rfl⟩ : ∃ m, n = m + 2 := ⟨n - 2, by omega⟩
    rw [show m + 2 - 2 = m by omega]
    exact refSum_great w b o m c xs h hb hc1 hn hc hcm hx
set_option maxHeartbeats 2000000 in
theorem refGood_any (w : World) (A : Option Addr) (n c : Nat) (xs : List ByteArray) (h : StrsA w w.heap.size A n xs) (hn : n ≤ 200) (hc : n ≤ c) (hcm : c ≤ maxLen) (hx : ∀ x ∈ xs, x.size ≤ 4000000000) :
    Calls Tryd.prog 16 #[.slice A n c] w fun e w' => e = .returned (.bool (goodL xs)) ∧ Below w.heap.size w w' := by
  have HC := Lib.hid (refSum_any w A n c xs h hn hc hcm hx)
  have lp := sumPL_len xs 4000000000 hx
  have lq := sumQL_len xs 4000000000 hx
  have hg : goodL xs = (decide (1 < n) && (zeroB (sumPL xs) && zeroB (sumQL xs))) := by unfold goodL; rw [h.1]
  generalize goodL xs = R at *
  generalize sumPL xs = P at *
  generalize sumQL xs = Q at *
  have G1 := Lib.hid (fun V => zero_any V ⟨P.toArray⟩ (by rw [size_mk]; omega))
  have G2 := Lib.hid (fun V => zero_any V ⟨Q.toArray⟩ (by rw [size_mk]; omega))
  rw [mk_list] at G1 G2
  generalize zeroB P = p at *
  generalize zeroB Q = q at *
  have HG := Lib.hid hg
  clear hg h hx
  by_cases h1 : 1 < n
  · have hd : decide (1 < n) = true := decide_eq_true h1
    rw [hd] at HG
    clear hd
    have h2 : (n : Int) ≥ 2 := by omega
    cases p
    · obtain rfl : R = false := by rw [HG.out]; rfl
      clear HG
      go_enter Tryd.func16, Tryd.ntmps16
      go_wp2_with fail
      refine HC.out.mono ?_
      rintro e W1 ⟨rfl, hb⟩
      go_wp2_with fail
      refine (G1.out _).mono ?_
      rintro e W2 ⟨rfl, rfl⟩
      go_wp2_with fail
      go_ret
      exact ⟨rfl, hb⟩
    · obtain rfl : R = q := by rw [HG.out]; simp
      clear HG
      go_enter Tryd.func16, Tryd.ntmps16
      go_wp2_with fail
      refine HC.out.mono ?_
      rintro e W1 ⟨rfl, hb⟩
      go_wp2_with fail
      refine (G1.out _).mono ?_
      rintro e W2 ⟨rfl, rfl⟩
      go_wp2_with fail
      refine (G2.out _).mono ?_
      rintro e W3 ⟨rfl, rfl⟩
      go_wp2_with fail
      go_ret
      exact ⟨rfl, hb⟩
  · obtain rfl : R = false := by rw [HG.out, decide_eq_false h1]; rfl
    clear HG
    have h2 : ¬ ((n : Int) ≥ 2) := by omega
    go_enter Tryd.func16, Tryd.ntmps16
    go_wp2_with fail
    refine HC.out.mono ?_
    rintro e W1 ⟨rfl, hb⟩
    go_wp2_with fail
    go_ret
    exact ⟨rfl, hb⟩
end Go.Proofs.YtaghdkiafgainaaDoor
