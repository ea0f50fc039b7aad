/- syndrome.Sum and Good. -/
import Derived.Test.YtaghdkiafgainaaDoorSyTrim
import Derived.Test.YtaghdkiafgainaaDoorSyPlain
namespace Go.Proofs.YtaghdkiafgainaaDoor
set_option maxRecDepth 20000
open Go.RowKit Go.OpenShut

def sumPL (xs : List ByteArray) : List UInt8 := if xs.length < 2 then [] else xorL (addL (xs.take (xs.length - 2))) (xs.getD (xs.length - 2) ⟨#[]⟩).data.toList
def sumQL (xs : List ByteArray) : List UInt8 := if xs.length < 2 then [] else xorL (qL (xs.take (xs.length - 2))) (xs.getD (xs.length - 2 + 1) ⟨#[]⟩).data.toList
theorem addL_two (l : List UInt8) (x : ByteArray) : addL [⟨l.toArray⟩, x] = xorL l x.data.toList := by simp [addL, xorL_nil]

set_option maxHeartbeats 1000000 in
theorem ssum_small (w : World) (A : Option Addr) (n c : Nat) (hn : n < 2) :
    Calls Tryd.prog 12 #[.slice A n c] w fun e w' => e = .returned (.tuple #[.string ⟨#[]⟩, .string ⟨#[]⟩]) ∧ w = w' := by
  go_enter Tryd.func12, Tryd.ntmps12
  go_wp2_with fail
  go_ret2
  exact ⟨rfl, rfl⟩

set_option maxHeartbeats 2000000 in
theorem ssum_great (w : World) (b o m c : Nat) (xs : List ByteArray) (h : StrsA w w.heap.size (some ⟨b, o, none⟩) (m + 2) xs) (hb : b < w.heap.size)
    (hc1 : ∀ j, j < m + 2 → w.cell? ⟨b, o + j, none⟩ = some (.string (xs.getD j ⟨#[]⟩))) (hn : m + 2 ≤ 200) (hc : m + 2 ≤ c) (hcm : c ≤ maxLen) (hx : ∀ x ∈ xs, x.size ≤ 4000000000) :
    Calls Tryd.prog 12 #[.slice (some ⟨b, o, none⟩) (m + 2 : Nat) c] w fun e w' =>
      e = .returned (.tuple #[.string ⟨(xorL (addL (xs.take m)) (xs.getD m ⟨#[]⟩).data.toList).toArray⟩, .string ⟨(xorL (qL (xs.take m)) (xs.getD (m + 1) ⟨#[]⟩).data.toList).toArray⟩]) ∧ Below w.heap.size w w' := by
  have q0 := hc1 m (by omega)
  have q1 := hc1 (m + 1) (by omega)
  have HS0 := Lib.hid (hx _ (mem_getD (xs := xs) (k := m) (by rw [h.1]; omega)))
  have HS1 := Lib.hid (hx _ (mem_getD (xs := xs) (k := m + 1) (by rw [h.1]; omega)))
  have T := Lib.hid (fun x (hm : x ∈ xs.take m) => hx x (List.mem_of_mem_take hm))
  generalize xs.getD m ⟨#[]⟩ = x0 at *
  generalize xs.getD (m + 1) ⟨#[]⟩ = x1 at *
  have ht := h.take m (by omega)
  have LP := addL_len 4000000000 _ T.out
  have LQ := qL_len 4000000000 _ T.out
  have HP := Lib.hid (addL_two (addL (xs.take m)) x0)
  have HQ := Lib.hid (addL_two (qL (xs.take m)) x1)
  have hsub : ((m + 2 : Nat) : Int) - 2 = (m : Int) := by omega
  have HL := Lib.hid (fun (Y : World) (hY : Below w.heap.size w Y) => (⟨(hY.cell (p := ⟨b, o + m, none⟩) hb).trans q0, (hY.cell (p := ⟨b, o + m + 1, none⟩) hb).trans q1⟩ : Y.cell? ⟨b, o + m, none⟩ = some (.string x0) ∧ Y.cell? ⟨b, o + m + 1, none⟩ = some (.string x1)))
  clear hc1 q0 q1 hx h
  go_enter Tryd.func12, Tryd.ntmps12
  go_wp2_with fail
  refine wp_region_nf (fun Y => Below w.heap.size w Y) (fun _ => false) [(0, true), (1, true), (2, true), (3, true), (4, true), (5, true), (6, true), (7, true), (8, true), (9, true), (10, true), (11, true)] (by kernel_rfl) rfl (by kernel_rfl) (by kernel_rfl) (fun d _ _ _ _ h => by cases d <;> exact h) ?_
  have hbd := (Below.refl w.heap.size w).drew
  replace ht := ht.drew
  have hz : w.heap.size = w.drew.heap.size := rfl
  rw [hz] at ht
  clear hz
  have hmc : (m : Int) ≤ (c : Int) := by omega
  generalize w.drew = V at *
  repeat (refine nf_pure rfl hbd (fun Y hY => by obtain ⟨g1, g2⟩ := HL.out Y hY; clear hY; go_wp2; exact ⟨rfl, rfl, rfl⟩) rfl ?_ ?_; rfl)
  refine nf_nil ?_
  go_wp2_with fail
  refine wp_region_nf (fun Y => Below w.heap.size w Y) (fun _ => false) [(0, true), (2, true), (3, true), (4, true), (7, true), (9, true), (10, true), (11, true), (1, false), (5, false), (6, false), (8, false), (12, false), (13, false), (14, true), (15, true)] (by kernel_rfl) rfl (by kernel_rfl) (by kernel_rfl) (fun d _ _ _ _ h => by cases d <;> exact h) ?_
  replace hbd := hbd.drew
  replace ht := ht.drew
  have hz : V.heap.size = V.drew.heap.size := rfl
  rw [hz] at ht
  clear hz
  generalize V.drew = V at *
  repeat (refine nf_pure rfl hbd (fun Y hY => by obtain ⟨g1, g2⟩ := HL.out Y hY; clear hY; go_wp2; exact ⟨rfl, rfl, rfl⟩) rfl ?_ ?_; rfl)
  refine nf_imp rfl ?_
  go_wp2_with fail
  refine (P_any _ _ _ _ _ _ ht (Nat.le_refl _) (by omega) (fun s hs => by have := T.out s hs; omega)).mono ?_
  rintro e W1 ⟨rfl, hb3⟩
  replace ht := (ht.below hb3).mono hb3.size
  replace hbd := hbd.trans (hb3.mono hbd.size)
  clear hb3
  go_wp2_with fail
  refine ⟨fun _ => hbd, ?_⟩
  refine nf_imp rfl ?_
  go_wp2_with fail
  have hN := Blk.new W1 9 ([⟨(addL (xs.take m)).toArray⟩, x0].map Value.string).toArray
  have hal := (Below.refl W1.heap.size W1).alloc (Nat.le_refl _) (.cells ([⟨(addL (xs.take m)).toArray⟩, x0].map Value.string).toArray 9)
  simp only [List.map_cons, List.map_nil] at hN hal
  replace ht := (ht.below hal).mono hal.size
  replace hbd := hbd.trans (hal.mono hbd.size)
  clear hal
  generalize W1.alloc (.cells #[.string ⟨(addL (xs.take m)).toArray⟩, .string x0] 9) = W2 at *
  refine ⟨fun _ => hbd, ?_⟩
  refine nf_imp rfl ?_
  go_wp2_with fail
  refine (added_any _ W2.heap.size _ 2 2 [⟨(addL (xs.take m)).toArray⟩, x0] (StrsA.blk hN rfl hN.lt) (Nat.le_refl _) (by omega) (by simp [size_mk]; have := HS0.out; omega)).mono ?_
  rintro e W3 ⟨rfl, hb3⟩
  rw [HP.out]
  replace ht := (ht.below hb3).mono hb3.size
  replace hbd := hbd.trans (hb3.mono hbd.size)
  clear hb3 hN
  go_wp2_with fail
  refine ⟨fun _ => hbd, ?_⟩
  refine nf_imp rfl ?_
  go_wp2_with fail
  refine (Q_any _ _ _ _ _ ht (by omega) (by omega) (fun s hs => by have := T.out s hs; omega)).mono ?_
  rintro e W4 ⟨rfl, hb3⟩
  replace ht := (ht.below hb3).mono hb3.size
  replace hbd := hbd.trans (hb3.mono hbd.size)
  clear hb3
  go_wp2_with fail
  refine ⟨fun _ => hbd, ?_⟩
  refine nf_imp rfl ?_
  go_wp2_with fail
  have hN := Blk.new W4 9 ([⟨(qL (xs.take m)).toArray⟩, x1].map Value.string).toArray
  have hal := (Below.refl W4.heap.size W4).alloc (Nat.le_refl _) (.cells ([⟨(qL (xs.take m)).toArray⟩, x1].map Value.string).toArray 9)
  simp only [List.map_cons, List.map_nil] at hN hal
  replace ht := (ht.below hal).mono hal.size
  replace hbd := hbd.trans (hal.mono hbd.size)
  clear hal
  generalize W4.alloc (.cells #[.string ⟨(qL (xs.take m)).toArray⟩, .string x1] 9) = W5 at *
  refine ⟨fun _ => hbd, ?_⟩
  refine nf_imp rfl ?_
  go_wp2_with fail
  refine (added_any _ W5.heap.size _ 2 2 [⟨(qL (xs.take m)).toArray⟩, x1] (StrsA.blk hN rfl hN.lt) (Nat.le_refl _) (by omega) (by simp [size_mk]; have := HS1.out; omega)).mono ?_
  rintro e W6 ⟨rfl, hb3⟩
  rw [HQ.out]
  replace hbd := hbd.trans (hb3.mono hbd.size)
  clear hb3 hN ht
  go_wp2_with fail
  refine ⟨fun _ => hbd, ?_⟩
  repeat (refine nf_pure rfl hbd (fun Y hY => by clear hY; go_wp2; exact ⟨rfl, rfl, rfl⟩) rfl ?_ ?_; rfl)
  refine nf_nil ?_
  go_wp2_with fail
  go_ret2
  exact ⟨rfl, hbd⟩
theorem ssum_any (w : World) (A : Option Addr) (n c : Nat) (xs : List ByteArray) (h : StrsA w w.heap.size A n xs) (hn : n ≤ 200) (hc : n ≤ c) (hcm : c ≤ maxLen) (hx : ∀ x ∈ xs, x.size ≤ 4000000000) :
    Calls Tryd.prog 12 #[.slice A n c] w fun e w' => e = .returned (.tuple #[.string ⟨(sumPL xs).toArray⟩, .string ⟨(sumQL xs).toArray⟩]) ∧ Below w.heap.size w w' := by
  have hl := h.1
  unfold sumPL sumQL
  rw [hl]
  by_cases h2 : n < 2
  · rw [if_pos h2, if_pos h2]
    refine (ssum_small w A n c h2).mono ?_
    rintro e w' ⟨rfl, rfl⟩
    exact ⟨rfl, Below.refl _ _⟩
  · rw [if_neg h2, if_neg h2]
    obtain ⟨b, o, rfl, hb, hc1⟩ := h.2 (by omega)
    obtain ⟨m, rfl⟩ : ∃ m, n = m + 2 := ⟨n - 2, by omega⟩
    rw [show m + 2 - 2 = m by omega]
    exact ssum_great w b o m c xs h hb hc1 hn hc hcm hx
theorem sumPL_len (xs : List ByteArray) (M : Nat) (hx : ∀ x ∈ xs, x.size ≤ M) : (sumPL xs).length ≤ M := by
  unfold sumPL
  split
  · simp
  · rw [xorL_length]
    have h1 := addL_len M (xs.take (xs.length - 2)) (fun x h => hx x (List.mem_of_mem_take h))
    have h2 := hx _ (mem_getD (xs := xs) (k := xs.length - 2) (by omega))
    have h3 := list_len (xs.getD (xs.length - 2) ⟨#[]⟩)
    omega
theorem sumQL_len (xs : List ByteArray) (M : Nat) (hx : ∀ x ∈ xs, x.size ≤ M) : (sumQL xs).length ≤ M := by
  unfold sumQL
  split
  · simp
  · rw [xorL_length]
    have h1 := qL_len M (xs.take (xs.length - 2)) (fun x h => hx x (List.mem_of_mem_take h))
    have h2 := hx _ (mem_getD (xs := xs) (k := xs.length - 2 + 1) (by omega))
    have h3 := list_len (xs.getD (xs.length - 2 + 1) ⟨#[]⟩)
    omega
def goodL (xs : List ByteArray) : Bool := decide (1 < xs.length) && (zeroB (sumPL xs) && zeroB (sumQL xs))
set_option maxHeartbeats 2000000 in
theorem sgood_any (w : World) (A : Option Addr) (n c : Nat) (xs : List ByteArray) (h : StrsA w w.heap.size A n xs) (hn : n ≤ 200) (hc : n ≤ c) (hcm : c ≤ maxLen) (hx : ∀ x ∈ xs, x.size ≤ 4000000000) :
    Calls Tryd.prog 9 #[.slice A n c] w fun e w' => e = .returned (.bool (goodL xs)) ∧ Below w.heap.size w w' := by
  have HC := Lib.hid (ssum_any w A n c xs h hn hc hcm hx)
  have lp := sumPL_len xs 4000000000 hx
  have lq := sumQL_len xs 4000000000 hx
  have hg : goodL xs = (decide (1 < n) && (zeroB (sumPL xs) && zeroB (sumQL xs))) := by unfold goodL; rw [h.1]
  generalize goodL xs = R at *
  generalize sumPL xs = P at *
  generalize sumQL xs = Q at *
  have G1 := Lib.hid (fun V => good1_any V ⟨P.toArray⟩ (by rw [size_mk]; omega))
  have G2 := Lib.hid (fun V => good1_any V ⟨Q.toArray⟩ (by rw [size_mk]; omega))
  rw [mk_list] at G1 G2
  generalize zeroB P = p at *
  generalize zeroB Q = q at *
  have HG := Lib.hid hg
  clear hg h hx
  by_cases h1 : 1 < n
  · have hd : decide (1 < n) = true := decide_eq_true h1
    rw [hd] at HG
    clear hd
    cases p
    · obtain rfl : R = false := by rw [HG.out]; rfl
      clear HG
      go_enter Tryd.func9, Tryd.ntmps9
      go_wp2_with fail
      refine HC.out.mono ?_
      rintro e W1 ⟨rfl, hb⟩
      go_wp2_with fail
      refine (G1.out _).mono ?_
      rintro e W2 ⟨rfl, hb2⟩
      go_wp2_with fail
      go_ret
      exact ⟨rfl, hb.trans (hb2.mono hb.size)⟩
    · obtain rfl : R = q := by rw [HG.out]; simp
      clear HG
      go_enter Tryd.func9, Tryd.ntmps9
      go_wp2_with fail
      refine HC.out.mono ?_
      rintro e W1 ⟨rfl, hb⟩
      go_wp2_with fail
      refine (G1.out _).mono ?_
      rintro e W2 ⟨rfl, hb2⟩
      go_wp2_with fail
      refine (G2.out _).mono ?_
      rintro e W3 ⟨rfl, hb3⟩
      go_wp2_with fail
      go_ret
      exact ⟨rfl, (hb.trans (hb2.mono hb.size)).trans (hb3.mono (Nat.le_trans hb.size hb2.size))⟩
  · obtain rfl : R = false := by rw [HG.out, decide_eq_false h1]; rfl
    clear HG
    go_enter Tryd.func9, Tryd.ntmps9
    go_wp2_with fail
    refine HC.out.mono ?_
    rintro e W1 ⟨rfl, hb⟩
    go_wp2_with fail
    go_ret
    exact ⟨rfl, hb⟩
end Go.Proofs.YtaghdkiafgainaaDoor
