/- revetmentlaw05.SyndromeTells: its walk. -/
import Derived.Test.YtaghdkiafgainaaDoorSyRef
namespace Go.Proofs.YtaghdkiafgainaaDoor
set_option maxRecDepth 20000
open Go.RowKit Go.OpenShut

set_option maxHeartbeats 1000000 in
theorem tells_heavy (w : World) (A : Option Addr) (n c : Nat) (s t : ByteArray) (i : Int) (xs : List ByteArray) (hx : StrsA w w.heap.size A n xs) (hn : n ≤ maxLen) (h : heavyB xs = true ∨ 200 < s.size ∨ 200 < t.size) :
    Calls Tryd.prog 4 #[.slice A n c, .string s, .string t, .int .i64 i] w fun e w' => e = .returned (.bool true) ∧ Below w.heap.size w w' := by
  have HX := Lib.hid (fun w' (e : w = w') => e ▸ heavy_any w A n c xs hx hn)
  clear hx hn
  generalize heavyB xs = p at *
  cases p
  · by_cases h1 : 200 < s.size
    · have h2 : (s.size : Int) > 200 := by omega
      clear h
      go_enter Tryd.func4, Tryd.ntmps4
      go_wp2_with fail
      refine (HX.out _ rfl).mono ?_
      rintro e w1 ⟨rfl, rfl⟩
      go_wp2_with fail
      refine (shown5_any _).mono ?_
      rintro e w1 ⟨rfl, hb⟩
      go_wp2_with fail
      go_ret
      exact ⟨rfl, hb⟩
    · have h3 : 200 < t.size := by
        rcases h with h | h | h
        · cases h
        · exact absurd h h1
        · exact h
      have h2 : ¬ ((s.size : Int) > 200) := by omega
      have h4 : (t.size : Int) > 200 := by omega
      clear h
      go_enter Tryd.func4, Tryd.ntmps4
      go_wp2_with fail
      refine (HX.out _ rfl).mono ?_
      rintro e w1 ⟨rfl, rfl⟩
      go_wp2_with fail
      refine (shown5_any _).mono ?_
      rintro e w1 ⟨rfl, hb⟩
      go_wp2_with fail
      go_ret
      exact ⟨rfl, hb⟩
  · clear h
    go_enter Tryd.func4, Tryd.ntmps4
    go_wp2_with fail
    refine (HX.out _ rfl).mono ?_
    rintro e w1 ⟨rfl, rfl⟩
    go_wp2_with fail
    refine (shown5_any _).mono ?_
    rintro e w1 ⟨rfl, hb⟩
    go_wp2_with fail
    go_ret
    exact ⟨rfl, hb⟩

set_option maxHeartbeats 4000000 in
theorem tells_light (w : World) (A : Option Addr) (n c : Nat) (s t : ByteArray) (i : Int) (xs : List ByteArray) (hx : StrsA w w.heap.size A n xs) (hn : n ≤ maxLen) (hnc : n ≤ c) (hc : c ≤ maxLen)
    (h1 : heavyB xs = false) (hs : s.size ≤ 200) (ht : t.size ≤ 200) :
    Calls Tryd.prog 4 #[.slice A n c, .string s, .string t, .int .i64 i] w fun e w' => e = .returned (.bool true) ∧ Below w.heap.size w w' := by
  have HX := Lib.hid (fun w' (e : w = w') => e ▸ heavy_any w A n c xs hx hn)
  rw [h1] at HX
  obtain ⟨l1, s1⟩ := (heavyB_no xs).1 h1
  rw [hx.1] at l1
  have S4 : Hid (∀ x ∈ xs, x.size ≤ 4000000000) := Lib.hid (fun x h => by have := s1 x h; omega)
  have S5 : Hid (∀ x ∈ xs, x.size ≤ 4294967295) := Lib.hid (fun x h => by have := s1 x h; omega)
  clear h1 hn s1
  have D1 := Lib.hid (fun V => delta_any V s t i (by omega) (by omega))
  have D2 := Lib.hid (fun V => refDelta_any V s t i (by omega) (by omega))
  have C1 := Lib.hid (fun V (h : StrsA V V.heap.size A n xs) => ssum_any V A n c xs h (by omega) hnc hc S4.out)
  have C2 := Lib.hid (fun V (h : StrsA V V.heap.size A n xs) => refSum_any V A n c xs h (by omega) hnc hc S4.out)
  have P1 := Lib.hid (fun V (h : StrsA V V.heap.size A n xs) => P_any V _ A n c xs h (Nat.le_refl _) (by omega) S5.out)
  have P2 := Lib.hid (fun V (h : StrsA V V.heap.size A n xs) => refP_any V A n c xs h (by omega) S4.out)
  have Q1 := Lib.hid (fun V (h : StrsA V V.heap.size A n xs) => Q_any V A n c xs h (by omega) hnc S5.out)
  have Q2 := Lib.hid (fun V (h : StrsA V V.heap.size A n xs) => refQ_any V A n c xs h (by omega) S4.out)
  have G1 := Lib.hid (fun V (h : StrsA V V.heap.size A n xs) => sgood_any V A n c xs h (by omega) hnc hc S4.out)
  have G2 := Lib.hid (fun V (h : StrsA V V.heap.size A n xs) => refGood_any V A n c xs h (by omega) hnc hc S4.out)
  generalize (⟨(xorL s.data.toList t.data.toList).toArray⟩ : ByteArray) = d1 at *
  generalize (⟨(dL s.data.toList t.data.toList i).toArray⟩ : ByteArray) = d2 at *
  generalize (⟨(sumPL xs).toArray⟩ : ByteArray) = s1 at *
  generalize (⟨(sumQL xs).toArray⟩ : ByteArray) = s2 at *
  generalize (⟨(addL xs).toArray⟩ : ByteArray) = p1 at *
  generalize (⟨(qL xs).toArray⟩ : ByteArray) = q1 at *
  generalize goodL xs = g at *
  clear S4 S5
  have hss : ¬ ((s.size : Int) > 200) := by omega
  have hts : ¬ ((t.size : Int) > 200) := by omega
  go_enter Tryd.func4, Tryd.ntmps4
  go_wp2_with fail
  refine (HX.out _ rfl).mono ?_
  rintro e w1 ⟨rfl, rfl⟩
  go_wp2_with fail
  refine (shown5_any _).mono ?_
  rintro e w1 ⟨rfl, hb⟩
  replace hx := (hx.below hb).mono hb.size
  go_wp2_with fail
  refine (D1.out _).mono ?_
  rintro e w2 ⟨rfl, hb3⟩
  replace hx := (hx.below hb3).mono hb3.size
  replace hb := hb.trans (hb3.mono hb.size)
  clear hb3
  go_wp2_with fail
  refine (D2.out _).mono ?_
  rintro e w3 ⟨rfl, hb3⟩
  replace hx := (hx.below hb3).mono hb3.size
  replace hb := hb.trans (hb3.mono hb.size)
  clear hb3
  go_wp2_with fail
  refine (C1.out _ hx).mono ?_
  rintro e w4 ⟨rfl, hb3⟩
  replace hx := (hx.below hb3).mono hb3.size
  replace hb := hb.trans (hb3.mono hb.size)
  clear hb3
  go_wp2_with fail
  refine (C2.out _ hx).mono ?_
  rintro e w5 ⟨rfl, hb3⟩
  replace hx := (hx.below hb3).mono hb3.size
  replace hb := hb.trans (hb3.mono hb.size)
  clear hb3
  go_wp2_with fail
  refine (P1.out _ hx).mono ?_
  rintro e w6 ⟨rfl, hb3⟩
  replace hx := (hx.below hb3).mono hb3.size
  replace hb := hb.trans (hb3.mono hb.size)
  clear hb3
  go_wp2_with fail
  refine (P2.out _ hx).mono ?_
  rintro e w7 ⟨rfl, hb3⟩
  replace hx := (hx.below hb3).mono hb3.size
  replace hb := hb.trans (hb3.mono hb.size)
  clear hb3
  go_wp2_with fail
  refine (Q1.out _ hx).mono ?_
  rintro e w8 ⟨rfl, hb3⟩
  replace hx := (hx.below hb3).mono hb3.size
  replace hb := hb.trans (hb3.mono hb.size)
  clear hb3
  go_wp2_with fail
  refine (Q2.out _ hx).mono ?_
  rintro e w9 ⟨rfl, hb3⟩
  replace hx := (hx.below hb3).mono hb3.size
  replace hb := hb.trans (hb3.mono hb.size)
  clear hb3
  go_wp2_with fail
  refine (G1.out _ hx).mono ?_
  rintro e w10 ⟨rfl, hb3⟩
  replace hx := (hx.below hb3).mono hb3.size
  replace hb := hb.trans (hb3.mono hb.size)
  clear hb3
  go_wp2_with fail
  refine (G2.out _ hx).mono ?_
  rintro e w11 ⟨rfl, hb3⟩
  replace hb := hb.trans (hb3.mono hb.size)
  clear hb3
  cases g
  all_goals
    go_wp2_with fail
    go_ret
    exact ⟨rfl, hb⟩
theorem syndromeTells_walk (A : Option Addr) (n c : Nat) (xs : List ByteArray) (s t : ByteArray) (i : Int) (w : World) (hx : StrsIn w A n c xs) (hs : s.size ≤ maxLen) (ht : t.size ≤ maxLen) (hi : (Lit.int .i64 i).wf = true) :
    Calls Tryd.prog 4 #[.slice A n c, .string s, .string t, .int .i64 i] w fun e w' => e = .returned (.bool true) ∧ Below w.heap.size w w' := by
  obtain ⟨h1, h2, h3, h4, _⟩ := hx
  by_cases h : heavyB xs = true ∨ 200 < s.size ∨ 200 < t.size
  · exact tells_heavy w A n c s t i xs h1 (by omega) h
  · exact tells_light w A n c s t i xs h1 (by omega) h2 h3 (by simpa using fun e => h (Or.inl e)) (by omega) (by omega)
end Go.Proofs.YtaghdkiafgainaaDoor
