/- revetmentlaw05.SyndromeOrder: its walk. -/
import Derived.Test.YtaghdkiafgainaaSyPlain
import Derived.Test.YtaghdkiafgainaaRXor
import Derived.Test.YtaghdkiafgainaaRTimes
namespace Go.Proofs.Ytaghdkiafgainaa
open Go.RowKit Go.OpenShut

theorem StrsA.lit {w0 : World} {g : Nat} {t : TypeId} {x : ByteArray} (hg : w0.heap.size = g) : StrsA (w0.alloc (.cells #[.string x] t)) (w0.alloc (.cells #[.string x] t)).heap.size (some ⟨g, 0, none⟩) 1 [x] := by
  subst hg
  exact StrsA.one (Blk.new w0 t #[.string x])
def backS (l : List ByteArray) (k : Nat) : List ByteArray := (List.range k).map fun i => l.getD (l.length - 1 - i) ⟨#[]⟩
theorem backS_len (l : List ByteArray) (k : Nat) : (backS l k).length = k := by simp [backS]
theorem backS_succ (l : List ByteArray) (k : Nat) : backS l (k + 1) = backS l k ++ [l.getD (l.length - 1 - k) ⟨#[]⟩] := by simp [backS, List.range_succ]
theorem backS_all (l : List ByteArray) : backS l l.length = l.reverse := by
  apply List.ext_getElem
  · simp [backS]
  · intro i h1 h2
    have h3 : i < l.length := by simpa using h2
    have h4 : l.length - 1 - i < l.length := by omega
    simp [backS, List.getD, h4]
theorem backS_size (l : List ByteArray) (M : Nat) (hl : ∀ x ∈ l, x.size ≤ M) (k : Nat) (h1 : k ≤ l.length) : ∀ x ∈ backS l k, x.size ≤ M := by
  intro x hx
  unfold backS at hx
  obtain ⟨i, hi, rfl⟩ := List.mem_map.1 hx
  rw [List.mem_range] at hi
  exact hl _ (mem_getD (by omega))
theorem init_last (xs : List ByteArray) (n : Nat) (h : xs.length = n + 1) : xs = xs.take n ++ [xs.getD n ⟨#[]⟩] := by
  have h1 := take_snocS xs n (by omega)
  rw [List.take_of_length_le (by omega)] at h1
  exact h1
/-- what the law asks, plainly: the turned columns -/
theorem turned_ok (xs : List ByteArray) (n : Nat) (h : xs.length = n + 1) :
    addL ([xs.getD n ⟨#[]⟩] ++ xs.take n) = addL xs ∧ qL ([xs.getD n ⟨#[]⟩] ++ xs.take n) = xorL (xs.getD n ⟨#[]⟩).data.toList (mulL (qL (xs.take n)) 2) := by
  refine ⟨?_, ?_⟩
  · rw [List.singleton_append, addL_turn, ← init_last xs n h]
  · rw [List.singleton_append, qL_cons]

set_option maxHeartbeats 1000000 in
theorem order_heavy (w : World) (A : Option Addr) (n c : Nat) (xs : List ByteArray) (hx : StrsA w w.heap.size A n xs) (hn : n ≤ maxLen) (h : heavyB xs = true ∨ n = 0) :
    Calls Try.prog 4 #[.slice A n c] w fun e w' => e = .returned (.bool true) ∧ Below w.heap.size w w' := by
  have HX := Lib.hid (fun w' (e : w = w') => e ▸ heavy_any w A n c xs hx hn)
  clear hx hn
  generalize heavyB xs = p at *
  cases p
  · obtain rfl : n = 0 := by simpa using h
    clear h
    go_enter Try.func4, Try.ntmps4
    go_wp2_with fail
    refine (HX.out _ rfl).mono ?_
    rintro e w1 ⟨rfl, rfl⟩
    go_wp2_with fail
    refine (shown5_any _).mono ?_
    rintro e w1 ⟨rfl, hb⟩
    go_wp2_with fail
    go_ret
    exact ⟨rfl, hb⟩
  · clear h
    go_enter Try.func4, Try.ntmps4
    go_wp2_with fail
    refine (HX.out _ rfl).mono ?_
    rintro e w1 ⟨rfl, rfl⟩
    go_wp2_with fail
    refine (shown5_any _).mono ?_
    rintro e w1 ⟨rfl, hb⟩
    go_wp2_with fail
    go_ret
    exact ⟨rfl, hb⟩

set_option maxHeartbeats 8000000 in
theorem order_light (w : World) (b1 o1 n c : Nat) (xs : List ByteArray) (hx : StrsA w w.heap.size (some ⟨b1, o1, none⟩) (n + 1) xs) (hb1 : b1 < w.heap.size) (hc1 : ∀ j, j < n + 1 → w.cell? ⟨b1, o1 + j, none⟩ = some (.string (xs.getD j ⟨#[]⟩))) (hn : n + 1 ≤ maxLen)
    (hnc : n + 1 ≤ c) (hc : c ≤ maxLen) (h1 : heavyB xs = false) :
    Calls Try.prog 4 #[.slice (some ⟨b1, o1, none⟩) (n + 1 : Nat) c] w fun e w' => e = .returned (.bool true) ∧ Below w.heap.size w w' := by
  have hHX := heavy_any w (some ⟨b1, o1, none⟩) (n + 1) c xs hx hn
  rw [h1] at hHX
  have HX := Lib.hid (fun w' (e : w = w') => e ▸ hHX)
  clear hHX
  obtain ⟨l1, s1⟩ := (heavyB_no xs).1 h1
  have S1 := Lib.hid s1
  rw [hx.1] at l1
  clear s1 h1 hn
  have qn := hc1 n (by omega)
  have HT := Lib.hid (turned_ok xs n hx.1)
  have HXN := Lib.hid (S1.out _ (mem_getD (xs := xs) (k := n) (by rw [hx.1]; omega)))
  have hne0 : (((n + 1 : Nat) : Int) == 0) = false := by rw [beq_eq_false_iff_ne]; omega
  have hsub : ((n + 1 : Nat) : Int) - 1 = (n : Int) := by omega
  go_enter Try.func4, Try.ntmps4
  go_wp2_with fail
  refine (HX.out _ rfl).mono ?_
  rintro e w1 ⟨rfl, rfl⟩
  go_wp2_with fail
  refine (shown5_any _).mono ?_
  rintro e w1 ⟨rfl, hb⟩
  have q1 := (hb.cell (p := ⟨b1, o1 + n, none⟩) hb1).trans qn
  have hb1' : b1 < w1.heap.size := Nat.lt_of_lt_of_le hb1 hb.size
  generalize hxl : xs.getD n ⟨#[]⟩ = xl at *
  have HXE := Lib.hid hxl
  clear hxl
  have hv0 := OwnS.new w1 w.heap.size hb.size
  have hxb := (hx.below hb).take n (by omega)
  go_wp2_with (at_builtin; first | (refine wp_appS rfl (.tmp 23) (.tmp 29) rfl w.heap.size _ _ (hv0.alloc _) rfl _ _ _ _ rfl (StrsA.lit (by simp)) (fun h => by cases h) ?c1 ?c2 ?_; (case c1 => simp); (case c2 => have := hb.size; simp; omega); intro v4 w4 hv4 hg4 hb4; have hbe4 := ((hb.alloc hb.size (.cells #[] 9)).alloc (by have := hb.size; simp; omega) (.cells #[.string xl] 9)).trans hb4; have hx4 := ((hx.below hbe4).mono hbe4.size).take n (by omega)) | (refine wp_appS rfl (.tmp 31) (.tmp 35) rfl w.heap.size _ _ hv4 rfl _ n c _ rfl hx4 (fun h => by cases h) ?c1 ?c2 ?_; (case c1 => simp; omega); (case c2 => exact hbe4.size); intro v5 w5 hv5 hg5 hb5; have hbe5 := hbe4.trans hb5))
  rw [List.nil_append] at hv5
  have hTl : ([xl] ++ List.take n xs).length = n + 1 := by rw [List.length_append, List.length_take, hx.1]; simp; omega
  obtain ⟨A5, c5, rfl, hc5⟩ := hv5.shape
  rw [hTl] at hv5 hc5 ⊢
  have ht5 := hv5.strs
  have HTS := Lib.hid (fun x (h : x ∈ [xl] ++ List.take n xs) => show x.size ≤ 200 by
    rcases List.mem_append.1 h with h | h
    · rw [List.mem_singleton.1 h]; exact HXN.out
    · exact S1.out x (List.mem_of_mem_take h))
  generalize [xl] ++ List.take n xs = TT at *
  have hv6 := OwnS.new w5 w5.heap.size (Nat.le_refl _)
  have hb6 := (Below.refl w5.heap.size w5).alloc (Nat.le_refl _) (.cells #[] 9)
  generalize w5.alloc (.cells #[] 9) = w6 at *
  have hx5 := (hx.below hbe5).mono hbe5.size
  have hc1' : ∀ (Y : World), Below w5.heap.size w5 Y → ∀ j, j < n + 1 → Y.cell? ⟨b1, o1 + j, none⟩ = some (.string (xs.getD j ⟨#[]⟩)) := fun Y hY j hj =>
    ((hbe5.trans (hY.mono hbe5.size)).cell (p := ⟨b1, o1 + j, none⟩) hb1).trans (hc1 j hj)
  have HC := Lib.hid hc1'
  have HXL := Lib.hid hx.1
  have hz5 := hbe5.size
  clear hc1 hc1' hv0 hv4 hg4 hb4 hbe4 hx4 hg5 hb5 hv5 hb hxb q1 qn hb1'
  generalize hge : w5.heap.size = G at *
  have HG := Lib.hid hge
  clear hge
  go_loopw [5, 6] (fun v i wr => ∃ j : Nat, j ≤ n + 1 ∧ i = .int .i64 j ∧ OwnS wr G v (backS xs j) ∧ Below G w5 wr) (fun _ i _ => n + 1 - (intOf i).toNat)
  case atStart => exact ⟨0, by omega, rfl, hv6, hb6⟩
  case round =>
    obtain ⟨j, hj, rfl, hw, hbr⟩ := hrel
    clear hv6 hb6
    by_cases hlt : j < n + 1
    · have q1 := HC.out wr hbr (n - j) (by omega)
      have HSN := Lib.hid (backS_succ xs j)
      have he : xs.length - 1 - j = n - j := by rw [HXL.out]; omega
      rw [he] at HSN
      clear he
      obtain ⟨q, hq⟩ : ∃ q : Nat, n - j = q := ⟨_, rfl⟩
      have hq2 : (n : Int) - (j : Int) = (q : Int) := by omega
      have hqn : q < n + 1 := by omega
      rw [hq] at q1 HSN
      have HQQ := Lib.hid hq
      clear hq
      generalize xs.getD q ⟨#[]⟩ = x at *
      go_wp2_with (at_builtin; go_loud (refine wp_appS rfl (.tmp 43) (.tmp 51) rfl G _ _ (hw.alloc _) rfl _ _ _ _ rfl (StrsA.lit (by simp)) (fun h => by cases h) ?c1 ?c2 ?_; (case c1 => rw [backS_len]; omega); (case c2 => have := hbr.size; have := HG.out; simp; omega); intro v7 w7 hv7 hg7 hb7; have hbe7 := (hbr.alloc (by have := hbr.size; have := HG.out; omega) (.cells #[.string x] 9)).trans hb7))
      go_roundw
      case rel => exact ⟨j + 1, by omega, by go_num, by rw [HSN.out]; exact hv7, hbe7⟩
      case measure => simp [intOf]; omega
    · obtain rfl : j = n + 1 := by omega
      obtain ⟨C, cc, rfl, hcc⟩ := hw.shape
      rw [backS_len] at hw hcc ⊢
      have hs3 := hw.strs
      have HBK := Lib.hid (show addL (backS xs (n + 1)) = addL xs by rw [← HXL.out, backS_all, addL_reverse])
      have HBS := Lib.hid (backS_size xs 200 S1.out (n + 1) (by rw [HXL.out]; omega))
      have T1 := Lib.hid (fun x (h : x ∈ xs.take n) => S1.out x (List.mem_of_mem_take h))
      have hxw := (hx5.below hbr).mono (show G ≤ wr.heap.size by have := hbr.size; have := HG.out; omega)
      have htw := (ht5.below (show Below G w5 wr from hbr)).mono (show G ≤ wr.heap.size by have := hbr.size; have := HG.out; omega)
      clear hw
      go_wp2_with fail
      refine wp_region_nf (fun Y => Below G w5 Y) (fun _ => false) [(0, true), (1, true), (2, true), (3, true), (4, true), (5, true), (6, true), (7, true), (8, true), (9, false), (10, false), (11, false), (12, true)] (by kernel_rfl) rfl (by kernel_rfl) (by kernel_rfl) (fun d _ _ _ _ h => by cases d <;> exact h) ?_
      have hbd := hbr.drew
      replace hs3 := hs3.drew
      replace hxw := hxw.drew
      replace htw := htw.drew
      have hzz : wr.heap.size = wr.drew.heap.size := rfl
      rw [hzz] at hs3 hxw htw
      clear hzz hbr
      generalize wr.drew = V at *
      repeat (refine nf_pure rfl hbd (fun Y hY => by have hl := HC.out Y hY n (by omega); rw [HXE.out] at hl; clear hY; go_wp2; exact ⟨rfl, rfl, rfl⟩) rfl ?_ ?_; rfl)
      refine nf_imp rfl ?_
      go_wp2_with fail
      have htk := hxw.take n (by omega)
      refine (Q_any _ _ _ _ _ htk (by omega) (by omega) (fun x hx => by have := T1.out x hx; omega)).mono ?_
      rintro e W1 ⟨rfl, hb3⟩
      clear htk
      replace hs3 := (hs3.below hb3).mono hb3.size
      replace hxw := (hxw.below hb3).mono hb3.size
      replace htw := (htw.below hb3).mono hb3.size
      replace hbd := hbd.trans (hb3.mono (by have := hbd.size; have := HG.out; omega))
      clear hb3
      go_wp2_with fail
      refine ⟨fun _ => hbd, ?_⟩
      refine nf_imp rfl ?_
      go_wp2_with fail
      refine (refTimes_any _ _ 2 (by rw [size_mk]; have := qL_len 200 _ T1.out; omega) (by omega)).mono ?_
      rintro e W2 ⟨rfl, hb3⟩
      rw [mk_list]
      replace hs3 := (hs3.below hb3).mono hb3.size
      replace hxw := (hxw.below hb3).mono hb3.size
      replace htw := (htw.below hb3).mono hb3.size
      replace hbd := hbd.trans (hb3.mono (by have := hbd.size; have := HG.out; omega))
      clear hb3
      go_wp2_with fail
      refine ⟨fun _ => hbd, ?_⟩
      refine nf_imp rfl ?_
      go_wp2_with fail
      refine (refXor_any _ _ _ (by have := HXN.out; omega) (by rw [size_mk, mulL_len]; have := qL_len 200 _ T1.out; omega)).mono ?_
      rintro e W3 ⟨rfl, hb3⟩
      rw [mk_list, ← HT.out.2]
      replace hs3 := (hs3.below hb3).mono hb3.size
      replace hxw := (hxw.below hb3).mono hb3.size
      replace htw := (htw.below hb3).mono hb3.size
      replace hbd := hbd.trans (hb3.mono (by have := hbd.size; have := HG.out; omega))
      clear hb3
      go_wp2_with fail
      refine ⟨fun _ => hbd, ?_⟩
      repeat (refine nf_pure rfl hbd (fun Y hY => by clear hY; go_wp2; exact ⟨rfl, rfl, rfl⟩) rfl ?_ ?_; rfl)
      refine nf_nil ?_
      go_wp2_with fail
      refine (P_any _ _ _ _ _ _ htw (Nat.le_refl _) (by omega) (fun x hx => by have := HTS.out x hx; omega)).mono ?_
      rintro e W4 ⟨rfl, hb3⟩
      rw [HT.out.1]
      replace hs3 := (hs3.below hb3).mono hb3.size
      replace hxw := (hxw.below hb3).mono hb3.size
      replace htw := (htw.below hb3).mono hb3.size
      replace hbd := hbd.trans (hb3.mono (by have := hbd.size; have := HG.out; omega))
      clear hb3
      go_wp2_with fail
      refine (P_any _ _ _ _ _ _ hxw (Nat.le_refl _) (by omega) (fun x hx => by have := S1.out x hx; omega)).mono ?_
      rintro e W5 ⟨rfl, hb3⟩
      replace hs3 := (hs3.below hb3).mono hb3.size
      replace hxw := (hxw.below hb3).mono hb3.size
      replace htw := (htw.below hb3).mono hb3.size
      replace hbd := hbd.trans (hb3.mono (by have := hbd.size; have := HG.out; omega))
      clear hb3
      go_wp2_with fail
      refine (P_any _ _ _ _ _ _ hs3 (Nat.le_refl _) (by omega) (fun x hx => by have := HBS.out x hx; omega)).mono ?_
      rintro e W6 ⟨rfl, hb3⟩
      rw [HBK.out]
      replace hxw := (hxw.below hb3).mono hb3.size
      replace htw := (htw.below hb3).mono hb3.size
      replace hbd := hbd.trans (hb3.mono (by have := hbd.size; have := HG.out; omega))
      clear hb3
      go_wp2_with fail
      refine (P_any _ _ _ _ _ _ hxw (Nat.le_refl _) (by omega) (fun x hx => by have := S1.out x hx; omega)).mono ?_
      rintro e W7 ⟨rfl, hb3⟩
      replace htw := (htw.below hb3).mono hb3.size
      replace hbd := hbd.trans (hb3.mono (by have := hbd.size; have := HG.out; omega))
      clear hb3
      go_wp2_with fail
      refine (Q_any _ _ _ _ _ htw (by omega) hc5 (fun x hx => by have := HTS.out x hx; omega)).mono ?_
      rintro e W8 ⟨rfl, hb3⟩
      replace hbd := hbd.trans (hb3.mono (by have := hbd.size; have := HG.out; omega))
      clear hb3
      go_wp2_with fail
      have hql := qL_len 200 _ HTS.out
      refine (refXor_any _ _ _ (by rw [size_mk]; omega) (by rw [size_mk]; omega)).mono ?_
      rintro e W9 ⟨rfl, hb3⟩
      rw [mk_list]
      replace hbd := hbd.trans (hb3.mono (by have := hbd.size; have := HG.out; omega))
      clear hb3
      go_wp2_with fail
      have hzs := zeroB_self (qL TT)
      have hxs : (xorL (qL TT) (qL TT)).length ≤ 200 := by rw [xorL_length]; omega
      refine (zero_any _ ⟨(xorL (qL TT) (qL TT)).toArray⟩ (by rw [size_mk]; omega)).mono ?_
      rintro e W10 ⟨rfl, rfl⟩
      rw [mk_list, hzs]
      go_wp2_with fail
      go_ret
      exact ⟨rfl, hbe5.trans (hbd.mono (by have := HG.out; omega))⟩
theorem syndromeOrder_walk (A : Option Addr) (n c : Nat) (xs : List ByteArray) (w : World) (hx : StrsIn w A n c xs) :
    Calls Try.prog 4 #[.slice A n c] w fun e w' => e = .returned (.bool true) ∧ Below w.heap.size w w' := by
  obtain ⟨h1, h2, h3, h4, _⟩ := hx
  by_cases h : heavyB xs = true ∨ n = 0
  · exact order_heavy w A n c xs h1 (by omega) h
  · obtain ⟨b1, o1, rfl, hb1, hc1⟩ := h1.2 (by omega)
    obtain ⟨k, rfl⟩ : ∃ k, n = k + 1 := ⟨n - 1, by omega⟩
    exact order_light w b1 o1 k c xs h1 hb1 hc1 (by omega) h2 h3 (by simpa using fun e => h (Or.inl e))
end Go.Proofs.Ytaghdkiafgainaa
