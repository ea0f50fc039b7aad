/- revetmentlaw05.SyndromeSums: its walk. -/
import Derived.Test.YtaghdkiafgainaaSyPlain
import Derived.Test.YtaghdkiafgainaaRXor
namespace Go.Proofs.Ytaghdkiafgainaa
open Go.RowKit Go.OpenShut

set_option maxHeartbeats 1000000 in
theorem sums_heavy (w : World) (A B : Option Addr) (n c m d : Nat) (xs ys : List ByteArray) (hx : StrsA w w.heap.size A n xs) (hy : StrsA w w.heap.size B m ys) (hn : n ≤ maxLen) (hm : m ≤ maxLen) (h : heavyB xs = true ∨ heavyB ys = true) :
    Calls Try.prog 3 #[.slice A n c, .slice B m d] w fun e w' => e = .returned (.bool true) ∧ Below w.heap.size w w' := by
  have HX := Lib.hid (fun w' (e : w = w') => e ▸ heavy_any w A n c xs hx hn)
  have HY := Lib.hid (fun w' (e : w = w') => e ▸ heavy_any w B m d ys hy hm)
  clear hx hy hn hm
  generalize heavyB xs = p at *
  generalize heavyB ys = q at *
  cases p
  · obtain rfl : q = true := by simpa using h
    clear h
    go_enter Try.func3, Try.ntmps3
    go_wp2_with fail
    refine (HX.out _ rfl).mono ?_
    rintro e w1 ⟨rfl, rfl⟩
    go_wp2_with fail
    refine (HY.out _ rfl).mono ?_
    rintro e w1 ⟨rfl, rfl⟩
    go_wp2_with fail
    refine (shown5_any _).mono ?_
    rintro e w1 ⟨rfl, hb⟩
    go_wp2_with fail
    go_ret
    exact ⟨rfl, hb⟩
  · clear h
    go_enter Try.func3, Try.ntmps3
    go_wp2_with fail
    refine (HX.out _ rfl).mono ?_
    rintro e w1 ⟨rfl, rfl⟩
    go_wp2_with fail
    refine (shown5_any _).mono ?_
    rintro e w1 ⟨rfl, hb⟩
    go_wp2_with fail
    go_ret
    exact ⟨rfl, hb⟩

set_option maxHeartbeats 8000000 in
theorem sums_light (w : World) (A B : Option Addr) (n c m d : Nat) (xs ys : List ByteArray) (hx : StrsA w w.heap.size A n xs) (hy : StrsA w w.heap.size B m ys) (hn : n ≤ maxLen) (hm : m ≤ maxLen)
    (hnc : n ≤ c) (hmd : m ≤ d) (hA : A = none → c = 0) (hB : B = none → d = 0) (hc : c ≤ maxLen) (hd : d ≤ maxLen) (h1 : heavyB xs = false) (h2 : heavyB ys = false) :
    Calls Try.prog 3 #[.slice A n c, .slice B m d] w fun e w' => e = .returned (.bool true) ∧ Below w.heap.size w w' := by
  have hHX := heavy_any w A n c xs hx hn
  have hHY := heavy_any w B m d ys hy hm
  rw [h1] at hHX
  rw [h2] at hHY
  have HX := Lib.hid (fun w' (e : w = w') => e ▸ hHX)
  have HY := Lib.hid (fun w' (e : w = w') => e ▸ hHY)
  clear hHX hHY
  obtain ⟨l1, s1⟩ := (heavyB_no xs).1 h1
  obtain ⟨l2, s2⟩ := (heavyB_no ys).1 h2
  have S1 := Lib.hid s1
  have S2 := Lib.hid s2
  rw [hx.1] at l1
  rw [hy.1] at l2
  clear s1 s2 h1 h2 hn hm
  obtain ⟨k, hk, k1, k2⟩ : ∃ k : Nat, min (n : Int) (m : Int) = (k : Int) ∧ k ≤ n ∧ k ≤ m := ⟨min n m, by omega, by omega, by omega⟩
  go_enter Try.func3, Try.ntmps3
  go_wp2_with fail
  refine (HX.out _ rfl).mono ?_
  rintro e w1 ⟨rfl, rfl⟩
  go_wp2_with fail
  refine (HY.out _ rfl).mono ?_
  rintro e w1 ⟨rfl, rfl⟩
  go_wp2_with fail
  refine (shown5_any _).mono ?_
  rintro e w1 ⟨rfl, hb⟩
  go_wp2_with fail
  have hv := OwnS.new w1 w.heap.size hb.size
  replace hb := hb.alloc hb.size (.cells #[] 9)
  have HZ0 := Lib.hid (show sumS xs ys 0 = [] from rfl)
  generalize w1.alloc (.cells #[] 9) = w2 at *
  generalize w1.heap.size = g0 at *
  go_loopw [6, 7] (fun v i wr => ∃ j : Nat, j ≤ k ∧ i = .int .i64 j ∧ OwnS wr w.heap.size v (sumS xs ys j) ∧ Below w.heap.size w wr) (fun _ i _ => k - (intOf i).toNat)
  case atStart => exact ⟨0, by omega, rfl, hv, hb⟩
  case round =>
    obtain ⟨j, hj, rfl, hw, hbr⟩ := hrel
    clear hv hb
    by_cases hlt : j < k
    · obtain ⟨b1, o1, rfl, hb1, hc1⟩ := hx.2 (by omega)
      obtain ⟨b2, o2, rfl, hb2, hc2⟩ := hy.2 (by omega)
      have q1 := hc1 j (by omega)
      have q2 := hc2 j (by omega)
      have HS1 := Lib.hid (S1.out _ (mem_getD (xs := xs) (k := j) (by rw [hx.1]; omega)))
      have HS2 := Lib.hid (S2.out _ (mem_getD (xs := ys) (k := j) (by rw [hy.1]; omega)))
      have HSN := Lib.hid (sumS_succ xs ys j)
      generalize xs.getD j ⟨#[]⟩ = x at *
      generalize ys.getD j ⟨#[]⟩ = y at *
      obtain ⟨C, cc, rfl, hcc⟩ := hw.shape
      have HLL := Lib.hid (sumS_len xs ys j)
      rw [HLL.out] at hw ⊢
      have hjn : j < n := by omega
      have hjm : j < m := by omega
      clear hc1 hc2
      have HQ := Lib.hid (fun (Y : World) (hY : Below w.heap.size w Y) => (⟨(hY.cell (p := ⟨b1, o1 + j, none⟩) hb1).trans q1, (hY.cell (p := ⟨b2, o2 + j, none⟩) hb2).trans q2⟩ : Y.cell? ⟨b1, o1 + j, none⟩ = some (.string x) ∧ Y.cell? ⟨b2, o2 + j, none⟩ = some (.string y)))
      clear q1 q2
      go_wp2_with fail
      refine wp_region_nf (fun Y => Below w.heap.size w Y) (fun _ => false) [(0, true), (1, true), (2, true), (3, true), (4, true), (5, true), (6, true), (7, true), (8, true), (9, false), (10, false), (11, false), (12, true)] (by kernel_rfl) rfl (by kernel_rfl) (by kernel_rfl) (fun d _ _ _ _ h => by cases d <;> exact h) ?_
      have hbd := hbr.drew
      repeat (refine nf_pure rfl hbd (fun Y hY => by obtain ⟨g1, g2⟩ := HQ.out Y hY; clear hY; go_wp2; exact ⟨rfl, rfl, rfl⟩) rfl ?_ ?_; rfl)
      refine nf_imp rfl ?_
      go_wp2_with fail
      refine (refXor_any _ x y (by have := HS1.out; omega) (by have := HS2.out; omega)).mono ?_
      rintro e w3 ⟨rfl, hb3⟩
      rw [show (⟨(xorL x.data.toList y.data.toList).toArray⟩ : ByteArray) = xorS x y from rfl]
      have hw3 := (hw.drew).below hb3
      replace hbd := hbd.trans (hb3.mono hbd.size)
      clear hb3 hw
      generalize xorS x y = z at *
      go_wp2_with fail
      refine ⟨fun _ => hbd, ?_⟩
      refine nf_imp rfl ?_
      go_wp2_with fail
      have hN := Blk.new w3 9 #[.string z]
      replace hw3 := hw3.alloc (.cells #[.string z] 9)
      replace hbd := hbd.alloc hbd.size (.cells #[.string z] 9)
      have hN1 := StrsA.one hN
      generalize w3.alloc (.cells #[.string z] 9) = w4 at *
      refine ⟨fun _ => hbd, ?_⟩
      refine nf_imp rfl ?_
      refine wp_appS rfl (.tmp 30) (.tmp 40) rfl w.heap.size _ _ hw3 rfl _ _ _ _ rfl hN1 (fun h => by cases h) (by rw [sumS_len]; omega) hbd.size ?_
      intro v5 w5 hv5 hg5 hb5
      replace hbd := hbd.trans hb5
      clear hg5 hb5 hN hN1 hw3
      rw [← HSN.out] at hv5
      go_wp2_with fail
      refine ⟨fun _ => hbd, ?_⟩
      repeat (refine nf_pure rfl hbd (fun Y hY => by clear hY; go_wp2; exact ⟨rfl, rfl, rfl⟩) rfl ?_ ?_; rfl)
      refine nf_nil ?_
      go_wp2_with fail
      go_roundw
      case rel => exact ⟨j + 1, by omega, by go_num, hv5, hbd⟩
      case measure => simp [intOf]; omega
    · obtain rfl : j = k := by omega
      obtain ⟨C, cc, rfl, hcc⟩ := hw.shape
      have HLL := Lib.hid (sumS_len xs ys j)
      rw [HLL.out] at hw hcc ⊢
      have hs3 := hw.strs
      have HP := Lib.hid (sumS_add xs ys j (by rw [hx.1]; exact k1) (by rw [hy.1]; exact k2))
      have HQ := Lib.hid (sumS_q xs ys j (by rw [hx.1]; exact k1) (by rw [hy.1]; exact k2))
      have HSZ := Lib.hid (sumS_size xs ys 200 S1.out S2.out j (by rw [hx.1]; exact k1) (by rw [hy.1]; exact k2))
      have hx1 := hx.take j k1
      have hy1 := hy.take j k2
      have T1 := Lib.hid (fun x (h : x ∈ xs.take j) => S1.out x (List.mem_of_mem_take h))
      have T2 := Lib.hid (fun x (h : x ∈ ys.take j) => S2.out x (List.mem_of_mem_take h))
      clear hw
      have hz40 : j ≤ 40 := by omega
      by_cases h1 : j = 1
      · obtain ⟨b1, o1, rfl, hb1, hc1⟩ := hx.2 (by omega)
        subst h1
        have q1 : w.cell? ⟨b1, o1, none⟩ = some (.string (xs.getD 0 ⟨#[]⟩)) := hc1 0 (by omega)
        have HONE : Hid ((⟨(qL (xs.take 1)).toArray⟩ : ByteArray) = xs.getD 0 ⟨#[]⟩) := Lib.hid (by
          have h0 : 0 < xs.length := by rw [hx.1]; omega
          rw [show xs.take 1 = [] ++ [xs.getD 0 ⟨#[]⟩] from take_snocS xs 0 h0, qL_snoc, qL_nil, xorL_nil, List.length_nil, show pw 0 = 1 from rfl, lin7])
        generalize xs.getD 0 ⟨#[]⟩ = x0 at *
        have HL0 := Lib.hid (fun (Y : World) (hY : Below w.heap.size w Y) => (hY.cell (p := ⟨b1, o1, none⟩) hb1).trans q1)
        clear hc1 q1
        go_wp2_with fail
        refine wp_region_nf (fun Y => Below w.heap.size w Y) (fun _ => false) [(0, true), (2, true), (3, true), (4, true), (6, true), (7, true), (8, true), (1, false), (5, false), (9, false), (10, false), (11, true), (12, true), (13, true), (15, true), (16, true), (17, true), (19, true), (20, true), (21, true), (14, false), (18, false), (22, false), (23, false), (24, true), (25, true), (26, true), (27, true), (28, true), (29, true), (30, true), (31, true), (32, true), (34, true), (35, true), (36, true), (33, false), (37, true), (38, true), (39, true), (40, true)] (by kernel_rfl) rfl (by kernel_rfl) (by kernel_rfl) (fun d _ _ _ _ h => by cases d <;> exact h) ?_
        have hbd := hbr.drew
        have hs4 : StrsA wr.drew wr.drew.heap.size C 1 (sumS xs ys 1) := hs3
        have hx4 := (hx1.below hbd).mono hbd.size
        have hy4 := (hy1.below hbd).mono hbd.size
        clear hs3 hx1 hy1 hbr
        generalize wr.drew = V at *
        repeat (refine nf_pure rfl hbd (fun Y hY => by have hl := HL0.out Y hY; clear hY; go_wp2; exact ⟨rfl, rfl, rfl⟩) rfl ?_ ?_; rfl)
        refine nf_imp rfl ?_
        go_wp2_with fail
        refine (P_any _ _ _ _ _ _ hs4 (Nat.le_refl _) (by omega) (fun x hx => by have := HSZ.out x hx; omega)).mono ?_
        rintro e W1 ⟨rfl, hb3⟩
        rw [HP.out]
        replace hs4 := (hs4.below hb3).mono hb3.size
        replace hx4 := (hx4.below hb3).mono hb3.size
        replace hy4 := (hy4.below hb3).mono hb3.size
        replace hbd := hbd.trans (hb3.mono hbd.size)
        clear hb3
        go_wp2_with fail
        refine ⟨fun _ => hbd, ?_⟩
        refine nf_imp rfl ?_
        go_wp2_with fail
        refine (P_any _ _ _ _ _ _ hx4 (Nat.le_refl _) (by omega) (fun x hx => by have := T1.out x hx; omega)).mono ?_
        rintro e W2 ⟨rfl, hb3⟩
        replace hs4 := (hs4.below hb3).mono hb3.size
        replace hx4 := (hx4.below hb3).mono hb3.size
        replace hy4 := (hy4.below hb3).mono hb3.size
        replace hbd := hbd.trans (hb3.mono hbd.size)
        clear hb3
        go_wp2_with fail
        refine ⟨fun _ => hbd, ?_⟩
        refine nf_imp rfl ?_
        go_wp2_with fail
        refine (P_any _ _ _ _ _ _ hy4 (Nat.le_refl _) (by omega) (fun x hx => by have := T2.out x hx; omega)).mono ?_
        rintro e W3 ⟨rfl, hb3⟩
        replace hs4 := (hs4.below hb3).mono hb3.size
        replace hx4 := (hx4.below hb3).mono hb3.size
        replace hy4 := (hy4.below hb3).mono hb3.size
        replace hbd := hbd.trans (hb3.mono hbd.size)
        clear hb3
        go_wp2_with fail
        refine ⟨fun _ => hbd, ?_⟩
        refine nf_imp rfl ?_
        go_wp2_with fail
        refine (refXor_any _ _ _ (by rw [size_mk]; have := addL_len 200 _ T1.out; omega) (by rw [size_mk]; have := addL_len 200 _ T2.out; omega)).mono ?_
        rintro e W4 ⟨rfl, hb3⟩
        rw [mk_list, mk_list]
        replace hs4 := (hs4.below hb3).mono hb3.size
        replace hx4 := (hx4.below hb3).mono hb3.size
        replace hy4 := (hy4.below hb3).mono hb3.size
        replace hbd := hbd.trans (hb3.mono hbd.size)
        clear hb3
        go_wp2_with fail
        refine ⟨fun _ => hbd, ?_⟩
        generalize (⟨(xorL (addL (xs.take 1)) (addL (ys.take 1))).toArray⟩ : ByteArray) = PP at *
        repeat (refine nf_pure rfl hbd (fun Y hY => by have hl := HL0.out Y hY; clear hY; go_wp2; exact ⟨rfl, rfl, rfl⟩) rfl ?_ ?_; rfl)
        refine nf_imp rfl ?_
        go_wp2_with fail
        refine (Q_any _ _ _ _ _ hs4 (by omega) hcc (fun x hx => by have := HSZ.out x hx; omega)).mono ?_
        rintro e W5 ⟨rfl, hb3⟩
        rw [HQ.out]
        replace hx4 := (hx4.below hb3).mono hb3.size
        replace hy4 := (hy4.below hb3).mono hb3.size
        replace hbd := hbd.trans (hb3.mono hbd.size)
        clear hb3
        go_wp2_with fail
        refine ⟨fun _ => hbd, ?_⟩
        refine nf_imp rfl ?_
        go_wp2_with fail
        refine (Q_any _ _ _ _ _ hx4 (by omega) (by omega) (fun x hx => by have := T1.out x hx; omega)).mono ?_
        rintro e W6 ⟨rfl, hb3⟩
        replace hx4 := (hx4.below hb3).mono hb3.size
        replace hy4 := (hy4.below hb3).mono hb3.size
        replace hbd := hbd.trans (hb3.mono hbd.size)
        clear hb3
        go_wp2_with fail
        refine ⟨fun _ => hbd, ?_⟩
        refine nf_imp rfl ?_
        go_wp2_with fail
        refine (Q_any _ _ _ _ _ hy4 (by omega) (by omega) (fun x hx => by have := T2.out x hx; omega)).mono ?_
        rintro e W7 ⟨rfl, hb3⟩
        replace hx4 := (hx4.below hb3).mono hb3.size
        replace hbd := hbd.trans (hb3.mono hbd.size)
        clear hb3
        go_wp2_with fail
        refine ⟨fun _ => hbd, ?_⟩
        refine nf_imp rfl ?_
        go_wp2_with fail
        refine (refXor_any _ _ _ (by rw [size_mk]; have := qL_len 200 _ T1.out; omega) (by rw [size_mk]; have := qL_len 200 _ T2.out; omega)).mono ?_
        rintro e W8 ⟨rfl, hb3⟩
        rw [mk_list, mk_list]
        replace hx4 := (hx4.below hb3).mono hb3.size
        replace hbd := hbd.trans (hb3.mono hbd.size)
        clear hb3
        go_wp2_with fail
        refine ⟨fun _ => hbd, ?_⟩
        generalize (⟨(xorL (qL (xs.take 1)) (qL (ys.take 1))).toArray⟩ : ByteArray) = QQ at *
        repeat (refine nf_pure rfl hbd (fun Y hY => by have hl := HL0.out Y hY; clear hY; go_wp2; exact ⟨rfl, rfl, rfl⟩) rfl ?_ ?_; rfl)
        refine nf_imp rfl ?_
        go_wp2_with fail
        refine (Q_any _ _ _ _ _ hx4 (by omega) (by omega) (fun x hx => by have := T1.out x hx; omega)).mono ?_
        rintro e W9 ⟨rfl, hb3⟩
        rw [HONE.out]
        replace hbd := hbd.trans (hb3.mono hbd.size)
        clear hb3
        go_wp2_with fail
        refine ⟨fun _ => hbd, ?_⟩
        repeat (refine nf_pure rfl hbd (fun Y hY => by have hl := HL0.out Y hY; clear hY; go_wp2; exact ⟨rfl, rfl, rfl⟩) rfl ?_ ?_; rfl)
        refine nf_nil ?_
        go_wp2_with fail
        go_ret
        exact ⟨rfl, hbd⟩
      · have hne : ((j : Int) != 1) = true := by rw [bne_iff_ne]; omega
        have HL0 := Lib.hid (fun (Y : World) (hY : Below w.heap.size w Y) => (trivial : True))
        go_wp2_with fail
        refine wp_region_nf (fun Y => Below w.heap.size w Y) (fun _ => false) [(0, true), (2, true), (3, true), (4, true), (6, true), (7, true), (8, true), (1, false), (5, false), (9, false), (10, false), (11, true), (12, true), (13, true), (15, true), (16, true), (17, true), (19, true), (20, true), (21, true), (14, false), (18, false), (22, false), (23, false), (24, true), (25, true), (26, true), (27, true), (28, true), (29, true), (30, true), (31, true), (32, true), (34, true), (35, true), (36, true), (33, false), (37, true), (38, true), (39, true), (40, true)] (by kernel_rfl) rfl (by kernel_rfl) (by kernel_rfl) (fun d _ _ _ _ h => by cases d <;> exact h) ?_
        have hbd := hbr.drew
        have hs4 : StrsA wr.drew wr.drew.heap.size C j (sumS xs ys j) := hs3
        have hx4 := (hx1.below hbd).mono hbd.size
        have hy4 := (hy1.below hbd).mono hbd.size
        clear hs3 hx1 hy1 hbr
        generalize wr.drew = V at *
        repeat (refine nf_pure rfl hbd (fun Y hY => by have hl := HL0.out Y hY; clear hY; go_wp2; exact ⟨rfl, rfl, rfl⟩) rfl ?_ ?_; rfl)
        refine nf_imp rfl ?_
        go_wp2_with fail
        refine (P_any _ _ _ _ _ _ hs4 (Nat.le_refl _) (by omega) (fun x hx => by have := HSZ.out x hx; omega)).mono ?_
        rintro e W1 ⟨rfl, hb3⟩
        rw [HP.out]
        replace hs4 := (hs4.below hb3).mono hb3.size
        replace hx4 := (hx4.below hb3).mono hb3.size
        replace hy4 := (hy4.below hb3).mono hb3.size
        replace hbd := hbd.trans (hb3.mono hbd.size)
        clear hb3
        go_wp2_with fail
        refine ⟨fun _ => hbd, ?_⟩
        refine nf_imp rfl ?_
        go_wp2_with fail
        refine (P_any _ _ _ _ _ _ hx4 (Nat.le_refl _) (by omega) (fun x hx => by have := T1.out x hx; omega)).mono ?_
        rintro e W2 ⟨rfl, hb3⟩
        replace hs4 := (hs4.below hb3).mono hb3.size
        replace hx4 := (hx4.below hb3).mono hb3.size
        replace hy4 := (hy4.below hb3).mono hb3.size
        replace hbd := hbd.trans (hb3.mono hbd.size)
        clear hb3
        go_wp2_with fail
        refine ⟨fun _ => hbd, ?_⟩
        refine nf_imp rfl ?_
        go_wp2_with fail
        refine (P_any _ _ _ _ _ _ hy4 (Nat.le_refl _) (by omega) (fun x hx => by have := T2.out x hx; omega)).mono ?_
        rintro e W3 ⟨rfl, hb3⟩
        replace hs4 := (hs4.below hb3).mono hb3.size
        replace hx4 := (hx4.below hb3).mono hb3.size
        replace hy4 := (hy4.below hb3).mono hb3.size
        replace hbd := hbd.trans (hb3.mono hbd.size)
        clear hb3
        go_wp2_with fail
        refine ⟨fun _ => hbd, ?_⟩
        refine nf_imp rfl ?_
        go_wp2_with fail
        refine (refXor_any _ _ _ (by rw [size_mk]; have := addL_len 200 _ T1.out; omega) (by rw [size_mk]; have := addL_len 200 _ T2.out; omega)).mono ?_
        rintro e W4 ⟨rfl, hb3⟩
        rw [mk_list, mk_list]
        replace hs4 := (hs4.below hb3).mono hb3.size
        replace hx4 := (hx4.below hb3).mono hb3.size
        replace hy4 := (hy4.below hb3).mono hb3.size
        replace hbd := hbd.trans (hb3.mono hbd.size)
        clear hb3
        go_wp2_with fail
        refine ⟨fun _ => hbd, ?_⟩
        generalize (⟨(xorL (addL (xs.take j)) (addL (ys.take j))).toArray⟩ : ByteArray) = PP at *
        repeat (refine nf_pure rfl hbd (fun Y hY => by have hl := HL0.out Y hY; clear hY; go_wp2; exact ⟨rfl, rfl, rfl⟩) rfl ?_ ?_; rfl)
        refine nf_imp rfl ?_
        go_wp2_with fail
        refine (Q_any _ _ _ _ _ hs4 (by omega) hcc (fun x hx => by have := HSZ.out x hx; omega)).mono ?_
        rintro e W5 ⟨rfl, hb3⟩
        rw [HQ.out]
        replace hx4 := (hx4.below hb3).mono hb3.size
        replace hy4 := (hy4.below hb3).mono hb3.size
        replace hbd := hbd.trans (hb3.mono hbd.size)
        clear hb3
        go_wp2_with fail
        refine ⟨fun _ => hbd, ?_⟩
        refine nf_imp rfl ?_
        go_wp2_with fail
        refine (Q_any _ _ _ _ _ hx4 (by omega) (by omega) (fun x hx => by have := T1.out x hx; omega)).mono ?_
        rintro e W6 ⟨rfl, hb3⟩
        replace hx4 := (hx4.below hb3).mono hb3.size
        replace hy4 := (hy4.below hb3).mono hb3.size
        replace hbd := hbd.trans (hb3.mono hbd.size)
        clear hb3
        go_wp2_with fail
        refine ⟨fun _ => hbd, ?_⟩
        refine nf_imp rfl ?_
        go_wp2_with fail
        refine (Q_any _ _ _ _ _ hy4 (by omega) (by omega) (fun x hx => by have := T2.out x hx; omega)).mono ?_
        rintro e W7 ⟨rfl, hb3⟩
        replace hx4 := (hx4.below hb3).mono hb3.size
        replace hbd := hbd.trans (hb3.mono hbd.size)
        clear hb3
        go_wp2_with fail
        refine ⟨fun _ => hbd, ?_⟩
        refine nf_imp rfl ?_
        go_wp2_with fail
        refine (refXor_any _ _ _ (by rw [size_mk]; have := qL_len 200 _ T1.out; omega) (by rw [size_mk]; have := qL_len 200 _ T2.out; omega)).mono ?_
        rintro e W8 ⟨rfl, hb3⟩
        rw [mk_list, mk_list]
        replace hx4 := (hx4.below hb3).mono hb3.size
        replace hbd := hbd.trans (hb3.mono hbd.size)
        clear hb3
        go_wp2_with fail
        refine ⟨fun _ => hbd, ?_⟩
        generalize (⟨(xorL (qL (xs.take j)) (qL (ys.take j))).toArray⟩ : ByteArray) = QQ at *
        repeat (refine nf_pure rfl hbd (fun Y hY => by have hl := HL0.out Y hY; clear hY; go_wp2; exact ⟨rfl, rfl, rfl⟩) rfl ?_ ?_; rfl)
        refine nf_imp rfl ?_
        go_wp2_with fail
        refine ⟨fun _ => hbd, ?_⟩
        repeat (refine nf_pure rfl hbd (fun Y hY => by have hl := HL0.out Y hY; clear hY; go_wp2; exact ⟨rfl, rfl, rfl⟩) rfl ?_ ?_; rfl)
        refine nf_nil ?_
        go_wp2_with fail
        go_ret
        exact ⟨rfl, hbd⟩
theorem syndromeSums_walk (A : Option Addr) (n c : Nat) (xs : List ByteArray) (B : Option Addr) (m d : Nat) (ys : List ByteArray) (w : World) (hx : StrsIn w A n c xs) (hy : StrsIn w B m d ys) :
    Calls Try.prog 3 #[.slice A n c, .slice B m d] w fun e w' => e = .returned (.bool true) ∧ Below w.heap.size w w' := by
  obtain ⟨h1, h2, h3, h4, _⟩ := hx
  obtain ⟨g1, g2, g3, g4, _⟩ := hy
  by_cases h : heavyB xs = true ∨ heavyB ys = true
  · exact sums_heavy w A B n c m d xs ys h1 g1 (by omega) (by omega) h
  · exact sums_light w A B n c m d xs ys h1 g1 (by omega) (by omega) h2 g2 h4 g4 h3 g3 (by simpa using fun e => h (Or.inl e)) (by simpa using fun e => h (Or.inr e))
end Go.Proofs.Ytaghdkiafgainaa
