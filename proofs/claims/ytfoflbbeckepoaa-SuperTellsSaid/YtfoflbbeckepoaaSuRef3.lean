/- super, the document's: Decode. -/
import Derived.Test.YtfoflbbeckepoaaSuRef2
namespace Go.Proofs.Ytfoflbbeckepoaa
open Go.RowKit Go.OpenShut

theorem refSupRet {W : World} {g : Nat} (s : Sup) (E : Int) (fn : Func) (t0 t1 : Value) (rest : List Value) (h : Blk W g 43 s.v.cells) (hr : fn.results = #[ResultVar.cell 2 43, ResultVar.tmp 3]) :
    (results fn (t0 :: t1 :: .pointer (some ⟨g, 0, none⟩) :: .int .i64 E :: rest).toArray).run Try.prog W = .ok (.tuple #[s.v, .int .i64 E]) W := by
  have hq := h.cell
  obtain ⟨u, e, r, c, k, n, cl, b, nw, gr⟩ := s
  unfold Sup.v at *
  dsimp only [Value.cells] at hq
  simp [results, hr, go_sem, hq]
theorem refSupDec_short (w : World) (b : ByteArray) (h : b.size ≠ 64) :
    Calls Try.prog 16 #[.string b] w fun e w' => e = .returned (.tuple #[(Sup.zero).v, .int .i64 31]) ∧ Below w.heap.size w w' := by
  have hn : ((b.size : Int) != 64) = true := by rw [bne_iff_ne]; omega
  go_enter Try.func16, Try.ntmps16
  go_wp2_with fail
  exact bodyPost_ret (v := .tuple #[(Sup.zero).v, .int .i64 31]) (by simp [results, Try.results16, go_sem, Sup.v, Sup.zero]) rfl ⟨rfl, (Below.refl _ _).alloc (Nat.le_refl _) _⟩
set_option maxHeartbeats 2000000 in
theorem refSupDec_sum (w : World) (b : ByteArray) (h : b.size = 64) (ho : openB b.data.toList = false) :
    Calls Try.prog 16 #[.string b] w fun e w' => e = .returned (.tuple #[(Sup.zero).v, .int .i64 80]) ∧ Below w.heap.size w w' := by
  have hn : ((b.size : Int) != 64) = false := by rw [h]; rfl
  have HO := Lib.hid (fun w => refOpen_any w b (by rw [h]; unfold maxLen; omega))
  rw [ho] at HO
  clear h ho
  go_enter Try.func16, Try.ntmps16
  go_wp2_with fail
  refine (HO.out _).mono ?_
  rintro e w1 ⟨rfl, hb1⟩
  have hR := (Blk.new w 43 Sup.zero.v.cells).below hb1 (by simp)
  have hbe := ((Below.refl w.heap.size w).alloc (Nat.le_refl _) _).trans (hb1.mono (by simp))
  have hq := hR.cell
  have hf := hR.frozen
  unfold Sup.v Sup.zero at hq
  dsimp only [Value.cells] at hq
  clear hb1
  go_wp2_with fail
  have hbl := below_set10 hbe (Nat.le_refl _) Sup.zero
  have hB := hR.set10 _ Sup.zero
  show bodyPost _ _ _ _ _ (set10 w1 w.heap.size Sup.zero)
  generalize set10 w1 w.heap.size Sup.zero = W at *
  exact bodyPost_ret (refSupRet Sup.zero 80 _ _ _ _ hB Try.results16) rfl ⟨rfl, hbl⟩

set_option maxHeartbeats 4000000 in
theorem refSupDec_open (w : World) (b : ByteArray) (h : b.size = 64) (ho : openB b.data.toList = true) :
    Calls Try.prog 16 #[.string b] w fun e w' => e = .returned (.tuple #[(supDec b).1.v, .int .i64 (supDec b).2]) ∧ Below w.heap.size w w' := by
  have hn : ((b.size : Int) != 64) = false := by rw [h]; rfl
  have HO := Lib.hid (fun w => refOpen_any w b (by rw [h]; unfold maxLen; omega))
  rw [ho] at HO
  obtain ⟨ht1, ht2, ht3⟩ := open_sector b h ho
  have HR : Hid (supDec b = if (supNs b).getD 0 0 = 827610706 then supRest b (Sup.of (supNs b)) else (Sup.zero, 81)) := Lib.hid (by unfold supDec; rw [if_pos h, ho, if_pos rfl])
  obtain ⟨t, htt⟩ : ∃ t, openS b = t := ⟨_, rfl⟩
  rw [htt] at HO ht1 ht2 ht3
  have ht1' : ¬ t.size < 31 := by omega
  have ht1'' : 31 ≤ t.size := by omega
  have ht1''' : (31 : Int) ≤ (t.size : Int) := by omega
  have HT2 := Lib.hid ht2
  have HT3 := Lib.hid ht3
  clear h ho ht1 ht2 ht3 htt
  go_enter Try.func16, Try.ntmps16
  go_wp2_with fail
  refine (HO.out _).mono ?_
  rintro e w1 ⟨rfl, hb1⟩
  have hR := (Blk.new w 43 Sup.zero.v.cells).below hb1 (by simp)
  have hbe := ((Below.refl w.heap.size w).alloc (Nat.le_refl _) _).trans (hb1.mono (by simp))
  clear hb1
  go_wp2_with fail
  refine wp_region_nf (fun _ => True) (fun _ => false) [(0, true), (1, true), (2, false), (3, false), (4, true), (5, true), (6, true), (7, true), (8, true)] (by kernel_rfl) rfl (by kernel_rfl) (by kernel_rfl) (fun d _ _ _ _ h => by cases d <;> exact h) ?_
  repeat (refine nf_pure rfl trivial (fun w1 _ => by go_wp2; exact ⟨rfl, rfl, rfl⟩) rfl ?_ ?_; rfl)
  refine nf_imp rfl ?_
  go_wp2_with fail
  refine (refWidths_any _).mono ?_
  rintro e3 w3 ⟨rfl, rfl⟩
  go_wp2_with fail
  have hw3 := Blk.new w1 3 (ws11.map (Value.int .i64)).toArray
  have hlt := hR.lt
  replace hR := (hR.alloc (.cells (ws11.map (Value.int .i64)).toArray 3)).drew
  replace hbe := (hbe.alloc hbe.size (.cells (ws11.map (Value.int .i64)).toArray 3)).drew
  refine ⟨fun _ => trivial, ?_⟩
  refine nf_imp rfl ?_
  go_wp2_with fail
  refine (refDecode_any _ _ _ _ _ ws11 (IntsA.blk hw3.drew rfl (by simp))).mono ?_
  rintro e5 w5 ⟨A, n, c, rfl, hi, hb5⟩
  replace hR := hR.below hb5 hR.lt
  replace hbe := hbe.trans (hb5.mono hbe.size)
  clear hb5 hw3 hlt
  rw [(dec_ok ws11_ok (by rw [HT2.out]; rfl)).1, (dec_ok ws11_ok (by rw [HT2.out]; rfl)).2, HT3.out] at *
  go_wp2_with fail
  refine ⟨fun _ => trivial, ?_⟩
  repeat (refine nf_pure rfl trivial (fun w1 _ => by go_wp2; exact ⟨rfl, rfl, rfl⟩) rfl ?_ ?_; rfl)
  refine nf_nil ?_
  have hn11 : n = 11 := by rw [← hi.1, List.length_map, supNs_len]
  subst hn11
  obtain ⟨L, off, rfl, hL, hcl⟩ := hi.2 (by omega)
  have hcl' : ∀ j, j < 11 → w5.cell? ⟨L, off + j, none⟩ = some (.int .u64 (((supNs b).getD j 0 : Nat) : Int)) := fun j hj => by
    rw [hcl j hj]
    have : j < (supNs b).length := by rw [supNs_len]; exact hj
    simp [List.getD, this]
  have c0 : w5.cell? ⟨L, off, none⟩ = some (.int .u64 (((supNs b).getD 0 0 : Nat) : Int)) := hcl' 0 (by omega)
  have HC := Lib.hid hcl'
  clear hi hcl hcl'
  by_cases hm : (supNs b).getD 0 0 = 827610706
  · have HM1 := HR.out
    rw [if_pos hm] at HM1
    have HM := Lib.hid HM1
    clear HM1
    have hne : ((((supNs b).getD 0 0 : Nat) : Int) != 827610706) = false := by rw [hm]; rfl
    have hwf := Lib.hid (of_wf b)
    have c1 := HC.out 1 (by omega)
    have c2 := HC.out 2 (by omega)
    have c3 := HC.out 3 (by omega)
    have c4 := HC.out 4 (by omega)
    have c5 := HC.out 5 (by omega)
    have c6 := HC.out 6 (by omega)
    have c7 := HC.out 7 (by omega)
    have c8 := HC.out 8 (by omega)
    have c9 := HC.out 9 (by omega)
    have c10 := HC.out 10 (by omega)
    have b3 : (supNs b).getD 3 0 < 65536 := supNs_s b 0 (by omega)
    have b4 : (supNs b).getD 4 0 < 65536 := supNs_s b 1 (by omega)
    have b5 : (supNs b).getD 5 0 < 65536 := supNs_s b 2 (by omega)
    have b6 : (supNs b).getD 6 0 < 65536 := supNs_s b 3 (by omega)
    have b7 : (supNs b).getD 7 0 < 65536 := supNs_s b 4 (by omega)
    have b8 : (supNs b).getD 8 0 < 65536 := supNs_s b 5 (by omega)
    have b9 : (supNs b).getD 9 0 < 65536 := supNs_s b 6 (by omega)
    have b10 : (supNs b).getD 10 0 < 65536 := supNs_s b 7 (by omega)
    clear hm HC HR hn
    obtain ⟨s, hs0⟩ : ∃ s, Sup.of (supNs b) = s := ⟨_, rfl⟩
    have HS0 : Hid (s = ⟨(supNs b).getD 1 0, (supNs b).getD 2 0, (supNs b).getD 3 0, (supNs b).getD 4 0, (supNs b).getD 5 0, (supNs b).getD 6 0, (((supNs b).getD 7 0 : Nat) : Int) == 1, (supNs b).getD 8 0, (supNs b).getD 9 0, (supNs b).getD 10 0⟩) := Lib.hid hs0.symm
    rw [hs0] at HM hwf
    clear hs0
    generalize (supNs b).getD 0 0 = n0 at *
    generalize (supNs b).getD 1 0 = n1 at *
    generalize (supNs b).getD 2 0 = n2 at *
    generalize (supNs b).getD 3 0 = n3 at *
    generalize (supNs b).getD 4 0 = n4 at *
    generalize (supNs b).getD 5 0 = n5 at *
    generalize (supNs b).getD 6 0 = n6 at *
    generalize (supNs b).getD 7 0 = n7 at *
    generalize (supNs b).getD 8 0 = n8 at *
    generalize (supNs b).getD 9 0 = n9 at *
    generalize (supNs b).getD 10 0 = n10 at *
    go_wp2_with fail
    clear hne c0
    have hb0 := (Below.refl w5.heap.size w5).drew
    refine wp_region_nf (fun x => Below w5.heap.size w5 x) (fun _ => false) ((List.range 40).map (fun i => (i, true)) ++ [(40, false), (41, false)]) (by kernel_rfl) rfl (by kernel_rfl) (by kernel_rfl) (fun d _ _ _ _ h => by cases d <;> exact h) ?_
    repeat (refine nf_pure rfl hb0 (fun x hS => by have hx := fun o => hS.cell (p := ⟨L, o, none⟩) hL; clear hS; go_wp2; exact ⟨rfl, rfl, rfl⟩) rfl ?_ ?_; rfl)
    clear c1 c2 c3 c4 c5 c6 c7 c8 c9 c10
    refine nf_imp rfl ?_
    go_wp2_with fail
    refine ⟨fun _ => (Below.refl _ _).alloc (Nat.le_refl _) _ |>.drew, ?_⟩
    refine nf_imp rfl ?_
    go_wp2_with fail
    refine ⟨fun _ => (Below.refl _ _).alloc (Nat.le_refl _) _ |>.drew, ?_⟩
    refine nf_nil ?_
    go_wp2_with fail
    have h6 := (Blk.new w5 43 (Sup.v ⟨n1, n2, n3, n4, n5, n6, (n7 : Int) == 1, n8, n9, n10⟩).cells).drew
    have hbb := ((Below.refl w5.heap.size w5).alloc (Nat.le_refl _) (.cells (Sup.v ⟨n1, n2, n3, n4, n5, n6, (n7 : Int) == 1, n8, n9, n10⟩).cells 43)).drew
    refine (refSupEnc_any _ ⟨n1, n2, n3, n4, n5, n6, (n7 : Int) == 1, n8, n9, n10⟩ (by rw [← HS0.out]; exact hwf.out)).mono ?_
    rintro e7 w7 ⟨rfl, hb7⟩
    rw [← HS0.out]
    replace hR := (hR.below hbb hR.lt).below hb7 (Nat.lt_of_lt_of_le hR.lt hbb.size)
    have hbe7 := (hbe.trans (hbb.mono hbe.size)).trans (hb7.mono (Nat.le_trans hbe.size hbb.size))
    replace h6 := h6.below hb7 h6.lt
    clear hbb hb7 hbe hb0
    have HMM := HM.out
    unfold supRest at HMM
    unfold Sup.err
    have hqR := hR.cell
    have hfR := hR.frozen
    unfold Sup.v Sup.zero at hqR
    dsimp only [Value.cells] at hqR
    cases hmay : s.may
    · rw [hmay] at HMM
      have HMM1 := Lib.hid HMM
      clear hmay HM HMM
      go_wp2_with fail
      have hbl := below_set10 hbe7 (Nat.le_refl _) Sup.zero
      have hB := hR.set10 _ Sup.zero
      show bodyPost _ _ _ _ _ (set10 w7 w.heap.size Sup.zero)
      generalize set10 w7 w.heap.size Sup.zero = W at *
      rw [HMM1.out]
      exact bodyPost_ret (refSupRet Sup.zero 1 _ _ _ _ hB Try.results16) rfl ⟨rfl, hbl⟩
    · have hq6 := h6.cell
      unfold Sup.v at hq6
      dsimp only [Value.cells] at hq6
      rw [hmay] at HMM
      have HMM1 := Lib.hid HMM
      clear hmay HM HMM
      generalize s.str = S at *
      have hse := str_eq S b
      cases hd : decide (S = b)
      · rw [hd] at hse
        have hse' : (!S.toList == b.toList) = true := by rw [hse]; rfl
        have HMM2 := HMM1.out
        rw [hd] at HMM2
        have HMM3 := Lib.hid HMM2
        clear hse hd HMM2
        go_wp2_with fail
        have hbl := below_set10 hbe7 (Nat.le_refl _) Sup.zero
        have hB := hR.set10 _ Sup.zero
        show bodyPost _ _ _ _ _ (set10 w7 w.heap.size Sup.zero)
        generalize set10 w7 w.heap.size Sup.zero = W at *
        rw [HMM3.out]
        exact bodyPost_ret (refSupRet Sup.zero 1 _ _ _ _ hB Try.results16) rfl ⟨rfl, hbl⟩
      · rw [hd] at hse
        have hse' : (!S.toList == b.toList) = false := by rw [hse]; rfl
        have HMM2 := HMM1.out
        rw [hd] at HMM2
        have HMM3 := Lib.hid HMM2
        clear hse hd HMM2
        go_wp2_with fail
        have hbl := below_set10 hbe7 (Nat.le_refl _) ⟨n1, n2, n3, n4, n5, n6, (n7 : Int) == 1, n8, n9, n10⟩
        have hB := hR.set10 _ ⟨n1, n2, n3, n4, n5, n6, (n7 : Int) == 1, n8, n9, n10⟩
        show bodyPost _ _ _ _ _ (set10 w7 w.heap.size ⟨n1, n2, n3, n4, n5, n6, (n7 : Int) == 1, n8, n9, n10⟩)
        generalize set10 w7 w.heap.size ⟨n1, n2, n3, n4, n5, n6, (n7 : Int) == 1, n8, n9, n10⟩ = W at *
        rw [HMM3.out]
        exact bodyPost_ret (refSupRet s 0 _ _ _ _ (by rw [HS0.out]; exact hB) Try.results16) rfl ⟨rfl, hbl⟩
  · have HM1 := HR.out
    rw [if_neg hm] at HM1
    have hne : ((((supNs b).getD 0 0 : Nat) : Int) != 827610706) = true := by rw [bne_iff_ne]; omega
    have HM := Lib.hid HM1
    generalize (supNs b).getD 0 0 = m0 at *
    have hq := hR.cell
    have hf := hR.frozen
    unfold Sup.v Sup.zero at hq
    dsimp only [Value.cells] at hq
    clear hm HR HM1
    go_wp2_with fail
    have hbl := below_set10 hbe (Nat.le_refl _) Sup.zero
    have hB := hR.set10 _ Sup.zero
    show bodyPost _ _ _ _ _ (set10 w5 w.heap.size Sup.zero)
    generalize set10 w5 w.heap.size Sup.zero = W at *
    rw [HM.out]
    exact bodyPost_ret (refSupRet Sup.zero 81 _ _ _ _ hB Try.results16) rfl ⟨rfl, hbl⟩
theorem refSupDec_any (w : World) (b : ByteArray) :
    Calls Try.prog 16 #[.string b] w fun e w' => e = .returned (.tuple #[(supDec b).1.v, .int .i64 (supDec b).2]) ∧ Below w.heap.size w w' := by
  by_cases h : b.size = 64
  · cases ho : openB b.data.toList
    · have e : supDec b = (Sup.zero, 80) := by unfold supDec; rw [if_pos h, ho]; rfl
      rw [e]
      exact refSupDec_sum w b h ho
    · exact refSupDec_open w b h ho
  · have e : supDec b = (Sup.zero, 31) := by unfold supDec; rw [if_neg h]
    rw [e]
    exact refSupDec_short w b h
end Go.Proofs.Ytfoflbbeckepoaa
