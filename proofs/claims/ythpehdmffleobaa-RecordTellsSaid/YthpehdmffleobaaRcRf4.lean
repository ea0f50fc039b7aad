/- The document's Head of a record. -/
import Derived.Test.YthpehdmffleobaaRcRf3
namespace Go.Proofs.Ythpehdmffleobaa
open Go.RowKit Go.OpenShut

theorem hdRetR {W : World} {g : Nat} (seq row : Int) (v : Value) (S : Int) (E : Int) (fn : Func) (t0 t1 : Value) (rest : List Value) (h : Blk W g 41 #[.int .u64 seq, .int .i64 row, v]) (hr : fn.results = #[ResultVar.cell 2 41, ResultVar.tmp 3, ResultVar.tmp 4]) :
    (results fn (t0 :: t1 :: .pointer (some ⟨g, 0, none⟩) :: .int .u32 S :: .int .i64 E :: rest).toArray).run Try.prog W = .ok (.tuple #[.agg #[.int .u64 seq, .int .i64 row, v], .int .u32 S, .int .i64 E]) W := by
  have hq := h.cell
  simp [results, hr, go_sem, hq]
/-- what a call of the document's Head gives -/
def HdPostR (w : World) (E : Int) (r : Hd) (e : Ending) (w' : World) : Prop :=
  ∃ A c, e = .returned (.tuple #[recV (r.seq : Int) (r.row : Int) A r.ps.length c, .int .u32 (r.sum : Int), .int .i64 E]) ∧ OwnP 65 w' w.heap.size (.slice A (r.ps.length : Nat) c) r.ps ∧ Below w.heap.size w w'
theorem rHead_short (w : World) (b : ByteArray) (h : b.size ≠ 64) :
    Calls Try.prog 17 #[.string b] w (HdPostR w 31 ⟨0, 0, 0, []⟩) := by
  have hn : ((b.size : Int) != 64) = true := by rw [bne_iff_ne]; omega
  have hR := Blk.new w 41 #[.int .u64 0, .int .i64 0, .slice none 0 0]
  have hbe := (Below.refl w.heap.size w).alloc (Nat.le_refl _) (.cells #[.int .u64 0, .int .i64 0, .slice none 0 0] 41)
  go_enter Try.func17, Try.ntmps17
  go_wp2_with fail
  exact bodyPost_ret (hdRetR 0 0 _ 0 31 _ _ _ _ hR Try.results17) rfl ⟨none, 0, rfl, ⟨rfl, Or.inl ⟨rfl, rfl⟩⟩, hbe⟩
set_option maxHeartbeats 2000000 in
theorem rHead_sum (w : World) (b : ByteArray) (h : b.size = 64) (ho : openB b.data.toList = false) :
    Calls Try.prog 17 #[.string b] w (HdPostR w 80 ⟨0, 0, 0, []⟩) := by
  have hn : ((b.size : Int) != 64) = false := by rw [h]; rfl
  have HO := Lib.hid (fun w => refOpen_any w b (by rw [h]; unfold maxLen; omega))
  rw [ho] at HO
  clear h ho
  go_enter Try.func17, Try.ntmps17
  go_wp2_with fail
  refine (HO.out _).mono ?_
  rintro e w1 ⟨rfl, hb1⟩
  have hR := (Blk.new w 41 #[.int .u64 0, .int .i64 0, .slice none 0 0]).below hb1 (by simp)
  have hbe := ((Below.refl w.heap.size w).alloc (Nat.le_refl _) (.cells #[.int .u64 0, .int .i64 0, .slice none 0 0] 41)).trans (hb1.mono (by simp))
  have hq := hR.cell
  have hf := hR.frozen
  go_wp2_with fail
  exact bodyPost_ret (hdRetR 0 0 _ 0 80 _ _ _ _ (hR.set3 _ _ _) Try.results17) rfl ⟨none, 0, rfl, ⟨rfl, Or.inl ⟨rfl, rfl⟩⟩, below_set3 hbe (Nat.le_refl _) _ _ _⟩
theorem ext_4 (b : ByteArray) (h : b.size = 64) (ho : openB b.data.toList = true) : ((openS b).extract 0 4).data.toList = b.data.toList.take 4 := by
  rw [open_60 b h ho]
  simp only [ByteArray.data_extract, Array.toList_extract, List.extract_eq_take_drop, List.drop_zero, Nat.sub_zero, List.take_take]
  rfl
theorem magic_yes (b : ByteArray) (h : b.size = 64) (ho : openB b.data.toList = true) (hm : headM b = true) : (openS b).extract 0 4 = ⟨#[82, 86, 84, 74]⟩ := by
  apply ByteArray.ext
  apply Array.toList_inj.1
  rw [ext_4 b h ho]
  unfold headM at hm
  exact of_decide_eq_true hm
theorem magic_no (b : ByteArray) (h : b.size = 64) (ho : openB b.data.toList = true) (hm : headM b = false) : ((openS b).extract 0 4).data.toList ≠ [82, 86, 84, 74] := by
  rw [ext_4 b h ho]
  unfold headM at hm
  exact of_decide_eq_false hm
set_option maxHeartbeats 2000000 in
theorem rHead_magic (w : World) (b : ByteArray) (h : b.size = 64) (ho : openB b.data.toList = true) (hm : headM b = false) :
    Calls Try.prog 17 #[.string b] w (HdPostR w 81 ⟨0, 0, 0, []⟩) := by
  have HM := Lib.hid (magic_no b h ho hm)
  have hn : ((b.size : Int) != 64) = false := by rw [h]; rfl
  have HO := Lib.hid (fun w => refOpen_any w b (by rw [h]; unfold maxLen; omega))
  rw [ho] at HO
  have hts : (openS b).size = 60 := (open_60s b h ho).1
  have g4 : 4 ≤ (openS b).size := by omega
  have g5 : (4 : Int) ≤ ((openS b).size : Int) := by omega
  have hm1 : (((openS b).extract 0 4).toList == [82, 86, 84, 74]) = false := by
    rw [beq_eq_false_iff_ne, Lib.toList_data]
    exact HM.out
  have hm2 : (!((openS b).extract 0 4).toList == [82, 86, 84, 74]) = true := by rw [hm1]; rfl
  clear h ho hm hts HM
  generalize openS b = t at *
  go_enter Try.func17, Try.ntmps17
  go_wp2_with fail
  refine (HO.out _).mono ?_
  rintro e w1 ⟨rfl, hb1⟩
  have hR := (Blk.new w 41 #[.int .u64 0, .int .i64 0, .slice none 0 0]).below hb1 (by simp)
  have hbe := ((Below.refl w.heap.size w).alloc (Nat.le_refl _) (.cells #[.int .u64 0, .int .i64 0, .slice none 0 0] 41)).trans (hb1.mono (by simp))
  have hq := hR.cell
  have hf := hR.frozen
  go_wp2_with fail
  exact bodyPost_ret (hdRetR 0 0 _ 0 81 _ _ _ _ (hR.set3 _ _ _) Try.results17) rfl ⟨none, 0, rfl, ⟨rfl, Or.inl ⟨rfl, rfl⟩⟩, below_set3 hbe (Nat.le_refl _) _ _ _⟩
set_option maxRecDepth 8000 in
set_option maxHeartbeats 8000000 in
theorem rHead_open (w : World) (b : ByteArray) (h : b.size = 64) (ho : openB b.data.toList = true) (hm : headM b = true) :
    Calls Try.prog 17 #[.string b] w (HdPostR w (headE b) (headR b)) := by
  have HMG := Lib.hid (magic_yes b h ho hm)
  have hn : ((b.size : Int) != 64) = false := by rw [h]; rfl
  have HO := Lib.hid (fun w => refOpen_any w b (by rw [h]; unfold maxLen; omega))
  rw [ho] at HO
  obtain ⟨ht1, ht2, ht3, ht4⟩ := open_60s b h ho
  have HE : Hid (headE b = if headOK b then 0 else 1) := Lib.hid (by unfold headE; rw [if_pos h, ho, if_pos rfl, hm, if_pos rfl])
  have HBL : Hid (b.data.toList.length = 64) := Lib.hid (by simpa using h)
  obtain ⟨t, htt⟩ : ∃ t, openS b = t := ⟨_, rfl⟩
  have htx : ∀ j, ((b.data.toList.take 60).drop 19)[j]? = t.data.toList[19 + j]? := fun j => by
    rw [← htt, open_60 b h ho]
    simp only [ByteArray.data_extract, Array.toList_extract, List.extract_eq_take_drop, List.drop_zero, Nat.sub_zero]
    rw [List.getElem?_drop]
  rw [htt] at HO HMG ht1 ht2 ht3 ht4
  have HT1 := Lib.hid ht1
  have HT2 := Lib.hid ht2
  have HT3 := Lib.hid ht3
  have HTX := Lib.hid htx
  have g1 : ¬ t.size < 19 := by omega
  have g2 : 19 ≤ t.size := by omega
  have g3 : (19 : Int) ≤ (t.size : Int) := by omega
  have g4 : 4 ≤ t.size := by omega
  have g5 : (4 : Int) ≤ (t.size : Int) := by omega
  have hm1 : ((t.extract 0 4).toList == [82, 86, 84, 74]) = true := by
    rw [HMG.out, Lib.toList_data]; rfl
  have hm2 : (!(t.extract 0 4).toList == [82, 86, 84, 74]) = false := by rw [hm1]; rfl
  clear h ho ht1 ht2 ht3 ht4 htt hm htx
  go_enter Try.func17, Try.ntmps17
  go_wp2_with fail
  refine (HO.out _).mono ?_
  rintro e w1 ⟨rfl, hb1⟩
  have hR := (Blk.new w 41 #[.int .u64 0, .int .i64 0, .slice none 0 0]).below hb1 (by simp)
  have hbe := ((Below.refl w.heap.size w).alloc (Nat.le_refl _) (.cells #[.int .u64 0, .int .i64 0, .slice none 0 0] 41)).trans (hb1.mono (by simp))
  have hlt := hR.lt
  clear hb1
  go_wp2_with fail
  have hN := Blk.new w1 3 #[.int .i64 8, .int .i64 2, .int .i64 1, .int .i64 4]
  have hal := (Below.refl w1.heap.size w1).alloc (Nat.le_refl _) (.cells #[.int .i64 8, .int .i64 2, .int .i64 1, .int .i64 4] 3)
  replace hR := hR.below hal hlt
  replace hbe := hbe.trans (hal.mono hbe.size)
  have hi := IntsA.blk (k := .i64) (xs := [8, 2, 1, 4]) hN rfl hN.lt
  refine (refDecode_any _ _ _ _ _ [8, 2, 1, 4] hi).mono ?_
  rintro e5 w5 ⟨A, n, c, rfl, hi5, hb5⟩
  replace hR := hR.below hb5 hR.lt
  replace hbe := hbe.trans (hb5.mono hbe.size)
  clear hb5 hi hN hal hlt hm1 hm2 HMG
  rw [show decX [8, 2, 1, 4] (t.extract 4 19) = _ from (dec_ok ws4_ok (by rw [HT2.out]; rfl)).2, HT3.out] at hi5
  rw [show decE [8, 2, 1, 4] (t.extract 4 19) = 0 from (dec_ok ws4_ok (by rw [HT2.out]; rfl)).1]
  have hn4 : n = 4 := by rw [← hi5.1, List.length_map, headNs_len]
  subst hn4
  obtain ⟨L, off, rfl, hL, hcl⟩ := hi5.2 (by omega)
  have hcl' : ∀ j, j < 4 → w5.cell? ⟨L, off + j, none⟩ = some (.int .u64 (((headNs b).getD j 0 : Nat) : Int)) := fun j hj => by
    rw [hcl j hj]
    have : j < (headNs b).length := by rw [headNs_len]; exact hj
    simp [List.getD, this]
  have c0 : w5.cell? ⟨L, off, none⟩ = some (.int .u64 (((headNs b).getD 0 0 : Nat) : Int)) := hcl' 0 (by omega)
  have c1 := hcl' 1 (by omega)
  have c2 := hcl' 2 (by omega)
  have c3 := hcl' 3 (by omega)
  clear hi5 hcl hcl'
  have hLw : L ≠ w.heap.size := fun e => by
    have h1 := hR.cell (off + 1)
    rw [← e, c1] at h1
    cases off with
    | zero => cases h1
    | succ o => cases o with
      | zero => cases h1
      | succ o => cases h1
  have HR : Hid (headR b = if headE b = 0 then ⟨(headNs b).getD 0 0, (headNs b).getD 1 0, (headNs b).getD 3 0, headPs b⟩ else ⟨0, 0, 0, []⟩) := Lib.hid rfl
  have HPS : Hid (headPs b = (((b.data.toList.take 60).drop 19).take ((headNs b).getD 2 0)).map partB) := Lib.hid rfl
  have HOK : Hid (headOK b = (placedB (((headNs b).getD 1 0 : Nat) : Int) (headPs b) && decide (headB (((headNs b).getD 0 0 : Nat) : Int) (((headNs b).getD 1 0 : Nat) : Int) ((headNs b).getD 3 0) (headPs b) = b.data.toList))) := Lib.hid rfl
  have hb0 := headNs_0 b
  have hb1 := headNs_1 b
  have hb2 := headNs_2 b
  have hb3 := headNs_3 b
  generalize (headNs b).getD 0 0 = n0 at *
  generalize (headNs b).getD 1 0 = n1 at *
  generalize (headNs b).getD 2 0 = n2 at *
  generalize (headNs b).getD 3 0 = n3 at *
  clear HT2 HT3
  go_wp2_with fail
  refine wp_region_nf (fun x => x.cell? ⟨L, off, none⟩ = some (.int .u64 (n0 : Int)) ∧ x.cell? ⟨L, off + 1, none⟩ = some (.int .u64 (n1 : Int))) (fun _ => false) [(0, true), (1, true), (2, true), (3, true), (4, true), (5, true), (6, true), (7, true), (8, false), (9, false)] (by kernel_rfl) rfl (by kernel_rfl) (by kernel_rfl) (fun d _ _ _ _ h => by cases d <;> exact h) ?_
  have c0d : w5.drew.cell? ⟨L, off, none⟩ = some (.int .u64 (n0 : Int)) := c0
  have c1d : w5.drew.cell? ⟨L, off + 1, none⟩ = some (.int .u64 (n1 : Int)) := c1
  have c2d : w5.drew.cell? ⟨L, off + 2, none⟩ = some (.int .u64 (n2 : Int)) := c2
  have c3d : w5.drew.cell? ⟨L, off + 3, none⟩ = some (.int .u64 (n3 : Int)) := c3
  have hLd : L < w5.drew.heap.size := hL
  replace hR : Blk w5.drew w.heap.size 41 #[.int .u64 0, .int .i64 0, .slice none 0 0] := hR
  replace hbe := hbe.drew
  clear c0 c1 c2 c3 hL
  generalize w5.drew = V at *
  repeat (refine nf_pure rfl ⟨c0d, c1d⟩ (fun Y hY => by obtain ⟨e1, e2⟩ := hY; go_wp2; exact ⟨rfl, rfl, rfl⟩) rfl ?_ ?_; rfl)
  refine nf_imp rfl ?_
  go_wp2_with fail
  have hB := Blk.new V 41 #[.int .u64 0, .int .i64 0, .slice none 0 0]
  have hbV := (Below.refl V.heap.size V).alloc (Nat.le_refl _) (.cells #[.int .u64 0, .int .i64 0, .slice none 0 0] 41)
  have e0 := (hbV.cell (p := ⟨L, off, none⟩) hLd).trans c0d
  have e1 := (hbV.cell (p := ⟨L, off + 1, none⟩) hLd).trans c1d
  have e2 := (hbV.cell (p := ⟨L, off + 2, none⟩) hLd).trans c2d
  have e3 := (hbV.cell (p := ⟨L, off + 3, none⟩) hLd).trans c3d
  have hRl := hR.lt
  replace hR := hR.below hbV hRl
  replace hbe := hbe.trans (hbV.mono hbe.size)
  have hLn : L ≠ V.heap.size := by omega
  have hsz : V.heap.size < (V.alloc (.cells #[.int .u64 0, .int .i64 0, .slice none 0 0] 41)).heap.size := by simp
  clear c0d c1d c2d c3d hbV
  generalize V.alloc (.cells #[.int .u64 0, .int .i64 0, .slice none 0 0] 41) = V1 at *
  generalize V.heap.size = v1 at *
  refine ⟨fun _ => ⟨e0, e1⟩, ?_⟩
  refine nf_imp rfl ?_
  have hq := hB.cell
  have hf := hB.frozen
  go_wp2_with fail
  have hB2 := hB.set3 (.int .u64 (n0 : Int)) (.int .i64 (n1 : Int)) (.slice none 0 0)
  have hR2 : Blk (set3 V1 v1 (.int .u64 (n0 : Int)) (.int .i64 (n1 : Int)) (.slice none 0 0)) w.heap.size 41 #[.int .u64 0, .int .i64 0, .slice none 0 0] := ((hR.far (p := ⟨v1, 0, none⟩) (by dsimp only; omega) _).far (p := ⟨v1, 1, none⟩) (by dsimp only; omega) _).far (p := ⟨v1, 2, none⟩) (by dsimp only; omega) _
  have hbe2 := below_set3 hbe (Nat.le_of_lt hRl) (.int .u64 (n0 : Int)) (.int .i64 (n1 : Int)) (.slice none 0 0)
  replace e0 := (cell_set3 (g := v1) (x := .int .u64 (n0 : Int)) (y := .int .i64 (n1 : Int)) (z := .slice none 0 0) (p := ⟨L, off, none⟩) hLn).trans e0
  replace e1 := (cell_set3 (g := v1) (x := .int .u64 (n0 : Int)) (y := .int .i64 (n1 : Int)) (z := .slice none 0 0) (p := ⟨L, off + 1, none⟩) hLn).trans e1
  replace e2 := (cell_set3 (g := v1) (x := .int .u64 (n0 : Int)) (y := .int .i64 (n1 : Int)) (z := .slice none 0 0) (p := ⟨L, off + 2, none⟩) hLn).trans e2
  replace e3 := (cell_set3 (g := v1) (x := .int .u64 (n0 : Int)) (y := .int .i64 (n1 : Int)) (z := .slice none 0 0) (p := ⟨L, off + 3, none⟩) hLn).trans e3
  have hsz2 : v1 < (set3 V1 v1 (.int .u64 (n0 : Int)) (.int .i64 (n1 : Int)) (.slice none 0 0)).heap.size := by simpa [set3] using hsz
  have hLz : L < (set3 V1 v1 (.int .u64 (n0 : Int)) (.int .i64 (n1 : Int)) (.slice none 0 0)).heap.size := by omega
  clear hB hR hbe hq hf hsz
  unfold set3 at *
  generalize ((V1.setCell ⟨v1, 0, none⟩ (.int .u64 (n0 : Int))).setCell ⟨v1, 1, none⟩ (.int .i64 (n1 : Int))).setCell ⟨v1, 2, none⟩ (.slice none 0 0) = V2 at *
  refine ⟨fun _ => ⟨e0, e1⟩, ?_⟩
  refine nf_nil ?_
  by_cases h40 : n2 > 40
  · have HZ : Hid (headE b = 1) := Lib.hid (by
      rw [HE.out, HOK.out]
      have : placedB (n1 : Int) (headPs b) = false := by
        rw [Bool.eq_false_iff]
        intro e
        have h3 := (placed_row e).2.2.2.1
        rw [HPS.out, List.length_map, List.length_take, List.length_drop, List.length_take, HBL.out] at h3
        omega
      rw [this]; rfl)
    have HRR : Hid (headR b = ⟨0, 0, 0, []⟩) := Lib.hid (by rw [HR.out, HZ.out]; rfl)
    have hi : (n2 : Int) > 40 := by omega
    have hq := hR2.cell
    have hf := hR2.frozen
    go_wp2_with fail
    rw [HZ.out, HRR.out]
    exact bodyPost_ret (hdRetR 0 0 _ 0 1 _ _ _ _ (hR2.set3 _ _ _) Try.results17) rfl ⟨none, 0, rfl, ⟨rfl, Or.inl ⟨rfl, rfl⟩⟩, below_set3 hbe2 (Nat.le_refl _) _ _ _⟩
  · have hi : ¬ (n2 : Int) > 40 := by omega
    have hX41 : ((b.data.toList.take 60).drop 19).length = 41 := by rw [List.length_drop, List.length_take, HBL.out]; rfl
    generalize (b.data.toList.take 60).drop 19 = X at *
    have HXL := Lib.hid hX41
    clear hX41
    have hv := OwnP.none_ (e := 65) V2 V2.heap.size
    go_wp2_with fail
    go_loopw [10] (fun i wr => ∃ (k : Nat) (v : Value), k ≤ n2 ∧ i = .int .i64 k ∧ Blk wr w.heap.size 41 #[.int .u64 0, .int .i64 0, .slice none 0 0] ∧ Blk wr v1 41 #[.int .u64 n0, .int .i64 n1, v] ∧ OwnP 65 wr V2.heap.size v ((X.take k).map partB) ∧ V2.heap.size ≤ wr.heap.size ∧ wr.cell? ⟨L, off + 2, none⟩ = some (.int .u64 (n2 : Int)) ∧ wr.cell? ⟨L, off + 3, none⟩ = some (.int .u64 (n3 : Int)) ∧ Below w.heap.size w wr) (fun i _ => n2 - (intOf i).toNat)
    case atStart => exact ⟨0, .slice none 0 0, by omega, rfl, hR2, hB2, hv, Nat.le_refl _, e2, e3, hbe2⟩
    case round =>
      obtain ⟨k, v, hk, rfl, hR3, hB3, hw, hws, d2, d3, hbr⟩ := hrel
      clear hR2 hB2 hv hbe2 e0 e1 e2 e3
      by_cases hlt : k < n2
      · have hki : (k : Int) < (n2 : Int) := by omega
        have hk41 : 19 + k < t.size := by rw [HT1.out]; omega
        have hki2 : 19 + (k : Int) < (t.size : Int) := by omega
        have hxk : X[k]? = some t[19 + k] := by
          rw [HTX.out k]
          have hl : 19 + k < t.data.toList.length := by simpa using hk41
          rw [List.getElem?_eq_getElem hl]
          rfl
        obtain ⟨c1, hc1⟩ : ∃ c, t[19 + k] = c := ⟨_, rfl⟩
        rw [hc1] at hxk
        have HKL := Lib.hid (show ((X.take k).map partB).length = k by rw [List.length_map, List.length_take, HXL.out]; omega)
        have HKS := Lib.hid (show (X.take (k + 1)).map partB = (X.take k).map partB ++ [partB c1] by
          rw [List.take_add_one, hxk]
          simp)
        clear hxk
        have HLK := Lib.hid (show ((X.take (k + 1)).map partB).length = k + 1 by rw [HKS.out, List.length_append, HKL.out]; rfl)
        obtain ⟨A', c', rfl, hc', hcm'⟩ := hw.shape
        rw [HKL.out] at hc' hw hB3
        have q2 := hB3.cell 2
        have HPB : Hid (partB c1 = ⟨((c1.toNat / 4 : Nat) : Int), ((c1.toNat % 4 : Nat) : Int), ⟨#[]⟩⟩) := Lib.hid rfl
        rw [HPB.out] at HKS
        clear HPB
        have hcl : c1.toNat < 256 := c1.toNat_lt
        obtain ⟨c2, hc2⟩ : ∃ c2, c1.toNat = c2 := ⟨_, rfl⟩
        rw [hc2] at HKS hcl
        obtain ⟨d, hd⟩ : ∃ d : Nat, c2 / 4 = d := ⟨_, rfl⟩
        obtain ⟨md, hmd⟩ : ∃ md : Nat, c2 % 4 = md := ⟨_, rfl⟩
        have hd1 : (c2 : Int) / 4 = (d : Int) := by omega
        have hm1 : (c2 : Int) % 4 = (md : Int) := by omega
        rw [hd, hmd] at HKS
        clear hd hmd
        have hPL := PartsA.lit (w0 := wr) (g := wr.heap.size) (t := 65) (p := ⟨(d : Int), (md : Int), ⟨#[]⟩⟩) rfl
        dsimp only at hPL
        have HB5 := Lib.hid (fun (W Y : World) (hg : W.grownBy Y (Value.slice A' k c').ownBlock) (hW : Blk W v1 41 #[.int .u64 n0, .int .i64 n1, .slice A' k c']) => (show Blk Y v1 41 #[.int .u64 n0, .int .i64 n1, .slice A' k c'] from (hg.block _ hW.lt (fun e => by
          have := (hw.lt v1 e.symm).1
          omega)).trans hW))
        go_wp2_with (at_builtin; refine wp_appP 39 65 Try.underlying39 info_part12 rfl (.tmp 62) (.tmp 68) rfl V2.heap.size _ _ (hw.alloc _) rfl _ 1 1 _ rfl hPL (fun h => by cases h) ?c1 ?c2 ?_; (case c1 => rw [HKL.out]; omega); (case c2 => simp; omega); intro v5 w5' hv5 hg5 hb5 ha5; rw [← HKS.out] at hv5; obtain ⟨A5, c5, rfl, hc5, hcm5⟩ := hv5.shape; rw [HLK.out] at hv5 hc5 ⊢; have hB5 := HB5.out _ _ hg5 (hB3.alloc _); have q5 := hB5.cell; have f5 := hB5.frozen)
        have hbl5 := ((Below.refl V2.heap.size wr).alloc hws (.cells #[.int .i64 (d : Int), .int .i64 (md : Int), .string ⟨#[]⟩] 65)).trans hb5
        have hR6 := (hR3.below hbl5 (by omega)).far (p := ⟨v1, 2, none⟩) (by dsimp only; omega) (.slice A5 (k + 1 : Nat) c5)
        have hB6 := hB5.set_ 2 (.slice A5 (k + 1 : Nat) c5)
        have hv6 := hv5.far (p := ⟨v1, 2, none⟩) (fun e => by have := (hv5.lt _ e.symm).1; dsimp only at this; omega) (.slice A5 (k + 1 : Nat) c5)
        have hbe6 := (hbr.trans (hbl5.mono (by omega))).setCell (p := ⟨v1, 2, none⟩) (by dsimp only; omega) (.slice A5 (k + 1 : Nat) c5)
        have d26 := (World.cell?_setCell_other w5' ⟨v1, 2, none⟩ ⟨L, off + 2, none⟩ (.slice A5 (k + 1 : Nat) c5) (fun e => hLn (congrArg Addr.block e).symm)).trans ((hbl5.cell (p := ⟨L, off + 2, none⟩) (by dsimp only; omega)).trans d2)
        have d36 := (World.cell?_setCell_other w5' ⟨v1, 2, none⟩ ⟨L, off + 3, none⟩ (.slice A5 (k + 1 : Nat) c5) (fun e => hLn (congrArg Addr.block e).symm)).trans ((hbl5.cell (p := ⟨L, off + 3, none⟩) (by dsimp only; omega)).trans d3)
        have hws6 : V2.heap.size ≤ (w5'.setCell ⟨v1, 2, none⟩ (.slice A5 (k + 1 : Nat) c5)).heap.size := by
          have := hbl5.size
          simp
          omega
        clear hm1 hd1
        go_roundw
        case rel => exact ⟨k + 1, .slice A5 (k + 1 : Nat) c5, by omega, by go_num, hR6, hB6, hv6, hws6, d26, d36, hbe6⟩
        case measure => simp [intOf]; go_num
      · obtain rfl : k = n2 := by omega
        rw [← HPS.out] at hw
        obtain ⟨A', c', rfl, hc', hcm'⟩ := hw.shape
        have HPL := Lib.hid (show (headPs b).length = k by rw [HPS.out, List.length_map, List.length_take, HXL.out]; omega)
        rw [HPL.out] at hw hc' hB3
        have hp : PartsA wr wr.heap.size A' k (headPs b) := hw.parts
        have HPC := Lib.hid (fun V (h : PartsA V V.heap.size A' k (headPs b)) => refPlaces_any V n0 n1 A' k c' (headPs b) h (by unfold maxLen; omega))
        have HHC := Lib.hid (fun V (h : PartsA V V.heap.size A' k (headPs b)) hp => refHd_any V n0 n1 A' k c' (headPs b) n3 h hp (by omega) (by omega))
        unfold recV at HPC HHC
        have x3 : wr.drew.cell? ⟨L, off + 3, none⟩ = some (.int .u64 (n3 : Int)) := d3
        have hLr : L < wr.drew.heap.size := Nat.lt_of_lt_of_le hLz hws
        have hB4 : Blk wr.drew v1 41 #[.int .u64 n0, .int .i64 n1, .slice A' k c'] := hB3
        have hR4 : Blk wr.drew w.heap.size 41 #[.int .u64 0, .int .i64 0, .slice none 0 0] := hR3
        have hp4 : PartsA wr.drew wr.drew.heap.size A' k (headPs b) := hp
        have hw4 := (hw.drew).base (show w.heap.size ≤ V2.heap.size by omega)
        have hbe4 := hbr.drew
        have HNB : w.heap.size < V2.heap.size := by omega
        have HOB := Lib.hid (fun (e : some w.heap.size = (Value.slice A' (k : Nat) c').ownBlock) => show False by
          have := (hw.lt _ e.symm).1
          omega)
        go_wp2_with fail
        refine wp_region_nf (fun Y => Below wr.drew.heap.size wr.drew Y) (fun _ => false) [(0, true), (1, false), (2, true), (3, true), (4, true), (5, true), (6, true), (7, true), (8, true), (10, true), (9, false), (11, true), (12, true)] (by kernel_rfl) rfl (by kernel_rfl) (by kernel_rfl) (fun d _ _ _ _ h => by cases d <;> exact h) ?_
        clear hw hp hR3 hB3 d2 d3 hbr hws
        generalize wr.drew = V at *
        have hbd := Below.refl V.heap.size V
        have HCL := Lib.hid (fun (Y : World) (hY : Below V.heap.size V Y) => And.intro (hB4.below hY hB4.lt).cell ((hY.cell (p := ⟨L, off + 3, none⟩) hLr).trans x3))
        refine nf_pure rfl hbd (fun Y hY => by obtain ⟨g1, g2⟩ := HCL.out Y hY; clear hY; go_wp2; exact ⟨rfl, rfl, rfl⟩) rfl ?_ ?_; rfl
        refine nf_imp rfl ?_
        go_wp2_with fail
        refine (HPC.out _ hp4).mono ?_
        rintro e W1 ⟨rfl, hb2⟩
        replace hbd := hbd.trans (hb2.mono hbd.size)
        clear hb2
        by_cases hpl : placedB (n1 : Int) (headPs b) = true
        · have HZC := Lib.hid (fun V h => HHC.out V h hpl)
          have hEq : headE b = 0 ∨ headE b = 1 := by rw [HE.out]; split <;> simp
          rw [hpl]
          go_wp2_with fail
          refine ⟨fun _ => hbd, ?_⟩
          repeat (refine nf_pure rfl hbd (fun Y hY => by obtain ⟨g1, g2⟩ := HCL.out Y hY; clear hY; go_wp2; exact ⟨rfl, rfl, rfl⟩) rfl ?_ ?_; rfl)
          refine nf_imp rfl ?_
          go_wp2_with fail
          refine (HZC.out _ ((hp4.below hbd).mono hbd.size)).mono ?_
          rintro e W2 ⟨rfl, hb2⟩
          replace hbd := hbd.trans (hb2.mono hbd.size)
          clear hb2
          have hR5 := hR4.below hbd hR4.lt
          have hB5 := hB4.below hbd hB4.lt
          have hw5 := hw4.below hbd
          have hbe5 := hbe4.trans (hbd.mono hbe4.size)
          have x5 := (hbd.cell (p := ⟨L, off + 3, none⟩) hLr).trans x3
          have hL5 := Nat.lt_of_lt_of_le hLr hbd.size
          by_cases heq : headB (n0 : Int) (n1 : Int) n3 (headPs b) = b.data.toList
          · have HZ : Hid (headE b = 0) := Lib.hid (by rw [HE.out, HOK.out, hpl, heq]; simp)
            have HRR : Hid (headR b = ⟨n0, n1, n3, headPs b⟩) := Lib.hid (by rw [HR.out, if_pos HZ.out])
            have hbb : (⟨(headB (n0 : Int) (n1 : Int) n3 (headPs b)).toArray⟩ : ByteArray) = b := by rw [heq]
            rw [hbb]
            clear heq hbb
            go_wp2_with fail
            refine ⟨fun _ => hbd, ?_⟩
            repeat (refine nf_pure rfl hbd (fun Y hY => by clear hY; go_wp2; exact ⟨rfl, rfl, rfl⟩) rfl ?_ ?_; rfl)
            refine nf_nil ?_
            have hR6 : Blk W2.drew w.heap.size 41 #[.int .u64 0, .int .i64 0, .slice none 0 0] := hR5
            have hB6 : Blk W2.drew v1 41 #[.int .u64 n0, .int .i64 n1, .slice A' k c'] := hB5
            have hw6 := hw5.drew
            have hbe6 := hbe5.drew
            have x6 : W2.drew.cell? ⟨L, off + 3, none⟩ = some (.int .u64 (n3 : Int)) := x5
            clear HCL hR5 hB5 hw5 hbe5 x5 hbd hR4 hB4 hw4 hbe4 x3 hp4 HPC HHC HZC
            go_wp2_with fail
            refine wp_region_nf (fun Y => Y.cell? ⟨v1, 0, none⟩ = some (.int .u64 (n0 : Int)) ∧ Y.cell? ⟨v1, 1, none⟩ = some (.int .i64 (n1 : Int)) ∧ Y.cell? ⟨v1, 2, none⟩ = some (.slice A' k c') ∧ Y.cell? ⟨L, off + 3, none⟩ = some (.int .u64 (n3 : Int))) (fun _ => false) [(0, true), (1, true), (2, true), (3, true), (4, true), (5, false), (6, true), (7, true)] (by kernel_rfl) rfl (by kernel_rfl) (by kernel_rfl) (fun d _ _ _ _ h => by cases d <;> exact h) ?_
            generalize W2.drew = V3 at *
            have hS := And.intro (hB6.cell 0) (And.intro (hB6.cell 1) (And.intro (hB6.cell 2) x6))
            repeat (refine nf_pure rfl hS (fun Y hY => by obtain ⟨g1, g2, g3, g4⟩ := hY; go_wp2; exact ⟨rfl, rfl, rfl⟩) rfl ?_ ?_; rfl)
            refine nf_imp rfl ?_
            have hqr := hR6.cell
            have hfr := hR6.frozen
            go_wp2_with fail
            have hS2 := And.intro ((cell_set3 (g := w.heap.size) (x := .int .u64 (n0 : Int)) (y := .int .i64 (n1 : Int)) (z := .slice A' k c') (p := ⟨v1, 0, none⟩) (by dsimp only; omega)).trans hS.1) (And.intro ((cell_set3 (g := w.heap.size) (x := .int .u64 (n0 : Int)) (y := .int .i64 (n1 : Int)) (z := .slice A' k c') (p := ⟨v1, 1, none⟩) (by dsimp only; omega)).trans hS.2.1) (And.intro ((cell_set3 (g := w.heap.size) (x := .int .u64 (n0 : Int)) (y := .int .i64 (n1 : Int)) (z := .slice A' k c') (p := ⟨v1, 2, none⟩) (by dsimp only; omega)).trans hS.2.2.1) ((cell_set3 (g := w.heap.size) (x := .int .u64 (n0 : Int)) (y := .int .i64 (n1 : Int)) (z := .slice A' k c') (p := ⟨L, off + 3, none⟩) hLw).trans hS.2.2.2)))
            refine ⟨fun _ => hS2, ?_⟩
            repeat (refine nf_pure rfl hS2 (fun Y hY => by clear hY; go_wp2; exact ⟨rfl, rfl, rfl⟩) rfl ?_ ?_; rfl)
            refine nf_nil ?_
            clear hS hS2
            go_wp2_with fail
            refine bodyPost_ret (hdRetR _ _ _ _ 0 _ _ _ _ (hR6.set3 _ _ _) Try.results17) rfl ⟨A', c', ?_, ?_, below_set3 hbe6 (Nat.le_refl _) _ _ _⟩
            · rw [HZ.out, HRR.out]; dsimp only; rw [HPL.out]; rfl
            · rw [HRR.out]; dsimp only; rw [HPL.out]
              exact ((hw6.far (fun e => HOB.out e) _).far (fun e => HOB.out e) _).far (fun e => HOB.out e) _
          · have HZ : Hid (headE b = 1) := Lib.hid (by rw [HE.out, HOK.out, hpl, decide_eq_false heq]; rfl)
            have HRR : Hid (headR b = ⟨0, 0, 0, []⟩) := Lib.hid (by rw [HR.out, HZ.out]; rfl)
            have hbb : ((⟨(headB (n0 : Int) (n1 : Int) n3 (headPs b)).toArray⟩ : ByteArray).toList == b.toList) = false := by
              rw [beq_eq_false_iff_ne, Lib.toList_data, Lib.toList_data]
              simpa using heq
            clear heq
            generalize (⟨(headB (n0 : Int) (n1 : Int) n3 (headPs b)).toArray⟩ : ByteArray) = H at *
            go_wp2_with fail
            refine ⟨fun _ => hbd, ?_⟩
            repeat (refine nf_pure rfl hbd (fun Y hY => by clear hY; go_wp2; exact ⟨rfl, rfl, rfl⟩) rfl ?_ ?_; rfl)
            refine nf_nil ?_
            have hq := hR5.cell
            have hf := hR5.frozen
            go_wp2_with fail
            rw [HZ.out, HRR.out]
            exact bodyPost_ret (hdRetR 0 0 _ 0 1 _ _ _ _ (hR5.set3 _ _ _) Try.results17) rfl ⟨none, 0, rfl, ⟨rfl, Or.inl ⟨rfl, rfl⟩⟩, below_set3 hbe5 (Nat.le_refl _) _ _ _⟩
        · rw [Bool.not_eq_true] at hpl
          have HZ : Hid (headE b = 1) := Lib.hid (by rw [HE.out, HOK.out, hpl]; rfl)
          have HRR : Hid (headR b = ⟨0, 0, 0, []⟩) := Lib.hid (by rw [HR.out, HZ.out]; rfl)
          rw [hpl]
          have hR5 := hR4.below hbd hR4.lt
          have hbe5 := hbe4.trans (hbd.mono hbe4.size)
          go_wp2_with fail
          refine ⟨fun _ => hbd, ?_⟩
          repeat (refine nf_pure rfl hbd (fun Y hY => by obtain ⟨g1, g2⟩ := HCL.out Y hY; clear hY; go_wp2; exact ⟨rfl, rfl, rfl⟩) rfl ?_ ?_; rfl)
          refine nf_imp rfl ?_
          go_wp2_with fail
          refine ⟨fun _ => hbd, ?_⟩
          repeat (refine nf_pure rfl hbd (fun Y hY => by obtain ⟨g1, g2⟩ := HCL.out Y hY; clear hY; go_wp2; exact ⟨rfl, rfl, rfl⟩) rfl ?_ ?_; rfl)
          refine nf_nil ?_
          have hq := hR5.cell
          have hf := hR5.frozen
          go_wp2_with fail
          rw [HZ.out, HRR.out]
          exact bodyPost_ret (hdRetR 0 0 _ 0 1 _ _ _ _ (hR5.set3 _ _ _) Try.results17) rfl ⟨none, 0, rfl, ⟨rfl, Or.inl ⟨rfl, rfl⟩⟩, below_set3 hbe5 (Nat.le_refl _) _ _ _⟩
theorem rHead_any (w : World) (b : ByteArray) :
    Calls Try.prog 17 #[.string b] w (HdPostR w (headE b) (headR b)) := by
  have hr : headE b ≠ 0 → headR b = ⟨0, 0, 0, []⟩ := fun h => by unfold headR; rw [if_neg h]
  by_cases h : b.size = 64
  · by_cases ho : openB b.data.toList = true
    · by_cases hm : headM b = true
      · exact rHead_open w b h ho hm
      · rw [Bool.not_eq_true] at hm
        have he : headE b = 81 := by unfold headE; rw [if_pos h, ho, if_pos rfl, hm]; rfl
        rw [hr (by rw [he]; decide), he]
        exact rHead_magic w b h ho hm
    · rw [Bool.not_eq_true] at ho
      have he : headE b = 80 := by unfold headE; rw [if_pos h, ho]; rfl
      rw [hr (by rw [he]; decide), he]
      exact rHead_sum w b h ho
  · have he : headE b = 31 := by unfold headE; rw [if_neg h]
    rw [hr (by rw [he]; decide), he]
    exact rHead_short w b h
end Go.Proofs.Ythpehdmffleobaa
