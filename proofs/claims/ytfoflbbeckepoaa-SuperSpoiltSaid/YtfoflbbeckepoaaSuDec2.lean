/- super.Decode: the walk, of what is sealed. -/
import Derived.Test.YtfoflbbeckepoaaSuDec1
namespace Go.Proofs.Ytfoflbbeckepoaa
open Go.RowKit Go.OpenShut

theorem open_sector (b : ByteArray) (h : b.size = 64) (ho : openB b.data.toList = true) : (openS b).size = 60 ∧ ((openS b).extract 0 31).size = 31 ∧ decL ws11 ((openS b).extract 0 31).data.toList = supNs b := by
  have e : openS b = b.extract 0 60 := by unfold openS; rw [ho, h]; rfl
  rw [e]
  refine ⟨by simp; omega, by simp; omega, ?_⟩
  unfold supNs
  have q : ((b.extract 0 60).extract 0 31).data.toList = b.data.toList.take 31 := by
    simp only [ByteArray.data_extract, Array.toList_extract, List.extract_eq_take_drop, List.drop_zero, Nat.sub_zero, List.take_take]
    rfl
  rw [q]

/-- a superblock stored, cell by cell -/
def set10 (w : World) (g : Nat) (s : Sup) : World :=
  (((((((((w.setCell ⟨g, 0, none⟩ (.int .u64 s.u)).setCell ⟨g, 1, none⟩ (.int .u64 s.e)).setCell ⟨g, 2, none⟩ (.int .i64 s.r)).setCell ⟨g, 3, none⟩ (.int .i64 s.c)).setCell ⟨g, 4, none⟩ (.int .i64 s.k)).setCell ⟨g, 5, none⟩ (.int .i64 s.n)).setCell ⟨g, 6, none⟩ (.bool s.cl)).setCell ⟨g, 7, none⟩ (.int .i64 s.b)).setCell ⟨g, 8, none⟩ (.int .i64 s.nw)).setCell ⟨g, 9, none⟩ (.int .i64 s.gr)
theorem set10_cells (s0 s : Sup) : (((((((((s0.v.cells.setIfInBounds 0 (.int .u64 s.u)).setIfInBounds 1 (.int .u64 s.e)).setIfInBounds 2 (.int .i64 s.r)).setIfInBounds 3 (.int .i64 s.c)).setIfInBounds 4 (.int .i64 s.k)).setIfInBounds 5 (.int .i64 s.n)).setIfInBounds 6 (.bool s.cl)).setIfInBounds 7 (.int .i64 s.b)).setIfInBounds 8 (.int .i64 s.nw)).setIfInBounds 9 (.int .i64 s.gr) = s.v.cells := by
  simp [Sup.v, Value.cells]
theorem Blk.set10 {w : World} {g : Nat} {t : TypeId} (s0 s : Sup) (h : Blk w g t s0.v.cells) : Blk (set10 w g s) g t s.v.cells := by
  have h1 := (((((((((h.set_ 0 (.int .u64 s.u)).set_ 1 (.int .u64 s.e)).set_ 2 (.int .i64 s.r)).set_ 3 (.int .i64 s.c)).set_ 4 (.int .i64 s.k)).set_ 5 (.int .i64 s.n)).set_ 6 (.bool s.cl)).set_ 7 (.int .i64 s.b)).set_ 8 (.int .i64 s.nw)).set_ 9 (.int .i64 s.gr)
  rw [set10_cells] at h1
  exact h1
theorem below_set10 {B : Nat} {w w' : World} {g : Nat} (h : Below B w w') (hg : B ≤ g) (s : Sup) : Below B w (set10 w' g s) := by
  unfold set10
  iterate 10 refine Below.setCell ?_ (by exact hg) _
  exact h
theorem supRet {W : World} {g : Nat} (s : Sup) (E : Int) (fn : Func) (t0 t1 : Value) (rest : List Value) (h : Blk W g 26 s.v.cells) (hr : fn.results = #[ResultVar.cell 2 26, ResultVar.tmp 3]) :
    (results fn (t0 :: t1 :: .pointer (some ⟨g, 0, none⟩) :: .int .i64 E :: rest).toArray).run Try.prog W = .ok (.tuple #[s.v, .int .i64 E]) W := by
  have hq := h.cell
  obtain ⟨u, e, r, c, k, n, cl, b, nw, gr⟩ := s
  unfold Sup.v at *
  dsimp only [Value.cells] at hq
  simp [results, hr, go_sem, hq]
theorem cell_alloc {w : World} {b off : Nat} {v : Value} (o : Obj) (hb : b < w.heap.size) (h : w.cell? ⟨b, off, none⟩ = some v) : (w.alloc o).cell? ⟨b, off, none⟩ = some v :=
  (((Below.refl w.heap.size w).alloc (Nat.le_refl _) o).cell (p := ⟨b, off, none⟩) hb).trans h
theorem dec_world (w5 : World) (ns : List Nat) (n1 n2 : Nat) (h1 : ns.getD 1 0 = n1) (h2 : ns.getD 2 0 = n2) :
    ∃ W, ((((w5.alloc (.cells #[.int .u64 n1, .int .u64 n2, .int .i64 0, .int .i64 0, .int .i64 0, .int .i64 0, .bool false, .int .i64 0, .int .i64 0, .int .i64 0] 26)).alloc (.cells #[.int .i64 0] 3)).alloc (.cells (partCells w5.heap.size (.pointer (some ⟨w5.heap.size + 1, 0, none⟩))) 53)).drew).drew = W ∧
      Blk W w5.heap.size 26 (boxC ns 0) ∧ Blk W (w5.heap.size + 1) 3 (clC ns 0) ∧ Blk W (w5.heap.size + 1 + 1) 53 (partCells w5.heap.size (.pointer (some ⟨w5.heap.size + 1, 0, none⟩))) ∧ Below w5.heap.size w5 W := by
  subst h1 h2
  refine ⟨_, rfl, ?_, ?_, ?_, ?_⟩
  · exact ((((Blk.new w5 26 (boxC ns 0)).alloc _).alloc _).drew).drew
  · have h := (((Blk.new (w5.alloc (.cells (boxC ns 0) 26)) 3 (clC ns 0)).alloc (.cells (partCells w5.heap.size (.pointer (some ⟨w5.heap.size + 1, 0, none⟩))) 53)).drew).drew
    rw [show (w5.alloc (.cells (boxC ns 0) 26)).heap.size = w5.heap.size + 1 by simp] at h
    exact h
  · have h := ((Blk.new ((w5.alloc (.cells (boxC ns 0) 26)).alloc (.cells (clC ns 0) 3)) 53 (partCells w5.heap.size (.pointer (some ⟨w5.heap.size + 1, 0, none⟩)))).drew).drew
    rw [show ((w5.alloc (.cells (boxC ns 0) 26)).alloc (.cells (clC ns 0) 3)).heap.size = w5.heap.size + 1 + 1 by simp] at h
    exact h
  · exact (((((Below.refl _ _).alloc (Nat.le_refl _) _).alloc (by simp) _).alloc (by simp; omega) _).drew).drew
theorem str_eq (S b : ByteArray) : (S.toList == b.toList) = decide (S = b) := by
  rw [Bool.eq_iff_iff]
  simp only [beq_iff_eq, decide_eq_true_eq]
  constructor
  · intro h
    rw [Lib.toList_data, Lib.toList_data] at h
    exact ByteArray.ext (Array.toList_inj.1 h)
  · rintro rfl
    rfl
set_option maxHeartbeats 4000000 in
theorem supDec_open (w : World) (b : ByteArray) (h : b.size = 64) (ho : openB b.data.toList = true) :
    Calls Try.prog 14 #[.string b] w fun e w' => e = .returned (.tuple #[(supDec b).1.v, .int .i64 (supDec b).2]) ∧ Below w.heap.size w w' := by
  have hn : ((b.size : Int) != 64) = false := by rw [h]; rfl
  have HO := Lib.hid (fun w => open_any w b (by rw [h]; unfold maxLen; omega))
  rw [ho] at HO
  obtain ⟨ht1, ht2, ht3⟩ := open_sector b h ho
  have HR : Hid (supDec b = if (supNs b).getD 0 0 = 827610706 then supRest b (Sup.of (supNs b)) else (Sup.zero, 81)) := Lib.hid (by unfold supDec; rw [if_pos h, ho, if_pos rfl])
  obtain ⟨t, htt⟩ : ∃ t, openS b = t := ⟨_, rfl⟩
  rw [htt] at HO ht1 ht2 ht3
  have ht1' : ¬ t.size < 31 := by omega
  have ht1'' : 31 ≤ t.size := by omega
  have ht1''' : (31 : Int) ≤ (t.size : Int) := by omega
  have HT1 := Lib.hid ht1
  have HT2 := Lib.hid ht2
  have HT3 := Lib.hid ht3
  have H31 := Lib.hid (show sizeN ws11 = 31 ∧ sizeE ws11 = 0 by constructor <;> decide)
  clear h ho ht1 ht2 ht3 htt
  go_enter Try.func14, Try.ntmps14
  go_wp2_with fail
  refine (HO.out _).mono ?_
  rintro e w1 ⟨rfl, hb1⟩
  have hR := (Blk.new w 26 Sup.zero.v.cells).below hb1 (by simp)
  have hbe := ((Below.refl w.heap.size w).alloc (Nat.le_refl _) _).trans (hb1.mono (by simp))
  have hlt := hR.lt
  clear hb1
  go_wp2_with fail
  refine (widths_any _).mono ?_
  rintro e3 w3 ⟨v3, rfl, hv3, hb3⟩
  replace hR := hR.below hb3 hlt
  replace hbe := hbe.trans (hb3.mono hbe.size)
  obtain ⟨A3, c3, rfl⟩ := hv3.shape
  have hi3 := hv3.ints
  clear hv3 hb3
  go_wp2_with fail
  refine (size_any _ _ _ _ _ ws11 hi3 (by simp)).mono ?_
  rintro e4 w4 ⟨rfl, rfl⟩
  rw [H31.out.1, H31.out.2]
  go_wp2_with fail
  refine (decode_any _ _ _ _ _ ws11 hi3 (by simp)).mono ?_
  rintro e5 w5 ⟨A, n, c, rfl, hi, hb5⟩
  replace hR := hR.below hb5 hR.lt
  replace hbe := hbe.trans (hb5.mono hbe.size)
  clear hb5 hi3
  rw [(dec_ok ws11_ok (by rw [HT2.out]; rfl)).1, (dec_ok ws11_ok (by rw [HT2.out]; rfl)).2, HT3.out] at *
  have hn11 : n = 11 := by rw [← hi.1, List.length_map, supNs_len]
  subst hn11
  obtain ⟨L, off, rfl, hL, hcl⟩ := hi.2 (by omega)
  have hcl' : ∀ j, j < 11 → w5.cell? ⟨L, off + j, none⟩ = some (.int .u64 (((supNs b).getD j 0 : Nat) : Int)) := fun j hj => by
    rw [hcl j hj]
    have : j < (supNs b).length := by rw [supNs_len]; exact hj
    simp [List.getD, this]
  have c0 : w5.cell? ⟨L, off, none⟩ = some (.int .u64 (((supNs b).getD 0 0 : Nat) : Int)) := hcl' 0 (by omega)
  have HC := Lib.hid hcl'
  clear hi hcl hcl'
  by_cases hm : (supNs b).getD 0 0 = 827610706
  · have HM1 := HR.out
    rw [if_pos hm] at HM1
    have HM := Lib.hid HM1
    clear HM1
    have hne : ((((supNs b).getD 0 0 : Nat) : Int) != 827610706) = false := by rw [hm]; rfl
    have hwf := Lib.hid (of_wf b)
    have hns := Lib.hid (supNs_s b)
    have e1 := HC.out 1 (by omega)
    have e2 := HC.out 2 (by omega)
    clear hm
    generalize (supNs b).getD 0 0 = m0 at *
    generalize supNs b = ns at *
    obtain ⟨n1, hn1⟩ : ∃ n1, ns.getD 1 0 = n1 := ⟨_, rfl⟩
    obtain ⟨n2, hn2⟩ : ∃ n2, ns.getD 2 0 = n2 := ⟨_, rfl⟩
    rw [hn1] at e1
    rw [hn2] at e2
    have HN1 := Lib.hid hn1
    have HN2 := Lib.hid hn2
    clear HR hn hn1 hn2
    go_wp2_with fail
    clear hne c0
    refine wp_region_nf (fun x => x.cell? ⟨L, off + 1, none⟩ = some (.int .u64 (n1 : Int)) ∧ x.cell? ⟨L, off + 2, none⟩ = some (.int .u64 (n2 : Int)) ∧ L < x.heap.size) (fun _ => false) [(0, true), (1, true), (2, true), (3, true), (4, true), (5, true), (6, true), (7, false), (8, false)] (by kernel_rfl) rfl (by kernel_rfl) (by kernel_rfl) (fun d _ _ _ _ h => by cases d <;> exact h) ?_
    repeat (refine nf_pure rfl ⟨e1, e2, hL⟩ (fun w1 hS => by obtain ⟨e1, e2, hL⟩ := hS; go_wp2; exact ⟨rfl, rfl, rfl⟩) rfl ?_ ?_; rfl)
    refine nf_imp rfl ?_
    go_wp2_with fail
    refine ⟨fun _ => ⟨cell_alloc _ hL e1, cell_alloc _ hL e2, by simp; omega⟩, ?_⟩
    refine nf_imp rfl ?_
    go_wp2_with fail
    refine ⟨fun _ => ⟨cell_alloc _ hL e1, cell_alloc _ hL e2, by simp; omega⟩, ?_⟩
    refine nf_nil ?_
    go_wp2_with fail
    refine (parts_any _ _ _).mono ?_
    rintro e6 w6 ⟨rfl, rfl⟩
    go_wp2_with fail
    obtain ⟨W, hW, hS, hC, hP, hbW⟩ := dec_world w5 ns n1 n2 HN1.out HN2.out
    rw [hW]
    clear hW e1 e2
    go_loopw [63] (fun i wr => ∃ j : Nat, j ≤ 8 ∧ i = .int .i64 j ∧ Blk wr w5.heap.size 26 (boxC ns j) ∧ Blk wr (w5.heap.size + 1) 3 (clC ns j) ∧ Blk wr (w5.heap.size + 1 + 1) 53 (partCells w5.heap.size (.pointer (some ⟨w5.heap.size + 1, 0, none⟩))) ∧ Below w5.heap.size w5 wr) (fun i _ => 8 - (intOf i).toNat)
    case atStart => exact ⟨0, by omega, rfl, hS, hC, hP, hbW⟩
    case round =>
      obtain ⟨j, hj, rfl, hs, hc, hp, hb⟩ := hrel
      clear hS hC hP hbW W
      by_cases hlt8 : j < 8
      · obtain ⟨hc1, hc2⟩ := part_cells hp j hlt8
        obtain ⟨q, o, hq1, _⟩ := put_part j hlt8 hs hc (by omega)
        rw [hq1] at hc1
        have hcL := (hb.cell (p := ⟨L, off + (j + 3), none⟩) hL).trans (HC.out (j + 3) (by omega))
        have hbd := hns.out j hlt8
        obtain ⟨y, hy⟩ : ∃ y, pW.getD j 0 = y := ⟨_, rfl⟩
        obtain ⟨z, hz⟩ : ∃ z, ns.getD (j + 3) 0 = z := ⟨_, rfl⟩
        rw [hy] at hc2
        rw [hz] at hcL hbd
        have hpl := hp.lt
        have hLr : L < wr.heap.size := Nat.lt_of_lt_of_le hL hb.size
        have HZ := Lib.hid hz
        have HQ := Lib.hid hq1
        clear hy hz hq1
        go_wp2_with fail
        obtain ⟨q', o', hq', ⟨v, hv⟩, hfr, hqb, hS', hC'⟩ := put_part (w := (wr.alloc (.cells #[.pointer (some ⟨q, o, none⟩), .int .i64 y] 53)).drew) j hlt8 ((hs.alloc _).drew) ((hc.alloc _).drew) (by omega)
        rw [HQ.out] at hq'
        cases hq'
        have hp' := ((hp.alloc (.cells #[.pointer (some ⟨q, o, none⟩), .int .i64 y] 53)).drew).far (p := ⟨q, o, none⟩) (by rcases hqb with e | e <;> (rw [e]; simp <;> omega)) (newV ns j)
        have hb' : Below w5.heap.size w5 ((wr.alloc (.cells #[.pointer (some ⟨q, o, none⟩), .int .i64 y] 53)).drew.setCell ⟨q, o, none⟩ (newV ns j)) := ((hb.alloc hb.size _).drew).setCell (by rcases hqb with e | e <;> (rw [e]; simp)) _
        have hnv : newV ns j = .int .i64 (z : Int) := by unfold newV; rw [HZ.out]
        rw [hnv] at hS' hC' hp' hb'
        have hqL : ({ block := q, off := o } : Addr) ≠ ⟨L, off + (j + 3), none⟩ := fun e => by cases e; rcases hqb with e | e <;> omega
        have hqr : ({ block := q, off := o } : Addr) ≠ ⟨wr.heap.size, 0, none⟩ := fun e => by cases e; rcases hqb with e | e <;> omega
        have hcp := (Blk.new wr 53 #[.pointer (some ⟨q, o, none⟩), .int .i64 y]).cell 0
        have hcL' := cell_alloc (.cells #[.pointer (some ⟨q, o, none⟩), .int .i64 y] 53) hLr hcL
        clear hs hc hp hb hc1 hc2 hcL hnv
        have HS' := Lib.hid hS'
        have HC' := Lib.hid hC'
        have HP' := Lib.hid hp'
        have HB' := Lib.hid hb'
        clear hS' hC' hp' hb'
        generalize wr.alloc (.cells #[.pointer (some ⟨q, o, none⟩), .int .i64 y] 53) = Wn at *
        refine wp_region_nf (fun x => x.cell? ⟨wr.heap.size, 0, none⟩ = some (.pointer (some ⟨q, o, none⟩)) ∧ x.cell? ⟨L, off + (j + 3), none⟩ = some (.int .u64 (z : Int))) (fun _ => false) ((List.range 9).map (fun i => (i, true)) ++ [(9, false)]) (by kernel_rfl) rfl (by kernel_rfl) (by kernel_rfl) (fun d _ _ _ _ h => by cases d <;> exact h) ?_
        repeat (refine nf_pure rfl ⟨hcp, hcL'⟩ (fun w1 hS => by obtain ⟨e1, e2⟩ := hS; go_wp2; exact ⟨rfl, rfl, rfl⟩) rfl ?_ ?_; rfl)
        refine nf_imp rfl ?_
        go_wp2_with fail
        refine ⟨fun _ => ⟨(World.cell?_setCell_other _ _ _ _ hqr).trans hcp, (World.cell?_setCell_other _ _ _ _ hqL).trans hcL'⟩, ?_⟩
        refine nf_nil ?_
        go_wp2_with fail
        go_roundw
        case rel => exact ⟨j + 1, by omega, by go_num, HS'.out, HC'.out, HP'.out, HB'.out⟩
        case measure => simp [intOf]; omega
      · obtain rfl : j = 8 := by omega
        have h6 := hs.set_ 6 (.bool (((ns.getD 7 0 : Nat) : Int) == 1))
        rw [show (boxC ns 8).setIfInBounds 6 (.bool (((ns.getD 7 0 : Nat) : Int) == 1)) = (Sup.of ns).v.cells by simp [boxC, dv, Sup.of, Sup.v, Value.cells]] at h6
        have hcc : wr.cell? ⟨w5.heap.size + 1, 0, none⟩ = some (.int .i64 (((ns.getD 7 0 : Nat) : Int))) := by rw [hc.cell]; rfl
        have hsf := hs.frozen 6
        have hbb := hb.setCell (p := ⟨w5.heap.size, 6, none⟩) (Nat.le_refl _) (.bool (((ns.getD 7 0 : Nat) : Int) == 1))
        obtain ⟨s, hs0⟩ : ∃ s, Sup.of ns = s := ⟨_, rfl⟩
        have HS0 : Hid (s = ⟨ns.getD 1 0, ns.getD 2 0, ns.getD 3 0, ns.getD 4 0, ns.getD 5 0, ns.getD 6 0, ((ns.getD 7 0 : Nat) : Int) == 1, ns.getD 8 0, ns.getD 9 0, ns.getD 10 0⟩) := Lib.hid hs0.symm
        have hq : ∀ i, wr.cell? ⟨w5.heap.size, i, none⟩ = #[Value.int .u64 (ns.getD 1 0 : Nat), .int .u64 (ns.getD 2 0 : Nat), .int .i64 (ns.getD 3 0 : Nat), .int .i64 (ns.getD 4 0 : Nat), .int .i64 (ns.getD 5 0 : Nat), .int .i64 (ns.getD 6 0 : Nat), .bool false, .int .i64 (ns.getD 8 0 : Nat), .int .i64 (ns.getD 9 0 : Nat), .int .i64 (ns.getD 10 0 : Nat)][i]? := hs.cell
        rw [hs0] at h6 HM hwf
        clear hs0 HN1 HN2 hns HC
        generalize ns.getD 1 0 = n1 at *
        generalize ns.getD 2 0 = n2 at *
        generalize ns.getD 3 0 = n3 at *
        generalize ns.getD 4 0 = n4 at *
        generalize ns.getD 5 0 = n5 at *
        generalize ns.getD 6 0 = n6 at *
        generalize ns.getD 7 0 = n7 at *
        generalize ns.getD 8 0 = n8 at *
        generalize ns.getD 9 0 = n9 at *
        generalize ns.getD 10 0 = n10 at *
        clear hp hs hc hb
        go_wp2_with fail
        refine (supEnc_any _ ⟨n1, n2, n3, n4, n5, n6, (n7 : Int) == 1, n8, n9, n10⟩ (by rw [← HS0.out]; exact hwf.out)).mono ?_
        rintro e7 w7 ⟨rfl, hb7⟩
        rw [← HS0.out]
        have hz5 := hR.lt
        replace hR := (hR.below hbb hz5).below hb7 (Nat.lt_of_lt_of_le hz5 hbb.size)
        have hbe7 := (hbe.trans (hbb.mono hbe.size)).trans (hb7.mono (Nat.le_trans hbe.size hbb.size))
        rw [HS0.out] at h6
        replace h6 := h6.below hb7 h6.lt
        clear hbb hb7 hbe hcc hsf hq
        have HMM := HM.out
        unfold supRest at HMM
        unfold Sup.err
        have hqR := hR.cell
        have hfR := hR.frozen
        unfold Sup.v Sup.zero at hqR
        dsimp only [Value.cells] at hqR
        cases hmay : s.may
        · rw [hmay] at HMM
          have HMM := Lib.hid HMM
          clear hmay HM
          go_wp2_with fail
          have hbl := below_set10 hbe7 (Nat.le_refl _) Sup.zero
          have hB := hR.set10 _ Sup.zero
          show bodyPost _ _ _ _ _ (set10 w7 w.heap.size Sup.zero)
          generalize set10 w7 w.heap.size Sup.zero = W at *
          rw [HMM.out]
          exact bodyPost_ret (supRet Sup.zero 1 _ _ _ _ hB Try.results14) rfl ⟨rfl, hbl⟩
        · have hq6 := h6.cell
          unfold Sup.v at hq6
          dsimp only [Value.cells] at hq6
          rw [hmay] at HMM
          have HMM := Lib.hid HMM
          clear hmay HM
          generalize s.str = S at *
          have hse := str_eq S b
          cases hd : decide (S = b)
          · rw [hd] at hse
            have hse' : (!S.toList == b.toList) = true := by rw [hse]; rfl
            have HMM1 := HMM.out
            rw [hd] at HMM1
            have HMM2 := Lib.hid HMM1
            clear hse hd HMM1
            go_wp2_with fail
            have hbl := below_set10 hbe7 (Nat.le_refl _) Sup.zero
            have hB := hR.set10 _ Sup.zero
            show bodyPost _ _ _ _ _ (set10 w7 w.heap.size Sup.zero)
            generalize set10 w7 w.heap.size Sup.zero = W at *
            rw [HMM2.out]
            exact bodyPost_ret (supRet Sup.zero 1 _ _ _ _ hB Try.results14) rfl ⟨rfl, hbl⟩
          · rw [hd] at hse
            have hse' : (!S.toList == b.toList) = false := by rw [hse]; rfl
            have HMM1 := HMM.out
            rw [hd] at HMM1
            have HMM2 := Lib.hid HMM1
            clear hse hd HMM1
            go_wp2_with fail
            have hbl := below_set10 hbe7 (Nat.le_refl _) ⟨n1, n2, n3, n4, n5, n6, (n7 : Int) == 1, n8, n9, n10⟩
            have hB := hR.set10 _ ⟨n1, n2, n3, n4, n5, n6, (n7 : Int) == 1, n8, n9, n10⟩
            show bodyPost _ _ _ _ _ (set10 w7 w.heap.size ⟨n1, n2, n3, n4, n5, n6, (n7 : Int) == 1, n8, n9, n10⟩)
            generalize set10 w7 w.heap.size ⟨n1, n2, n3, n4, n5, n6, (n7 : Int) == 1, n8, n9, n10⟩ = W at *
            rw [HMM2.out]
            exact bodyPost_ret (supRet s 0 _ _ _ _ (by rw [HS0.out]; exact hB) Try.results14) rfl ⟨rfl, hbl⟩
  · have HM := HR.out
    rw [if_neg hm] at HM
    have hne : ((((supNs b).getD 0 0 : Nat) : Int) != 827610706) = true := by rw [bne_iff_ne]; omega
    have HM := Lib.hid HM
    generalize (supNs b).getD 0 0 = m0 at *
    have hq := hR.cell
    have hf := hR.frozen
    unfold Sup.v Sup.zero at hq
    dsimp only [Value.cells] at hq
    clear hm HR
    go_wp2_with fail
    have hbl := below_set10 hbe (Nat.le_refl _) Sup.zero
    have hB := hR.set10 _ Sup.zero
    show bodyPost _ _ _ _ _ (set10 w5 w.heap.size Sup.zero)
    generalize set10 w5 w.heap.size Sup.zero = W at *
    rw [HM.out]
    exact bodyPost_ret (supRet Sup.zero 81 _ _ _ _ hB Try.results14) rfl ⟨rfl, hbl⟩
theorem supDec_any (w : World) (b : ByteArray) :
    Calls Try.prog 14 #[.string b] w fun e w' => e = .returned (.tuple #[(supDec b).1.v, .int .i64 (supDec b).2]) ∧ Below w.heap.size w w' := by
  by_cases h : b.size = 64
  · cases ho : openB b.data.toList
    · have e : supDec b = (Sup.zero, 80) := by unfold supDec; rw [if_pos h, ho]; rfl
      rw [e]
      exact supDec_sum w b h ho
    · exact supDec_open w b h ho
  · have e : supDec b = (Sup.zero, 31) := by unfold supDec; rw [if_neg h]
    rw [e]
    exact supDec_short w b h
end Go.Proofs.Ytfoflbbeckepoaa
