/- The document's places and May. -/
import Derived.Test.YthpehdmffleobaaRcSame
import Derived.Test.YthpehdmffleobaaRcPlaced
namespace Go.Proofs.Ythpehdmffleobaa
open Go.RowKit Go.OpenShut

theorem mem_seenL (ps : List Prt) (k : Nat) (hk : k ≤ ps.length) (q : Int × Int) : q ∈ seenL ps k ↔ ∃ j, j < k ∧ ((ps.getD j prt0).col, (ps.getD j prt0).off) = q := by
  induction k with
  | zero =>
    have e : seenL ps 0 = [] := rfl
    rw [e]
    constructor
    · intro h; cases h
    · rintro ⟨j, hj, _⟩; omega
  | succ k ih =>
    rw [seenL_succ ps k (by omega), List.mem_cons, ih (by omega)]
    constructor
    · rintro (h | ⟨j, hj, h⟩)
      · exact ⟨k, by omega, h.symm⟩
      · exact ⟨j, by omega, h⟩
    · rintro ⟨j, hj, h⟩
      by_cases e : j = k
      · subst e; exact Or.inl h.symm
      · exact Or.inr ⟨j, by omega, h⟩
set_option maxRecDepth 8000 in
set_option maxHeartbeats 4000000 in
theorem refPlaces_any (w : World) (seq row : Int) (A : Option Addr) (n c : Nat) (ps : List Prt) (h : PartsA w w.heap.size A n ps) (hn : n ≤ maxLen) :
    Calls Try.prog 36 #[recV seq row A n c] w fun e w' => e = .returned (.bool (placedB row ps)) ∧ Below w.heap.size w w' := by
  unfold recV
  have HL := Lib.hid h.1
  have hb0 := (Below.refl w.heap.size w).alloc (Nat.le_refl _) (.cells #[.int .u64 seq, .int .i64 row, .slice A n c] 41)
  have hbad : (row < 0 ∨ (¬ row < 0 ∧ row ≥ 256) ∨ (¬ row < 0 ∧ ¬ row ≥ 256 ∧ (n : Int) < 1) ∨ (¬ row < 0 ∧ ¬ row ≥ 256 ∧ ¬ (n : Int) < 1 ∧ (n : Int) > 40)) ∨ (0 ≤ row ∧ row < 256 ∧ 1 ≤ n ∧ n ≤ 40) := by omega
  rcases hbad with hbad | ⟨r1, r2, r3, r4⟩
  · have e : placedB row ps = false := by
      unfold placedB
      rw [Bool.eq_false_iff]
      intro e
      simp only [Bool.and_eq_true, decide_eq_true_eq, HL.out] at e
      omega
    rw [e]
    clear e
    rcases hbad with h1 | ⟨h0, h1⟩ | ⟨h00, h0, h1⟩ | ⟨h000, h00, h0, h1⟩
    all_goals
      go_enter Try.func36, Try.ntmps36
      go_wp2_with fail
      go_ret
      exact ⟨rfl, hb0⟩
  · have e : placedB row ps = placedF [] ps := by
      unfold placedB
      rw [HL.out, decide_eq_true r1, decide_eq_true r2, decide_eq_true r3, decide_eq_true r4]
      rfl
    rw [e]
    clear e
    have h1 : ¬ row < 0 := by omega
    have h2 : ¬ row ≥ 256 := by omega
    have h5 : ¬ (n : Int) > 40 := by omega
    have h6 : ¬ (n : Int) < 1 := by omega
    go_enter Try.func36, Try.ntmps36
    go_wp2_with fail
    have hB := Blk.new w 41 #[.int .u64 seq, .int .i64 row, .slice A n c]
    generalize w.alloc (.cells #[.int .u64 seq, .int .i64 row, .slice A n c] 41) = w1 at *
    go_loopw [3] (fun i wr => ∃ k : Nat, k ≤ n ∧ i = .int .i64 k ∧ placedF [] ps = placedF (seenL ps k) (ps.drop k) ∧ Blk wr w.heap.size 41 #[.int .u64 seq, .int .i64 row, .slice A n c] ∧ Below w.heap.size w wr) (fun i _ => n - (intOf i).toNat)
    case atStart => exact ⟨0, by omega, rfl, rfl, hB, hb0⟩
    case round =>
      obtain ⟨k, hk, rfl, hpl, hBr, hbr⟩ := hrel
      clear hB hb0
      have hq := hBr.cell 2
      by_cases hlt : k < n
      · obtain ⟨b, o, rfl, hb, hc⟩ := h.2 (by omega)
        obtain ⟨c0, c1, c2⟩ := (hc k hlt).below hbr hb
        have HSN := Lib.hid (seenL_succ ps k (by rw [HL.out]; exact hlt))
        have HMS := Lib.hid (fun q => mem_seenL ps k (by rw [HL.out]; exact hk) q)
        rw [drop_getP ps k (by rw [HL.out]; exact hlt)] at hpl
        generalize ps.getD k prt0 = p at *
        obtain ⟨pc, po, pd⟩ := p
        dsimp only at c0 c1 c2 HSN
        rw [placedF] at hpl
        dsimp only [placeOk] at hpl
        have HF : Hid (((¬ (0 ≤ pc ∧ pc < 10 ∧ 0 ≤ po ∧ po < 4)) ∨ (pc, po) ∈ seenL ps k) → placedF [] ps = false) := Lib.hid (fun h0 => by
          rw [hpl]
          rcases h0 with h0 | h0
          · have : (decide (0 ≤ pc) && decide (pc < 10) && decide (0 ≤ po) && decide (po < 4)) = false := by
              rw [Bool.eq_false_iff]
              intro e
              simp only [Bool.and_eq_true, decide_eq_true_eq] at e
              exact h0 ⟨e.1.1.1, e.1.1.2, e.1.2, e.2⟩
            rw [this]; rfl
          · rw [decide_eq_true h0]; simp)
        have HG : Hid (0 ≤ pc ∧ pc < 10 ∧ 0 ≤ po ∧ po < 4 → (pc, po) ∉ seenL ps k → placedF [] ps = placedF (seenL ps (k + 1)) (ps.drop (k + 1))) := Lib.hid (fun h0 h9 => by
          rw [hpl, decide_eq_true h0.1, decide_eq_true h0.2.1, decide_eq_true h0.2.2.1, decide_eq_true h0.2.2.2, decide_eq_false h9, HSN.out]; rfl)
        clear hpl
        have hbb := hbr.alloc hbr.size (.cells #[.int .i64 pc, .int .i64 po, .string pd] 65)
        by_cases g1 : pc < 0
        · go_wp2_with fail
          go_ret
          exact ⟨by rw [HF.out (Or.inl (by omega))]; rfl, hbb⟩
        · by_cases g2 : pc ≥ 10
          · go_wp2_with fail
            go_ret
            exact ⟨by rw [HF.out (Or.inl (by omega))]; rfl, hbb⟩
          · by_cases g3 : po < 0
            · go_wp2_with fail
              go_ret
              exact ⟨by rw [HF.out (Or.inl (by omega))]; rfl, hbb⟩
            · by_cases g4 : po ≥ 4
              · go_wp2_with fail
                go_ret
                exact ⟨by rw [HF.out (Or.inl (by omega))]; rfl, hbb⟩
              · have HP := Lib.hid (And.intro (show 0 ≤ pc by omega) (And.intro (show pc < 10 by omega) (And.intro (show 0 ≤ po by omega) (show po < 4 by omega))))
                have hX := Blk.new wr 65 #[.int .i64 pc, .int .i64 po, .string pd]
                have hBa := hBr.alloc (.cells #[.int .i64 pc, .int .i64 po, .string pd] 65)
                have hxs : w.heap.size < wr.heap.size := hBr.lt
                go_wp2_with fail
                generalize wr.alloc (.cells #[.int .i64 pc, .int .i64 po, .string pd] 65) = W0 at *
                generalize wr.heap.size = x at *
                clear c0 c1 c2 hbr hBr
                go_loopw [5] (fun i wq => ∃ q : Nat, q ≤ k ∧ i = .int .i64 q ∧ (∀ j, j < q → ((ps.getD j prt0).col, (ps.getD j prt0).off) ≠ (pc, po)) ∧ Blk wq w.heap.size 41 #[.int .u64 seq, .int .i64 row, .slice (some ⟨b, o, none⟩) n c] ∧ Blk wq x 65 #[.int .i64 pc, .int .i64 po, .string pd] ∧ Below w.heap.size w wq) (fun i _ => k - (intOf i).toNat)
                case atStart => exact ⟨0, by omega, rfl, fun j hj => by omega, hBa, hX, hbb⟩
                case round =>
                  obtain ⟨q, hq', rfl, hall, hB2, hX2, hb2⟩ := hrel
                  clear hBa hX hbb hq
                  have HA := Lib.hid hall
                  clear hall
                  by_cases hqk : q < k
                  · have hqn : q < n := by omega
                    obtain ⟨d0, d1, d2⟩ := (hc q hqn).below hb2 hb
                    have HAN := Lib.hid (fun (h0 : ((ps.getD q prt0).col, (ps.getD q prt0).off) ≠ (pc, po)) j (hj : j < q + 1) => show ((ps.getD j prt0).col, (ps.getD j prt0).off) ≠ (pc, po) by
                      by_cases e : j = q
                      · rw [e]; exact h0
                      · exact HA.out j (by omega))
                    have HIN := Lib.hid (fun (h0 : ((ps.getD q prt0).col, (ps.getD q prt0).off) = (pc, po)) => (HMS.out (pc, po)).2 ⟨q, hqk, h0⟩)
                    generalize ps.getD q prt0 = y at *
                    obtain ⟨yc, yo, yd⟩ := y
                    dsimp only at d0 d1 d2 HAN HIN
                    have x1 : wr.drew.cell? ⟨b, o + q * 3, none⟩ = some (.int .i64 yc) := d0
                    have x2 : wr.drew.cell? ⟨b, o + q * 3 + 1, none⟩ = some (.int .i64 yo) := d1
                    have x3 : wr.drew.cell? ⟨w.heap.size, 2, none⟩ = some (.slice (some ⟨b, o, none⟩) n c) := hB2.cell 2
                    have x4 : wr.drew.cell? ⟨x, 0, none⟩ = some (.int .i64 pc) := hX2.cell 0
                    have x5 : wr.drew.cell? ⟨x, 1, none⟩ = some (.int .i64 po) := hX2.cell 1
                    have hS := And.intro x1 (And.intro x2 (And.intro x3 (And.intro x4 x5)))
                    have hki : (q : Int) < (k : Int) := by omega
                    clear x1 x2 x3 x4 x5 d0 d1 d2
                    by_cases e1 : yc = pc
                    · by_cases e2 : yo = po
                      · subst e1 e2
                        have b1 : (yc == yc) = true := by simp
                        have b2 : (yo == yo) = true := by simp
                        have HZ := Lib.hid (HF.out (Or.inr (HIN.out rfl)))
                        go_wp2_with fail
                        refine wp_region_nf (fun Y => Y.cell? ⟨b, o + q * 3, none⟩ = some (.int .i64 yc) ∧ Y.cell? ⟨b, o + q * 3 + 1, none⟩ = some (.int .i64 yo) ∧ Y.cell? ⟨w.heap.size, 2, none⟩ = some (.slice (some ⟨b, o, none⟩) n c) ∧ Y.cell? ⟨x, 0, none⟩ = some (.int .i64 yc) ∧ Y.cell? ⟨x, 1, none⟩ = some (.int .i64 yo)) (fun _ => false) [(0, true), (1, true), (2, true), (3, true), (4, true), (5, true), (6, true), (7, true), (8, true), (9, true), (10, true), (11, true), (12, true), (13, true), (14, true), (15, true), (16, true), (17, true), (18, true), (19, true)] (by kernel_rfl) rfl (by kernel_rfl) (by kernel_rfl) (fun d _ _ _ _ h => by cases d <;> exact h) ?_
                        have hbd := hb2.drew
                        generalize wr.drew = V at *
                        repeat (refine nf_pure rfl hS (fun Y hY => by obtain ⟨y1, y2, y3, y4, y5⟩ := hY; go_wp2; exact ⟨rfl, rfl, rfl⟩) rfl ?_ ?_; rfl)
                        refine nf_nil ?_
                        go_wp2_with fail
                        go_ret
                        exact ⟨by rw [HZ.out]; rfl, hbd⟩
                      · have b1 : (yc == pc) = true := by rw [e1]; simp
                        have b2 : (yo == po) = false := by rw [beq_eq_false_iff_ne]; exact e2
                        have HNX := Lib.hid (HAN.out (fun e => e2 (by injection e)))
                        go_wp2_with fail
                        refine wp_region_nf (fun Y => Y.cell? ⟨b, o + q * 3, none⟩ = some (.int .i64 yc) ∧ Y.cell? ⟨b, o + q * 3 + 1, none⟩ = some (.int .i64 yo) ∧ Y.cell? ⟨w.heap.size, 2, none⟩ = some (.slice (some ⟨b, o, none⟩) n c) ∧ Y.cell? ⟨x, 0, none⟩ = some (.int .i64 pc) ∧ Y.cell? ⟨x, 1, none⟩ = some (.int .i64 po)) (fun _ => false) [(0, true), (1, true), (2, true), (3, true), (4, true), (5, true), (6, true), (7, true), (8, true), (9, true), (10, true), (11, true), (12, true), (13, true), (14, true), (15, true), (16, true), (17, true), (18, true), (19, true)] (by kernel_rfl) rfl (by kernel_rfl) (by kernel_rfl) (fun d _ _ _ _ h => by cases d <;> exact h) ?_
                        have hbd := hb2.drew
                        have hB3 : Blk wr.drew w.heap.size 41 _ := hB2
                        have hX3 : Blk wr.drew x 65 _ := hX2
                        generalize wr.drew = V at *
                        repeat (refine nf_pure rfl hS (fun Y hY => by obtain ⟨y1, y2, y3, y4, y5⟩ := hY; go_wp2; exact ⟨rfl, rfl, rfl⟩) rfl ?_ ?_; rfl)
                        refine nf_nil ?_
                        go_wp2_with fail
                        go_roundw
                        case rel => exact ⟨q + 1, by omega, by go_num, HNX.out, hB3, hX3, hbd⟩
                        case measure => simp [intOf]; omega
                    · have b1 : (yc == pc) = false := by rw [beq_eq_false_iff_ne]; exact e1
                      have HNX := Lib.hid (HAN.out (fun e => e1 (by injection e)))
                      go_wp2_with fail
                      refine wp_region_nf (fun Y => Y.cell? ⟨b, o + q * 3, none⟩ = some (.int .i64 yc) ∧ Y.cell? ⟨b, o + q * 3 + 1, none⟩ = some (.int .i64 yo) ∧ Y.cell? ⟨w.heap.size, 2, none⟩ = some (.slice (some ⟨b, o, none⟩) n c) ∧ Y.cell? ⟨x, 0, none⟩ = some (.int .i64 pc) ∧ Y.cell? ⟨x, 1, none⟩ = some (.int .i64 po)) (fun _ => false) [(0, true), (1, true), (2, true), (3, true), (4, true), (5, true), (6, true), (7, true), (8, true), (9, true), (10, true), (11, true), (12, true), (13, true), (14, true), (15, true), (16, true), (17, true), (18, true), (19, true)] (by kernel_rfl) rfl (by kernel_rfl) (by kernel_rfl) (fun d _ _ _ _ h => by cases d <;> exact h) ?_
                      have hbd := hb2.drew
                      have hB3 : Blk wr.drew w.heap.size 41 _ := hB2
                      have hX3 : Blk wr.drew x 65 _ := hX2
                      generalize wr.drew = V at *
                      repeat (refine nf_pure rfl hS (fun Y hY => by obtain ⟨y1, y2, y3, y4, y5⟩ := hY; go_wp2; exact ⟨rfl, rfl, rfl⟩) rfl ?_ ?_; rfl)
                      refine nf_nil ?_
                      go_wp2_with fail
                      go_roundw
                      case rel => exact ⟨q + 1, by omega, by go_num, HNX.out, hB3, hX3, hbd⟩
                      case measure => simp [intOf]; omega
                  · obtain rfl : q = k := by omega
                    have hnot : (pc, po) ∉ seenL ps q := fun hin => by
                      obtain ⟨j, hj, e⟩ := (HMS.out (pc, po)).1 hin
                      exact HA.out j hj e
                    have HZ := Lib.hid (HG.out HP.out hnot)
                    clear hnot
                    go_wp2_with fail
                    go_roundw
                    case rel => exact ⟨q + 1, by omega, by go_num, HZ.out, hB2, hb2⟩
                    case measure => simp [intOf]; omega
      · obtain rfl : k = n := by omega
        have e : placedF [] ps = true := by rw [hpl, List.drop_of_length_le (by rw [HL.out]; exact Nat.le_refl _)]; rfl
        have HE := Lib.hid e
        clear e hpl
        go_wp2_with fail
        go_ret
        exact ⟨by rw [HE.out]; rfl, hbr⟩
set_option maxHeartbeats 1000000 in
theorem refMay_any (w : World) (seq row : Int) (A : Option Addr) (n c : Nat) (ps : List Prt) (h : PartsA w w.heap.size A n ps) (hn : n ≤ maxLen) :
    Calls Try.prog 22 #[recV seq row A n c] w fun e w' => e = .returned (.bool (mayB row ps)) ∧ Below w.heap.size w w' := by
  have HP := Lib.hid (fun V (h : PartsA V V.heap.size A n ps) => refPlaces_any V seq row A n c ps h hn)
  have HM : Hid (mayB row ps = (placedB row ps && loadedB ps)) := Lib.hid rfl
  unfold recV at *
  unfold maxLen at hn
  have HL := Lib.hid h.1
  have hb0 := (Below.refl w.heap.size w).alloc (Nat.le_refl _) (.cells #[.int .u64 seq, .int .i64 row, .slice A n c] 41)
  have hB := Blk.new w 41 #[.int .u64 seq, .int .i64 row, .slice A n c]
  go_enter Try.func22, Try.ntmps22
  go_wp2_with fail
  generalize w.alloc (.cells #[.int .u64 seq, .int .i64 row, .slice A n c] 41) = w1 at *
  go_loopw [3] (fun i wr => ∃ k : Nat, k ≤ n ∧ i = .int .i64 k ∧ (∀ j, j < k → (ps.getD j prt0).data.size = 64) ∧ Blk wr w.heap.size 41 #[.int .u64 seq, .int .i64 row, .slice A n c] ∧ Below w.heap.size w wr) (fun i _ => n - (intOf i).toNat)
  case atStart => exact ⟨0, by omega, rfl, fun j hj => by omega, hB, hb0⟩
  case round =>
    obtain ⟨k, hk, rfl, hall, hBr, hbr⟩ := hrel
    clear hB hb0
    have HA := Lib.hid hall
    clear hall
    have hq := hBr.cell
    by_cases hlt : k < n
    · obtain ⟨b, o, rfl, hb, hc⟩ := h.2 (by omega)
      obtain ⟨c0, c1, c2⟩ := (hc k hlt).below hbr hb
      have HP2 := Lib.hid (fun j (hj : j < k + 1) (h0 : (ps.getD k prt0).data.size = 64) => show (ps.getD j prt0).data.size = 64 by
        by_cases e : j = k
        · rw [e]; exact h0
        · exact HA.out j (by omega))
      have HF : Hid ((ps.getD k prt0).data.size ≠ 64 → loadedB ps = false) := Lib.hid (fun h0 => by
        rw [Bool.eq_false_iff]
        intro e
        exact h0 (by simpa using (allP ps).1 e k (by rw [HL.out]; exact hlt)))
      generalize ps.getD k prt0 = p at *
      obtain ⟨pc, po, pd⟩ := p
      dsimp only at c0 c1 c2 HP2 HF
      clear hc
      by_cases h0 : pd.size = 64
      · have HH := Lib.hid h0
        have e1 : ((pd.size : Int) != 64) = false := by rw [h0]; rfl
        clear h0
        go_wp2_with fail
        go_roundw
        case rel => exact ⟨k + 1, by omega, by go_num, fun j hj => HP2.out j hj HH.out, hBr, hbr⟩
        case measure => simp [intOf]; go_num
      · have e1 : ((pd.size : Int) != 64) = true := by rw [bne_iff_ne]; omega
        have HZ : Hid (mayB row ps = false) := Lib.hid (by rw [HM.out, HF.out h0]; simp)
        clear h0
        go_wp2_with fail
        go_ret
        exact ⟨by rw [HZ.out]; rfl, hbr⟩
    · obtain rfl : k = n := by omega
      have e : loadedB ps = true := (allP ps).2 (fun j hj => by
        have h1 := HA.out j (by rw [HL.out] at hj; exact hj)
        simpa using h1)
      have HZ : Hid (mayB row ps = placedB row ps) := Lib.hid (by rw [HM.out, e]; simp)
      have h1 := (h.below hbr).mono hbr.size
      clear e
      go_wp2_with fail
      refine (HP.out _ h1).mono ?_
      rintro e W1 ⟨rfl, hb3⟩
      go_wp2_with fail
      go_ret
      exact ⟨by rw [HZ.out]; rfl, hbr.trans (hb3.mono hbr.size)⟩
end Go.Proofs.Ythpehdmffleobaa
