/- revetmentlaw12's theirs: a record as the document's. -/
import Derived.Test.YthpehdmffleobaaRcHd0
import Derived.Test.YthpehdmffleobaaRcSome
namespace Go.Proofs.Ythpehdmffleobaa
open Go.RowKit Go.OpenShut

theorem take_succP (ps : List Prt) (k : Nat) (h : k < ps.length) : ps.take (k + 1) = ps.take k ++ [ps.getD k prt0] := by
  rw [List.take_add_one]
  have e : ps[k]? = some (ps.getD k prt0) := by simp [List.getD, h]
  rw [e]; rfl
set_option maxHeartbeats 4000000 in
theorem theirs_any (w : World) (seq row : Int) (A : Option Addr) (n c : Nat) (ps : List Prt) (h : PartsA w w.heap.size A n ps) (hn : n ≤ 4000000000) :
    Calls Try.prog 15 #[recV seq row A n c] w fun e w' => ∃ A' c', e = .returned (recV seq row A' n c') ∧ n ≤ c' ∧ c' ≤ maxLen ∧ PartsA w' w'.heap.size A' n ps ∧ Below w.heap.size w w' := by
  have HL := Lib.hid h.1
  unfold recV
  go_enter Try.func15, Try.ntmps15
  go_wp2_with fail
  have h0 := Blk.new w 26 #[.int .u64 seq, .int .i64 row, .slice A n c]
  have hb0 := (Below.refl w.heap.size w).alloc (Nat.le_refl _) (.cells #[.int .u64 seq, .int .i64 row, .slice A n c] 26)
  have hz0 : (w.alloc (.cells #[.int .u64 seq, .int .i64 row, .slice A n c] 26)).heap.size = w.heap.size + 1 := by simp
  generalize w.alloc (.cells #[.int .u64 seq, .int .i64 row, .slice A n c] 26) = w1 at *
  have h1 := Blk.new w1 41 #[.int .u64 0, .int .i64 0, .slice none 0 0]
  replace h0 := h0.alloc (.cells #[.int .u64 0, .int .i64 0, .slice none 0 0] 41)
  replace hb0 := hb0.alloc hb0.size (.cells #[.int .u64 0, .int .i64 0, .slice none 0 0] 41)
  have hz1 : (w1.alloc (.cells #[.int .u64 0, .int .i64 0, .slice none 0 0] 41)).heap.size = w.heap.size + 2 := by simp; omega
  rw [hz0] at h1
  generalize w1.alloc (.cells #[.int .u64 0, .int .i64 0, .slice none 0 0] 41) = w2 at *
  have h2 := Blk.new w2 41 #[.int .u64 seq, .int .i64 row, .slice none 0 0]
  replace h0 := h0.alloc (.cells #[.int .u64 seq, .int .i64 row, .slice none 0 0] 41)
  replace h1 := h1.alloc (.cells #[.int .u64 seq, .int .i64 row, .slice none 0 0] 41)
  replace hb0 := hb0.alloc hb0.size (.cells #[.int .u64 seq, .int .i64 row, .slice none 0 0] 41)
  have hz2 : w.heap.size + 3 ≤ (w2.alloc (.cells #[.int .u64 seq, .int .i64 row, .slice none 0 0] 41)).heap.size := by simp; omega
  rw [hz1] at h2
  have hv := OwnP.none_ (e := 65) (w2.alloc (.cells #[.int .u64 seq, .int .i64 row, .slice none 0 0] 41)) (w.heap.size + 3)
  generalize w2.alloc (.cells #[.int .u64 seq, .int .i64 row, .slice none 0 0] 41) = w3 at *
  clear hz0 hz1
  go_loopw [4] (fun i wr => ∃ (k : Nat) (v : Value), k ≤ n ∧ i = .int .i64 k ∧ Blk wr w.heap.size 26 #[.int .u64 seq, .int .i64 row, .slice A n c] ∧ Blk wr (w.heap.size + 1) 41 #[.int .u64 0, .int .i64 0, .slice none 0 0] ∧ Blk wr (w.heap.size + 2) 41 #[.int .u64 seq, .int .i64 row, v] ∧ OwnP 65 wr (w.heap.size + 3) v (ps.take k) ∧ w.heap.size + 3 ≤ wr.heap.size ∧ Below w.heap.size w wr) (fun i _ => n - (intOf i).toNat)
  case atStart => exact ⟨0, .slice none 0 0, by omega, rfl, h0, h1, h2, hv, hz2, hb0⟩
  case round =>
    obtain ⟨k, v, hk, rfl, hA0, hR1, hB1, hw, hws, hbr⟩ := hrel
    clear h0 h1 h2 hv hz2 hb0
    by_cases hlt : k < n
    · obtain ⟨b, o, rfl, hb, hc⟩ := h.2 (by omega)
      have q0 := (hc k hlt).below hbr hb
      have HT := Lib.hid (take_succP ps k (by rw [HL.out]; exact hlt))
      have HTL := Lib.hid (show (ps.take k).length = k by rw [List.length_take, HL.out]; omega)
      have HTL1 := Lib.hid (show (ps.take (k + 1)).length = k + 1 by rw [List.length_take, HL.out]; omega)
      have HC := Lib.hid (fun (Y : World) (hY : Below w.heap.size w Y) => (hc k hlt).below hY hb)
      generalize ps.getD k prt0 = p at *
      obtain ⟨pc, po, pd⟩ := p
      obtain ⟨A', c', rfl, hc', hcm'⟩ := hw.shape
      rw [HTL.out] at hB1 hw hc'
      have hkn : (k : Int) < (n : Int) := by omega
      have q1 := hA0.cell 2
      clear hc q0
      go_wp2_with fail
      refine wp_region_nf (fun Y => Below w.heap.size w Y ∧ Y.cell? ⟨w.heap.size + 2, 2, none⟩ = some (.slice A' k c') ∧ Y.cell? ⟨w.heap.size, 2, none⟩ = some (.slice (some ⟨b, o, none⟩) n c)) (fun i => i == 10) [(0, true), (1, true), (2, true), (3, true), (4, true), (5, true), (6, true), (7, false), (8, false), (9, true), (10, false)] (by kernel_rfl) rfl (by kernel_rfl) (by kernel_rfl) (fun d _ _ _ _ h => by cases d <;> exact h) ?_
      have hbd := hbr.drew
      replace hw := hw.drew
      have hA2 : Blk wr.drew w.heap.size 26 #[.int .u64 seq, .int .i64 row, .slice (some ⟨b, o, none⟩) n c] := hA0
      have hR2 : Blk wr.drew (w.heap.size + 1) 41 #[.int .u64 0, .int .i64 0, .slice none 0 0] := hR1
      have hB2 : Blk wr.drew (w.heap.size + 2) 41 #[.int .u64 seq, .int .i64 row, .slice A' k c'] := hB1
      have hws2 : w.heap.size + 3 ≤ wr.drew.heap.size := hws
      clear hA0 hR1 hB1 hbr q1
      generalize wr.drew = V at *
      repeat (refine nf_pure rfl ⟨hbd, hB2.cell 2, hA2.cell 2⟩ (fun Y hY => by obtain ⟨hY1, hY2, hY3⟩ := hY; obtain ⟨g1, g2, g3⟩ := HC.out Y hY1; clear hY1; go_wp2; exact ⟨rfl, rfl, rfl⟩) rfl ?_ ?_; rfl)
      refine nf_imp rfl ?_
      go_wp2_with fail
      have hPL := PartsA.lit (w0 := V) (g := V.heap.size) (t := 65) (p := ⟨pc, po, pd⟩) rfl
      dsimp only at hPL
      replace hw := hw.alloc (.cells #[.int .i64 pc, .int .i64 po, .string pd] 65)
      replace hA2 := hA2.alloc (.cells #[.int .i64 pc, .int .i64 po, .string pd] 65)
      replace hR2 := hR2.alloc (.cells #[.int .i64 pc, .int .i64 po, .string pd] 65)
      replace hB2 := hB2.alloc (.cells #[.int .i64 pc, .int .i64 po, .string pd] 65)
      replace hbd := hbd.alloc hbd.size (.cells #[.int .i64 pc, .int .i64 po, .string pd] 65)
      have hws3 : w.heap.size + 3 ≤ (V.alloc (.cells #[.int .i64 pc, .int .i64 po, .string pd] 65)).heap.size := by simp; omega
      generalize V.alloc (.cells #[.int .i64 pc, .int .i64 po, .string pd] 65) = V1 at *
      refine ⟨fun _ => ⟨hbd, hB2.cell 2, hA2.cell 2⟩, ?_⟩
      refine nf_imp rfl ?_
      refine wp_appP 39 65 Try.underlying39 info_part12 rfl (.tmp 18) (.tmp 24) rfl (w.heap.size + 3) _ _ hw rfl _ 1 1 _ rfl hPL (fun h => by cases h) (by rw [HTL.out]; omega) hws3 ?_
      intro v5 w5 hv5 hg5 hb5 ha5
      have hR3 := hR2.below hb5 (by omega)
      have hA3 := hA2.below hb5 (by omega)
      have hB3 := hB2.below hb5 (by omega)
      have hbd5 := hbd.trans (hb5.mono (by omega))
      have hws5 := Nat.le_trans hws3 hb5.size
      rw [← HT.out] at hv5
      clear hPL hw hR2 hB2 hA2 hbd hg5 hb5 ha5 hws3
      obtain ⟨A5, c5, rfl, hc5, hcm5⟩ := hv5.shape
      rw [HTL1.out] at hv5 hc5 ⊢
      go_wp2_with fail
      refine ⟨fun _ => ⟨hbd5, hB3.cell 2, hA3.cell 2⟩, ?_⟩
      repeat (refine nf_pure rfl ⟨hbd5, hB3.cell 2, hA3.cell 2⟩ (fun Y hY => by clear hY; go_wp2; exact ⟨rfl, rfl, rfl⟩) rfl ?_ ?_; rfl)
      refine nf_imp rfl ?_
      have hqc := hB3.cell 2
      have hqf := hB3.frozen
      go_wp2_with fail
      refine ⟨fun h => (by cases h), ?_⟩
      refine nf_nil ?_
      have hB4 := hB3.set_ 2 (.slice A5 (k + 1 : Nat) c5)
      have hR4 := hR3.far (p := ⟨w.heap.size + 2, 2, none⟩) (by simp) (.slice A5 (k + 1 : Nat) c5)
      have hA4 := hA3.far (p := ⟨w.heap.size + 2, 2, none⟩) (by simp) (.slice A5 (k + 1 : Nat) c5)
      have hbd6 := hbd5.setCell (p := ⟨w.heap.size + 2, 2, none⟩) (by simp) (.slice A5 (k + 1 : Nat) c5)
      have hv6 := hv5.far (p := ⟨w.heap.size + 2, 2, none⟩) (fun e => by have := (hv5.lt _ e.symm).1; dsimp only at this; omega) (.slice A5 (k + 1 : Nat) c5)
      go_wp2_with fail
      go_roundw
      case rel => exact ⟨k + 1, .slice A5 (k + 1 : Nat) c5, by omega, by go_num, hA4, hR4, hB4, hv6, by simpa using hws5, hbd6⟩
      case measure => simp [intOf]; go_num
    · obtain rfl : k = n := by omega
      rw [List.take_of_length_le (by rw [HL.out]; exact Nat.le_refl _)] at hw
      obtain ⟨A', c', rfl, hc', hcm'⟩ := hw.shape
      rw [HL.out] at hB1 hw hc'
      have q0 := hB1.cell
      have q1 := hA0.cell 2
      have s0 := hR1.cell
      have sf := hR1.frozen
      have hbl := below_set3 hbr (show w.heap.size ≤ w.heap.size + 1 by omega) (.int .u64 seq) (.int .i64 row) (.slice A' k c')
      have hRR := hR1.set3 (.int .u64 seq) (.int .i64 row) (.slice A' k c')
      have hNB : ∀ g, g < w.heap.size + 3 → some g ≠ (Value.slice A' (k : Nat) c').ownBlock := fun g hg e => by have := (hw.lt _ e.symm).1; omega
      have hps2 := (((hw.far (p := ⟨w.heap.size + 1, 0, none⟩) (hNB (w.heap.size + 1) (by omega)) (.int .u64 seq)).far (p := ⟨w.heap.size + 1, 1, none⟩) (hNB (w.heap.size + 1) (by omega)) (.int .i64 row)).far (p := ⟨w.heap.size + 1, 2, none⟩) (hNB (w.heap.size + 1) (by omega)) (.slice A' k c')).parts
      clear hw hR1 hB1 hbr hA0 hNB
      go_wp2_with fail
      refine bodyPost_ret (v := recV seq row A' k c') (results_cell_row rfl _ _ (w.heap.size + 1) 41 _ (0, 0) _ rfl hRR Try.underlying41 rfl (by kernel_rfl)) rfl ?_
      exact ⟨A', c', rfl, hc', hcm', hps2, hbl⟩
end Go.Proofs.Ythpehdmffleobaa
