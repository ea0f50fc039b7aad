/- revetmentlaw12's some: a record that may be. -/
import Derived.Test.YthpehdmffleobaaRcOwn
import Derived.Test.YthpehdmffleobaaRcFull
import Derived.Test.YthpehdmffleobaaRcHeavy
import Derived.Test.YthpehdmffleobaaRcPlaced
import Derived.Test.YthpehdmffleobaaNF
namespace Go.Proofs.Ythpehdmffleobaa
open Go.RowKit Go.OpenShut

def someP (fr : Nat) (xs : List ByteArray) (i : Nat) : Prt := ⟨(((fr + i * 7) % 40 / 4 : Nat) : Int), (((fr + i * 7) % 40 % 4 : Nat) : Int), ⟨(fullL (xs.getD i ⟨#[]⟩).data.toList).toArray⟩⟩
def someL (fr : Nat) (xs : List ByteArray) (k : Nat) : List Prt := (List.range k).map (someP fr xs)
theorem someL_len (fr : Nat) (xs : List ByteArray) (k : Nat) : (someL fr xs k).length = k := by simp [someL]
theorem someL_succ (fr : Nat) (xs : List ByteArray) (k : Nat) : someL fr xs (k + 1) = someL fr xs k ++ [someP fr xs k] := by simp [someL, List.range_succ]

set_option maxHeartbeats 4000000 in
theorem some_any (w : World) (seq : Int) (row fr : Nat) (hr : row < 256) (hf : fr < 256) (A : Option Addr) (n c : Nat) (xs : List ByteArray) (hx : StrsA w w.heap.size A n xs) (hn : n ≤ maxLen) (hsz : ∀ x ∈ xs, x.size ≤ 4000000000) :
    Calls Try.prog 8 #[.int .u64 seq, .int .u8 row, .int .u8 fr, .slice A n c] w fun e w' => ∃ A' c', e = .returned (recV seq row A' (min n 40 : Nat) c') ∧ min n 40 ≤ c' ∧ c' ≤ maxLen ∧ (A' = none → c' = 0) ∧ PartsA w' w'.heap.size A' (min n 40) (someL fr xs (min n 40)) ∧ Below w.heap.size w w' := by
  unfold maxLen at hn
  have HL := Lib.hid hx.1
  obtain ⟨N, hN, hNn, hN40⟩ : ∃ N, min n 40 = N ∧ N ≤ n ∧ N ≤ 40 := ⟨_, rfl, by omega, by omega⟩
  rw [hN]
  go_enter Try.func8, Try.ntmps8
  go_wp2_with fail
  have hb0 := ((Below.refl w.heap.size w).alloc (Nat.le_refl _) (.cells #[.int .u64 0, .int .i64 0, .slice none 0 0] 26)).alloc (by simp) (.cells #[.int .u64 seq, .int .i64 row, .slice none 0 0] 26)
  have hR := (Blk.new w 26 #[.int .u64 0, .int .i64 0, .slice none 0 0]).alloc (.cells #[.int .u64 seq, .int .i64 row, .slice none 0 0] 26)
  have hB := Blk.new (w.alloc (.cells #[.int .u64 0, .int .i64 0, .slice none 0 0] 26)) 26 #[.int .u64 seq, .int .i64 row, .slice none 0 0]
  have hz : (w.alloc (.cells #[.int .u64 0, .int .i64 0, .slice none 0 0] 26)).heap.size = w.heap.size + 1 := by simp
  have hz2 : w.heap.size + 2 ≤ ((w.alloc (.cells #[.int .u64 0, .int .i64 0, .slice none 0 0] 26)).alloc (.cells #[.int .u64 seq, .int .i64 row, .slice none 0 0] 26)).heap.size := by simp
  rw [hz] at hB
  have hv := OwnP.none_ (e := 31) ((w.alloc (.cells #[.int .u64 0, .int .i64 0, .slice none 0 0] 26)).alloc (.cells #[.int .u64 seq, .int .i64 row, .slice none 0 0] 26)) (w.heap.size + 2)
  generalize (w.alloc (.cells #[.int .u64 0, .int .i64 0, .slice none 0 0] 26)).alloc (.cells #[.int .u64 seq, .int .i64 row, .slice none 0 0] 26) = w1 at *
  clear hz
  go_loopw [10] (fun i wr => ∃ (k : Nat) (v : Value), k ≤ N ∧ i = .int .i64 k ∧ Blk wr w.heap.size 26 #[.int .u64 0, .int .i64 0, .slice none 0 0] ∧ Blk wr (w.heap.size + 1) 26 #[.int .u64 seq, .int .i64 row, v] ∧ OwnP 31 wr (w.heap.size + 2) v (someL fr xs k) ∧ w.heap.size + 2 ≤ wr.heap.size ∧ Below w.heap.size w wr) (fun i _ => N - (intOf i).toNat)
  case atStart => exact ⟨0, .slice none 0 0, by omega, rfl, hR, hB, hv, hz2, hb0⟩
  case round =>
    obtain ⟨k, v, hk, rfl, hR1, hB1, hw, hws, hbr⟩ := hrel
    clear hR hB hv hb0 hz2
    have HLL := Lib.hid (someL_len fr xs k)
    by_cases hlt : k < N
    · obtain ⟨b, o, rfl, hb, hc⟩ := hx.2 (by omega)
      have hkn : k < n := by omega
      have q0 := hc k hkn
      have HS := Lib.hid (hsz _ (show xs.getD k ⟨#[]⟩ ∈ xs by simp [List.getD, show k < xs.length by rw [HL.out]; exact hkn]))
      have HSN := Lib.hid (someL_succ fr xs k)
      unfold someP at HSN
      have HFL := Lib.hid (fullL_len (xs.getD k ⟨#[]⟩).data.toList)
      have HFC := Lib.hid (fun V => full_any V (xs.getD k ⟨#[]⟩) (by have := HS.out; omega))
      generalize (⟨(fullL (xs.getD k ⟨#[]⟩).data.toList).toArray⟩ : ByteArray) = F at *
      generalize xs.getD k ⟨#[]⟩ = x at *
      have HC := Lib.hid (fun (Y : World) (hY : Below w.heap.size w Y) => (hY.cell (p := ⟨b, o + k, none⟩) hb).trans q0)
      clear hc q0
      obtain ⟨q, hq, hq40⟩ : ∃ q : Nat, (fr + k * 7) % 40 = q ∧ q < 40 := ⟨_, rfl, Nat.mod_lt _ (by omega)⟩
      have hq1 : ((fr : Int) + (k : Int) * 7) % 40 = (q : Int) := by omega
      rw [hq] at HSN
      obtain ⟨d, hd⟩ : ∃ d : Nat, q / 4 = d := ⟨_, rfl⟩
      obtain ⟨m, hm⟩ : ∃ m : Nat, q % 4 = m := ⟨_, rfl⟩
      have hd1 : (q : Int) / 4 = (d : Int) := by omega
      have hm1 : (q : Int) % 4 = (m : Int) := by omega
      rw [hd, hm] at HSN
      clear hq hd hm
      obtain ⟨A', c', rfl, hc', hcm'⟩ := hw.shape
      rw [HLL.out] at hB1 hw hc'
      have hk40 : (k : Int) < 40 := by omega
      have hkn' : (k : Int) < (n : Int) := by omega
      go_wp2_with fail
      refine wp_region_nf (fun Y => Below w.heap.size w Y ∧ Y.cell? ⟨w.heap.size + 1, 2, none⟩ = some (.slice A' k c')) (fun i => i == 15) [(0, true), (1, true), (2, true), (3, true), (4, true), (5, true), (6, true), (7, true), (8, true), (9, true), (10, false), (11, true), (12, false), (13, false), (14, true), (15, false)] (by kernel_rfl) rfl (by kernel_rfl) (by kernel_rfl) (fun d _ _ _ _ h => by cases d <;> exact h) ?_
      have hbd := hbr.drew
      replace hw := hw.drew
      have hR2 : Blk wr.drew w.heap.size 26 #[.int .u64 0, .int .i64 0, .slice none 0 0] := hR1
      have hB2 : Blk wr.drew (w.heap.size + 1) 26 #[.int .u64 seq, .int .i64 row, .slice A' k c'] := hB1
      have hws2 : w.heap.size + 2 ≤ wr.drew.heap.size := hws
      clear hR1 hB1 hbr
      generalize wr.drew = V at *
      repeat (refine nf_pure rfl ⟨hbd, hB2.cell 2⟩ (fun Y hY => by obtain ⟨hY1, hY2⟩ := hY; have g1 := HC.out Y hY1; clear hY1; go_wp2; exact ⟨rfl, rfl, rfl⟩) rfl ?_ ?_; rfl)
      refine nf_imp rfl ?_
      go_wp2_with fail
      refine (HFC.out _).mono ?_
      rintro e W1 ⟨rfl, rfl⟩
      go_wp2_with fail
      refine ⟨fun _ => ⟨hbd, hB2.cell 2⟩, ?_⟩
      repeat (refine nf_pure rfl ⟨hbd, hB2.cell 2⟩ (fun Y hY => by clear hY; go_wp2; exact ⟨rfl, rfl, rfl⟩) rfl ?_ ?_; rfl)
      refine nf_imp rfl ?_
      go_wp2_with fail
      have hPL := PartsA.lit (w0 := V) (g := V.heap.size) (t := 31) (p := ⟨(d : Int), (m : Int), F⟩) rfl
      dsimp only at hPL
      replace hw := hw.alloc (.cells #[.int .i64 (d : Int), .int .i64 (m : Int), .string F] 31)
      replace hR2 := hR2.alloc (.cells #[.int .i64 (d : Int), .int .i64 (m : Int), .string F] 31)
      replace hB2 := hB2.alloc (.cells #[.int .i64 (d : Int), .int .i64 (m : Int), .string F] 31)
      replace hbd := hbd.alloc hbd.size (.cells #[.int .i64 (d : Int), .int .i64 (m : Int), .string F] 31)
      have hws3 : w.heap.size + 2 ≤ (V.alloc (.cells #[.int .i64 (d : Int), .int .i64 (m : Int), .string F] 31)).heap.size := by simp; omega
      generalize V.alloc (.cells #[.int .i64 (d : Int), .int .i64 (m : Int), .string F] 31) = V1 at *
      refine ⟨fun _ => ⟨hbd, hB2.cell 2⟩, ?_⟩
      refine nf_imp rfl ?_
      refine wp_appP 24 31 Try.underlying24 info_part rfl (.tmp 33) (.tmp 44) rfl (w.heap.size + 2) _ _ hw rfl _ 1 1 _ rfl hPL (fun h => by cases h) (by rw [HLL.out]; omega) hws3 ?_
      intro v5 w5 hv5 hg5 hb5 ha5
      have hne : ∀ g, g < w.heap.size + 2 → some g ≠ (Value.slice A' (k : Nat) c').ownBlock := fun g hg e => by
        have := (hw.lt g e.symm).1
        omega
      have hR3 : Blk w5 w.heap.size 26 _ := (hg5.block _ hR2.lt (hne _ (by omega))).trans hR2
      have hB3 : Blk w5 (w.heap.size + 1) 26 _ := (hg5.block _ hB2.lt (hne _ (by omega))).trans hB2
      have hbd5 := hbd.trans (hb5.mono (by omega))
      have hws5 := Nat.le_trans hws3 hb5.size
      rw [← HSN.out] at hv5
      clear hPL hw hR2 hB2 hbd hg5 hb5 ha5 hne hws3
      go_wp2_with fail
      refine ⟨fun _ => ⟨hbd5, hB3.cell 2⟩, ?_⟩
      repeat (refine nf_pure rfl ⟨hbd5, hB3.cell 2⟩ (fun Y hY => by clear hY; go_wp2; exact ⟨rfl, rfl, rfl⟩) rfl ?_ ?_; rfl)
      refine nf_imp rfl ?_
      have hqc := hB3.cell 2
      have hqf := hB3.frozen
      obtain ⟨A5, c5, rfl, hc5, hcm5⟩ := hv5.shape
      have HLL5 := Lib.hid (someL_len fr xs (k + 1))
      rw [HLL5.out] at hv5 hc5 ⊢
      go_wp2_with fail
      refine ⟨fun h => (by cases h), ?_⟩
      refine nf_nil ?_
      have hB4 := hB3.set_ 2 (.slice A5 (k + 1 : Nat) c5)
      have hR4 := hR3.far (p := ⟨w.heap.size + 1, 2, none⟩) (by simp) (.slice A5 (k + 1 : Nat) c5)
      have hbd6 := hbd5.setCell (p := ⟨w.heap.size + 1, 2, none⟩) (by simp) (.slice A5 (k + 1 : Nat) c5)
      have hv6 := hv5.far (p := ⟨w.heap.size + 1, 2, none⟩) (fun e => by have := (hv5.lt _ e.symm).1; dsimp only at this; omega) (.slice A5 (k + 1 : Nat) c5)
      go_wp2_with fail
      go_roundw
      case rel => exact ⟨k + 1, .slice A5 (k + 1 : Nat) c5, by omega, by go_num, hR4, hB4, hv6, by simpa using hws5, hbd6⟩
      case measure => simp [intOf]; go_num
    · obtain rfl : k = N := by omega
      obtain ⟨A', c', rfl, hc', hcm'⟩ := hw.shape
      rw [HLL.out] at hB1 hw hc'
      have hps := hw.parts
      have hA' : A' = none → c' = 0 := fun e => by
        subst e
        rcases hw.2 with ⟨e, _⟩ | ⟨g, cap, cur, e, _⟩
        · cases e; rfl
        · cases e
      have hend : ¬ ((k : Int) < (n : Int)) ∨ ¬ ((k : Int) < 40) := by omega
      have q0 := hB1.cell 0
      have q1 := hB1.cell 1
      have q2 := hB1.cell 2
      have s0 := hR1.cell 0
      have s1 := hR1.cell 1
      have s2 := hR1.cell 2
      have sf := hR1.frozen
      have hps2 := (((hw.far (p := ⟨w.heap.size, 0, none⟩) (fun e => by have := (hw.lt _ e.symm).1; dsimp only at this; omega) (.int .u64 seq)).far (p := ⟨w.heap.size, 1, none⟩) (fun e => by have := (hw.lt _ e.symm).1; dsimp only at this; omega) (.int .i64 row)).far (p := ⟨w.heap.size, 2, none⟩) (fun e => by have := (hw.lt _ e.symm).1; dsimp only at this; omega) (.slice A' k c')).parts
      have hbl := (((hbr.setCell (p := ⟨w.heap.size, 0, none⟩) (Nat.le_refl _) (.int .u64 seq)).setCell (p := ⟨w.heap.size, 1, none⟩) (Nat.le_refl _) (.int .i64 row)).setCell (p := ⟨w.heap.size, 2, none⟩) (Nat.le_refl _) (.slice A' k c'))
      have hRR : Blk (((wr.setCell ⟨w.heap.size, 0, none⟩ (.int .u64 seq)).setCell ⟨w.heap.size, 1, none⟩ (.int .i64 row)).setCell ⟨w.heap.size, 2, none⟩ (.slice A' k c')) w.heap.size 26 #[.int .u64 seq, .int .i64 row, .slice A' k c'] :=
        ((hR1.set_ 0 (.int .u64 seq)).set_ 1 (.int .i64 row)).set_ 2 (.slice A' k c')
      clear hw hps hR1 hB1 hbr
      rcases hend with hend | hend
      all_goals
        go_wp2_with fail
        all_goals
          refine bodyPost_ret (v := recV seq row A' k c') (results_cell_row rfl _ _ w.heap.size 26 _ (0, 0) _ rfl hRR Try.underlying26 rfl (by kernel_rfl)) rfl ?_
          exact ⟨A', c', rfl, hc', hcm', hA', hps2, hbl⟩
end Go.Proofs.Ythpehdmffleobaa
