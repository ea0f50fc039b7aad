/- record.Head: the walk, of what is sealed and has the magic. -/
import Derived.Test.YthpehdmffleobaaRcHd0
namespace Go.Proofs.Ythpehdmffleobaa
open Go.RowKit Go.OpenShut

theorem and_3 : ∀ c, c < 256 → bits BinOp.and IntKind.u8 ((c : Nat) : Int) 3 = ((c % 4 : Nat) : Int) := by decide +kernel
theorem take_drop_15 (l : List UInt8) : ((l.take 60).drop 4).take (19 - 4) = (l.take 19).drop 4 := by
  rw [List.drop_take, List.take_take, List.drop_take]
  rfl
theorem open_60s (b : ByteArray) (h : b.size = 64) (ho : openB b.data.toList = true) : (openS b).size = 60 ∧ ((openS b).extract 4 19).size = 15 ∧ decL ws4 ((openS b).extract 4 19).data.toList = headNs b ∧ ∀ m k, m = min (19 + k) 60 → ((openS b).extract 19 m).data.toList = ((b.data.toList.take 60).drop 19).take k := by
  rw [open_60 b h ho]
  have hz : b.data.toList.length = 64 := by simpa using h
  refine ⟨by simp; omega, by simp; omega, ?_, ?_⟩
  · have q : ((b.extract 0 60).extract 4 19).data.toList = (b.data.toList.take 19).drop 4 := by
      simp only [ByteArray.data_extract, Array.toList_extract, List.extract_eq_take_drop, List.drop_zero, Nat.sub_zero]
      exact take_drop_15 _
    unfold headNs
    rw [q]
  · intro m k hm
    have q : ((b.extract 0 60).extract 19 m).data.toList = ((b.data.toList.take 60).drop 19).take (m - 19) := by
      simp only [ByteArray.data_extract, Array.toList_extract, List.extract_eq_take_drop, List.drop_zero, Nat.sub_zero]
    rw [q]
    have hl : (List.drop 19 (List.take 60 b.data.toList)).length = 41 := by simp; omega
    generalize List.drop 19 (List.take 60 b.data.toList) = l at *
    rcases Nat.lt_or_ge k 41 with e | e
    · rw [show m - 19 = k by omega]
    · rw [List.take_of_length_le (by omega), List.take_of_length_le (by omega)]
theorem BRow.below' {w w' : World} {g B : Nat} {l : List UInt8} (h : BRow w g l) (hb : Below B w w') (hg : g < B) : BRow w' g l :=
  ⟨fun i hi => (hb.cell (p := ⟨g, i, none⟩) hg).trans (h.1 i hi), fun i hi => (hb.frozen (p := ⟨g, i, none⟩) hg).trans (h.2 i hi)⟩
theorem BRow.far {w : World} {g : Nat} {l : List UInt8} (h : BRow w g l) {p : Addr} (hp : p.block ≠ g) (u : Value) : BRow (w.setCell p u) g l :=
  ⟨fun i hi => (World.cell?_setCell_other _ _ _ _ (fun e => hp (by rw [e]))).trans (h.1 i hi), fun i hi => by simpa using h.2 i hi⟩
theorem OwnP.base {e : TypeId} {w : World} {B B' : Nat} {v : Value} {l : List Prt} (h : OwnP e w B v l) (hB : B' ≤ B) : OwnP e w B' v l := by
  obtain ⟨h1, h2⟩ := h
  refine ⟨h1, ?_⟩
  rcases h2 with h2 | ⟨g, cap, cur, hv, hg, r⟩
  · exact Or.inl h2
  · exact Or.inr ⟨g, cap, cur, hv, Nat.le_trans hB hg, r⟩
set_option maxRecDepth 8000 in
set_option maxHeartbeats 4000000 in
theorem head12_open (w : World) (b : ByteArray) (h : b.size = 64) (ho : openB b.data.toList = true) (hm : headM b = true) :
    Calls Try.prog 16 #[.string b] w (HdPost w (headE b) (headR b)) := by
  have HP := Lib.hid (prefix_magic b h ho)
  rw [hm] at HP
  have hn : ((b.size : Int) != 64) = false := by rw [h]; rfl
  have HO := Lib.hid (fun w => open_any w b (by rw [h]; unfold maxLen; omega))
  rw [ho] at HO
  obtain ⟨ht1, ht2, ht3, ht4⟩ := open_60s b h ho
  have HE : Hid (headE b = if headOK b then 0 else 1) := Lib.hid (by unfold headE; rw [if_pos h, ho, if_pos rfl, hm, if_pos rfl])
  obtain ⟨t, htt⟩ : ∃ t, openS b = t := ⟨_, rfl⟩
  rw [htt] at HO HP ht1 ht2 ht3 ht4
  have HT1 := Lib.hid ht1
  have HT2 := Lib.hid ht2
  have HT3 := Lib.hid ht3
  have HT4 := Lib.hid ht4
  have g1 : ¬ t.size < 19 := by omega
  have g2 : 19 ≤ t.size := by omega
  have g3 : (19 : Int) ≤ (t.size : Int) := by omega
  clear h ho ht1 ht2 ht3 ht4 htt hm
  go_enter Try.func16, Try.ntmps16
  go_wp2_with fail
  refine (HO.out _).mono ?_
  rintro e w1 ⟨rfl, hb1⟩
  have hR := (Blk.new w 26 #[.int .u64 0, .int .i64 0, .slice none 0 0]).below hb1 (by simp)
  have hbe := ((Below.refl w.heap.size w).alloc (Nat.le_refl _) (.cells #[.int .u64 0, .int .i64 0, .slice none 0 0] 26)).trans (hb1.mono (by simp))
  have hlt := hR.lt
  clear hb1
  go_wp2_with fail
  refine (Try.strings_HasPrefix t ⟨#[82, 86, 84, 74]⟩ _).mono ?_
  rintro e W2 ⟨rfl, rfl⟩
  rw [HP.out]
  go_wp2_with fail
  have hN := Blk.new W2 3 #[.int .i64 8, .int .i64 2, .int .i64 1, .int .i64 4]
  have hal := (Below.refl W2.heap.size W2).alloc (Nat.le_refl _) (.cells #[.int .i64 8, .int .i64 2, .int .i64 1, .int .i64 4] 3)
  replace hR := hR.below hal hlt
  replace hbe := hbe.trans (hal.mono hbe.size)
  have hi := IntsA.blk (k := .i64) (xs := [8, 2, 1, 4]) hN rfl hN.lt
  refine (decode_any _ _ _ _ _ [8, 2, 1, 4] hi (by simp)).mono ?_
  rintro e5 w5 ⟨A, n, c, rfl, hi5, hb5⟩
  replace hR := hR.below hb5 hR.lt
  replace hbe := hbe.trans (hb5.mono hbe.size)
  clear hb5 hi hN hal hlt
  rw [show decX [8, 2, 1, 4] (t.extract 4 19) = _ from (dec_ok ws4_ok (by rw [HT2.out]; rfl)).2, HT3.out] at hi5
  rw [show decE [8, 2, 1, 4] (t.extract 4 19) = 0 from (dec_ok ws4_ok (by rw [HT2.out]; rfl)).1]
  have hn4 : n = 4 := by rw [← hi5.1, List.length_map, headNs_len]
  subst hn4
  obtain ⟨L, off, rfl, hL, hcl⟩ := hi5.2 (by omega)
  have hcl' : ∀ j, j < 4 → w5.cell? ⟨L, off + j, none⟩ = some (.int .u64 (((headNs b).getD j 0 : Nat) : Int)) := fun j hj => by
    rw [hcl j hj]
    have : j < (headNs b).length := by rw [headNs_len]; exact hj
    simp [List.getD, this]
  have c0 : w5.cell? ⟨L, off, none⟩ = some (.int .u64 (((headNs b).getD 0 0 : Nat) : Int)) := hcl' 0 (by omega)
  have c1 := hcl' 1 (by omega)
  have c2 := hcl' 2 (by omega)
  have c3 := hcl' 3 (by omega)
  clear hi5 hcl hcl'
  have HR : Hid (headR b = if headE b = 0 then ⟨(headNs b).getD 0 0, (headNs b).getD 1 0, (headNs b).getD 3 0, headPs b⟩ else ⟨0, 0, 0, []⟩) := Lib.hid rfl
  have HPS : Hid (headPs b = (((b.data.toList.take 60).drop 19).take ((headNs b).getD 2 0)).map partB) := Lib.hid rfl
  have HOK : Hid (headOK b = (placedB (((headNs b).getD 1 0 : Nat) : Int) (headPs b) && decide (headB (((headNs b).getD 0 0 : Nat) : Int) (((headNs b).getD 1 0 : Nat) : Int) ((headNs b).getD 3 0) (headPs b) = b.data.toList))) := Lib.hid rfl
  have hb0 := headNs_0 b
  have hb1 := headNs_1 b
  have hb2 := headNs_2 b
  have hb3 := headNs_3 b
  generalize (headNs b).getD 0 0 = n0 at *
  generalize (headNs b).getD 1 0 = n1 at *
  generalize (headNs b).getD 2 0 = n2 at *
  generalize (headNs b).getD 3 0 = n3 at *
  clear HT2 HT3
  go_wp2_with fail
  refine wp_region_nf (fun x => x.cell? ⟨L, off, none⟩ = some (.int .u64 (n0 : Int)) ∧ x.cell? ⟨L, off + 1, none⟩ = some (.int .u64 (n1 : Int))) (fun _ => false) [(0, true), (1, true), (2, true), (3, true), (4, true), (5, true), (6, true), (7, true), (8, false), (9, false)] (by kernel_rfl) rfl (by kernel_rfl) (by kernel_rfl) (fun d _ _ _ _ h => by cases d <;> exact h) ?_
  have c0d : w5.drew.cell? ⟨L, off, none⟩ = some (.int .u64 (n0 : Int)) := c0
  have c1d : w5.drew.cell? ⟨L, off + 1, none⟩ = some (.int .u64 (n1 : Int)) := c1
  have c2d : w5.drew.cell? ⟨L, off + 2, none⟩ = some (.int .u64 (n2 : Int)) := c2
  have c3d : w5.drew.cell? ⟨L, off + 3, none⟩ = some (.int .u64 (n3 : Int)) := c3
  have hLd : L < w5.drew.heap.size := hL
  replace hR : Blk w5.drew w.heap.size 26 #[.int .u64 0, .int .i64 0, .slice none 0 0] := hR
  replace hbe := hbe.drew
  clear c0 c1 c2 c3 hL
  generalize w5.drew = V at *
  repeat (refine nf_pure rfl ⟨c0d, c1d⟩ (fun Y hY => by obtain ⟨e1, e2⟩ := hY; go_wp2; exact ⟨rfl, rfl, rfl⟩) rfl ?_ ?_; rfl)
  refine nf_imp rfl ?_
  go_wp2_with fail
  have hB := Blk.new V 26 #[.int .u64 0, .int .i64 0, .slice none 0 0]
  have hbV := (Below.refl V.heap.size V).alloc (Nat.le_refl _) (.cells #[.int .u64 0, .int .i64 0, .slice none 0 0] 26)
  have e0 := (hbV.cell (p := ⟨L, off, none⟩) hLd).trans c0d
  have e1 := (hbV.cell (p := ⟨L, off + 1, none⟩) hLd).trans c1d
  have e2 := (hbV.cell (p := ⟨L, off + 2, none⟩) hLd).trans c2d
  have e3 := (hbV.cell (p := ⟨L, off + 3, none⟩) hLd).trans c3d
  have hRl := hR.lt
  replace hR := hR.below hbV hRl
  replace hbe := hbe.trans (hbV.mono hbe.size)
  have hLn : L ≠ V.heap.size := by omega
  have hsz : V.heap.size < (V.alloc (.cells #[.int .u64 0, .int .i64 0, .slice none 0 0] 26)).heap.size := by simp
  clear c0d c1d c2d c3d hbV
  generalize V.alloc (.cells #[.int .u64 0, .int .i64 0, .slice none 0 0] 26) = V1 at *
  generalize V.heap.size = v1 at *
  refine ⟨fun _ => ⟨e0, e1⟩, ?_⟩
  refine nf_imp rfl ?_
  have hq := hB.cell
  have hf := hB.frozen
  go_wp2_with fail
  have hB2 := hB.set3 (.int .u64 (n0 : Int)) (.int .i64 (n1 : Int)) (.slice none 0 0)
  have hR2 : Blk (set3 V1 v1 (.int .u64 (n0 : Int)) (.int .i64 (n1 : Int)) (.slice none 0 0)) w.heap.size 26 #[.int .u64 0, .int .i64 0, .slice none 0 0] := ((hR.far (p := ⟨v1, 0, none⟩) (by dsimp only; omega) _).far (p := ⟨v1, 1, none⟩) (by dsimp only; omega) _).far (p := ⟨v1, 2, none⟩) (by dsimp only; omega) _
  have hbe2 := below_set3 hbe (Nat.le_of_lt hRl) (.int .u64 (n0 : Int)) (.int .i64 (n1 : Int)) (.slice none 0 0)
  replace e0 := (cell_set3 (g := v1) (x := .int .u64 (n0 : Int)) (y := .int .i64 (n1 : Int)) (z := .slice none 0 0) (p := ⟨L, off, none⟩) hLn).trans e0
  replace e1 := (cell_set3 (g := v1) (x := .int .u64 (n0 : Int)) (y := .int .i64 (n1 : Int)) (z := .slice none 0 0) (p := ⟨L, off + 1, none⟩) hLn).trans e1
  replace e2 := (cell_set3 (g := v1) (x := .int .u64 (n0 : Int)) (y := .int .i64 (n1 : Int)) (z := .slice none 0 0) (p := ⟨L, off + 2, none⟩) hLn).trans e2
  replace e3 := (cell_set3 (g := v1) (x := .int .u64 (n0 : Int)) (y := .int .i64 (n1 : Int)) (z := .slice none 0 0) (p := ⟨L, off + 3, none⟩) hLn).trans e3
  have hsz2 : v1 < (set3 V1 v1 (.int .u64 (n0 : Int)) (.int .i64 (n1 : Int)) (.slice none 0 0)).heap.size := by simpa [set3] using hsz
  clear hB hR hbe hq hf hsz
  unfold set3 at *
  generalize ((V1.setCell ⟨v1, 0, none⟩ (.int .u64 (n0 : Int))).setCell ⟨v1, 1, none⟩ (.int .i64 (n1 : Int))).setCell ⟨v1, 2, none⟩ (.slice none 0 0) = V2 at *
  refine ⟨fun _ => ⟨e0, e1⟩, ?_⟩
  refine nf_nil ?_
  obtain ⟨m, hm⟩ : ∃ m : Nat, min (19 + n2) 60 = m := ⟨_, rfl⟩
  have hm19 : 19 ≤ m := by omega
  have hm60 : m ≤ 60 := by omega
  have HX := Lib.hid (HT4.out m n2 hm.symm)
  have HM := Lib.hid hm
  have hmi : min (19 + (n2 : Int)) (t.size : Int) = (m : Int) := by rw [HT1.out]; omega
  have hmt : m ≤ t.size := by rw [HT1.out]; omega
  clear hm HT4
  go_wp2_with fail
  have hcs := Lib.run_convert_string_bytes (P := Try.prog) V2 9 58 5 (t.extract 19 m) Try.underlying9 Try.underlying58 Try.underlying5
  have hxl : (t.extract 19 m).size = m - 19 := by
    rw [ByteArray.size_extract, HT1.out]
    omega
  have hxl2 : (t.extract 19 m).data.toList.length = (t.extract 19 m).size := by simp; omega
  generalize t.extract 19 m = bs at *
  rw [hcs]
  have hrow := BRow.of_string V2 bs
  have hb6 := below_bytes V2 bs
  have hw6 : V2.heap.size < (Lib.bytesWorld V2 5 bs).heap.size := by rw [Lib.bytesWorld_size]; omega
  replace hR2 := hR2.below hb6 hR2.lt
  replace hB2 := hB2.below hb6 hB2.lt
  replace hbe2 := hbe2.trans (hb6.mono hbe2.size)
  replace e3 := (hb6.cell (p := ⟨L, off + 3, none⟩) (by dsimp only; omega)).trans e3
  generalize Lib.bytesWorld V2 5 bs = W6 at *
  generalize V2.heap.size = r at *
  rw [HX.out] at hrow hxl2
  clear hcs hb6 e0 e1 e2
  have HX2 := Lib.hid HPS.out
  generalize List.take n2 (List.drop 19 (List.take 60 b.data.toList)) = X at *
  generalize bs.size = q at *
  have hv := OwnP.none_ (e := 31) W6 (r + 1)
  go_wp2_with fail
  go_loopw [62] (fun i wr => ∃ (k : Nat) (v : Value), k ≤ q ∧ i = .int .i64 k ∧ Blk wr w.heap.size 26 #[.int .u64 0, .int .i64 0, .slice none 0 0] ∧ Blk wr v1 26 #[.int .u64 n0, .int .i64 n1, v] ∧ OwnP 31 wr (r + 1) v ((X.take k).map partB) ∧ BRow wr r X ∧ r < wr.heap.size ∧ wr.cell? ⟨L, off + 3, none⟩ = some (.int .u64 (n3 : Int)) ∧ Below w.heap.size w wr) (fun i _ => q - (intOf i).toNat)
  case atStart => exact ⟨0, .slice none 0 0, by omega, rfl, hR2, hB2, hv, hrow, hw6, e3, hbe2⟩
  case round =>
    obtain ⟨k, v, hk, rfl, hR3, hB3, hw, hrw, hws, e3, hbr⟩ := hrel
    clear hR2 hB2 hv hrow hw6 hbe2
    by_cases hlt : k < q
    · have hx := hrw.1 k (by rw [hxl2]; exact hlt)
      generalize hc : X[k]'(by rw [hxl2]; exact hlt) = c1 at *
      have q2 := hB3.cell 2
      have HKL := Lib.hid (show ((X.take k).map partB).length = k by rw [List.length_map, List.length_take, hxl2]; omega)
      have HKS := Lib.hid (show (X.take (k + 1)).map partB = (X.take k).map partB ++ [partB c1] by
        rw [List.take_add_one]
        have e : X[k]? = some c1 := by rw [List.getElem?_eq_getElem (by rw [hxl2]; exact hlt), hc]
        rw [e]; simp)
      obtain ⟨A', c', rfl, hc', hcm'⟩ := hw.shape
      rw [HKL.out] at hc' hw hB3 q2
      unfold bc at hx
      have HPB : Hid (partB c1 = ⟨((c1.toNat / 4 : Nat) : Int), ((c1.toNat % 4 : Nat) : Int), ⟨#[]⟩⟩) := Lib.hid rfl
      rw [HPB.out] at HKS
      clear HPB
      have hcl : c1.toNat < 256 := c1.toNat_lt
      generalize c1.toNat = c2 at *
      have hm1 := and_3 c2 hcl
      obtain ⟨d, hd⟩ : ∃ d : Nat, c2 / 4 = d := ⟨_, rfl⟩
      obtain ⟨md, hmd⟩ : ∃ md : Nat, c2 % 4 = md := ⟨_, rfl⟩
      have hd1 : (c2 : Int) / 4 = (d : Int) := by omega
      have hd64 : d < 64 := by omega
      have hm4 : md < 4 := by omega
      rw [hd, hmd] at HKS
      rw [hmd] at hm1
      clear hd hmd
      have hPL := PartsA.lit (w0 := wr) (g := wr.heap.size) (t := 31) (p := ⟨(d : Int), (md : Int), ⟨#[]⟩⟩) rfl
      dsimp only at hPL
      have HLK := Lib.hid (show ((X.take (k + 1)).map partB).length = k + 1 by rw [List.length_map, List.length_take, hxl2]; omega)
      have HB5 := Lib.hid (fun (W Y : World) (hg : W.grownBy Y (Value.slice A' k c').ownBlock) (hW : Blk W v1 26 #[.int .u64 n0, .int .i64 n1, .slice A' k c']) => (show Blk Y v1 26 #[.int .u64 n0, .int .i64 n1, .slice A' k c'] from (hg.block _ hW.lt (fun e => by
        have := (hw.lt v1 e.symm).1
        omega)).trans hW))
      go_wp2_with (at_builtin; refine wp_appP 24 31 Try.underlying24 info_part rfl (.tmp 67) (.tmp 75) rfl (r + 1) _ _ (hw.alloc _) rfl _ 1 1 _ rfl hPL (fun h => by cases h) ?c1 ?c2 ?_; (case c1 => rw [HKL.out]; omega); (case c2 => simp; omega); intro v5 w5' hv5 hg5 hb5 ha5; rw [← HKS.out] at hv5; obtain ⟨A5, c5, rfl, hc5, hcm5⟩ := hv5.shape; rw [HLK.out] at hv5 hc5 ⊢; have hB5 := HB5.out _ _ hg5 (hB3.alloc _); have q5 := hB5.cell; have f5 := hB5.frozen)
      have hbl5 := ((Below.refl (r + 1) wr).alloc (by omega) (.cells #[.int .i64 (d : Int), .int .i64 (md : Int), .string ⟨#[]⟩] 31)).trans hb5
      have hR6 := (hR3.below hbl5 (by omega)).far (p := ⟨v1, 2, none⟩) (by dsimp only; omega) (.slice A5 (k + 1 : Nat) c5)
      have hB6 := hB5.set_ 2 (.slice A5 (k + 1 : Nat) c5)
      have hrw6 := (hrw.below' hbl5 (by omega)).far (p := ⟨v1, 2, none⟩) (by dsimp only; omega) (.slice A5 (k + 1 : Nat) c5)
      have hv6 := hv5.far (p := ⟨v1, 2, none⟩) (fun e => by have := (hv5.lt _ e.symm).1; dsimp only at this; omega) (.slice A5 (k + 1 : Nat) c5)
      have hbe6 := (hbr.trans (hbl5.mono (by omega))).setCell (p := ⟨v1, 2, none⟩) (by dsimp only; omega) (.slice A5 (k + 1 : Nat) c5)
      have e36 := (World.cell?_setCell_other w5' ⟨v1, 2, none⟩ ⟨L, off + 3, none⟩ (.slice A5 (k + 1 : Nat) c5) (fun e => by cases e)).trans ((hbl5.cell (p := ⟨L, off + 3, none⟩) (by dsimp only; omega)).trans e3)
      have hws6 : r < (w5'.setCell ⟨v1, 2, none⟩ (.slice A5 (k + 1 : Nat) c5)).heap.size := by
        have := hbl5.size
        simp
        omega
      go_roundw
      case rel => exact ⟨k + 1, .slice A5 (k + 1 : Nat) c5, by omega, by go_num, hR6, hB6, hv6, hrw6, hws6, e36, hbe6⟩
      case measure => simp [intOf]; go_num
    · obtain rfl : k = q := by omega
      rw [List.take_of_length_le (by omega), ← HPS.out] at hw
      obtain ⟨A', c', rfl, hc', hcm'⟩ := hw.shape
      have HPL := Lib.hid (show (headPs b).length = k by rw [HPS.out, List.length_map, hxl2])
      rw [HPL.out] at hw hc' hB3
      have hq := hB3.cell
      have hk41 : k ≤ 41 := by omega
      have hge : ¬ k < m - 19 := by omega
      clear hxl hmi hmt hm60 hm19
      have hp : PartsA wr wr.heap.size A' k (headPs b) := hw.parts
      have HW := Lib.hid (hw.base (show w.heap.size ≤ r + 1 by omega))
      have HPC := Lib.hid (fun V (h : PartsA V V.heap.size A' k (headPs b)) => placed_any V n0 n1 A' k c' (headPs b) h (by unfold maxLen; omega))
      go_wp2_with fail
      refine (HPC.out _ hp).mono ?_
      rintro e W7 ⟨rfl, hb7⟩
      by_cases hpl : placedB (n1 : Int) (headPs b) = true
      · rw [hpl]
        have hp7 := (hp.below hb7).mono hb7.size
        have hB7 := hB3.below hb7 hB3.lt
        have hR7 := hR3.below hb7 hR3.lt
        have hq7 := hB7.cell
        have hbe7 := hbr.trans (hb7.mono hbr.size)
        go_wp2_with fail
        refine (head_any _ n0 n1 A' k c' (headPs b) n3 hp7 hpl (by omega) (by omega)).mono ?_
        rintro e W8 ⟨rfl, hb8⟩
        replace hbe7 := hbe7.trans (hb8.mono hbe7.size)
        have hB8 := hB7.below hb8 hB7.lt
        have hR8 := hR7.below hb8 hR7.lt
        have hw8 := ((hw.below hb7).below hb8).base (show w.heap.size ≤ r + 1 by omega)
        have HNB := Lib.hid (fun (e : some w.heap.size = (Value.slice A' (k : Nat) c').ownBlock) => show False by
          have := (hw.lt _ e.symm).1
          omega)
        have hqb := hB8.cell
        have hqr := hR8.cell
        have hfr := hR8.frozen
        by_cases heq : headB (n0 : Int) (n1 : Int) n3 (headPs b) = b.data.toList
        · have hok : headE b = 0 := by rw [HE.out, HOK.out, hpl, heq]; simp
          have HZ := Lib.hid hok
          have hbb : (⟨(headB (n0 : Int) (n1 : Int) n3 (headPs b)).toArray⟩ : ByteArray) = b := by rw [heq]
          rw [hbb]
          have HRR : Hid (headR b = ⟨n0, n1, n3, headPs b⟩) := Lib.hid (by rw [HR.out, if_pos HZ.out])
          clear hok heq hbb hb7 hb8 hp hp7 hq hq7
          go_wp2_with fail
          refine bodyPost_ret (hdRet _ _ _ _ 0 _ _ _ _ (hR8.set3 _ _ _) Try.results16) rfl ⟨A', c', ?_, ?_, below_set3 hbe7 (Nat.le_refl _) _ _ _⟩
          · rw [HZ.out, HRR.out]; dsimp only; rw [HPL.out]; rfl
          · rw [HRR.out]; dsimp only; rw [HPL.out]
            exact ((hw8.far (fun e => HNB.out e) _).far (fun e => HNB.out e) _).far (fun e => HNB.out e) _
        · have HZ : Hid (headE b = 1) := Lib.hid (by rw [HE.out, HOK.out, hpl, decide_eq_false heq]; rfl)
          have hbb : ((⟨(headB (n0 : Int) (n1 : Int) n3 (headPs b)).toArray⟩ : ByteArray).toList == b.toList) = false := by
            rw [beq_eq_false_iff_ne, Lib.toList_data, Lib.toList_data]
            simpa using heq
          have HRR : Hid (headR b = ⟨0, 0, 0, []⟩) := Lib.hid (by rw [HR.out, HZ.out]; rfl)
          clear heq hb7 hb8 hp hp7 hq hq7
          generalize (⟨(headB (n0 : Int) (n1 : Int) n3 (headPs b)).toArray⟩ : ByteArray) = H at *
          go_wp2_with fail
          rw [HZ.out, HRR.out]
          exact bodyPost_ret (hdRet 0 0 _ 0 1 _ _ _ _ (hR8.set3 _ _ _) Try.results16) rfl ⟨none, 0, rfl, ⟨rfl, Or.inl ⟨rfl, rfl⟩⟩, below_set3 hbe7 (Nat.le_refl _) _ _ _⟩
      · rw [Bool.not_eq_true] at hpl
        rw [hpl]
        have hR7 := hR3.below hb7 hR3.lt
        have hbe7 := hbr.trans (hb7.mono hbr.size)
        have hq7 := hR7.cell
        have hf7 := hR7.frozen
        have hok : headE b = 1 := by rw [HE.out, HOK.out, hpl]; rfl
        have HZ := Lib.hid hok
        have HRR : Hid (headR b = ⟨0, 0, 0, []⟩) := Lib.hid (by rw [HR.out, hok]; rfl)
        clear hok hb7 hp hq
        go_wp2_with fail
        rw [HZ.out, HRR.out]
        exact bodyPost_ret (hdRet 0 0 _ 0 1 _ _ _ _ (hR7.set3 _ _ _) Try.results16) rfl ⟨none, 0, rfl, ⟨rfl, Or.inl ⟨rfl, rfl⟩⟩, below_set3 hbe7 (Nat.le_refl _) _ _ _⟩
theorem head12_any (w : World) (b : ByteArray) :
    Calls Try.prog 16 #[.string b] w (HdPost w (headE b) (headR b)) := by
  have hr : headE b ≠ 0 → headR b = ⟨0, 0, 0, []⟩ := fun h => by unfold headR; rw [if_neg h]
  by_cases h : b.size = 64
  · by_cases ho : openB b.data.toList = true
    · by_cases hm : headM b = true
      · exact head12_open w b h ho hm
      · rw [Bool.not_eq_true] at hm
        have he : headE b = 81 := by unfold headE; rw [if_pos h, ho, if_pos rfl, hm]; rfl
        rw [hr (by rw [he]; decide), he]
        exact head12_magic w b h ho hm
    · rw [Bool.not_eq_true] at ho
      have he : headE b = 80 := by unfold headE; rw [if_pos h, ho]; rfl
      rw [hr (by rw [he]; decide), he]
      exact head12_sum w b h ho
  · have he : headE b = 31 := by unfold headE; rw [if_neg h]
    rw [hr (by rw [he]; decide), he]
    exact head12_short w b h
end Go.Proofs.Ythpehdmffleobaa

