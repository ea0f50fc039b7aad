/- The document's head of a record, and its Encode. -/
import Derived.Test.YthpehdmffleobaaRcRf1
import Derived.Test.YthpehdmffleobaaRcPlain
import Derived.Test.YthpehdmffleobaaRcHeads
import Derived.Test.YthpehdmffleobaaPRef
import Derived.Test.YthpehdmffleobaaCRef
namespace Go.Proofs.Ythpehdmffleobaa
open Go.RowKit Go.OpenShut

theorem sealS_64 (l : List UInt8) (h : l.length ≤ 60) : sealS ⟨l.toArray⟩ 64 = ⟨(sealL l 60).toArray⟩ := by
  unfold sealS
  rw [sealB_yes (by rw [size_mk]; omega), if_pos rfl, list_mk]
  rfl
theorem pByte_nat2 (a b : Nat) (ha : a < 10) (hb : b < 4) (d : ByteArray) : ((4 * a + b : Nat) : Int) = ((pByte ⟨(a : Int), (b : Int), d⟩).toNat : Int) := by
  rw [← pByte_nat a b ha hb d]
  omega
set_option maxRecDepth 8000 in
set_option maxHeartbeats 4000000 in
theorem refHd_any (w : World) (seq row : Int) (A : Option Addr) (n c : Nat) (ps : List Prt) (sum : Nat) (h : PartsA w w.heap.size A n ps) (hp : placedB row ps = true) (hs : 0 ≤ seq ∧ seq < 18446744073709551616) (hsum : sum < 4294967296) :
    Calls Try.prog 29 #[recV seq row A n c, .int .u32 sum] w fun e w' => e = .returned (.string ⟨(headB seq row sum ps).toArray⟩) ∧ Below w.heap.size w w' := by
  unfold recV
  obtain ⟨r0, r1, n1, n40, hpf⟩ := placed_row hp
  have HL := Lib.hid h.1
  have HALL := Lib.hid (placedF_all ps [] hpf)
  rw [HL.out] at n1 n40
  obtain ⟨hE, hEl⟩ := enc4 seq row n sum hs ⟨r0, r1⟩ n40 hsum
  have HFL := Lib.hid (headF_len seq row n sum hs ⟨r0, r1⟩ n40 hsum)
  have HE := Lib.hid hE
  have hEz : (⟨(encL [seq, row, (n : Int), (sum : Int)] [8, 2, 1, 4]).toArray⟩ : ByteArray).size ≤ 15 := by rw [size_mk, hEl]; exact Nat.le_refl _
  have HFE : Hid ((⟨#[82, 86, 84, 74]⟩ : ByteArray) ++ ⟨(encL [seq, row, (n : Int), (sum : Int)] [8, 2, 1, 4]).toArray⟩ = ⟨(headF seq row n sum).toArray⟩) := Lib.hid (by
    apply ByteArray.ext
    apply Array.toList_inj.1
    simp [headF])
  obtain ⟨hs0, hs1⟩ := hs
  clear hp hpf hE hEl
  go_enter Try.func29, Try.ntmps29
  go_wp2_with fail
  have hR := Blk.new w 41 #[.int .u64 seq, .int .i64 row, .slice A n c]
  have hbe := (Below.refl w.heap.size w).alloc (Nat.le_refl _) (.cells #[.int .u64 seq, .int .i64 row, .slice A n c] 41)
  have hz0 : (w.alloc (.cells #[.int .u64 seq, .int .i64 row, .slice A n c] 41)).heap.size = w.heap.size + 1 := by simp
  generalize w.alloc (.cells #[.int .u64 seq, .int .i64 row, .slice A n c] 41) = W0 at *
  have n1' := Blk.new W0 22 #[.int .u64 seq, .int .u64 row, .int .u64 n, .int .u64 sum]
  have al1 := (Below.refl W0.heap.size W0).alloc (Nat.le_refl _) (.cells #[.int .u64 seq, .int .u64 row, .int .u64 n, .int .u64 sum] 22)
  have hz1 : (W0.alloc (.cells #[.int .u64 seq, .int .u64 row, .int .u64 n, .int .u64 sum] 22)).heap.size = w.heap.size + 1 + 1 := by simp; omega
  rw [hz0] at n1'
  generalize W0.alloc (.cells #[.int .u64 seq, .int .u64 row, .int .u64 n, .int .u64 sum] 22) = W1 at *
  have n2' := Blk.new W1 3 #[.int .i64 8, .int .i64 2, .int .i64 1, .int .i64 4]
  have al2 := (Below.refl W1.heap.size W1).alloc (Nat.le_refl _) (.cells #[.int .i64 8, .int .i64 2, .int .i64 1, .int .i64 4] 3)
  rw [hz1] at n2'
  replace n1' := n1'.below al2 n1'.lt
  have al3 := al1.trans (al2.mono al1.size)
  replace hbe := hbe.trans (al3.mono hbe.size)
  replace hR := hR.below al3 hR.lt
  generalize W1.alloc (.cells #[.int .i64 8, .int .i64 2, .int .i64 1, .int .i64 4] 3) = W2 at *
  clear al1 al2 al3 hz0 hz1
  refine (refEncode_any W2 _ _ 4 4 4 4 [seq, row, (n : Int), (sum : Int)] [8, 2, 1, 4] (IntsA.blk n1' rfl n1'.lt) (IntsA.blk n2' rfl n2'.lt) (by simp only [List.mem_cons, List.not_mem_nil, or_false]; rintro x (rfl | rfl | rfl | rfl) <;> omega)).mono ?_
  rintro e W3 ⟨rfl, hb3⟩
  rw [HE.out]
  replace hbe := hbe.trans (hb3.mono hbe.size)
  replace hR := hR.below hb3 hR.lt
  clear hb3 n1' n2'
  generalize (⟨(encL [seq, row, (n : Int), (sum : Int)] [8, 2, 1, 4]).toArray⟩ : ByteArray) = EE at *
  have hq := hR.cell
  go_wp2_with fail
  rw [HFE.out]
  have hHF : (⟨(headF seq row n sum).toArray⟩ : ByteArray).size = 19 := by rw [size_mk, HFL.out]
  have HSF := Lib.hid hHF
  clear hHF hq
  have HSTR : Hid (∀ k, (⟨(headF seq row n sum ++ (ps.take k).map pByte).toArray⟩ : ByteArray).size = 19 + min k n) := Lib.hid (fun k => by rw [size_mk, List.length_append, HFL.out, List.length_map, List.length_take, HL.out])
  have H0 : Hid ((⟨(headF seq row n sum).toArray⟩ : ByteArray) = ⟨(headF seq row n sum ++ (ps.take 0).map pByte).toArray⟩) := Lib.hid (by simp)
  go_loopw [7, 8] (fun s i wr => ∃ k : Nat, k ≤ n ∧ i = .int .i64 k ∧ s = .string ⟨(headF seq row n sum ++ (ps.take k).map pByte).toArray⟩ ∧ Blk wr w.heap.size 41 #[.int .u64 seq, .int .i64 row, .slice A n c] ∧ Below w.heap.size w wr) (fun _ i _ => n - (intOf i).toNat)
  case atStart => exact ⟨0, by omega, rfl, congrArg Value.string H0.out, hR, hbe⟩
  case round =>
    obtain ⟨k, hk, rfl, rfl, hRr, hbr⟩ := hrel
    clear hR hbe
    by_cases hlt : k < n
    · obtain ⟨b, o, rfl, hb, hc⟩ := h.2 (by omega)
      have HC := Lib.hid (fun (Y : World) (hY : Below w.heap.size w Y) => (hc k hlt).below hY hb)
      have hall := HALL.out (ps.getD k prt0) (by simp [List.getD, show k < ps.length by rw [HL.out]; exact hlt])
      have HT := Lib.hid (show (ps.take (k + 1)).map pByte = (ps.take k).map pByte ++ [pByte (ps.getD k prt0)] by
        rw [take_succP ps k (by rw [HL.out]; exact hlt)]; simp)
      have HSZ := HSTR.out k
      generalize ps.getD k prt0 = p at *
      obtain ⟨pc, po, pd⟩ := p
      dsimp only at hall
      obtain ⟨a0, a1, a2, a3⟩ := hall
      obtain ⟨pc, rfl⟩ := Int.eq_ofNat_of_zero_le a0
      obtain ⟨po, rfl⟩ := Int.eq_ofNat_of_zero_le a2
      have HBY := Lib.hid (pByte_nat2 pc po (by omega) (by omega) pd)
      generalize hyy : pByte ⟨(pc : Int), (po : Int), pd⟩ = y at *
      obtain ⟨z, hz⟩ : ∃ z : Nat, 4 * pc + po = z := ⟨_, rfl⟩
      rw [hz] at HBY
      have hz2 : 4 * (pc : Int) + (po : Int) = (y.toNat : Int) := by rw [← HBY.out]; omega
      have hy256 : y.toNat < 256 := y.toNat_lt
      have hzm : (y.toNat : Int) % 256 = (y.toNat : Int) := by omega
      have HAP : Hid ((⟨(headF seq row n sum ++ (ps.take k).map pByte).toArray⟩ : ByteArray) ++ ⟨#[y]⟩ = ⟨(headF seq row n sum ++ (ps.take (k + 1)).map pByte).toArray⟩) := Lib.hid (by
        rw [HT.out]
        apply ByteArray.ext
        apply Array.toList_inj.1
        simp)
      have hsz' : (⟨(headF seq row n sum ++ (ps.take k).map pByte).toArray⟩ : ByteArray).size ≤ 60 := by rw [HSZ]; omega
      generalize (⟨(headF seq row n sum ++ (ps.take k).map pByte).toArray⟩ : ByteArray) = s at *
      clear hc HSZ hz hyy
      have q2 := hRr.cell 2
      have hki : (k : Int) < (n : Int) := by omega
      go_wp2_with fail
      refine wp_region_nf (fun Y => Below w.heap.size w Y ∧ Y.cell? ⟨w.heap.size, 2, none⟩ = some (.slice (some ⟨b, o, none⟩) n c)) (fun _ => false) [(0, true), (1, true), (2, true), (3, true), (4, true), (5, true), (6, true), (7, true), (8, true), (9, true), (10, true), (11, true), (12, true), (13, true), (14, true), (15, true), (16, false), (17, false), (18, true), (19, true)] (by kernel_rfl) rfl (by kernel_rfl) (by kernel_rfl) (fun d _ _ _ _ h => by cases d <;> exact h) ?_
      have hbd := hbr.drew
      have hR2 : Blk wr.drew w.heap.size 41 _ := hRr
      clear hRr hbr q2
      generalize wr.drew = V at *
      repeat (refine nf_pure rfl ⟨hbd, hR2.cell 2⟩ (fun Y hY => by obtain ⟨hY1, hY2⟩ := hY; obtain ⟨g1, g2, g3⟩ := HC.out Y hY1; clear hY1; go_wp2; exact ⟨rfl, rfl, rfl⟩) rfl ?_ ?_; rfl)
      refine nf_imp rfl ?_
      go_wp2_with fail
      have hN2 := Blk.new V 5 #[.int .u8 (y.toNat : Int)]
      have hal := (Below.refl V.heap.size V).alloc (Nat.le_refl _) (.cells #[.int .u8 (y.toNat : Int)] 5)
      have hR3 := hR2.below hal hR2.lt
      have hbe3 := hbd.trans (hal.mono hbd.size)
      clear hal hR2 hbd
      generalize V.alloc (.cells #[.int .u8 (y.toNat : Int)] 5) = V1 at *
      refine ⟨fun _ => ⟨hbe3, hR3.cell 2⟩, ?_⟩
      refine nf_imp rfl ?_
      have hcv : (convert 58 9 (.slice (some ⟨V.heap.size, 0, none⟩) 1 1)).run Try.prog V1 = .ok (.string ⟨#[y]⟩) V1 :=
        conv_cells (l := [y]) (w := V1) (b := V.heap.size) (off := 0) (fun i hi => by
          have : i = 0 := by simpa using hi
          subst this
          exact hN2.cell 0)
      go_wp2_with fail
      clear hcv hN2
      refine ⟨fun _ => ⟨hbe3, hR3.cell 2⟩, ?_⟩
      repeat (refine nf_pure rfl ⟨hbe3, hR3.cell 2⟩ (fun Y hY => by clear hY; go_wp2; exact ⟨rfl, rfl, rfl⟩) rfl ?_ ?_; rfl)
      refine nf_nil ?_
      clear hz2 hzm
      rw [HAP.out]
      go_wp2_with fail
      go_roundw
      case rel => exact ⟨k + 1, by omega, by go_num, rfl, hR3, hbe3⟩
      case measure => simp [intOf]; go_num
    · obtain rfl : k = n := by omega
      have q2 := hRr.cell 2
      have hHL : headF seq row k sum ++ (ps.take k).map pByte = headL seq row sum ps := by
        rw [List.take_of_length_le (by rw [HL.out]; exact Nat.le_refl _)]
        unfold headL
        rw [HL.out]
      have HHL := Lib.hid hHL
      have hlen : (headL seq row sum ps).length ≤ 60 := by
        have := HSTR.out k
        rw [size_mk, HHL.out] at this
        omega
      have HSS := Lib.hid (sealS_64 _ hlen)
      have HBB : Hid ((⟨(headB seq row sum ps).toArray⟩ : ByteArray) = sealS ⟨(headL seq row sum ps).toArray⟩ 64) := Lib.hid (by rw [HSS.out]; rfl)
      rw [HHL.out]
      generalize (⟨(headL seq row sum ps).toArray⟩ : ByteArray) = s at *
      clear hHL hlen
      go_wp2_with fail
      refine (refSeal_any _ s 64).mono ?_
      rintro e W5 ⟨rfl, hb5⟩
      go_wp2_with fail
      go_ret
      exact ⟨by rw [HBB.out]; rfl, hbr.trans (hb5.mono hbr.size)⟩
end Go.Proofs.Ythpehdmffleobaa
