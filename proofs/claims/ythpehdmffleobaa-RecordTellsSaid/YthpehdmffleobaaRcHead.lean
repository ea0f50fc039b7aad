/- a record's head. -/
import Derived.Test.YthpehdmffleobaaRcPacked
import Derived.Test.YthpehdmffleobaaRcPlaced
import Derived.Test.YthpehdmffleobaaBld
import Derived.Test.YthpehdmffleobaaCOpen
import Derived.Test.YthpehdmffleobaaShelf
namespace Go.Proofs.Ythpehdmffleobaa
open Go.RowKit Go.OpenShut

def pByte (p : Prt) : UInt8 := UInt8.ofNat (4 * p.col + p.off).toNat
def headF (seq row : Int) (n sum : Nat) : List UInt8 := [82, 86, 84, 74] ++ encL [seq, row, (n : Int), (sum : Int)] [8, 2, 1, 4]
def headL (seq row : Int) (sum : Nat) (ps : List Prt) : List UInt8 := headF seq row ps.length sum ++ ps.map pByte
def headB (seq row : Int) (sum : Nat) (ps : List Prt) : List UInt8 := sealL (headL seq row sum ps) 60
theorem enc4 (seq row : Int) (n sum : Nat) (h1 : 0 ≤ seq ∧ seq < 18446744073709551616) (h2 : 0 ≤ row ∧ row < 256) (h3 : n ≤ 40) (h4 : sum < 4294967296) :
    encS [seq, row, (n : Int), (sum : Int)] [8, 2, 1, 4] = ⟨(encL [seq, row, (n : Int), (sum : Int)] [8, 2, 1, 4]).toArray⟩ ∧ (encL [seq, row, (n : Int), (sum : Int)] [8, 2, 1, 4]).length = 15 := by
  have hw : wOK [8, 2, 1, 4] = true := by decide
  have hf : allFit [seq, row, (n : Int), (sum : Int)] [8, 2, 1, 4] = true := by
    unfold allFit
    simp only [List.length_cons, List.length_nil, List.range_succ, List.range_zero, List.nil_append, List.cons_append, List.all_cons, List.all_nil, Bool.and_true, Bool.and_eq_true, List.getD_cons_zero, List.getD_cons_succ]
    refine ⟨?_, ?_, ?_, ?_⟩ <;> (unfold fitsB; simp only [Bool.and_eq_true, decide_eq_true_eq]; refine ⟨by decide, ?_⟩)
    · show seq.toNat < 256 ^ 8; omega
    · show row.toNat < 256 ^ 2; omega
    · show n < 256 ^ 1; omega
    · show sum < 256 ^ 4; omega
  obtain ⟨h5, h6⟩ := enc_ok (ls := [seq, row, (n : Int), (sum : Int)]) hw rfl hf
  have h7 := encS_size (ls := [seq, row, (n : Int), (sum : Int)]) hw rfl hf
  rw [h6] at h7
  refine ⟨h6, ?_⟩
  have h8 : (ByteArray.mk (encL [seq, row, (n : Int), (sum : Int)] [8, 2, 1, 4]).toArray).size = (encL [seq, row, (n : Int), (sum : Int)] [8, 2, 1, 4]).length := by show Array.size _ = _; simp
  rw [h8] at h7
  have h9 : sumW [8, 2, 1, 4] = 15 := by decide
  omega
theorem headF_len (seq row : Int) (n sum : Nat) (h1 : 0 ≤ seq ∧ seq < 18446744073709551616) (h2 : 0 ≤ row ∧ row < 256) (h3 : n ≤ 40) (h4 : sum < 4294967296) : (headF seq row n sum).length = 19 := by
  unfold headF
  rw [List.length_append, (enc4 seq row n sum h1 h2 h3 h4).2]
  rfl
theorem placed_row {row : Int} {ps : List Prt} (h : placedB row ps = true) : 0 ≤ row ∧ row < 256 ∧ 1 ≤ ps.length ∧ ps.length ≤ 40 ∧ placedF [] ps = true := by
  unfold placedB at h
  simp only [Bool.and_eq_true, decide_eq_true_eq] at h
  exact ⟨h.1.1.1.1, h.1.1.1.2, h.1.1.2, h.1.2, h.2⟩
theorem placedF_all : ∀ (ps : List Prt) (l : List (Int × Int)), placedF l ps = true → ∀ p ∈ ps, 0 ≤ p.col ∧ p.col < 10 ∧ 0 ≤ p.off ∧ p.off < 4
  | [], _, _, p, hp => by cases hp
  | q :: ps, l, h, p, hp => by
    rw [placedF] at h
    simp only [Bool.and_eq_true, placeOk, decide_eq_true_eq] at h
    rcases List.mem_cons.1 hp with rfl | hp
    · exact ⟨h.1.1.1.1.1, h.1.1.1.1.2, h.1.1.1.2, h.1.1.2⟩
    · exact placedF_all ps _ h.2 p hp
theorem bld_alloc {T e : TypeId} {B b : Nat} {p : Value} {bs : List Value} {w : World} (h : Lib.BuilderAt T e B b p bs w) (o : Obj) : Lib.BuilderAt T e B b p bs (w.alloc o) := by
  have hlt := h.lt
  obtain ⟨hB, v, hb, hown, hne⟩ := h
  exact ⟨hB, v, (Below.heap_alloc w o b hlt).trans hb, hown.alloc o, hne⟩
theorem bld_below {T e : TypeId} {B b : Nat} {p : Value} {bs : List Value} {w w' : World} (h : Lib.BuilderAt T e B b p bs w) (hb' : Below w.heap.size w w') : Lib.BuilderAt T e B b p bs w' := by
  have hlt := h.lt
  obtain ⟨hB, v, hb, hown, hne⟩ := h
  refine ⟨hB, v, (hb'.block b hlt).trans hb, ?_, hne⟩
  obtain ⟨h1, h2⟩ := hown
  refine ⟨h1, ?_⟩
  rcases h2 with h2 | ⟨g, cap, cur, hv, hg, hh, r⟩
  · exact Or.inl h2
  · refine Or.inr ⟨g, cap, cur, hv, hg, ?_, r⟩
    have hgl : g < w.heap.size := by
      rcases Nat.lt_or_ge g w.heap.size with hlt | hge
      · exact hlt
      · rw [Array.getElem?_eq_none hge] at hh; cases hh
    rw [hb'.block g hgl]; exact hh
theorem bld_new (w : World) (B : Nat) (hB : B ≤ w.heap.size) : Lib.IsBuilder 80 5 B w.heap.size [] (w.alloc (.cells #[.pointer none, .slice none 0 0] 80)) :=
  Or.inl ⟨hB, .slice none 0 0, heap_alloc_new w _, World.ownsRow_nil _ _ _ _, by simp [Value.ownBlock]⟩
theorem byteCells_app (l m : List UInt8) : Lib.byteCells (l ++ m) = Lib.byteCells l ++ Lib.byteCells m := by simp [Lib.byteCells]

theorem or_small : ∀ a, a < 10 → ∀ b, b < 4 → bits BinOp.or IntKind.i64 (((a : Nat) : Int) * 4) ((b : Nat) : Int) = (((4 * a + b : Nat)) : Int) := by decide +kernel
theorem pByte_nat (a b : Nat) (ha : a < 10) (hb : b < 4) (d : ByteArray) : (((4 * a + b : Nat)) : Int) % 256 = ((pByte ⟨(a : Int), (b : Int), d⟩).toNat : Int) := by
  unfold pByte
  dsimp only
  have e : (4 * (a : Int) + (b : Int)).toNat = 4 * a + b := by omega
  rw [e, UInt8.toNat_ofNat']
  omega
set_option maxHeartbeats 4000000 in
theorem head_any (w : World) (seq row : Int) (A : Option Addr) (n c : Nat) (ps : List Prt) (sum : Nat) (h : PartsA w w.heap.size A n ps) (hp : placedB row ps = true) (hs : 0 ≤ seq ∧ seq < 18446744073709551616) (hsum : sum < 4294967296) :
    Calls Try.prog 26 #[recV seq row A n c, .int .u32 sum] w fun e w' => e = .returned (.string ⟨(headB seq row sum ps).toArray⟩) ∧ Below w.heap.size w w' := by
  unfold recV
  obtain ⟨r0, r1, n1, n40, hpf⟩ := placed_row hp
  have HL := Lib.hid h.1
  have HALL := Lib.hid (placedF_all ps [] hpf)
  rw [HL.out] at n1 n40
  obtain ⟨hE, hEl⟩ := enc4 seq row n sum hs ⟨r0, r1⟩ n40 hsum
  have HFL := Lib.hid (headF_len seq row n sum hs ⟨r0, r1⟩ n40 hsum)
  have HE := Lib.hid hE
  clear hp hpf hE hEl
  go_enter Try.func26, Try.ntmps26
  go_wp2_with fail
  have hR := (Blk.new w 26 #[.int .u64 seq, .int .i64 row, .slice A n c]).alloc (.cells #[.pointer none, .slice none 0 0] 80)
  have hbe := ((Below.refl w.heap.size w).alloc (Nat.le_refl _) (.cells #[.int .u64 seq, .int .i64 row, .slice A n c] 26)).alloc (by simp) (.cells #[.pointer none, .slice none 0 0] 80)
  have hB := bld_new (w.alloc (.cells #[.int .u64 seq, .int .i64 row, .slice A n c] 26)) (w.heap.size + 1) (by simp)
  have hz : (w.alloc (.cells #[.int .u64 seq, .int .i64 row, .slice A n c] 26)).heap.size = w.heap.size + 1 := by simp
  have hws : w.heap.size + 1 ≤ ((w.alloc (.cells #[.int .u64 seq, .int .i64 row, .slice A n c] 26)).alloc (.cells #[.pointer none, .slice none 0 0] 80)).heap.size := by simp
  rw [hz] at hB
  generalize (w.alloc (.cells #[.int .u64 seq, .int .i64 row, .slice A n c] 26)).alloc (.cells #[.pointer none, .slice none 0 0] 80) = W0 at *
  clear hz
  refine (writeString_any (w.heap.size + 1) (w.heap.size + 1) [] ⟨#[82, 86, 84, 74]⟩ W0 hB (by decide) hws).mono ?_
  rintro e W1 ⟨rfl, hB1, hb1⟩
  replace hR := hR.below hb1 (by omega)
  replace hbe := hbe.trans (hb1.mono (by omega))
  replace hws := Nat.le_trans hws hb1.size
  clear hB hb1
  have q0 := hR.cell 0
  have q1 := hR.cell 1
  have q2 := hR.cell 2
  go_wp2_with fail
  have hN := Blk.new W1 22 #[.int .u64 seq, .int .u64 8, .int .u64 row, .int .u64 2, .int .u64 n, .int .u64 1, .int .u64 sum, .int .u64 4]
  have hal := (Below.refl W1.heap.size W1).alloc (Nat.le_refl _) (.cells #[.int .u64 seq, .int .u64 8, .int .u64 row, .int .u64 2, .int .u64 n, .int .u64 1, .int .u64 sum, .int .u64 4] 22)
  replace hR := hR.below hal hR.lt
  replace hB1 := bld_below hB1 hal
  replace hbe := hbe.trans (hal.mono hbe.size)
  replace hws := Nat.le_trans hws hal.size
  clear hal q0 q1 q2
  have hNl := hN.lt
  generalize hg8 : W1.heap.size = g8 at *
  generalize W1.alloc (.cells #[.int .u64 seq, .int .u64 8, .int .u64 row, .int .u64 2, .int .u64 n, .int .u64 1, .int .u64 sum, .int .u64 4] 22) = W2 at *
  refine (packed_any W2 g8 0 8 8 4 [seq, 8, row, 2, (n : Int), 1, (sum : Int), 4] rfl (by omega) rfl hNl (fun j hj => by
    rw [Nat.zero_add, hN.cell j]
    match j, hj with
    | 0, _ => rfl
    | 1, _ => rfl
    | 2, _ => rfl
    | 3, _ => rfl
    | 4, _ => rfl
    | 5, _ => rfl
    | 6, _ => rfl
    | 7, _ => rfl) (by simp only [List.mem_cons, List.not_mem_nil, or_false]; rintro x (rfl | rfl | rfl | rfl | rfl | rfl | rfl | rfl) <;> omega)
    (fun j hj => by
    match j, hj with
    | 0, _ => show (8 : Int) < _; omega
    | 1, _ => show (2 : Int) < _; omega
    | 2, _ => show (1 : Int) < _; omega
    | 3, _ => show (4 : Int) < _; omega)).mono ?_
  rintro e W3 ⟨rfl, hb3⟩
  rw [show evL [seq, 8, row, 2, (n : Int), 1, (sum : Int), 4] 4 = [seq, row, (n : Int), (sum : Int)] from rfl, show odL [seq, 8, row, 2, (n : Int), 1, (sum : Int), 4] 4 = [8, 2, 1, 4] from rfl, HE.out]
  replace hR := hR.below hb3 hR.lt
  replace hB1 := bld_below hB1 hb3
  replace hbe := hbe.trans (hb3.mono hbe.size)
  replace hws := Nat.le_trans hws hb3.size
  clear hb3 hN hNl hg8
  go_wp2_with fail
  have hEL := (enc4 seq row n sum hs ⟨r0, r1⟩ n40 hsum).2
  have hF : headF seq row n sum = [82, 86, 84, 74] ++ encL [seq, row, (n : Int), (sum : Int)] [8, 2, 1, 4] := rfl
  generalize encL [seq, row, (n : Int), (sum : Int)] [8, 2, 1, 4] = EL at *
  clear HE
  refine (writeString_any (w.heap.size + 1) (w.heap.size + 1) _ ⟨EL.toArray⟩ W3 (Or.inr hB1) (by have e : (ByteArray.mk EL.toArray).size = EL.length := by show Array.size _ = _; simp
                                                                                                 rw [e, hEL]; simp [Lib.strCells]) hws).mono ?_
  rintro e W4 ⟨rfl, hB4, hb4⟩
  replace hR := hR.below hb4 (by omega)
  replace hbe := hbe.trans (hb4.mono (by omega))
  replace hws := Nat.le_trans hws hb4.size
  have hcl : [] ++ Lib.strCells ⟨#[82, 86, 84, 74]⟩ ++ Lib.strCells ⟨EL.toArray⟩ = Lib.byteCells (headF seq row n sum) := by
    rw [hF, byteCells_app]
    simp [Lib.strCells, Lib.byteCells]
  rw [hcl] at hB4
  have HFF := Lib.hid (show headL seq row sum ps = headF seq row n sum ++ ps.map pByte by unfold headL; rw [HL.out])
  clear hB1 hb4 hcl hF hEL
  generalize headF seq row n sum = HF at *
  have q0 := hR.cell 2
  go_wp2_with fail
  have h4 := h.below hbe
  clear h
  go_loopw [28] (fun i wr => ∃ k : Nat, k ≤ n ∧ i = .int .i64 k ∧ Lib.BuilderAt 80 5 (w.heap.size + 1) (w.heap.size + 1) (.pointer (some ⟨w.heap.size + 1, 0, none⟩)) (Lib.byteCells (HF ++ (ps.take k).map pByte)) wr ∧ w.heap.size + 1 ≤ wr.heap.size ∧ PartsA wr w.heap.size A n ps ∧ Below w.heap.size w wr) (fun i _ => n - (intOf i).toNat)
  case atStart => exact ⟨0, by omega, rfl, by simpa using hB4, hws, h4, hbe⟩
  case round =>
    obtain ⟨k, hk, rfl, hBr, hwr, hpr, hbr⟩ := hrel
    clear hB4 hR q0 h4 hws hbe
    by_cases hlt : k < n
    · obtain ⟨b, o, rfl, hb, hc⟩ := hpr.2 (by omega)
      obtain ⟨c0, c1, c2⟩ := hc k hlt
      have hall := HALL.out (ps.getD k prt0) (by simp [List.getD, show k < ps.length by rw [HL.out]; exact hlt])
      have HT := Lib.hid (show (ps.take (k + 1)).map pByte = (ps.take k).map pByte ++ [pByte (ps.getD k prt0)] by
        rw [List.take_add_one]
        have e : ps[k]? = some (ps.getD k prt0) := by simp [List.getD, show k < ps.length by rw [HL.out]; exact hlt]
        rw [e]; simp)
      generalize ps.getD k prt0 = p at *
      obtain ⟨pc, po, pd⟩ := p
      dsimp only at c0 c1 c2 hall
      obtain ⟨a0, a1, a2, a3⟩ := hall
      obtain ⟨pc, rfl⟩ := Int.eq_ofNat_of_zero_le a0
      obtain ⟨po, rfl⟩ := Int.eq_ofNat_of_zero_le a2
      clear hc
      have hBx := bld_alloc hBr (.cells #[.int .i64 pc, .int .i64 po, .string pd] 31)
      have hbx := hbr.alloc hbr.size (.cells #[.int .i64 pc, .int .i64 po, .string pd] 31)
      have hpx := hpr.below (Below.refl w.heap.size wr |>.alloc hbr.size (.cells #[.int .i64 pc, .int .i64 po, .string pd] 31))
      have hor := or_small pc (by omega) po (by omega)
      have HBY := Lib.hid (pByte_nat pc po (by omega) (by omega) pd)
      generalize pByte ⟨(pc : Int), (po : Int), pd⟩ = y at *
      obtain ⟨z, hz⟩ : ∃ z : Nat, 4 * pc + po = z := ⟨_, rfl⟩
      rw [hz] at hor HBY
      clear hz
      have hlen : (Lib.byteCells (HF ++ (ps.take k).map pByte)).length ≤ 60 := by
        simp [Lib.byteCells]
        have := HFL.out
        omega
      go_wp2_with fail
      refine (writeByte_any (w.heap.size + 1) (w.heap.size + 1) _ _ _ (Or.inr hBx) (by omega) (by simp; omega)).mono ?_
      rintro e W5 ⟨rfl, hB5, hb5⟩
      rw [HBY.out] at hB5
      rw [show [Value.int IntKind.u8 (y.toNat : Int)] = Lib.byteCells [y] from rfl, ← byteCells_app, List.append_assoc, ← HT.out] at hB5
      have hbe5 := hbx.trans (hb5.mono (by omega))
      have hp5 := hpx.below (hb5.mono (by omega))
      have hw5 : w.heap.size + 1 ≤ W5.heap.size := Nat.le_trans (by simp; omega) hb5.size
      clear hBx hbx hpx hBr hb5
      go_wp2_with fail
      go_roundw
      case rel => exact ⟨k + 1, by omega, by go_num, hB5, hw5, hp5, hbe5⟩
      case measure => simp [intOf]; go_num
    · obtain rfl : k = n := by omega
      rw [List.take_of_length_le (by rw [HL.out]; exact Nat.le_refl _), ← HFF.out] at hBr
      have HLL : Hid ((headL seq row sum ps).length ≤ 60) := Lib.hid (by rw [HFF.out, List.length_append, HFL.out, List.length_map, HL.out]; omega)
      generalize hH : headL seq row sum ps = H at *
      have HHH := Lib.hid hH
      clear hH
      go_wp2_with fail
      refine (Try.Builder_String_any (w.heap.size + 1) (w.heap.size + 1) H _ (Or.inr hBr) hwr).mono ?_
      rintro e W6 ⟨rfl, hb6⟩
      have hbe6 := hbr.trans (hb6.mono (by omega))
      have hsz : (ByteArray.mk H.toArray).size = H.length := by show Array.size _ = _; simp
      have hsl := HLL.out
      go_wp2_with fail
      refine (seal_yes _ ⟨H.toArray⟩ 64 60 rfl (by omega) (by omega) (by omega)).mono ?_
      rintro e W7 ⟨rfl, hb7⟩
      go_wp2_with fail
      go_ret
      exact ⟨by unfold headB; rw [HHH.out]; rfl, hbe6.trans (hb7.mono hbe6.size)⟩
end Go.Proofs.Ythpehdmffleobaa
