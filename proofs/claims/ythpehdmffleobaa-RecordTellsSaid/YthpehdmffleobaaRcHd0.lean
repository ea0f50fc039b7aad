/- record.Head: what it comes to, and the walks that end early. -/
import Derived.Test.YthpehdmffleobaaRcEnc
import Derived.Test.YthpehdmffleobaaRcOwn
namespace Go.Proofs.Ythpehdmffleobaa
open Go.RowKit Go.OpenShut

def partB (c : UInt8) : Prt := ⟨((c.toNat / 4 : Nat) : Int), ((c.toNat % 4 : Nat) : Int), ⟨#[]⟩⟩
def ws4 : List Int := [8, 2, 1, 4]
def headNs (b : ByteArray) : List Nat := decL ws4 ((b.data.toList.take 19).drop 4)
def headPs (b : ByteArray) : List Prt := (((b.data.toList.take 60).drop 19).take ((headNs b).getD 2 0)).map partB
def headOK (b : ByteArray) : Bool := placedB (((headNs b).getD 1 0 : Nat) : Int) (headPs b) && decide (headB (((headNs b).getD 0 0 : Nat) : Int) (((headNs b).getD 1 0 : Nat) : Int) ((headNs b).getD 3 0) (headPs b) = b.data.toList)
def headM (b : ByteArray) : Bool := decide (b.data.toList.take 4 = [82, 86, 84, 74])
def headE (b : ByteArray) : Int := if b.size = 64 then if openB b.data.toList then if headM b then if headOK b then 0 else 1 else 81 else 80 else 31
structure Hd where
  seq : Nat
  row : Nat
  sum : Nat
  ps : List Prt
def headR (b : ByteArray) : Hd := if headE b = 0 then ⟨(headNs b).getD 0 0, (headNs b).getD 1 0, (headNs b).getD 3 0, headPs b⟩ else ⟨0, 0, 0, []⟩
theorem ws4_ok : wOK ws4 = true := by decide
theorem headNs_len (b : ByteArray) : (headNs b).length = 4 := decL_len _ _
theorem headNs_bd (b : ByteArray) (i : Nat) (hi : i < 4) : (headNs b).getD i 0 < 256 ^ (ws4.getD i 0).toNat := decL_fits ws4 _ i hi
theorem headNs_0 (b : ByteArray) : (headNs b).getD 0 0 < 18446744073709551616 := headNs_bd b 0 (by omega)
theorem headNs_1 (b : ByteArray) : (headNs b).getD 1 0 < 65536 := headNs_bd b 1 (by omega)
theorem headNs_2 (b : ByteArray) : (headNs b).getD 2 0 < 256 := headNs_bd b 2 (by omega)
theorem headNs_3 (b : ByteArray) : (headNs b).getD 3 0 < 4294967296 := headNs_bd b 3 (by omega)
theorem hdRet {W : World} {g : Nat} (seq row : Int) (v : Value) (S : Int) (E : Int) (fn : Func) (t0 t1 : Value) (rest : List Value) (h : Blk W g 26 #[.int .u64 seq, .int .i64 row, v]) (hr : fn.results = #[ResultVar.cell 2 26, ResultVar.tmp 3, ResultVar.tmp 4]) :
    (results fn (t0 :: t1 :: .pointer (some ⟨g, 0, none⟩) :: .int .u32 S :: .int .i64 E :: rest).toArray).run Try.prog W = .ok (.tuple #[.agg #[.int .u64 seq, .int .i64 row, v], .int .u32 S, .int .i64 E]) W := by
  have hq := h.cell
  simp [results, hr, go_sem, hq]
def set3 (w : World) (g : Nat) (x y z : Value) : World := ((w.setCell ⟨g, 0, none⟩ x).setCell ⟨g, 1, none⟩ y).setCell ⟨g, 2, none⟩ z
theorem Blk.set3 {w : World} {g : Nat} {t : TypeId} {a b c : Value} (h : Blk w g t #[a, b, c]) (x y z : Value) : Blk (set3 w g x y z) g t #[x, y, z] := ((h.set_ 0 x).set_ 1 y).set_ 2 z
theorem below_set3 {B : Nat} {w w' : World} {g : Nat} (h : Below B w w') (hg : B ≤ g) (x y z : Value) : Below B w (set3 w' g x y z) :=
  ((h.setCell (p := ⟨g, 0, none⟩) hg x).setCell (p := ⟨g, 1, none⟩) hg y).setCell (p := ⟨g, 2, none⟩) hg z
theorem cell_set3 {w : World} {g : Nat} {x y z : Value} {p : Addr} (h : p.block ≠ g) : (set3 w g x y z).cell? p = w.cell? p := by
  unfold set3
  have q : ∀ i, ({ block := g, off := i } : Addr) ≠ p := fun i e => h (by rw [← e])
  rw [World.cell?_setCell_other _ _ _ _ (q 2), World.cell?_setCell_other _ _ _ _ (q 1), World.cell?_setCell_other _ _ _ _ (q 0)]
/-- what a call of record.Head gives -/
def HdPost (w : World) (E : Int) (r : Hd) (e : Ending) (w' : World) : Prop :=
  ∃ A c, e = .returned (.tuple #[recV (r.seq : Int) (r.row : Int) A r.ps.length c, .int .u32 (r.sum : Int), .int .i64 E]) ∧ OwnP 31 w' w.heap.size (.slice A (r.ps.length : Nat) c) r.ps ∧ Below w.heap.size w w'

theorem open_60 (b : ByteArray) (h : b.size = 64) (ho : openB b.data.toList = true) : openS b = b.extract 0 60 := by
  unfold openS; rw [ho, h]; rfl
theorem prefix_magic (b : ByteArray) (h : b.size = 64) (ho : openB b.data.toList = true) : Lib.hasPrefix (openS b).data.toList (⟨#[82, 86, 84, 74]⟩ : ByteArray).data.toList = headM b := by
  rw [open_60 b h ho]
  unfold Lib.hasPrefix headM
  simp only [ByteArray.data_extract, Array.toList_extract, List.extract_eq_take_drop, List.drop_zero, Nat.sub_zero]
  generalize b.data.toList = l
  rw [Bool.eq_iff_iff, List.isPrefixOf_iff_prefix, List.prefix_iff_eq_take, decide_eq_true_eq, List.take_take]
  exact ⟨fun h => h.symm, fun h => h.symm⟩
theorem head12_short (w : World) (b : ByteArray) (h : b.size ≠ 64) :
    Calls Try.prog 16 #[.string b] w (HdPost w 31 ⟨0, 0, 0, []⟩) := by
  have hn : ((b.size : Int) != 64) = true := by rw [bne_iff_ne]; omega
  have hR := Blk.new w 26 #[.int .u64 0, .int .i64 0, .slice none 0 0]
  have hbe := (Below.refl w.heap.size w).alloc (Nat.le_refl _) (.cells #[.int .u64 0, .int .i64 0, .slice none 0 0] 26)
  go_enter Try.func16, Try.ntmps16
  go_wp2_with fail
  exact bodyPost_ret (hdRet 0 0 _ 0 31 _ _ _ _ hR Try.results16) rfl ⟨none, 0, rfl, ⟨rfl, Or.inl ⟨rfl, rfl⟩⟩, hbe⟩

set_option maxHeartbeats 2000000 in
theorem head12_sum (w : World) (b : ByteArray) (h : b.size = 64) (ho : openB b.data.toList = false) :
    Calls Try.prog 16 #[.string b] w (HdPost w 80 ⟨0, 0, 0, []⟩) := by
  have hn : ((b.size : Int) != 64) = false := by rw [h]; rfl
  have HO := Lib.hid (fun w => open_any w b (by rw [h]; unfold maxLen; omega))
  rw [ho] at HO
  clear h ho
  go_enter Try.func16, Try.ntmps16
  go_wp2_with fail
  refine (HO.out _).mono ?_
  rintro e w1 ⟨rfl, hb1⟩
  have hR := (Blk.new w 26 #[.int .u64 0, .int .i64 0, .slice none 0 0]).below hb1 (by simp)
  have hbe := ((Below.refl w.heap.size w).alloc (Nat.le_refl _) (.cells #[.int .u64 0, .int .i64 0, .slice none 0 0] 26)).trans (hb1.mono (by simp))
  have hq := hR.cell
  have hf := hR.frozen
  go_wp2_with fail
  show bodyPost _ _ _ _ _ (set3 _ w.heap.size _ _ _)
  exact bodyPost_ret (hdRet 0 0 _ 0 80 _ _ _ _ (hR.set3 _ _ _) Try.results16) rfl ⟨none, 0, rfl, ⟨rfl, Or.inl ⟨rfl, rfl⟩⟩, below_set3 hbe (Nat.le_refl _) _ _ _⟩
set_option maxHeartbeats 2000000 in
theorem head12_magic (w : World) (b : ByteArray) (h : b.size = 64) (ho : openB b.data.toList = true) (hm : headM b = false) :
    Calls Try.prog 16 #[.string b] w (HdPost w 81 ⟨0, 0, 0, []⟩) := by
  have HP := Lib.hid (prefix_magic b h ho)
  rw [hm] at HP
  have hn : ((b.size : Int) != 64) = false := by rw [h]; rfl
  have HO := Lib.hid (fun w => open_any w b (by rw [h]; unfold maxLen; omega))
  rw [ho] at HO
  clear h ho
  go_enter Try.func16, Try.ntmps16
  go_wp2_with fail
  refine (HO.out _).mono ?_
  rintro e w1 ⟨rfl, hb1⟩
  have hR := (Blk.new w 26 #[.int .u64 0, .int .i64 0, .slice none 0 0]).below hb1 (by simp)
  have hbe := ((Below.refl w.heap.size w).alloc (Nat.le_refl _) (.cells #[.int .u64 0, .int .i64 0, .slice none 0 0] 26)).trans (hb1.mono (by simp))
  have hq := hR.cell
  have hf := hR.frozen
  go_wp2_with fail
  refine (Try.strings_HasPrefix (openS b) ⟨#[82, 86, 84, 74]⟩ _).mono ?_
  rintro e W2 ⟨rfl, rfl⟩
  rw [HP.out]
  go_wp2_with fail
  show bodyPost _ _ _ _ _ (set3 _ w.heap.size _ _ _)
  exact bodyPost_ret (hdRet 0 0 _ 0 81 _ _ _ _ (hR.set3 _ _ _) Try.results16) rfl ⟨none, 0, rfl, ⟨rfl, Or.inl ⟨rfl, rfl⟩⟩, below_set3 hbe (Nat.le_refl _) _ _ _⟩
end Go.Proofs.Ythpehdmffleobaa
