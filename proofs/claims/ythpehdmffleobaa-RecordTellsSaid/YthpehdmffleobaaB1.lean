/- Words for bytes: a []byte of the call's own that reads as a list, a byte appended to it, what it comes to as a string. -/
import Derived.Test.YthpehdmffleobaaB0
import Derived.Laws.BytesArg
import Derived.Lib.BufferWrite
namespace Go.Proofs.Ythpehdmffleobaa
open Go.RowKit Go.OpenShut

def bc (b : UInt8) : Value := .int .u8 (b.toNat : Int)
def bcs (l : List UInt8) : List Value := l.map bc
theorem bcs_len (l : List UInt8) : (bcs l).length = l.length := by simp [bcs]
theorem bcs_get {l : List UInt8} {i : Nat} (h : i < l.length) : (bcs l)[i]? = some (bc l[i]) := by simp [bcs, h]
theorem bcs_one (l : List UInt8) : ∀ u ∈ bcs l, u.oneCell' = true := by
  intro u hu
  obtain ⟨b, _, rfl⟩ := List.mem_map.1 hu
  rfl
theorem info_u8 : (Try.prog.info? 5).map (fun i => (i.zero, i.size, i.bytes)) = some (some (.int .u8 0), 1, 1) := by kernel_rfl

def OwnB (w : World) (base : Nat) (v : Value) (l : List UInt8) : Prop := w.ownsRow base 5 1 v l.length (bcs l)
theorem OwnB.nil_ (w : World) (base : Nat) : OwnB w base (.slice none 0 0) [] := World.ownsRow_nil w base _ _
theorem OwnB.drew {w : World} {base : Nat} {v : Value} {l : List UInt8} (h : OwnB w base v l) : OwnB w.drew base v l := h
theorem OwnB.drewN {w : World} {base : Nat} {v : Value} {l : List UInt8} (h : OwnB w base v l) (n : Nat) : OwnB (w.drewN n) base v l := h
theorem OwnB.alloc {w : World} {base : Nat} {v : Value} {l : List UInt8} (h : OwnB w base v l) (o : Obj) : OwnB (w.alloc o) base v l := World.ownsRow.alloc h o
theorem OwnB.below {w w' : World} {base : Nat} {v : Value} {l : List UInt8} (h : OwnB w base v l) (hb : Below w.heap.size w w') : OwnB w' base v l := by
  obtain ⟨h1, h2⟩ := h
  refine ⟨h1, ?_⟩
  rcases h2 with h2 | ⟨g, cap, cur, hv, hg, hh, r⟩
  · exact Or.inl h2
  · refine Or.inr ⟨g, cap, cur, hv, hg, ?_, r⟩
    have hlt : g < w.heap.size := by
      rcases Nat.lt_or_ge g w.heap.size with hlt | hge
      · exact hlt
      · rw [Array.getElem?_eq_none hge] at hh; cases hh
    rw [hb.block g hlt]; exact hh

theorem wp_appB {w : World} {ops : Array Oper} {rest : List Oper} {o : Oper} {a : Act} {Q : Exit → Act → World → Prop} (hgd : o.guard = none) (s x : Operand)
    (ho : o.op = .call { callee := .builtin .append, args := #[s, x], argTypes := #[58, 58] })
    (base : Nat) (v : Value) (l : List UInt8) (hs : a.eval s = v) (hown : OwnB w base v l) (ad : Addr) (m c : Nat) (b : List UInt8) (hm : b.length = m) (hx : a.eval x = .slice (some ad) m c) (hc : ∀ j (h : j < b.length), w.cell? (ad.add j) = some (bc b[j]))
    (hlen : l.length + m < 4294967296) (hbase : base ≤ w.heap.size)
    (h : ∀ v' w', OwnB w' base v' (l ++ b) → w.grownBy w' v.ownBlock → Below base w w' → wpList Try.prog ops Q rest (a.put o.dst v') w') : wpList Try.prog ops Q (o :: rest) a w := by
  obtain ⟨i0, hi, hz0, hz1, hz2⟩ := info_parts info_u8
  refine wpList_append_own _ hgd s x 58 ho base 5 i0 (.int .u8 0) 1 1 Try.underlying58 hi hz0 hz1 hz2 rfl (by decide) v l.length (bcs l) hs hown ad m c (bcs b) hx (by rw [bcs_len, hm, Nat.mul_one]) ?_ (bcs_one b) (by unfold maxLen; omega) (by omega) hbase ?_
  · intro j u hj
    have hj' : j < b.length := by
      rcases Nat.lt_or_ge j b.length with e | e
      · exact e
      · rw [List.getElem?_eq_none (by rw [bcs_len]; exact e)] at hj; cases hj
    rw [bcs_get hj'] at hj
    cases hj
    exact hc j hj'
  · intro v' w' h1 h2 _
    refine h v' w' ?_ h2 ((Below.refl _ _).grown h2 hbase (fun k hk => (World.ownsRow.lt hown k hk).1))
    unfold OwnB
    have e : bcs (l ++ b) = bcs l ++ bcs b := by simp [bcs]
    rw [e, List.length_append, hm]
    exact h1

theorem wp_pushB {w : World} {ops : Array Oper} {rest : List Oper} {o : Oper} {a : Act} {Q : Exit → Act → World → Prop} (hgd : o.guard = none) (s x : Operand)
    (ho : o.op = .call { callee := .builtin .append, args := #[s, x], argTypes := #[58, 58] })
    (base : Nat) (v : Value) (l : List UInt8) (hs : a.eval s = v) (hown : OwnB w base v l) (ad : Addr) (c : Nat) (b : UInt8) (hx : a.eval x = .slice (some ad) 1 c) (hc : w.cell? ad = some (bc b))
    (hlen : l.length < 4294967296) (hbase : base ≤ w.heap.size)
    (h : ∀ v' w', OwnB w' base v' (l ++ [b]) → w.grownBy w' v.ownBlock → Below base w w' → wpList Try.prog ops Q rest (a.put o.dst v') w') : wpList Try.prog ops Q (o :: rest) a w := by
  obtain ⟨i0, hi, hz0, hz1, hz2⟩ := info_parts info_u8
  refine wpList_append_own _ hgd s x 58 ho base 5 i0 (.int .u8 0) 1 1 Try.underlying58 hi hz0 hz1 hz2 rfl (by decide) v l.length (bcs l) hs hown ad 1 c [bc b] hx rfl ?_ ?_ (by unfold maxLen; omega) (by omega) hbase ?_
  · intro j u hj
    have : j = 0 := by
      rcases Nat.eq_zero_or_pos j with e | e
      · exact e
      · rw [List.getElem?_eq_none (by simp; omega)] at hj; cases hj
    subst this
    simp at hj
    subst hj
    simpa [Addr.add] using hc
  · intro u hu
    simp at hu
    subst hu
    rfl
  · intro v' w' h1 h2 _
    refine h v' w' ?_ h2 ((Below.refl _ _).grown h2 hbase (fun k hk => (World.ownsRow.lt hown k hk).1))
    unfold OwnB
    have e : bcs (l ++ [b]) = bcs l ++ [bc b] := by simp [bcs]
    rw [e, List.length_append]
    exact h1

theorem conv_cells {w : World} {b off cap : Nat} {l : List UInt8} (hc : ∀ i (h : i < l.length), w.cell? ⟨b, off + i, none⟩ = some (bc l[i])) :
    (convert 58 9 (.slice (some ⟨b, off, none⟩) l.length cap)).run Try.prog w = .ok (.string ⟨l.toArray⟩) w := by
  have h := run_convert_bytes_arg (P := Try.prog) w 58 5 Try.underlying58 Try.underlying5 b off l.length cap (l.map fun b => (b.toNat : Int)) (by simp) (fun i hi => by
    rw [hc i hi]
    simp [bc, hi]) 9 Try.underlying9
  rw [h]
  simp only [strOfNums, List.map_map]
  rw [show ((fun n : Int => UInt8.ofNat n.toNat) ∘ fun b : UInt8 => (b.toNat : Int)) = id from funext fun b => by simp, List.map_id]

theorem OwnB.conv {w : World} {base : Nat} {v : Value} {l : List UInt8} (h : OwnB w base v l) :
    (convert 58 9 v).run Try.prog w = .ok (.string ⟨l.toArray⟩) w := by
  have hcl := fun g hg => World.ownsRow.cells (g := g) h hg
  obtain ⟨h1, h2⟩ := h
  rcases h2 with ⟨rfl, h0⟩ | ⟨g, cap, cur, rfl, hg, hh, hn, hm, hs, ht⟩
  · have : l = [] := List.eq_nil_of_length_eq_zero h0
    subst this
    rw [run_convert_bytes_nil w 58 5 Try.underlying58 Try.underlying5 0 0 9 Try.underlying9]
    rfl
  · refine conv_cells (fun i hi => ?_)
    have h3 := hcl g rfl i _ (bcs_get hi)
    have e : (⟨g, 0, none⟩ : Addr).add i = ⟨g, 0 + i, none⟩ := by unfold Addr.add; split <;> simp_all
    rw [e] at h3
    exact h3

/-! ### a row of bytes that is known whole -/
theorem setRow_alloc (w : World) (a b : Array Value) (t : TypeId) : (w.alloc (.cells a t)).setRow w.heap.size b = w.alloc (.cells b t) := by
  show ({ w.alloc (.cells a t) with heap := _ } : World) = _
  simp only [World.alloc]
  congr 1
  apply Array.ext
  · simp
  · intro i h1 h2
    simp at h1 h2
    by_cases e : i = w.heap.size
    · subst e; simp [Array.getElem_modify]
    · have h3 : i < w.heap.size := by omega
      simp [Array.getElem_modify, Array.getElem_push, h3, Ne.symm e]
theorem run_makeB (n : Nat) (hn : n < 4294967296) (w : World) :
    (Instr.makeSlice 58 (.int .i64 (n : Int)) (.int .i64 (n : Int))).run Try.prog w = .ok (.slice (some ⟨w.heap.size, 0, none⟩) n n) (w.alloc (.cells (bcs (List.replicate n 0)).toArray 5)) := by
  obtain ⟨i0, hi, hz0, hz1, hz2⟩ := info_parts info_u8
  have hr := run_make (P := Try.prog) w 58 5 i0 (.int .u8 0) Try.underlying58 hi hz0 .i64 .i64 (n : Int) (n : Int) (by omega) (by omega) (by rw [hz2]; omega) (by omega)
  simp only [Int.toNat_natCast] at hr
  rw [hr, hz1, Nat.mul_one]
  congr 3
  apply Array.toList_inj.1
  rw [show (Value.int IntKind.u8 0).cells = #[.int .u8 0] from rfl, toList_madeCells_one]
  simp [bcs, bc]
theorem run_makeBc (n : Nat) (hn : n < 4294967296) (w : World) :
    (Instr.makeSlice 58 (.int .i64 0) (.int .i64 (n : Int))).run Try.prog w = .ok (.slice (some ⟨w.heap.size, 0, none⟩) 0 n) (w.alloc (.cells (bcs (List.replicate n 0)).toArray 5)) := by
  obtain ⟨i0, hi, hz0, hz1, hz2⟩ := info_parts info_u8
  have hr := run_make (P := Try.prog) w 58 5 i0 (.int .u8 0) Try.underlying58 hi hz0 .i64 .i64 (0 : Int) (n : Int) (by omega) (by omega) (by rw [hz2]; omega) (by omega)
  simp only [Int.toNat_natCast] at hr
  rw [hr, hz1, Nat.mul_one]
  congr 3
  apply Array.toList_inj.1
  rw [show (Value.int IntKind.u8 0).cells = #[.int .u8 0] from rfl, toList_madeCells_one]
  simp [bcs, bc]
theorem Blk.ownB0 {w : World} {g base n : Nat} {l : List UInt8} (h : Blk w g 5 (bcs l).toArray) (hn : l.length = n) (hb : base ≤ g) (hm : n ≤ maxLen) : OwnB w base (.slice (some ⟨g, 0, none⟩) 0 n) [] := by
  subst hn
  exact ⟨rfl, Or.inr ⟨g, l.length, (bcs l).toArray, rfl, hb, h, Nat.zero_le _, hm, by simp [bcs_len], by simp [bcs]⟩⟩
theorem Blk.ownB {w : World} {g base n : Nat} {l : List UInt8} (h : Blk w g 5 (bcs l).toArray) (hn : l.length = n) (hb : base ≤ g) (hm : n ≤ maxLen) : OwnB w base (.slice (some ⟨g, 0, none⟩) n n) l := by
  subst hn
  refine ⟨by rw [bcs_len, Nat.mul_one], Or.inr ⟨g, l.length, (bcs l).toArray, rfl, hb, h, Nat.le_refl _, hm, by simp [bcs_len], ?_⟩⟩
  simp [List.take_of_length_le (show (bcs l).length ≤ l.length by rw [bcs_len]; exact Nat.le_refl _)]
theorem Blk.bcell {w : World} {g : Nat} {l : List UInt8} (h : Blk w g 5 (bcs l).toArray) (j : Nat) (hj : j < l.length) : w.cell? ⟨g, j, none⟩ = some (bc l[j]) := by
  rw [h.cell j]
  simpa using bcs_get hj
theorem Blk.bcellAdd {w : World} {g : Nat} {l : List UInt8} (h : Blk w g 5 (bcs l).toArray) (j : Nat) (hj : j < l.length) : w.cell? ((⟨g, 0, none⟩ : Addr).add j) = some (bc l[j]) := by
  have e : (⟨g, 0, none⟩ : Addr).add j = ⟨g, j, none⟩ := by unfold Addr.add; split <;> simp_all
  rw [e]
  exact h.bcell j hj
theorem Blk.conv {w : World} {g n c : Nat} {l : List UInt8} (h : Blk w g 5 (bcs l).toArray) (hn : l.length = n) :
    (convert 58 9 (.slice (some ⟨g, 0, none⟩) n c)).run Try.prog w = .ok (.string ⟨l.toArray⟩) w := by
  subst hn
  exact conv_cells fun i hi => by rw [Nat.zero_add]; exact h.bcell i hi
/-- 'copy(b, s)', s a string that fits, b a new row of bytes -/
theorem run_copyB (w : World) (ty : TypeId) (l : List UInt8) (s : ByteArray) (n : Nat) (hn : l.length = n) (h : s.size ≤ n) :
    (Builtin.copy_ #[58, 9] ty #[.slice (some ⟨w.heap.size, 0, none⟩) n n, .string s]).run Try.prog (w.alloc (.cells (bcs l).toArray 5)) =
      .ok (goInt s.size) (w.alloc (.cells (bcs (s.data.toList ++ l.drop s.size)).toArray 5)) := by
  have hr := Lib.run_copy_row_string (P := Try.prog) (w.alloc (.cells (bcs l).toArray 5)) 58 9 ty 5 w.heap.size 0 n n s (bcs l).toArray 5 Try.underlying58 (by kernel_rfl) (heap_alloc_new _ _) h (by simp [bcs_len]; omega)
  rw [hr, setRow_alloc]
  congr 4
  simp [bcs, Lib.byteCells]
  intro a _
  rfl
/-- a row of bytes of which the first ones read as l, and may be written -/
def BRow (w : World) (g : Nat) (l : List UInt8) : Prop := (∀ i (h : i < l.length), w.cell? ⟨g, i, none⟩ = some (bc l[i])) ∧ ∀ i, i < l.length → w.frozen? ⟨g, i, none⟩ = false
theorem BRow.set_ {w : World} {g : Nat} {l : List UInt8} (h : BRow w g l) (i : Nat) (hi : i < l.length) (b : UInt8) : BRow (w.setCell ⟨g, i, none⟩ (bc b)) g (l.set i b) := by
  refine ⟨fun j hj => ?_, fun j hj => ?_⟩
  · rw [List.length_set] at hj
    by_cases e : i = j
    · subst e
      rw [World.cell?_setCell_same _ _ _ (h.1 i hi)]
      simp
    · rw [World.cell?_setCell_other _ _ _ _ (fun h2 => e (Addr.mk.inj h2).2.1), h.1 j hj]
      simp [List.getElem_set_ne e]
  · rw [List.length_set] at hj
    rw [World.frozen?_setCell]
    exact h.2 j hj
theorem BRow.drew {w : World} {g : Nat} {l : List UInt8} (h : BRow w g l) : BRow w.drew g l := h
theorem BRow.conv {w : World} {g n c : Nat} {l : List UInt8} (h : BRow w g l) (hn : l.length = n) :
    (convert 58 9 (.slice (some ⟨g, 0, none⟩) n c)).run Try.prog w = .ok (.string ⟨l.toArray⟩) w := by
  subst hn
  exact conv_cells fun i hi => by rw [Nat.zero_add]; exact h.1 i hi
theorem BRow.of_string (w : World) (s : ByteArray) : BRow (Lib.bytesWorld w 5 s) w.heap.size s.data.toList := by
  refine ⟨fun i hi => ?_, fun i hi => ?_⟩
  · rw [Lib.bytesWorld_cell w 5 s i (by simpa using hi)]
    have h3 : i < s.size := by simpa using hi
    have h4 : s.data.toList.getD i 0 = s.data.toList[i] := by simp [List.getD, h3]
    rw [h4]
    rfl
  · have h1 := Lib.bytesWorld_at_new w 5 s
    simp only [World.frozen?, h1]
    have h2 : s.size ≤ (Lib.bytesCells w 5 s).size := by simp [Lib.bytesCells]
    have h3 : i < s.size := by simpa using hi
    simp
    omega
theorem below_bytes (w : World) (s : ByteArray) : Below w.heap.size w (Lib.bytesWorld w 5 s) := by
  refine ⟨rfl, rfl, rfl, by rw [Lib.bytesWorld_size]; omega, fun k hk => Lib.bytesWorld_at_old w 5 s k hk⟩
end Go.Proofs.Ythpehdmffleobaa
