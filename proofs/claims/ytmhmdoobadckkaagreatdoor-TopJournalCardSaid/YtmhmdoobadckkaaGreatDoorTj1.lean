/- Own texts, joined: B0, B1, Chg, MapB, Dv0, Drv, VA, Geo, Lay0, NF, NT. -/
import Derived.WalkKit
import Derived.WalkSpells
import Derived.WalkLawsBesides
import Derived.Lib.Hide
import Derived.Laws.Rows
import Derived.Laws.CopyOwn
import Derived.Deep.Draws
import Derived.Deep.QuietTactic
import Derived.BigQuiet
import Derived.Deep.AppendLies
import Derived.Deep.RegionLaw
import Derived.Maps.AppendAt
import Derived.Laws.BytesArg
import Derived.Lib.ConvBytes
import Derived.OpenShut
import Derived.Lib.MinMax
import Derived.Test.YtmhmdoobadckkaaGreatDoorProg
import Derived.Lib.BufferWrite
import Derived.Maps.Keyed
import Derived.Laws.IdiomMaps
import Derived.MapKept
import Derived.Maps.Own
import Derived.Lib.SlKeysI
import Derived.Laws.AppendOwnNone
import Derived.Orders
import Derived.Tactics
/- Words for memory that all walks of this seat use: a block that is known whole, what stays below a mark, a slice that reads as a list. -/
namespace Go.Proofs.YtmhmdoobadckkaaGreatDoor
set_option maxRecDepth 20000
open Go.RowKit Go.OpenShut

/-! ### a block that is known whole -/
def Blk (w : World) (g : Nat) (t : TypeId) (cs : Array Value) : Prop := w.heap[g]? = some (.cells cs t (0, 0))
section
variable {w w' : World} {g : Nat} {t : TypeId} {cs : Array Value}
theorem Blk.lt (h : Blk w g t cs) : g < w.heap.size := by
  rcases Nat.lt_or_ge g w.heap.size with hlt | hge
  · exact hlt
  · unfold Blk at h; rw [Array.getElem?_eq_none hge] at h; cases h
theorem Blk.cell (h : Blk w g t cs) (i : Nat) : w.cell? ⟨g, i, none⟩ = cs[i]? := cell_of_row w g i cs t (0, 0) h
theorem Blk.frozen (h : Blk w g t cs) (i : Nat) : w.frozen? ⟨g, i, none⟩ = false := by
  unfold Blk at h
  simp [World.frozen?, h]
theorem Blk.new (w : World) (t : TypeId) (cs : Array Value) : Blk (w.alloc (.cells cs t)) w.heap.size t cs := heap_alloc_new w _
theorem Blk.drew (h : Blk w g t cs) : Blk w.drew g t cs := h
theorem Blk.drewN (h : Blk w g t cs) (n : Nat) : Blk (w.drewN n) g t cs := h
theorem Blk.alloc (h : Blk w g t cs) (o : Obj) : Blk (w.alloc o) g t cs := (Below.heap_alloc w o g h.lt).trans h
theorem Blk.set_ (h : Blk w g t cs) (i : Nat) (u : Value) : Blk (w.setCell ⟨g, i, none⟩ u) g t (cs.setIfInBounds i u) := by
  unfold Blk at h ⊢
  simp [World.setCell, Array.getElem?_modify, h]
theorem Blk.far (h : Blk w g t cs) {p : Addr} (hp : g ≠ p.block) (u : Value) : Blk (w.setCell p u) g t cs := (Below.heap_setCell w p u g hp).trans h
theorem Blk.row_ (h : Blk w g t cs) (cs' : Array Value) : Blk (w.setRow g cs') g t cs' := setRow_heap w g cs cs' t (0, 0) h
theorem Blk.rowFar (h : Blk w g t cs) {g' : Nat} (hp : g ≠ g') (cs' : Array Value) : Blk (w.setRow g' cs') g t cs := (setRow_other w g' g cs' hp).trans h
theorem Blk.below {B : Nat} (h : Blk w g t cs) (hb : Below B w w') (hg : g < B) : Blk w' g t cs := (hb.block g hg).trans h
theorem Blk.grown {row : Option Nat} (h : Blk w g t cs) (hb : w.grownBy w' row) (hg : some g ≠ row) : Blk w' g t cs := (hb.block g h.lt hg).trans h
end

/-! ### what stays below a mark -/
theorem below_drewN' {B : Nat} {a w : World} (h : Below B a w) (n : Nat) : Below B a (w.drewN n) := ⟨h.os, h.tape, h.output, h.size, h.block⟩

theorem run_min4 {P : Program} (ts : Array TypeId) (t : TypeId) (k : IntKind) (a b c d : Int) (w : World) :
    (Builtin.min_ ts t #[.int k a, .int k b, .int k c, .int k d]).run P w = .ok (.int k (min (min (min a b) c) d)) w := by
  have e : ∀ x y : Int, (if y < x then y else x) = min x y := fun x y => by
    rw [Int.min_def]
    split <;> split <;> omega
  simp [Builtin.min_, Builtin.min2, e]

/-! ### the row's last step, where 'Below' alone is known of the world -/
section
open Go.RowKit Go.WideShapes Go.ChangeShapes
variable {H : Type} {enc : TypeId × Value → H} {P : Program}
theorem post_of_below {f : Func} {s : ChangeSpec} {apart fresh handsOn again : Bool} {W W' : World} {args : Array Value} {v : Value} {ds gs : List (DataW H)} {before pa pv : List MemPlace}
    (hW : DataW.Whole enc P f.params.toList s.vars apart W args.toList ds gs before)
    (hres : ∀ (b : Nat) (sp : Nat → Bool) (hd : Bool), DataW.TrodAll enc P W' b sp hd f.resultTypes.toList (v.resultList f.resultTypes.size) (s.fn H (ds ++ gs)).results [])
    (hargs : ∀ sp : Nat → Bool, (∀ p ∈ before, sp p.block = true) → DataW.TrodAll enc P W' 0 sp true f.params.toList args.toList (s.fn H (ds ++ gs)).args pa)
    (hvars : ∀ sp : Nat → Bool, (∀ p ∈ before, sp p.block = true) → DataW.TrodVars enc P W' sp s.vars (s.fn H (ds ++ gs)).vars pv)
    (hps : before = pa ++ pv) (hb : Below W.heap.size W W')
    (hok : ∀ (j : Nat) (t : TypeId) (r : Value), f.resultTypes[j]? = some t → (v.resultList f.resultTypes.size)[j]? = some r → Value.okWide P W' .any 0 t r) :
    s.post enc P f apart fresh handsOn again W args v W' := by
  have hlt : ∀ p ∈ before, p.block < W.heap.size := fun p hp => hW.lt p hp
  have hold : ∀ p ∈ before, (fun b => decide (b < W.heap.size)) p.block = true := fun p hp => by simpa using hlt p hp
  refine ⟨ds, gs, before, [], pa, pv, hW, hres _ _ _, hargs _ hold, hvars _ hold, World.keptBut_mono (fun p hp => ⟨hp, ?_⟩) (hb.frame (· ∈ before)), fun _ => ?_⟩
  · rw [hps, List.mem_append] at hp
    exact Or.inr hp
  · obtain ⟨_, _, _, _, _, hz, hn⟩ := hW
    refine ⟨hok, _, _, ([] ++ pa) ++ pv, ⟨[] ++ pa, pv, trodAll_append (hargs _ (fun _ _ => rfl)) (hres _ _ _), hvars _ (fun _ _ => rfl), rfl, ?_, ?_⟩, ?_⟩
    · intro b off hp
      have hin : MemPlace.cell b off ∈ before := by rw [hps]; simpa using hp
      rw [hb.frozen (hlt _ hin)]
      exact hz b off hin
    · intro ha
      have := hn ha
      rw [hps] at this
      simpa using this
    · intro p hp _
      rw [hps]
      simpa using hp
end
end Go.Proofs.YtmhmdoobadckkaaGreatDoor
/- Words for bytes: a []byte of the call's own that reads as a list, a byte appended to it, what it comes to as a string. -/
namespace Go.Proofs.YtmhmdoobadckkaaGreatDoor
set_option maxRecDepth 20000
open Go.RowKit Go.OpenShut

def bc (b : UInt8) : Value := .int .u8 (b.toNat : Int)
def bcs (l : List UInt8) : List Value := l.map bc
theorem bcs_len (l : List UInt8) : (bcs l).length = l.length := by simp [bcs]
theorem bcs_get {l : List UInt8} {i : Nat} (h : i < l.length) : (bcs l)[i]? = some (bc l[i]) := by simp [bcs, h]
theorem bcs_one (l : List UInt8) : ∀ u ∈ bcs l, u.oneCell' = true := by
  intro u hu
  obtain ⟨b, _, rfl⟩ := List.mem_map.1 hu
  rfl
theorem info_u8 : (Tryz.prog.info? 5).map (fun i => (i.zero, i.size, i.bytes)) = some (some (.int .u8 0), 1, 1) := by kernel_rfl

def OwnB (w : World) (base : Nat) (v : Value) (l : List UInt8) : Prop := w.ownsRow base 5 1 v l.length (bcs l)
theorem OwnB.nil_ (w : World) (base : Nat) : OwnB w base (.slice none 0 0) [] := World.ownsRow_nil w base _ _
theorem OwnB.drew {w : World} {base : Nat} {v : Value} {l : List UInt8} (h : OwnB w base v l) : OwnB w.drew base v l := h
theorem OwnB.drewN {w : World} {base : Nat} {v : Value} {l : List UInt8} (h : OwnB w base v l) (n : Nat) : OwnB (w.drewN n) base v l := h
theorem OwnB.alloc {w : World} {base : Nat} {v : Value} {l : List UInt8} (h : OwnB w base v l) (o : Obj) : OwnB (w.alloc o) base v l := World.ownsRow.alloc h o
theorem OwnB.below {w w' : World} {base : Nat} {v : Value} {l : List UInt8} (h : OwnB w base v l) (hb : Below w.heap.size w w') : OwnB w' base v l := by
  obtain ⟨h1, h2⟩ := h
  refine ⟨h1, ?_⟩
  rcases h2 with h2 | ⟨g, cap, cur, hv, hg, hh, r⟩
  · exact Or.inl h2
  · refine Or.inr ⟨g, cap, cur, hv, hg, ?_, r⟩
    have hlt : g < w.heap.size := by
      rcases Nat.lt_or_ge g w.heap.size with hlt | hge
      · exact hlt
      · rw [Array.getElem?_eq_none hge] at hh; cases hh
    rw [hb.block g hlt]; exact hh

theorem wp_appB {w : World} {ops : Array Oper} {rest : List Oper} {o : Oper} {a : Act} {Q : Exit → Act → World → Prop} (hgd : o.guard = none) (s x : Operand)
    (ho : o.op = .call { callee := .builtin .append, args := #[s, x], argTypes := #[62, 62] })
    (base : Nat) (v : Value) (l : List UInt8) (hs : a.eval s = v) (hown : OwnB w base v l) (ad : Addr) (m c : Nat) (b : List UInt8) (hm : b.length = m) (hx : a.eval x = .slice (some ad) m c) (hc : ∀ j (h : j < b.length), w.cell? (ad.add j) = some (bc b[j]))
    (hlen : l.length + m < 4294967296) (hbase : base ≤ w.heap.size)
    (h : ∀ v' w', OwnB w' base v' (l ++ b) → w.grownBy w' v.ownBlock → Below base w w' → wpList Tryz.prog ops Q rest (a.put o.dst v') w') : wpList Tryz.prog ops Q (o :: rest) a w := by
  obtain ⟨i0, hi, hz0, hz1, hz2⟩ := info_parts info_u8
  refine wpList_append_own _ hgd s x 62 ho base 5 i0 (.int .u8 0) 1 1 Tryz.underlying62 hi hz0 hz1 hz2 rfl (by decide) v l.length (bcs l) hs hown ad m c (bcs b) hx (by rw [bcs_len, hm, Nat.mul_one]) ?_ (bcs_one b) (by unfold maxLen; omega) (by omega) hbase ?_
  · intro j u hj
    have hj' : j < b.length := by
      rcases Nat.lt_or_ge j b.length with e | e
      · exact e
      · rw [List.getElem?_eq_none (by rw [bcs_len]; exact e)] at hj; cases hj
    rw [bcs_get hj'] at hj
    cases hj
    exact hc j hj'
  · intro v' w' h1 h2 _
    refine h v' w' ?_ h2 ((Below.refl _ _).grown h2 hbase (fun k hk => (World.ownsRow.lt hown k hk).1))
    unfold OwnB
    have e : bcs (l ++ b) = bcs l ++ bcs b := by simp [bcs]
    rw [e, List.length_append, hm]
    exact h1

theorem wp_pushB {w : World} {ops : Array Oper} {rest : List Oper} {o : Oper} {a : Act} {Q : Exit → Act → World → Prop} (hgd : o.guard = none) (s x : Operand)
    (ho : o.op = .call { callee := .builtin .append, args := #[s, x], argTypes := #[62, 62] })
    (base : Nat) (v : Value) (l : List UInt8) (hs : a.eval s = v) (hown : OwnB w base v l) (ad : Addr) (c : Nat) (b : UInt8) (hx : a.eval x = .slice (some ad) 1 c) (hc : w.cell? ad = some (bc b))
    (hlen : l.length < 4294967296) (hbase : base ≤ w.heap.size)
    (h : ∀ v' w', OwnB w' base v' (l ++ [b]) → w.grownBy w' v.ownBlock → Below base w w' → wpList Tryz.prog ops Q rest (a.put o.dst v') w') : wpList Tryz.prog ops Q (o :: rest) a w := by
  obtain ⟨i0, hi, hz0, hz1, hz2⟩ := info_parts info_u8
  refine wpList_append_own _ hgd s x 62 ho base 5 i0 (.int .u8 0) 1 1 Tryz.underlying62 hi hz0 hz1 hz2 rfl (by decide) v l.length (bcs l) hs hown ad 1 c [bc b] hx rfl ?_ ?_ (by unfold maxLen; omega) (by omega) hbase ?_
  · intro j u hj
    have : j = 0 := by
      rcases Nat.eq_zero_or_pos j with e | e
      · exact e
      · rw [List.getElem?_eq_none (by simp; omega)] at hj; cases hj
    subst this
    simp at hj
    subst hj
    simpa [Addr.add] using hc
  · intro u hu
    simp at hu
    subst hu
    rfl
  · intro v' w' h1 h2 _
    refine h v' w' ?_ h2 ((Below.refl _ _).grown h2 hbase (fun k hk => (World.ownsRow.lt hown k hk).1))
    unfold OwnB
    have e : bcs (l ++ [b]) = bcs l ++ [bc b] := by simp [bcs]
    rw [e, List.length_append]
    exact h1

theorem conv_cells {w : World} {b off cap : Nat} {l : List UInt8} (hc : ∀ i (h : i < l.length), w.cell? ⟨b, off + i, none⟩ = some (bc l[i])) :
    (convert 62 9 (.slice (some ⟨b, off, none⟩) l.length cap)).run Tryz.prog w = .ok (.string ⟨l.toArray⟩) w := by
  have h := run_convert_bytes_arg (P := Tryz.prog) w 62 5 Tryz.underlying62 Tryz.underlying5 b off l.length cap (l.map fun b => (b.toNat : Int)) (by simp) (fun i hi => by
    rw [hc i hi]
    simp [bc, hi]) 9 Tryz.underlying9
  rw [h]
  simp only [strOfNums, List.map_map]
  rw [show ((fun n : Int => UInt8.ofNat n.toNat) ∘ fun b : UInt8 => (b.toNat : Int)) = id from funext fun b => by simp, List.map_id]

theorem OwnB.conv {w : World} {base : Nat} {v : Value} {l : List UInt8} (h : OwnB w base v l) :
    (convert 62 9 v).run Tryz.prog w = .ok (.string ⟨l.toArray⟩) w := by
  have hcl := fun g hg => World.ownsRow.cells (g := g) h hg
  obtain ⟨h1, h2⟩ := h
  rcases h2 with ⟨rfl, h0⟩ | ⟨g, cap, cur, rfl, hg, hh, hn, hm, hs, ht⟩
  · have : l = [] := List.eq_nil_of_length_eq_zero h0
    subst this
    rw [run_convert_bytes_nil w 62 5 Tryz.underlying62 Tryz.underlying5 0 0 9 Tryz.underlying9]
    rfl
  · refine conv_cells (fun i hi => ?_)
    have h3 := hcl g rfl i _ (bcs_get hi)
    have e : (⟨g, 0, none⟩ : Addr).add i = ⟨g, 0 + i, none⟩ := by unfold Addr.add; split <;> simp_all
    rw [e] at h3
    exact h3

/-! ### a row of bytes that is known whole -/
theorem setRow_alloc (w : World) (a b : Array Value) (t : TypeId) : (w.alloc (.cells a t)).setRow w.heap.size b = w.alloc (.cells b t) := by
  show ({ w.alloc (.cells a t) with heap := _ } : World) = _
  simp only [World.alloc]
  congr 1
  apply Array.ext
  · simp
  · intro i h1 h2
    simp at h1 h2
    by_cases e : i = w.heap.size
    · subst e; simp [Array.getElem_modify]
    · have h3 : i < w.heap.size := by omega
      simp [Array.getElem_modify, Array.getElem_push, h3, Ne.symm e]
theorem run_makeB (n : Nat) (hn : n < 4294967296) (w : World) :
    (Instr.makeSlice 62 (.int .i64 (n : Int)) (.int .i64 (n : Int))).run Tryz.prog w = .ok (.slice (some ⟨w.heap.size, 0, none⟩) n n) (w.alloc (.cells (bcs (List.replicate n 0)).toArray 5)) := by
  obtain ⟨i0, hi, hz0, hz1, hz2⟩ := info_parts info_u8
  have hr := run_make (P := Tryz.prog) w 62 5 i0 (.int .u8 0) Tryz.underlying62 hi hz0 .i64 .i64 (n : Int) (n : Int) (by omega) (by omega) (by rw [hz2]; omega) (by omega)
  simp only [Int.toNat_natCast] at hr
  rw [hr, hz1, Nat.mul_one]
  congr 3
  apply Array.toList_inj.1
  rw [show (Value.int IntKind.u8 0).cells = #[.int .u8 0] from rfl, toList_madeCells_one]
  simp [bcs, bc]
theorem run_makeBc (n : Nat) (hn : n < 4294967296) (w : World) :
    (Instr.makeSlice 62 (.int .i64 0) (.int .i64 (n : Int))).run Tryz.prog w = .ok (.slice (some ⟨w.heap.size, 0, none⟩) 0 n) (w.alloc (.cells (bcs (List.replicate n 0)).toArray 5)) := by
  obtain ⟨i0, hi, hz0, hz1, hz2⟩ := info_parts info_u8
  have hr := run_make (P := Tryz.prog) w 62 5 i0 (.int .u8 0) Tryz.underlying62 hi hz0 .i64 .i64 (0 : Int) (n : Int) (by omega) (by omega) (by rw [hz2]; omega) (by omega)
  simp only [Int.toNat_natCast] at hr
  rw [hr, hz1, Nat.mul_one]
  congr 3
  apply Array.toList_inj.1
  rw [show (Value.int IntKind.u8 0).cells = #[.int .u8 0] from rfl, toList_madeCells_one]
  simp [bcs, bc]
theorem Blk.ownB0 {w : World} {g base n : Nat} {l : List UInt8} (h : Blk w g 5 (bcs l).toArray) (hn : l.length = n) (hb : base ≤ g) (hm : n ≤ maxLen) : OwnB w base (.slice (some ⟨g, 0, none⟩) 0 n) [] := by
  subst hn
  exact ⟨rfl, Or.inr ⟨g, l.length, (bcs l).toArray, rfl, hb, h, Nat.zero_le _, hm, by simp [bcs_len], by simp [bcs]⟩⟩
theorem Blk.ownB {w : World} {g base n : Nat} {l : List UInt8} (h : Blk w g 5 (bcs l).toArray) (hn : l.length = n) (hb : base ≤ g) (hm : n ≤ maxLen) : OwnB w base (.slice (some ⟨g, 0, none⟩) n n) l := by
  subst hn
  refine ⟨by rw [bcs_len, Nat.mul_one], Or.inr ⟨g, l.length, (bcs l).toArray, rfl, hb, h, Nat.le_refl _, hm, by simp [bcs_len], ?_⟩⟩
  simp [List.take_of_length_le (show (bcs l).length ≤ l.length by rw [bcs_len]; exact Nat.le_refl _)]
theorem Blk.bcell {w : World} {g : Nat} {l : List UInt8} (h : Blk w g 5 (bcs l).toArray) (j : Nat) (hj : j < l.length) : w.cell? ⟨g, j, none⟩ = some (bc l[j]) := by
  rw [h.cell j]
  simpa using bcs_get hj
theorem Blk.bcellAdd {w : World} {g : Nat} {l : List UInt8} (h : Blk w g 5 (bcs l).toArray) (j : Nat) (hj : j < l.length) : w.cell? ((⟨g, 0, none⟩ : Addr).add j) = some (bc l[j]) := by
  have e : (⟨g, 0, none⟩ : Addr).add j = ⟨g, j, none⟩ := by unfold Addr.add; split <;> simp_all
  rw [e]
  exact h.bcell j hj
theorem Blk.conv {w : World} {g n c : Nat} {l : List UInt8} (h : Blk w g 5 (bcs l).toArray) (hn : l.length = n) :
    (convert 62 9 (.slice (some ⟨g, 0, none⟩) n c)).run Tryz.prog w = .ok (.string ⟨l.toArray⟩) w := by
  subst hn
  exact conv_cells fun i hi => by rw [Nat.zero_add]; exact h.bcell i hi
/-- 'copy(b, s)', s a string that fits, b a new row of bytes -/
theorem run_copyB (w : World) (ty : TypeId) (l : List UInt8) (s : ByteArray) (n : Nat) (hn : l.length = n) (h : s.size ≤ n) :
    (Builtin.copy_ #[62, 9] ty #[.slice (some ⟨w.heap.size, 0, none⟩) n n, .string s]).run Tryz.prog (w.alloc (.cells (bcs l).toArray 5)) =
      .ok (goInt s.size) (w.alloc (.cells (bcs (s.data.toList ++ l.drop s.size)).toArray 5)) := by
  have hr := Lib.run_copy_row_string (P := Tryz.prog) (w.alloc (.cells (bcs l).toArray 5)) 62 9 ty 5 w.heap.size 0 n n s (bcs l).toArray 5 Tryz.underlying62 (by kernel_rfl) (heap_alloc_new _ _) h (by simp [bcs_len]; omega)
  rw [hr, setRow_alloc]
  congr 4
  simp [bcs, Lib.byteCells]
  intro a _
  rfl
/-- a row of bytes of which the first ones read as l, and may be written -/
def BRow (w : World) (g : Nat) (l : List UInt8) : Prop := (∀ i (h : i < l.length), w.cell? ⟨g, i, none⟩ = some (bc l[i])) ∧ ∀ i, i < l.length → w.frozen? ⟨g, i, none⟩ = false
theorem BRow.set_ {w : World} {g : Nat} {l : List UInt8} (h : BRow w g l) (i : Nat) (hi : i < l.length) (b : UInt8) : BRow (w.setCell ⟨g, i, none⟩ (bc b)) g (l.set i b) := by
  refine ⟨fun j hj => ?_, fun j hj => ?_⟩
  · rw [List.length_set] at hj
    by_cases e : i = j
    · subst e
      rw [World.cell?_setCell_same _ _ _ (h.1 i hi)]
      simp
    · rw [World.cell?_setCell_other _ _ _ _ (fun h2 => e (Addr.mk.inj h2).2.1), h.1 j hj]
      simp [List.getElem_set_ne e]
  · rw [List.length_set] at hj
    rw [World.frozen?_setCell]
    exact h.2 j hj
theorem BRow.drew {w : World} {g : Nat} {l : List UInt8} (h : BRow w g l) : BRow w.drew g l := h
theorem BRow.conv {w : World} {g n c : Nat} {l : List UInt8} (h : BRow w g l) (hn : l.length = n) :
    (convert 62 9 (.slice (some ⟨g, 0, none⟩) n c)).run Tryz.prog w = .ok (.string ⟨l.toArray⟩) w := by
  subst hn
  exact conv_cells fun i hi => by rw [Nat.zero_add]; exact h.1 i hi
theorem BRow.of_string (w : World) (s : ByteArray) : BRow (Lib.bytesWorld w 5 s) w.heap.size s.data.toList := by
  refine ⟨fun i hi => ?_, fun i hi => ?_⟩
  · rw [Lib.bytesWorld_cell w 5 s i (by simpa using hi)]
    have h3 : i < s.size := by simpa using hi
    have h4 : s.data.toList.getD i 0 = s.data.toList[i] := by simp [List.getD, h3]
    rw [h4]
    rfl
  · have h1 := Lib.bytesWorld_at_new w 5 s
    simp only [World.frozen?, h1]
    have h2 : s.size ≤ (Lib.bytesCells w 5 s).size := by simp [Lib.bytesCells]
    have h3 : i < s.size := by simpa using hi
    simp
    omega
theorem below_bytes (w : World) (s : ByteArray) : Below w.heap.size w (Lib.bytesWorld w 5 s) := by
  refine ⟨rfl, rfl, rfl, by rw [Lib.bytesWorld_size]; omega, fun k hk => Lib.bytesWorld_at_old w 5 s k hk⟩
end Go.Proofs.YtmhmdoobadckkaaGreatDoor
/- What becomes of the world where some old blocks are written: all blocks but those of F are as they were. -/
namespace Go.Proofs.YtmhmdoobadckkaaGreatDoor
set_option maxRecDepth 20000
open Go.RowKit Go.OpenShut

/-- from a to w nothing that a had is another one, but for the blocks of F -/
structure Chg (F : Nat → Prop) (a w : World) : Prop where
  os : w.os = a.os
  tape : w.tape = a.tape
  output : w.output = a.output
  size : a.heap.size ≤ w.heap.size
  block : ∀ k, k < a.heap.size → ¬ F k → w.heap[k]? = a.heap[k]?
section
variable {F G : Nat → Prop} {a b w w' : World}
theorem Chg.refl (F : Nat → Prop) (w : World) : Chg F w w := ⟨rfl, rfl, rfl, Nat.le_refl _, fun _ _ _ => rfl⟩
theorem Chg.trans (h : Chg F a b) (k : Chg G b w) (hFG : ∀ j, j < a.heap.size → G j → F j) : Chg F a w :=
  ⟨k.os.trans h.os, k.tape.trans h.tape, k.output.trans h.output, Nat.le_trans h.size k.size,
    fun j hj hn => (k.block j (Nat.lt_of_lt_of_le hj h.size) (fun e => hn (hFG j hj e))).trans (h.block j hj hn)⟩
theorem Chg.mono (h : Chg F a w) (hFG : ∀ j, j < a.heap.size → F j → G j) : Chg G a w :=
  ⟨h.os, h.tape, h.output, h.size, fun j hj hn => h.block j hj (fun e => hn (hFG j hj e))⟩
theorem Chg.of_below {B : Nat} (h : Below B a w) : Chg (fun k => B ≤ k) a w :=
  ⟨h.os, h.tape, h.output, h.size, fun j _ hn => h.block j (by omega)⟩
theorem Chg.below {B : Nat} (h : Chg F a w) (hB : B ≤ a.heap.size) (hF : ∀ j, j < B → ¬ F j) : Below B a w :=
  ⟨h.os, h.tape, h.output, h.size, fun j hj => h.block j (by omega) (hF j hj)⟩
theorem Chg.drew (h : Chg F a w) : Chg F a w.drew := ⟨h.os, h.tape, h.output, h.size, h.block⟩
theorem Chg.alloc (h : Chg F a w) (o : Obj) : Chg F a (w.alloc o) :=
  h.trans (G := fun k => w.heap.size ≤ k) (Chg.of_below ((Below.refl _ _).alloc (Nat.le_refl _) o)) (fun j hj e => absurd (Nat.lt_of_lt_of_le hj h.size) (by omega))
theorem Chg.setCell (h : Chg F a w) {p : Addr} (hp : F p.block ∨ a.heap.size ≤ p.block) (u : Value) : Chg F a (w.setCell p u) :=
  ⟨h.os, h.tape, h.output, by simpa using h.size, fun j hj hn => (Below.heap_setCell w p u j (fun e => by
    subst e
    rcases hp with hp | hp
    · exact hn hp
    · omega)).trans (h.block j hj hn)⟩
theorem Chg.then (h : Chg F a w) (k : Below w.heap.size w w') : Chg F a w' :=
  h.trans (Chg.of_below k) (fun j hj e => absurd (Nat.lt_of_lt_of_le hj h.size) (by omega))
theorem Chg.keeps {g : Nat} {t : TypeId} {cs : Array Value} (h : Chg F a w) (k : Blk a g t cs) (hg : ¬ F g) : Blk w g t cs := (h.block g k.lt hg).trans k
end
theorem Blk.newAt {w : World} {g : Nat} {t : TypeId} {cs : Array Value} (h : w.heap.size = g) : Blk (w.alloc (.cells cs t)) g t cs := h ▸ Blk.new w t cs
end Go.Proofs.YtmhmdoobadckkaaGreatDoor
/- Maps with keys of type int, element by element. -/
namespace Go.Proofs.YtmhmdoobadckkaaGreatDoor
set_option maxRecDepth 20000
open Go.RowKit Go.OpenShut

def mfind {β : Type} : List (Int × β) → Int → Option β
  | [], _ => none
  | (k, v) :: l, x => if x = k then some v else mfind l x
def MapB (w : World) (r : Nat) (l : List (Int × Value)) : Prop :=
  ∃ (es : Array MapEntry) (clock : Nat), w.heap[r]? = some (.map es clock) ∧ es.toList.map (fun e => (e.key, e.val)) = l.map (fun x => (Value.int .i64 x.1, x.2)) ∧ MapKept.Stamped es clock
theorem findNow_ints (q : IntKind) (x : Int) : ∀ (es : List MapEntry) (l : List (Int × Value)) (i : Nat), es.map (fun e => (e.key, e.val)) = l.map (fun x => (Value.int .i64 x.1, x.2)) →
    ∃ o, Instr.findNow (.int q) (.int .i64 x) es i = some o ∧ o.map (·.2) = mfind l x
  | [], [], i, _ => ⟨none, rfl, rfl⟩
  | [], _ :: _, _, h => by simp at h
  | _ :: _, [], _, h => by simp at h
  | e :: es, y :: l, i, h => by
    simp only [List.map_cons, List.cons.injEq, Prod.mk.injEq] at h
    obtain ⟨⟨h1, h2⟩, h3⟩ := h
    obtain ⟨o, h4, h5⟩ := findNow_ints q x es l (i + 1) h3
    obtain ⟨k, v⟩ := y
    dsimp only at h1 h2
    unfold Instr.findNow
    rw [h1]
    simp only [Instr.sameNow, if_true]
    by_cases e1 : x = k
    · rw [beq_iff_eq.2 e1]
      exact ⟨some (i, e.val), rfl, by simp [mfind, e1, h2]⟩
    · rw [beq_eq_false_iff_ne.2 e1]
      exact ⟨o, h4, by simp [mfind, e1, h5]⟩
theorem lookup_ints {P : Program} {T K E : TypeId} (hT : P.underlying T = some (.map K E)) (hK : P.underlying K = some (.int .i64)) {z : Value} (hz : ∀ w, (zeroValue E).run P w = .ok z w) {w : World} {r : Nat} {l : List (Int × Value)} (h : MapB w r l) (x : Int) :
    (Instr.lookup T (.map (some r)) (.int .i64 x) false).run P w = .ok ((mfind l x).getD z) w := by
  obtain ⟨es, clock, hb, he, hst⟩ := h
  obtain ⟨o, h1, h2⟩ := findNow_ints .i64 x es.toList l 0 he
  have hck : (Instr.checkKey es.isEmpty 10000 K (.int .i64 x)).run P w = .ok () w := by
    unfold Instr.checkKey
    simp [underlying, hK, go_sem]
  have hf : (Instr.findKey K (.int .i64 x) es.toList).run P w = .ok o w := by
    unfold Instr.findKey
    simp [run_underlying hK, h1, Result.andThen]
  cases o with
  | none =>
    rw [← h2]
    simp [Instr.lookup, run_underlying hT, MapKept.run_getObj_map hb, hck, hf, hz, Result.andThen]
  | some y =>
    rw [← h2]
    simp [Instr.lookup, run_underlying hT, MapKept.run_getObj_map hb, hck, hf, Result.andThen]
def mset {β : Type} : List (Int × β) → Int → β → List (Int × β)
  | [], x, v => [(x, v)]
  | (k, u) :: l, x, v => if x = k then (k, v) :: l else (k, u) :: mset l x v
def mdel {β : Type} : List (Int × β) → Int → List (Int × β)
  | [], _ => []
  | (k, u) :: l, x => if x = k then l else (k, u) :: mdel l x
def ekv (e : MapEntry) : Value × Value := (e.key, e.val)
def ikv (x : Int × Value) : Value × Value := (.int .i64 x.1, x.2)
theorem findNow_at (q : IntKind) (x : Int) : ∀ (es : List MapEntry) (l : List (Int × Value)) (i : Nat), es.map ekv = l.map ikv →
    (Instr.findNow (.int q) (.int .i64 x) es i = some none ∧ (mset l x = fun v => l ++ [(x, v)]) ∧ mdel l x = l ∧ ∀ y ∈ es, y.key ≠ .int .i64 x) ∨
    ∃ j e, Instr.findNow (.int q) (.int .i64 x) es i = some (some (i + j, e.val)) ∧ es[j]? = some e ∧ e.key = .int .i64 x ∧ (∀ v, mset l x v = l.set j (x, v)) ∧ mdel l x = l.eraseIdx j
  | [], [], i, _ => Or.inl ⟨rfl, rfl, rfl, fun y hy => by cases hy⟩
  | [], _ :: _, _, h => by simp at h
  | _ :: _, [], _, h => by simp at h
  | e :: es, y :: l, i, h => by
    simp only [List.map_cons, List.cons.injEq, ekv, ikv, Prod.mk.injEq] at h
    obtain ⟨⟨h1, h2⟩, h3⟩ := h
    obtain ⟨k, v⟩ := y
    dsimp only at h1 h2
    unfold Instr.findNow
    rw [h1]
    simp only [Instr.sameNow, if_true]
    by_cases e1 : x = k
    · subst e1
      rw [beq_iff_eq.2 rfl]
      exact Or.inr ⟨0, e, rfl, rfl, h1, fun v => by simp [mset], by simp [mdel]⟩
    · rw [beq_eq_false_iff_ne.2 e1]
      rcases findNow_at q x es l (i + 1) h3 with ⟨h4, h5, h9, h10⟩ | ⟨j, e', h4, h5, h6, h7, h8⟩
      · exact Or.inl ⟨h4, funext fun v => by simp [mset, e1, h5], by simp [mdel, e1, h9], fun y hy => by
          rcases List.mem_cons.1 hy with rfl | hy
          · rw [h1]; intro e2; exact e1 (by simpa using e2.symm)
          · exact h10 y hy⟩
      · exact Or.inr ⟨j + 1, e', by rw [show i + (j + 1) = i + 1 + j by omega]; exact h4, by simpa using h5, h6, fun v => by simp [mset, e1, h7], by simp [mdel, e1, h8]⟩
theorem check_int {P : Program} {K : TypeId} (hK : P.underlying K = some (.int .i64)) (em : Bool) (x : Int) (w : World) : (Instr.checkKey em 10000 K (.int .i64 x)).run P w = .ok () w := by
  unfold Instr.checkKey
  simp [underlying, hK, go_sem]
theorem find_int {P : Program} {K : TypeId} (hK : P.underlying K = some (.int .i64)) (x : Int) (es : List MapEntry) {o : Option (Nat × Value)} (h : Instr.findNow (.int .i64) (.int .i64 x) es 0 = some o) (w : World) : (Instr.findKey K (.int .i64 x) es).run P w = .ok o w := by
  unfold Instr.findKey
  simp [run_underlying hK, h, Result.andThen]
theorem stays_int {P : Program} (x : Int) (w : World) : (Instr.keyThatStays (.int .i64 x) (.int .i64 x)).run P w = .ok (.int .i64 x) w := by
  unfold Instr.keyThatStays
  simp [Instr.sameBits]
theorem heap_setB {w : World} {r : Nat} {es : Array MapEntry} {clock : Nat} (hb : w.heap[r]? = some (.map es clock)) (o : Obj) : ({ w with heap := w.heap.setIfInBounds r o } : World).heap[r]? = some o := by
  have hlt : r < w.heap.size := (Array.getElem?_eq_some_iff.1 hb).1
  simp [hlt]
theorem grown_setB {w : World} {r : Nat} {es : Array MapEntry} {clock : Nat} (_hb : w.heap[r]? = some (.map es clock)) (o : Obj) : w.grownBy { w with heap := w.heap.setIfInBounds r o } (some r) :=
  ⟨rfl, rfl, rfl, by simp, fun i _ hi => by
    have : r ≠ i := fun e => hi (by rw [e])
    simp [this]⟩
theorem update_ints {P : Program} {T K E : TypeId} (hT : P.underlying T = some (.map K E)) (hK : P.underlying K = some (.int .i64)) {w : World} {r : Nat} {l : List (Int × Value)} (h : MapB w r l) (x : Int) (v : Value) :
    ∃ w', (Instr.mapUpdate T (.map (some r)) (.int .i64 x) v).run P w = .ok () w' ∧ MapB w' r (mset l x v) ∧ w.grownBy w' (some r) := by
  obtain ⟨es, clock, hb, he, hst⟩ := h
  have he' : es.toList.map ekv = l.map ikv := he
  rcases findNow_at .i64 x es.toList l 0 he' with ⟨h4, h5, _, h10⟩ | ⟨j, e, h4, h5, h6, h7, _⟩
  · refine ⟨_, by simp [Instr.mapUpdate, run_underlying hT, MapKept.run_getObj_map hb, check_int hK, find_int hK x _ h4, MapKept.run_setObj_map _ hb, Result.andThen], ⟨es.push ⟨.int .i64 x, v, clock⟩, clock + 1, heap_setB hb _, ?_, MapKept.stamped_push hst h10⟩, grown_setB hb _⟩
    rw [congrFun h5 v]
    simp [he]
  · rw [Nat.zero_add] at h4
    have hej : es[j]? = some e := by rw [← Array.getElem?_toList]; exact h5
    have hk : ((es[j]?).map (·.key)).getD (.int .i64 x) = .int .i64 x := by rw [hej]; exact h6
    refine ⟨_, by simp [Instr.mapUpdate, run_underlying hT, MapKept.run_getObj_map hb, check_int hK, find_int hK x _ h4, hej, h6, stays_int, MapKept.run_setObj_map _ hb, Result.andThen], ⟨es.modify j fun e => { e with key := .int .i64 x, val := v }, clock, heap_setB hb _, ?_, MapKept.stamped_modify hst j _ (fun _ _ => rfl) (fun e' _ h' => by rw [hej] at h'; cases h'; exact h6.symm)⟩, grown_setB hb _⟩
    rw [h7 v]
    have hmm : (es.modify j fun e => { e with key := .int .i64 x, val := v }).toList.map ekv = (es.toList.map ekv).set j (.int .i64 x, v) := by
      apply List.ext_getElem?
      intro i
      simp only [List.getElem?_map, Array.getElem?_toList, Array.getElem?_modify, List.getElem?_set, List.length_map, Array.length_toList]
      by_cases e1 : j = i
      · subst e1
        rw [if_pos rfl, if_pos rfl, hej]
        have : j < es.size := (Array.getElem?_eq_some_iff.1 hej).1
        simp [this, ekv]
      · rw [if_neg e1, if_neg e1]
    show (es.modify j fun e => { e with key := .int .i64 x, val := v }).toList.map ekv = _
    rw [hmm, he', List.map_set]
    rfl
theorem delete_ints {P : Program} {T K E ty : TypeId} (hT : P.underlying T = some (.map K E)) (hK : P.underlying K = some (.int .i64)) {w : World} {r : Nat} {l : List (Int × Value)} (h : MapB w r l) (x : Int) :
    ∃ w', (Builtin.delete_ #[T, K] ty #[.map (some r), .int .i64 x]).run P w = .ok (.tuple #[]) w' ∧ MapB w' r (mdel l x) ∧ w.grownBy w' (some r) := by
  obtain ⟨es, clock, hb, he, hst⟩ := h
  have he' : es.toList.map ekv = l.map ikv := he
  rcases findNow_at .i64 x es.toList l 0 he' with ⟨h4, _, h9, _⟩ | ⟨j, e, h4, h5, h6, _, h8⟩
  · refine ⟨_, by simp [Builtin.delete_, run_underlying hT, MapKept.run_getObj_map hb, check_int hK, find_int hK x _ h4, MapKept.run_setObj_map _ hb, Result.andThen], ⟨es, clock, heap_setB hb _, ?_, hst⟩, grown_setB hb _⟩
    rw [h9]
    exact he
  · rw [Nat.zero_add] at h4
    refine ⟨_, by simp [Builtin.delete_, run_underlying hT, MapKept.run_getObj_map hb, check_int hK, find_int hK x _ h4, MapKept.run_setObj_map _ hb, Result.andThen], ⟨es.eraseIdxIfInBounds j, clock, heap_setB hb _, ?_, MapKept.stamped_erase hst j⟩, grown_setB hb _⟩
    rw [h8]
    show (es.eraseIdxIfInBounds j).toList.map ekv = (l.eraseIdx j).map ikv
    rw [Array.toList_eraseIdxIfInBounds, ChangeMaps.map_eraseIdx, he', ChangeMaps.map_eraseIdx]
theorem clear_ints {P : Program} {T K E ty : TypeId} (hT : P.underlying T = some (.map K E)) {w : World} {r : Nat} {l : List (Int × Value)} (h : MapB w r l) :
    ∃ w', (Builtin.clear_ #[T] ty #[.map (some r)]).run P w = .ok (.tuple #[]) w' ∧ MapB w' r [] ∧ w.grownBy w' (some r) := by
  obtain ⟨es, clock, hb, he, hst⟩ := h
  refine ⟨_, by simp [Builtin.clear_, run_underlying hT, MapKept.run_getObj_map hb, MapKept.run_setObj_map _ hb, Result.andThen], ⟨#[], clock, heap_setB hb _, rfl, MapKept.stamped_empty clock⟩, grown_setB hb _⟩
section
variable {P : Program} {w : World} {ops : Array Oper} {rest : List Oper} {o : Oper} {a : Act} {Q : Exit → Act → World → Prop}
/-- 'm[k] = v' at the operation: (at_mapUpdate; refine wp_updateI rfl ..) -/
theorem wp_updateI (hg : o.guard = none) (m x v : Operand) (T : TypeId) (hop : o.op = Op.mapUpdate T m x v) (K E : TypeId) (hT : P.underlying T = some (.map K E)) (hK : P.underlying K = some (.int .i64)) (r : Nat) (l : List (Int × Value))
    (hm : a.eval m = .map (some r)) (h : MapB w r l) (k : Int) (val : Value) (hx : a.eval x = .int .i64 k) (hv : a.eval v = val)
    (hQ : ∀ w', MapB w' r (mset l k val) → w.grownBy w' (some r) → wpList P ops Q rest (a.put o.dst undef) w') : wpList P ops Q (o :: rest) a w := by
  refine wpList_plain hg fun K' hK' => ?_
  obtain ⟨w', hrun, r1, r2⟩ := update_ints hT hK h k val
  unfold Oper.wp
  simp [execOp, hop, hm, hx, hv, hrun, Result.andThen]
  exact hK' _ _ (hQ w' r1 r2)
/-- 'delete(m, k)' at the operation -/
theorem wp_deleteI (hg : o.guard = none) (m x : Operand) (T K : TypeId) (hop : o.op = Op.call { callee := Callee.builtin Builtin.delete, args := #[m, x], argTypes := #[T, K] }) (E : TypeId) (hT : P.underlying T = some (.map K E)) (hK : P.underlying K = some (.int .i64)) (r : Nat) (l : List (Int × Value))
    (hm : a.eval m = .map (some r)) (h : MapB w r l) (k : Int) (hx : a.eval x = .int .i64 k)
    (hQ : ∀ w', MapB w' r (mdel l k) → w.grownBy w' (some r) → wpList P ops Q rest (a.put o.dst (.tuple #[])) w') : wpList P ops Q (o :: rest) a w := by
  refine wpList_plain hg fun K' hK' => ?_
  obtain ⟨w', hrun, r1, r2⟩ := delete_ints (ty := o.type) hT hK h k
  unfold Oper.wp
  simp [execOp, hop, resolve, invoke, builtin, hm, hx, hrun, Result.andThen]
  exact hK' _ _ (hQ w' r1 r2)
/-- 'clear(m)' at the operation -/
theorem wp_clearI (hg : o.guard = none) (m : Operand) (T : TypeId) (hop : o.op = Op.call { callee := Callee.builtin Builtin.clear, args := #[m], argTypes := #[T] }) (K E : TypeId) (hT : P.underlying T = some (.map K E)) (r : Nat) (l : List (Int × Value))
    (hm : a.eval m = .map (some r)) (h : MapB w r l)
    (hQ : ∀ w', MapB w' r [] → w.grownBy w' (some r) → wpList P ops Q rest (a.put o.dst (.tuple #[])) w') : wpList P ops Q (o :: rest) a w := by
  refine wpList_plain hg fun K' hK' => ?_
  obtain ⟨w', hrun, r1, r2⟩ := clear_ints (ty := o.type) hT h
  unfold Oper.wp
  simp [execOp, hop, resolve, invoke, builtin, hm, hrun, Result.andThen]
  exact hK' _ _ (hQ w' r1 r2)
end
/-- such a map, as the kit's own word has it -/
theorem MapB.own {P : Program} {k : TypeId} (hk : P.underlying k = some (.int .i64)) {w : World} {r : Nat} {l : List (Int × Value)} (h : MapB w r l) (hr : ∀ x ∈ l, -9223372036854775808 ≤ x.1 ∧ x.1 ≤ 9223372036854775807) (hn : l.length ≤ maxLen) :
    ∃ D : DataW Unit, w.ownsMap P k (fun _ => some (.nil, [])) r l.length D ∧ (intKeys D).Perm (l.map (·.1)) ∧ Maps.size D = l.length := by
  obtain ⟨es, clock, hb, he, hst⟩ := h
  have hlen : es.size = l.length := by
    have := congrArg List.length he
    simpa using this
  have hrg : ∀ (es : List MapEntry) (l : List (Int × Value)), es.map (fun e => (e.key, e.val)) = l.map (fun x => (Value.int .i64 x.1, x.2)) → (∀ x ∈ l, -9223372036854775808 ≤ x.1 ∧ x.1 ≤ 9223372036854775807) →
      (∀ x ∈ es, ∃ y, WideElems.rd (H := Unit) P k (fun _ => some (.nil, [])) x = some y) ∧ (es.map (WideElems.rg (H := Unit) P k fun _ => some (.nil, []))).map (fun p => intOf p.1) = l.map (·.1) := by
    intro es
    induction es with
    | nil => intro l h _; cases l with
      | nil => exact ⟨(fun x hx => by cases hx), rfl⟩
      | cons _ _ => simp at h
    | cons e es ih =>
      intro l h hr
      cases l with
      | nil => simp at h
      | cons y l =>
        simp only [List.map_cons, List.cons.injEq, Prod.mk.injEq] at h
        obtain ⟨⟨h1, h2⟩, h3⟩ := h
        obtain ⟨i1, i2⟩ := ih l h3 (fun x hx => hr x (by simp [hx]))
        have hw : (Lit.int .i64 y.1).wf = true := by
          have := hr y (by simp)
          simp [Lit.wf, IntKind.min, IntKind.max, IntKind.bits, IntKind.signed]
          omega
        have hrd : WideElems.rd (H := Unit) P k (fun _ => some (.nil, [])) e = some (.int .i64 y.1, .nil) := by
          simp [WideElems.rd, h1, keyOf, hk, mapKey, hw]
        refine ⟨fun x hx => ?_, ?_⟩
        · rcases List.mem_cons.1 hx with rfl | hx
          · exact ⟨_, hrd⟩
          · exact i1 x hx
        · rw [List.map_cons, List.map_cons, List.map_cons, i2]
          simp [WideElems.rg, hrd, intOf]
  obtain ⟨h1, h2⟩ := hrg es.toList l he hr
  refine ⟨_, ⟨es, clock, hb, ⟨by omega, hst, h1⟩, by omega, rfl⟩, ?_, ?_⟩
  · have h3 := (WideShapes.sorted_perm (es.toList.map (WideElems.rg (H := Unit) P k fun _ => some (.nil, [])))).map (fun p => intOf p.1)
    rw [h2] at h3
    exact h3
  · show (List.foldr DataW.insert [] _).length = _
    rw [length_sorted]
    simp [hlen]
end Go.Proofs.YtmhmdoobadckkaaGreatDoor
/- A drive as the laws see it: plain data, and what each method makes of it. No memory here. -/
namespace Go.Proofs.YtmhmdoobadckkaaGreatDoor
set_option maxRecDepth 20000

abbrev Sec := ByteArray
/-- what is safe; what is pending (a sector's number, its writes in order; in the order of the map); what is spoilt; how many writes are left, if the power is limited -/
structure Drv where
  safe : List Sec
  writes : List (Int × List Sec)
  spoilt : List Int
  dead : Bool
  lim : Option Nat
def sec0 : Sec := ⟨(List.replicate 64 (0 : UInt8)).toArray⟩
def Drv.new (n : Nat) : Drv := ⟨List.replicate n sec0, [], [], false, none⟩
def Drv.off (D : Drv) : Bool := match D.lim with | some 0 => true | _ => false
def Drv.n (D : Drv) : Nat := D.safe.length
def Drv.may (D : Drv) (i : Int) : Int := if D.dead then 40 else if D.off then 42 else if i < 0 ∨ i ≥ D.n then 70 else 0
def Drv.pend (D : Drv) (i : Int) : List Sec := (mfind D.writes i).getD []
def Drv.cur (D : Drv) (i : Int) : Sec := match (D.pend i).getLast? with | some x => x | none => D.safe.getD i.toNat ⟨#[]⟩
def Drv.readE (D : Drv) (i : Int) : Int := if D.may i ≠ 0 then D.may i else if i ∈ D.spoilt then 41 else 0
def Drv.readS (D : Drv) (i : Int) : Sec := if D.readE i = 0 then D.cur i else ⟨#[]⟩
def Drv.wrE (D : Drv) (i : Int) (s : Sec) : Int := if D.may i ≠ 0 then D.may i else if s.size ≠ 64 then 1 else 0
def Drv.wrOK (D : Drv) (i : Int) (s : Sec) : Drv := { D with writes := mset D.writes i (D.pend i ++ [s]), spoilt := D.spoilt.erase i, lim := D.lim.map (· - 1) }
def Drv.wr (D : Drv) (i : Int) (s : Sec) : Drv := if D.wrE i s = 0 then D.wrOK i s else D
def Drv.chOK (D : Drv) (i : Int) (s : Sec) : Drv := { D with safe := D.safe.set i.toNat s, writes := mdel D.writes i }
def Drv.ch (D : Drv) (i : Int) (s : Sec) : Drv := if D.wrE i s = 0 then D.chOK i s else D
def Drv.spOK (D : Drv) (i : Int) : Drv := { D with spoilt := if i ∈ D.spoilt then D.spoilt else D.spoilt ++ [i] }
def Drv.sp (D : Drv) (i : Int) : Drv := if D.may i = 0 then D.spOK i else D
def keysUp (l : List (Int × List Sec)) : List Int := (l.map (·.1)).mergeSort (fun a b => decide (a ≤ b))
/-- settle the writes of the keys l, of which the first one is the k-th: so many of each are kept -/
def settleF (many : Nat → Nat → Nat) (ws : List (Int × List Sec)) : Nat → List Int → List Sec → List Sec
  | _, [], sf => sf
  | k, i :: r, sf =>
    let l := (mfind ws i).getD []
    settleF many ws (k + 1) r (if many k l.length = 0 then sf else sf.set i.toNat (l.getD (many k l.length - 1) ⟨#[]⟩))
def Drv.settle (D : Drv) (many : Nat → Nat → Nat) : Drv := { D with safe := settleF many D.writes 0 (keysUp D.writes) D.safe, writes := [] }
def Drv.flE (D : Drv) : Int := if D.dead then 40 else if D.off then 42 else 0
def Drv.flOK (D : Drv) : Drv := { D.settle (fun _ m => m) with lim := D.lim.map (· - 1) }
def Drv.fl (D : Drv) : Drv := if D.flE = 0 then D.flOK else D
def Drv.die (D : Drv) : Drv := { D with dead := true }
def Drv.limit (D : Drv) (after : Int) : Drv := { D with lim := some after.toNat }
def keepN (keep : List Nat) (k m : Nat) : Nat := if keep = [] then 0 else keep.getD (k % keep.length) 0 % (m + 1)
def Drv.crash (D : Drv) (keep : List Nat) : Drv := { D.settle (keepN keep) with lim := none }
/-- what is so of every drive that was made -/
structure Drv.wf (D : Drv) : Prop where
  le : D.safe.length ≤ 4096
  safe : ∀ x ∈ D.safe, x.size = 64
  keys : ∀ x ∈ D.writes, 0 ≤ x.1 ∧ x.1 < D.safe.length
  pend : ∀ x ∈ D.writes, x.2 ≠ [] ∧ ∀ y ∈ x.2, y.size = 64
  nodup : (D.writes.map (·.1)).Nodup
  spN : D.spoilt.Nodup
  spK : ∀ i ∈ D.spoilt, 0 ≤ i ∧ i < D.safe.length
  lim : ∀ k, D.lim = some k → k ≤ 9223372036854775807

section
variable {β γ : Type}
theorem mfind_mset (l : List (Int × β)) (k x : Int) (v : β) : mfind (mset l k v) x = if x = k then some v else mfind l x := by
  induction l with
  | nil => simp [mset, mfind]
  | cons y l ih =>
    obtain ⟨a, b⟩ := y
    by_cases e : k = a
    · subst e
      by_cases e2 : x = k <;> simp [mset, mfind, e2]
    · by_cases e2 : x = a
      · subst e2
        simp [mset, mfind, e, Ne.symm e]
      · simp [mset, mfind, e, e2, ih]
theorem mfind_mdel (l : List (Int × β)) (h : (l.map (·.1)).Nodup) (k x : Int) : mfind (mdel l k) x = if x = k then none else mfind l x := by
  induction l with
  | nil => simp [mdel, mfind]
  | cons y l ih =>
    obtain ⟨a, b⟩ := y
    simp only [List.map_cons, List.nodup_cons] at h
    have hn : ∀ z, z ∉ l.map (·.1) → mfind l z = none := by
      clear ih h
      intro z hz
      induction l with
      | nil => rfl
      | cons y l ih =>
        obtain ⟨c, d⟩ := y
        simp only [List.map_cons, List.mem_cons, not_or] at hz
        simp [mfind, hz.1, ih hz.2]
    by_cases e : k = a
    · subst e
      by_cases e2 : x = k
      · subst e2
        simp [mdel, hn _ h.1]
      · simp [mdel, mfind, e2]
    · by_cases e2 : x = a
      · subst e2
        simp [mdel, mfind, e, Ne.symm e]
      · simp [mdel, mfind, e, e2, ih h.2]
theorem mem_mset {l : List (Int × β)} {k : Int} {v : β} {x : Int × β} (h : x ∈ mset l k v) : x = (k, v) ∨ x ∈ l := by
  induction l with
  | nil => simpa [mset] using h
  | cons y l ih =>
    obtain ⟨a, b⟩ := y
    by_cases e : k = a
    · subst e
      simp [mset] at h
      rcases h with h | h <;> simp [h]
    · simp [mset, e] at h
      rcases h with h | h
      · simp [h]
      · rcases ih h with h | h <;> simp [h]
theorem mem_mdel {l : List (Int × β)} {k : Int} {x : Int × β} (h : x ∈ mdel l k) : x ∈ l := by
  induction l with
  | nil => simp [mdel] at h
  | cons y l ih =>
    obtain ⟨a, b⟩ := y
    by_cases e : k = a
    · subst e
      simp [mdel] at h
      simp [h]
    · simp [mdel, e] at h
      rcases h with h | h
      · simp [h]
      · simp [ih h]
theorem keys_mset (l : List (Int × β)) (k : Int) (v : β) : (mset l k v).map (·.1) = if k ∈ l.map (·.1) then l.map (·.1) else l.map (·.1) ++ [k] := by
  induction l with
  | nil => simp [mset]
  | cons y l ih =>
    obtain ⟨a, b⟩ := y
    by_cases e : k = a
    · subst e
      simp [mset]
    · have e1 : (mset ((a, b) :: l) k v).map (·.1) = a :: (mset l k v).map (·.1) := by simp [mset, e]
      rw [e1, ih, List.map_cons]
      by_cases hk : k ∈ l.map (·.1)
      · rw [if_pos hk, if_pos (List.mem_cons_of_mem _ hk)]
      · rw [if_neg hk, if_neg (fun h => (List.mem_cons.1 h).elim e hk)]
        rfl
theorem keys_mdel (l : List (Int × β)) (k : Int) : (mdel l k).map (·.1) = (l.map (·.1)).erase k := by
  induction l with
  | nil => simp [mdel]
  | cons y l ih =>
    obtain ⟨a, b⟩ := y
    by_cases e : k = a
    · subst e
      simp [mdel]
    · simp [mdel, e, ih, Ne.symm e]
theorem nodup_mset {l : List (Int × β)} (h : (l.map (·.1)).Nodup) (k : Int) (v : β) : ((mset l k v).map (·.1)).Nodup := by
  rw [keys_mset]
  split
  · exact h
  · rename_i hk
    rw [List.nodup_append]
    refine ⟨h, by simp, fun a ha b hb => ?_⟩
    simp at hb
    subst hb
    intro e
    exact hk (e ▸ ha)
theorem nodup_mdel {l : List (Int × β)} (h : (l.map (·.1)).Nodup) (k : Int) : ((mdel l k).map (·.1)).Nodup := by
  rw [keys_mdel]
  exact h.erase _
theorem mfind_mem {l : List (Int × β)} {k : Int} {v : β} (h : mfind l k = some v) : (k, v) ∈ l := by
  induction l with
  | nil => simp [mfind] at h
  | cons y l ih =>
    obtain ⟨a, b⟩ := y
    by_cases e : k = a
    · subst e
      simp [mfind] at h
      simp [h]
    · simp [mfind, e] at h
      simp [ih h]
theorem mfind_none {l : List (Int × β)} {k : Int} (h : k ∉ l.map (·.1)) : mfind l k = none := by
  induction l with
  | nil => rfl
  | cons y l ih =>
    obtain ⟨a, b⟩ := y
    simp only [List.map_cons, List.mem_cons, not_or] at h
    simp [mfind, h.1, ih h.2]
theorem mfind_some {l : List (Int × β)} (hn : (l.map (·.1)).Nodup) {k : Int} {v : β} (h : (k, v) ∈ l) : mfind l k = some v := by
  induction l with
  | nil => simp at h
  | cons y l ih =>
    obtain ⟨a, b⟩ := y
    simp only [List.map_cons, List.nodup_cons] at hn
    simp only [List.mem_cons, Prod.mk.injEq] at h
    rcases h with ⟨rfl, rfl⟩ | h
    · simp [mfind]
    · have : k ≠ a := fun e => hn.1 (by rw [← e]; exact List.mem_map.2 ⟨_, h, rfl⟩)
      simp [mfind, this, ih hn.2 h]
end

theorem sec0_size : sec0.size = 64 := rfl
theorem Drv.pend_of {D : Drv} (h : D.wf) (i : Int) : ∀ y ∈ D.pend i, y.size = 64 := by
  unfold Drv.pend
  cases e : mfind D.writes i with
  | none => simp
  | some l => exact (h.pend _ (mfind_mem e)).2
theorem Drv.cur_size {D : Drv} (h : D.wf) {i : Int} (h0 : 0 ≤ i) (h1 : i < D.n) : (D.cur i).size = 64 := by
  unfold Drv.cur
  split
  · rename_i x hx
    exact Drv.pend_of h i x (List.mem_of_getLast? hx)
  · have : i.toNat < D.safe.length := by unfold Drv.n at h1; omega
    have e : D.safe.getD i.toNat ⟨#[]⟩ = D.safe[i.toNat] := by simp [List.getD, this]
    rw [e]
    exact h.safe _ (List.getElem_mem this)
theorem Drv.new_wf (n : Nat) (h : n ≤ 4096) : (Drv.new n).wf :=
  ⟨by simpa [Drv.new] using h, fun x hx => by simp [Drv.new] at hx; rw [hx.2]; rfl, fun x hx => by simp [Drv.new] at hx, fun x hx => by simp [Drv.new] at hx, by simp [Drv.new], by simp [Drv.new], (fun x hx => by simp [Drv.new] at hx), (fun k hk => by simp [Drv.new] at hk)⟩
theorem Drv.may_in {D : Drv} {i : Int} (h : D.may i = 0) : D.dead = false ∧ D.off = false ∧ 0 ≤ i ∧ i < D.n := by
  unfold Drv.may at h
  cases hd : D.dead <;> cases ho : D.off <;> simp [hd, ho] at h
  exact ⟨rfl, rfl, by omega, by omega⟩
theorem Drv.wrE_in {D : Drv} {i : Int} {s : Sec} (h : D.wrE i s = 0) : D.may i = 0 ∧ s.size = 64 := by
  unfold Drv.wrE at h
  split at h
  · rename_i h1; exact absurd h h1
  · rename_i h1
    split at h
    · cases h
    · rename_i h2
      exact ⟨Decidable.not_not.1 h1, Decidable.not_not.1 h2⟩
theorem lim_pred {D : Drv} (h : D.wf) {k : Nat} (hk : D.lim.map (· - 1) = some k) : k ≤ 9223372036854775807 := by
  cases e : D.lim with
  | none => simp [e] at hk
  | some j =>
    have := h.lim j e
    simp [e] at hk
    omega
theorem Drv.wrOK_wf {D : Drv} (h : D.wf) {i : Int} {s : Sec} (h0 : 0 ≤ i) (h1 : i < D.n) (hs : s.size = 64) : (D.wrOK i s).wf := by
  refine ⟨h.le, h.safe, fun x hx => ?_, fun x hx => ?_, nodup_mset h.nodup _ _, h.spN.erase _, fun j hj => h.spK j (List.mem_of_mem_erase hj), fun k hk => lim_pred h hk⟩
  · rcases mem_mset hx with rfl | hx
    · exact ⟨h0, h1⟩
    · exact h.keys x hx
  · rcases mem_mset hx with rfl | hx
    · refine ⟨by simp, fun y hy => ?_⟩
      rcases List.mem_append.1 hy with hy | hy
      · exact Drv.pend_of h i y hy
      · simp at hy
        rw [hy]; exact hs
    · exact h.pend x hx
theorem Drv.wr_wf {D : Drv} (h : D.wf) (i : Int) (s : Sec) : (D.wr i s).wf := by
  unfold Drv.wr
  split
  · rename_i e
    obtain ⟨h1, h2⟩ := Drv.wrE_in e
    obtain ⟨_, _, h3, h4⟩ := Drv.may_in h1
    exact Drv.wrOK_wf h h3 h4 h2
  · exact h
theorem mem_setS {l : List Sec} {i : Nat} {s x : Sec} (h : x ∈ l.set i s) : x = s ∨ x ∈ l := by
  rcases List.mem_or_eq_of_mem_set h with h | h
  · exact Or.inr h
  · exact Or.inl h
theorem Drv.chOK_wf {D : Drv} (h : D.wf) {i : Int} {s : Sec} (hs : s.size = 64) : (D.chOK i s).wf := by
  refine ⟨by simpa [Drv.chOK] using h.le, fun x hx => ?_, fun x hx => ?_, fun x hx => h.pend x (mem_mdel hx), nodup_mdel h.nodup _, h.spN, (fun j hj => by simpa [Drv.chOK] using h.spK j hj), h.lim⟩
  · rcases mem_setS hx with rfl | hx
    · exact hs
    · exact h.safe x hx
  · simpa [Drv.chOK] using h.keys x (mem_mdel hx)
theorem Drv.spOK_wf {D : Drv} (h : D.wf) {i : Int} (h0 : 0 ≤ i) (h1 : i < D.n) : (D.spOK i).wf := by
  refine ⟨h.le, h.safe, h.keys, h.pend, h.nodup, ?_, fun j hj => ?_, h.lim⟩
  · show (if i ∈ D.spoilt then D.spoilt else D.spoilt ++ [i]).Nodup
    split
    · exact h.spN
    · rename_i hk
      rw [List.nodup_append]
      refine ⟨h.spN, by simp, fun a ha b hb => ?_⟩
      simp at hb
      subst hb
      intro e
      exact hk (e ▸ ha)
  · change j ∈ (if i ∈ D.spoilt then D.spoilt else D.spoilt ++ [i]) at hj
    split at hj
    · exact h.spK j hj
    · rcases List.mem_append.1 hj with hj | hj
      · exact h.spK j hj
      · simp at hj
        rw [hj]; exact ⟨h0, h1⟩
theorem settleF_spec (many : Nat → Nat → Nat) (ws : List (Int × List Sec)) (hp : ∀ x ∈ ws, ∀ y ∈ x.2, y.size = 64) (hm : ∀ k m, many k m ≤ m) : ∀ (l : List Int) (k : Nat) (sf : List Sec), (∀ x ∈ sf, x.size = 64) →
    (settleF many ws k l sf).length = sf.length ∧ ∀ x ∈ settleF many ws k l sf, x.size = 64
  | [], _, _, h => ⟨rfl, h⟩
  | i :: r, k, sf, h => by
    unfold settleF
    dsimp only
    split
    · exact settleF_spec many ws hp hm r (k + 1) sf h
    · rename_i hz
      have h2 : ∀ x ∈ sf.set i.toNat (((mfind ws i).getD []).getD (many k ((mfind ws i).getD []).length - 1) ⟨#[]⟩), x.size = 64 := by
        intro x hx
        rcases mem_setS hx with hx | hx
        · cases e : mfind ws i with
          | none =>
            exfalso
            apply hz
            have := hm k ((mfind ws i).getD []).length
            rw [e] at this ⊢
            simpa using this
          | some l =>
            rw [e] at hx hz
            have h3 := hm k l.length
            have h4 : many k l.length - 1 < l.length := by
              simp at hz
              omega
            rw [hx]
            have e5 : (((some l).getD []).getD (many k ((some l).getD []).length - 1) ⟨#[]⟩ : Sec) = l[many k l.length - 1] := by simp [List.getD, h4]
            rw [e5]
            exact hp _ (mfind_mem e) _ (List.getElem_mem h4)
        · exact h x hx
      obtain ⟨h3, h4⟩ := settleF_spec many ws hp hm r (k + 1) _ h2
      exact ⟨by rw [h3, List.length_set], h4⟩
theorem Drv.settle_wf {D : Drv} (h : D.wf) (many : Nat → Nat → Nat) (hm : ∀ k m, many k m ≤ m) : (D.settle many).wf ∧ (D.settle many).n = D.n := by
  obtain ⟨h1, h2⟩ := settleF_spec many D.writes (fun x hx => (h.pend x hx).2) hm (keysUp D.writes) 0 D.safe h.safe
  exact ⟨⟨(by show (settleF _ _ _ _ _).length ≤ _; rw [h1]; exact h.le), h2, (fun x hx => by cases hx), (fun x hx => by cases hx), List.nodup_nil, h.spN, (fun j hj => by show _ ∧ _ < ((settleF _ _ _ _ _).length : Int); rw [h1]; exact h.spK j hj), h.lim⟩, h1⟩
theorem Drv.flOK_wf {D : Drv} (h : D.wf) : D.flOK.wf := by
  obtain ⟨h1, _⟩ := Drv.settle_wf h (fun _ m => m) (fun _ m => Nat.le_refl m)
  exact ⟨h1.le, h1.safe, h1.keys, h1.pend, h1.nodup, h1.spN, h1.spK, fun k hk => lim_pred h hk⟩
theorem Drv.fl_wf {D : Drv} (h : D.wf) : D.fl.wf := by
  unfold Drv.fl
  split
  · exact Drv.flOK_wf h
  · exact h
theorem keepN_le (keep : List Nat) (k m : Nat) : keepN keep k m ≤ m := by
  unfold keepN
  split
  · exact Nat.zero_le _
  · exact Nat.le_of_lt_succ (Nat.mod_lt _ (by omega))
theorem Drv.crash_wf {D : Drv} (h : D.wf) (keep : List Nat) : (D.crash keep).wf := by
  obtain ⟨h1, _⟩ := Drv.settle_wf h (keepN keep) (keepN_le keep)
  exact ⟨h1.le, h1.safe, h1.keys, h1.pend, h1.nodup, h1.spN, h1.spK, fun k hk => by cases hk⟩
theorem Drv.die_wf {D : Drv} (h : D.wf) : D.die.wf := ⟨h.le, h.safe, h.keys, h.pend, h.nodup, h.spN, h.spK, h.lim⟩
theorem Drv.limit_wf {D : Drv} (h : D.wf) (a : Int) (ha : a ≤ 9223372036854775807) : (D.limit a).wf := ⟨h.le, h.safe, h.keys, h.pend, h.nodup, h.spN, h.spK, fun k hk => by simp [Drv.limit] at hk; omega⟩
end Go.Proofs.YtmhmdoobadckkaaGreatDoor
/- A drive in memory: its struct's block, the row of its sectors, its two maps, the rows of its pending writes; and all drives there are. -/
namespace Go.Proofs.YtmhmdoobadckkaaGreatDoor
set_option maxRecDepth 20000
open Go.RowKit Go.OpenShut

def scs (l : List Sec) : List Value := l.flatMap fun s => bcs s.data.toList
theorem scs_cons (x : Sec) (l : List Sec) : scs (x :: l) = bcs x.data.toList ++ scs l := rfl
theorem scs_app (l m : List Sec) : scs (l ++ m) = scs l ++ scs m := by simp [scs]
theorem sec_len (x : Sec) : x.data.toList.length = x.size := by simp
theorem scs_len : ∀ (l : List Sec), (∀ x ∈ l, x.size = 64) → (scs l).length = l.length * 64
  | [], _ => rfl
  | x :: l, h => by
    rw [scs_cons, List.length_append, bcs_len, sec_len, h x (by simp), scs_len l (fun y hy => h y (by simp [hy])), List.length_cons]
    omega
theorem scs_one (l : List Sec) : ∀ u ∈ scs l, u.oneCell' = true := by
  intro u hu
  obtain ⟨x, _, h⟩ := List.mem_flatMap.1 hu
  exact bcs_one _ u h
theorem scs_get : ∀ (l : List Sec), (∀ x ∈ l, x.size = 64) → ∀ (k i : Nat) (hk : k < l.length) (_hi : i < 64), (scs l)[k * 64 + i]? = (bcs (l[k]).data.toList)[i]?
  | [], _, k, _, hk, _ => by simp at hk
  | x :: l, h, 0, i, _, hi => by
    rw [scs_cons, List.getElem?_append_left (by rw [bcs_len, sec_len, h x (by simp)]; omega), Nat.zero_mul, Nat.zero_add]
    rfl
  | x :: l, h, k + 1, i, hk, hi => by
    have hx : (bcs x.data.toList).length = 64 := by rw [bcs_len, sec_len, h x (by simp)]
    rw [scs_cons, List.getElem?_append_right (by omega), hx, show (k + 1) * 64 + i - 64 = k * 64 + i by omega, scs_get l (fun y hy => h y (by simp [hy])) k i (by simpa using hk) hi]
    rfl
/-- pending writes of one sector: v is a slice of the drive's own, in block b -/
def PendAt (w : World) (v : Value) (b : Nat) (l : List Sec) : Prop := w.ownsRow 0 183 64 v l.length (scs l) ∧ v.ownBlock = some b
inductive Pends (w : World) : List (Int × Value) → List (Int × List Sec) → List Nat → Prop
  | nil : Pends w [] [] []
  | cons {k : Int} {v : Value} {b : Nat} {l : List Sec} {wl : List (Int × Value)} {ws : List (Int × List Sec)} {bl : List Nat} : PendAt w v b l → Pends w wl ws bl → Pends w ((k, v) :: wl) ((k, l) :: ws) (b :: bl)
structure DrvMem (w : World) (g : Nat) (D : Drv) (s m p : Nat) (wl : List (Int × Value)) (bl : List Nat) (lv : Int) : Prop where
  head : Blk w g 114 #[.slice (some ⟨s, 0, none⟩) D.safe.length D.safe.length, .map (some m), .map (some p), .bool D.dead, .int .i64 lv, .bool D.lim.isSome]
  left : ∀ k, D.lim = some k → lv = k
  secs : Blk w s 183 (scs D.safe).toArray
  map : MapB w m wl
  pends : Pends w wl D.writes bl
  spoilt : MapB w p (D.spoilt.map fun i => (i, Value.bool true))
  nodup : (g :: s :: m :: p :: bl).Nodup
  wf : D.wf
/-- drive D at block g; fp: its blocks -/
def DrvAt (w : World) (g : Nat) (D : Drv) (fp : List Nat) : Prop := ∃ s m p wl bl lv, fp = g :: s :: m :: p :: bl ∧ DrvMem w g D s m p wl bl lv

section
variable {w w' : World}
theorem MapB.lt {r : Nat} {l : List (Int × Value)} (h : MapB w r l) : r < w.heap.size := by
  obtain ⟨es, c, hb, _⟩ := h
  exact (Array.getElem?_eq_some_iff.1 hb).1
theorem MapB.old {r : Nat} {l : List (Int × Value)} (h : MapB w r l) (e : w'.heap[r]? = w.heap[r]?) : MapB w' r l := by
  obtain ⟨es, c, hb, h2⟩ := h
  exact ⟨es, c, e.trans hb, h2⟩
theorem PendAt.row {v : Value} {b : Nat} {l : List Sec} (h : PendAt w v b l) : ∃ cap cur, v = .slice (some ⟨b, 0, none⟩) l.length cap ∧ w.heap[b]? = some (.cells cur 183 (0, 0)) ∧ l.length ≤ cap ∧ cap ≤ maxLen ∧ cur.size = cap * 64 ∧ cur.toList.take (l.length * 64) = scs l := by
  obtain ⟨⟨h1, h2⟩, h3⟩ := h
  rcases h2 with ⟨rfl, _⟩ | ⟨g, cap, cur, rfl, _, r⟩
  · cases h3
  · obtain rfl : g = b := by simpa [Value.ownBlock] using h3
    exact ⟨cap, cur, rfl, r⟩
theorem PendAt.lt {v : Value} {b : Nat} {l : List Sec} (h : PendAt w v b l) : b < w.heap.size := by
  obtain ⟨_, _, _, hh, _⟩ := h.row
  exact (Array.getElem?_eq_some_iff.1 hh).1
theorem PendAt.old {v : Value} {b : Nat} {l : List Sec} (h : PendAt w v b l) (e : w'.heap[b]? = w.heap[b]?) : PendAt w' v b l := by
  have hl := h.1.1
  obtain ⟨cap, cur, rfl, hh, r⟩ := h.row
  exact ⟨⟨hl, Or.inr ⟨b, cap, cur, rfl, Nat.zero_le _, e.trans hh, r⟩⟩, rfl⟩
theorem Pends.lt {wl : List (Int × Value)} {ws : List (Int × List Sec)} {bl : List Nat} (h : Pends w wl ws bl) : ∀ b ∈ bl, b < w.heap.size := by
  induction h with
  | nil => intro b hb; cases hb
  | cons h1 _ ih =>
    intro b hb
    rcases List.mem_cons.1 hb with rfl | hb
    · exact h1.lt
    · exact ih b hb
theorem Pends.old {wl : List (Int × Value)} {ws : List (Int × List Sec)} {bl : List Nat} (h : Pends w wl ws bl) (e : ∀ b ∈ bl, w'.heap[b]? = w.heap[b]?) : Pends w' wl ws bl := by
  induction h with
  | nil => exact .nil
  | cons h1 _ ih => exact .cons (h1.old (e _ (by simp))) (ih (fun b hb => e b (by simp [hb])))
theorem Pends.keys {wl : List (Int × Value)} {ws : List (Int × List Sec)} {bl : List Nat} (h : Pends w wl ws bl) : wl.map (·.1) = ws.map (·.1) := by
  induction h with
  | nil => rfl
  | cons _ _ ih => simp [ih]
/-- what a look-up finds -/
theorem Pends.find {wl : List (Int × Value)} {ws : List (Int × List Sec)} {bl : List Nat} (h : Pends w wl ws bl) (i : Int) :
    (mfind wl i = none ∧ mfind ws i = none) ∨ ∃ v b l, mfind wl i = some v ∧ mfind ws i = some l ∧ b ∈ bl ∧ PendAt w v b l := by
  induction h with
  | nil => exact Or.inl ⟨rfl, rfl⟩
  | @cons k v b l _ _ _ h1 _ ih =>
    by_cases e : i = k
    · exact Or.inr ⟨v, b, l, by simp [mfind, e], by simp [mfind, e], by simp, h1⟩
    · rcases ih with ⟨a1, a2⟩ | ⟨v', b', l', a1, a2, a3, a4⟩
      · exact Or.inl ⟨by simp [mfind, e, a1], by simp [mfind, e, a2]⟩
      · exact Or.inr ⟨v', b', l', by simp [mfind, e, a1], by simp [mfind, e, a2], by simp [a3], a4⟩
theorem DrvMem.lt {g : Nat} {D : Drv} {s m p : Nat} {wl : List (Int × Value)} {bl : List Nat} {lv : Int} (h : DrvMem w g D s m p wl bl lv) : ∀ b ∈ g :: s :: m :: p :: bl, b < w.heap.size := by
  intro b hb
  simp only [List.mem_cons] at hb
  rcases hb with rfl | rfl | rfl | rfl | hb
  · exact h.head.lt
  · exact h.secs.lt
  · exact h.map.lt
  · exact h.spoilt.lt
  · exact h.pends.lt b hb
theorem DrvMem.old {g : Nat} {D : Drv} {s m p : Nat} {wl : List (Int × Value)} {bl : List Nat} {lv : Int} (h : DrvMem w g D s m p wl bl lv) (e : ∀ b ∈ g :: s :: m :: p :: bl, w'.heap[b]? = w.heap[b]?) : DrvMem w' g D s m p wl bl lv :=
  ⟨(e g (by simp)).trans h.head, h.left, (e s (by simp)).trans h.secs, h.map.old (e m (by simp)), h.pends.old (fun b hb => e b (by simp [hb])), h.spoilt.old (e p (by simp)), h.nodup, h.wf⟩
theorem DrvAt.lt {g : Nat} {D : Drv} {fp : List Nat} (h : DrvAt w g D fp) : ∀ b ∈ fp, b < w.heap.size := by
  obtain ⟨s, m, p, wl, bl, lv, rfl, h⟩ := h
  exact h.lt
theorem DrvAt.old {g : Nat} {D : Drv} {fp : List Nat} (h : DrvAt w g D fp) (e : ∀ b ∈ fp, w'.heap[b]? = w.heap[b]?) : DrvAt w' g D fp := by
  obtain ⟨s, m, p, wl, bl, lv, rfl, h⟩ := h
  exact ⟨s, m, p, wl, bl, lv, rfl, h.old e⟩
theorem DrvAt.below {g : Nat} {D : Drv} {fp : List Nat} (h : DrvAt w g D fp) (hb : Below w.heap.size w w') : DrvAt w' g D fp := h.old (fun b hb' => hb.block b (h.lt b hb'))
theorem DrvAt.wf {g : Nat} {D : Drv} {fp : List Nat} (h : DrvAt w g D fp) : D.wf := by
  obtain ⟨s, m, p, wl, bl, lv, rfl, h⟩ := h
  exact h.wf
theorem DrvAt.self {g : Nat} {D : Drv} {fp : List Nat} (h : DrvAt w g D fp) : g ∈ fp := by
  obtain ⟨s, m, p, wl, bl, lv, rfl, h⟩ := h
  simp

/-! ### all drives there are -/
def upd (σ : Nat → Option Drv) (g : Nat) (D : Drv) : Nat → Option Drv := fun x => if x = g then some D else σ x
theorem upd_same (σ : Nat → Option Drv) (g : Nat) (D : Drv) : upd σ g D g = some D := if_pos rfl
theorem upd_other (σ : Nat → Option Drv) {g x : Nat} (D : Drv) (h : x ≠ g) : upd σ g D x = σ x := if_neg h
theorem upd_id {σ : Nat → Option Drv} {g : Nat} {D : Drv} (h : σ g = some D) : upd σ g D = σ := by
  funext x
  by_cases e : x = g
  · subst e; rw [upd_same, h]
  · rw [upd_other _ _ e]
def updF (fp : Nat → List Nat) (g : Nat) (l : List Nat) : Nat → List Nat := fun x => if x = g then l else fp x
theorem updF_same (fp : Nat → List Nat) (g : Nat) (l : List Nat) : updF fp g l g = l := if_pos rfl
theorem updF_other (fp : Nat → List Nat) {g x : Nat} (l : List Nat) (h : x ≠ g) : updF fp g l x = fp x := if_neg h
def Dsk (w : World) (σ : Nat → Option Drv) (R : Nat → Prop) : Prop :=
  ∃ fp : Nat → List Nat, (∀ g D, σ g = some D → DrvAt w g D (fp g) ∧ ∀ b ∈ fp g, R b) ∧
    (∀ g g', g ≠ g' → (σ g).isSome = true → (σ g').isSome = true → ∀ b ∈ fp g, b ∉ fp g') ∧ ∀ b, R b → b < w.heap.size
/-- from w to w' only R was written; of what was there R' takes in nothing more -/
def Ext (R R' : Nat → Prop) (w w' : World) : Prop := Chg R w w' ∧ ∀ b, b < w.heap.size → R' b → R b
/-- the drives are as σ says then, and nothing else was written -/
def Did (σ : Nat → Option Drv) (R : Nat → Prop) (w w' : World) : Prop := ∃ R', Dsk w' σ R' ∧ Ext R R' w w'
variable {σ σ' : Nat → Option Drv} {R R' R'' : Nat → Prop}
theorem Dsk.below (h : Dsk w σ R) (hb : Below w.heap.size w w') : Dsk w' σ R := by
  obtain ⟨fp, h1, h2, h3⟩ := h
  exact ⟨fp, fun g D hg => ⟨(h1 g D hg).1.below hb, (h1 g D hg).2⟩, h2, fun b hR => Nat.lt_of_lt_of_le (h3 b hR) hb.size⟩
theorem Dsk.drew (h : Dsk w σ R) : Dsk w.drew σ R := h.below (Below.refl _ _).drew
theorem Dsk.alloc (h : Dsk w σ R) (o : Obj) : Dsk (w.alloc o) σ R := h.below ((Below.refl _ _).alloc (Nat.le_refl _) _)
theorem Dsk.lt (h : Dsk w σ R) {b : Nat} (hb : R b) : b < w.heap.size := h.choose_spec.2.2 b hb
theorem Dsk.new (h : Dsk w σ R) : ¬ R w.heap.size := fun e => Nat.lt_irrefl _ (h.lt e)
theorem Dsk.mem (h : Dsk w σ R) {g : Nat} {D : Drv} (hg : σ g = some D) : R g := by
  obtain ⟨fp, h1, _⟩ := h
  obtain ⟨a, b⟩ := h1 g D hg
  exact b g a.self
theorem Dsk.wf (h : Dsk w σ R) {g : Nat} {D : Drv} (hg : σ g = some D) : D.wf := by
  obtain ⟨fp, h1, _⟩ := h
  exact (h1 g D hg).1.wf
/-- a block that is none of the drives' may be written -/
theorem Dsk.setCell (h : Dsk w σ R) {p : Addr} (hp : ¬ R p.block) (u : Value) : Dsk (w.setCell p u) σ R := by
  obtain ⟨fp, h1, h2, h3⟩ := h
  refine ⟨fp, fun g D hg => ⟨(h1 g D hg).1.old (fun b hb => Below.heap_setCell w p u b (fun e => hp (e ▸ (h1 g D hg).2 b hb))), (h1 g D hg).2⟩, h2, fun b hR => ?_⟩
  simpa using h3 b hR
theorem Dsk.old (h : Dsk w σ R) (e : ∀ b, R b → w'.heap[b]? = w.heap[b]?) : Dsk w' σ R := by
  obtain ⟨fp, h1, h2, h3⟩ := h
  refine ⟨fp, fun g D hg => ⟨(h1 g D hg).1.old (fun b hb => e b ((h1 g D hg).2 b hb)), (h1 g D hg).2⟩, h2, fun b hR => ?_⟩
  have h4 := e b hR
  have h5 := h3 b hR
  rcases Nat.lt_or_ge b w'.heap.size with h6 | h6
  · exact h6
  · rw [Array.getElem?_eq_none h6, Array.getElem?_eq_getElem h5] at h4; cases h4
theorem Ext.refl (R : Nat → Prop) (w : World) : Ext R R w w := ⟨Chg.refl _ _, fun _ _ h => h⟩
theorem Ext.trans {w1 : World} (h : Ext R R' w w1) (k : Ext R' R'' w1 w') : Ext R R'' w w' :=
  ⟨h.1.trans k.1 h.2, fun b hb hR => h.2 b hb (k.2 b (Nat.lt_of_lt_of_le hb h.1.size) hR)⟩
theorem Ext.below {w1 : World} (h : Ext R R' w w1) (k : Below w1.heap.size w1 w') : Ext R R' w w' := ⟨h.1.then k, h.2⟩
theorem Ext.drew (h : Ext R R' w w') : Ext R R' w w'.drew := ⟨h.1.drew, h.2⟩
theorem Ext.alloc (h : Ext R R' w w') (o : Obj) : Ext R R' w (w'.alloc o) := ⟨h.1.alloc o, h.2⟩
/-- a block that the call made itself is written -/
theorem Ext.set_ (h : Ext R R' w w') {p : Addr} (hp : w.heap.size ≤ p.block) (u : Value) : Ext R R' w (w'.setCell p u) := ⟨h.1.setCell (Or.inr hp) u, h.2⟩
theorem Ext.of_below (R : Nat → Prop) (h : Below w.heap.size w w') : Ext R R w w' := (Ext.refl R w).below h
theorem Ext.size (h : Ext R R' w w') : w.heap.size ≤ w'.heap.size := h.1.size
/-- a block of one's own outlives it -/
theorem Ext.blk (h : Ext R R' w w') {b : Nat} {t : TypeId} {cs : Array Value} (k : Blk w b t cs) (hb : ¬ R b) : Blk w' b t cs := h.1.keeps k hb
theorem Ext.not (h : Ext R R' w w') {b : Nat} (hb : ¬ R b) (hlt : b < w.heap.size) : ¬ R' b := fun e => hb (h.2 b hlt e)
theorem Did.of_below (h : Dsk w σ R) (hb : Below w.heap.size w w') : Did σ R w w' := ⟨R, h.below hb, Ext.of_below R hb⟩
theorem Did.refl (h : Dsk w σ R) : Did σ R w w := ⟨R, h, Ext.refl _ _⟩
/-- from one drive to all -/
theorem Dsk.put_ {g : Nat} {D D' : Drv} {fp : Nat → List Nat} (h1 : ∀ g D, σ g = some D → DrvAt w g D (fp g) ∧ ∀ b ∈ fp g, R b) (h2 : ∀ g g', g ≠ g' → (σ g).isSome = true → (σ g').isSome = true → ∀ b ∈ fp g, b ∉ fp g') (h3 : ∀ b, R b → b < w.heap.size) (hg : σ g = some D)
    (hc : ∃ fp', DrvAt w' g D' fp' ∧ Chg (· ∈ fp g) w w' ∧ ∀ b ∈ fp', b ∈ fp g ∨ w.heap.size ≤ b) : Did (upd σ g D') R w w' := by
  obtain ⟨a, b⟩ := h1 g D hg
  obtain ⟨fp', c1, c2, c3⟩ := hc
  refine ⟨fun x => R x ∨ (x ∈ fp' ∧ w.heap.size ≤ x), ⟨updF fp g fp', fun x X hX => ?_, fun x y hxy hx hy z hz hz' => ?_, fun x hx => ?_⟩, c2.mono (fun j _ hj => b j hj), fun x hx hR => ?_⟩
  · by_cases e : x = g
    · subst e
      rw [upd_same] at hX
      cases hX
      rw [updF_same]
      refine ⟨c1, fun z hz => ?_⟩
      rcases c3 z hz with hz' | hz'
      · exact Or.inl (b z hz')
      · exact Or.inr ⟨hz, hz'⟩
    · rw [upd_other _ _ e] at hX
      rw [updF_other _ _ e]
      obtain ⟨d1, d2⟩ := h1 x X hX
      exact ⟨d1.old (fun z hz => c2.block z (d1.lt z hz) (h2 x g e (by rw [hX]; rfl) (by rw [hg]; rfl) z hz)), fun z hz => Or.inl (d2 z hz)⟩
  · have hs : ∀ u, u ≠ g → (upd σ g D' u).isSome = true → (σ u).isSome = true := fun u hu h => by rwa [upd_other _ _ hu] at h
    have hlt : ∀ u, u ≠ g → (σ u).isSome = true → ∀ z ∈ fp u, z ∉ fp' := fun u hu hs z hz hz' => by
      obtain ⟨U, hU⟩ := Option.isSome_iff_exists.1 hs
      rcases c3 z hz' with h6 | h6
      · exact h2 u g hu hs (by rw [hg]; rfl) z hz h6
      · have := (h1 u U hU).1.lt z hz
        omega
    by_cases e : x = g
    · subst e
      rw [updF_same] at hz
      rw [updF_other _ _ (Ne.symm hxy)] at hz'
      exact hlt y (Ne.symm hxy) (hs y (Ne.symm hxy) hy) z hz' hz
    · rw [updF_other _ _ e] at hz
      by_cases e2 : y = g
      · subst e2
        rw [updF_same] at hz'
        exact hlt x e (hs x e hx) z hz hz'
      · rw [updF_other _ _ e2] at hz'
        exact h2 x y hxy (hs x e hx) (hs y e2 hy) z hz hz'
  · rcases hx with hx | ⟨hx, _⟩
    · exact Nat.lt_of_lt_of_le (h3 x hx) c2.size
    · exact c1.lt x hx
  · rcases hR with hR | ⟨_, hR⟩
    · exact hR
    · omega
/-- a new drive -/
theorem Dsk.add (h : Dsk w σ R) {g : Nat} {D : Drv} {fp' : List Nat} (hb : Below w.heap.size w w') (hd : DrvAt w' g D fp') (hf : ∀ b ∈ fp', w.heap.size ≤ b) : σ g = none ∧ Did (upd σ g D) R w w' := by
  obtain ⟨fp, h1, h2, h3⟩ := h
  have hn : σ g = none := by
    cases e : σ g with
    | none => rfl
    | some X =>
      have := (h1 g X e).1.lt g (h1 g X e).1.self
      have := hf g hd.self
      omega
  refine ⟨hn, fun x => R x ∨ x ∈ fp', ⟨updF fp g fp', fun x X hX => ?_, fun x y hxy hx hy z hz hz' => ?_, fun x hx => ?_⟩, (Ext.of_below R hb).1, fun x hx hR => ?_⟩
  · by_cases e : x = g
    · subst e
      rw [upd_same] at hX
      cases hX
      rw [updF_same]
      exact ⟨hd, fun z hz => Or.inr hz⟩
    · rw [upd_other _ _ e] at hX
      rw [updF_other _ _ e]
      obtain ⟨d1, d2⟩ := h1 x X hX
      exact ⟨d1.below hb, fun z hz => Or.inl (d2 z hz)⟩
  · have hs : ∀ u, u ≠ g → (upd σ g D u).isSome = true → (σ u).isSome = true := fun u hu h => by rwa [upd_other _ _ hu] at h
    have hlt : ∀ u, u ≠ g → (σ u).isSome = true → ∀ z ∈ fp u, z ∉ fp' := fun u hu hs z hz hz' => by
      obtain ⟨U, hU⟩ := Option.isSome_iff_exists.1 hs
      have := hf z hz'
      have := (h1 u U hU).1.lt z hz
      omega
    by_cases e : x = g
    · subst e
      rw [updF_same] at hz
      rw [updF_other _ _ (Ne.symm hxy)] at hz'
      exact hlt y (Ne.symm hxy) (hs y (Ne.symm hxy) hy) z hz' hz
    · rw [updF_other _ _ e] at hz
      by_cases e2 : y = g
      · subst e2
        rw [updF_same] at hz'
        exact hlt x e (hs x e hx) z hz hz'
      · rw [updF_other _ _ e2] at hz'
        exact h2 x y hxy (hs x e hx) (hs y e2 hy) z hz hz'
  · rcases hx with hx | hx
    · exact Nat.lt_of_lt_of_le (h3 x hx) hb.size
    · exact hd.lt x hx
  · rcases hR with hR | hR
    · exact hR
    · have := hf x hR
      omega
/-- no drive yet -/
theorem Dsk.none_ (w : World) : Dsk w (fun _ => none) (fun _ => False) := ⟨fun _ => [], (fun g D h => by cases h), (fun _ _ _ h => by cases h), (fun _ h => h.elim)⟩
end
end Go.Proofs.YtmhmdoobadckkaaGreatDoor
/- Slices of one-cell elements that can be read, and that no drive's writing touches; such slices of the call's own. -/
namespace Go.Proofs.YtmhmdoobadckkaaGreatDoor
set_option maxRecDepth 20000
open Go.RowKit Go.OpenShut

/-- n cells at A read as xs, in a block that is none of R's -/
def VA (w : World) (R : Nat → Prop) (A : Option Addr) (n : Nat) (xs : List Value) : Prop :=
  xs.length = n ∧ (0 < n → ∃ b off, A = some ⟨b, off, none⟩ ∧ ¬ R b ∧ ∀ j, j < n → w.cell? ⟨b, off + j, none⟩ = some (xs.getD j undef))
theorem cellLt {w : World} {b i : Nat} {v : Value} (h : w.cell? ⟨b, i, none⟩ = some v) : b < w.heap.size := by
  unfold World.cell? at h
  split at h
  · rename_i heq
    exact (Array.getElem?_eq_some_iff.1 heq).1
  · cases h
theorem cell_same {w w' : World} {p : Addr} (h : w'.heap[p.block]? = w.heap[p.block]?) : w'.cell? p = w.cell? p := by
  unfold World.cell?
  rw [h]
section
variable {w w' : World} {R R' : Nat → Prop} {A : Option Addr} {n : Nat} {xs : List Value}
theorem VA.nil_ : VA w R A 0 [] := ⟨rfl, fun h => by omega⟩
theorem VA.ext (h : VA w R A n xs) (k : Ext R R' w w') : VA w' R' A n xs := by
  refine ⟨h.1, fun h0 => ?_⟩
  obtain ⟨b, off, e, hb, hc⟩ := h.2 h0
  have hlt := cellLt (hc 0 h0)
  exact ⟨b, off, e, k.not hb hlt, fun j hj => (cell_same (k.1.block b hlt hb)).trans (hc j hj)⟩
theorem VA.below (h : VA w R A n xs) (k : Below w.heap.size w w') : VA w' R A n xs := h.ext (Ext.of_below R k)
theorem VA.drew (h : VA w R A n xs) : VA w.drew R A n xs := h
theorem VA.set_ (h : VA w R A n xs) {p : Addr} (hp : ∀ b off, A = some ⟨b, off, none⟩ → b ≠ p.block) (u : Value) : VA (w.setCell p u) R A n xs := by
  refine ⟨h.1, fun h0 => ?_⟩
  obtain ⟨b, off, e, hb, hc⟩ := h.2 h0
  exact ⟨b, off, e, hb, fun j hj => (cell_same (Below.heap_setCell w p u b (hp b off e))).trans (hc j hj)⟩
theorem VA.at_ {b off : Nat} (h : VA w R (some ⟨b, off, none⟩) n xs) {j : Nat} (hj : j < n) : w.cell? ⟨b, off + j, none⟩ = some (xs.getD j undef) := by
  obtain ⟨b', off', e, _, hc⟩ := h.2 (by omega)
  cases e
  exact hc j hj
theorem VA.some_ (h : VA w R A n xs) (h0 : 0 < n) : ∃ b off, A = some ⟨b, off, none⟩ ∧ ¬ R b := by
  obtain ⟨b, off, e, hb, _⟩ := h.2 h0
  exact ⟨b, off, e, hb⟩
theorem VA.take (h : VA w R A n xs) (k : Nat) (hk : k ≤ n) : VA w R A k (xs.take k) := by
  refine ⟨by rw [List.length_take, h.1]; omega, fun h0 => ?_⟩
  obtain ⟨b, off, e, hb, hc⟩ := h.2 (by omega)
  refine ⟨b, off, e, hb, fun j hj => ?_⟩
  rw [hc j (by omega)]
  simp [List.getD, hj]
theorem VA.drop {b off : Nat} (h : VA w R (some ⟨b, off, none⟩) n xs) (k : Nat) (hk : k ≤ n) : VA w R (some ⟨b, off + k, none⟩) (n - k) (xs.drop k) := by
  refine ⟨by rw [List.length_drop, h.1], fun h0 => ?_⟩
  obtain ⟨b', off', e, hb, hc⟩ := h.2 (by omega)
  cases e
  refine ⟨b, off + k, rfl, hb, fun j hj => ?_⟩
  rw [Nat.add_assoc, hc (k + j) (by omega)]
  simp [List.getD]
theorem VA.blk {g : Nat} {t : TypeId} (h : Blk w g t xs.toArray) (hn : xs.length = n) (hR : ¬ R g) : VA w R (some ⟨g, 0, none⟩) n xs := by
  refine ⟨hn, fun _ => ⟨g, 0, rfl, hR, fun j hj => ?_⟩⟩
  rw [h.cell, Nat.zero_add]
  simp [List.getD, hn ▸ hj]
theorem getD_map {α : Type} (f : α → Value) (l : List α) (j : Nat) (d : α) (h : j < l.length) : (l.map f).getD j undef = f (l.getD j d) := by
  simp [List.getD, h]

/-! ### own slices -/
def OwnV (t : TypeId) (w : World) (base : Nat) (v : Value) (l : List Value) : Prop := w.ownsRow base t 1 v l.length l
variable {t : TypeId} {base : Nat} {v : Value} {l : List Value}
theorem OwnV.nil_ (t : TypeId) (w : World) (base : Nat) : OwnV t w base (.slice none 0 0) [] := World.ownsRow_nil w base _ _
theorem OwnV.drew (h : OwnV t w base v l) : OwnV t w.drew base v l := h
theorem OwnV.alloc (h : OwnV t w base v l) (o : Obj) : OwnV t (w.alloc o) base v l := World.ownsRow.alloc h o
theorem OwnV.lt (h : OwnV t w base v l) : ∀ k, v.ownBlock = some k → base ≤ k ∧ k < w.heap.size := World.ownsRow.lt h
theorem OwnV.old (h : OwnV t w base v l) (e : ∀ b, v.ownBlock = some b → w'.heap[b]? = w.heap[b]?) : OwnV t w' base v l := by
  obtain ⟨h1, h2⟩ := h
  refine ⟨h1, ?_⟩
  rcases h2 with h2 | ⟨g, cap, cur, rfl, hg, hh, r⟩
  · exact Or.inl h2
  · exact Or.inr ⟨g, cap, cur, rfl, hg, (e g rfl).trans hh, r⟩
theorem OwnV.below (h : OwnV t w base v l) (hb : Below w.heap.size w w') : OwnV t w' base v l := h.old (fun b e => hb.block b (h.lt b e).2)
theorem OwnV.ext (h : OwnV t w base v l) (k : Ext R R' w w') (hR : ∀ b, v.ownBlock = some b → ¬ R b) : OwnV t w' base v l := h.old (fun b e => k.1.block b (h.lt b e).2 (hR b e))
theorem OwnV.far (h : OwnV t w base v l) {p : Addr} (hp : some p.block ≠ v.ownBlock) (u : Value) : OwnV t (w.setCell p u) base v l :=
  h.old (fun b e => Below.heap_setCell w p u b (fun e' => hp (by rw [← e', e])))
theorem OwnV.shape (h : OwnV t w base v l) : ∃ A c, v = .slice A l.length c ∧ l.length ≤ c ∧ c ≤ maxLen ∧ (A = none → c = 0) ∧ (∀ a, A = some a → a = ⟨a.block, 0, none⟩) := by
  rcases h.2 with ⟨rfl, h0⟩ | ⟨g, cap, cur, rfl, _, _, hl, hm, _⟩
  · exact ⟨none, 0, by rw [h0], by omega, by omega, fun _ => rfl, fun a e => by cases e⟩
  · exact ⟨_, _, rfl, hl, hm, (fun e => by cases e), fun a e => by cases e; rfl⟩
theorem OwnV.va {A : Option Addr} {n c : Nat} (h : OwnV t w base (.slice A n c) l) (hR : ∀ b, (Value.slice A n c).ownBlock = some b → ¬ R b) : VA w R A n l := by
  have hcl := fun g hg => World.ownsRow.cells (g := g) h hg
  obtain ⟨h1, h2⟩ := h
  rcases h2 with ⟨e, h0⟩ | ⟨g, cap, cur, e, hg, hh, r⟩
  · cases e
    exact ⟨h0, fun h => by omega⟩
  · cases e
    refine ⟨rfl, fun _ => ⟨g, 0, rfl, hR g rfl, fun j hj => ?_⟩⟩
    have h3 := hcl g rfl j (l.getD j undef) (by simp [List.getD, hj])
    have e : (⟨g, 0, none⟩ : Addr).add j = ⟨g, 0 + j, none⟩ := by unfold Addr.add; split <;> simp_all
    rw [e] at h3
    exact h3
theorem OwnV.new (t : TypeId) (w : World) (base : Nat) (hb : base ≤ w.heap.size) (l : List Value) (hl : l.length ≤ maxLen) : OwnV t (w.alloc (.cells l.toArray t)) base (.slice (some ⟨w.heap.size, 0, none⟩) l.length l.length) l :=
  ⟨by omega, Or.inr ⟨w.heap.size, l.length, l.toArray, rfl, hb, heap_alloc_new w _, Nat.le_refl _, hl, by simp, by simp⟩⟩
end
/-- elements appended to a slice of the call's own -/
theorem wp_appV (st t : TypeId) (z : Value) (bytes : Nat) (hu : Tryz.prog.underlying st = some (.slice t)) (hinfo : (Tryz.prog.info? t).map (fun i => (i.zero, i.size, i.bytes)) = some (some z, 1, bytes)) (hz : z.cells.size = 1) (hb64 : bytes ≤ 64)
    {w : World} {ops : Array Oper} {rest : List Oper} {o : Oper} {a : Act} {Q : Exit → Act → World → Prop} (hgd : o.guard = none) (s x : Operand)
    (ho : o.op = .call { callee := .builtin .append, args := #[s, x], argTypes := #[st, st] })
    (base : Nat) (v : Value) (l : List Value) (hown : OwnV t w base v l) (hs : a.eval s = v) (A : Option Addr) (m c : Nat) (b : List Value) (hx : a.eval x = .slice A m c) (hb : VA w (fun _ => False) A m b) (hone : ∀ u ∈ b, u.oneCell' = true) (hc0 : A = none → c = 0)
    (hlen : l.length + m < 1073741824) (hbase : base ≤ w.heap.size)
    (h : ∀ v' w', OwnV t w' base v' (l ++ b) → w.grownBy w' v.ownBlock → Below base w w' → (v'.ownBlock = v.ownBlock ∨ v'.ownBlock = some w.heap.size) → wpList Tryz.prog ops Q rest (a.put o.dst v') w') : wpList Tryz.prog ops Q (o :: rest) a w := by
  obtain ⟨i0, hi, hz0, hz1, hz2⟩ := info_parts hinfo
  obtain ⟨hbl, hb2⟩ := hb
  cases A with
  | none =>
    obtain rfl := hc0 rfl
    have hm : m = 0 := by
      rcases Nat.eq_zero_or_pos m with e | e
      · exact e
      · obtain ⟨_, _, h0, _⟩ := hb2 e
        cases h0
    subst hm
    have hbn : b = [] := List.eq_nil_of_length_eq_zero hbl
    subst hbn
    refine wpList_append_own_none hgd s x st ho base t i0 1 hu hi v l.length l hs hown hx ?_
    refine h v w ?_ (World.grownBy.refl _ _) (Below.refl _ _) (Or.inl rfl)
    rw [List.append_nil]
    exact hown
  | some ad =>
    refine wpList_append_own_at _ hgd s x st ho base t i0 _ 1 bytes hu hi hz0 hz1 hz2 hz (by decide) v l.length l hs hown ad m c b hx (by rw [hbl, Nat.mul_one]) ?_ hone (by unfold maxLen; omega) ?_ hbase ?_
    · intro j u hj
      have hj' : j < b.length := by
        rcases Nat.lt_or_ge j b.length with e | e
        · exact e
        · rw [List.getElem?_eq_none e] at hj; cases hj
      obtain ⟨g, off, e, _, hcc⟩ := hb2 (by omega)
      cases e
      have e : (⟨g, off, none⟩ : Addr).add j = ⟨g, off + j, none⟩ := by unfold Addr.add; split <;> simp_all
      rw [e, hcc j (by omega)]
      rw [List.getElem?_eq_getElem hj'] at hj
      cases hj
      simp [List.getD, hj']
    · have : (l.length + m) * bytes ≤ 1073741824 * 64 := Nat.mul_le_mul (by omega) hb64
      omega
    · intro v' w' h1 h2 _ h3
      refine h v' w' ?_ h2 ((Below.refl _ _).grown h2 hbase (fun k hk => (World.ownsRow.lt hown k hk).1)) h3
      unfold OwnV
      rw [List.length_append, hbl]
      exact h1
/-- pointers to drives -/
def pv (p : Option Nat) : Value := .pointer (p.map fun g => ⟨g, 0, none⟩)
theorem pv_one (p : Option Nat) : (pv p).oneCell' = true := rfl
end Go.Proofs.YtmhmdoobadckkaaGreatDoor
/- layout.Check: which geometries may be. -/
namespace Go.Proofs.YtmhmdoobadckkaaGreatDoor
set_option maxRecDepth 20000
open Go.RowKit Go.OpenShut

def geoOK (c k r : Int) : Bool := decide (4 ≤ c ∧ c ≤ 10) && decide (1 ≤ k ∧ k ≤ 4) && decide (1 ≤ r ∧ r ≤ 256)
def geoE (c k r : Int) : Int := if geoOK c k r then 0 else 1
theorem geoOK_iff (c k r : Int) : geoOK c k r = true ↔ (4 ≤ c ∧ c ≤ 10) ∧ (1 ≤ k ∧ k ≤ 4) ∧ (1 ≤ r ∧ r ≤ 256) := by
  simp [geoOK, and_assoc]
theorem geoE_no {c k r : Int} (h : ¬ ((4 ≤ c ∧ c ≤ 10) ∧ (1 ≤ k ∧ k ≤ 4) ∧ (1 ≤ r ∧ r ≤ 256))) : geoE c k r = 1 := by
  unfold geoE
  rw [if_neg (fun e => h ((geoOK_iff c k r).1 e))]
theorem geoE_yes {c k r : Int} (h : (4 ≤ c ∧ c ≤ 10) ∧ (1 ≤ k ∧ k ≤ 4) ∧ (1 ≤ r ∧ r ≤ 256)) : geoE c k r = 0 := by
  unfold geoE
  rw [if_pos ((geoOK_iff c k r).2 h)]
theorem geoE_val (c k r : Int) : geoE c k r = 0 ∧ geoOK c k r = true ∨ geoE c k r = 1 ∧ geoOK c k r = false := by
  unfold geoE
  cases geoOK c k r
  · exact Or.inr ⟨rfl, rfl⟩
  · exact Or.inl ⟨rfl, rfl⟩
theorem ret_i64 {a b : Int} (h : a = b) : Ending.returned (.int .i64 a) = .returned (.int .i64 b) := by rw [h]
set_option maxHeartbeats 1000000 in
theorem check_any (w : World) (c k r : Int) :
    Calls Tryz.prog 144 #[.agg #[.int .i64 c, .int .i64 k, .int .i64 r]] w fun e w' => e = .returned (.int .i64 (geoE c k r)) ∧ Below w.heap.size w w' := by
  have i0 : ∀ w, (Instr.index 286 (.agg #[.int .i64 4, .int .i64 c, .int .i64 10, .int .i64 1, .int .i64 k, .int .i64 4, .int .i64 1, .int .i64 r, .int .i64 256]) (.int .i64 0)).run Tryz.prog w = .ok (.agg #[.int .i64 4, .int .i64 c, .int .i64 10]) w := fun _ => by kernel_rfl
  have i1 : ∀ w, (Instr.index 286 (.agg #[.int .i64 4, .int .i64 c, .int .i64 10, .int .i64 1, .int .i64 k, .int .i64 4, .int .i64 1, .int .i64 r, .int .i64 256]) (.int .i64 1)).run Tryz.prog w = .ok (.agg #[.int .i64 1, .int .i64 k, .int .i64 4]) w := fun _ => by kernel_rfl
  have i2 : ∀ w, (Instr.index 286 (.agg #[.int .i64 4, .int .i64 c, .int .i64 10, .int .i64 1, .int .i64 k, .int .i64 4, .int .i64 1, .int .i64 r, .int .i64 256]) (.int .i64 2)).run Tryz.prog w = .ok (.agg #[.int .i64 1, .int .i64 r, .int .i64 256]) w := fun _ => by kernel_rfl
  go_enter Tryz.func144, Tryz.ntmps144
  go_wp2_with fail
  refine wp_loop_rounds 4 ?_
  repeat any_goals (rw [rounds_succ]; go_wp2_with fail)
  all_goals
    go_ret
    refine ⟨ret_i64 (by first | (rw [geoE_yes (by omega)]) | (rw [geoE_no (by omega)])), ?_⟩
    repeat (first | exact Below.refl _ _ | refine Below.alloc ?_ (by simp <;> omega) _)
end Go.Proofs.YtmhmdoobadckkaaGreatDoor
/- The layout of rows on columns: which column a role has in a row, and back. Plain numbers. -/
namespace Go.Proofs.YtmhmdoobadckkaaGreatDoor
set_option maxRecDepth 20000

/-- Q's column -/
def lfirst (n row : Nat) : Nat := (2 * n - row % n) % n
/-- the column of a role: data from 0 on, then P, then Q -/
def lcol (n row r : Nat) : Nat := (lfirst n row + 1 + r) % n
def lrole (n row c : Nat) : Nat := if (c + n - lfirst n row) % n = 0 then n - 1 else (c + n - lfirst n row) % n - 1
/-- the sector of a place -/
def lsec (k row off : Nat) : Nat := 4 + k * row + off

theorem lfirst_lt {n : Nat} (row : Nat) (h : 0 < n) : lfirst n row < n := Nat.mod_lt _ h
theorem lcol_lt {n : Nat} (row r : Nat) (h : 0 < n) : lcol n row r < n := Nat.mod_lt _ h
theorem mod_once {a n : Nat} (h1 : n ≤ a) (h2 : a < 2 * n) : a % n = a - n := by
  rw [Nat.mod_eq_sub_mod h1, Nat.mod_eq_of_lt (by omega)]
theorem lcol_val {n row r : Nat} (h : 0 < n) (hr : r < n) : lcol n row r = if lfirst n row + 1 + r < n then lfirst n row + 1 + r else lfirst n row + 1 + r - n := by
  have h1 := lfirst_lt row h
  unfold lcol
  split
  · exact Nat.mod_eq_of_lt (by assumption)
  · exact mod_once (by omega) (by omega)
theorem lcol_inj {n row r r' : Nat} (h : 0 < n) (hr : r < n) (hr' : r' < n) (e : lcol n row r = lcol n row r') : r = r' := by
  have h1 := lfirst_lt row h
  rw [lcol_val h hr, lcol_val h hr'] at e
  split at e <;> split at e <;> omega
theorem lrole_lt {n row c : Nat} (h : 0 < n) : lrole n row c < n := by
  have := Nat.mod_lt (c + n - lfirst n row) h
  unfold lrole
  split <;> omega
theorem lcol_lrole {n row c : Nat} (h : 0 < n) (hc : c < n) : lcol n row (lrole n row c) = c := by
  have h1 := lfirst_lt row h
  have h2 : (c + n - lfirst n row) % n = if c < lfirst n row then c + n - lfirst n row else c - lfirst n row := by
    split
    · exact Nat.mod_eq_of_lt (by omega)
    · rw [mod_once (by omega) (by omega)]; omega
  rw [lcol_val h (lrole_lt h)]
  unfold lrole
  rw [h2]
  split <;> split <;> split <;> omega
theorem lrole_lcol {n row r : Nat} (h : 0 < n) (hr : r < n) : lrole n row (lcol n row r) = r :=
  lcol_inj h (lrole_lt h) hr (lcol_lrole h (lcol_lt row r h))
/-- P's column, and Q's, as the code tells them -/
theorem lcol_q {n row : Nat} (h : 0 < n) : lcol n row (n - 1) = lfirst n row := by
  have h1 := lfirst_lt row h
  rw [lcol_val h (by omega)]
  split <;> omega
theorem lcol_p {n row : Nat} (h : 1 < n) : lcol n row (n - 2) = (lfirst n row + n - 1) % n := by
  unfold lcol
  congr 1
  omega
/-- sectors of other places are other ones -/
theorem lsec_inj {k row off row' off' : Nat} (ho : off < k) (ho' : off' < k) (e : lsec k row off = lsec k row' off') : row = row' ∧ off = off' := by
  unfold lsec at e
  have h : k * row + off = k * row' + off' := by omega
  have hk : 0 < k := by omega
  have h1 : (k * row + off) / k = row := by rw [Nat.mul_add_div hk, Nat.div_eq_of_lt ho, Nat.add_zero]
  have h2 : (k * row' + off') / k = row' := by rw [Nat.mul_add_div hk, Nat.div_eq_of_lt ho', Nat.add_zero]
  have h3 : row = row' := by rw [← h1, ← h2, h]
  subst h3
  exact ⟨rfl, by omega⟩
theorem lsec_lt {k rows row off : Nat} (hr : row < rows) (ho : off < k) : lsec k row off < 4 + rows * k := by
  unfold lsec
  have : k * (row + 1) ≤ k * rows := Nat.mul_le_mul_left k hr
  rw [Nat.mul_add, Nat.mul_one] at this
  rw [Nat.mul_comm rows k]
  omega
/-- the place of a sector of the array: row, data column, offset -/
def fRow (n k s : Nat) : Nat := s / k / (n - 2)
def fI (n k s : Nat) : Nat := s / k % (n - 2)
def fOff (k s : Nat) : Nat := s % k
theorem f_lt {n k rows s : Nat} (hn : 2 < n) (hk : 0 < k) (hs : s < rows * k * (n - 2)) : fRow n k s < rows ∧ fI n k s < n - 2 ∧ fOff k s < k := by
  refine ⟨?_, Nat.mod_lt _ (by omega), Nat.mod_lt _ hk⟩
  unfold fRow
  rw [Nat.div_div_eq_div_mul, Nat.div_lt_iff_lt_mul (Nat.mul_pos hk (by omega)), ← Nat.mul_assoc]
  exact hs
theorem f_inj {n k s s' : Nat} (h1 : fRow n k s = fRow n k s') (h2 : fI n k s = fI n k s') (h3 : fOff k s = fOff k s') : s = s' := by
  unfold fRow fI fOff at *
  have e : s / k = s' / k := by
    rw [← Nat.div_add_mod (s / k) (n - 2), h1, h2, Nat.div_add_mod]
  rw [← Nat.div_add_mod s k, e, h3, Nat.div_add_mod]
end Go.Proofs.YtmhmdoobadckkaaGreatDoor
/- A region that draws its order, walked in ONE order: operations that do the same in whatever world meets S are taken as soon as they may come up; all others come up one at a time. -/
namespace Go.Proofs.YtmhmdoobadckkaaGreatDoor
set_option maxRecDepth 20000
open Go

section
variable {P : Program} {ops : Array Oper} {Q : Exit → Act → World → Prop} {md : Region.Mode} {S : World → Prop}

/-- The operation o, at a, puts v and leaves the world as it is, whatever world meets S, whatever comes behind. -/
def YG (P : Program) (ops : Array Oper) (S : World → Prop) (o : Oper) (v : Value) (a : Act) : Prop :=
  (Region.wanted o (yielded ops a.tmps) = true ∧ ∀ w, S w → (∀ d w', (execOp a.eval o).run P w ≠ .ok (.defer d) w') ∧ ∀ (K : Act → World → Prop) (Q : Exit → Act → World → Prop), K (a.put o.dst v) w → o.wp P a w K Q) ∨
  (Region.wanted o (yielded ops a.tmps) = false ∧ v = undef)

theorem wp_strict {o : Oper} {a : Act} {w : World} {K1 K : Act → World → Prop} {Q1 Q : Exit → Act → World → Prop} (h : o.wp P a w K1 Q1) (hK : ∀ a w, K1 a w → K a w)
    (hp : ∀ c a w, ¬ Q1 (.panic c) a w) (ho : ¬ LetsOut Q1) : o.wp P a w K Q := by
  unfold Oper.wp at *
  generalize (execOp a.eval o).run P w = r at *
  cases r with
  | ok n w' =>
    cases n <;> simp only [Oper.upon] at h ⊢
    case value v => exact hK _ _ h
    case skip => exact hK _ _ h
    case defer d => exact hK _ _ h
    case enter f args =>
      refine Calls.mono h fun e w'' he => ?_
      cases e with
      | returned u => exact hK _ _ he
      | panicked c => exact absurd he (hp _ _ _)
      | outgrown => exact absurd he ho
    case row row args => exact Rows.mono h fun u w'' he => hK _ _ he
    all_goals exact h
  | halt x w' =>
    cases x <;> simp only [Oper.upon] at h ⊢
    case panic u => exact absurd h (hp _ _ _)

theorem wp_put {o : Oper} {a : Act} {w : World} {dj : Option Tmp} {u : Value} {K : Act → World → Prop} (hs : ∀ cs b, o.op ≠ .select cs b)
    (h1 : ∀ d, dj = some d → d ∉ o.looksAt ops) (h2 : ∀ d, o.dst = some d → dj ≠ some d)
    (h : o.wp P a w (fun b w => K (b.put dj u) w) (fun e b w => Q e (b.put dj u) w)) : o.wp P (a.put dj u) w K Q := by
  unfold Oper.wp at *
  rw [execOp_put o hs a dj u h1]
  have hout : LetsOut (fun e b w => Q e (b.put dj u) w) → LetsOut Q := fun ⟨a, w, hq⟩ => ⟨_, w, hq⟩
  generalize (execOp a.eval o).run P w = r at *
  cases r with
  | ok n w' =>
    cases n <;> simp only [Oper.upon] at h ⊢
    case value v => rw [← Act.put_comm a v u h2]; exact h
    case skip => rw [← Act.put_comm a undef u h2]; exact h
    case defer d =>
      rw [Act.put_defers, ← Act.put_comm _ undef u h2]
      exact h
    case enter f args =>
      refine Calls.mono h fun e w'' he => ?_
      cases e with
      | returned v => simp only at he ⊢; rw [← Act.put_comm a v u h2]; exact he
      | panicked c => exact he
      | outgrown => exact hout he
    case row row args => exact Rows.mono h fun v w'' he => by rw [← Act.put_comm a v u h2]; exact he
    all_goals exact h
  | halt x w' =>
    cases x <;> simp only [Oper.upon] at h ⊢
    case panic v => exact h

theorem YG.wpOp {i : Nat} {o : Oper} {v : Value} {a : Act} (hi : ops[i]? = some o) (hy : YG P ops S o v a) {K : Act → World → Prop} {w : World} (hS : S w)
    (h : K (a.put o.dst v) w) : wpOp P ops Q i K a w := by
  unfold Go.wpOp
  simp only [hi]
  rcases hy with ⟨hw, hv⟩ | ⟨hw, rfl⟩
  · simp only [hw, if_true]; exact .inl ((hv w hS).2 K Q h)
  · simp only [hw, Bool.false_eq_true, if_false]; exact h

theorem YG.put {o : Oper} {v u : Value} {a : Act} {dj : Option Tmp} (hs : ∀ cs b, o.op ≠ .select cs b) (h1 : ∀ d, dj = some d → d ∉ o.looksAt ops) (h2 : ∀ d, o.dst = some d → dj ≠ some d)
    (hy : YG P ops S o v a) : YG P ops S o v (a.put dj u) := by
  unfold YG at *
  rw [wanted_put o a dj u h1]
  refine hy.imp (fun ⟨hw, hv⟩ => ⟨hw, fun w hS => ⟨by rw [execOp_put o hs a dj u h1]; exact (hv w hS).1, fun K Q h => ?_⟩⟩) id
  refine wp_put (ops := ops) hs h1 h2 ((hv w hS).2 _ _ ?_)
  rw [Act.put_comm a v u h2]
  exact h
theorem YG.defer {o : Oper} {v : Value} {a : Act} {d : Deferred} (hy : YG P ops S o v a) : YG P ops S o v { a with defers := d :: a.defers } := by
  refine hy.imp (fun ⟨hw, hv⟩ => ⟨hw, fun w hS => ⟨(hv w hS).1, fun K Q h => ?_⟩⟩) id
  have hnd := (hv w hS).1
  have h3 := (hv w hS).2 (fun b w => K { b with defers := d :: b.defers } w) (fun e b w => Q e { b with defers := d :: b.defers } w)
  have hp : ∀ (b : Act) (x : Option Tmp) (u : Value), ({ b.put x u with defers := d :: (b.put x u).defers } : Act) = ({ b with defers := d :: b.defers } : Act).put x u := fun b x u => Act.put_defers b x u d
  rw [hp] at h3
  have h4 := h3 h
  unfold Oper.wp at *
  have he : execOp ({ a with defers := d :: a.defers } : Act).eval o = execOp a.eval o := rfl
  rw [he]
  have hout : LetsOut (fun e b w => Q e { b with defers := d :: b.defers } w) → LetsOut Q := fun ⟨a, w, hq⟩ => ⟨_, w, hq⟩
  clear hv h3 h
  generalize (execOp a.eval o).run P w = r at *
  cases r with
  | ok n w' =>
    cases n <;> simp only [Oper.upon, hp] at h4 ⊢
    case value v => exact h4
    case skip => exact h4
    case defer e => exact absurd rfl (hnd e w')
    case enter f args =>
      refine Calls.mono h4 fun e w'' he => ?_
      cases e with
      | returned v => exact he
      | panicked c => exact he
      | outgrown => exact hout he
    case row row args => exact h4
    all_goals exact h4
  | halt x w' =>
    cases x <;> simp only [Oper.upon] at h4 ⊢
    case panic v => exact h4

theorem wpOp_putG {j : Nat} {oi oj : Oper} {v : Value} (hj : ops[j]? = some oj) (hap : oi.apart ops oj = true)
    (hsi : ∀ cs b, oi.op ≠ .select cs b) (hsj : ∀ cs b, oj.op ≠ .select cs b)
    (hQ : ∀ c a w, Q (.panic c) (a.put oi.dst v) w → Q (.panic c) a w) {K : Act → World → Prop} {a : Act} {w : World}
    (hy : YG P ops S oi v a) (h : wpOp P ops Q j K (a.put oi.dst v) w) :
    wpOp P ops Q j (fun a' w' => YG P ops S oi v a' ∧ K (a'.put oi.dst v) w') a w := by
  obtain ⟨h1, h2, h3⟩ := Oper.apart_spec hap
  have keep : ∀ (a : Act), YG P ops S oi v a → ∀ u, YG P ops S oi v (a.put oj.dst u) := fun a hy u => hy.put hsi h3 h2
  unfold wpOp at *
  simp only [hj] at *
  rw [wanted_put oj a oi.dst v h1] at h
  split
  · rename_i hw
    simp only [hw, if_true] at h
    rcases h with h | ⟨hasks, hlets⟩
    case inr => exact .inr ⟨by unfold Oper.asks at *; rw [execOp_put oj hsj a oi.dst v h1] at hasks; exact hasks, hlets⟩
    refine .inl ?_
    unfold Oper.wp at *
    rw [execOp_put oj hsj a oi.dst v h1] at h
    generalize (execOp a.eval oj).run P w = r at *
    cases r with
    | ok n w' =>
      cases n <;> simp only [Oper.upon] at h ⊢
      case value u => exact ⟨keep a hy u, by rw [← Act.put_comm a v u h2]; exact h⟩
      case skip => exact ⟨keep a hy _, by rw [← Act.put_comm a v undef h2]; exact h⟩
      case defer d =>
        refine ⟨(hy.defer).put hsi h3 h2, ?_⟩
        rw [← Act.put_comm _ v undef h2, ← Act.put_defers]
        exact h
      case enter f args =>
        refine Calls.mono h fun e w'' he => ?_
        cases e with
        | returned u => exact ⟨keep a hy u, by rw [← Act.put_comm a v u h2]; exact he⟩
        | panicked c => exact hQ _ _ _ he
        | outgrown => exact he
      case row row args => exact Rows.mono h fun u w'' he => ⟨keep a hy u, by rw [← Act.put_comm a v u h2]; exact he⟩
    | halt x w' =>
      cases x <;> simp only [Oper.upon] at h ⊢
      case panic u => exact hQ _ _ _ h
  · rename_i hw
    simp only [hw] at h
    exact ⟨keep a hy _, by rw [← Act.put_comm a v undef h2]; exact h⟩

/-- 'wpAny' that hands S on behind each operation that is no bar. -/
def wpAnyG (P : Program) (md : Region.Mode) (ops : Array Oper) (Q : Exit → Act → World → Prop) (S : World → Prop) (bar : Nat → Bool) : Nat → Array Bool → Act → World → Prop
  | 0, listed, a, w => Region.ready md ops listed = [] ∧ Q .normal a w
  | fuel + 1, listed, a, w =>
    (Region.ready md ops listed = [] → Q .normal a w) ∧
    ∀ i ∈ Region.ready md ops listed, wpOp P ops Q i (fun a' w' => (bar i = false → S w') ∧ wpAnyG P md ops Q S bar fuel (listed.setIfInBounds i true) a' w') a w
theorem wpAny_of_G {bar : Nat → Bool} : ∀ (fuel : Nat) (listed : Array Bool) (a : Act) (w : World), wpAnyG P md ops Q S bar fuel listed a w → wpAny P md ops Q fuel listed a w
  | 0, _, _, _, h => h
  | fuel + 1, _, _, _, h => ⟨h.1, fun i hi => wpOp_mono (fun a' w' h' => wpAny_of_G fuel _ a' w' h'.2) (h.2 i hi)⟩

theorem wpAnyG_first {bar : Nat → Bool} {i : Nat} {oi : Oper} {v : Value} (hi : ops[i]? = some oi) (hsel : ∀ (j : Nat) (o : Oper) cs b, ops[j]? = some o → o.op ≠ .select cs b)
    (hb : bar i = false)
    (hQ : ∀ c a w, Q (.panic c) (a.put oi.dst v) w → Q (.panic c) a w) :
    ∀ (fuel : Nat) (listed : Array Bool) (a : Act) (w : World), S w →
      (∀ j oj, ops[j]? = some oj → j ≠ i → listed.getD j true = false → (∀ e ∈ oj.after, Region.binds md e = true → e.on ≠ i) → oi.apart ops oj = true ∧ bar j = false) →
      i ∈ Region.ready md ops listed → YG P ops S oi v a →
      wpAnyG P md ops Q S bar fuel (listed.setIfInBounds i true) (a.put oi.dst v) w → wpAnyG P md ops Q S bar (fuel + 1) listed a w := by
  intro fuel
  induction fuel with
  | zero =>
    intro listed a w hS _ hr hy H
    refine ⟨fun h => (by rw [h] at hr; cases hr), fun j hj => ?_⟩
    by_cases hji : j = i
    · subst hji; exact hy.wpOp hi hS ⟨fun _ => hS, H⟩
    · have := ready_mono hj hji
      rw [H.1] at this
      cases this
  | succ fuel ih =>
    intro listed a w hS hfree hr hy H
    refine ⟨fun h => (by rw [h] at hr; cases hr), fun j hj => ?_⟩
    by_cases hji : j = i
    · subst hji; exact hy.wpOp hi hS ⟨fun _ => hS, H⟩
    · have h1 := H.2 j (ready_mono hj hji)
      obtain ⟨hjun, oj, hoj, hall⟩ := mem_ready.1 hj
      have hnot : ∀ e ∈ oj.after, Region.binds md e = true → e.on ≠ i := fun e he hb heq => by
        have h1 := hall e he hb
        have h0 := (mem_ready.1 hr).1
        rw [heq] at h1
        rcases Nat.lt_or_ge i listed.size with h' | h'
        · simp [h'] at h0 h1; rw [h0] at h1; cases h1
        · simp [Array.getElem?_eq_none h'] at h1
      have hfj := hfree j oj hoj hji hjun hnot
      have h2 := wpOp_putG hoj hfj.1 (fun cs b => hsel i oi cs b hi) (fun cs b => hsel j oj cs b hoj) hQ hy h1
      have hfree' : ∀ k ok, ops[k]? = some ok → k ≠ i → (listed.setIfInBounds j true).getD k true = false →
          (∀ e ∈ ok.after, Region.binds md e = true → e.on ≠ i) → oi.apart ops ok = true ∧ bar k = false := fun k ok hk hki hun hno => by
        refine hfree k ok hk hki ?_ hno
        by_cases hjk : j = k
        · subst hjk; exact hjun
        · rw [getD_set_ne true hjk] at hun; exact hun
      refine wpOp_mono (fun a' w' h3 => ⟨h3.2.1, ih (listed.setIfInBounds j true) a' w' (h3.2.1 hfj.2) hfree' (ready_mono hr (Ne.symm hji)) h3.1 ?_⟩) h2
      rw [Array.setIfInBounds_comm _ _ hji]
      exact h3.2.2

/-! ### the one order -/
def wpNF (P : Program) (ops : Array Oper) (Q : Exit → Act → World → Prop) (S : World → Prop) (bar : Nat → Bool) : List (Nat × Bool) → Act → World → Prop
  | [], a, w => Q .normal a w
  | (i, true) :: r, a, w => S w ∧ ∃ o v, ops[i]? = some o ∧ YG P ops S o v a ∧ wpNF P ops Q S bar r (a.put o.dst v) w
  | (i, false) :: r, a, w => wpOp P ops Q i (fun a' w' => (bar i = false → S w') ∧ wpNF P ops Q S bar r a' w') a w

def nfFree (md : Region.Mode) (ops : Array Oper) (bar : Nat → Bool) (listed : Array Bool) (i : Nat) : Bool :=
  match ops[i]? with
  | none => false
  | some oi => !bar i && (List.range ops.size).all fun j => j == i || listed.getD j true || match ops[j]? with
      | some oj => oj.after.any (fun e => Region.binds md e && e.on == i) || (oi.apart ops oj && !bar j)
      | none => true
theorem nfFree_spec {bar : Nat → Bool} {i : Nat} {oi : Oper} {listed : Array Bool} (hi : ops[i]? = some oi) (h : nfFree md ops bar listed i = true) :
    bar i = false ∧ ∀ (j : Nat) (oj : Oper), ops[j]? = some oj → j ≠ i → listed.getD j true = false → (∀ e ∈ oj.after, Region.binds md e = true → e.on ≠ i) → oi.apart ops oj = true ∧ bar j = false := by
  simp only [nfFree, hi, Bool.and_eq_true, Bool.not_eq_true', List.all_eq_true, List.mem_range] at h
  refine ⟨h.1, fun j oj hj hne hun hno => ?_⟩
  have h1 := h.2 j (Array.getElem?_eq_some_iff.1 hj).1
  simp only [hj, Bool.or_eq_true, beq_iff_eq, hne, false_or, hun, Bool.false_eq_true] at h1
  rcases h1 with h1 | h1
  · obtain ⟨e, he, hb⟩ := Array.any_eq_true'.1 h1
    simp only [Bool.and_eq_true, beq_iff_eq] at hb
    exact absurd hb.2 (hno e he hb.1)
  · simpa using h1

def nfB (md : Region.Mode) (ops : Array Oper) (bar : Nat → Bool) : List (Nat × Bool) → Array Bool → Bool
  | [], listed => (Region.ready md ops listed).isEmpty
  | (i, true) :: r, listed => (Region.ready md ops listed).contains i && nfFree md ops bar listed i && nfB md ops bar r (listed.setIfInBounds i true)
  | (i, false) :: r, listed => decide (Region.ready md ops listed = [i]) && nfB md ops bar r (listed.setIfInBounds i true)

theorem wpAnyG_of_nf {bar : Nat → Bool} (hs : Region.noSelect ops = true) (hQ : ∀ d v c a w, Q (.panic c) (a.put d v) w → Q (.panic c) a w) :
    ∀ (π : List (Nat × Bool)) (listed : Array Bool) (a : Act) (w : World), nfB md ops bar π listed = true → wpNF P ops Q S bar π a w → wpAnyG P md ops Q S bar π.length listed a w
  | [], _, _, _, hB, h => ⟨by simpa [nfB] using hB, h⟩
  | (i, true) :: r, listed, a, w, hB, h => by
    obtain ⟨hS, o, v, hi, hy, h⟩ := h
    simp only [nfB, Bool.and_eq_true] at hB
    obtain ⟨⟨hr, hf⟩, hB'⟩ := hB
    obtain ⟨hb, hfree⟩ := nfFree_spec hi hf
    exact wpAnyG_first hi (Region.noSelect_spec hs) hb (fun c a w => hQ o.dst v c a w) r.length listed a w hS hfree (by simpa using hr) hy (wpAnyG_of_nf hs hQ r _ _ _ hB' h)
  | (i, false) :: r, listed, a, w, hB, h => by
    simp only [nfB, Bool.and_eq_true, decide_eq_true_eq] at hB
    obtain ⟨hr, hB'⟩ := hB
    refine ⟨fun h0 => (by rw [hr] at h0; cases h0), fun j hj => ?_⟩
    rw [hr] at hj
    obtain rfl : j = i := by simpa using hj
    exact wpOp_mono (fun a' w' h' => ⟨h'.1, wpAnyG_of_nf hs hQ r _ _ _ hB' h'.2⟩) h

/-- THE REGION, BY ITS ONE ORDER π. -/
theorem wp_region_nf {id : Nat} {l : List Oper} {a : Act} {w : World} (S : World → Prop) (bar : Nat → Bool) (π : List (Nat × Bool)) (hm : P.follows .mixedOrders = true)
    (hn : π.length = l.length) (hs : Region.noSelect l.toArray = true) (hB : nfB .any l.toArray bar π (Array.replicate l.length false) = true)
    (hQ : ∀ d v c a w, Q (.panic c) (a.put d v) w → Q (.panic c) a w)
    (h : wpNF P l.toArray Q S bar π a w.drew) : (Code.region id l.toArray true).wp P Q a w := by
  refine wp_region_any hm (wpAny_of_G _ _ _ _ (S := S) (bar := bar) ?_)
  have := wpAnyG_of_nf hs hQ π (Array.replicate l.length false) a w.drew hB h
  rw [hn] at this
  simpa using this

theorem put_defers_eq (a : Act) (d : Option Tmp) (v : Value) : (a.put d v).defers = a.defers := by cases d <;> rfl
theorem put_val {a a1 : Act} {d : Option Tmp} {v : Value} (hsz : ∀ t, d = some t → t < a.tmps.size) (h : a.put d v = a1) (b : Act) :
    b.put d v = b.put d (match d with | some t => a1.tmps.getD t undef | none => undef) := by
  cases d with
  | none => rfl
  | some t =>
    subst h
    have := hsz t rfl
    simp [Act.put, this]
def only (a1 : Act) (w' : World) : Exit → Act → World → Prop := fun e a'' w'' => e = .normal ∧ a'' = a1 ∧ w'' = w'
theorem only_out {a1 : Act} {w' : World} : ¬ LetsOut (only a1 w') := fun ⟨_, _, h, _⟩ => by cases h
theorem wp_val {o : Oper} {a a1 : Act} {w w' : World} (hd : a1.defers = a.defers) (h : o.wp P a w (only a1 w' .normal) (only a1 w')) :
    (∃ v, a.put o.dst v = a1) ∧ ∀ d w'', (execOp a.eval o).run P w ≠ .ok (.defer d) w'' := by
  unfold Oper.wp at h
  generalize (execOp a.eval o).run P w = r at *
  cases r with
  | ok n w1 =>
    cases n <;> simp only [Oper.upon] at h
    case value v => exact ⟨⟨v, h.2.1⟩, fun d w'' e => by cases e⟩
    case skip => exact ⟨⟨undef, h.2.1⟩, fun d w'' e => by cases e⟩
    case defer d =>
      have h2 := congrArg (fun x : Act => x.defers.length) h.2.1
      simp only [put_defers_eq, hd, List.length_cons] at h2
      omega
    case enter f args =>
      obtain ⟨e, w2, fr, hR, _⟩ := h []
      cases e with
      | returned v => exact ⟨⟨v, hR.2.1⟩, fun d w'' e => by cases e⟩
      | panicked c => cases hR.1
      | outgrown => exact absurd hR only_out
    case row row args =>
      obtain ⟨v, w2, hR, _⟩ := h default []
      exact ⟨⟨v, hR.2.1⟩, fun d w'' e => by cases e⟩
  | halt x w1 =>
    cases x <;> simp only [Oper.upon] at h
    case panic u => cases h.1

def szB (o : Oper) (a : Act) : Bool := match o.dst with | some d => decide (d < a.tmps.size) | none => true
theorem szB_spec {o : Oper} {a : Act} (h : szB o a = true) : ∀ d, o.dst = some d → d < a.tmps.size := fun d hd => by simpa [szB, hd] using h
/-- AN OPERATION THAT IS TAKEN AS SOON AS IT MAY COME UP: walked alone, in whatever world meets S. -/
theorem nf_pure {bar : Nat → Bool} {i : Nat} {o : Oper} {r : List (Nat × Bool)} {a a1 : Act} {w : World} (hi : ops[i]? = some o) (hS : S w)
    (h1 : ∀ w', S w' → wpList P ops (only a1 w') [o] a w') (hz : szB o a = true) (hd : a1.defers = a.defers) (h2 : wpNF P ops Q S bar r a1 w) : wpNF P ops Q S bar ((i, true) :: r) a w := by
  have hsz := szB_spec hz
  by_cases hw : Region.wanted o (yielded ops a.tmps) = true
  · have h1' : ∀ w', S w' → o.wp P a w' (only a1 w' .normal) (only a1 w') := fun w' hS' => by
      have h := h1 w' hS'
      simp only [wpList, hw, if_true] at h
      exact h.resolve_right fun hh => only_out hh.2
    obtain ⟨⟨v, hv⟩, _⟩ := wp_val hd (h1' w hS)
    have hV := put_val hsz hv a
    refine ⟨hS, o, _, hi, .inl ⟨hw, fun w' hS' => ⟨(wp_val hd (h1' w' hS')).2, fun K Q hK => ?_⟩⟩, by rw [← hV, hv]; exact h2⟩
    rw [← hV, hv] at hK
    exact wp_strict (h1' w' hS') (fun a' w'' h => by rw [h.2.1, h.2.2]; exact hK) (fun c a' w'' h => by cases h.1) only_out
  · have h := h1 w hS
    simp only [wpList, hw] at h
    have h3 : a.put o.dst undef = a1 := h.2.1
    exact ⟨hS, o, undef, hi, .inr ⟨by simpa using hw, rfl⟩, by rw [h3]; exact h2⟩

/-- AN OPERATION THAT COMES UP ALONE. -/
def behind (P : Program) (ops : Array Oper) (Q : Exit → Act → World → Prop) (S : World → Prop) (b : Bool) (bar : Nat → Bool) (r : List (Nat × Bool)) : Exit → Act → World → Prop
  | .normal, a, w => (b = false → S w) ∧ wpNF P ops Q S bar r a w
  | e, a, w => Q e a w
theorem nf_imp {bar : Nat → Bool} {i : Nat} {o : Oper} {r : List (Nat × Bool)} {a : Act} {w : World} (hi : ops[i]? = some o)
    (h : wpList P ops (behind P ops Q S (bar i) bar r) [o] a w) : wpNF P ops Q S bar ((i, false) :: r) a w := by
  unfold wpNF wpOp
  simp only [hi]
  simp only [wpList] at h
  split
  · rename_i hw
    simp only [hw, if_true] at h
    rcases h with h | h
    · refine .inl ?_
      unfold Oper.wp at *
      have hout : LetsOut (behind P ops Q S (bar i) bar r) → LetsOut Q := fun ⟨a, w, hq⟩ => ⟨a, w, hq⟩
      generalize (execOp a.eval o).run P w = z at *
      cases z with
      | ok n w1 =>
        cases n <;> simp only [Oper.upon] at h ⊢
        case enter f args =>
          refine Calls.mono h fun e w'' he => ?_
          cases e with
          | returned v => exact he
          | panicked c => exact he
          | outgrown => exact hout he
        all_goals exact h
      | halt x w1 => cases x <;> simp only [Oper.upon] at h ⊢; exact h
    · exact .inr ⟨h.1, let ⟨a, w, hq⟩ := h.2; ⟨a, w, hq⟩⟩
  · rename_i hw
    simp only [hw] at h
    exact h
theorem nf_nil {bar : Nat → Bool} {a : Act} {w : World} (h : Q .normal a w) : wpNF P ops Q S bar [] a w := h
end
end Go.Proofs.YtmhmdoobadckkaaGreatDoor
/- A region that draws its order, walked by a tree of orders: as in NF, but where two operations that are no pure ones may come up, both orders are walked. -/
namespace Go.Proofs.YtmhmdoobadckkaaGreatDoor
set_option maxRecDepth 20000
open Go

inductive NT where
  | nil : NT
  | pure : Nat → NT → NT
  | imp : Nat → NT → NT
  | fork : Nat → NT → Nat → NT → NT

section
variable {P : Program} {ops : Array Oper} {Q : Exit → Act → World → Prop} {md : Region.Mode} {S : World → Prop}

def wpNT (P : Program) (ops : Array Oper) (Q : Exit → Act → World → Prop) (S : World → Prop) (bar : Nat → Bool) : NT → Act → World → Prop
  | .nil, a, w => Q .normal a w
  | .pure i r, a, w => S w ∧ ∃ o v, ops[i]? = some o ∧ YG P ops S o v a ∧ wpNT P ops Q S bar r (a.put o.dst v) w
  | .imp i r, a, w => wpOp P ops Q i (fun a' w' => (bar i = false → S w') ∧ wpNT P ops Q S bar r a' w') a w
  | .fork i r j t, a, w => wpOp P ops Q i (fun a' w' => (bar i = false → S w') ∧ wpNT P ops Q S bar r a' w') a w ∧ wpOp P ops Q j (fun a' w' => (bar j = false → S w') ∧ wpNT P ops Q S bar t a' w') a w

def ntB (md : Region.Mode) (ops : Array Oper) (bar : Nat → Bool) : Nat → NT → Array Bool → Bool
  | 0, .nil, listed => (Region.ready md ops listed).isEmpty
  | n + 1, .pure i r, listed => (Region.ready md ops listed).contains i && nfFree md ops bar listed i && ntB md ops bar n r (listed.setIfInBounds i true)
  | n + 1, .imp i r, listed => decide (Region.ready md ops listed = [i]) && ntB md ops bar n r (listed.setIfInBounds i true)
  | n + 1, .fork i r j t, listed => decide (Region.ready md ops listed = [i, j]) && ntB md ops bar n r (listed.setIfInBounds i true) && ntB md ops bar n t (listed.setIfInBounds j true)
  | _, _, _ => false

theorem wpAnyG_of_nt {bar : Nat → Bool} (hs : Region.noSelect ops = true) (hQ : ∀ d v c a w, Q (.panic c) (a.put d v) w → Q (.panic c) a w) :
    ∀ (n : Nat) (π : NT) (listed : Array Bool) (a : Act) (w : World), ntB md ops bar n π listed = true → wpNT P ops Q S bar π a w → wpAnyG P md ops Q S bar n listed a w
  | 0, .nil, _, _, _, hB, h => ⟨by simpa [ntB] using hB, h⟩
  | n + 1, .pure i r, listed, a, w, hB, h => by
    obtain ⟨hS, o, v, hi, hy, h⟩ := h
    simp only [ntB, Bool.and_eq_true] at hB
    obtain ⟨⟨hr, hf⟩, hB'⟩ := hB
    obtain ⟨hb, hfree⟩ := nfFree_spec hi hf
    exact wpAnyG_first hi (Region.noSelect_spec hs) hb (fun c a w => hQ o.dst v c a w) n listed a w hS hfree (by simpa using hr) hy (wpAnyG_of_nt hs hQ n r _ _ _ hB' h)
  | n + 1, .imp i r, listed, a, w, hB, h => by
    simp only [ntB, Bool.and_eq_true, decide_eq_true_eq] at hB
    obtain ⟨hr, hB'⟩ := hB
    refine ⟨fun h0 => (by rw [hr] at h0; cases h0), fun j hj => ?_⟩
    rw [hr] at hj
    obtain rfl : j = i := by simpa using hj
    exact wpOp_mono (fun a' w' h' => ⟨h'.1, wpAnyG_of_nt hs hQ n r _ _ _ hB' h'.2⟩) h
  | n + 1, .fork i r k t, listed, a, w, hB, h => by
    simp only [ntB, Bool.and_eq_true, decide_eq_true_eq] at hB
    obtain ⟨⟨hr, hB1⟩, hB2⟩ := hB
    refine ⟨fun h0 => (by rw [hr] at h0; cases h0), fun j hj => ?_⟩
    rw [hr] at hj
    have hj' : j = i ∨ j = k := by simpa using hj
    rcases hj' with rfl | rfl
    · exact wpOp_mono (fun a' w' h' => ⟨h'.1, wpAnyG_of_nt hs hQ n r _ _ _ hB1 h'.2⟩) h.1
    · exact wpOp_mono (fun a' w' h' => ⟨h'.1, wpAnyG_of_nt hs hQ n t _ _ _ hB2 h'.2⟩) h.2
  | 0, .pure .., _, _, _, hB, _ => by simp [ntB] at hB
  | 0, .imp .., _, _, _, hB, _ => by simp [ntB] at hB
  | 0, .fork .., _, _, _, hB, _ => by simp [ntB] at hB
  | n + 1, .nil, _, _, _, hB, _ => by simp [ntB] at hB

/-- THE REGION, BY ITS TREE OF ORDERS π. -/
theorem wp_region_nt {id : Nat} {l : List Oper} {a : Act} {w : World} (S : World → Prop) (bar : Nat → Bool) (π : NT) (hm : P.follows .mixedOrders = true)
    (hs : Region.noSelect l.toArray = true) (hB : ntB .any l.toArray bar l.length π (Array.replicate l.length false) = true)
    (hQ : ∀ d v c a w, Q (.panic c) (a.put d v) w → Q (.panic c) a w)
    (h : wpNT P l.toArray Q S bar π a w.drew) : (Code.region id l.toArray true).wp P Q a w := by
  refine wp_region_any hm (wpAny_of_G _ _ _ _ (S := S) (bar := bar) ?_)
  have := wpAnyG_of_nt hs hQ l.length π (Array.replicate l.length false) a w.drew hB h
  simpa using this

def NT.pures : List Nat → NT → NT
  | [], t => t
  | i :: r, t => .pure i (NT.pures r t)

theorem nt_pure {bar : Nat → Bool} {i : Nat} {o : Oper} {r : NT} {a a1 : Act} {w : World} (hi : ops[i]? = some o) (hS : S w)
    (h1 : ∀ w', S w' → wpList P ops (only a1 w') [o] a w') (hz : szB o a = true) (hd : a1.defers = a.defers) (h2 : wpNT P ops Q S bar r a1 w) : wpNT P ops Q S bar (.pure i r) a w := by
  have hsz := szB_spec hz
  by_cases hw : Region.wanted o (yielded ops a.tmps) = true
  · have h1' : ∀ w', S w' → o.wp P a w' (only a1 w' .normal) (only a1 w') := fun w' hS' => by
      have h := h1 w' hS'
      simp only [wpList, hw, if_true] at h
      exact h.resolve_right fun hh => only_out hh.2
    obtain ⟨⟨v, hv⟩, _⟩ := wp_val hd (h1' w hS)
    have hV := put_val hsz hv a
    refine ⟨hS, o, _, hi, .inl ⟨hw, fun w' hS' => ⟨(wp_val hd (h1' w' hS')).2, fun K Q hK => ?_⟩⟩, by rw [← hV, hv]; exact h2⟩
    rw [← hV, hv] at hK
    exact wp_strict (h1' w' hS') (fun a' w'' h => by rw [h.2.1, h.2.2]; exact hK) (fun c a' w'' h => by cases h.1) only_out
  · have h := h1 w hS
    simp only [wpList, hw] at h
    have h3 : a.put o.dst undef = a1 := h.2.1
    exact ⟨hS, o, undef, hi, .inr ⟨by simpa using hw, rfl⟩, by rw [h3]; exact h2⟩

def behindT (P : Program) (ops : Array Oper) (Q : Exit → Act → World → Prop) (S : World → Prop) (b : Bool) (bar : Nat → Bool) (r : NT) : Exit → Act → World → Prop
  | .normal, a, w => (b = false → S w) ∧ wpNT P ops Q S bar r a w
  | e, a, w => Q e a w
theorem nt_op {bar : Nat → Bool} {i : Nat} {o : Oper} {r : NT} {a : Act} {w : World} (hi : ops[i]? = some o)
    (h : wpList P ops (behindT P ops Q S (bar i) bar r) [o] a w) : wpOp P ops Q i (fun a' w' => (bar i = false → S w') ∧ wpNT P ops Q S bar r a' w') a w := by
  unfold wpOp
  simp only [hi]
  simp only [wpList] at h
  split
  · rename_i hw
    simp only [hw, if_true] at h
    rcases h with h | h
    · refine .inl ?_
      unfold Oper.wp at *
      have hout : LetsOut (behindT P ops Q S (bar i) bar r) → LetsOut Q := fun ⟨a, w, hq⟩ => ⟨a, w, hq⟩
      generalize (execOp a.eval o).run P w = z at *
      cases z with
      | ok n w1 =>
        cases n <;> simp only [Oper.upon] at h ⊢
        case enter f args =>
          refine Calls.mono h fun e w'' he => ?_
          cases e with
          | returned v => exact he
          | panicked c => exact he
          | outgrown => exact hout he
        all_goals exact h
      | halt x w1 => cases x <;> simp only [Oper.upon] at h ⊢; exact h
    · exact .inr ⟨h.1, let ⟨a, w, hq⟩ := h.2; ⟨a, w, hq⟩⟩
  · rename_i hw
    simp only [hw] at h
    exact h
theorem nt_imp {bar : Nat → Bool} {i : Nat} {o : Oper} {r : NT} {a : Act} {w : World} (hi : ops[i]? = some o)
    (h : wpList P ops (behindT P ops Q S (bar i) bar r) [o] a w) : wpNT P ops Q S bar (.imp i r) a w := nt_op hi h
theorem nt_fork {bar : Nat → Bool} {i j : Nat} {o o' : Oper} {r t : NT} {a : Act} {w : World} (hi : ops[i]? = some o) (hj : ops[j]? = some o')
    (h : wpList P ops (behindT P ops Q S (bar i) bar r) [o] a w) (h' : wpList P ops (behindT P ops Q S (bar j) bar t) [o'] a w) : wpNT P ops Q S bar (.fork i r j t) a w := ⟨nt_op hi h, nt_op hj h'⟩
theorem nt_nil {bar : Nat → Bool} {a : Act} {w : World} (h : Q .normal a w) : wpNT P ops Q S bar .nil a w := h
end
end Go.Proofs.YtmhmdoobadckkaaGreatDoor
