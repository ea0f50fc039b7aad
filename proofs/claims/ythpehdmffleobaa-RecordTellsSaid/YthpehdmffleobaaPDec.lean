/- pack: Decode for all inputs, and Encode of two new literals. -/
import Derived.Test.YthpehdmffleobaaPackLaw
import Derived.Test.YthpehdmffleobaaInts
namespace Go.Proofs.Ythpehdmffleobaa
open Go.RowKit Go.OpenShut

theorem cell_one (w : World) (v : Value) (t : TypeId) : (w.alloc (.cells #[v] t)).cell? ⟨w.heap.size, 0, none⟩ = some v := (Blk.new w t #[v]).cell 0
theorem ivn_ints (l : List Nat) : ivn l = ((l.map fun n : Nat => (n : Int)).map (Value.int .u64)).toArray := by
  unfold ivn
  rw [List.map_map]
  rfl
theorem IntsA.blk {w : World} {g n B : Nat} {k : IntKind} {t : TypeId} {xs : List Int} (h : Blk w g t (xs.map (Value.int k)).toArray) (hn : xs.length = n) (hB : g < B) : IntsA w B k (some ⟨g, 0, none⟩) n xs := by
  refine ⟨hn, fun _ => ⟨g, 0, rfl, hB, fun j hj => ?_⟩⟩
  rw [h.cell, Nat.zero_add]
  simp [List.getD, hn ▸ hj]
theorem IntsA.drew {w : World} {B : Nat} {k : IntKind} {A : Option Addr} {n : Nat} {xs : List Int} (h : IntsA w B k A n xs) : IntsA w.drew B k A n xs := h

/-- Encode of two new literals -/
theorem encode_new (w : World) (ls ws : List Int) (n m : Nat) (hn : ls.length = n) (hm : ws.length = m) (hm' : m ≤ 4294967295) (hu : ∀ x ∈ ls, 0 ≤ x ∧ x < 18446744073709551616) (cs ds : Array Value) (hcs : cs = (ls.map (Value.int .u64)).toArray) (hds : ds = (ws.map (Value.int .i64)).toArray) :
    Calls Try.prog 55 #[.slice (some ⟨w.heap.size, 0, none⟩) n n, .slice (some ⟨w.heap.size + 1, 0, none⟩) m m] ((w.alloc (.cells cs 22)).alloc (.cells ds 3))
      fun e w' => e = .returned (.tuple #[.string (encS ls ws), .int .i64 (encE ls ws)]) ∧ Below w.heap.size w w' := by
  subst hcs hds
  have b1 := (Blk.new w 22 (ls.map (Value.int .u64)).toArray).alloc (.cells (ws.map (Value.int .i64)).toArray 3)
  have b2 := Blk.new (w.alloc (.cells (ls.map (Value.int .u64)).toArray 22)) 3 (ws.map (Value.int .i64)).toArray
  have hb0 := ((Below.refl w.heap.size w).alloc (Nat.le_refl _) (.cells (ls.map (Value.int .u64)).toArray 22)).alloc (by simp) (.cells (ws.map (Value.int .i64)).toArray 3)
  have hs : ((w.alloc (.cells (ls.map (Value.int .u64)).toArray 22)).alloc (.cells (ws.map (Value.int .i64)).toArray 3)).heap.size = w.heap.size + 1 + 1 := by simp
  rw [show (w.alloc (.cells (ls.map (Value.int .u64)).toArray 22)).heap.size = w.heap.size + 1 by simp] at b2
  generalize ((w.alloc (.cells (ls.map (Value.int .u64)).toArray 22)).alloc (.cells (ws.map (Value.int .i64)).toArray 3)) = W at *
  refine (encode_any W _ _ n n m m ls ws (IntsA.blk b1 hn (by omega)) (IntsA.blk b2 hm (by omega)) hm' hu).mono ?_
  rintro e w1 ⟨rfl, hb⟩
  exact ⟨rfl, hb0.trans (hb.mono (by omega))⟩

def decX (ws : List Int) (s : ByteArray) : List Int := if decE ws s = 0 then (decL ws s.data.toList).map fun n : Nat => (n : Int) else []
theorem dec_w {ws : List Int} (h : wOK ws = false) (s : ByteArray) : decE ws s = 1 ∧ decX ws s = [] := by
  have e : decE ws s = 1 := by unfold decE; rw [h]; rfl
  exact ⟨e, by unfold decX; rw [e]; rfl⟩
theorem dec_s {ws : List Int} (h : wOK ws = true) {s : ByteArray} (hs : (s.size : Int) ≠ sumW ws) : decE ws s = 31 ∧ decX ws s = [] := by
  have e : decE ws s = 31 := by unfold decE; rw [h, if_pos rfl, if_neg hs]
  exact ⟨e, by unfold decX; rw [e]; rfl⟩
theorem dec_ok {ws : List Int} (h : wOK ws = true) {s : ByteArray} (hs : (s.size : Int) = sumW ws) : decE ws s = 0 ∧ decX ws s = (decL ws s.data.toList).map fun n : Nat => (n : Int) := by
  have e : decE ws s = 0 := by unfold decE; rw [h, if_pos rfl, if_pos hs]
  exact ⟨e, by unfold decX; rw [e]; rfl⟩

theorem decode_any (w : World) (s : ByteArray) (A' : Option Addr) (m c' : Nat) (ws : List Int) (hw : IntsA w w.heap.size .i64 A' m ws) (hm : m ≤ 4294967295) :
    Calls Try.prog 33 #[.string s, .slice A' m c'] w fun e w' => ∃ A n c, e = .returned (.tuple #[.slice A n c, .int .i64 (decE ws s)]) ∧ IntsA w' w'.heap.size .u64 A n (decX ws s) ∧ Below w.heap.size w w' := by
  by_cases h0 : wOK ws = true
  · by_cases h1 : (s.size : Int) = sumW ws
    · rw [(dec_ok h0 h1).1, (dec_ok h0 h1).2]
      refine (decode_ok w s A' m c' ws hw hm h0 h1).mono ?_
      rintro e w' ⟨rfl, hr, hb⟩
      have hbd : ∀ x ∈ ws, 1 ≤ x ∧ x ≤ 8 := by unfold wOK at h0; simp at h0; exact h0.1
      have h3 := decF_eq ws s.data.toList hbd (by rw [← h1]; simp)
      rw [hw.1] at h3
      rw [h3, ivn_ints] at hr
      exact ⟨_, _, _, rfl, IntsA.blk hr (by rw [List.length_map, decL_len]; exact hw.1) hr.lt, hb⟩
    · rw [(dec_s h0 h1).1, (dec_s h0 h1).2]
      refine (decode_short w s A' m c' ws hw hm h0 h1).mono ?_
      rintro e w' ⟨rfl, hb⟩
      exact ⟨_, _, _, rfl, ⟨rfl, fun h => by omega⟩, hb⟩
  · have h0 : wOK ws = false := by simpa using h0
    rw [(dec_w h0 s).1, (dec_w h0 s).2]
    refine (decode_w w s A' m c' ws hw hm h0).mono ?_
    rintro e w' ⟨rfl, hb⟩
    exact ⟨_, _, _, rfl, ⟨rfl, fun h => by omega⟩, hb⟩

end Go.Proofs.Ythpehdmffleobaa
