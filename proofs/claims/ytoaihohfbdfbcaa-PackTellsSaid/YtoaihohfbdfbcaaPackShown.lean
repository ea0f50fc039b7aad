import Derived.Test.YtoaihohfbdfbcaaPackEnc
namespace Go.Proofs.Ytoaihohfbdfbcaa
open Go.RowKit Go.OpenShut

theorem IntsA.blk {w : World} {g n B : Nat} {k : IntKind} {t : TypeId} {xs : List Int} (h : Blk w g t (xs.map (Value.int k)).toArray) (hn : xs.length = n) (hB : g < B) : IntsA w B k (some ⟨g, 0, none⟩) n xs := by
  refine ⟨hn, fun _ => ⟨g, 0, rfl, hB, fun j hj => ?_⟩⟩
  rw [h.cell, Nat.zero_add]
  simp [List.getD, hn ▸ hj]
theorem IntsA.drew {w : World} {B : Nat} {k : IntKind} {A : Option Addr} {n : Nat} {xs : List Int} (h : IntsA w B k A n xs) : IntsA w.drew B k A n xs := h

/-- Encode of two new literals -/
theorem encode_new (w : World) (ls ws : List Int) (n m : Nat) (hn : ls.length = n) (hm : ws.length = m) (hm' : m ≤ 4294967295) (hu : ∀ x ∈ ls, 0 ≤ x ∧ x < 18446744073709551616) (cs ds : Array Value) (hcs : cs = (ls.map (Value.int .u64)).toArray) (hds : ds = (ws.map (Value.int .i64)).toArray) :
    Calls Try.prog 9 #[.slice (some ⟨w.heap.size, 0, none⟩) n n, .slice (some ⟨w.heap.size + 1, 0, none⟩) m m] ((w.alloc (.cells cs 22)).alloc (.cells ds 3))
      fun e w' => e = .returned (.tuple #[.string (encS ls ws), .int .i64 (encE ls ws)]) ∧ Below w.heap.size w w' := by
  subst hcs hds
  have b1 := (Blk.new w 22 (ls.map (Value.int .u64)).toArray).alloc (.cells (ws.map (Value.int .i64)).toArray 3)
  have b2 := Blk.new (w.alloc (.cells (ls.map (Value.int .u64)).toArray 22)) 3 (ws.map (Value.int .i64)).toArray
  have hb0 := ((Below.refl w.heap.size w).alloc (Nat.le_refl _) (.cells (ls.map (Value.int .u64)).toArray 22)).alloc (by simp) (.cells (ws.map (Value.int .i64)).toArray 3)
  have hs : ((w.alloc (.cells (ls.map (Value.int .u64)).toArray 22)).alloc (.cells (ws.map (Value.int .i64)).toArray 3)).heap.size = w.heap.size + 1 + 1 := by simp
  rw [show (w.alloc (.cells (ls.map (Value.int .u64)).toArray 22)).heap.size = w.heap.size + 1 by simp] at b2
  generalize ((w.alloc (.cells (ls.map (Value.int .u64)).toArray 22)).alloc (.cells (ws.map (Value.int .i64)).toArray 3)) = W at *
  refine (encode_any W _ _ n n m m ls ws (IntsA.blk b1 hn (by omega)) (IntsA.blk b2 hm (by omega)) hm' hu).mono ?_
  rintro e w1 ⟨rfl, hb⟩
  exact ⟨rfl, hb0.trans (hb.mono (by omega))⟩

theorem encE_shown : encE [1, 515] [1, 2] = 0 := by decide
theorem encS_shown : encS [1, 515] [1, 2] = ⟨#[1, 3, 2]⟩ := by
  unfold encS
  rw [encE_shown]
  rfl

set_option maxHeartbeats 1000000 in
theorem shown_any (w : World) :
    Calls Try.prog 11 #[] w fun e w' => e = .returned (.bool true) ∧ Below w.heap.size w w' := by
  have h1 := encE_shown
  have h2 := encS_shown
  go_enter Try.func11, Try.ntmps11
  go_wp2_with fail
  refine (encode_new w [1, 515] [1, 2] 2 2 rfl rfl (by omega) (by simp) _ _ rfl rfl).mono ?_
  rintro e w1 ⟨rfl, hb1⟩
  rw [h1, h2]
  clear h1 h2
  go_wp2_with fail
  refine (fits_any _ 255 (by omega) 1).mono ?_
  rintro e w2 ⟨rfl, rfl⟩
  rw [show fitsB 255 1 = true by decide]
  go_wp2
  go_ret
  exact ⟨rfl, hb1⟩
end Go.Proofs.Ytoaihohfbdfbcaa
