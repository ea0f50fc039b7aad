/- super's widths. -/
import Derived.Test.YtfoflbbeckepoaaSuParts
namespace Go.Proofs.Ytfoflbbeckepoaa
open Go.RowKit Go.OpenShut

def pW : List Int := [1, 1, 1, 2, 1, 2, 1, 2]
def pA (g : Nat) (cl : Option Addr) : List (Option Addr) := [some ⟨g, 2, none⟩, some ⟨g, 3, none⟩, some ⟨g, 4, none⟩, some ⟨g, 5, none⟩, cl, some ⟨g, 7, none⟩, some ⟨g, 8, none⟩, some ⟨g, 9, none⟩]
theorem eight {P : Nat → Prop} (h0 : P 0) (h1 : P 1) (h2 : P 2) (h3 : P 3) (h4 : P 4) (h5 : P 5) (h6 : P 6) (h7 : P 7) (k : Nat) (h : k < 8) : P k := by
  rcases k with _ | _ | _ | _ | _ | _ | _ | _ | k <;> first | assumption | omega
theorem part_cells {w : World} {G g : Nat} {cl : Option Addr} {t : TypeId} (h : Blk w G t (partCells g (.pointer cl))) (k : Nat) (hk : k < 8) :
    w.cell? ⟨G, k * 2, none⟩ = some (.pointer ((pA g cl).getD k none)) ∧ w.cell? ⟨G, k * 2 + 1, none⟩ = some (.int .i64 (pW.getD k 0)) := by
  rw [h.cell, h.cell]
  exact eight (P := fun k => (partCells g (.pointer cl))[k * 2]? = some (.pointer ((pA g cl).getD k none)) ∧ (partCells g (.pointer cl))[k * 2 + 1]? = some (.int .i64 (pW.getD k 0)))
    ⟨rfl, rfl⟩ ⟨rfl, rfl⟩ ⟨rfl, rfl⟩ ⟨rfl, rfl⟩ ⟨rfl, rfl⟩ ⟨rfl, rfl⟩ ⟨rfl, rfl⟩ ⟨rfl, rfl⟩ k hk
theorem pW_next (k : Nat) (hk : k < 8) : pW.take (k + 1) = pW.take k ++ [pW.getD k 0] :=
  eight (P := fun k => pW.take (k + 1) = pW.take k ++ [pW.getD k 0]) rfl rfl rfl rfl rfl rfl rfl rfl k hk
theorem pW_len (k : Nat) : (pW.take k).length ≤ 8 := by have h := List.length_take_le k pW; have h2 : pW.length = 8 := rfl; rw [List.length_take]; omega

theorem cell_two (w : World) (o : Obj) (v : Value) (t : TypeId) : ((w.alloc o).alloc (.cells #[v] t)).cell? ⟨w.heap.size + 1, 0, none⟩ = some v := by
  have h := cell_one (w.alloc o) v t
  rw [show (w.alloc o).heap.size = w.heap.size + 1 by simp] at h
  exact h
theorem OwnI.ne_blk {w : World} {g base : Nat} {t t' : TypeId} {k : IntKind} {cs : Array Value} {v : Value} {l : List Int} (h : OwnI w base t k v l) (hb : Blk w g t' cs) (ht : t' ≠ t) : some g ≠ v.ownBlock := by
  rcases h.2 with ⟨rfl, _⟩ | ⟨g', cap, cur, rfl, _, hh, _⟩
  · simp [Value.ownBlock]
  · intro e
    obtain rfl : g = g' := by simpa [Value.ownBlock] using e
    unfold Blk at hb
    rw [hb] at hh
    cases hh
    exact ht rfl
set_option maxHeartbeats 2000000 in
theorem widths_any (w : World) :
    Calls Try.prog 21 #[] w fun e w' => ∃ v, e = .returned v ∧ OwnI w' w.heap.size 3 .i64 v [4, 8, 8, 1, 1, 1, 2, 1, 2, 1, 2] ∧ Below w.heap.size w w' := by
  go_enter Try.func21, Try.ntmps21
  go_wp2_with fail
  refine (parts_any _ _ _).mono ?_
  rintro e w1 ⟨rfl, rfl⟩
  go_wp2_with fail
  have hb := Blk.new w 3 #[.int .i64 4, .int .i64 8, .int .i64 8]
  have hbe := (Below.refl w.heap.size w).alloc (Nat.le_refl _) (.cells #[.int .i64 4, .int .i64 8, .int .i64 8] 3)
  have hsz : (w.alloc (.cells #[.int .i64 4, .int .i64 8, .int .i64 8] 3)).heap.size = w.heap.size + 1 := by simp
  generalize w.alloc (.cells #[.int .i64 4, .int .i64 8, .int .i64 8] 3) = W1 at *
  replace hb := (hb.alloc (.cells Sup.zero.v.cells 26)).alloc (.cells (partCells (w.heap.size + 1) (.pointer none)) 53) |>.drew
  have hP := (Blk.new (W1.alloc (.cells Sup.zero.v.cells 26)) 53 (partCells (w.heap.size + 1) (.pointer none))).drew
  rw [show (W1.alloc (.cells Sup.zero.v.cells 26)).heap.size = w.heap.size + 1 + 1 by simp [hsz]] at hP
  replace hbe := ((hbe.alloc (by omega) (.cells Sup.zero.v.cells 26)).alloc (by simp [hsz]; omega) (.cells (partCells (w.heap.size + 1) (.pointer none)) 53)).drew
  unfold Sup.v Sup.zero at hb hP hbe
  dsimp only [Value.cells] at hb hP hbe
  have HSZ := Lib.hid hsz
  clear hsz
  generalize World.drew _ = W at *
  have hown : OwnI W w.heap.size 3 .i64 (.slice (some ⟨w.heap.size, 0, none⟩) 3 3) [4, 8, 8] :=
    ⟨rfl, Or.inr ⟨w.heap.size, 3, _, rfl, Nat.le_refl _, hb, Nat.le_refl _, by unfold maxLen; omega, rfl, rfl⟩⟩
  clear hb HSZ
  go_loopw [1, 8] (fun v i wr => ∃ k : Nat, k ≤ 8 ∧ i = .int .i64 k ∧ OwnI wr w.heap.size 3 .i64 v ([4, 8, 8] ++ pW.take k) ∧ Blk wr (w.heap.size + 1 + 1) 53 (partCells (w.heap.size + 1) (.pointer none)) ∧ Below w.heap.size w wr) (fun _ i _ => 8 - (intOf i).toNat)
  case atStart => exact ⟨0, by omega, rfl, hown, hP, hbe⟩
  case round =>
    obtain ⟨k, hk, rfl, hw, hp, hb⟩ := hrel
    clear hown hP hbe W1 W
    by_cases hlt : k < 8
    · obtain ⟨hc1, hc2⟩ := part_cells hp k hlt
      have hl := pW_len k
      have HN := Lib.hid (pW_next k hlt)
      obtain ⟨y, hy⟩ : ∃ y, pW.getD k 0 = y := ⟨_, rfl⟩
      obtain ⟨z, hz⟩ : ∃ z, (pA (w.heap.size + 1) none).getD k none = z := ⟨_, rfl⟩
      rw [hy] at hc2 HN
      rw [hz] at hc1
      clear hy hz
      have hsz := hb.size
      have hsz := hb.size
      go_wp2_with (at_builtin; refine wp_pushI 55 3 .i64 Try.underlying55 info_int rfl (.tmp 12) (.tmp 15) rfl w.heap.size _ _ ((hw.alloc _).alloc _) rfl ⟨wr.heap.size + 1, 0, none⟩ 1 y rfl (cell_two _ _ _ _) ?c1 ?c2 ?_; (case c1 => rw [List.length_append]; simp only [List.length_cons, List.length_nil]; omega); (case c2 => simp; omega); intro v4 w4 hv4 hg4 hb4; have hp4 := ((hp.alloc _).alloc _).grown hg4 (hw.ne_blk hp (by decide)); have hbe4 := (((hb.alloc hb.size _).alloc (by simp; omega) _).trans hb4))
      go_roundw
      case rel => exact ⟨k + 1, by omega, by go_num, by rw [HN.out, ← List.append_assoc]; exact hv4, hp4, hbe4⟩
      case measure => simp [intOf]; omega
    · obtain rfl : k = 8 := by omega
      obtain ⟨A, c, rfl⟩ := hw.shape
      go_wp2
      go_ret
      exact ⟨_, rfl, hw, hb⟩
end Go.Proofs.Ytfoflbbeckepoaa
