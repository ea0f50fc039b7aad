/- the document's Xor. -/
import Derived.Test.YtaghdkiafgainaaDoorXor0
namespace Go.Proofs.YtaghdkiafgainaaDoor
set_option maxRecDepth 20000
open Go.RowKit Go.OpenShut

set_option maxHeartbeats 1000000 in
theorem refXor_any (w : World) (s t : ByteArray) (hs : s.size ≤ 4294967295) (ht : t.size ≤ 4294967295) :
    Calls Tryd.prog 23 #[.string s, .string t] w fun e w' => e = .returned (.string ⟨(xorL s.data.toList t.data.toList).toArray⟩) ∧ Below w.heap.size w w' := by
  go_enter Tryd.func23, Tryd.ntmps23
  go_wp2
  go_loopw [5, 6] (fun v i wr => ∃ k : Nat, k ≤ max s.size t.size ∧ i = .int .i64 k ∧ OwnB wr w.heap.size v (xorP s.data.toList t.data.toList k) ∧ Below w.heap.size w wr) (fun _ i _ => max s.size t.size - (intOf i).toNat)
  case atStart => exact ⟨0, by omega, rfl, World.ownsRow_lit _ _ _ (Nat.le_refl _) (by decide) rfl, (Below.refl _ _).alloc (Nat.le_refl _) _⟩
  case round =>
    obtain ⟨k, hk, rfl, hv, hb⟩ := hrel
    by_cases hlt : k < max s.size t.size
    · by_cases h1 : k < s.size
      · by_cases h2 : k < t.size
        · obtain ⟨b, hx, hbb⟩ : ∃ b : UInt8, bits BinOp.xor IntKind.u8 (s[k].toNat : Int) (t[k].toNat : Int) = (b.toNat : Int) ∧ s[k] ^^^ t[k] = b := ⟨_, xor_u8 _ _, rfl⟩
          have HB := Lib.hid hbb
          clear hbb
          go_wp2_with (at_builtin; refine wp_pushB rfl (.tmp 34) (.tmp 36) rfl w.heap.size _ _ rfl (hv.alloc _) ⟨wr.heap.size, 0, none⟩ 1 b rfl ?c1 ?c2 ?c3 ?_; (case c1 => exact cell_new _ _ _); (case c2 => rw [xorP_length]; omega); (case c3 => have := hb.size; simp; omega); intro v1 w1 hv1 _ hbw)
          have hb1 := (hb.alloc hb.size _).trans hbw
          clear hv hbw hx
          go_roundw
          case rel => exact ⟨k + 1, by omega, by go_num, by rw [xorP_snoc, data_getD s k h1, data_getD t k h2, HB.out]; exact hv1, hb1⟩
          case measure => simp [intOf]; omega
        · have hx : True := trivial
          go_wp2_with (at_builtin; refine wp_pushB rfl (.tmp 34) (.tmp 36) rfl w.heap.size _ _ rfl (hv.alloc _) ⟨wr.heap.size, 0, none⟩ 1 (s[k]) rfl ?c1 ?c2 ?c3 ?_; (case c1 => exact cell_new _ _ _); (case c2 => rw [xorP_length]; omega); (case c3 => have := hb.size; simp; omega); intro v1 w1 hv1 _ hbw)
          have hb1 := (hb.alloc hb.size _).trans hbw
          clear hv hbw hx
          go_roundw
          case rel => exact ⟨k + 1, by omega, by go_num, by rw [xorP_snoc, data_getD s k h1, data_getD_out t k (by omega), UInt8.xor_zero]; exact hv1, hb1⟩
          case measure => simp [intOf]; omega
      · have h2 : k < t.size := by omega
        have hx := xor_u8_zero t[k]
        go_wp2_with (at_builtin; refine wp_pushB rfl (.tmp 34) (.tmp 36) rfl w.heap.size _ _ rfl (hv.alloc _) ⟨wr.heap.size, 0, none⟩ 1 (t[k]) rfl ?c1 ?c2 ?c3 ?_; (case c1 => exact cell_new _ _ _); (case c2 => rw [xorP_length]; omega); (case c3 => have := hb.size; simp; omega); intro v1 w1 hv1 _ hbw)
        have hb1 := (hb.alloc hb.size _).trans hbw
        clear hv hbw hx
        go_roundw
        case rel => exact ⟨k + 1, by omega, by go_num, by rw [xorP_snoc, data_getD t k h2, data_getD_out s k (by omega), UInt8.zero_xor]; exact hv1, hb1⟩
        case measure => simp [intOf]; omega
    · have hcv := hv.conv
      go_wp2
      go_ret
      refine ⟨?_, hb⟩
      have : k = max s.size t.size := by omega
      subst this
      simp only [xorL, Array.length_toList]
      rfl
end Go.Proofs.YtaghdkiafgainaaDoor
