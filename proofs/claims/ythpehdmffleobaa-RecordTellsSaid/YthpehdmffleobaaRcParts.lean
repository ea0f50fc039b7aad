/- revetmentlaw12's parts: the data of a record. -/
import Derived.Test.YthpehdmffleobaaRcEnc
namespace Go.Proofs.Ythpehdmffleobaa
open Go.RowKit Go.OpenShut

set_option maxHeartbeats 2000000 in
theorem parts_any (w : World) (seq row : Int) (A : Option Addr) (n c : Nat) (ps : List Prt) (h : PartsA w w.heap.size A n ps) (hn : n ≤ 4294967290) :
    Calls Try.prog 12 #[recV seq row A n c] w fun e w' => ∃ A' c', e = .returned (.slice A' n c') ∧ n ≤ c' ∧ c' ≤ maxLen ∧ StrsA w' w'.heap.size A' n (loadS ps) ∧ Below w.heap.size w w' := by
  unfold recV
  have HL := Lib.hid h.1
  go_enter Try.func12, Try.ntmps12
  go_wp2_with fail
  have hR := (Blk.new w 26 #[.int .u64 seq, .int .i64 row, .slice A n c]).alloc (.cells #[] 9)
  have hb0 := ((Below.refl w.heap.size w).alloc (Nat.le_refl _) (.cells #[.int .u64 seq, .int .i64 row, .slice A n c] 26)).alloc (by simp) (.cells #[] 9)
  have hv := OwnS.new (w.alloc (.cells #[.int .u64 seq, .int .i64 row, .slice A n c] 26)) (w.heap.size + 1) (by simp)
  have hz : (w.alloc (.cells #[.int .u64 seq, .int .i64 row, .slice A n c] 26)).heap.size = w.heap.size + 1 := by simp
  have hws : w.heap.size + 1 ≤ ((w.alloc (.cells #[.int .u64 seq, .int .i64 row, .slice A n c] 26)).alloc (.cells #[] 9)).heap.size := by simp
  rw [hz] at hv
  generalize (w.alloc (.cells #[.int .u64 seq, .int .i64 row, .slice A n c] 26)).alloc (.cells #[] 9) = w0 at *
  clear hz
  go_loopw [3, 4] (fun v i wr => ∃ k : Nat, k ≤ n ∧ i = .int .i64 k ∧ OwnS wr (w.heap.size + 1) v (loadS (ps.take k)) ∧ Blk wr w.heap.size 26 #[.int .u64 seq, .int .i64 row, .slice A n c] ∧ w.heap.size + 1 ≤ wr.heap.size ∧ Below w.heap.size w wr) (fun _ i _ => n - (intOf i).toNat)
  case atStart => exact ⟨0, by omega, rfl, by simpa [loadS] using hv, hR, hws, hb0⟩
  case round =>
    obtain ⟨k, hk, rfl, hw, hR1, hw1, hbr⟩ := hrel
    clear hv hR hws hb0
    have q2 := hR1.cell 2
    by_cases hlt : k < n
    · obtain ⟨b, o, rfl, hb, hc⟩ := h.2 (by omega)
      obtain ⟨c0, c1, c2⟩ := (hc k hlt).below hbr hb
      have HT := Lib.hid (loadS_take ps k (by rw [HL.out]; exact hlt))
      have HTL := Lib.hid (show (loadS (ps.take k)).length = k by rw [loadS_len, List.length_take, HL.out]; omega)
      generalize ps.getD k prt0 = p at *
      obtain ⟨pc, po, pd⟩ := p
      dsimp only at c0 c1 c2 HT
      clear hc
      go_wp2_with (at_builtin; refine wp_appS rfl (.tmp 13) (.tmp 20) rfl (w.heap.size + 1) _ _ (hw.alloc _) rfl _ _ _ _ rfl (StrsA.lit1 (by simp)) (fun h => by cases h) ?c1 ?c2 ?_; (case c1 => rw [HTL.out]; omega); (case c2 => simp; omega); intro v7 w7 hv7 hg7 hb7)
      have hR7 := (hR1.alloc (.cells #[.string pd] 9)).below hb7 (by omega)
      have hbe7 := (hbr.alloc hbr.size (.cells #[.string pd] 9)).trans (hb7.mono (by omega))
      have hw7 : w.heap.size + 1 ≤ w7.heap.size := Nat.le_trans (by simp; omega) hb7.size
      rw [← HT.out] at hv7
      go_roundw
      case rel => exact ⟨k + 1, by omega, by go_num, hv7, hR7, hw7, hbe7⟩
      case measure => simp [intOf]; go_num
    · obtain rfl : k = n := by omega
      rw [List.take_of_length_le (by rw [HL.out]; exact Nat.le_refl _)] at hw
      have HSL := Lib.hid ((loadS_len ps).trans HL.out)
      have hcm : ∃ A5 c5, u3 = .slice A5 k c5 ∧ k ≤ c5 ∧ c5 ≤ maxLen := by
        rcases hw.2 with ⟨e, h0⟩ | ⟨g, cap, cur, e, _, _, hl, h3, _⟩
        · exact ⟨none, 0, by rw [HSL.out] at h0; rw [e, h0], by rw [HSL.out] at h0; omega, by unfold maxLen; omega⟩
        · rw [HSL.out] at e hl; exact ⟨_, _, e, hl, h3⟩
      obtain ⟨A5, c5, rfl, hc5, hcm5⟩ := hcm
      have hst := hw.strs
      go_wp2_with fail
      go_ret
      exact ⟨A5, c5, rfl, hc5, hcm5, hst, hbr⟩
end Go.Proofs.Ythpehdmffleobaa
