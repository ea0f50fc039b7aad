import Derived.Test.YtoaihohfbdfbcaaInts
import Derived.Test.YtoaihohfbdfbcaaNF
namespace Go.Proofs.Ytoaihohfbdfbcaa
open Go.RowKit Go.OpenShut

def sameP (xs ys : List Int) : Bool := decide (xs = ys)
set_option maxHeartbeats 1000000 in
theorem same_any (w : World) (A A' : Option Addr) (n c m c' : Nat) (xs ys : List Int) (hx : IntsA w w.heap.size .u64 A n xs) (hy : IntsA w w.heap.size .u64 A' m ys) (hn : n ≤ 4294967295) (hm : m ≤ 4294967295) :
    Calls Try.prog 17 #[.slice A n c, .slice A' m c'] w fun e w' => e = .returned (.bool (sameP xs ys)) ∧ Below w.heap.size w w' := by
  have HX := Lib.hid hx.1
  have HY := Lib.hid hy.1
  by_cases hne : n = m
  · subst hne
    have hb : ((n : Int) != (n : Int)) = false := by simp
    go_enter Try.func17, Try.ntmps17
    go_wp2_with fail
    go_loopw [5] (fun i wr => ∃ k : Nat, k ≤ n ∧ i = .int .i64 k ∧ xs.take k = ys.take k ∧ Below w.heap.size w wr) (fun i _ => n - (intOf i).toNat)
    case atStart => exact ⟨0, by omega, rfl, rfl, Below.refl _ _⟩
    case round =>
      obtain ⟨k, hk, rfl, ht, hbe⟩ := hrel
      have HT := Lib.hid ht
      clear ht
      by_cases hlt : k < n
      · obtain ⟨b, off, rfl, hlb, hc⟩ := hx.2 (by omega)
        obtain ⟨b', off', rfl, hlb', hc'⟩ := hy.2 (by omega)
        have hck := (hbe.cell (p := ⟨b, off + k, none⟩) hlb).trans (hc k hlt)
        have hck' := (hbe.cell (p := ⟨b', off' + k, none⟩) hlb').trans (hc' k hlt)
        have hxs := take_snocI xs k (by rw [HX.out]; exact hlt)
        have hys := take_snocI ys k (by rw [HY.out]; exact hlt)
        have hgx : xs[k]? = some (xs.getD k 0) := by
          have : k < xs.length := by rw [HX.out]; exact hlt
          simp [List.getD, this]
        have hgy : ys[k]? = some (ys.getD k 0) := by
          have : k < ys.length := by rw [HY.out]; exact hlt
          simp [List.getD, this]
        obtain ⟨x, hxe⟩ : ∃ x, xs.getD k 0 = x := ⟨_, rfl⟩
        obtain ⟨y, hye⟩ : ∃ y, ys.getD k 0 = y := ⟨_, rfl⟩
        rw [hxe] at hck hxs hgx
        rw [hye] at hck' hys hgy
        have H1 := Lib.hid hxs
        have H2 := Lib.hid hys
        have H3 := Lib.hid hgx
        have H4 := Lib.hid hgy
        clear hc hc' hxe hye hxs hys hgx hgy
        go_wp2_with fail
        refine wp_region_nf (fun V => V.cell? ⟨b, off + k, none⟩ = some (.int .u64 x) ∧ V.cell? ⟨b', off' + k, none⟩ = some (.int .u64 y)) (fun _ => false) [(0, true), (1, true), (2, true), (3, true), (4, true), (5, true), (6, true), (7, true), (8, true)] (by kernel_rfl) rfl (by kernel_rfl) (by kernel_rfl) (fun d _ _ _ _ h => by cases d <;> exact h) ?_
        have hS : wr.drew.cell? ⟨b, off + k, none⟩ = some (.int .u64 x) ∧ wr.drew.cell? ⟨b', off' + k, none⟩ = some (.int .u64 y) := ⟨hck, hck'⟩
        repeat (refine nf_pure rfl hS (fun w1 hS => by obtain ⟨g1, g2⟩ := hS; go_wp2; exact ⟨rfl, rfl, rfl⟩) rfl ?_ ?_; rfl)
        refine nf_nil ?_
        by_cases he : x = y
        · subst he
          have hbe' : (x != x) = false := by simp
          go_wp2
          go_roundw
          case rel => exact ⟨k + 1, by omega, by go_num, by rw [H1.out, H2.out, HT.out], hbe.drew⟩
          case measure => simp [intOf]; omega
        · have hbe' : (x != y) = true := by rw [bne_iff_ne]; exact he
          go_wp2
          go_ret
          refine ⟨ret_bool (Eq.symm (decide_eq_false fun e => he ?_)), hbe.drew⟩
          have h3 := H3.out
          rw [e, H4.out] at h3
          exact (Option.some.inj h3).symm
      · obtain rfl : k = n := by omega
        go_wp2
        go_ret
        refine ⟨ret_bool (Eq.symm (decide_eq_true ?_)), hbe⟩
        have h1 := HT.out
        rw [List.take_of_length_le (by rw [HX.out]; exact Nat.le_refl _), List.take_of_length_le (by rw [HY.out]; exact Nat.le_refl _)] at h1
        exact h1
  · have hb : ((n : Int) != (m : Int)) = true := by rw [bne_iff_ne]; omega
    go_enter Try.func17, Try.ntmps17
    go_wp2_with fail
    go_ret
    refine ⟨ret_bool (Eq.symm (decide_eq_false fun e => hne ?_)), Below.refl _ _⟩
    rw [← HX.out, ← HY.out, e]
end Go.Proofs.Ytoaihohfbdfbcaa
