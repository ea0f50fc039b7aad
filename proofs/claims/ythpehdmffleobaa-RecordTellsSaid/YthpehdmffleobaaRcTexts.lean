/- revetmentlaw12's texts: are two slices of strings the same? -/
import Derived.Test.YthpehdmffleobaaOwnS
import Derived.Test.YthpehdmffleobaaNF
namespace Go.Proofs.Ythpehdmffleobaa
open Go.RowKit Go.OpenShut

theorem strs_ext {xs ys : List ByteArray} (h : xs.length = ys.length) (h2 : ∀ i, i < xs.length → xs.getD i ⟨#[]⟩ = ys.getD i ⟨#[]⟩) : xs = ys := by
  apply List.ext_getElem h
  intro i h3 h4
  have := h2 i h3
  simpa [List.getD, h3, h4] using this
set_option maxHeartbeats 2000000 in
theorem texts_any (w : World) (A B : Option Addr) (n c m d : Nat) (xs ys : List ByteArray) (hx : StrsA w w.heap.size A n xs) (hy : StrsA w w.heap.size B m ys) (hn : n ≤ maxLen) :
    Calls Try.prog 20 #[.slice A n c, .slice B m d] w fun e w' => e = .returned (.bool (decide (xs = ys))) ∧ Below w.heap.size w w' := by
  unfold maxLen at hn
  have HX := Lib.hid hx.1
  have HY := Lib.hid hy.1
  by_cases hnm : n = m
  · subst hnm
    have hne : ((n : Int) != (n : Int)) = false := by simp
    go_enter Try.func20, Try.ntmps20
    go_wp2_with fail
    go_loopw [5] (fun i wr => ∃ k : Nat, k ≤ n ∧ i = .int .i64 k ∧ (∀ j, j < k → xs.getD j ⟨#[]⟩ = ys.getD j ⟨#[]⟩) ∧ Below w.heap.size w wr) (fun i _ => n - (intOf i).toNat)
    case atStart => exact ⟨0, by omega, rfl, fun j hj => by omega, Below.refl _ _⟩
    case round =>
      obtain ⟨k, hk, rfl, hall, hbr⟩ := hrel
      have HA := Lib.hid hall
      clear hall
      by_cases hlt : k < n
      · obtain ⟨b1, o1, rfl, hb1, hc1⟩ := hx.2 (by omega)
        obtain ⟨b2, o2, rfl, hb2, hc2⟩ := hy.2 (by omega)
        have q1 := hc1 k hlt
        have q2 := hc2 k hlt
        have HXE := Lib.hid (fun (h0 : xs.getD k ⟨#[]⟩ ≠ ys.getD k ⟨#[]⟩) => show decide (xs = ys) = false from decide_eq_false (fun e => h0 (by rw [e])))
        have HXN := Lib.hid (fun (h0 : xs.getD k ⟨#[]⟩ = ys.getD k ⟨#[]⟩) j (hj : j < k + 1) => show xs.getD j ⟨#[]⟩ = ys.getD j ⟨#[]⟩ by
          by_cases e : j = k
          · rw [e]; exact h0
          · exact HA.out j (by omega))
        generalize xs.getD k ⟨#[]⟩ = x at *
        generalize ys.getD k ⟨#[]⟩ = y at *
        have HC := Lib.hid (fun (Y : World) (hY : Below w.heap.size w Y) => (⟨(hY.cell (p := ⟨b1, o1 + k, none⟩) hb1).trans q1, (hY.cell (p := ⟨b2, o2 + k, none⟩) hb2).trans q2⟩ : Y.cell? ⟨b1, o1 + k, none⟩ = some (.string x) ∧ Y.cell? ⟨b2, o2 + k, none⟩ = some (.string y)))
        clear hc1 hc2 q1 q2
        go_wp2_with fail
        refine wp_region_nf (fun Y => Below w.heap.size w Y) (fun _ => false) [(0, true), (1, true), (2, true), (3, true), (4, true), (5, true), (6, true), (7, true), (8, true)] (by kernel_rfl) rfl (by kernel_rfl) (by kernel_rfl) (fun d _ _ _ _ h => by cases d <;> exact h) ?_
        have hbd := hbr.drew
        clear hbr
        generalize wr.drew = V at *
        repeat (refine nf_pure rfl hbd (fun Y hY => by obtain ⟨g1, g2⟩ := HC.out Y hY; clear hY; go_wp2; exact ⟨rfl, rfl, rfl⟩) rfl ?_ ?_; rfl)
        refine nf_nil ?_
        go_wp2_with fail
        · rename_i h
          have hxy : x ≠ y := fun e => by subst e; simp at h
          go_ret
          exact ⟨by rw [HXE.out hxy]; rfl, hbd⟩
        · rename_i h
          have hxy : x = y := by
            have h2 : x.toList = y.toList := by simpa using h
            rw [Lib.toList_data, Lib.toList_data] at h2
            exact ByteArray.ext (Array.toList_inj.1 h2)
          go_roundw
          case rel => exact ⟨k + 1, by omega, by go_num, HXN.out hxy, hbd⟩
          case measure => simp [intOf]; omega
      · obtain rfl : k = n := by omega
        have e : decide (xs = ys) = true := decide_eq_true (strs_ext (by rw [HX.out, HY.out]) (fun i hi => HA.out i (by rw [HX.out] at hi; exact hi)))
        have HE := Lib.hid e
        clear e
        go_wp2_with fail
        go_ret
        exact ⟨by rw [HE.out]; rfl, hbr⟩
  · have hne : ((n : Int) != (m : Int)) = true := by rw [bne_iff_ne]; omega
    have e : decide (xs = ys) = false := decide_eq_false (fun e => hnm (by rw [← HX.out, ← HY.out, e]))
    rw [e]
    clear e
    go_enter Try.func20, Try.ntmps20
    go_wp2_with fail
    go_ret
    exact ⟨rfl, Below.refl _ _⟩
end Go.Proofs.Ythpehdmffleobaa
