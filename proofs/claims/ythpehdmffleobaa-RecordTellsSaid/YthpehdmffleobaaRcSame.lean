/- The document's Same: are two records the same? -/
import Derived.Test.YthpehdmffleobaaRcTheirs
namespace Go.Proofs.Ythpehdmffleobaa
open Go.RowKit Go.OpenShut

theorem ps_ext {xs ys : List Prt} (h : xs.length = ys.length) (h2 : ∀ i, i < xs.length → xs.getD i prt0 = ys.getD i prt0) : xs = ys := by
  apply List.ext_getElem h
  intro i h3 h4
  have := h2 i h3
  simpa [List.getD, h3, h4] using this
instance : DecidableEq Prt := fun a b => by
  cases a; cases b
  simp only [Prt.mk.injEq]
  infer_instance
def neP (x y : Prt) : Bool := !(x.col == y.col && x.off == y.off && x.data.toList == y.data.toList)
theorem neP_iff (x y : Prt) : neP x y = false ↔ x = y := by
  obtain ⟨a, b, c⟩ := x
  obtain ⟨d, e, f⟩ := y
  unfold neP
  rw [Bool.not_eq_false', Bool.and_eq_true, Bool.and_eq_true, beq_iff_eq, beq_iff_eq, beq_iff_eq, Prt.mk.injEq, and_assoc]
  refine and_congr Iff.rfl (and_congr Iff.rfl ⟨fun h => ?_, fun h => by rw [h]⟩)
  dsimp only at h
  rw [Lib.toList_data, Lib.toList_data] at h
  exact ByteArray.ext (Array.toList_inj.1 h)
set_option maxHeartbeats 1000000 in
theorem eq_prt (w : World) (x y : Prt) : (binOp .eql 65 x.v y.v).run Try.prog w = .ok (.bool (!neP x y)) w := by
  unfold Prt.v neP
  go_simp
  (repeat' split) <;> simp_all
set_option maxHeartbeats 1000000 in
theorem ne_prt (w : World) (x y : Prt) : (binOp .neq 65 x.v y.v).run Try.prog w = .ok (.bool (neP x y)) w := by
  unfold Prt.v neP
  go_simp
  (repeat' split) <;> simp_all
def sameR (s1 r1 : Int) (p1 : List Prt) (s2 r2 : Int) (p2 : List Prt) : Bool := decide (s1 = s2) && decide (r1 = r2) && decide (p1 = p2)
theorem sameR_self (s r : Int) (p : List Prt) : sameR s r p s r p = true := by simp [sameR]
set_option maxRecDepth 8000 in
set_option maxHeartbeats 4000000 in
theorem refSame_any (w : World) (s1 r1 s2 r2 : Int) (A B : Option Addr) (n c m d : Nat) (xs ys : List Prt) (hx : PartsA w w.heap.size A n xs) (hy : PartsA w w.heap.size B m ys) (hn : n ≤ maxLen) :
    Calls Try.prog 21 #[recV s1 r1 A n c, recV s2 r2 B m d] w fun e w' => e = .returned (.bool (sameR s1 r1 xs s2 r2 ys)) ∧ Below w.heap.size w w' := by
  unfold maxLen at hn
  unfold recV
  have HX := Lib.hid hx.1
  have HY := Lib.hid hy.1
  have hb0 := ((Below.refl w.heap.size w).alloc (Nat.le_refl _) (.cells #[.int .u64 s1, .int .i64 r1, .slice A n c] 41)).alloc (by simp) (.cells #[.int .u64 s2, .int .i64 r2, .slice B m d] 41)
  have h0 := (Blk.new w 41 #[.int .u64 s1, .int .i64 r1, .slice A n c]).alloc (.cells #[.int .u64 s2, .int .i64 r2, .slice B m d] 41)
  have h1 := Blk.new (w.alloc (.cells #[.int .u64 s1, .int .i64 r1, .slice A n c] 41)) 41 #[.int .u64 s2, .int .i64 r2, .slice B m d]
  have hz : (w.alloc (.cells #[.int .u64 s1, .int .i64 r1, .slice A n c] 41)).heap.size = w.heap.size + 1 := by simp
  rw [hz] at h1
  clear hz
  have hF : ((s1 != s2) = true ∨ (s1 = s2 ∧ (r1 != r2) = true) ∨ (s1 = s2 ∧ r1 = r2 ∧ ((n : Int) != (m : Int)) = true)) ∨ (s1 = s2 ∧ r1 = r2 ∧ n = m) := by
    by_cases e1 : s1 = s2
    · by_cases e2 : r1 = r2
      · by_cases e3 : n = m
        · exact Or.inr ⟨e1, e2, e3⟩
        · exact Or.inl (Or.inr (Or.inr ⟨e1, e2, by rw [bne_iff_ne]; omega⟩))
      · exact Or.inl (Or.inr (Or.inl ⟨e1, by rw [bne_iff_ne]; exact e2⟩))
    · exact Or.inl (Or.inl (by rw [bne_iff_ne]; exact e1))
  rcases hF with hF | ⟨rfl, rfl, rfl⟩
  · have hno : sameR s1 r1 xs s2 r2 ys = false := by
      unfold sameR
      rw [Bool.eq_false_iff]
      intro e
      simp only [Bool.and_eq_true, decide_eq_true_eq] at e
      obtain ⟨⟨e1, e2⟩, e3⟩ := e
      rcases hF with h | ⟨_, h⟩ | ⟨_, _, h⟩
      · rw [bne_iff_ne] at h; exact h e1
      · rw [bne_iff_ne] at h; exact h e2
      · rw [bne_iff_ne] at h; exact h (by rw [← HX.out, ← HY.out, e3])
    rw [hno]
    clear hno
    rcases hF with h | ⟨rfl, h⟩ | ⟨rfl, rfl, h⟩
    all_goals
      have hs : (s1 != s1) = false := by simp
      have hr : (r1 != r1) = false := by simp
      go_enter Try.func21, Try.ntmps21
      go_wp2_with fail
      go_ret
      exact ⟨rfl, hb0⟩
  · have hs : (s1 != s1) = false := by simp
    have hr : (r1 != r1) = false := by simp
    have hnn : ((n : Int) != (n : Int)) = false := by simp
    go_enter Try.func21, Try.ntmps21
    go_wp2_with fail
    generalize (w.alloc (.cells #[.int .u64 s1, .int .i64 r1, .slice A n c] 41)).alloc (.cells #[.int .u64 s1, .int .i64 r1, .slice B n d] 41) = w1 at *
    clear hs hr hnn
    go_loopw [5] (fun i wr => ∃ k : Nat, k ≤ n ∧ i = .int .i64 k ∧ (∀ j, j < k → xs.getD j prt0 = ys.getD j prt0) ∧ Blk wr w.heap.size 41 #[.int .u64 s1, .int .i64 r1, .slice A n c] ∧ Blk wr (w.heap.size + 1) 41 #[.int .u64 s1, .int .i64 r1, .slice B n d] ∧ Below w.heap.size w wr) (fun i _ => n - (intOf i).toNat)
    case atStart => exact ⟨0, by omega, rfl, fun j hj => by omega, h0, h1, hb0⟩
    case round =>
      obtain ⟨k, hk, rfl, hall, hA0, hB0, hbr⟩ := hrel
      clear h0 h1 hb0
      have HA := Lib.hid hall
      clear hall
      by_cases hlt : k < n
      · obtain ⟨b1, o1, rfl, hb1, hc1⟩ := hx.2 (by omega)
        obtain ⟨b2, o2, rfl, hb2, hc2⟩ := hy.2 (by omega)
        have HXE := Lib.hid (fun (h0 : xs.getD k prt0 ≠ ys.getD k prt0) => show sameR s1 r1 xs s1 r1 ys = false by
          unfold sameR
          rw [Bool.and_eq_false_iff]
          exact Or.inr (decide_eq_false (fun e => h0 (by rw [e]))))
        have HXN := Lib.hid (fun (h0 : xs.getD k prt0 = ys.getD k prt0) j (hj : j < k + 1) => show xs.getD j prt0 = ys.getD j prt0 by
          by_cases e : j = k
          · rw [e]; exact h0
          · exact HA.out j (by omega))
        have HC := Lib.hid (fun (Y : World) (hY : Below w.heap.size w Y) => And.intro ((hc1 k hlt).below hY hb1) ((hc2 k hlt).below hY hb2))
        generalize xs.getD k prt0 = x at *
        generalize ys.getD k prt0 = y at *
        have HEQ := Lib.hid (neP_iff x y)
        have HNE := Lib.hid (fun V => ne_prt V x y)
        have HNF := Lib.hid (fun V => eq_prt V x y)
        generalize hbv : neP x y = bv at *
        obtain ⟨xc, xo, xd⟩ := x
        obtain ⟨yc, yo, yd⟩ := y
        have q1 := hA0.cell 2
        have q2 := hB0.cell 2
        have hki : (k : Int) < (n : Int) := by omega
        clear hc1 hc2
        go_wp2_with fail
        refine wp_region_nf (fun Y => Below w.heap.size w Y ∧ Y.cell? ⟨w.heap.size, 2, none⟩ = some (.slice (some ⟨b1, o1, none⟩) n c) ∧ Y.cell? ⟨w.heap.size + 1, 2, none⟩ = some (.slice (some ⟨b2, o2, none⟩) n d)) (fun _ => false) [(0, true), (1, true), (2, true), (3, true), (4, true), (5, true), (6, true), (7, true), (8, true), (9, true), (10, true)] (by kernel_rfl) rfl (by kernel_rfl) (by kernel_rfl) (fun d _ _ _ _ h => by cases d <;> exact h) ?_
        have hbd := hbr.drew
        have hA1 : Blk wr.drew w.heap.size 41 _ := hA0
        have hB1 : Blk wr.drew (w.heap.size + 1) 41 _ := hB0
        have q3 : wr.drew.cell? ⟨w.heap.size, 2, none⟩ = some (.slice (some ⟨b1, o1, none⟩) n c) := q1
        have q4 : wr.drew.cell? ⟨w.heap.size + 1, 2, none⟩ = some (.slice (some ⟨b2, o2, none⟩) n d) := q2
        have HS := And.intro hbd (And.intro q3 q4)
        clear hbr hA0 hB0 q1 q2 q3 q4
        generalize wr.drew = V at *
        dsimp only [Prt.v] at HNE HNF
        repeat (refine nf_pure rfl HS (fun Y hY => by obtain ⟨hY, y2, y3⟩ := hY; obtain ⟨⟨g1, g2, g3⟩, g4, g5, g6⟩ := HC.out Y hY; have hne := HNE.out; have hnf := HNF.out; clear hY; go_wp2; exact ⟨rfl, rfl, rfl⟩) rfl ?_ ?_; rfl)
        refine nf_nil ?_
        cases bv with
        | false =>
          have hxy := HEQ.out.1 rfl
          go_wp2_with fail
          go_roundw
          case rel => exact ⟨k + 1, by omega, by go_num, HXN.out hxy, hA1, hB1, hbd⟩
          case measure => simp [intOf]; omega
        | true =>
          have hxy : _ ≠ _ := fun e => by have := HEQ.out.2 e; cases this
          have HZ := Lib.hid (HXE.out hxy)
          clear hxy
          go_wp2_with fail
          go_ret
          exact ⟨by rw [HZ.out]; rfl, hbd⟩
      · obtain rfl : k = n := by omega
        have e : xs = ys := ps_ext (by rw [HX.out, HY.out]) (fun i hi => HA.out i (by rw [HX.out] at hi; exact hi))
        have HE : Hid (sameR s1 r1 xs s1 r1 ys = true) := Lib.hid (by rw [e]; exact sameR_self _ _ _)
        clear e
        have q1 := hA0.cell 2
        go_wp2_with fail
        go_ret
        exact ⟨by rw [HE.out]; rfl, hbr⟩
end Go.Proofs.Ythpehdmffleobaa
