/- layer 8's some: a superblock that may be, of some numbers. -/
import Derived.Test.YtfoflbbeckepoaaSuShown
import Derived.Test.YtfoflbbeckepoaaSuDec2
namespace Go.Proofs.Ytfoflbbeckepoaa
open Go.RowKit Go.OpenShut

def someS (u e : Int) (l0 l1 l2 l3 l4 l5 l6 l7 : Nat) : Sup :=
  ⟨max u 1, e, if l4 % 5 = 0 then 254 + (l3 : Int) % 2 else (l3 : Int) % (4 + (l0 : Int) % 6), 4 + (l0 : Int) % 6, 1 + (l1 : Int) % 4, 1 + (l2 : Int), (l4 : Int) % 2 == 0, (l5 : Int) % (1 + (l2 : Int) + 1),
    if l6 % 2 = 0 then 4 + (l0 : Int) % 6 + 1 else 0, if l6 % 2 = 0 then (l7 : Int) % (1 + (l2 : Int) + 1) else 0⟩
theorem someS_may (u e : Int) (l0 l1 l2 l3 l4 l5 l6 l7 : Nat) (h2 : l2 < 256) : (someS u e l0 l1 l2 l3 l4 l5 l6 l7).may = true := by
  have hu : (max u 1 == 0) = false := by rw [beq_eq_false_iff_ne]; omega
  have h3 : 0 ≤ (l3 : Int) % (4 + (l0 : Int) % 6) ∧ (l3 : Int) % (4 + (l0 : Int) % 6) < 4 + (l0 : Int) % 6 := ⟨Int.emod_nonneg _ (by omega), Int.emod_lt_of_pos _ (by omega)⟩
  have h5 : 0 ≤ (l5 : Int) % (1 + (l2 : Int) + 1) ∧ (l5 : Int) % (1 + (l2 : Int) + 1) < 1 + (l2 : Int) + 1 := ⟨Int.emod_nonneg _ (by omega), Int.emod_lt_of_pos _ (by omega)⟩
  have h7 : 0 ≤ (l7 : Int) % (1 + (l2 : Int) + 1) ∧ (l7 : Int) % (1 + (l2 : Int) + 1) < 1 + (l2 : Int) + 1 := ⟨Int.emod_nonneg _ (by omega), Int.emod_lt_of_pos _ (by omega)⟩
  unfold someS Sup.may
  simp only [hu, Bool.and_eq_true, Bool.or_eq_true, decide_eq_true_eq, wi_iff, geoOK_iff]
  simp only [Bool.not_false]
  generalize (l3 : Int) % (4 + (l0 : Int) % 6) = a at *
  generalize (l5 : Int) % (1 + (l2 : Int) + 1) = b at *
  generalize (l7 : Int) % (1 + (l2 : Int) + 1) = c at *
  by_cases h4 : l4 % 5 = 0 <;> by_cases h6 : l6 % 2 = 0 <;> simp only [h4, h6, if_true, if_false, true_and, true_or, or_true, and_true] <;> omega
theorem someS_wf (u e : Int) (l0 l1 l2 l3 l4 l5 l6 l7 : Nat) (hu : 0 ≤ u) (hu1 : u < 18446744073709551616) (he : 0 ≤ e) (he1 : e < 18446744073709551616) : (someS u e l0 l1 l2 l3 l4 l5 l6 l7).wf := by
  constructor <;> simp only [someS] <;> (first | omega | (by_cases h6 : l6 % 2 = 0 <;> simp only [h6, if_true, if_false] <;> omega))

theorem someRet {W : World} {g : Nat} (s : Sup) (fn : Func) (t0 t1 t2 t3 t4 t5 : Value) (rest : List Value) (h : Blk W g 26 s.v.cells) (hr : fn.results = #[ResultVar.cell 6 26]) :
    (results fn (t0 :: t1 :: t2 :: t3 :: t4 :: t5 :: .pointer (some ⟨g, 0, none⟩) :: rest).toArray).run Try.prog W = .ok s.v W := by
  have hq := h.cell
  obtain ⟨u, e, r, c, k, n, cl, b, nw, gr⟩ := s
  unfold Sup.v at *
  dsimp only [Value.cells] at hq
  simp [results, hr, go_sem, hq]
set_option maxHeartbeats 4000000 in
theorem some_any (w : World) (u e : Int) (l0 l1 l2 l3 l4 l5 l6 l7 : Nat) (h0 : l0 < 256) (h1 : l1 < 256) (h2 : l2 < 256) (h3 : l3 < 256) (h4 : l4 < 256) (h5 : l5 < 256) (h6 : l6 < 256) (h7 : l7 < 256) :
    Calls Try.prog 12 #[.int .u64 u, .int .u64 e, .agg #[.int .u8 l0, .int .u8 l1, .int .u8 l2, .int .u8 l3, .int .u8 l4, .int .u8 l5, .int .u8 l6, .int .u8 l7]] w fun e' w' => e' = .returned (someS u e l0 l1 l2 l3 l4 l5 l6 l7).v ∧ Below w.heap.size w w' := by
  obtain ⟨m, hm⟩ : ∃ m, max u 1 = m := ⟨_, rfl⟩
  obtain ⟨a, ha, a0, a1⟩ : ∃ a, (l0 : Int) % 6 = a ∧ 0 ≤ a ∧ a < 6 := ⟨_, rfl, by omega, by omega⟩
  obtain ⟨k, hk, k0, k1⟩ : ∃ k, (l1 : Int) % 4 = k ∧ 0 ≤ k ∧ k < 4 := ⟨_, rfl, by omega, by omega⟩
  have hr0 : 0 ≤ (l3 : Int) % (4 + a) := Int.emod_nonneg _ (by omega)
  have hr1 : (l3 : Int) % (4 + a) < 4 + a := Int.emod_lt_of_pos _ (by omega)
  have hb0 : 0 ≤ (l5 : Int) % (1 + (l2 : Int) + 1) := Int.emod_nonneg _ (by omega)
  have hb1 : (l5 : Int) % (1 + (l2 : Int) + 1) < 1 + (l2 : Int) + 1 := Int.emod_lt_of_pos _ (by omega)
  have hS : Hid (someS u e l0 l1 l2 l3 l4 l5 l6 l7 = ⟨m, e, if l4 % 5 = 0 then 254 + (l3 : Int) % 2 else (l3 : Int) % (4 + a), 4 + a, 1 + k, 1 + (l2 : Int), (l4 : Int) % 2 == 0, (l5 : Int) % (1 + (l2 : Int) + 1), if l6 % 2 = 0 then 4 + a + 1 else 0, if l6 % 2 = 0 then (l7 : Int) % (1 + (l2 : Int) + 1) else 0⟩) := Lib.hid (by unfold someS; rw [hm, ha, hk])
  go_enter Try.func12, Try.ntmps12
  go_wp2_with fail
  have hz1 : (w.alloc (.cells #[.int .u8 l0, .int .u8 l1, .int .u8 l2, .int .u8 l3, .int .u8 l4, .int .u8 l5, .int .u8 l6, .int .u8 l7] 34)).heap.size = w.heap.size + 1 := by simp
  have hz2 : ((w.alloc (.cells #[.int .u8 l0, .int .u8 l1, .int .u8 l2, .int .u8 l3, .int .u8 l4, .int .u8 l5, .int .u8 l6, .int .u8 l7] 34)).alloc (.cells Sup.zero.v.cells 26)).heap.size = w.heap.size + 1 + 1 := by simp
  have hz3 : (((w.alloc (.cells #[.int .u8 l0, .int .u8 l1, .int .u8 l2, .int .u8 l3, .int .u8 l4, .int .u8 l5, .int .u8 l6, .int .u8 l7] 34)).alloc (.cells Sup.zero.v.cells 26)).alloc (.cells #[.int .i64 (4 + a), .int .i64 (1 + k), .int .i64 (1 + (l2 : Int))] 24)).heap.size = w.heap.size + 1 + 1 + 1 := by simp
  have hA := ((Blk.new w 34 #[.int .u8 l0, .int .u8 l1, .int .u8 l2, .int .u8 l3, .int .u8 l4, .int .u8 l5, .int .u8 l6, .int .u8 l7]).alloc (.cells Sup.zero.v.cells 26)).alloc (.cells #[.int .i64 (4 + a), .int .i64 (1 + k), .int .i64 (1 + (l2 : Int))] 24)
  have hR := (Blk.new (w.alloc (.cells #[.int .u8 l0, .int .u8 l1, .int .u8 l2, .int .u8 l3, .int .u8 l4, .int .u8 l5, .int .u8 l6, .int .u8 l7] 34)) 26 Sup.zero.v.cells).alloc (.cells #[.int .i64 (4 + a), .int .i64 (1 + k), .int .i64 (1 + (l2 : Int))] 24)
  have hG := Blk.new ((w.alloc (.cells #[.int .u8 l0, .int .u8 l1, .int .u8 l2, .int .u8 l3, .int .u8 l4, .int .u8 l5, .int .u8 l6, .int .u8 l7] 34)).alloc (.cells Sup.zero.v.cells 26)) 24 #[.int .i64 (4 + a), .int .i64 (1 + k), .int .i64 (1 + (l2 : Int))]
  have hbe := (((Below.refl w.heap.size w).alloc (Nat.le_refl _) (.cells #[.int .u8 l0, .int .u8 l1, .int .u8 l2, .int .u8 l3, .int .u8 l4, .int .u8 l5, .int .u8 l6, .int .u8 l7] 34)).alloc (by simp) (.cells Sup.zero.v.cells 26)).alloc (by simp; omega) (.cells #[.int .i64 (4 + a), .int .i64 (1 + k), .int .i64 (1 + (l2 : Int))] 24)
  rw [hz1] at hR
  rw [hz2] at hG
  clear hz1 hz2
  unfold Sup.v Sup.zero at hA hR hG hbe hz3
  dsimp only [Value.cells] at hA hR hG hbe hz3
  generalize World.alloc _ (.cells #[.int .i64 (4 + a), .int .i64 (1 + k), .int .i64 (1 + (l2 : Int))] _) = W at *
  have qA := hA.cell
  have qG := hG.cell
  have hb00 := (Below.refl W.heap.size W).drew
  have lA : w.heap.size < W.heap.size := by omega
  have lG : w.heap.size + 1 + 1 < W.heap.size := by omega
  refine wp_region_nf (fun x => Below W.heap.size W x) (fun _ => false) ((List.range 22).map (fun i => (i, true)) ++ [(22, false), (23, false)]) (by kernel_rfl) rfl (by kernel_rfl) (by kernel_rfl) (fun d _ _ _ _ h => by cases d <;> exact h) ?_
  repeat (refine nf_pure rfl hb00 (fun x hS => by have h1 := fun o => (hS.cell (p := ⟨w.heap.size, o, none⟩) lA).trans (qA o); have h2 := fun o => (hS.cell (p := ⟨w.heap.size + 1 + 1, o, none⟩) lG).trans (qG o); clear hS; go_wp2; exact ⟨rfl, rfl, rfl⟩) rfl ?_ ?_; rfl)
  refine nf_imp rfl ?_
  go_wp2_with fail
  refine ⟨fun _ => (Below.refl _ _).alloc (Nat.le_refl _) _ |>.drew, ?_⟩
  refine nf_imp rfl ?_
  go_wp2_with fail
  refine ⟨fun _ => (Below.refl _ _).alloc (Nat.le_refl _) _ |>.drew, ?_⟩
  refine nf_nil ?_
  clear hm ha hk hA hG hb00
  generalize (l3 : Int) % (4 + a) = R3 at *
  generalize (l5 : Int) % (1 + (l2 : Int) + 1) = B5 at *
  have h70 : 0 ≤ (l7 : Int) % (1 + (l2 : Int) + 1) := Int.emod_nonneg _ (by omega)
  have h71 : (l7 : Int) % (1 + (l2 : Int) + 1) < 1 + (l2 : Int) + 1 := Int.emod_lt_of_pos _ (by omega)
  have qR := hR.cell
  have fR := hR.frozen
  have lR : w.heap.size + 1 < W.heap.size := by omega
  generalize ((l4 : Int) % 2 == 0) = CL at *
  by_cases h4e : l4 % 5 = 0
  · have e4 : ((l4 : Int) % 5 == 0) = true := by rw [beq_iff_eq]; omega
    by_cases h6e : l6 % 2 = 0
    · have e6 : ((l6 : Int) % 2 == 0) = true := by rw [beq_iff_eq]; omega
      have hs1 := hS.out
      rw [if_pos h4e, if_pos h6e, if_pos h6e] at hs1
      have HS1 := Lib.hid hs1
      clear hs1 h4e h6e hS
      go_wp2_with fail
      have hbl := (((below_set10 hbe (g := w.heap.size + 1) (by omega) ⟨m, e, 254 + (l3 : Int) % 2, 4 + a, 1 + k, 1 + (l2 : Int), CL, B5, 4 + a + 1, (l7 : Int) % (1 + (l2 : Int) + 1)⟩).alloc (below_set10 hbe (g := w.heap.size + 1) (by omega) ⟨m, e, 254 + (l3 : Int) % 2, 4 + a, 1 + k, 1 + (l2 : Int), CL, B5, 4 + a + 1, (l7 : Int) % (1 + (l2 : Int) + 1)⟩).size (.cells (Sup.v ⟨m, e, 254 + (l3 : Int) % 2, 4 + a, 1 + k, 1 + (l2 : Int), CL, B5, 4 + a + 1, (l7 : Int) % (1 + (l2 : Int) + 1)⟩).cells 26))).drew
      have hB := ((hR.set10 Sup.zero ⟨m, e, 254 + (l3 : Int) % 2, 4 + a, 1 + k, 1 + (l2 : Int), CL, B5, 4 + a + 1, (l7 : Int) % (1 + (l2 : Int) + 1)⟩).alloc (.cells (Sup.v ⟨m, e, 254 + (l3 : Int) % 2, 4 + a, 1 + k, 1 + (l2 : Int), CL, B5, 4 + a + 1, (l7 : Int) % (1 + (l2 : Int) + 1)⟩).cells 26)).drew
      show bodyPost _ _ _ _ _ ((set10 W (w.heap.size + 1) ⟨m, e, 254 + (l3 : Int) % 2, 4 + a, 1 + k, 1 + (l2 : Int), CL, B5, 4 + a + 1, (l7 : Int) % (1 + (l2 : Int) + 1)⟩).alloc (.cells (Sup.v ⟨m, e, 254 + (l3 : Int) % 2, 4 + a, 1 + k, 1 + (l2 : Int), CL, B5, 4 + a + 1, (l7 : Int) % (1 + (l2 : Int) + 1)⟩).cells 26)).drew
      generalize ((set10 W (w.heap.size + 1) ⟨m, e, 254 + (l3 : Int) % 2, 4 + a, 1 + k, 1 + (l2 : Int), CL, B5, 4 + a + 1, (l7 : Int) % (1 + (l2 : Int) + 1)⟩).alloc (.cells (Sup.v ⟨m, e, 254 + (l3 : Int) % 2, 4 + a, 1 + k, 1 + (l2 : Int), CL, B5, 4 + a + 1, (l7 : Int) % (1 + (l2 : Int) + 1)⟩).cells 26)).drew = V at *
      rw [HS1.out]
      exact bodyPost_ret (someRet ⟨m, e, 254 + (l3 : Int) % 2, 4 + a, 1 + k, 1 + (l2 : Int), CL, B5, 4 + a + 1, (l7 : Int) % (1 + (l2 : Int) + 1)⟩ _ _ _ _ _ _ _ _ hB Try.results12) rfl ⟨rfl, hbl⟩
    · have e6 : ((l6 : Int) % 2 == 0) = false := by rw [beq_eq_false_iff_ne]; omega
      have hs1 := hS.out
      rw [if_pos h4e, if_neg h6e, if_neg h6e] at hs1
      have HS1 := Lib.hid hs1
      clear hs1 h4e h6e hS
      go_wp2_with fail
      have hbl := (((below_set10 hbe (g := w.heap.size + 1) (by omega) ⟨m, e, 254 + (l3 : Int) % 2, 4 + a, 1 + k, 1 + (l2 : Int), CL, B5, 0, 0⟩).alloc (below_set10 hbe (g := w.heap.size + 1) (by omega) ⟨m, e, 254 + (l3 : Int) % 2, 4 + a, 1 + k, 1 + (l2 : Int), CL, B5, 0, 0⟩).size (.cells (Sup.v ⟨m, e, 254 + (l3 : Int) % 2, 4 + a, 1 + k, 1 + (l2 : Int), CL, B5, 0, 0⟩).cells 26))).drew
      have hB := ((hR.set10 Sup.zero ⟨m, e, 254 + (l3 : Int) % 2, 4 + a, 1 + k, 1 + (l2 : Int), CL, B5, 0, 0⟩).alloc (.cells (Sup.v ⟨m, e, 254 + (l3 : Int) % 2, 4 + a, 1 + k, 1 + (l2 : Int), CL, B5, 0, 0⟩).cells 26)).drew
      show bodyPost _ _ _ _ _ ((set10 W (w.heap.size + 1) ⟨m, e, 254 + (l3 : Int) % 2, 4 + a, 1 + k, 1 + (l2 : Int), CL, B5, 0, 0⟩).alloc (.cells (Sup.v ⟨m, e, 254 + (l3 : Int) % 2, 4 + a, 1 + k, 1 + (l2 : Int), CL, B5, 0, 0⟩).cells 26)).drew
      generalize ((set10 W (w.heap.size + 1) ⟨m, e, 254 + (l3 : Int) % 2, 4 + a, 1 + k, 1 + (l2 : Int), CL, B5, 0, 0⟩).alloc (.cells (Sup.v ⟨m, e, 254 + (l3 : Int) % 2, 4 + a, 1 + k, 1 + (l2 : Int), CL, B5, 0, 0⟩).cells 26)).drew = V at *
      rw [HS1.out]
      exact bodyPost_ret (someRet ⟨m, e, 254 + (l3 : Int) % 2, 4 + a, 1 + k, 1 + (l2 : Int), CL, B5, 0, 0⟩ _ _ _ _ _ _ _ _ hB Try.results12) rfl ⟨rfl, hbl⟩
  · have e4 : ((l4 : Int) % 5 == 0) = false := by rw [beq_eq_false_iff_ne]; omega
    by_cases h6e : l6 % 2 = 0
    · have e6 : ((l6 : Int) % 2 == 0) = true := by rw [beq_iff_eq]; omega
      have hs1 := hS.out
      rw [if_neg h4e, if_pos h6e, if_pos h6e] at hs1
      have HS1 := Lib.hid hs1
      clear hs1 h4e h6e hS
      go_wp2_with fail
      have hbl := (((below_set10 hbe (g := w.heap.size + 1) (by omega) ⟨m, e, R3, 4 + a, 1 + k, 1 + (l2 : Int), CL, B5, 4 + a + 1, (l7 : Int) % (1 + (l2 : Int) + 1)⟩).alloc (below_set10 hbe (g := w.heap.size + 1) (by omega) ⟨m, e, R3, 4 + a, 1 + k, 1 + (l2 : Int), CL, B5, 4 + a + 1, (l7 : Int) % (1 + (l2 : Int) + 1)⟩).size (.cells (Sup.v ⟨m, e, R3, 4 + a, 1 + k, 1 + (l2 : Int), CL, B5, 4 + a + 1, (l7 : Int) % (1 + (l2 : Int) + 1)⟩).cells 26))).drew
      have hB := ((hR.set10 Sup.zero ⟨m, e, R3, 4 + a, 1 + k, 1 + (l2 : Int), CL, B5, 4 + a + 1, (l7 : Int) % (1 + (l2 : Int) + 1)⟩).alloc (.cells (Sup.v ⟨m, e, R3, 4 + a, 1 + k, 1 + (l2 : Int), CL, B5, 4 + a + 1, (l7 : Int) % (1 + (l2 : Int) + 1)⟩).cells 26)).drew
      show bodyPost _ _ _ _ _ ((set10 W (w.heap.size + 1) ⟨m, e, R3, 4 + a, 1 + k, 1 + (l2 : Int), CL, B5, 4 + a + 1, (l7 : Int) % (1 + (l2 : Int) + 1)⟩).alloc (.cells (Sup.v ⟨m, e, R3, 4 + a, 1 + k, 1 + (l2 : Int), CL, B5, 4 + a + 1, (l7 : Int) % (1 + (l2 : Int) + 1)⟩).cells 26)).drew
      generalize ((set10 W (w.heap.size + 1) ⟨m, e, R3, 4 + a, 1 + k, 1 + (l2 : Int), CL, B5, 4 + a + 1, (l7 : Int) % (1 + (l2 : Int) + 1)⟩).alloc (.cells (Sup.v ⟨m, e, R3, 4 + a, 1 + k, 1 + (l2 : Int), CL, B5, 4 + a + 1, (l7 : Int) % (1 + (l2 : Int) + 1)⟩).cells 26)).drew = V at *
      rw [HS1.out]
      exact bodyPost_ret (someRet ⟨m, e, R3, 4 + a, 1 + k, 1 + (l2 : Int), CL, B5, 4 + a + 1, (l7 : Int) % (1 + (l2 : Int) + 1)⟩ _ _ _ _ _ _ _ _ hB Try.results12) rfl ⟨rfl, hbl⟩
    · have e6 : ((l6 : Int) % 2 == 0) = false := by rw [beq_eq_false_iff_ne]; omega
      have hs1 := hS.out
      rw [if_neg h4e, if_neg h6e, if_neg h6e] at hs1
      have HS1 := Lib.hid hs1
      clear hs1 h4e h6e hS
      go_wp2_with fail
      have hbl := (((below_set10 hbe (g := w.heap.size + 1) (by omega) ⟨m, e, R3, 4 + a, 1 + k, 1 + (l2 : Int), CL, B5, 0, 0⟩).alloc (below_set10 hbe (g := w.heap.size + 1) (by omega) ⟨m, e, R3, 4 + a, 1 + k, 1 + (l2 : Int), CL, B5, 0, 0⟩).size (.cells (Sup.v ⟨m, e, R3, 4 + a, 1 + k, 1 + (l2 : Int), CL, B5, 0, 0⟩).cells 26))).drew
      have hB := ((hR.set10 Sup.zero ⟨m, e, R3, 4 + a, 1 + k, 1 + (l2 : Int), CL, B5, 0, 0⟩).alloc (.cells (Sup.v ⟨m, e, R3, 4 + a, 1 + k, 1 + (l2 : Int), CL, B5, 0, 0⟩).cells 26)).drew
      show bodyPost _ _ _ _ _ ((set10 W (w.heap.size + 1) ⟨m, e, R3, 4 + a, 1 + k, 1 + (l2 : Int), CL, B5, 0, 0⟩).alloc (.cells (Sup.v ⟨m, e, R3, 4 + a, 1 + k, 1 + (l2 : Int), CL, B5, 0, 0⟩).cells 26)).drew
      generalize ((set10 W (w.heap.size + 1) ⟨m, e, R3, 4 + a, 1 + k, 1 + (l2 : Int), CL, B5, 0, 0⟩).alloc (.cells (Sup.v ⟨m, e, R3, 4 + a, 1 + k, 1 + (l2 : Int), CL, B5, 0, 0⟩).cells 26)).drew = V at *
      rw [HS1.out]
      exact bodyPost_ret (someRet ⟨m, e, R3, 4 + a, 1 + k, 1 + (l2 : Int), CL, B5, 0, 0⟩ _ _ _ _ _ _ _ _ hB Try.results12) rfl ⟨rfl, hbl⟩
end Go.Proofs.Ytfoflbbeckepoaa
