/- revetmentlaw08.SuperTells: its walk. -/
import Derived.Test.YtfoflbbeckepoaaSuRef3
import Derived.Test.YtfoflbbeckepoaaSuShown
namespace Go.Proofs.Ytfoflbbeckepoaa
open Go.RowKit Go.OpenShut

set_option maxHeartbeats 1000000 in
theorem eq_sup' (w : World) (s t : Sup) : (binOp .eql 43 s.v t.v).run Try.prog w = .ok (.bool (s.same t)) w := by
  unfold Sup.v Sup.same
  go_simp
  (repeat' split) <;> simp_all
theorem superTells_big (s : Sup) (b : ByteArray) (h : 200 < b.size) (w : World) :
    Calls Try.prog 8 #[s.v, .string b] w fun e w' => e = .returned (.bool true) ∧ Below w.heap.size w w' := by
  obtain ⟨u, e, r, c, k, n, cl, b', nw, gr⟩ := s
  unfold Sup.v
  go_enter Try.func8, Try.ntmps8
  go_wp2_with fail
  refine (shown8_any _).mono ?_
  rintro e w1 ⟨rfl, hb1⟩
  go_wp2_with fail
  go_ret
  exact ⟨rfl, ((Below.refl w.heap.size w).alloc (Nat.le_refl _) _).trans (hb1.mono (by simp))⟩
set_option maxHeartbeats 4000000 in
theorem superTells_small (s : Sup) (hs : s.wf) (b : ByteArray) (h : b.size ≤ 200) (w : World) :
    Calls Try.prog 8 #[s.v, .string b] w fun e w' => e = .returned (.bool true) ∧ Below w.heap.size w w' := by
  have HW := Lib.hid hs
  clear hs
  have HD := fun w => supDec_any w b
  have HRD := fun w => refSupDec_any w b
  generalize supDec b = D at HD HRD
  obtain ⟨⟨xu, xe, xr, xc, xk, xn, xcl, xb, xnw, xgr⟩, g⟩ := D
  dsimp only [Sup.v] at HD HRD
  replace HD := Lib.hid HD
  replace HRD := Lib.hid HRD
  obtain ⟨u, e, r, c, k, n, cl, b', nw, gr⟩ := s
  unfold Sup.v
  go_enter Try.func8, Try.ntmps8
  go_wp2_with fail
  refine (shown8_any _).mono ?_
  rintro e w1 ⟨rfl, hb1⟩
  have hB := (Blk.new w 26 #[.int .u64 u, .int .u64 e, .int .i64 r, .int .i64 c, .int .i64 k, .int .i64 n, .bool cl, .int .i64 b', .int .i64 nw, .int .i64 gr]).below hb1 (by simp)
  have hbe := ((Below.refl w.heap.size w).alloc (Nat.le_refl _) (.cells #[.int .u64 u, .int .u64 e, .int .i64 r, .int .i64 c, .int .i64 k, .int .i64 n, .bool cl, .int .i64 b', .int .i64 nw, .int .i64 gr] 26)).trans (hb1.mono (by simp))
  clear hb1
  have hq := hB.cell
  go_wp2_with fail
  refine (supEnc_any _ ⟨u, e, r, c, k, n, cl, b', nw, gr⟩ HW.out).mono ?_
  rintro e2 w2 ⟨rfl, hb2⟩
  replace hB := hB.below hb2 hB.lt
  replace hbe := hbe.trans (hb2.mono hbe.size)
  clear hb2 hq
  have hq := hB.cell
  go_wp2_with fail
  refine (refSupEnc_any _ ⟨u, e, r, c, k, n, cl, b', nw, gr⟩ HW.out).mono ?_
  rintro e2 w2 ⟨rfl, hb2⟩
  replace hB := hB.below hb2 hB.lt
  replace hbe := hbe.trans (hb2.mono hbe.size)
  clear hb2 hq
  have hq := hB.cell
  go_wp2_with fail
  refine (HD.out _).mono ?_
  rintro e2 w2 ⟨rfl, hb2⟩
  replace hB := hB.below hb2 hB.lt
  replace hbe := hbe.trans (hb2.mono hbe.size)
  clear hb2 hq
  have hq := hB.cell
  go_wp2_with fail
  have hX := Blk.new w2 26 #[.int .u64 xu, .int .u64 xe, .int .i64 xr, .int .i64 xc, .int .i64 xk, .int .i64 xn, .bool xcl, .int .i64 xb, .int .i64 xnw, .int .i64 xgr]
  replace hB := hB.alloc (.cells #[.int .u64 xu, .int .u64 xe, .int .i64 xr, .int .i64 xc, .int .i64 xk, .int .i64 xn, .bool xcl, .int .i64 xb, .int .i64 xnw, .int .i64 xgr] 26)
  replace hbe := hbe.alloc hbe.size (.cells #[.int .u64 xu, .int .u64 xe, .int .i64 xr, .int .i64 xc, .int .i64 xk, .int .i64 xn, .bool xcl, .int .i64 xb, .int .i64 xnw, .int .i64 xgr] 26)
  clear hq
  generalize w2.alloc (.cells #[.int .u64 xu, .int .u64 xe, .int .i64 xr, .int .i64 xc, .int .i64 xk, .int .i64 xn, .bool xcl, .int .i64 xb, .int .i64 xnw, .int .i64 xgr] 26) = w3 at *
  refine (HRD.out _).mono ?_
  rintro e2 w4 ⟨rfl, hb2⟩
  replace hB := hB.below hb2 hB.lt
  replace hX := hX.below hb2 hX.lt
  replace hbe := hbe.trans (hb2.mono hbe.size)
  clear hb2
  go_wp2_with fail
  have hY := Blk.new w4 43 #[.int .u64 xu, .int .u64 xe, .int .i64 xr, .int .i64 xc, .int .i64 xk, .int .i64 xn, .bool xcl, .int .i64 xb, .int .i64 xnw, .int .i64 xgr]
  replace hB := hB.alloc (.cells #[.int .u64 xu, .int .u64 xe, .int .i64 xr, .int .i64 xc, .int .i64 xk, .int .i64 xn, .bool xcl, .int .i64 xb, .int .i64 xnw, .int .i64 xgr] 43)
  replace hX := hX.alloc (.cells #[.int .u64 xu, .int .u64 xe, .int .i64 xr, .int .i64 xc, .int .i64 xk, .int .i64 xn, .bool xcl, .int .i64 xb, .int .i64 xnw, .int .i64 xgr] 43)
  replace hbe := hbe.alloc hbe.size (.cells #[.int .u64 xu, .int .u64 xe, .int .i64 xr, .int .i64 xc, .int .i64 xk, .int .i64 xn, .bool xcl, .int .i64 xb, .int .i64 xnw, .int .i64 xgr] 43)
  generalize w4.alloc (.cells #[.int .u64 xu, .int .u64 xe, .int .i64 xr, .int .i64 xc, .int .i64 xk, .int .i64 xn, .bool xcl, .int .i64 xb, .int .i64 xnw, .int .i64 xgr] 43) = W at *
  have hqB := hB.cell
  have hqX := hX.cell
  have hqY := hY.cell
  have hlB := hB.lt
  have hlX := hX.lt
  have hlY := hY.lt
  have heq : ∀ w, (binOp .eql 43 (.agg #[.int .u64 xu, .int .u64 xe, .int .i64 xr, .int .i64 xc, .int .i64 xk, .int .i64 xn, .bool xcl, .int .i64 xb, .int .i64 xnw, .int .i64 xgr]) (.agg #[.int .u64 xu, .int .u64 xe, .int .i64 xr, .int .i64 xc, .int .i64 xk, .int .i64 xn, .bool xcl, .int .i64 xb, .int .i64 xnw, .int .i64 xgr])).run Try.prog w = .ok (.bool true) w := fun w => by
    have h := eq_sup' w ⟨xu, xe, xr, xc, xk, xn, xcl, xb, xnw, xgr⟩ ⟨xu, xe, xr, xc, xk, xn, xcl, xb, xnw, xgr⟩
    rw [(Sup.same_iff _ _).2 rfl] at h
    exact h
  have hb0 := (Below.refl W.heap.size W).drew
  generalize Sup.str ⟨u, e, r, c, k, n, cl, b', nw, gr⟩ = ST at *
  generalize Sup.err ⟨u, e, r, c, k, n, cl, b', nw, gr⟩ = SE at *
  clear hB hX hY HD HRD
  refine wp_region_nf (fun x => Below W.heap.size W x) (fun _ => false) ((List.range 20).map (fun i => (i, true)) ++ [(21, true), (20, false), (22, false), (23, true), (24, true), (25, true), (26, true), (28, true), (27, false), (29, false), (30, true), (31, true), (32, true)]) (by kernel_rfl) rfl (by kernel_rfl) (by kernel_rfl) (fun d _ _ _ _ h => by cases d <;> exact h) ?_
  repeat (refine nf_pure rfl hb0 (fun x hS => by have h1 := fun o => (hS.cell (p := ⟨w.heap.size, o, none⟩) hlB).trans (hqB o); have h2 := fun o => (hS.cell (p := ⟨w2.heap.size, o, none⟩) hlX).trans (hqX o); have h3 := fun o => (hS.cell (p := ⟨w4.heap.size, o, none⟩) hlY).trans (hqY o); clear hS; go_wp2; exact ⟨rfl, rfl, rfl⟩) rfl ?_ ?_; rfl)
  clear hqX hqY heq
  refine nf_imp rfl ?_
  go_wp2_with fail
  refine (may_any _ ⟨u, e, r, c, k, n, cl, b', nw, gr⟩ HW.out).mono ?_
  rintro e2 w5 ⟨rfl, hb5⟩
  replace hb0 := hb0.trans (hb5.mono hb0.size)
  clear hb5
  go_wp2_with fail
  refine ⟨fun _ => hb0, ?_⟩
  refine nf_imp rfl ?_
  go_wp2_with fail
  refine (refMay_any _ ⟨u, e, r, c, k, n, cl, b', nw, gr⟩ HW.out).mono ?_
  rintro e2 w5 ⟨rfl, hb5⟩
  replace hb0 := hb0.trans (hb5.mono hb0.size)
  clear hb5
  go_wp2_with fail
  refine ⟨fun _ => hb0, ?_⟩
  repeat (refine nf_pure rfl hb0 (fun x hS => by have h1 := fun o => (hS.cell (p := ⟨w.heap.size, o, none⟩) hlB).trans (hqB o); clear hS; go_wp2; exact ⟨rfl, rfl, rfl⟩) rfl ?_ ?_; rfl)
  refine nf_imp rfl ?_
  go_wp2_with fail
  refine (whole_any _ ⟨u, e, r, c, k, n, cl, b', nw, gr⟩ HW.out).mono ?_
  rintro e2 w5 ⟨rfl, hb5⟩
  replace hb0 := hb0.trans (hb5.mono hb0.size)
  clear hb5
  go_wp2_with fail
  refine ⟨fun _ => hb0, ?_⟩
  refine nf_imp rfl ?_
  go_wp2_with fail
  refine (refWhole_any _ ⟨u, e, r, c, k, n, cl, b', nw, gr⟩ HW.out).mono ?_
  rintro e2 w5 ⟨rfl, hb5⟩
  replace hb0 := hb0.trans (hb5.mono hb0.size)
  clear hb5
  go_wp2_with fail
  refine ⟨fun _ => hb0, ?_⟩
  repeat (refine nf_pure rfl hb0 (fun x hS => by have h1 := fun o => (hS.cell (p := ⟨w.heap.size, o, none⟩) hlB).trans (hqB o); clear hS; go_wp2; exact ⟨rfl, rfl, rfl⟩) rfl ?_ ?_; rfl)
  refine nf_nil ?_
  go_wp2_with fail
  go_ret
  exact ⟨rfl, hbe.trans (hb0.mono hbe.size)⟩
theorem superTells_walk (s : Sup) (b : ByteArray) (hs : s.wf) (_hb : b.size ≤ maxLen) (w : World) :
    Calls Try.prog 8 #[s.v, .string b] w fun e w' => e = .returned (.bool true) ∧ Below w.heap.size w w' := by
  by_cases h : 200 < b.size
  · exact superTells_big s b h w
  · exact superTells_small s hs b (by omega) w
end Go.Proofs.Ytfoflbbeckepoaa
