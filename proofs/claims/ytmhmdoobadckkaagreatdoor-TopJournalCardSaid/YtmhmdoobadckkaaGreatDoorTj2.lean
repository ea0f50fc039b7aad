/- Own texts, joined: Lay, Fn, Lay2, Lay3, DrvRd, DrvApp, DrvNew, DrvRead, DrvPut, DrvWr, DrvCh, Iter, Pack0. -/
import Derived.Test.YtmhmdoobadckkaaGreatDoorTj1
import Derived.LaidEqlPtr
import Derived.Maps.AppendAt
import Derived.Laws.OwnMore
import Derived.Deep.MidRow
import Derived.Great.BuildSlice
import Derived.Laws.CopyRow
import Derived.IntWalk
import Derived.Shelf.SlIterI.Nil
import Derived.Shelf.SortM.Plain
import Derived.Shelf.SortM.SortNone
import Derived.Ground.GgzProg
import Derived.Ground.SlgmProg
import Derived.Test.YtmhmdoobadckkaaGreatDoorProg
/- The layout's functions at a geometry that may be, at a row that is there. -/
namespace Go.Proofs.YtmhmdoobadckkaaGreatDoor
set_option maxRecDepth 20000
open Go.RowKit Go.OpenShut

/-- behind a call that only makes memory each old cell reads as before -/
theorem ocell {W w1 : World} (hb : Below W.heap.size W w1) : ∀ b o, b < W.heap.size → w1.cell? ⟨b, o, none⟩ = W.cell? ⟨b, o, none⟩ := fun b o h => hb.cell (p := ⟨b, o, none⟩) h
/-- a geometry as a value -/
def gV (n k r : Nat) : Value := .agg #[.int .i64 (n : Int), .int .i64 (k : Int), .int .i64 (r : Int)]
theorem geo_bd {n k r : Nat} (h : geoOK n k r = true) : 4 ≤ n ∧ n ≤ 10 ∧ 1 ≤ k ∧ k ≤ 4 ∧ 1 ≤ r ∧ r ≤ 256 := by
  have := (geoOK_iff _ _ _).1 h
  omega
/-- the box of a geometry, and of a plan of it -/
theorem geo_box (w : World) (n k r : Nat) : Below w.heap.size w ((w.alloc (.cells #[.int .i64 (n : Int), .int .i64 (k : Int), .int .i64 (r : Int)] 26)).alloc (.cells #[.int .i64 (n : Int), .int .i64 (k : Int), .int .i64 (r : Int)] 109)) :=
  ((Below.refl w.heap.size w).alloc (Nat.le_refl _) _).alloc (by simp) _
section
variable (w : World) (n k r : Nat) (hg : geoOK n k r = true)
include hg
theorem good_pl : Calls Tryz.prog 59 #[gV n k r] w fun e w' => e = .returned (.bool true) ∧ Below w.heap.size w w' := by
  have he : geoE n k r = 0 := by unfold geoE; rw [hg]; rfl
  have HE := Lib.hid he
  clear he
  unfold gV
  go_enter Tryz.func59, Tryz.ntmps59
  go_wp2_with (go_at_call 144; refine (check_any _ _ _ _).mono ?_; rintro e w' ⟨rfl, hb⟩; rw [HE.out])
  go_ret
  exact ⟨rfl, ((Below.refl _ _).alloc (Nat.le_refl _) _).trans (hb.mono (by simp))⟩
theorem in_pl (row m most : Int) (h : 0 ≤ row ∧ row < r ∧ 0 ≤ m ∧ m < most) :
    Calls Tryz.prog 122 #[gV n k r, .int .i64 row, .int .i64 m, .int .i64 most] w fun e w' => e = .returned (.bool true) ∧ Below w.heap.size w w' := by
  obtain ⟨h0, h1, h2, h3⟩ := h
  have HG := Lib.hid (good_pl · n k r hg)
  have HB := Lib.hid (Blk.new w 109 #[.int .i64 (n : Int), .int .i64 (k : Int), .int .i64 (r : Int)])
  have hb0 := (Below.refl w.heap.size w).alloc (Nat.le_refl _) (.cells #[.int .i64 (n : Int), .int .i64 (k : Int), .int .i64 (r : Int)] 109)
  unfold gV at *
  clear hg
  go_enter Tryz.func122, Tryz.ntmps122
  go_wp2_with (go_at_call 59; refine (HG.out _).mono ?_; rintro e w1 ⟨rfl, hb⟩; have hq := (HB.out.below hb (by simp)).cell 2)
  go_ret
  exact ⟨rfl, hb0.trans (hb.mono (by simp))⟩
theorem data_pl : Calls Tryz.prog 267 #[gV n k r] w fun e w' => e = .returned (.int .i64 ((n : Int) - 2)) ∧ Below w.heap.size w w' := by
  obtain ⟨h1, h2, _⟩ := geo_bd hg
  have h3 : (4 : Int) ≤ n := by omega
  have h4 : (n : Int) ≤ 10 := by omega
  unfold gV
  clear hg
  go_enter Tryz.func267, Tryz.ntmps267
  go_wp2_with fail
  go_ret
  exact ⟨rfl, (Below.refl _ _).alloc (Nat.le_refl _) _⟩
theorem first_pl (row : Nat) : Calls Tryz.prog 123 #[gV n k r, .int .i64 (row : Int)] w fun e w' => e = .returned (.int .i64 (lfirst n row : Int)) ∧ Below w.heap.size w w' := by
  obtain ⟨h1, h2, _, _, _, h5⟩ := geo_bd hg
  have e1 : ((row : Int)).tmod (n : Int) = ((row % n : Nat) : Int) := by rw [Int.tmod_eq_emod_of_nonneg (by omega)]; exact (Int.natCast_emod _ _).symm
  have hl := Nat.mod_lt row (show 0 < n by omega)
  obtain ⟨q, hq⟩ : ∃ q, row % n = q := ⟨_, rfl⟩
  rw [hq] at hl e1
  have e2 : (2 * (n : Int) - (q : Int)).tmod (n : Int) = (lfirst n row : Int) := by
    unfold lfirst
    rw [hq, Int.tmod_eq_emod_of_nonneg (by omega)]
    have : ((2 * n - q : Nat) : Int) = 2 * (n : Int) - q := by omega
    rw [← this]
    exact (Int.natCast_emod _ _).symm
  have h3 : (4 : Int) ≤ n := by omega
  have h4 : (n : Int) ≤ 10 := by omega
  have h6 : 0 ≤ (q : Int) := by omega
  have h7 : (q : Int) < 10 := by omega
  obtain ⟨L, hL⟩ : ∃ L, lfirst n row = L := ⟨_, rfl⟩
  rw [hL] at e2 ⊢
  unfold gV
  clear hg hq hL
  go_enter Tryz.func123, Tryz.ntmps123
  go_wp2_with fail
  go_quiet (fail)
  go_wp2_with fail
  go_ret
  exact ⟨rfl, below_drewN' ((Below.refl _ _).alloc (Nat.le_refl _) _) _⟩
set_option maxHeartbeats 1000000 in
theorem need_any : Calls Tryz.prog 18 #[gV n k r] w fun e w' => e = .returned (.int .i64 (4 + (r : Int) * k)) ∧ Below w.heap.size w w' := by
  obtain ⟨_, _, h1, h2, h3, h4⟩ := geo_bd hg
  have HG := Lib.hid (good_pl · n k r hg)
  have hm : 0 ≤ (r : Int) * k := by rw [← Int.natCast_mul]; omega
  have hm2 : (r : Int) * k ≤ 1024 := by rw [← Int.natCast_mul]; have := Nat.mul_le_mul h4 h2; omega
  have hb0 := Lib.hid (((Below.refl w.heap.size w).alloc (Nat.le_refl _) (.cells #[.int .i64 (n : Int), .int .i64 (k : Int), .int .i64 (r : Int)] 26)).alloc (by simp) (.cells #[.int .i64 (n : Int), .int .i64 (k : Int), .int .i64 (r : Int)] 109))
  unfold gV at *
  clear hg h1 h2 h3 h4
  go_enter Tryz.func18, Tryz.ntmps18
  go_wp2_with (go_at_call 59; refine (HG.out _).mono ?_; rintro e w1 ⟨rfl, hb⟩; have hc := ocell hb)
  go_ret
  exact ⟨rfl, hb0.out.trans (hb.mono (by simp; omega))⟩
set_option maxHeartbeats 1000000 in
theorem size_lay : Calls Tryz.prog 210 #[gV n k r] w fun e w' => e = .returned (.int .i64 ((r : Int) * k * ((n : Int) - 2))) ∧ Below w.heap.size w w' := by
  obtain ⟨hn1, hn2, h1, h2, h3, h4⟩ := geo_bd hg
  have HG := Lib.hid (good_pl · n k r hg)
  have HDt := Lib.hid (data_pl · n k r hg)
  have hm : 0 ≤ (r : Int) * k := by rw [← Int.natCast_mul]; omega
  have hm2 : (r : Int) * k ≤ 1024 := by rw [← Int.natCast_mul]; have := Nat.mul_le_mul h4 h2; omega
  have hm3 : 0 ≤ (r : Int) * k * ((n : Int) - 2) := Int.mul_nonneg hm (by omega)
  have hm4 : (r : Int) * k * ((n : Int) - 2) ≤ 10000 := by
    have := Int.mul_le_mul hm2 (show (n : Int) - 2 ≤ 8 by omega) (by omega) (by omega)
    omega
  have hb0 := Lib.hid (((Below.refl w.heap.size w).alloc (Nat.le_refl _) (.cells #[.int .i64 (n : Int), .int .i64 (k : Int), .int .i64 (r : Int)] 26)).alloc (by simp) (.cells #[.int .i64 (n : Int), .int .i64 (k : Int), .int .i64 (r : Int)] 109))
  unfold gV at *
  clear hg h1 h2 h3 h4 hn1 hn2
  go_enter Tryz.func210, Tryz.ntmps210
  go_wp2_with (first
    | (go_at_call 59; refine (HG.out _).mono ?_; rintro e w1 ⟨rfl, hb1⟩; have hc := ocell hb1))
  have hz : w.heap.size + 1 < w1.heap.size := by have := hb1.size; simp at this; omega
  have hnf := (Below.refl w1.heap.size w1).drew
  refine wp_region_nf (fun Y => Below w1.heap.size w1 Y) (fun _ => false) [(0, true), (1, true), (2, true), (3, true), (4, true), (5, true), (6, true), (7, true), (8, false), (9, true), (10, true)] (by kernel_rfl) rfl (by kernel_rfl) (by kernel_rfl) (fun d _ _ _ _ h => by cases d <;> exact h) ?_
  repeat (refine nf_pure rfl hnf (fun Y hY => by have hcY := ocell hY; clear hY; go_wp2; exact ⟨rfl, rfl, rfl⟩) rfl ?_ ?_; rfl)
  refine nf_imp rfl ?_
  go_wp2_with fail
  refine (HDt.out _).mono ?_; rintro e w2 ⟨rfl, hb⟩
  replace hnf := hnf.trans (hb.mono hnf.size)
  go_wp2_with fail
  refine ⟨fun _ => hnf, ?_⟩
  repeat (refine nf_pure rfl hnf (fun Y hY => by have hcY := ocell hY; clear hY; go_wp2; exact ⟨rfl, rfl, rfl⟩) rfl ?_ ?_; rfl)
  refine nf_nil ?_
  go_wp2_with fail
  go_ret
  exact ⟨rfl, (hb0.out.trans (hb1.mono (by simp; omega))).trans (hnf.mono (by omega))⟩
set_option maxHeartbeats 1000000 in
theorem parity_any (row : Nat) (hr : row < r) : Calls Tryz.prog 318 #[gV n k r, .int .i64 (row : Int)] w fun e w' => e = .returned (.tuple #[.int .i64 (lcol n row (n - 2) : Int), .int .i64 (lcol n row (n - 1) : Int)]) ∧ Below w.heap.size w w' := by
  obtain ⟨hn1, hn2, _, _, _, h5⟩ := geo_bd hg
  rw [lcol_p (by omega), lcol_q (by omega)]
  have hl := lfirst_lt row (show 0 < n by omega)
  have HI := Lib.hid (fun w => in_pl w n k r hg row 0 1 (by omega))
  have HF := Lib.hid (fun w => first_pl w n k r hg row)
  have hb0 := Lib.hid (geo_box w n k r)
  obtain ⟨L, hL⟩ : ∃ L, lfirst n row = L := ⟨_, rfl⟩
  rw [hL] at HF hl ⊢
  have e2 : ((L : Int) + (n : Int) - 1).tmod (n : Int) = (((L + n - 1) % n : Nat) : Int) := by
    rw [Int.tmod_eq_emod_of_nonneg (by omega)]
    have : ((L + n - 1 : Nat) : Int) = (L : Int) + (n : Int) - 1 := by omega
    rw [← this]
    exact (Int.natCast_emod _ _).symm
  have h3 : (4 : Int) ≤ n := by omega
  have h4 : (n : Int) ≤ 10 := by omega
  have h6 : 0 ≤ (L : Int) := by omega
  have h7 : (L : Int) < 10 := by omega
  generalize (L + n - 1) % n = q at *
  unfold gV at *
  clear hg hL
  go_enter Tryz.func318, Tryz.ntmps318
  go_wp2_with (first
    | (go_at_call 122; refine (HI.out _).mono ?_; rintro e w1 ⟨rfl, hb1⟩; have hc := ocell hb1; have hz : w.heap.size + 1 < w1.heap.size := (by have := hb1.size; simp at this; omega))
    | (go_at_call 123; refine (HF.out _).mono ?_; rintro e w2 ⟨rfl, hb2⟩; have hc2 := ocell hb2))
  go_ret2
  exact ⟨rfl, (hb0.out.trans (hb1.mono (by simp; omega))).trans (hb2.mono (by omega))⟩
set_option maxHeartbeats 1000000 in
theorem column_any (row i : Nat) (hr : row < r) (hi : i < n - 2) : Calls Tryz.prog 317 #[gV n k r, .int .i64 (row : Int), .int .i64 (i : Int)] w fun e w' => e = .returned (.int .i64 (lcol n row i : Int)) ∧ Below w.heap.size w w' := by
  obtain ⟨hn1, hn2, _, _, _, h5⟩ := geo_bd hg
  have hl := lfirst_lt row (show 0 < n by omega)
  have HI := Lib.hid (fun w => in_pl w n k r hg row i ((n : Int) - 2) (by omega))
  have HF := Lib.hid (fun w => first_pl w n k r hg row)
  have HDt := Lib.hid (data_pl · n k r hg)
  have hb0 := Lib.hid (geo_box w n k r)
  have e2 : ((lfirst n row : Int) + 1 + (i : Int)).tmod (n : Int) = (lcol n row i : Int) := by
    unfold lcol
    rw [Int.tmod_eq_emod_of_nonneg (by omega)]
    have : ((lfirst n row + 1 + i : Nat) : Int) = (lfirst n row : Int) + 1 + i := by omega
    rw [← this]
    exact (Int.natCast_emod _ _).symm
  obtain ⟨q, hq⟩ : ∃ q, lcol n row i = q := ⟨_, rfl⟩
  rw [hq] at e2 ⊢
  obtain ⟨L, hL⟩ : ∃ L, lfirst n row = L := ⟨_, rfl⟩
  rw [hL] at HF hl e2
  have h3 : (4 : Int) ≤ n := by omega
  have h4 : (n : Int) ≤ 10 := by omega
  have h6 : 0 ≤ (L : Int) := by omega
  have h7 : (L : Int) < 10 := by omega
  have h8 : 0 ≤ (i : Int) := by omega
  have h9 : (i : Int) < 10 := by omega
  unfold gV at *
  clear hg hL hq
  go_enter Tryz.func317, Tryz.ntmps317
  go_wp2_with fail
  generalize hW : (w.alloc _).alloc _ = W at *
  have hb0' : Below w.heap.size w W := by rw [← hW]; exact geo_box w n k r
  have hq0 : ∀ j, W.cell? ⟨w.heap.size + 1, j, none⟩ = #[Value.int .i64 (n : Int), .int .i64 (k : Int), .int .i64 (r : Int)][j]? := by rw [← hW]; exact (Blk.newAt (by simp)).cell
  have hz : w.heap.size + 1 < W.heap.size := by rw [← hW]; simp
  have HW := Lib.hid hW
  clear hW
  have hnf := (Below.refl W.heap.size W).drew
  refine wp_region_nf (fun Y => Below W.heap.size W Y) (fun _ => false) [(0, true), (1, true), (2, true), (3, true), (4, false), (5, false), (6, true)] (by kernel_rfl) rfl (by kernel_rfl) (by kernel_rfl) (fun d _ _ _ _ h => by cases d <;> exact h) ?_
  repeat (refine nf_pure rfl hnf (fun Y hY => by have hcY := ocell hY; clear hY; go_wp2; exact ⟨rfl, rfl, rfl⟩) rfl ?_ ?_; rfl)
  refine nf_imp rfl ?_
  go_wp2_with fail
  refine (HDt.out _).mono ?_; rintro e w2 ⟨rfl, hb⟩
  replace hnf := hnf.trans (hb.mono hnf.size)
  go_wp2_with fail
  refine ⟨fun _ => hnf, ?_⟩
  repeat (refine nf_pure rfl hnf (fun Y hY => by have hcY := ocell hY; clear hY; go_wp2; exact ⟨rfl, rfl, rfl⟩) rfl ?_ ?_; rfl)
  refine nf_imp rfl ?_
  go_wp2_with fail
  refine (HI.out _).mono ?_; rintro e w3 ⟨rfl, hb⟩
  replace hnf := hnf.trans (hb.mono hnf.size)
  go_wp2_with fail
  refine ⟨fun _ => hnf, ?_⟩
  repeat (refine nf_pure rfl hnf (fun Y hY => by have hcY := ocell hY; clear hY; go_wp2; exact ⟨rfl, rfl, rfl⟩) rfl ?_ ?_; rfl)
  refine nf_nil ?_
  go_wp2_with fail
  have hcW := ocell hnf
  have hz3 : w.heap.size + 1 < w3.heap.size := Nat.lt_of_lt_of_le hz hnf.size
  have HNF := Lib.hid hnf
  clear hnf
  have hnf := (Below.refl w3.heap.size w3).drew
  refine wp_region_nf (fun Y => Below w3.heap.size w3 Y) (fun _ => false) [(0, true), (1, true), (4, true), (6, true), (7, true), (8, true), (2, false), (3, true), (5, true), (9, true), (10, true)] (by kernel_rfl) rfl (by kernel_rfl) (by kernel_rfl) (fun d _ _ _ _ h => by cases d <;> exact h) ?_
  repeat (refine nf_pure rfl hnf (fun Y hY => by have hcY := ocell hY; clear hY; go_wp2; exact ⟨rfl, rfl, rfl⟩) rfl ?_ ?_; rfl)
  refine nf_imp rfl ?_
  go_wp2_with fail
  refine (HF.out _).mono ?_; rintro e w4 ⟨rfl, hb⟩
  replace hnf := hnf.trans (hb.mono hnf.size)
  go_wp2_with fail
  refine ⟨fun _ => hnf, ?_⟩
  repeat (refine nf_pure rfl hnf (fun Y hY => by have hcY := ocell hY; clear hY; go_wp2; exact ⟨rfl, rfl, rfl⟩) rfl ?_ ?_; rfl)
  refine nf_nil ?_
  go_wp2_with fail
  go_ret
  exact ⟨rfl, (hb0'.trans (HNF.out.mono (by omega))).trans (hnf.mono (by omega))⟩
end
end Go.Proofs.YtmhmdoobadckkaaGreatDoor
/- IndexFunc, ContainsFunc, Index, Contains of package slices at slices of drives. -/
namespace Go.Proofs.YtmhmdoobadckkaaGreatDoor
set_option maxRecDepth 20000
open Go.RowKit Go.OpenShut

/-- the index of the first element of a kind; -1: there is none -/
def idxB {α : Type} (p : α → Bool) : List α → Nat → Int
  | [], _ => -1
  | x :: l, k => if p x then (k : Int) else idxB p l (k + 1)
theorem idxB_none {α : Type} {p : α → Bool} : ∀ (l : List α) (k : Nat), (∀ x ∈ l, p x = false) → idxB p l k = -1
  | [], _, _ => rfl
  | x :: l, k, h => by simp [idxB, h x (by simp), idxB_none l (k + 1) (fun y hy => h y (by simp [hy]))]
theorem idxB_at {α : Type} {p : α → Bool} (d : α) : ∀ (l : List α) (k j : Nat), j < l.length → (∀ i, i < j → p (l.getD i d) = false) → p (l.getD j d) = true → idxB p l k = ((k + j : Nat) : Int)
  | [], _, j, h, _, _ => by simp at h
  | x :: l, k, 0, _, _, h => by
    have : p x = true := h
    simp [idxB, this]
  | x :: l, k, j + 1, h, h1, h2 => by
    have h0 : p x = false := h1 0 (by omega)
    have := idxB_at d l (k + 1) j (by simpa using h) (fun i hi => h1 (i + 1) (by omega)) h2
    simp only [idxB, h0, Bool.false_eq_true, if_false]
    rw [this]
    congr 1
    omega
theorem idxB_any {α : Type} {p : α → Bool} : ∀ (l : List α) (k : Nat), decide (idxB p l k ≥ 0) = l.any p
  | [], _ => rfl
  | x :: l, k => by
    cases e : p x
    · simp only [idxB, e, Bool.false_eq_true, if_false, List.any_cons, Bool.false_or]
      exact idxB_any l (k + 1)
    · simp only [idxB, e, if_true, List.any_cons, Bool.true_or]
      simp
set_option maxHeartbeats 1000000 in
theorem indexFuncD (w : World) (A : Option Addr) (n c : Nat) (ps : List (Option Nat)) (h : VA w (fun _ => False) A n (ps.map pv)) (hn : n ≤ 4294967295) (F : Nat) (lb : Array Value) (hF : ∀ args w, (callFunc F args).run Tryz.prog w = .ok (.enter F args) w) (f : Option Nat → Bool)
    (hf : ∀ W, Below w.heap.size w W → ∀ p ∈ ps, Calls Tryz.prog F (#[pv p] ++ lb) W fun e w' => e = .returned (.bool (f p)) ∧ Below W.heap.size W w') :
    Calls Tryz.prog 275 #[.slice A n c, .func (.func F) #[] lb] w fun e w' => e = .returned (.int .i64 (idxB f ps 0)) ∧ Below w.heap.size w w' := by
  have hl : ps.length = n := by have := h.1; simpa using this
  have HLn := Lib.hid hl
  have HF := Lib.hid hf
  have HV := Lib.hid h
  clear hl hf h
  go_enter Tryz.func275, Tryz.ntmps275
  go_wp2_with fail
  go_loopw [8] (fun i wr => ∃ k : Nat, k ≤ n ∧ i = .int .i64 k ∧ Below w.heap.size w wr ∧ ∀ j, j < k → f (ps.getD j none) = false) (fun i _ => n - (RowKit.intOf i).toNat)
  case atStart => exact ⟨0, by omega, rfl, Below.refl _ _, fun j hj => by omega⟩
  case round =>
    obtain ⟨k, hk, rfl, hbr, hall⟩ := hrel
    have HA := Lib.hid hall
    clear hall
    by_cases hlt : k < n
    · obtain ⟨b, off, rfl, _⟩ := HV.out.some_ (by omega)
      have hcell := (HV.out.below hbr).at_ hlt
      rw [getD_map pv ps k none (by rw [HLn.out]; exact hlt)] at hcell
      have hmem : ps.getD k none ∈ ps := by
        have : k < ps.length := by rw [HLn.out]; exact hlt
        simp [List.getD, this]
      have HC := Lib.hid (HF.out wr hbr _ hmem)
      obtain ⟨p, hp⟩ : ∃ p, ps.getD k none = p := ⟨_, rfl⟩
      rw [hp] at hcell HC
      have HP := Lib.hid hp
      clear hp hmem
      go_wp2_with fail
      refine HC.out.mono ?_
      rintro e w2 ⟨rfl, hb2⟩
      have hb3 := hbr.trans (hb2.mono hbr.size)
      clear hb2
      obtain ⟨q, hq⟩ : ∃ q, f p = q := ⟨_, rfl⟩
      rw [hq]
      have HQ := Lib.hid hq
      clear hq hcell
      cases q
      · go_wp2_with fail
        go_roundw
        case rel =>
          refine ⟨k + 1, by omega, by go_num, hb3, fun j hj => ?_⟩
          by_cases e : j = k
          · rw [e, HP.out]; exact HQ.out
          · exact HA.out j (by omega)
        case measure => simp [RowKit.intOf]; omega
      · go_wp2_with fail
        go_ret
        refine ⟨ret_i64 ?_, hb3⟩
        rw [idxB_at none ps 0 k (by rw [HLn.out]; exact hlt) HA.out (by rw [HP.out]; exact HQ.out)]
        simp
    · go_wp2_with fail
      go_ret
      refine ⟨ret_i64 ?_, hbr⟩
      rw [idxB_none ps 0 (fun x hx => ?_)]
      obtain ⟨j, hj, rfl⟩ := List.mem_iff_getElem.1 hx
      have := HA.out j (by have := HLn.out; omega)
      simpa [List.getD, hj] using this
theorem containsFuncD (w : World) (A : Option Addr) (n c : Nat) (ps : List (Option Nat)) (h : VA w (fun _ => False) A n (ps.map pv)) (hn : n ≤ 4294967295) (F : Nat) (lb : Array Value) (hF : ∀ args w, (callFunc F args).run Tryz.prog w = .ok (.enter F args) w) (f : Option Nat → Bool)
    (hf : ∀ W, Below w.heap.size w W → ∀ p ∈ ps, Calls Tryz.prog F (#[pv p] ++ lb) W fun e w' => e = .returned (.bool (f p)) ∧ Below W.heap.size W w') :
    Calls Tryz.prog 234 #[.slice A n c, .func (.func F) #[] lb] w fun e w' => e = .returned (.bool (ps.any f)) ∧ Below w.heap.size w w' := by
  have HI := Lib.hid (indexFuncD w A n c ps h hn F lb hF f hf)
  have HB := Lib.hid (idxB_any (p := f) ps 0)
  clear h hn hf hF
  generalize idxB f ps 0 = q at *
  go_enter Tryz.func234, Tryz.ntmps234
  go_wp2_with (go_at_call 275; refine HI.out.mono ?_; rintro e w1 ⟨rfl, hb⟩)
  go_ret
  exact ⟨by rw [← HB.out]; simp, hb⟩
def peq (p q : Option Nat) : Bool := decide (p = q)
theorem info_drv : ∃ j, Tryz.prog.info? 114 = some j ∧ j.size ≠ 0 := by
  have h : (Tryz.prog.info? 114).map (fun i => i.size) = some 6 := by kernel_rfl
  cases e : Tryz.prog.info? 114 with
  | none => rw [e] at h; cases h
  | some j => rw [e] at h; simp at h; exact ⟨j, rfl, by omega⟩
/-- a pointer to a drive that there is, or nil -/
def PIn (σ : Nat → Option Drv) (p : Option Nat) : Prop := ∀ g, p = some g → (σ g).isSome = true
theorem Dsk.blk_ {w : World} {σ : Nat → Option Drv} {R : Nat → Prop} (h : Dsk w σ R) {g : Nat} (hg : (σ g).isSome = true) : ∃ cs, w.heap[g]? = some (.cells cs 114 (0, 0)) := by
  obtain ⟨D, hD⟩ := Option.isSome_iff_exists.1 hg
  obtain ⟨fp, h1, _⟩ := h
  obtain ⟨s, m, p, wl, bl, lv, _, hd⟩ := (h1 g D hD).1
  exact ⟨_, hd.head⟩
theorem eql_pv {w : World} {σ : Nat → Option Drv} {R : Nat → Prop} (h : Dsk w σ R) {p q : Option Nat} (hp : PIn σ p) (hq : PIn σ q) : (binOp BinOp.eql 33 (pv p) (pv q)).run Tryz.prog w = .ok (.bool (peq p q)) w := by
  obtain ⟨j, hj, hj0⟩ := info_drv
  have hu := Tryz.underlying33
  cases p with
  | none =>
    have h1 : ∀ d : Nat, (Op.equalIn (d + 1) 33 (.pointer none) (pv q)).run Tryz.prog w = .ok (q.isNone) w := fun d => by
      cases q <;> simp [Op.equalIn, run_underlying hu, pv]
    show (binOp BinOp.eql 33 (.pointer none) (pv q)).run Tryz.prog w = _
    have e : peq none q = q.isNone := by unfold peq; cases q <;> simp
    rw [e]
    unfold pv at *
    simp only [binOp]
    simp [Op.equal, Op.maxDepth, h1 9999]
  | some g =>
    cases q with
    | none =>
      exact run_eql_pointer_nil w 33 (some ⟨g, 0, none⟩) hu
    | some g' =>
      by_cases e : g = g'
      · subst e
        have h1 := run_eql_ptr_same (P := Tryz.prog) w (tp := 33) ⟨g, 0, none⟩ hu hj
        have e2 : peq (some g) (some g) = true := by unfold peq; simp
        rw [e2]
        exact h1
      · obtain ⟨c1, h1⟩ := h.blk_ (hp g rfl)
        obtain ⟨c2, h2⟩ := h.blk_ (hq g' rfl)
        have h3 := run_eql_ptr_other (P := Tryz.prog) w (tp := 33) (a := ⟨g, 0, none⟩) (b := ⟨g', 0, none⟩) hu hj hj0 (fun h => e (Addr.mk.inj h).1) h1 h2
        have e2 : peq (some g) (some g') = false := by unfold peq; simp [e]
        rw [e2]
        exact h3
set_option maxHeartbeats 1000000 in
theorem indexD {σ : Nat → Option Drv} {R : Nat → Prop} (w : World) (hd : Dsk w σ R) (A : Option Addr) (n c : Nat) (ps : List (Option Nat)) (h : VA w (fun _ => False) A n (ps.map pv)) (hn : n ≤ 4294967295) (q : Option Nat) (hps : ∀ p ∈ ps, PIn σ p) (hq : PIn σ q) :
    Calls Tryz.prog 184 #[.slice A n c, pv q] w fun e w' => e = .returned (.int .i64 (idxB (peq q) ps 0)) ∧ w = w' := by
  have hl : ps.length = n := by have := h.1; simpa using this
  have HLn := Lib.hid hl
  have HV := Lib.hid h
  have HEq := Lib.hid (fun p (hp : p ∈ ps) => eql_pv hd hq (hps p hp))
  clear hl h hps hq hd
  go_enter Tryz.func184, Tryz.ntmps184
  go_wp2_with fail
  go_loop [8] (fun i => ∃ k : Nat, k ≤ n ∧ i = .int .i64 k ∧ ∀ j, j < k → peq q (ps.getD j none) = false) (fun i => n - (RowKit.intOf i).toNat)
  case atStart => exact ⟨0, by omega, rfl, fun j hj => by omega⟩
  case round =>
    obtain ⟨k, hk, rfl, hall⟩ := hrel
    have HA := Lib.hid hall
    clear hall
    by_cases hlt : k < n
    · obtain ⟨b, off, rfl, _⟩ := HV.out.some_ (by omega)
      have hcell := HV.out.at_ hlt
      rw [getD_map pv ps k none (by rw [HLn.out]; exact hlt)] at hcell
      have hmem : ps.getD k none ∈ ps := by
        have : k < ps.length := by rw [HLn.out]; exact hlt
        simp [List.getD, this]
      have heq := HEq.out _ hmem
      obtain ⟨p, hp⟩ : ∃ p, ps.getD k none = p := ⟨_, rfl⟩
      rw [hp] at hcell heq
      have HP := Lib.hid hp
      obtain ⟨z, hz⟩ : ∃ z, peq q p = z := ⟨_, rfl⟩
      rw [hz] at heq
      have HZ := Lib.hid hz
      have hgd : (eqGuard BinOp.eql 33 (.tmp 11) (.tmp 15) (pv q) (pv p)).run Tryz.prog w = .ok () w := by
        cases p <;> cases q <;> simp [pv, go_sem]
      clear hp hmem hz
      cases z
      · go_wp2_with fail
        go_round
        case rel =>
          refine ⟨k + 1, by omega, by go_num, fun j hj => ?_⟩
          by_cases e : j = k
          · rw [e, HP.out]; exact HZ.out
          · exact HA.out j (by omega)
        case measure => simp [RowKit.intOf]; omega
      · go_wp2_with fail
        go_ret
        refine ⟨ret_i64 ?_, rfl⟩
        rw [idxB_at none ps 0 k (by rw [HLn.out]; exact hlt) HA.out (by rw [HP.out]; exact HZ.out)]
        simp
    · go_wp2_with fail
      go_ret
      refine ⟨ret_i64 ?_, rfl⟩
      rw [idxB_none ps 0 (fun x hx => ?_)]
      obtain ⟨j, hj, rfl⟩ := List.mem_iff_getElem.1 hx
      have := HA.out j (by have := HLn.out; omega)
      simpa [List.getD, hj] using this
theorem containsD {σ : Nat → Option Drv} {R : Nat → Prop} (w : World) (hd : Dsk w σ R) (A : Option Addr) (n c : Nat) (ps : List (Option Nat)) (h : VA w (fun _ => False) A n (ps.map pv)) (hn : n ≤ 4294967295) (q : Option Nat) (hps : ∀ p ∈ ps, PIn σ p) (hq : PIn σ q) :
    Calls Tryz.prog 91 #[.slice A n c, pv q] w fun e w' => e = .returned (.bool (ps.any (peq q))) ∧ w = w' := by
  have HI := Lib.hid (indexD w hd A n c ps h hn q hps hq)
  have HB := Lib.hid (idxB_any (p := peq q) ps 0)
  clear h hn hps hq hd
  generalize idxB (peq q) ps 0 = x at *
  go_enter Tryz.func91, Tryz.ntmps91
  go_wp2_with (go_at_call 184; refine HI.out.mono ?_; rintro e w1 ⟨rfl, rfl⟩)
  go_ret
  exact ⟨by rw [← HB.out]; simp, rfl⟩
end Go.Proofs.YtmhmdoobadckkaaGreatDoor
/- The layout's functions, the other ones: Sector, Role, Rows. -/
namespace Go.Proofs.YtmhmdoobadckkaaGreatDoor
set_option maxRecDepth 20000
open Go.RowKit Go.OpenShut

section
variable (w : World) (n k r : Nat) (hg : geoOK n k r = true)
include hg
set_option maxHeartbeats 1000000 in
theorem sector_any (row off : Nat) (hr : row < r) (ho : off < k) : Calls Tryz.prog 37 #[gV n k r, .int .i64 (row : Int), .int .i64 (off : Int)] w fun e w' => e = .returned (.int .i64 (lsec k row off : Int)) ∧ Below w.heap.size w w' := by
  obtain ⟨hn1, hn2, hk1, hk2, hr1, hr2⟩ := geo_bd hg
  have HI := Lib.hid (fun w => in_pl w n k r hg row off k (by omega))
  have e2 : 4 + (k : Int) * (row : Int) + (off : Int) = (lsec k row off : Int) := by unfold lsec; push_cast; rfl
  have hm : 0 ≤ (k : Int) * (row : Int) := by rw [← Int.natCast_mul]; omega
  have hm2 : (k : Int) * (row : Int) ≤ 1024 := by rw [← Int.natCast_mul]; have := Nat.mul_le_mul hk2 (show row ≤ 256 by omega); omega
  have hn : ((n : Int) == 0) = false := beq_eq_false_iff_ne.2 (by omega)
  have h6 : 0 ≤ (off : Int) := by omega
  have h7 : (off : Int) < 5 := by omega
  have E2 := Lib.hid e2
  unfold gV at *
  clear hg hn1 hn2 hk1 hk2 hr1 hr2 e2
  go_enter Tryz.func37, Tryz.ntmps37
  go_wp2_with (go_at_call 122; refine (HI.out _).mono ?_; rintro e w1 ⟨rfl, hb1⟩; have hc := ocell hb1)
  go_ret
  exact ⟨ret_i64 E2.out, (geo_box w n k r).trans (hb1.mono (by simp; omega))⟩
set_option maxHeartbeats 1000000 in
theorem role_any (row c : Nat) (hr : row < r) (hc : c < n) : Calls Tryz.prog 38 #[gV n k r, .int .i64 (row : Int), .int .i64 (c : Int)] w fun e w' => e = .returned (.int .i64 (lrole n row c : Int)) ∧ Below w.heap.size w w' := by
  obtain ⟨hn1, hn2, hk1, hk2, hr1, hr2⟩ := geo_bd hg
  have hl := lfirst_lt row (show 0 < n by omega)
  have HI := Lib.hid (fun w => in_pl w n k r hg row c n (by omega))
  have HF := Lib.hid (fun w => first_pl w n k r hg row)
  have hb0 := geo_box w n k r
  have hq0 : ∀ j, ((w.alloc (.cells #[.int .i64 (n : Int), .int .i64 (k : Int), .int .i64 (r : Int)] 26)).alloc (.cells #[.int .i64 (n : Int), .int .i64 (k : Int), .int .i64 (r : Int)] 109)).cell? ⟨w.heap.size + 1, j, none⟩ = #[Value.int .i64 (n : Int), .int .i64 (k : Int), .int .i64 (r : Int)][j]? := (Blk.newAt (by simp)).cell
  have hz : w.heap.size + 1 < ((w.alloc (.cells #[.int .i64 (n : Int), .int .i64 (k : Int), .int .i64 (r : Int)] 26)).alloc (.cells #[.int .i64 (n : Int), .int .i64 (k : Int), .int .i64 (r : Int)] 109)).heap.size := by simp
  have e2 : ((c : Int) - (lfirst n row : Int) + (n : Int)).tmod (n : Int) = (((c + n - lfirst n row) % n : Nat) : Int) := by
    rw [Int.tmod_eq_emod_of_nonneg (by omega)]
    have : ((c + n - lfirst n row : Nat) : Int) = (c : Int) - (lfirst n row : Int) + (n : Int) := by omega
    rw [← this]
    exact (Int.natCast_emod _ _).symm
  have hlt := Nat.mod_lt (c + n - lfirst n row) (show 0 < n by omega)
  have hro : lrole n row c = if (c + n - lfirst n row) % n = 0 then n - 1 else (c + n - lfirst n row) % n - 1 := rfl
  rw [hro]
  obtain ⟨L, hL⟩ : ∃ L, lfirst n row = L := ⟨_, rfl⟩
  rw [hL] at HF hl e2 hlt ⊢
  obtain ⟨q, hq⟩ : ∃ q, (c + n - L) % n = q := ⟨_, rfl⟩
  rw [hq] at e2 hlt ⊢
  have h3 : (4 : Int) ≤ n := by omega
  have h4 : (n : Int) ≤ 10 := by omega
  have h6 : 0 ≤ (L : Int) := by omega
  have h7 : (L : Int) < 10 := by omega
  have h8 : 0 ≤ (c : Int) := by omega
  have h9 : (c : Int) < 10 := by omega
  have h10 : 0 ≤ (q : Int) := by omega
  have h11 : (q : Int) < 10 := by omega
  have HQL := Lib.hid hlt
  have HN := Lib.hid hn1
  unfold gV at *
  clear hg hL hq hro hl hn1 hn2 hk1 hk2 hr1 hr2 hr hlt hc
  go_enter Tryz.func38, Tryz.ntmps38
  go_wp2_with (go_at_call 122; refine (HI.out _).mono ?_; rintro e w1 ⟨rfl, hb1⟩; have hc := ocell hb1)
  have hz1 : w.heap.size + 1 < w1.heap.size := Nat.lt_of_lt_of_le hz hb1.size
  have hnf := (Below.refl w1.heap.size w1).drew
  refine wp_region_nf (fun Y => Below w1.heap.size w1 Y) (fun _ => false) [(0, true), (1, true), (2, true), (5, true), (6, true), (7, true), (9, true), (10, true), (11, true), (3, false), (4, true), (8, true), (12, true), (13, true)] (by kernel_rfl) rfl (by kernel_rfl) (by kernel_rfl) (fun d _ _ _ _ h => by cases d <;> exact h) ?_
  repeat (refine nf_pure rfl hnf (fun Y hY => by have hcY := ocell hY; clear hY; go_wp2; exact ⟨rfl, rfl, rfl⟩) rfl ?_ ?_; rfl)
  refine nf_imp rfl ?_
  go_wp2_with fail
  refine (HF.out _).mono ?_; rintro e w2 ⟨rfl, hb⟩
  replace hnf := hnf.trans (hb.mono hnf.size)
  go_wp2_with fail
  refine ⟨fun _ => hnf, ?_⟩
  repeat (refine nf_pure rfl hnf (fun Y hY => by have hcY := ocell hY; clear hY; go_wp2; exact ⟨rfl, rfl, rfl⟩) rfl ?_ ?_; rfl)
  refine nf_nil ?_
  have hb2 := Lib.hid ((hb0.trans (hb1.mono (by simp; omega))).trans (hnf.mono (by omega)))
  have hc2 := ocell hnf
  cases q with
  | zero =>
    have hbq : (((0 : Nat) : Int) == 0) = true := rfl
    go_wp2_with fail
    go_ret
    exact ⟨ret_i64 (by have := HN.out; omega), hb2.out⟩
  | succ q =>
    have hbq : (((q + 1 : Nat) : Int) == 0) = false := beq_eq_false_iff_ne.2 (by omega)
    go_wp2_with fail
    go_ret
    exact ⟨ret_i64 (by first | rfl | omega | (rw [if_neg (by omega)]; omega)), hb2.out⟩
end
set_option maxHeartbeats 1000000 in
theorem rows_any (w : World) (s k : Nat) (hk1 : 1 ≤ k) (hk2 : k ≤ 4) (hs : s ≤ 4096) : Calls Tryz.prog 92 #[.int .i64 (s : Int), .int .i64 (k : Int)] w fun e w' => e = .returned (.int .i64 ((min (s - 4) (256 * k) / k : Nat) : Int)) ∧ w = w' := by
  have h1 : (1 : Int) ≤ k := by omega
  have h2 : (k : Int) ≤ 4 := by omega
  have h3 : 0 ≤ (s : Int) := by omega
  have h4 : (s : Int) ≤ 4096 := by omega
  have e1 : min (max (s : Int) 4 - 4) (256 * (k : Int)) = ((min (s - 4) (256 * k) : Nat) : Int) := by omega
  have h5 : 0 ≤ max (s : Int) 4 - 4 := by omega
  have h6 : max (s : Int) 4 - 4 ≤ 4096 := by omega
  have h7 : 4 ≤ max (s : Int) 4 := by omega
  have h8 : max (s : Int) 4 ≤ 4096 := by omega
  have E := Lib.hid (show ((min (s - 4) (256 * k) : Nat) : Int) / (k : Int) = ((min (s - 4) (256 * k) / k : Nat) : Int) from (Int.natCast_ediv _ _).symm)
  have HQ := Lib.hid (show min (s - 4) (256 * k) / k ≤ 4096 from Nat.le_trans (Nat.div_le_self _ _) (by omega))
  clear hk1 hk2 hs
  go_enter Tryz.func92, Tryz.ntmps92
  go_wp2_with fail
  go_ret
  exact ⟨ret_i64 (by have hq := HQ.out; rw [E.out]; generalize min (s - 4) (256 * k) / k = q at *; unfold wrap64; omega), rfl⟩
end Go.Proofs.YtmhmdoobadckkaaGreatDoor
/- layout.Find at a sector that is there. -/
namespace Go.Proofs.YtmhmdoobadckkaaGreatDoor
set_option maxRecDepth 20000
open Go.RowKit Go.OpenShut

set_option maxHeartbeats 2000000 in
theorem find_any (w : World) (n k r : Nat) (hg : geoOK n k r = true) (s : Nat) (hs : s < r * k * (n - 2)) :
    Calls Tryz.prog 193 #[gV n k r, .int .i64 (s : Int)] w fun e w' => e = .returned (.tuple #[.int .i64 (fRow n k s : Int), .int .i64 (fI n k s : Int), .int .i64 (fOff k s : Int), .int .i64 0]) ∧ Below w.heap.size w w' := by
  obtain ⟨hn1, hn2, hk1, hk2, hr1, hr2⟩ := geo_bd hg
  have HG := Lib.hid (good_pl · n k r hg)
  have HSz := Lib.hid (size_lay · n k r hg)
  have HDt := Lib.hid (data_pl · n k r hg)
  have hm : s < 10000 := by
    have h1 : r * k ≤ 256 * 4 := Nat.mul_le_mul hr2 hk2
    have h2 : r * k * (n - 2) ≤ 256 * 4 * 8 := Nat.mul_le_mul h1 (by omega)
    omega
  have hle : ¬ (s : Int) ≥ (r : Int) * k * ((n : Int) - 2) := by
    have e : ((r * k * (n - 2) : Nat) : Int) = (r : Int) * k * ((n : Int) - 2) := by
      rw [Int.natCast_mul, Int.natCast_mul, Int.natCast_sub (by omega)]
      rfl
    rw [← e]
    omega
  obtain ⟨Z, hZ⟩ : ∃ Z, (r : Int) * k * ((n : Int) - 2) = Z := ⟨_, rfl⟩
  rw [hZ] at HSz hle
  have hle' : (s : Int) < Z := by omega
  have h0 : ¬ (s : Int) < 0 := by omega
  have e1 : (s : Int) % (k : Int) = (fOff k s : Int) := (Int.natCast_emod _ _).symm
  have e2 : (s : Int) / (k : Int) = ((s / k : Nat) : Int) := (Int.natCast_ediv _ _).symm
  have e5 : (n : Int) - 2 = ((n - 2 : Nat) : Int) := by omega
  have e3 : ((s / k : Nat) : Int) / ((n - 2 : Nat) : Int) = (fRow n k s : Int) := (Int.natCast_ediv _ _).symm
  have e4 : ((s / k : Nat) : Int) % ((n - 2 : Nat) : Int) = (fI n k s : Int) := (Int.natCast_emod _ _).symm
  have hq : s / k ≤ s := Nat.div_le_self _ _
  have hf1 : fRow n k s ≤ s / k := Nat.div_le_self _ _
  rw [e5] at HDt
  generalize fOff k s = x1 at *
  generalize fRow n k s = x2 at *
  generalize fI n k s = x3 at *
  obtain ⟨Q, hQ⟩ : ∃ Q, s / k = Q := ⟨_, rfl⟩
  rw [hQ] at e2 e3 e4 hq hf1
  obtain ⟨m, hme⟩ : ∃ m, n - 2 = m := ⟨_, rfl⟩
  rw [hme] at e3 e4 HDt
  have b1 : (1 : Int) ≤ k := by omega
  have b2 : (k : Int) ≤ 4 := by omega
  have b3 : (1 : Int) ≤ m := by omega
  have b4 : (m : Int) ≤ 8 := by omega
  have b5 : 0 ≤ (Q : Int) := by omega
  have b6 : (Q : Int) ≤ 10000 := by omega
  have b7 : 0 ≤ (s : Int) := by omega
  have b8 : (s : Int) ≤ 10000 := by omega
  have b9 : 0 ≤ (x2 : Int) := by omega
  have b10 : (x2 : Int) ≤ 10000 := by omega
  have hb0 := geo_box w n k r
  have hq0 : ∀ j, ((w.alloc (.cells #[.int .i64 (n : Int), .int .i64 (k : Int), .int .i64 (r : Int)] 26)).alloc (.cells #[.int .i64 (n : Int), .int .i64 (k : Int), .int .i64 (r : Int)] 109)).cell? ⟨w.heap.size + 1, j, none⟩ = #[Value.int .i64 (n : Int), .int .i64 (k : Int), .int .i64 (r : Int)][j]? := (Blk.newAt (by simp)).cell
  have hz : w.heap.size + 1 < ((w.alloc (.cells #[.int .i64 (n : Int), .int .i64 (k : Int), .int .i64 (r : Int)] 26)).alloc (.cells #[.int .i64 (n : Int), .int .i64 (k : Int), .int .i64 (r : Int)] 109)).heap.size := by simp
  unfold gV at *
  clear hg hs hm hle hZ e5 hQ hme hn1 hn2 hk1 hk2 hr1 hr2 hq hf1
  have E5 := Lib.hid e3
  go_enter Tryz.func193, Tryz.ntmps193
  go_wp2_with (first
    | (go_at_call 59; refine (HG.out _).mono ?_; rintro e w1 ⟨rfl, hb1⟩; have hc := ocell hb1; have hz1 := Nat.lt_of_lt_of_le hz hb1.size)
    | (go_at_call 210; refine (HSz.out _).mono ?_; rintro e w2 ⟨rfl, hb2⟩; have hc2 := ocell hb2; have hz2 := Nat.lt_of_lt_of_le hz1 hb2.size))
  have hbw := (hb0.trans (hb1.mono (by simp; omega))).trans (hb2.mono (by omega))
  have HBW := Lib.hid hbw
  clear hbw hb0 hb1 hb2
  have hnf := (Below.refl w2.heap.size w2).drew
  refine wp_region_nf (fun Y => Below w2.heap.size w2 Y) (fun _ => false) [(0, true), (1, true), (4, true), (5, true), (2, false), (3, true), (6, false), (7, true), (8, true), (9, true)] (by kernel_rfl) rfl (by kernel_rfl) (by kernel_rfl) (fun d _ _ _ _ h => by cases d <;> exact h) ?_
  repeat (refine nf_pure rfl hnf (fun Y hY => by have hcY := ocell hY; clear hY; go_wp2; exact ⟨rfl, rfl, rfl⟩) rfl ?_ ?_; rfl)
  refine nf_imp rfl ?_
  go_wp2_with fail
  refine (HDt.out _).mono ?_; rintro e w3 ⟨rfl, hb⟩
  replace hnf := hnf.trans (hb.mono hnf.size)
  go_wp2_with fail
  refine ⟨fun _ => hnf, ?_⟩
  clear hb
  repeat (refine nf_pure rfl hnf (fun Y hY => by have hcY := ocell hY; clear hY; go_wp2; exact ⟨rfl, rfl, rfl⟩) rfl ?_ ?_; rfl)
  refine nf_imp rfl ?_
  go_wp2_with fail
  refine (HDt.out _).mono ?_; rintro e w4 ⟨rfl, hb⟩
  replace hnf := hnf.trans (hb.mono hnf.size)
  go_wp2_with fail
  refine ⟨fun _ => hnf, ?_⟩
  clear hb
  repeat (refine nf_pure rfl hnf (fun Y hY => by have hcY := ocell hY; clear hY; go_wp2; exact ⟨rfl, rfl, rfl⟩) rfl ?_ ?_; rfl)
  refine nf_nil ?_
  go_wp2_with fail
  exact bodyPost_ret (v := .tuple #[.int .i64 (x2 : Int), .int .i64 (x3 : Int), .int .i64 (x1 : Int), .int .i64 0]) (by simp [results, Tryz.results193, go_sem]) rfl ⟨rfl, HBW.out.trans (hnf.mono (by omega))⟩
end Go.Proofs.YtmhmdoobadckkaaGreatDoor
/- What a drive tells of itself: Dead, Sectors, off, may, Safe, Read. -/
namespace Go.Proofs.YtmhmdoobadckkaaGreatDoor
set_option maxRecDepth 20000
open Go.RowKit Go.OpenShut

theorem DrvAt.blk {w : World} {g : Nat} {D : Drv} {fp : List Nat} (h : DrvAt w g D fp) : ∃ (s m p : Nat) (lv : Int), (∀ k : Nat, D.lim = some k → lv = k) ∧ Blk w g 114 #[.slice (some ⟨s, 0, none⟩) D.safe.length D.safe.length, .map (some m), .map (some p), .bool D.dead, .int .i64 lv, .bool D.lim.isSome] := by
  obtain ⟨s, m, p, wl, bl, lv, _, h⟩ := h
  exact ⟨s, m, p, lv, h.left, h.head⟩
theorem Dsk.at_ {w : World} {σ : Nat → Option Drv} {R : Nat → Prop} (h : Dsk w σ R) {g : Nat} {D : Drv} (hg : σ g = some D) : ∃ fp, DrvAt w g D fp := by
  obtain ⟨fp, h1, _⟩ := h
  exact ⟨_, (h1 g D hg).1⟩
section
variable (w : World) (g : Nat) (D : Drv) (fp : List Nat) (h : DrvAt w g D fp)
include h
theorem dead_any : Calls Tryz.prog 55 #[.pointer (some ⟨g, 0, none⟩)] w fun e w' => e = .returned (.bool D.dead) ∧ w = w' := by
  obtain ⟨s, m, p, lv, _, hb⟩ := h.blk
  have hq := hb.cell
  go_enter Tryz.func55, Tryz.ntmps55
  go_wp2_with fail
  go_ret
  exact ⟨rfl, rfl⟩
theorem sectors_any : Calls Tryz.prog 49 #[.pointer (some ⟨g, 0, none⟩)] w fun e w' => e = .returned (.int .i64 (D.n : Int)) ∧ w = w' := by
  obtain ⟨s, m, p, lv, _, hb⟩ := h.blk
  have hq := hb.cell
  go_enter Tryz.func49, Tryz.ntmps49
  go_wp2_with fail
  go_ret
  exact ⟨rfl, rfl⟩
theorem off_any : Calls Tryz.prog 154 #[.pointer (some ⟨g, 0, none⟩)] w fun e w' => e = .returned (.bool D.off) ∧ w = w' := by
  obtain ⟨s, m, p, lv, hl, hb⟩ := h.blk
  have hq := hb.cell
  unfold Drv.off
  obtain ⟨sf, wr_, sp, dd, lm⟩ := D
  dsimp only at hq hl ⊢
  cases lm with
  | none =>
    clear hl
    go_enter Tryz.func154, Tryz.ntmps154
    go_wp2_with fail
    go_ret
    exact ⟨rfl, rfl⟩
  | some k =>
    obtain rfl := hl k rfl
    clear hl
    cases k with
    | zero =>
      go_enter Tryz.func154, Tryz.ntmps154
      go_wp2_with fail
      go_ret
      exact ⟨rfl, rfl⟩
    | succ k =>
      have hk : (((k + 1 : Nat) : Int) == 0) = false := beq_eq_false_iff_ne.2 (by omega)
      go_enter Tryz.func154, Tryz.ntmps154
      go_wp2_with fail
      go_ret
      exact ⟨by first | rfl | simp [hk], rfl⟩
set_option maxHeartbeats 1000000 in
theorem may_drv (i : Int) : Calls Tryz.prog 121 #[.pointer (some ⟨g, 0, none⟩), .int .i64 i] w fun e w' => e = .returned (.int .i64 (D.may i)) ∧ w = w' := by
  have HO := Lib.hid (off_any w g D fp h)
  obtain ⟨s, m, p, lv, _, hb⟩ := h.blk
  have hq := hb.cell
  unfold Drv.may
  unfold Drv.n
  generalize D.off = o at *
  generalize D.safe.length = n at *
  generalize D.dead = dd at *
  generalize D.lim.isSome = ls at *
  clear h
  by_cases h1 : i < 0
  · cases dd <;> cases o
    all_goals
      go_enter Tryz.func121, Tryz.ntmps121
      go_wp2_with (go_at_call 154; refine HO.out.mono ?_; rintro e w' ⟨rfl, rfl⟩)
      go_ret
      exact ⟨by first | rfl | simp | simp [h1], rfl⟩
  · by_cases h2 : i ≥ (n : Int)
    · cases dd <;> cases o
      all_goals
        go_enter Tryz.func121, Tryz.ntmps121
        go_wp2_with (go_at_call 154; refine HO.out.mono ?_; rintro e w' ⟨rfl, rfl⟩)
        go_ret
        exact ⟨by first | rfl | simp | simp [h2], rfl⟩
    · cases dd <;> cases o
      all_goals
        go_enter Tryz.func121, Tryz.ntmps121
        go_wp2_with (go_at_call 154; refine HO.out.mono ?_; rintro e w' ⟨rfl, rfl⟩)
        go_ret
        exact ⟨by first | rfl | simp | simp [h1, h2], rfl⟩
end
end Go.Proofs.YtmhmdoobadckkaaGreatDoor
/- A sector appended to the pending ones of its number. -/
namespace Go.Proofs.YtmhmdoobadckkaaGreatDoor
set_option maxRecDepth 20000
open Go.RowKit Go.OpenShut

theorem info_sec : (Tryz.prog.info? 183).map (fun i => (i.zero, i.size, i.bytes)) = some (some (.agg (bcs sec0.data.toList).toArray), 64, 64) := by kernel_rfl
/-- a sector as a value -/
def secV (s : Sec) : Value := .agg (bcs s.data.toList).toArray
theorem wp_appSec {w : World} {ops : Array Oper} {rest : List Oper} {o : Oper} {a : Act} {Q : Exit → Act → World → Prop} (hgd : o.guard = none) (s x : Operand)
    (ho : o.op = .call { callee := .builtin .append, args := #[s, x], argTypes := #[110, 110] })
    (v : Value) (l : List Sec) (hown : w.ownsRow 0 183 64 v l.length (scs l)) (hs : a.eval s = v) (g : Nat) (c : Nat) (b : Sec) (hx : a.eval x = .slice (some ⟨g, 0, none⟩) 1 c) (hc : Blk w g 183 (bcs b.data.toList).toArray) (hb : b.size = 64)
    (hlen : l.length ≤ 65536)
    (h : ∀ v' b' w', PendAt w' v' b' (l ++ [b]) → w.grownBy w' v.ownBlock → (v.ownBlock = some b' ∨ b' = w.heap.size) → wpList Tryz.prog ops Q rest (a.put o.dst v') w') : wpList Tryz.prog ops Q (o :: rest) a w := by
  obtain ⟨i0, hi, hz0, hz1, hz2⟩ := info_parts info_sec
  have hbl : (bcs b.data.toList).length = 64 := by rw [bcs_len, sec_len, hb]
  refine wpList_append_own_at _ hgd s x 110 ho 0 183 i0 _ 64 64 Tryz.underlying110 hi hz0 hz1 hz2 rfl (by decide) v l.length (scs l) hs hown ⟨g, 0, none⟩ 1 c (bcs b.data.toList) hx (by rw [hbl]) ?_ (bcs_one _) (by unfold maxLen; omega) (by omega) (Nat.zero_le _) ?_
  · intro j u hj
    have e : (⟨g, 0, none⟩ : Addr).add j = ⟨g, j, none⟩ := by unfold Addr.add; split <;> simp_all
    rw [e, hc.cell]
    simpa using hj
  · intro v' w' h1 h2 _ h3
    have e : scs (l ++ [b]) = scs l ++ bcs b.data.toList := by simp [scs]
    rcases h1.2 with ⟨_, h0⟩ | ⟨b', cap, cur, rfl, r⟩
    · omega
    · refine h _ b' w' ⟨⟨by rw [e, show (l ++ [b]).length = l.length + 1 by simp]; exact h1.1, ?_⟩, rfl⟩ h2 ?_
      · rw [e, show (l ++ [b]).length = l.length + 1 by simp]
        exact Or.inr ⟨b', cap, cur, rfl, r⟩
      · rcases h3 with h3 | h3
        · exact Or.inl h3.symm
        · right
          simpa [Value.ownBlock] using h3
end Go.Proofs.YtmhmdoobadckkaaGreatDoor
/- A new drive. -/
namespace Go.Proofs.YtmhmdoobadckkaaGreatDoor
set_option maxRecDepth 20000
open Go.RowKit Go.OpenShut

theorem made_secs (n : Nat) : madeCells (bcs sec0.data.toList).toArray (n * 64) = (scs (List.replicate n sec0)).toArray := by
  have e : ∀ n : Nat, scs (List.replicate n sec0) = List.replicate (n * 64) (.int .u8 0) := fun n => by
    induction n with
    | zero => rfl
    | succ n ih =>
      rw [List.replicate_succ, scs_cons, ih, Nat.succ_mul, Nat.add_comm]
      exact (List.replicate_append_replicate (n := 64) (m := n * 64)).trans rfl
  rw [e]
  have hs : ((bcs sec0.data.toList).toArray).size = 64 := rfl
  have ez : ∀ j, j < 64 → (bcs sec0.data.toList)[j]? = some (.int .u8 0) := fun j hj => by
    have : bcs sec0.data.toList = List.replicate 64 (.int .u8 0) := rfl
    rw [this, List.getElem?_replicate, if_pos hj]
  apply Array.ext
  · simp [madeCells]
  · intro i h1 h2
    simp only [madeCells, hs, Array.getElem_map, Array.getElem_range, List.getElem_toArray, List.getElem_replicate]
    have h3 : i % 64 < 64 := Nat.mod_lt _ (by omega)
    rw [getElem!_pos (bcs sec0.data.toList).toArray (i % 64) (by rw [hs]; exact h3)]
    have h4 := ez _ h3
    rw [List.getElem?_eq_some_iff] at h4
    exact h4.2
theorem mapB_new {w : World} {g : Nat} (h : w.heap.size = g) : MapB (w.alloc (.map #[] 0)) g [] := h ▸ ⟨#[], 0, heap_alloc_new w _, rfl, MapKept.stamped_empty 0⟩
theorem MapB.alloc {w : World} {r : Nat} {l : List (Int × Value)} (h : MapB w r l) (o : Obj) : MapB (w.alloc o) r l := h.old (Below.heap_alloc w o r h.lt)
set_option maxHeartbeats 1000000 in
theorem new_none (w : World) (n : Int) (h1 : n < 1 ∨ n > 4096) :
    Calls Tryz.prog 19 #[.int .i64 n] w fun e w' => e = .returned (.pointer none) ∧ w = w' := by
  by_cases h1 : n < 1
  · go_enter Tryz.func19, Tryz.ntmps19
    go_wp2_with fail
    go_ret
    exact ⟨rfl, rfl⟩
  · have h2 : n > 4096 := by omega
    go_enter Tryz.func19, Tryz.ntmps19
    go_wp2_with fail
    go_ret
    exact ⟨rfl, rfl⟩
/-- a new drive at block g -/
def MadeDrv (w : World) (n : Nat) (e : Ending) (w' : World) : Prop := ∃ g fp, e = .returned (.pointer (some ⟨g, 0, none⟩)) ∧ DrvAt w' g (Drv.new n) fp ∧ Below w.heap.size w w' ∧ ∀ b ∈ fp, w.heap.size ≤ b
set_option maxHeartbeats 1000000 in
theorem new_drv (w : World) (n : Nat) (h1 : 1 ≤ n) (h2 : n ≤ 4096) :
    Calls Tryz.prog 19 #[.int .i64 (n : Int)] w (MadeDrv w n) := by
  obtain ⟨i0, hi, hz0, hz1, hz2⟩ := info_parts info_sec
  have hr := run_make (P := Tryz.prog) w 110 183 i0 _ Tryz.underlying110 hi hz0 .i64 .i64 (n : Int) (n : Int) (by omega) (by omega) (by rw [hz2]; omega) (by omega)
  rw [hz1, show (Value.agg (bcs sec0.data.toList).toArray).cells = (bcs sec0.data.toList).toArray from rfl, Int.toNat_natCast, made_secs] at hr
  have hn1 : ¬ (n : Int) < 1 := by omega
  have hn2 : ¬ (n : Int) > 4096 := by omega
  have hmm := @run_makeMap Tryz.prog
  go_enter Tryz.func19, Tryz.ntmps19
  go_wp2_with fail
  go_ret
  generalize ho : (scs (List.replicate n sec0)).toArray = S
  have hb := ((((Below.refl w.heap.size w).alloc (Nat.le_refl _) (.cells S 183)).alloc (by simp) (.map #[] 0)).alloc (by simp; omega) (.map #[] 0)).alloc (by simp; omega) (.cells #[.slice (some ⟨w.heap.size, 0, none⟩) n n, .map (some (w.heap.size + 1)), .map (some (w.heap.size + 1 + 1)), .bool false, .int .i64 0, .bool false] 114)
  refine ⟨w.heap.size + 1 + 1 + 1, [w.heap.size + 1 + 1 + 1, w.heap.size, w.heap.size + 1, w.heap.size + 1 + 1], rfl, ⟨w.heap.size, w.heap.size + 1, w.heap.size + 1 + 1, [], [], 0, rfl, ?_⟩, hb, ?_⟩
  · have e : (Drv.new n).safe.length = n := by simp [Drv.new]
    refine ⟨?_, fun k hk => (by cases hk), ?_, ?_, .nil, ?_, ?_, Drv.new_wf n h2⟩
    · rw [e]
      exact Blk.newAt (by simp)
    · show Blk _ _ _ (scs (List.replicate n sec0)).toArray
      rw [ho]
      exact (((Blk.new w _ S).alloc _).alloc _).alloc _
    · exact ((mapB_new (by simp)).alloc _).alloc _
    · exact (mapB_new (by simp)).alloc _
    · simp
      omega
  · intro b hb
    simp at hb
    omega
end Go.Proofs.YtmhmdoobadckkaaGreatDoor
/- Reading a sector of a drive. -/
namespace Go.Proofs.YtmhmdoobadckkaaGreatDoor
set_option maxRecDepth 20000
open Go.RowKit Go.OpenShut

theorem mfind_sp (l : List Int) (i : Int) : mfind (l.map fun j => (j, Value.bool true)) i = if i ∈ l then some (.bool true) else none := by
  induction l with
  | nil => rfl
  | cons a l ih =>
    by_cases e : i = a
    · simp [mfind, e]
    · simp [mfind, e, ih]
theorem zero_secs (w : World) : (zeroValue 110).run Tryz.prog w = .ok (.slice none 0 0) w := by kernel_rfl
theorem zero_bool (w : World) : (zeroValue 4).run Tryz.prog w = .ok (.bool false) w := by kernel_rfl
section
variable {w : World} {g : Nat} {D : Drv} {s m p : Nat} {wl : List (Int × Value)} {bl : List Nat} {lv : Int}
theorem DrvMem.look (h : DrvMem w g D s m p wl bl lv) (i : Int) : ∃ v, (Instr.lookup 111 (.map (some m)) (.int .i64 i) false).run Tryz.prog w = .ok v w ∧
    w.ownsRow 0 183 64 v (D.pend i).length (scs (D.pend i)) ∧ (∀ b, v.ownBlock = some b → b ∈ bl) ∧ ((D.pend i ≠ []) → ∃ b, PendAt w v b (D.pend i)) ∧ (D.pend i = [] → v = .slice none 0 0) := by
  have hl := lookup_ints (P := Tryz.prog) Tryz.underlying111 Tryz.underlying3 zero_secs h.map i
  rcases h.pends.find i with ⟨a1, a2⟩ | ⟨v, b, l, a1, a2, a3, a4⟩
  · rw [a1] at hl
    refine ⟨_, hl, ?_⟩
    have e : D.pend i = [] := by unfold Drv.pend; rw [a2]; rfl
    rw [e]
    exact ⟨World.ownsRow_nil w 0 _ _, fun b hb => by simp [Value.ownBlock] at hb, fun h => absurd rfl h, fun _ => rfl⟩
  · rw [a1] at hl
    refine ⟨_, hl, ?_⟩
    have e : D.pend i = l := by unfold Drv.pend; rw [a2]; rfl
    rw [e]
    refine ⟨a4.1, fun b' hb => by rw [Option.getD_some, a4.2] at hb; cases hb; exact a3, fun _ => ⟨b, a4⟩, fun e' => ?_⟩
    exact absurd e' (h.wf.pend _ (mfind_mem a2)).1
theorem DrvMem.spLook (h : DrvMem w g D s m p wl bl lv) (i : Int) : (Instr.lookup 112 (.map (some p)) (.int .i64 i) false).run Tryz.prog w = .ok (.bool (decide (i ∈ D.spoilt))) w := by
  have hl := lookup_ints (P := Tryz.prog) Tryz.underlying112 Tryz.underlying3 zero_bool h.spoilt i
  rw [mfind_sp] at hl
  rw [hl]
  by_cases e : i ∈ D.spoilt <;> simp [e]
theorem row_conv {w : World} {b : Nat} {l : List Sec} {cur : Array Value} (hl : ∀ x ∈ l, x.size = 64) (h : ∃ fz, w.heap[b]? = some (.cells cur 183 fz)) (ht : cur.toList.take (l.length * 64) = scs l) (k : Nat) (hk : k < l.length) (c : Nat) :
    (convert 62 9 (.slice (some ⟨b, k * 64, none⟩) 64 c)).run Tryz.prog w = .ok (.string (l[k])) w := by
  have hs : (l[k]).data.toList.length = 64 := by rw [sec_len]; exact hl _ (List.getElem_mem hk)
  obtain ⟨fz, h⟩ := h
  have hc := conv_cells (w := w) (b := b) (off := k * 64) (cap := c) (l := (l[k]).data.toList) (fun i hi => by
    rw [cell_of_row w b _ cur _ fz h]
    have e1 := scs_get l hl k i hk (by omega)
    have e2 : (cur.toList.take (l.length * 64))[k * 64 + i]? = cur[k * 64 + i]? := by
      rw [List.getElem?_take_of_lt (by omega)]
      simp
    rw [← e2, ht, e1]
    exact bcs_get hi)
  rw [hs] at hc
  rw [hc]
end
/-- what reading gives -/
theorem ret_sec {a b : Sec} {x y : Int} (h1 : a = b) (h2 : x = y) : Ending.returned (.tuple #[.string a, .int .i64 x]) = .returned (.tuple #[.string b, .int .i64 y]) := by rw [h1, h2]
set_option maxHeartbeats 1000000 in
theorem read_any (w : World) (g : Nat) (D : Drv) (fp : List Nat) (h : DrvAt w g D fp) (i : Int) :
    Calls Tryz.prog 36 #[.pointer (some ⟨g, 0, none⟩), .int .i64 i] w fun e w' => e = .returned (.tuple #[.string (D.readS i), .int .i64 (D.readE i)]) ∧ w = w' := by
  have HM := Lib.hid (may_drv w g D fp h i)
  obtain ⟨s, m, p, wl, bl, lv, _, hd⟩ := h
  have hq := hd.head.cell
  obtain ⟨v, hlk, how, _, hpe, hnil⟩ := hd.look i
  have hsp := hd.spLook i
  have HW := Lib.hid hd.wf
  have HSec := Lib.hid hd.secs
  have HOW := Lib.hid how
  have HPE := Lib.hid hpe
  have HNIL := Lib.hid hnil
  have H0 := Lib.hid (show D.may i ≠ 0 → D.readE i = D.may i ∧ D.readS i = ⟨#[]⟩ from fun h0 => by
    have e : D.readE i = D.may i := by unfold Drv.readE; rw [if_pos h0]
    exact ⟨e, by unfold Drv.readS; rw [if_neg (by rw [e]; exact h0)]⟩)
  have H1 := Lib.hid (show D.may i = 0 → i ∈ D.spoilt → D.readE i = 41 ∧ D.readS i = ⟨#[]⟩ from fun h0 h1 => by
    have e : D.readE i = 41 := by unfold Drv.readE; rw [if_neg (by simp [h0]), if_pos h1]
    exact ⟨e, by unfold Drv.readS; rw [if_neg (by rw [e]; omega)]⟩)
  have H2 := Lib.hid (show D.may i = 0 → i ∉ D.spoilt → D.readE i = 0 ∧ D.readS i = D.cur i from fun h0 h1 => by
    have e : D.readE i = 0 := by unfold Drv.readE; rw [if_neg (by simp [h0]), if_neg h1]
    exact ⟨e, by unfold Drv.readS; rw [if_pos e]⟩)
  have HI := Lib.hid (show D.may i = 0 → _ from fun h0 => Drv.may_in h0)
  clear how hpe hnil hd
  by_cases h0 : D.may i = 0
  · rw [h0] at HM
    by_cases h1 : i ∈ D.spoilt
    · obtain ⟨e1, e2⟩ := H1.out h0 h1
      rw [e1, e2]
      rw [decide_eq_true h1] at hsp
      clear h0 h1 e1 e2
      go_enter Tryz.func36, Tryz.ntmps36
      go_wp2_with (go_at_call 121; refine HM.out.mono ?_; rintro e w' ⟨rfl, rfl⟩)
      go_ret2
      exact ⟨rfl, rfl⟩
    · obtain ⟨e1, e2⟩ := H2.out h0 h1
      obtain ⟨_, _, hi0, hi1⟩ := HI.out h0
      rw [e1, e2]
      rw [decide_eq_false h1] at hsp
      clear h1 e1 e2
      by_cases hp : D.pend i = []
      · have hv := HNIL.out hp
        subst hv
        have hcur : D.cur i = D.safe.getD i.toNat ⟨#[]⟩ := by unfold Drv.cur; rw [hp]; rfl
        rw [hcur]
        obtain ⟨k, rfl⟩ := Int.eq_ofNat_of_zero_le hi0
        have hk : k < D.safe.length := by unfold Drv.n at hi1; omega
        have hcv := row_conv (l := D.safe) HW.out.safe ⟨_, HSec.out⟩ (by rw [← scs_len _ HW.out.safe]; simp) k hk
        have hget : D.safe.getD (k : Int).toNat ⟨#[]⟩ = D.safe[k] := by simp [List.getD, hk]
        rw [hget]
        generalize D.safe[k] = x at *
        generalize D.safe.length = n at *
        clear hcur hget hp hi0 hi1 h0
        go_enter Tryz.func36, Tryz.ntmps36
        go_wp2_with (go_at_call 121; refine HM.out.mono ?_; rintro e w' ⟨rfl, rfl⟩)
        go_ret2
        exact ⟨rfl, rfl⟩
      · obtain ⟨b, hpb⟩ := HPE.out hp
        obtain ⟨cap, cur, rfl, hh, hl1, hl2, _, ht⟩ := hpb.row
        have hne : 0 < (D.pend i).length := List.length_pos_iff.2 hp
        obtain ⟨q, hq'⟩ : ∃ q, (D.pend i).length = q + 1 := ⟨(D.pend i).length - 1, by omega⟩
        have hcv := row_conv (l := D.pend i) (Drv.pend_of HW.out i) ⟨_, hh⟩ ht q (by omega)
        have hcur : D.cur i = (D.pend i)[q]'(by omega) := by
          unfold Drv.cur
          rw [List.getLast?_eq_getElem?]
          have e1 : (D.pend i).length - 1 = q := by omega
          simp only [e1]
          rw [List.getElem?_eq_getElem (by omega)]
        rw [hcur]
        generalize (D.pend i)[q]'(by omega) = x at *
        rw [hq'] at hlk hl1
        unfold maxLen at hl2
        clear hcur hp h0 hne hq' hpb ht hh
        go_enter Tryz.func36, Tryz.ntmps36
        go_wp2_with (go_at_call 121; refine HM.out.mono ?_; rintro e w' ⟨rfl, rfl⟩)
        go_ret2
        exact ⟨rfl, rfl⟩
  · obtain ⟨e1, e2⟩ := H0.out h0
    rw [e1, e2]
    have hb : (D.may i != 0) = true := by rw [bne_iff_ne]; exact h0
    generalize D.may i = r at *
    clear h0 e1 e2
    go_enter Tryz.func36, Tryz.ntmps36
    go_wp2_with (go_at_call 121; refine HM.out.mono ?_; rintro e w' ⟨rfl, rfl⟩)
    go_ret2
    exact ⟨rfl, rfl⟩
end Go.Proofs.YtmhmdoobadckkaaGreatDoor
/- Writing to a drive: the closures of Write and Change. -/
namespace Go.Proofs.YtmhmdoobadckkaaGreatDoor
set_option maxRecDepth 20000
open Go.RowKit Go.OpenShut

theorem fold_set : ∀ (l : List Value) (k : Nat) (cs : List Value), k + l.length ≤ cs.length →
    (l.zipIdx k).foldl (fun (cs : Array Value) x => cs.setIfInBounds x.2 x.1) cs.toArray = (cs.take k ++ l ++ cs.drop (k + l.length)).toArray
  | [], k, cs, _ => by simp
  | v :: l, k, cs, h => by
    simp only [List.length_cons] at h
    rw [List.zipIdx_cons, List.foldl_cons]
    have e : cs.toArray.setIfInBounds k v = (cs.set k v).toArray := by simp
    show (l.zipIdx (k + 1)).foldl _ (cs.toArray.setIfInBounds k v) = _
    rw [e, fold_set l (k + 1) (cs.set k v) (by rw [List.length_set]; omega)]
    congr 1
    have h1 : (cs.set k v).take (k + 1) = cs.take k ++ [v] := by
      rw [List.take_succ_eq_append_getElem (by rw [List.length_set]; omega), List.take_set_of_le (Nat.le_refl _)]
      simp
    have h2 : (cs.set k v).drop (k + 1 + l.length) = cs.drop (k + (l.length + 1)) := by
      rw [List.drop_set_of_lt (by omega)]
      congr 1
      omega
    rw [h1, h2]
    simp
theorem fill_sec (C z : Array Value) (hC : C.size = 64) (hz : z.size = 64) : Instr.fill (fun i => some (i * 64, 64)) z [(0, .agg C)] = some C := by
  have e : (Value.agg C).cells = C := rfl
  unfold Instr.fill
  simp only [e, hC, hz, Nat.zero_mul, Nat.zero_add]
  rw [if_neg (by simp)]
  unfold Instr.fill
  congr 1
  have h := fold_set C.toList 0 z.toList (by simp [hC, hz])
  rw [← Array.foldl_toList, Array.toList_zipIdx]
  refine h.trans ?_
  have h2 : z.toList.drop (0 + C.toList.length) = [] := List.drop_eq_nil_of_le (by simp [hC, hz])
  rw [h2]
  simp
theorem wp_buildSec {w : World} {ops : Array Oper} {rest : List Oper} {o : Oper} {a : Act} {Q : Exit → Act → World → Prop} (hgd : o.guard = none) (x : Operand) (ho : o.op = .buildSlice 110 1 #[(0, x)]) (C : Array Value) (hC : C.size = 64) (hx : a.eval x = .agg C)
    (h : wpList Tryz.prog ops Q rest (a.put o.dst (.slice (some ⟨w.heap.size, 0, none⟩) 1 1)) (w.alloc (.cells C 183))) : wpList Tryz.prog ops Q (o :: rest) a w := by
  obtain ⟨i0, hi, hz0, hz1, hz2⟩ := info_parts info_sec
  refine wpList_buildSlice hgd 110 183 1 #[(0, x)] ho C i0 _ Tryz.underlying110 hi hz0 (by rw [hz1]; omega) (by rw [hz1]; omega) ?_ h
  rw [hz1]
  have e : (Array.map (fun (y : Nat × Operand) => (y.1, a.eval y.2)) #[(0, x)]).toList = [(0, a.eval x)] := by simp
  refine (congrArg (Instr.fill _ _) e).trans ?_
  rw [hx]
  exact fill_sec C _ hC (by simp)
theorem size_sec : (Tryz.prog.info? 183).map (·.size) = some 64 := by
  obtain ⟨i0, hi, hz0, hz1, hz2⟩ := info_parts info_sec
  rw [hi]
  simp [hz1]
section
variable {w w' : World} {g : Nat} {D : Drv} {s m p : Nat} {wl : List (Int × Value)} {bl : List Nat} {lv : Int}
theorem Pends.set_ {ws : List (Int × List Sec)} {x : Int} {v : Value} {b : Nat} {l : List Sec} (h : Pends w wl ws bl) (hk : ∀ b' ∈ bl, w'.heap[b']? = w.heap[b']? ∨ ∃ v', mfind wl x = some v' ∧ v'.ownBlock = some b') (hn : bl.Nodup) (hb : PendAt w' v b l) (hbn : b ∉ bl ∨ ∃ v', mfind wl x = some v' ∧ v'.ownBlock = some b) :
    ∃ bl', Pends w' (mset wl x v) (mset ws x l) bl' ∧ bl'.Nodup ∧ ∀ c ∈ bl', c = b ∨ c ∈ bl := by
  induction h with
  | nil => exact ⟨[b], .cons hb .nil, by simp, fun c hc => by simpa using hc⟩
  | @cons k u c q wl ws bl h1 h2 ih =>
    obtain ⟨n1, n2⟩ := List.nodup_cons.1 hn
    by_cases e : x = k
    · subst e
      refine ⟨b :: bl, ?_, ?_, fun c' hc' => ?_⟩
      · simp only [mset, if_true]
        refine .cons hb (h2.old (fun b' hb' => ?_))
        rcases hk b' (by simp [hb']) with h3 | ⟨v', h3, h4⟩
        · exact h3
        · simp [mfind] at h3
          subst h3
          rw [h1.2] at h4
          cases h4
          exact absurd hb' n1
      · refine List.nodup_cons.2 ⟨fun hb' => ?_, n2⟩
        rcases hbn with h3 | ⟨v', h3, h4⟩
        · exact h3 (by simp [hb'])
        · simp [mfind] at h3
          subst h3
          rw [h1.2] at h4
          cases h4
          exact n1 hb'
      · rcases List.mem_cons.1 hc' with h3 | h3
        · exact Or.inl h3
        · exact Or.inr (by simp [h3])
    · have hf : ∀ v', mfind ((k, u) :: wl) x = some v' → mfind wl x = some v' := fun v' h3 => by simpa [mfind, e] using h3
      obtain ⟨bl', i1, i2, i3⟩ := ih (fun b' hb' => (hk b' (by simp [hb'])).imp id (fun ⟨v', h3, h4⟩ => ⟨v', hf v' h3, h4⟩)) n2
        (hbn.imp (fun h3 h4 => h3 (by simp [h4])) (fun ⟨v', h3, h4⟩ => ⟨v', hf v' h3, h4⟩))
      have hcx : ∀ v', mfind wl x = some v' → v'.ownBlock ≠ some c := fun v' h3 h4 => by
        rcases h2.find x with ⟨a1, _⟩ | ⟨v2, b2, l2, a1, a2, a3, a4⟩
        · rw [a1] at h3; cases h3
        · rw [a1] at h3
          cases h3
          rw [a4.2] at h4
          cases h4
          exact n1 a3
      refine ⟨c :: bl', ?_, ?_, fun c' hc' => ?_⟩
      · have e1 : mset ((k, u) :: wl) x v = (k, u) :: mset wl x v := by simp [mset, e]
        have e2 : mset ((k, q) :: ws) x l = (k, q) :: mset ws x l := by simp [mset, e]
        rw [e1, e2]
        refine .cons (h1.old ?_) i1
        rcases hk c (by simp) with h3 | ⟨v', h3, h4⟩
        · exact h3
        · exact absurd h4 (hcx v' (hf v' h3))
      · refine List.nodup_cons.2 ⟨fun hc => ?_, i2⟩
        rcases i3 c hc with rfl | h3
        · rcases hbn with h4 | ⟨v', h4, h5⟩
          · exact h4 (by simp)
          · exact hcx v' (hf v' h4) h5
        · exact n1 h3
      · rcases List.mem_cons.1 hc' with rfl | h3
        · exact Or.inr (by simp)
        · rcases i3 c' h3 with h4 | h4
          · exact Or.inl h4
          · exact Or.inr (by simp [h4])
end
theorem mdel_sp (l : List Int) (i : Int) : mdel (l.map fun j => (j, Value.bool true)) i = (l.erase i).map fun j => (j, Value.bool true) := by
  induction l with
  | nil => rfl
  | cons a l ih =>
    by_cases e : i = a
    · subst e
      simp [mdel]
    · have e2 : (a :: l).erase i = a :: l.erase i := by simp [Ne.symm e]
      rw [e2]
      simp [mdel, e, ih]
/-- one drive turned, and nothing else that was there -/
def DidAt (w : World) (g : Nat) (D' : Drv) (fp : List Nat) (w' : World) : Prop := ∃ fp', DrvAt w' g D' fp' ∧ Chg (· ∈ fp) w w' ∧ ∀ b ∈ fp', b ∈ fp ∨ w.heap.size ≤ b
set_option maxHeartbeats 2000000 in
theorem write1_any (w : World) (g : Nat) (D : Drv) (fp : List Nat) (h : DrvAt w g D fp) (i : Int) (x : Sec) (bd bi : Nat) (hbd : Blk w bd 33 #[.pointer (some ⟨g, 0, none⟩)]) (hbi : Blk w bi 3 #[.int .i64 i])
    (hnd : bd ∉ fp) (hni : bi ∉ fp) (hx : x.size = 64) (hmay : D.may i = 0) (hlen : (D.pend i).length ≤ 65536) :
    Calls Tryz.prog 186 #[secV x, .pointer (some ⟨bd, 0, none⟩), .pointer (some ⟨bi, 0, none⟩)] w fun e w' => e = .returned (.tuple #[]) ∧ DidAt w g (D.wrOK i x) fp w' := by
  unfold secV
  have hC : (bcs x.data.toList).toArray.size = 64 := by simp [bcs_len, hx]
  obtain ⟨C, hCe⟩ : ∃ C, (bcs x.data.toList).toArray = C := ⟨_, rfl⟩
  rw [hCe] at hC ⊢
  have HC := Lib.hid hC
  have HCE := Lib.hid hCe
  clear hC hCe
  obtain ⟨s, m, p, wl, bl, lv, hfp, hd⟩ := h
  go_enter Tryz.func186, Tryz.ntmps186
  go_wp2_with fail
  have hgl := hd.lt
  have hW1 : (w.alloc (.cells C 183)).heap.size = w.heap.size + 1 := by simp
  have hX := Blk.new w 183 C
  have hD1 := hbd.alloc (.cells C 183)
  have hI1 := hbi.alloc (.cells C 183)
  have hG1 := hd.head.alloc (.cells C 183)
  have hM1 : MapB (w.alloc (.cells C 183)) m wl := hd.map.old (Below.heap_alloc w _ m hd.map.lt)
  obtain ⟨v, hlk, how, hbl, hpe, hnil⟩ := hd.look i
  have hfw : mfind wl i = none ∧ v = .slice none 0 0 ∨ mfind wl i = some v := by
    have hl := lookup_ints (P := Tryz.prog) Tryz.underlying111 Tryz.underlying3 zero_secs hd.map i
    rw [hl] at hlk
    cases e : mfind wl i with
    | none => rw [e] at hlk; cases hlk; exact Or.inl ⟨rfl, rfl⟩
    | some u => rw [e] at hlk; cases hlk; exact Or.inr rfl
  generalize hWe : w.alloc (.cells C 183) = W1 at *
  have HLK := Lib.hid (fun (Y : World) (hY : MapB Y m wl) => (lookup_ints (P := Tryz.prog) Tryz.underlying111 Tryz.underlying3 zero_secs hY i).trans (congrArg (fun z => Result.ok z Y) (show (mfind wl i).getD (.slice none 0 0) = v by rcases hfw with ⟨e1, e2⟩ | e1 <;> rw [e1] <;> first | rfl | exact e2.symm)))
  have nm : ∀ b ∈ g :: s :: m :: p :: bl, ∀ b' ∈ bl, b = b' → b ∈ bl := fun b _ b' hb' e => e ▸ hb'
  have hnod := hd.nodup
  simp only [List.nodup_cons, List.mem_cons, not_or] at hnod
  obtain ⟨⟨gs, gm', gp, gb⟩, ⟨sm, sp, sb⟩, ⟨mp, mb⟩, pb, bn⟩ := hnod
  have hdb : bd ∉ bl := fun e => hnd (by rw [hfp]; simp [e])
  have hib : bi ∉ bl := fun e => hni (by rw [hfp]; simp [e])
  have hxb : w.heap.size ∉ bl := fun e => Nat.lt_irrefl _ (hgl _ (by simp [e]))
  have HCL := Lib.hid (fun (Y : World) (hY : ∀ b, b < W1.heap.size → b ∉ bl → Y.heap[b]? = W1.heap[b]?) =>
    And.intro ((cell_same (p := ⟨bd, 0, none⟩) (hY bd hD1.lt hdb)).trans (hD1.cell 0)) (And.intro ((cell_same (p := ⟨bi, 0, none⟩) (hY bi hI1.lt hib)).trans (hI1.cell 0))
      (And.intro ((cell_same (p := ⟨g, 1, none⟩) (hY g hG1.lt gb)).trans (hG1.cell 1)) (And.intro (HLK.out Y (hM1.old (hY m hM1.lt mb))) ((hY _ hX.lt hxb).trans hX)))))
  have hS : ∀ b, b < W1.heap.size → b ∉ bl → W1.drew.heap[b]? = W1.heap[b]? := fun _ _ _ => rfl
  have hS2 : ∀ b : Nat, W1.drew.heap[b]? = W1.heap[b]? := fun _ => rfl
  have hS3 : W1.drew.heap.size = W1.heap.size := rfl
  have hS4 : Chg (· ∈ fp) w W1.drew := by rw [← hWe]; exact ((Chg.refl _ w).alloc _).drew
  have HS2 := Lib.hid hS2
  have HS3 := Lib.hid hS3
  clear hS2 hS3
  refine wp_region_nf (fun Y => ∀ b, b < W1.heap.size → b ∉ bl → Y.heap[b]? = W1.heap[b]?) (fun i => i == 14) [(0, true), (1, true), (2, true), (3, true), (4, true), (5, true), (6, true), (7, true), (8, true), (9, true), (10, true), (11, true), (12, false), (13, false), (14, false)] (by kernel_rfl) rfl (by kernel_rfl) (by kernel_rfl) (fun d _ _ _ _ h => by cases d <;> exact h) ?_
  generalize W1.drew = W2 at *
  repeat (refine nf_pure rfl hS (fun Y hY => by obtain ⟨g1, g2, g3, g4, g5⟩ := HCL.out Y hY; clear hY; go_wp2; exact ⟨rfl, rfl, rfl⟩) rfl ?_ ?_; rfl)
  have HW1 := Lib.hid hW1
  have HWE := Lib.hid hWe
  clear hW1 hWe
  refine nf_pure rfl hS (fun Y hY => by obtain ⟨_, _, _, _, g5⟩ := HCL.out Y hY; clear hY; refine wpList_load_row rfl 183 (.tmp 3) rfl w.heap.size rfl 183 C (0, 0) _ g5 Tryz.underlying183 rfl (by rw [HC.out]; exact size_sec) ?_; go_wp2; exact ⟨rfl, rfl, rfl⟩) rfl ?_ ?_; rfl
  refine nf_imp rfl ?_
  refine wp_buildSec rfl (.tmp 15) rfl C HC.out rfl ?_
  have hS5 : ∀ b, b < W1.heap.size → b ∉ bl → (W2.alloc (.cells C 183)).heap[b]? = W1.heap[b]? := fun b h1 h2 => (Below.heap_alloc W2 _ b (by rw [HS3.out]; exact h1)).trans (hS b h1 h2)
  have hS6 := hS4.alloc (.cells C 183)
  have hY := Blk.new W2 183 C
  have how2 : (W2.alloc (.cells C 183)).ownsRow 0 183 64 v (D.pend i).length (scs (D.pend i)) := World.ownsRow.alloc (World.ownsRow.kept how (row := none) ⟨hS4.os, hS4.tape, hS4.output, hS4.size, fun b h1 _ => by rw [HS2.out, ← HWE.out]; exact Below.heap_alloc w _ b h1⟩ (by rcases hv : v.ownBlock with _ | b <;> simp)) _
  go_wp2_with fail
  refine ⟨fun _ => hS5, ?_⟩
  have HC3 := Lib.hid (fun (b : Nat) (h : b < W2.heap.size) => Below.heap_alloc W2 (.cells C 183) b h)
  have HW3 := Lib.hid (show (W2.alloc (.cells C 183)).heap.size = W1.heap.size + 1 by rw [← HS3.out]; simp)
  generalize W2.alloc (.cells C 183) = W3 at *
  refine nf_imp rfl ?_
  refine wp_appSec rfl (.tmp 14) (.tmp 16) rfl v (D.pend i) how2 rfl _ _ x rfl (by rw [HCE.out]; exact hY) hx hlen ?_
  intro v' b' W4 hpn hgr hbb
  have hvb : ∀ b, v.ownBlock = some b → b ∈ bl := hbl
  have hS7 : ∀ b, b < W1.heap.size → b ∉ bl → W4.heap[b]? = W1.heap[b]? := fun b h1 h2 => (hgr.block b (Nat.lt_of_lt_of_le h1 (by have := HW3.out; omega)) (fun e => h2 (hvb b e.symm))).trans (hS5 b h1 h2)
  have hC4 : Chg (· ∈ fp) w W4 := hS6.trans (G := (· ∈ fp)) ⟨hgr.os, hgr.tape, hgr.output, hgr.size, fun b h1 h2 => hgr.block b h1 (fun e => h2 (by rw [hfp]; simp [hvb b e.symm]))⟩ (fun _ _ h => h)
  have hM4 : MapB W4 m wl := hM1.old (hS7 m hM1.lt mb)
  have hP4 : ∃ bl', Pends W4 (mset wl i v') (mset D.writes i (D.pend i ++ [x])) bl' ∧ bl'.Nodup ∧ ∀ c ∈ bl', c = b' ∨ c ∈ bl := by
    refine hd.pends.set_ (fun c hc => ?_) bn hpn ?_
    · by_cases e : some c = v.ownBlock
      · right
        refine ⟨v, ?_, e.symm⟩
        rcases hfw with ⟨_, e2⟩ | e2
        · rw [e2] at e; simp [Value.ownBlock] at e
        · exact e2
      · left
        have hcl := hgl c (by simp [hc])
        have h3 := HW3.out
        have h4 := HW1.out
        have h5 := HS3.out
        rw [hgr.block c (by omega) e, HC3.out c (by omega), HS2.out, ← HWE.out]
        exact Below.heap_alloc w _ c hcl
    · rcases hbb with h1 | h1
      · right
        refine ⟨v, ?_, h1⟩
        rcases hfw with ⟨_, e2⟩ | e2
        · rw [e2] at h1; simp [Value.ownBlock] at h1
        · exact e2
      · left
        intro h2
        have := hgl b' (by simp [h2])
        have h3 := HW3.out
        have h4 := HW1.out
        omega
  have hb'fp : b' ∈ fp ∨ w.heap.size ≤ b' := by
    rcases hbb with h1 | h1
    · exact Or.inl (by rw [hfp]; simp [hvb b' h1])
    · exact Or.inr (by have h3 := HW3.out; have h4 := HW1.out; omega)
  obtain ⟨bl', hP4, hbn', hbl'⟩ := hP4
  have HP4 := Lib.hid hP4
  have HBN := Lib.hid (And.intro hbn' hbl')
  have HB' := Lib.hid hb'fp
  clear hP4 hbn' hbl' hb'fp hlk hpe hnil hfw
  go_wp2_with fail
  refine ⟨fun _ => hS7, ?_⟩
  refine nf_imp rfl ?_
  refine wp_updateI rfl (.tmp 7) (.tmp 8) (.tmp 17) 111 rfl _ _ Tryz.underlying111 Tryz.underlying3 m wl rfl hM4 i v' rfl rfl ?_
  intro W5 hM5 hg5
  have hK5 : ∀ b, b < W1.heap.size → b ∉ bl → b ≠ m → W5.heap[b]? = W1.heap[b]? := fun b h1 h2 h3 => (hg5.block b (Nat.lt_of_lt_of_le h1 (by have := hgr.size; have h3 := HW3.out; omega)) (fun e => h3 (by cases e; rfl))).trans (hS7 b h1 h2)
  have HK5 := Lib.hid hK5
  have HP5 := Lib.hid (show Pends W5 (mset wl i v') (mset D.writes i (D.pend i ++ [x])) bl' from HP4.out.old (fun c hc => hg5.block c (HP4.out.lt c hc) (fun e => by
    cases e
    rcases HBN.out.2 m hc with h1 | h1
    · rcases hbb with h2 | h2
      · exact mb (hvb m (h1 ▸ h2))
      · have h3 := HW3.out
        have h4 := HW1.out
        have := hgl m (by simp)
        omega
    · exact mb h1)))
  have hC5 : Chg (· ∈ fp) w W5 := hC4.trans (G := (· ∈ fp)) ⟨hg5.os, hg5.tape, hg5.output, hg5.size, fun b h1 h2 => hg5.block b h1 (fun e => h2 (by cases e; rw [hfp]; simp))⟩ (fun _ _ h => h)
  clear hK5
  go_wp2_with fail
  refine ⟨fun h => absurd h (by decide), ?_⟩
  refine nf_nil ?_
  go_wp2_with fail
  go_simp
  have hm5 : ∀ b, b < w.heap.size → b ∉ bl → b ≠ m → W5.drew.heap[b]? = w.heap[b]? := fun b h1 h2 h3 => (HK5.out b (by have := HW1.out; omega) h2 h3).trans (by rw [← HWE.out]; exact Below.heap_alloc w _ b h1)
  have HM5 := Lib.hid hm5
  have c1 : W5.drew.cell? ⟨bd, 0, none⟩ = _ := (cell_same (p := ⟨bd, 0, none⟩) (hm5 bd hbd.lt hdb (fun e => hnd (by rw [hfp, e]; simp)))).trans (hbd.cell 0)
  have c2 : W5.drew.cell? ⟨bi, 0, none⟩ = _ := (cell_same (p := ⟨bi, 0, none⟩) (hm5 bi hbi.lt hib (fun e => hni (by rw [hfp, e]; simp)))).trans (hbi.cell 0)
  have c3 : W5.drew.cell? ⟨g, 2, none⟩ = _ := (cell_same (p := ⟨g, 2, none⟩) (hm5 g hd.head.lt gb gm')).trans (hd.head.cell 2)
  have hp5 : MapB W5.drew p (D.spoilt.map fun i => (i, Value.bool true)) := hd.spoilt.old (hm5 p (hgl p (by simp)) pb (Ne.symm mp))
  have hM5' : MapB W5.drew m (mset wl i v') := hM5
  have hP5' : Pends W5.drew (mset wl i v') (mset D.writes i (D.pend i ++ [x])) bl' := HP5.out.old (fun _ _ => rfl)
  have hC5' := hC5.drew
  clear hm5
  have HCV := Lib.hid (fun (Y : World) (hY : ∀ b, b < W5.drew.heap.size → b ≠ p → Y.heap[b]? = W5.drew.heap[b]?) =>
    And.intro ((cell_same (p := ⟨bd, 0, none⟩) (hY bd (cellLt c1) (fun e => hnd (by rw [hfp, e]; simp)))).trans c1) (And.intro ((cell_same (p := ⟨bi, 0, none⟩) (hY bi (cellLt c2) (fun e => hni (by rw [hfp, e]; simp)))).trans c2) ((cell_same (p := ⟨g, 2, none⟩) (hY g (cellLt c3) gp)).trans c3)))
  refine wp_region_nf (fun Y => ∀ b, b < W5.drew.heap.size → b ≠ p → Y.heap[b]? = W5.drew.heap[b]?) (fun _ => false) [(0, true), (1, true), (2, true), (3, true), (4, true), (5, false)] (by kernel_rfl) rfl (by kernel_rfl) (by kernel_rfl) (fun d _ _ _ _ h => by cases d <;> exact h) ?_
  generalize W5.drew = V at *
  repeat (refine nf_pure rfl (fun _ _ _ => rfl) (fun Y hY => by obtain ⟨g1, g2, g3⟩ := HCV.out Y hY; clear hY; go_wp2; exact ⟨rfl, rfl, rfl⟩) rfl ?_ ?_; rfl)
  refine nf_imp rfl ?_
  refine wp_deleteI rfl (.tmp 21) (.tmp 22) 112 3 rfl _ Tryz.underlying112 Tryz.underlying3 p _ rfl hp5 i rfl ?_
  intro W6 hp6 hg6
  have hS6' : ∀ b, b < V.heap.size → b ≠ p → W6.heap[b]? = V.heap[b]? := fun b h1 h2 => hg6.block b h1 (fun e => h2 (by cases e; rfl))
  have HG6 := Lib.hid hS6'
  go_wp2_with fail
  refine ⟨fun _ => hS6', ?_⟩
  refine nf_nil ?_
  have hC6 : Chg (· ∈ fp) w W6 := hC5'.trans (G := (· ∈ fp)) ⟨hg6.os, hg6.tape, hg6.output, hg6.size, fun b h1 h2 => hg6.block b h1 (fun e => h2 (by cases e; rw [hfp]; simp))⟩ (fun _ _ h => h)
  have hm6 : ∀ b, b < w.heap.size → b ∉ bl → b ≠ m → b ≠ p → W6.heap[b]? = w.heap[b]? := fun b h1 h2 h3 h4 => (HG6.out b (by have := hC5'.size; omega) h4).trans (HM5.out b h1 h2 h3)
  have d1 : W6.cell? ⟨bd, 0, none⟩ = _ := (cell_same (p := ⟨bd, 0, none⟩) (hm6 bd hbd.lt hdb (fun e => hnd (by rw [hfp, e]; simp)) (fun e => hnd (by rw [hfp, e]; simp)))).trans (hbd.cell 0)
  have hh6 : Blk W6 g _ _ := (hm6 g hd.head.lt gb gm' gp).trans hd.head
  have d2 := hh6.cell 4
  have d3 := hh6.frozen 4
  have HD6 := Lib.hid (show ∀ lv', (∀ k, (D.wrOK i x).lim = some k → lv' = (k : Int)) → DrvMem (W6.setCell ⟨g, 4, none⟩ (.int .i64 lv')) g (D.wrOK i x) s m p (mset wl i v') bl' lv' from fun lv' hlv' => by
    have hne : ∀ c ∈ bl', c ≠ g ∧ c ≠ s ∧ c ≠ m ∧ c ≠ p ∧ c < V.heap.size := fun c hc => by
      have hlt := hP5'.lt c hc
      rcases HBN.out.2 c hc with h1 | h1
      · rcases hbb with h2 | h2
        · have := hvb c (h1 ▸ h2)
          exact ⟨fun e => gb (e ▸ this), fun e => sb (e ▸ this), fun e => mb (e ▸ this), fun e => pb (e ▸ this), hlt⟩
        · have h3 := HW3.out
          have h4 := HW1.out
          have g1 := hgl g (by simp)
          have g2 := hgl s (by simp)
          have g3 := hgl m (by simp)
          have g4 := hgl p (by simp)
          exact ⟨by omega, by omega, by omega, by omega, hlt⟩
      · exact ⟨fun e => gb (e ▸ h1), fun e => sb (e ▸ h1), fun e => mb (e ▸ h1), fun e => pb (e ▸ h1), hlt⟩
    have hsafe : Blk W6 s 183 (scs D.safe).toArray := (hm6 s (hgl s (by simp)) sb sm sp).trans hd.secs
    have hmap : MapB W6 m (mset wl i v') := hM5'.old (HG6.out m (by have := hC5'.size; have := hgl m (by simp); omega) mp)
    have hpd : Pends W6 (mset wl i v') (mset D.writes i (D.pend i ++ [x])) bl' := hP5'.old (fun c hc => HG6.out c (hne c hc).2.2.2.2 (hne c hc).2.2.2.1)
    refine ⟨?_, hlv', hsafe.far (Ne.symm gs) _, hmap.old (Below.heap_setCell _ _ _ _ (Ne.symm gm')), hpd.old (fun c hc => Below.heap_setCell _ _ _ _ (hne c hc).1), ?_, ?_, Drv.wrOK_wf hd.wf (Drv.may_in hmay).2.2.1 (Drv.may_in hmay).2.2.2 hx⟩
    · have h7 := hh6.set_ 4 (.int .i64 lv')
      have e : (D.wrOK i x).lim.isSome = D.lim.isSome := by show (D.lim.map _).isSome = _; cases D.lim <;> rfl
      rw [e]
      exact h7
    · have e : (D.wrOK i x).spoilt = D.spoilt.erase i := rfl
      rw [e]
      have h8 := hp6.old (w' := W6.setCell ⟨g, 4, none⟩ (.int .i64 lv')) (Below.heap_setCell _ _ _ _ (Ne.symm gp))
      rw [mdel_sp] at h8
      exact h8
    · have n2 := HBN.out.1
      refine List.nodup_cons.2 ⟨?_, List.nodup_cons.2 ⟨?_, List.nodup_cons.2 ⟨?_, List.nodup_cons.2 ⟨?_, n2⟩⟩⟩⟩
      · simp only [List.mem_cons, not_or]
        exact ⟨gs, gm', gp, fun e => (hne _ e).1 rfl⟩
      · simp only [List.mem_cons, not_or]
        exact ⟨sm, sp, fun e => (hne _ e).2.1 rfl⟩
      · simp only [List.mem_cons, not_or]
        exact ⟨mp, fun e => (hne _ e).2.2.1 rfl⟩
      · exact fun e => (hne _ e).2.2.2.1 rfl)
  have HFP := Lib.hid (show ∀ b ∈ g :: s :: m :: p :: bl', b ∈ fp ∨ w.heap.size ≤ b from fun b hb => by
    simp only [List.mem_cons] at hb
    rcases hb with rfl | rfl | rfl | rfl | hb
    · exact Or.inl (by rw [hfp]; simp)
    · exact Or.inl (by rw [hfp]; simp)
    · exact Or.inl (by rw [hfp]; simp)
    · exact Or.inl (by rw [hfp]; simp)
    · rcases HBN.out.2 b hb with rfl | h1
      · exact HB'.out
      · exact Or.inl (by rw [hfp]; simp [h1]))
  have HGF := Lib.hid (show g ∈ fp by rw [hfp]; simp)
  have HLV := Lib.hid (show ∀ k, (D.wrOK i x).lim = some k → wrap64 (lv - 1) = (k : Int) from fun k hk => by
    change D.lim.map _ = some k at hk
    cases e : D.lim with
    | none => rw [e] at hk; cases hk
    | some j =>
      rw [e] at hk
      have h1 := hd.left j e
      have h2 := hd.wf.lim j e
      have h3 : j ≠ 0 := fun h0 => by
        have := (Drv.may_in hmay).2.1
        unfold Drv.off at this
        rw [e, h0] at this
        cases this
      simp at hk
      rw [h1]
      have : wrap64 ((j : Int) - 1) = (j : Int) - 1 := by unfold wrap64; omega
      rw [this]
      omega)
  clear hfp hm6 hC5' hP5' hM5' hp5 hp6 hg6 hS6' c1 c2 c3 hh6 hvb hbl hbb hgr hpn
  go_wp2_with fail
  go_end0
  exact ⟨rfl, g :: s :: m :: p :: bl', ⟨s, m, p, _, _, _, rfl, HD6.out _ HLV.out⟩, hC6.setCell (Or.inl HGF.out) _, HFP.out⟩
end Go.Proofs.YtmhmdoobadckkaaGreatDoor
/- put, Write, Change, Spoil, Die. -/
namespace Go.Proofs.YtmhmdoobadckkaaGreatDoor
set_option maxRecDepth 20000
open Go.RowKit Go.OpenShut

theorem DidAt.of_below {w w1 w' : World} {g : Nat} {D : Drv} {fp : List Nat} (hb : Below w.heap.size w w1) (_hlt : ∀ b ∈ fp, b < w.heap.size) (h : DidAt w1 g D fp w') : DidAt w g D fp w' := by
  obtain ⟨fp', h1, h2, h3⟩ := h
  refine ⟨fp', h1, (Chg.of_below hb |>.mono (G := fun k => k ∈ fp ∨ w.heap.size ≤ k) (fun j hj h => Or.inr h)).trans h2 (fun j hj h => Or.inl h) |>.mono (fun j hj h => ?_), fun b hb' => ?_⟩
  · rcases h with h | h
    · exact h
    · omega
  · rcases h3 b hb' with h4 | h4
    · exact Or.inl h4
    · exact Or.inr (Nat.le_trans hb.size h4)
theorem DidAt.refl {w : World} {g : Nat} {D : Drv} {fp : List Nat} (h : DrvAt w g D fp) : DidAt w g D fp w := ⟨fp, h, Chg.refl _ _, fun _ hb => Or.inl hb⟩
/-- what a call that writes answers: the error x, the drive D' -/
def WrPost (w : World) (g : Nat) (D' : Drv) (fp : List Nat) (x : Int) (e : Ending) (w' : World) : Prop := e = .returned (.int .i64 x) ∧ DidAt w g D' fp w'
set_option maxHeartbeats 1000000 in
theorem put_yes (w : World) (g : Nat) (D D' : Drv) (fp : List Nat) (h : DrvAt w g D fp) (i : Int) (s : Sec) (F : Nat) (lb : Array Value) (hF : ∀ args w, (callFunc F args).run Tryz.prog w = .ok (.enter F args) w)
    (hmay : D.may i = 0) (hs : s.size = 64) (hcl : ∀ w1, Below w.heap.size w w1 → Calls Tryz.prog F (#[secV s] ++ lb) w1 fun e w' => e = .returned (.tuple #[]) ∧ DidAt w1 g D' fp w') :
    Calls Tryz.prog 140 #[.pointer (some ⟨g, 0, none⟩), .int .i64 i, .string s, .func (.func F) #[] lb] w (WrPost w g D' fp 0) := by
  have HM := Lib.hid (may_drv w g D fp h i)
  have HLT := Lib.hid h.lt
  have HS := Lib.hid hs
  rw [hmay] at HM
  have hcv := Lib.run_convert_string_bytes (P := Tryz.prog) w 9 62 5 s Tryz.underlying9 Tryz.underlying62 Tryz.underlying5
  rw [hs] at hcv
  have hsz : ((s.size : Int) != 64) = false := by rw [hs]; rfl
  clear hs hmay
  have hat : ∀ (a : Option Addr) (c : Nat) (W : World), (Instr.arrayAt 183 (.slice a 64 c)).run Tryz.prog W = .ok (.pointer a) W := fun a c W => by
    unfold Instr.arrayAt
    simp [run_underlying Tryz.underlying183, Result.andThen]
  have HR := Lib.hid (show (Lib.bytesWorld w 5 s).rangeAt w.heap.size 0 (bcs s.data.toList) from fun j v hv => by
    have hj : j < s.size := by
      rcases Nat.lt_or_ge j s.size with e | e
      · exact e
      · rw [List.getElem?_eq_none (by rw [bcs_len, sec_len]; exact e)] at hv; cases hv
    rw [bcs_get (by rw [sec_len]; exact hj)] at hv
    cases hv
    rw [Nat.zero_add, Lib.bytesWorld_cell w 5 s j hj]
    simp [bc, List.getD, hj])
  have HB := Lib.hid (below_bytes w s)
  generalize Lib.bytesWorld w 5 s = W1 at *
  have HCL := Lib.hid hcl
  have HL := Lib.hid (show (bcs s.data.toList).length = 64 by rw [bcs_len, sec_len]; exact HS.out)
  clear hcl
  unfold secV at HCL
  go_enter Tryz.func140, Tryz.ntmps140
  go_wp2_with (first
    | (go_at_call 121; refine HM.out.mono ?_; rintro e w' ⟨rfl, rfl⟩)
    | (refine wpList_load_mid rfl 183 (.tmp 25) rfl w.heap.size 0 rfl (bcs s.data.toList) _ HR.out Tryz.underlying183 rfl (by rw [HL.out]; exact size_sec) ?_))
  refine (HCL.out _ HB.out).mono ?_
  rintro e w2 ⟨rfl, hdid⟩
  have HD := Lib.hid (hdid.of_below HB.out HLT.out)
  clear hdid
  go_wp2_with fail
  go_ret
  exact ⟨rfl, HD.out⟩
set_option maxHeartbeats 1000000 in
theorem put_no (w : World) (g : Nat) (D : Drv) (fp : List Nat) (h : DrvAt w g D fp) (i : Int) (s : Sec) (v : Value) (hno : D.wrE i s ≠ 0) :
    Calls Tryz.prog 140 #[.pointer (some ⟨g, 0, none⟩), .int .i64 i, .string s, v] w fun e w' => e = .returned (.int .i64 (D.wrE i s)) ∧ w = w' := by
  have HM := Lib.hid (may_drv w g D fp h i)
  by_cases h0 : D.may i = 0
  · have h1 : s.size ≠ 64 := fun e => hno (by unfold Drv.wrE; rw [h0]; simp [e])
    have h2 : D.wrE i s = 1 := by unfold Drv.wrE; rw [h0]; simp [h1]
    have hsz : ((s.size : Int) != 64) = true := by rw [bne_iff_ne]; omega
    rw [h0] at HM
    rw [h2]
    clear h0 h1 h2 hno
    go_enter Tryz.func140, Tryz.ntmps140
    go_wp2_with (go_at_call 121; refine HM.out.mono ?_; rintro e w' ⟨rfl, rfl⟩)
    go_ret
    exact ⟨rfl, rfl⟩
  · have h2 : D.wrE i s = D.may i := by unfold Drv.wrE; rw [if_pos h0]
    rw [h2]
    have hb : (D.may i == 0) = false := beq_eq_false_iff_ne.2 h0
    generalize D.may i = r at *
    clear h0 h2 hno
    go_enter Tryz.func140, Tryz.ntmps140
    go_wp2_with (go_at_call 121; refine HM.out.mono ?_; rintro e w' ⟨rfl, rfl⟩)
    go_ret
    exact ⟨rfl, rfl⟩
set_option maxHeartbeats 1000000 in
theorem write_any (w : World) (g : Nat) (D : Drv) (fp : List Nat) (h : DrvAt w g D fp) (i : Int) (s : Sec) (hlen : (D.pend i).length ≤ 65536) :
    Calls Tryz.prog 96 #[.pointer (some ⟨g, 0, none⟩), .int .i64 i, .string s] w (WrPost w g (D.wr i s) fp (D.wrE i s)) := by
  have hb0 := (Below.refl w.heap.size w).alloc (Nat.le_refl _) (.cells #[.pointer (some ⟨g, 0, none⟩)] 33)
  have hb := hb0.alloc (by simp) (.cells #[.int .i64 i] 3)
  have h2 := h.below hb
  have HLT := Lib.hid h.lt
  have hbd := (Blk.new w 33 #[.pointer (some ⟨g, 0, none⟩)]).alloc (.cells #[.int .i64 i] 3)
  have hbi := Blk.newAt (w := w.alloc (.cells #[.pointer (some ⟨g, 0, none⟩)] 33)) (g := w.heap.size + 1) (t := 3) (cs := #[.int .i64 i]) (by simp)
  by_cases h0 : D.wrE i s = 0
  · obtain ⟨hm, hs⟩ := Drv.wrE_in h0
    have hwr : D.wr i s = D.wrOK i s := by unfold Drv.wr; rw [if_pos h0]
    rw [h0, hwr]
    have HP := Lib.hid (put_yes _ g D (D.wrOK i s) fp h2 i s 186 #[.pointer (some ⟨w.heap.size, 0, none⟩), .pointer (some ⟨w.heap.size + 1, 0, none⟩)] (fun _ _ => rfl) hm hs (fun w1 hw1 =>
      write1_any w1 g D fp (h2.below hw1) i s w.heap.size (w.heap.size + 1) (hbd.below hw1 hbd.lt) (hbi.below hw1 hbi.lt) (fun e => by have := HLT.out _ e; omega) (fun e => by have := HLT.out _ e; omega) hs hm hlen))
    have HB := Lib.hid hb
    clear h0 hm hs hwr hb0 hb h2
    go_enter Tryz.func96, Tryz.ntmps96
    go_wp2_with (go_at_call 140; refine HP.out.mono ?_; rintro e w' ⟨rfl, hd⟩)
    go_ret
    exact ⟨rfl, hd.of_below HB.out HLT.out⟩
  · have hwr : D.wr i s = D := by unfold Drv.wr; rw [if_neg h0]
    rw [hwr]
    have HP := Lib.hid (put_no _ g D fp h2 i s (.func (.func 186) #[] #[.pointer (some ⟨w.heap.size, 0, none⟩), .pointer (some ⟨w.heap.size + 1, 0, none⟩)]) h0)
    have HD := Lib.hid (((DidAt.refl h2).of_below hb HLT.out))
    clear h0 hwr hb0 hb h2 hbd hbi
    generalize D.wrE i s = r at *
    go_enter Tryz.func96, Tryz.ntmps96
    go_wp2_with (go_at_call 140; refine HP.out.mono ?_; rintro e w' ⟨rfl, rfl⟩)
    go_ret
    exact ⟨rfl, HD.out⟩
end Go.Proofs.YtmhmdoobadckkaaGreatDoor
/- Change, Spoil, Die. -/
namespace Go.Proofs.YtmhmdoobadckkaaGreatDoor
set_option maxRecDepth 20000
open Go.RowKit Go.OpenShut

theorem scs_set : ∀ (l : List Sec), (∀ x ∈ l, x.size = 64) → ∀ (k : Nat) (s : Sec), k < l.length → s.size = 64 →
    (scs l).take (k * 64) ++ bcs s.data.toList ++ (scs l).drop (k * 64 + 64) = scs (l.set k s)
  | [], _, k, _, hk, _ => by simp at hk
  | x :: l, h, 0, s, _, hs => by
    have hx : (bcs x.data.toList).length = 64 := by rw [bcs_len, sec_len, h x (by simp)]
    rw [scs_cons, Nat.zero_mul, List.take_zero, List.nil_append, Nat.zero_add, List.drop_append_of_le_length (by omega), List.drop_of_length_le (by omega), List.nil_append]
    rfl
  | x :: l, h, k + 1, s, hk, hs => by
    have hx : (bcs x.data.toList).length = 64 := by rw [bcs_len, sec_len, h x (by simp)]
    have ih := scs_set l (fun y hy => h y (by simp [hy])) k s (by simpa using hk) hs
    have e1 : (bcs x.data.toList ++ scs l).take ((k + 1) * 64) = bcs x.data.toList ++ (scs l).take (k * 64) := by
      rw [List.take_append, List.take_of_length_le (by omega), hx]
      congr 2
      omega
    have e2 : (bcs x.data.toList ++ scs l).drop ((k + 1) * 64 + 64) = (scs l).drop (k * 64 + 64) := by
      rw [List.drop_append, List.drop_of_length_le (by omega), hx, List.nil_append]
      congr 1
      omega
    rw [scs_cons, e1, e2, List.append_assoc, List.append_assoc, ← List.append_assoc ((scs l).take _), ih]
    rfl
theorem wp_storeSec {w : World} {ops : Array Oper} {rest : List Oper} {o : Oper} {a : Act} {Q : Exit → Act → World → Prop} (hgd : o.guard = none) (x y : Operand) (ho : o.op = .store 183 x y)
    (b : Nat) (l : List Sec) (hb : Blk w b 183 (scs l).toArray) (hl : ∀ x ∈ l, x.size = 64) (k : Nat) (hk : k < l.length) (s : Sec) (hs : s.size = 64) (hx : a.eval x = .pointer (some ⟨b, k * 64, none⟩)) (hy : a.eval y = secV s)
    (h : ∀ w', Blk w' b 183 (scs (l.set k s)).toArray → w.grownBy w' (some b) → wpList Tryz.prog ops Q rest (a.put o.dst undef) w') : wpList Tryz.prog ops Q (o :: rest) a w := by
  have hlen : (bcs s.data.toList).length = 64 := by rw [bcs_len, sec_len, hs]
  have hsz : (scs l).toArray.size = l.length * 64 := by simp [scs_len l hl]
  have hst := run_storeCells_at Tryz.prog b (k * 64) 183 (bcs s.data.toList) 0 _ w hb (by rw [hlen, hsz]; have := Nat.mul_le_mul_right 64 hk; omega) (bcs_one _)
  rw [Nat.add_zero, hlen] at hst
  have e : ((scs l).toArray.toList.take (k * 64) ++ bcs s.data.toList ++ (scs l).toArray.toList.drop (k * 64 + 64)).toArray = (scs (l.set k s)).toArray := by
    rw [← scs_set l hl k s hk hs]
  rw [e] at hst
  have hsv : (storeVar 183 ⟨b, k * 64, none⟩ (secV s)).run Tryz.prog w = .ok () (w.setRow b (scs (l.set k s)).toArray) := by
    have hi := size_sec
    unfold secV
    cases hq : Tryz.prog.info? 183 with
    | none => simp [hq] at hi
    | some i =>
      have hs2 : i.size = 64 := by simpa [hq] using hi
      simp [storeVar, sizeOf, typeInfo, hq, Value.cells, hs2, hst, hlen]
  refine wpList_plain hgd fun K hK => ?_
  unfold Oper.wp execOp
  simp only [ho, hx, hy, Instr.storeAt, Instr.sureAddr, Sem.run_bind, Sem.run_pure, Result.andThen_ok, hsv]
  exact hK _ _ (h _ (hb.row_ _) ⟨rfl, rfl, rfl, by simp, fun i _ hi => setRow_other w b i _ (fun e => hi (by rw [e]))⟩)
theorem Pends.del {w : World} {wl : List (Int × Value)} {ws : List (Int × List Sec)} {bl : List Nat} (h : Pends w wl ws bl) (x : Int) (hn : bl.Nodup) : ∃ bl', Pends w (mdel wl x) (mdel ws x) bl' ∧ bl'.Nodup ∧ ∀ c ∈ bl', c ∈ bl := by
  induction h with
  | nil => exact ⟨[], .nil, List.nodup_nil, fun _ h => h⟩
  | @cons k v b l wl ws bl h1 h2 ih =>
    obtain ⟨n1, n2⟩ := List.nodup_cons.1 hn
    by_cases e : x = k
    · exact ⟨bl, by simpa [mdel, e] using h2, n2, fun c hc => by simp [hc]⟩
    · obtain ⟨bl', i1, i2, i3⟩ := ih n2
      have e1 : mdel ((k, v) :: wl) x = (k, v) :: mdel wl x := by simp [mdel, e]
      have e2 : mdel ((k, l) :: ws) x = (k, l) :: mdel ws x := by simp [mdel, e]
      rw [e1, e2]
      refine ⟨b :: bl', .cons h1 i1, List.nodup_cons.2 ⟨fun hb => n1 (i3 b hb), i2⟩, fun c hc => ?_⟩
      rcases List.mem_cons.1 hc with rfl | hc
      · simp
      · simp [i3 c hc]
set_option maxHeartbeats 2000000 in
theorem change1_any (w : World) (g : Nat) (D : Drv) (fp : List Nat) (h : DrvAt w g D fp) (i : Int) (x : Sec) (bd bi : Nat) (hbd : Blk w bd 33 #[.pointer (some ⟨g, 0, none⟩)]) (hbi : Blk w bi 3 #[.int .i64 i])
    (hnd : bd ∉ fp) (hni : bi ∉ fp) (hx : x.size = 64) (hmay : D.may i = 0) :
    Calls Tryz.prog 141 #[secV x, .pointer (some ⟨bd, 0, none⟩), .pointer (some ⟨bi, 0, none⟩)] w fun e w' => e = .returned (.tuple #[]) ∧ DidAt w g (D.chOK i x) fp w' := by
  have hSV : secV x = .agg (bcs x.data.toList).toArray := rfl
  have hC : (bcs x.data.toList).toArray.size = 64 := by simp [bcs_len, hx]
  have HSV := Lib.hid hSV
  rw [hSV]
  obtain ⟨C, hCe⟩ : ∃ C, (bcs x.data.toList).toArray = C := ⟨_, rfl⟩
  rw [hCe] at hC ⊢
  have HC := Lib.hid hC
  have HCE := Lib.hid hCe
  clear hC hCe hSV
  obtain ⟨s, m, p, wl, bl, lv, hfp, hd⟩ := h
  obtain ⟨_, _, hi0, hi1⟩ := Drv.may_in hmay
  obtain ⟨k, rfl⟩ := Int.eq_ofNat_of_zero_le hi0
  have hk : k < D.safe.length := by unfold Drv.n at hi1; omega
  go_enter Tryz.func141, Tryz.ntmps141
  go_wp2_with fail
  have hgl := hd.lt
  have hX := Blk.new w 183 C
  have hD1 := hbd.alloc (.cells C 183)
  have hI1 := hbi.alloc (.cells C 183)
  have hG1 := hd.head.alloc (.cells C 183)
  have hS1 := hd.secs.alloc (.cells C 183)
  have hC1 : Chg (· ∈ fp) w (w.alloc (.cells C 183)) := (Chg.refl _ w).alloc _
  have HO1 := Lib.hid (fun (b : Nat) (h : b < w.heap.size) => Below.heap_alloc w (.cells C 183) b h)
  have HZ1 := Lib.hid (show (w.alloc (.cells C 183)).heap.size = w.heap.size + 1 by simp)
  generalize w.alloc (.cells C 183) = W1 at *
  have hnod := hd.nodup
  simp only [List.nodup_cons, List.mem_cons, not_or] at hnod
  obtain ⟨⟨gs, gm', gp, gb⟩, ⟨sm, sp, sb⟩, ⟨mp, mb⟩, pb, bn⟩ := hnod
  have hds : bd ≠ s := fun e => hnd (by rw [hfp, e]; simp)
  have his : bi ≠ s := fun e => hni (by rw [hfp, e]; simp)
  have hxs : w.heap.size ≠ s := fun e => by have := hgl s (by simp); omega
  have HCL := Lib.hid (fun (Y : World) (hY : ∀ b, b < W1.heap.size → b ≠ s → Y.heap[b]? = W1.heap[b]?) =>
    And.intro ((cell_same (p := ⟨bd, 0, none⟩) (hY bd hD1.lt hds)).trans (hD1.cell 0)) (And.intro ((cell_same (p := ⟨bi, 0, none⟩) (hY bi hI1.lt his)).trans (hI1.cell 0))
      (And.intro ((cell_same (p := ⟨g, 0, none⟩) (hY g hG1.lt gs)).trans (hG1.cell 0)) ((hY _ hX.lt hxs).trans hX))))
  have HD1 := Lib.hid (hC1.drew)
  have hS2 : Blk W1.drew s 183 (scs D.safe).toArray := hS1
  refine wp_region_nf (fun Y => ∀ b, b < W1.heap.size → b ≠ s → Y.heap[b]? = W1.heap[b]?) (fun _ => false) [(0, true), (1, true), (2, true), (3, true), (4, true), (5, true), (6, true), (7, false)] (by kernel_rfl) rfl (by kernel_rfl) (by kernel_rfl) (fun d _ _ _ _ h => by cases d <;> exact h) ?_
  have HS := Lib.hid (show ∀ b, b < W1.heap.size → b ≠ s → W1.drew.heap[b]? = W1.heap[b]? from fun _ _ _ => rfl)
  have HZ2 := Lib.hid (show W1.drew.heap.size = W1.heap.size from rfl)
  generalize W1.drew = W2 at *
  have hkl : (k : Int) < (D.safe.length : Int) := by omega
  repeat (refine nf_pure rfl HS.out (fun Y hY => by obtain ⟨g1, g2, g3, _⟩ := HCL.out Y hY; clear hY; go_wp2; exact ⟨rfl, rfl, rfl⟩) rfl ?_ ?_; rfl)
  refine nf_pure rfl HS.out (fun Y hY => by obtain ⟨_, _, _, g5⟩ := HCL.out Y hY; clear hY; refine wpList_load_row rfl 183 (.tmp 3) rfl w.heap.size rfl 183 C (0, 0) _ g5 Tryz.underlying183 rfl (by rw [HC.out]; exact size_sec) ?_; go_wp2; exact ⟨rfl, rfl, rfl⟩) rfl ?_ ?_; rfl
  repeat (refine nf_pure rfl HS.out (fun Y hY => by obtain ⟨g1, g2, g3, _⟩ := HCL.out Y hY; clear hY; go_wp2; exact ⟨rfl, rfl, rfl⟩) rfl ?_ ?_; rfl)
  refine nf_imp rfl ?_
  refine wp_storeSec rfl (.tmp 10) (.tmp 9) rfl s D.safe hS2 hd.wf.safe k hk x hx (by go_simp) (by rw [HSV.out, HCE.out]; go_simp) ?_
  intro W3 hs3 hg3
  have hS3 : ∀ b, b < W1.heap.size → b ≠ s → W3.heap[b]? = W1.heap[b]? := fun b h1 h2 => (hg3.block b (by rw [HZ2.out]; exact h1) (fun e => h2 (by cases e; rfl))).trans (HS.out b h1 h2)
  have HS3 := Lib.hid hS3
  have hC3 : Chg (· ∈ fp) w W3 := HD1.out.trans (G := (· ∈ fp)) ⟨hg3.os, hg3.tape, hg3.output, hg3.size, fun b h1 h2 => hg3.block b h1 (fun e => h2 (by cases e; rw [hfp]; simp))⟩ (fun _ _ h => h)
  go_wp2_with fail
  refine ⟨fun _ => HS3.out, ?_⟩
  refine nf_nil ?_
  clear hS3
  go_wp2_with fail
  go_simp
  have hm3 : ∀ b, b < w.heap.size → b ≠ s → W3.drew.heap[b]? = w.heap[b]? := fun b h1 h2 => (HS3.out b (by have := HZ1.out; omega) h2).trans (HO1.out b h1)
  have c1 : W3.drew.cell? ⟨bd, 0, none⟩ = _ := (cell_same (p := ⟨bd, 0, none⟩) (hm3 bd hbd.lt hds)).trans (hbd.cell 0)
  have c2 : W3.drew.cell? ⟨bi, 0, none⟩ = _ := (cell_same (p := ⟨bi, 0, none⟩) (hm3 bi hbi.lt his)).trans (hbi.cell 0)
  have c3 : W3.drew.cell? ⟨g, 1, none⟩ = _ := (cell_same (p := ⟨g, 1, none⟩) (hm3 g hd.head.lt gs)).trans (hd.head.cell 1)
  have hp3 : MapB W3.drew m wl := hd.map.old (hm3 m (hgl m (by simp)) (Ne.symm sm))
  have HM3 := Lib.hid hm3
  have hs3' : Blk W3.drew s 183 (scs (D.safe.set k x)).toArray := hs3
  have hC3' := hC3.drew
  clear hm3
  have hdm : bd ≠ m := fun e => hnd (by rw [hfp, e]; simp)
  have him : bi ≠ m := fun e => hni (by rw [hfp, e]; simp)
  have HCV := Lib.hid (fun (Y : World) (hY : ∀ b, b < W3.drew.heap.size → b ≠ m → Y.heap[b]? = W3.drew.heap[b]?) =>
    And.intro ((cell_same (p := ⟨bd, 0, none⟩) (hY bd (cellLt c1) hdm)).trans c1) (And.intro ((cell_same (p := ⟨bi, 0, none⟩) (hY bi (cellLt c2) him)).trans c2) ((cell_same (p := ⟨g, 1, none⟩) (hY g (cellLt c3) gm')).trans c3)))
  refine wp_region_nf (fun Y => ∀ b, b < W3.drew.heap.size → b ≠ m → Y.heap[b]? = W3.drew.heap[b]?) (fun _ => false) [(0, true), (1, true), (2, true), (3, true), (4, true), (5, false)] (by kernel_rfl) rfl (by kernel_rfl) (by kernel_rfl) (fun d _ _ _ _ h => by cases d <;> exact h) ?_
  generalize W3.drew = V at *
  repeat (refine nf_pure rfl (fun _ _ _ => rfl) (fun Y hY => by obtain ⟨g1, g2, g3⟩ := HCV.out Y hY; clear hY; go_wp2; exact ⟨rfl, rfl, rfl⟩) rfl ?_ ?_; rfl)
  refine nf_imp rfl ?_
  refine wp_deleteI rfl (.tmp 14) (.tmp 15) 111 3 rfl _ Tryz.underlying111 Tryz.underlying3 m _ rfl hp3 k rfl ?_
  intro W6 hp6 hg6
  have HG6 := Lib.hid (show ∀ b, b < V.heap.size → b ≠ m → W6.heap[b]? = V.heap[b]? from fun b h1 h2 => hg6.block b h1 (fun e => h2 (by cases e; rfl)))
  have hC6 : Chg (· ∈ fp) w W6 := hC3'.trans (G := (· ∈ fp)) ⟨hg6.os, hg6.tape, hg6.output, hg6.size, fun b h1 h2 => hg6.block b h1 (fun e => h2 (by cases e; rw [hfp]; simp))⟩ (fun _ _ h => h)
  obtain ⟨bl', hpd, hbn', hbl'⟩ := hd.pends.del (k : Int) bn
  have hlt6 : ∀ b, b < w.heap.size → b < V.heap.size := fun b h => Nat.lt_of_lt_of_le h hC3'.size
  have hm6 : ∀ b, b < w.heap.size → b ≠ s → b ≠ m → W6.heap[b]? = w.heap[b]? := fun b h1 h2 h3 => (HG6.out b (hlt6 b h1) h3).trans (HM3.out b h1 h2)
  have HD6 := Lib.hid (show DrvMem W6 g (D.chOK k x) s m p (mdel wl k) bl' lv from by
    have hne : ∀ c ∈ bl', c ≠ g ∧ c ≠ s ∧ c ≠ m ∧ c ≠ p ∧ c < w.heap.size := fun c hc => by
      have h1 := hbl' c hc
      exact ⟨fun e => gb (e ▸ h1), fun e => sb (e ▸ h1), fun e => mb (e ▸ h1), fun e => pb (e ▸ h1), hgl c (by simp [h1])⟩
    have e1 : (D.chOK k x).safe = D.safe.set k x := rfl
    have e2 : (D.chOK k x).safe.length = D.safe.length := by rw [e1, List.length_set]
    refine ⟨?_, hd.left, ?_, hp6, hpd.old (fun c hc => hm6 c (hne c hc).2.2.2.2 (hne c hc).2.1 (hne c hc).2.2.1), hd.spoilt.old (hm6 p (hgl p (by simp)) (Ne.symm sp) (Ne.symm mp)), ?_, Drv.chOK_wf hd.wf hx⟩
    · rw [e2]
      exact (hm6 g (hgl g (by simp)) gs gm').trans hd.head
    · rw [e1]
      exact (HG6.out s (hlt6 s (hgl s (by simp))) sm).trans hs3'
    · refine List.nodup_cons.2 ⟨?_, List.nodup_cons.2 ⟨?_, List.nodup_cons.2 ⟨?_, List.nodup_cons.2 ⟨?_, hbn'⟩⟩⟩⟩
      · simp only [List.mem_cons, not_or]
        exact ⟨gs, gm', gp, fun e => (hne _ e).1 rfl⟩
      · simp only [List.mem_cons, not_or]
        exact ⟨sm, sp, fun e => (hne _ e).2.1 rfl⟩
      · simp only [List.mem_cons, not_or]
        exact ⟨mp, fun e => (hne _ e).2.2.1 rfl⟩
      · exact fun e => (hne _ e).2.2.2.1 rfl)
  have HFP := Lib.hid (show ∀ b ∈ g :: s :: m :: p :: bl', b ∈ fp ∨ w.heap.size ≤ b from fun b hb => by
    simp only [List.mem_cons] at hb
    left
    rw [hfp]
    rcases hb with rfl | rfl | rfl | rfl | hb
    · simp
    · simp
    · simp
    · simp
    · simp [hbl' b hb])
  have HC6 := Lib.hid hC6
  go_wp2_with fail
  refine ⟨fun _ b h1 h2 => HG6.out b h1 h2, ?_⟩
  refine nf_nil ?_
  clear hfp hm6 hC3' hp3 hp6 hg6 c1 c2 c3 hC6 hpd hbn' hbl' hlt6 hs3' hs3 hg3 hC3 hG1 hS1 hD1 hI1 hX hS2
  go_wp2_with fail
  go_end0
  exact ⟨rfl, g :: s :: m :: p :: bl', ⟨s, m, p, _, _, _, rfl, HD6.out⟩, HC6.out, HFP.out⟩
set_option maxHeartbeats 1000000 in
theorem change_any (w : World) (g : Nat) (D : Drv) (fp : List Nat) (h : DrvAt w g D fp) (i : Int) (s : Sec) :
    Calls Tryz.prog 48 #[.pointer (some ⟨g, 0, none⟩), .int .i64 i, .string s] w (WrPost w g (D.ch i s) fp (D.wrE i s)) := by
  have hb0 := (Below.refl w.heap.size w).alloc (Nat.le_refl _) (.cells #[.pointer (some ⟨g, 0, none⟩)] 33)
  have hb := hb0.alloc (by simp) (.cells #[.int .i64 i] 3)
  have h2 := h.below hb
  have HLT := Lib.hid h.lt
  have hbd := (Blk.new w 33 #[.pointer (some ⟨g, 0, none⟩)]).alloc (.cells #[.int .i64 i] 3)
  have hbi := Blk.newAt (w := w.alloc (.cells #[.pointer (some ⟨g, 0, none⟩)] 33)) (g := w.heap.size + 1) (t := 3) (cs := #[.int .i64 i]) (by simp)
  by_cases h0 : D.wrE i s = 0
  · obtain ⟨hm, hs⟩ := Drv.wrE_in h0
    have hwr : D.ch i s = D.chOK i s := by unfold Drv.ch; rw [if_pos h0]
    rw [h0, hwr]
    have HP := Lib.hid (put_yes _ g D (D.chOK i s) fp h2 i s 141 #[.pointer (some ⟨w.heap.size, 0, none⟩), .pointer (some ⟨w.heap.size + 1, 0, none⟩)] (fun _ _ => rfl) hm hs (fun w1 hw1 =>
      change1_any w1 g D fp (h2.below hw1) i s w.heap.size (w.heap.size + 1) (hbd.below hw1 hbd.lt) (hbi.below hw1 hbi.lt) (fun e => by have := HLT.out _ e; omega) (fun e => by have := HLT.out _ e; omega) hs hm))
    have HB := Lib.hid hb
    clear h0 hm hs hwr hb0 hb h2
    go_enter Tryz.func48, Tryz.ntmps48
    go_wp2_with (go_at_call 140; refine HP.out.mono ?_; rintro e w' ⟨rfl, hd⟩)
    go_ret
    exact ⟨rfl, hd.of_below HB.out HLT.out⟩
  · have hwr : D.ch i s = D := by unfold Drv.ch; rw [if_neg h0]
    rw [hwr]
    have HP := Lib.hid (put_no _ g D fp h2 i s (.func (.func 141) #[] #[.pointer (some ⟨w.heap.size, 0, none⟩), .pointer (some ⟨w.heap.size + 1, 0, none⟩)]) h0)
    have HD := Lib.hid (((DidAt.refl h2).of_below hb HLT.out))
    clear h0 hwr hb0 hb h2 hbd hbi
    generalize D.wrE i s = r at *
    go_enter Tryz.func48, Tryz.ntmps48
    go_wp2_with (go_at_call 140; refine HP.out.mono ?_; rintro e w' ⟨rfl, rfl⟩)
    go_ret
    exact ⟨rfl, HD.out⟩
set_option maxHeartbeats 1000000 in
theorem die_any (w : World) (g : Nat) (D : Drv) (fp : List Nat) (h : DrvAt w g D fp) :
    Calls Tryz.prog 52 #[.pointer (some ⟨g, 0, none⟩)] w fun e w' => e = .returned (.tuple #[]) ∧ DidAt w g D.die fp w' := by
  obtain ⟨s, m, p, wl, bl, lv, hfp, hd⟩ := h
  have hq := hd.head.cell 3
  have hf := hd.head.frozen 3
  have hnod := hd.nodup
  have HD := Lib.hid (show DrvMem (w.setCell ⟨g, 3, none⟩ (.bool true)) g D.die s m p wl bl lv from by
    have hne : ∀ c ∈ s :: m :: p :: bl, c ≠ g := fun c hc e => (List.nodup_cons.1 hnod).1 (e ▸ hc)
    exact ⟨hd.head.set_ 3 (.bool true), hd.left, hd.secs.far (hne s (by simp)) _, hd.map.old (Below.heap_setCell _ _ _ _ (hne m (by simp))), hd.pends.old (fun c hc => Below.heap_setCell _ _ _ _ (hne c (by simp [hc]))),
      hd.spoilt.old (Below.heap_setCell _ _ _ _ (hne p (by simp))), hd.nodup, Drv.die_wf hd.wf⟩)
  have HFP := Lib.hid hfp
  clear hfp hnod
  go_enter Tryz.func52, Tryz.ntmps52
  go_wp2_with fail
  go_end0
  refine ⟨rfl, fp, ⟨s, m, p, wl, bl, lv, HFP.out, HD.out⟩, (Chg.refl _ _).setCell (Or.inl (by rw [HFP.out]; simp)) _, fun b hb => Or.inl hb⟩
end Go.Proofs.YtmhmdoobadckkaaGreatDoor
/-
  DERIVED: THE SHELF's CONTRACTS AT THIS DUMP, IN PLAIN WORDS (tools/lay-plain.mjs out of 'YtmhmdoobadckkaaGreatDoorIter0.lean', which tools/lay-shelf.mjs wrote): THE SAME DECLARATIONS UNDER THE SAME NAMES: 'import', 'namespace', 'open', 'def', 'theorem' AND NOTHING ELSE: no command of the shelf's: FOR A HAND-IN. Each laying: the table of numbers ('.._ren') and one theorem, a field a fact of the dump's own or the kernel's comparison; each contract: ONE APPLICATION.
-/
namespace Go.Proofs
open Go.Shelf
def Tryz.keysW_ren : Go.Shelf.Ren := ⟨fun | 7 => 215 | 10 => 293 | n => n, fun | 23 => 111 | 26 => 3 | 3 => 110 | 28 => 137 | 0 => 0 | 27 => 136 | 33 => 179 | 4 => 4 | n => n, fun | n => n⟩
theorem Tryz.keysW : Go.Proofs.SlLaysZI.n7 Tryz.prog Tryz.keysW_ren := {
  mixed := by kernel_rfl
  f7 := ⟨Tryz.f215.name, by decide, Tryz.func215.trans (congrArg some (by kernel_rfl))⟩
  f10 := ⟨Tryz.f293.name, by decide, Tryz.func293.trans (congrArg some (by kernel_rfl))⟩
  t0 := Tryz.underlying0
  a0 := Tryz.isAgg0
  z0 := Tryz.sizeOf0
  v0 := Tryz.zeroValue0
  t4 := Tryz.underlying4
  a4 := Tryz.isAgg4
  z4 := Tryz.sizeOf4
  v4 := Tryz.zeroValue4
  t23 := Tryz.underlying111
  a23 := Tryz.isAgg111
  z23 := Tryz.sizeOf111
  v23 := Tryz.zeroValue111
  t26 := Tryz.underlying3
  a26 := Tryz.isAgg3
  z26 := Tryz.sizeOf3
  v26 := Tryz.zeroValue3
  t27 := Tryz.underlying136
  a27 := Tryz.isAgg136
  z27 := Tryz.sizeOf136
  v27 := Tryz.zeroValue136
  t28 := Tryz.underlying137
  a28 := Tryz.isAgg137
  z28 := Tryz.sizeOf137
  v28 := Tryz.zeroValue137
  t33 := Tryz.underlying179
  a33 := Tryz.isAgg179
  z33 := Tryz.sizeOf179
  v33 := Tryz.zeroValue179 }
def Tryz.keysM_ren : Go.Shelf.Ren := ⟨fun | 7 => 74 | 10 => 168 | n => n, fun | 23 => 131 | 26 => 3 | 3 => 103 | 28 => 137 | 0 => 0 | 27 => 136 | 33 => 179 | 4 => 4 | n => n, fun | n => n⟩
theorem Tryz.keysM : Go.Proofs.SlLaysZI.n7 Tryz.prog Tryz.keysM_ren := {
  mixed := by kernel_rfl
  f7 := ⟨Tryz.f74.name, by decide, Tryz.func74.trans (congrArg some (by kernel_rfl))⟩
  f10 := ⟨Tryz.f168.name, by decide, Tryz.func168.trans (congrArg some (by kernel_rfl))⟩
  t0 := Tryz.underlying0
  a0 := Tryz.isAgg0
  z0 := Tryz.sizeOf0
  v0 := Tryz.zeroValue0
  t4 := Tryz.underlying4
  a4 := Tryz.isAgg4
  z4 := Tryz.sizeOf4
  v4 := Tryz.zeroValue4
  t23 := Tryz.underlying131
  a23 := Tryz.isAgg131
  z23 := Tryz.sizeOf131
  v23 := Tryz.zeroValue131
  t26 := Tryz.underlying3
  a26 := Tryz.isAgg3
  z26 := Tryz.sizeOf3
  v26 := Tryz.zeroValue3
  t27 := Tryz.underlying136
  a27 := Tryz.isAgg136
  z27 := Tryz.sizeOf136
  v27 := Tryz.zeroValue136
  t28 := Tryz.underlying137
  a28 := Tryz.isAgg137
  z28 := Tryz.sizeOf137
  v28 := Tryz.zeroValue137
  t33 := Tryz.underlying179
  a33 := Tryz.isAgg179
  z33 := Tryz.sizeOf179
  v33 := Tryz.zeroValue179 }
def Tryz.sortedI_ren : Go.Shelf.Ren := ⟨fun | 6 => 73 | 8 => 166 | 9 => 167 | 11 => 237 | 13 => 239 | 12 => 238 | 23 => 311 | 24 => 219 | 14 => 302 | 15 => 303 | 16 => 304 | 17 => 305 | 18 => 306 | 19 => 307 | 20 => 308 | 21 => 309 | 22 => 310 | 25 => 336 | 26 => 337 | 27 => 338 | 28 => 339 | 29 => 340 | 30 => 341 | 31 => 353 | n => n, fun | 26 => 3 | 28 => 137 | 24 => 30 | 0 => 0 | 3 => 3 | 37 => 200 | 48 => 216 | 50 => 49 | 4 => 4 | 40 => 353 | 39 => 352 | 45 => 357 | 5 => 5 | 9 => 9 | 51 => 395 | 55 => 97 | 57 => 409 | 58 => 381 | 33 => 179 | n => n, fun | n => n⟩
theorem Tryz.sortedI : Go.Proofs.SlLaysZI.n6 Tryz.prog Tryz.sortedI_ren := {
  mixed := by kernel_rfl
  f6 := ⟨Tryz.f73.name, by decide, Tryz.func73.trans (congrArg some (by kernel_rfl))⟩
  f8 := ⟨Tryz.f166.name, by decide, Tryz.func166.trans (congrArg some (by kernel_rfl))⟩
  f11 := ⟨Tryz.f237.name, by decide, Tryz.func237.trans (congrArg some (by kernel_rfl))⟩
  t0 := Tryz.underlying0
  a0 := Tryz.isAgg0
  z0 := Tryz.sizeOf0
  v0 := Tryz.zeroValue0
  t24 := Tryz.underlying30
  a24 := Tryz.isAgg30
  z24 := Tryz.sizeOf30
  v24 := Tryz.zeroValue30
  t26 := Tryz.underlying3
  a26 := Tryz.isAgg3
  z26 := Tryz.sizeOf3
  v26 := Tryz.zeroValue3
  t28 := Tryz.underlying137
  a28 := Tryz.isAgg137
  z28 := Tryz.sizeOf137
  v28 := Tryz.zeroValue137
  i26 := by kernel_rfl }
def Tryz.sortI_ren : Go.Shelf.Ren := ⟨fun | 5 => 167 | 8 => 239 | 7 => 238 | 19 => 311 | 20 => 219 | 10 => 302 | 11 => 303 | 12 => 304 | 13 => 305 | 14 => 306 | 15 => 307 | 16 => 308 | 17 => 309 | 18 => 310 | 30 => 336 | 31 => 337 | 32 => 338 | 33 => 339 | 34 => 340 | 35 => 341 | 40 => 353 | n => n, fun | 23 => 30 | 25 => 3 | 3 => 3 | 32 => 200 | 22 => 30 | 0 => 0 | 44 => 216 | 46 => 49 | 4 => 4 | 36 => 353 | 35 => 352 | 41 => 357 | 5 => 5 | 9 => 9 | 53 => 395 | 57 => 97 | 63 => 409 | 64 => 381 | n => n, fun | n => n⟩
theorem Tryz.sortI : Go.Proofs.SlLaysM.n5 Tryz.prog Tryz.sortI_ren := {
  mixed := by kernel_rfl
  f5 := ⟨Tryz.f167.name, by decide, Tryz.func167.trans (congrArg some (by kernel_rfl))⟩
  f7 := ⟨Tryz.f238.name, by decide, Tryz.func238.trans (congrArg some (by kernel_rfl))⟩
  f8 := Tryz.func239.trans (congrArg some (by kernel_rfl))
  f10 := ⟨Tryz.f302.name, by decide, Tryz.func302.trans (congrArg some (by kernel_rfl))⟩
  f11 := ⟨Tryz.f303.name, by decide, Tryz.func303.trans (congrArg some (by kernel_rfl))⟩
  f12 := ⟨Tryz.f304.name, by decide, Tryz.func304.trans (congrArg some (by kernel_rfl))⟩
  f13 := ⟨Tryz.f305.name, by decide, Tryz.func305.trans (congrArg some (by kernel_rfl))⟩
  f14 := ⟨Tryz.f306.name, by decide, Tryz.func306.trans (congrArg some (by kernel_rfl))⟩
  f15 := ⟨Tryz.f307.name, by decide, Tryz.func307.trans (congrArg some (by kernel_rfl))⟩
  f16 := ⟨Tryz.f308.name, by decide, Tryz.func308.trans (congrArg some (by kernel_rfl))⟩
  f17 := ⟨Tryz.f309.name, by decide, Tryz.func309.trans (congrArg some (by kernel_rfl))⟩
  f18 := ⟨Tryz.f310.name, by decide, Tryz.func310.trans (congrArg some (by kernel_rfl))⟩
  f19 := Tryz.func311.trans (congrArg some (by kernel_rfl))
  f20 := Tryz.func219.trans (congrArg some (by kernel_rfl))
  f30 := ⟨Tryz.f336.name, by decide, Tryz.func336.trans (congrArg some (by kernel_rfl))⟩
  f31 := Tryz.func337.trans (congrArg some (by kernel_rfl))
  f32 := Tryz.func338.trans (congrArg some (by kernel_rfl))
  f33 := ⟨Tryz.f339.name, by decide, Tryz.func339.trans (congrArg some (by kernel_rfl))⟩
  f34 := ⟨Tryz.f340.name, by decide, Tryz.func340.trans (congrArg some (by kernel_rfl))⟩
  f35 := ⟨Tryz.f341.name, by decide, Tryz.func341.trans (congrArg some (by kernel_rfl))⟩
  f40 := ⟨Tryz.f353.name, by decide, Tryz.func353.trans (congrArg some (by kernel_rfl))⟩
  t0 := Tryz.underlying0
  a0 := Tryz.isAgg0
  z0 := Tryz.sizeOf0
  v0 := Tryz.zeroValue0
  t3 := Tryz.underlying3
  a3 := Tryz.isAgg3
  z3 := Tryz.sizeOf3
  v3 := Tryz.zeroValue3
  t4 := Tryz.underlying4
  a4 := Tryz.isAgg4
  z4 := Tryz.sizeOf4
  v4 := Tryz.zeroValue4
  t5 := Tryz.underlying5
  a5 := Tryz.isAgg5
  z5 := Tryz.sizeOf5
  v5 := Tryz.zeroValue5
  t9 := Tryz.underlying9
  a9 := Tryz.isAgg9
  z9 := Tryz.sizeOf9
  v9 := Tryz.zeroValue9
  t22 := Tryz.underlying30
  a22 := Tryz.isAgg30
  z22 := Tryz.sizeOf30
  v22 := Tryz.zeroValue30
  t23 := Tryz.underlying30
  a23 := Tryz.isAgg30
  z23 := Tryz.sizeOf30
  v23 := Tryz.zeroValue30
  t25 := Tryz.underlying3
  a25 := Tryz.isAgg3
  z25 := Tryz.sizeOf3
  v25 := Tryz.zeroValue3
  t32 := Tryz.underlying200
  a32 := Tryz.isAgg200
  z32 := Tryz.sizeOf200
  v32 := Tryz.zeroValue200
  t35 := Tryz.underlying352
  a35 := Tryz.isAgg352
  z35 := Tryz.sizeOf352
  v35 := Tryz.zeroValue352
  t36 := Tryz.underlying353
  a36 := Tryz.isAgg353
  z36 := Tryz.sizeOf353
  v36 := Tryz.zeroValue353
  t41 := Tryz.underlying357
  a41 := Tryz.isAgg357
  z41 := Tryz.sizeOf357
  v41 := Tryz.zeroValue357
  t44 := Tryz.underlying216
  a44 := Tryz.isAgg216
  z44 := Tryz.sizeOf216
  v44 := Tryz.zeroValue216
  t46 := Tryz.underlying49
  a46 := Tryz.isAgg49
  z46 := Tryz.sizeOf49
  v46 := Tryz.zeroValue49
  t53 := Tryz.underlying395
  a53 := Tryz.isAgg395
  z53 := Tryz.sizeOf395
  v53 := Tryz.zeroValue395
  t57 := Tryz.underlying97
  a57 := Tryz.isAgg97
  z57 := Tryz.sizeOf97
  v57 := Tryz.zeroValue97
  t63 := Tryz.underlying409
  a63 := Tryz.isAgg409
  z63 := Tryz.sizeOf409
  v63 := Tryz.zeroValue409
  t64 := Tryz.underlying381
  a64 := Tryz.isAgg381
  z64 := Tryz.sizeOf381
  v64 := Tryz.zeroValue381 }
end Go.Proofs
namespace Go.Proofs.YtmhmdoobadckkaaGreatDoor
set_option maxRecDepth 20000
open Go.RowKit Go.OpenShut

/-- a slice of integers that reads as xs, in a block below B (nil let in) -/
def IntsA (w : World) (B : Nat) (k : IntKind) (A : Option Addr) (n : Nat) (xs : List Int) : Prop :=
  xs.length = n ∧ (0 < n → ∃ b off, A = some ⟨b, off, none⟩ ∧ b < B ∧ ∀ j, j < n → w.cell? ⟨b, off + j, none⟩ = some (.int k (xs.getD j 0)))
theorem IntsA.below {w w' : World} {B : Nat} {k : IntKind} {A : Option Addr} {n : Nat} {xs : List Int} (h : IntsA w B k A n xs) (hb : Below B w w') : IntsA w' B k A n xs :=
  ⟨h.1, fun h0 => by
    obtain ⟨b, off, e, hlt, hc⟩ := h.2 h0
    exact ⟨b, off, e, hlt, fun j hj => (hb.cell (p := ⟨b, off + j, none⟩) hlt).trans (hc j hj)⟩⟩
theorem IntsA.mono {w : World} {B B' : Nat} {k : IntKind} {A : Option Addr} {n : Nat} {xs : List Int} (h : IntsA w B k A n xs) (hB : B ≤ B') : IntsA w B' k A n xs :=
  ⟨h.1, fun h0 => by
    obtain ⟨b, off, e, hlt, hc⟩ := h.2 h0
    exact ⟨b, off, e, Nat.lt_of_lt_of_le hlt hB, hc⟩⟩

def fitsB (n : Nat) (w : Int) : Bool := decide (1 ≤ w ∧ w ≤ 8) && decide (n < 256 ^ w.toNat)

theorem fits_eq (n k : Nat) (h1 : 1 ≤ k) (h2 : k ≤ 8) : ((n : Int) / ((256 ^ k : Nat) : Int) == 0) = fitsB n (k : Int) := by
  have hp : 0 < 256 ^ k := Nat.pow_pos (by omega)
  have h3 : (n : Int) / ((256 ^ k : Nat) : Int) = ((n / 256 ^ k : Nat) : Int) := by simp
  rw [h3, Bool.eq_iff_iff]
  unfold fitsB
  rw [decide_eq_true (show 1 ≤ (k : Int) ∧ (k : Int) ≤ 8 by omega)]
  simp only [beq_iff_eq, Bool.true_and, decide_eq_true_eq, Int.toNat_natCast]
  rw [← Nat.div_eq_zero_iff_lt hp]
  omega
theorem ret_bool {a b : Bool} (h : a = b) : Ending.returned (.bool a) = .returned (.bool b) := by rw [h]
set_option maxHeartbeats 1000000 in
theorem fits_any (w : World) (n : Nat) (hn : n < 18446744073709551616) (x : Int) :
    Calls Tryz.prog 230 #[.int .u64 n, .int .i64 x] w fun e w' => e = .returned (.bool (fitsB n x)) ∧ w = w' := by
  by_cases h8 : x = 8
  · subst h8
    have hf : fitsB n 8 = true := by unfold fitsB; simp; omega
    rw [hf]
    go_enter Tryz.func230, Tryz.ntmps230
    go_wp2
    go_ret
    exact ⟨rfl, rfl⟩
  · by_cases h0 : 0 < x ∧ x < 8
    · have hx : x = 1 ∨ x = 2 ∨ x = 3 ∨ x = 4 ∨ x = 5 ∨ x = 6 ∨ x = 7 := by omega
      clear h8 h0
      rcases hx with rfl | rfl | rfl | rfl | rfl | rfl | rfl
      · go_enter Tryz.func230, Tryz.ntmps230
        go_wp2
        go_ret
        exact ⟨ret_bool (fits_eq n 1 (by omega) (by omega)), rfl⟩
      · go_enter Tryz.func230, Tryz.ntmps230
        go_wp2
        go_ret
        exact ⟨ret_bool (fits_eq n 2 (by omega) (by omega)), rfl⟩
      · go_enter Tryz.func230, Tryz.ntmps230
        go_wp2
        go_ret
        exact ⟨ret_bool (fits_eq n 3 (by omega) (by omega)), rfl⟩
      · go_enter Tryz.func230, Tryz.ntmps230
        go_wp2
        go_ret
        exact ⟨ret_bool (fits_eq n 4 (by omega) (by omega)), rfl⟩
      · go_enter Tryz.func230, Tryz.ntmps230
        go_wp2
        go_ret
        exact ⟨ret_bool (fits_eq n 5 (by omega) (by omega)), rfl⟩
      · go_enter Tryz.func230, Tryz.ntmps230
        go_wp2
        go_ret
        exact ⟨ret_bool (fits_eq n 6 (by omega) (by omega)), rfl⟩
      · go_enter Tryz.func230, Tryz.ntmps230
        go_wp2
        go_ret
        exact ⟨ret_bool (fits_eq n 7 (by omega) (by omega)), rfl⟩
    · have hf : fitsB n x = false := by unfold fitsB; simp; omega
      rw [hf]
      have hb : (x == 8) = false := beq_eq_false_iff_ne.2 h8
      by_cases h1 : 0 < x
      · have h2 : ¬ x < 8 := by omega
        clear h0 h8
        go_enter Tryz.func230, Tryz.ntmps230
        go_wp2
        go_ret
        exact ⟨rfl, rfl⟩
      · clear h0 h8
        go_enter Tryz.func230, Tryz.ntmps230
        go_wp2
        go_ret
        exact ⟨rfl, rfl⟩

/-- widths that may be -/
def wOK (ws : List Int) : Bool := ws.all (fun x => decide (1 ≤ x ∧ x ≤ 8)) && decide (ws.length ≤ 64)
def sumW : List Int → Int
  | [] => 0
  | x :: r => x + sumW r
theorem sumW_snoc (l : List Int) (x : Int) : sumW (l ++ [x]) = sumW l + x := by
  induction l with
  | nil => simp [sumW]
  | cons y l ih => simp only [List.cons_append, sumW, ih]; omega
theorem sumW_bd (l : List Int) (h : ∀ x ∈ l, 1 ≤ x ∧ x ≤ 8) : (l.length : Int) ≤ sumW l ∧ sumW l ≤ 8 * l.length := by
  induction l with
  | nil => simp [sumW]
  | cons y l ih =>
    have h1 := h y (by simp)
    have h2 := ih (fun x hx => h x (by simp [hx]))
    simp only [sumW, List.length_cons]
    omega
theorem take_snocI (l : List Int) (k : Nat) (h : k < l.length) : l.take (k + 1) = l.take k ++ [l.getD k 0] := by
  rw [List.take_succ_eq_append_getElem h]
  simp [List.getD, h]

def sizeN (ws : List Int) : Int := if wOK ws then sumW ws else 0
def sizeE (ws : List Int) : Int := if wOK ws then 0 else 1
theorem size_no {ws : List Int} (h : wOK ws = false) : sizeN ws = 0 ∧ sizeE ws = 1 := by unfold sizeN sizeE; rw [h]; exact ⟨rfl, rfl⟩
theorem size_yes {ws : List Int} (h : wOK ws = true) : sizeN ws = sumW ws ∧ sizeE ws = 0 := by unfold sizeN sizeE; rw [h]; exact ⟨rfl, rfl⟩
set_option maxHeartbeats 1000000 in
theorem size_any (w : World) (B : Nat) (A : Option Addr) (n c : Nat) (ws : List Int) (h : IntsA w B .i64 A n ws) (hn : n ≤ 4294967295) :
    Calls Tryz.prog 158 #[.slice A n c] w fun e w' => e = .returned (.tuple #[.int .i64 (sizeN ws), .int .i64 (sizeE ws)]) ∧ w = w' := by
  have hl := h.1
  have HL := Lib.hid hl
  clear hl
  go_enter Tryz.func158, Tryz.ntmps158
  go_wp2
  go_loop [4, 9] (fun t i => ∃ k : Nat, k ≤ n ∧ i = .int .i64 k ∧ t = .int .i64 (sumW (ws.take k)) ∧ (∀ x ∈ ws.take k, 1 ≤ x ∧ x ≤ 8)) (fun _ i => n - (intOf i).toNat)
  case atStart => exact ⟨0, by omega, rfl, rfl, by simp⟩
  case round =>
    obtain ⟨k, hk, rfl, rfl, hall⟩ := hrel
    have hbd := sumW_bd _ hall
    have hlt' : (ws.take k).length ≤ k := List.length_take_le _ _
    have hb0 : 0 ≤ sumW (ws.take k) := by omega
    have hb1 : sumW (ws.take k) ≤ 34359738360 := by omega
    by_cases hlt : k < n
    · obtain ⟨b, off, rfl, _, hc⟩ := h.2 (by omega)
      have hck := hc k hlt
      have hts := take_snocI ws k (by rw [HL.out]; exact hlt)
      have HTS := Lib.hid hts
      have hx : ws.getD k 0 ∈ ws := by
        have : k < ws.length := by rw [HL.out]; exact hlt
        simp [List.getD, this]
      obtain ⟨x, hxe⟩ : ∃ x, ws.getD k 0 = x := ⟨_, rfl⟩
      have HX := Lib.hid hxe
      rw [hxe] at hck hx
      have HM := Lib.hid hx
      obtain ⟨t, ht⟩ : ∃ t, sumW (ws.take k) = t := ⟨_, rfl⟩
      have HT := Lib.hid ht
      rw [ht] at hb0 hb1 ⊢
      clear hc hbd hts hxe hx hlt' ht
      have HA := Lib.hid hall
      clear hall
      by_cases hr : 1 ≤ x ∧ x ≤ 8
      · obtain ⟨hr1, hr2⟩ := hr
        go_wp2
        go_round
        case rel => 
          refine ⟨k + 1, by omega, by go_num, ?_, ?_⟩
          · rw [HTS.out, sumW_snoc, HT.out, HX.out]
          · rw [HTS.out, HX.out]
            intro y hy
            rcases List.mem_append.1 hy with hy | hy
            · exact HA.out y hy
            · simp at hy
              subst hy
              exact ⟨hr1, hr2⟩
        case measure => simp [intOf]; omega
      · have hno : wOK ws = false := by
          unfold wOK
          rw [Bool.and_eq_false_iff]
          left
          rw [List.all_eq_false]
          exact ⟨x, HM.out, by simpa using fun h1 => by omega⟩
        have HNO := Lib.hid hno
        clear hno
        by_cases hx1 : x < 1
        · clear hr
          go_wp2
          go_ret2
          exact ⟨by rw [(size_no HNO.out).1, (size_no HNO.out).2]; rfl, rfl⟩
        · have hx8 : 8 < x := by omega
          clear hr
          go_wp2
          go_ret2
          exact ⟨by rw [(size_no HNO.out).1, (size_no HNO.out).2]; rfl, rfl⟩
    · obtain rfl : k = n := by omega
      have hta : ws.take k = ws := List.take_of_length_le (by rw [HL.out]; omega)
      rw [hta] at hall hb0 hb1 ⊢
      by_cases h64 : k ≤ 64
      · have hok : wOK ws = true := by
          unfold wOK
          rw [List.all_eq_true.2 (fun x hx => by simpa using hall x hx), decide_eq_true (by rw [HL.out]; exact h64)]
          rfl
        have HOK := Lib.hid hok
        clear hok hall hta
        go_wp2
        go_ret2
        exact ⟨by rw [(size_yes HOK.out).1, (size_yes HOK.out).2]; rfl, rfl⟩
      · have hno : wOK ws = false := by
          unfold wOK
          rw [decide_eq_false (by rw [HL.out]; exact h64)]
          simp
        have HNO := Lib.hid hno
        clear hno hall hta
        go_wp2
        go_ret2
        exact ⟨by rw [(size_no HNO.out).1, (size_no HNO.out).2]; rfl, rfl⟩
end Go.Proofs.YtmhmdoobadckkaaGreatDoor
