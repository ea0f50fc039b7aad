import Derived.Test.YtaghdkiafgainaaDoorGfMake
namespace Go.Proofs.YtaghdkiafgainaaDoor
set_option maxRecDepth 20000
open Go.RowKit Go.OpenShut

/-- a table whole -/
structure Tab (W : World) (g : Nat) : Prop where
  e1 : ∀ i, i < 255 → W.cell? ⟨g, 4 + i, none⟩ = some (.int .u8 (pw i : Nat))
  e2 : ∀ i, i < 255 → W.cell? ⟨g, 4 + (i + 255), none⟩ = some (.int .u8 (pw i : Nat))
  lo : ∀ i, i < 255 → W.cell? ⟨g, 514 + pw i, none⟩ = some (.int .i64 i)
  made : W.cell? ⟨g, 3, none⟩ = some (.int .i32 1)
theorem Tab.below {W W' : World} {g : Nat} (h : Tab W g) (hb : Below W.heap.size W W') (hg : g < W.heap.size) : Tab W' g :=
  ⟨fun i hi => (hb.cell (p := ⟨g, _, none⟩) hg).trans (h.e1 i hi), fun i hi => (hb.cell (p := ⟨g, _, none⟩) hg).trans (h.e2 i hi), fun i hi => (hb.cell (p := ⟨g, _, none⟩) hg).trans (h.lo i hi), (hb.cell (p := ⟨g, _, none⟩) hg).trans h.made⟩

theorem bool_load (a : Addr) (w : World) (h0 : w.cell? a = some (.int .u32 0)) :
    Calls Tryd.prog 52 #[.pointer (some a)] w fun e w' => e = .returned (.bool false) ∧ w' = w := by
  have hl := run_call_load (P := Tryd.prog) Tryd.func59 (by kernel_rfl) (by kernel_rfl) (by kernel_rfl) .u32 (by kernel_rfl) h0
  go_enter Tryd.func52, Tryd.ntmps52
  go_wp2
  go_ret
  exact ⟨rfl, rfl⟩

set_option maxRecDepth 100000 in
set_option maxHeartbeats 1600000 in
theorem slow_any (g : Nat) (w : World) (hex : ∀ j, j < 770 → (w.cell? ⟨g, j, none⟩).isSome = true) (hfr : ∀ j, j < 770 → w.frozen? ⟨g, j, none⟩ = false)
    (h0 : w.cell? ⟨g, 0, none⟩ = some (.int .u32 0)) (h1 : w.cell? ⟨g, 1, none⟩ = some (.int .i32 0)) (h3 : w.cell? ⟨g, 3, none⟩ = some (.int .i32 0)) :
    Calls Tryd.prog 53 #[.pointer (some ⟨g, 0, none⟩), .func (.func 48) #[.pointer (some ⟨g, 0, none⟩)] #[]] w fun e w' => e = .returned (.tuple #[]) ∧
      ∃ W2, TabK ((w.setCell ⟨g, 1, none⟩ (.int .i32 1)).setCell ⟨g, 3, none⟩ (.int .i32 1)) W2 g 255 ∧ w' = (W2.drew.setCell ⟨g, 0, none⟩ (.int .u32 1)).setCell ⟨g, 1, none⟩ (.int .i32 0) := by
  have hex1 : ∀ j, j < 770 → ((w.setCell ⟨g, 1, none⟩ (.int .i32 1)).cell? ⟨g, j, none⟩).isSome = true := fun j hj => by
    rw [cell_set _ _ _ _ _ (hex j hj)]
    split
    · rfl
    · exact hex j hj
  have hfr1 : ∀ j, j < 770 → (w.setCell ⟨g, 1, none⟩ (.int .i32 1)).frozen? ⟨g, j, none⟩ = false := fun j hj => by rw [World.frozen?_setCell]; exact hfr j hj
  have h01 : (w.setCell ⟨g, 1, none⟩ (.int .i32 1)).cell? ⟨g, 0, none⟩ = some (.int .u32 0) := (World.cell?_setCell_other _ ⟨g, 1, none⟩ ⟨g, 0, none⟩ _ (by simp)).trans h0
  have h31 : (w.setCell ⟨g, 1, none⟩ (.int .i32 1)).cell? ⟨g, 3, none⟩ = some (.int .i32 0) := (World.cell?_setCell_other _ ⟨g, 1, none⟩ ⟨g, 3, none⟩ _ (by simp)).trans h3
  have hf1 := hfr 1 (by omega)
  have hnot : ∀ (x : Bool) (w : World), (Op.unary .not (.bool x)).run Tryd.prog w = .ok (.bool (!x)) w := fun _ _ => rfl
  have HE := Lib.hid hex1
  have HF := Lib.hid hfr1
  clear hex hex1 hfr hfr1
  go_enter_defers Tryd.func53, Tryd.ntmps53
  go_wp2_with fail
  refine (lock_free ⟨g, 1, none⟩ _ h1 hf1).mono ?_
  rintro e w' ⟨rfl, rfl⟩
  go_wp2_with fail
  refine (bool_load ⟨g, 0, none⟩ _ h01).mono ?_
  rintro e w' ⟨rfl, rfl⟩
  go_wp2_with fail
  refine (make_any g _ HE.out HF.out h31).mono ?_
  rintro e W2 ⟨rfl, hT⟩
  go_wp2_with fail
  have h2 := hT.low 0 (by omega)
  have h12 := hT.low 1 (by omega)
  rw [World.cell?_setCell_other _ ⟨g, 3, none⟩ ⟨g, 0, none⟩ _ (by simp), h01] at h2
  rw [World.cell?_setCell_other _ ⟨g, 3, none⟩ ⟨g, 1, none⟩ _ (by simp), World.cell?_setCell_same w _ _ h1] at h12
  refine leaves_cons (f := 62) (args := #[.pointer (some ⟨g, 0, none⟩), .bool true]) (by simp) (by simp [go_sem]) ?_
  refine (store_deferred ⟨g, 0, none⟩ (.int .u32 0) .returning _ h2 (hT.fr 0 (by omega))).mono ?_
  rintro e u' w'' ⟨rfl, rfl, rfl⟩
  refine leaves_cons (f := 61) (args := #[.pointer (some ⟨g, 1, none⟩)]) (by simp [settle]) (by simp [go_sem]) ?_
  refine (unlock_deferred ⟨g, 1, none⟩ _ _ ?_ ?_).mono ?_
  · exact (World.cell?_setCell_other _ ⟨g, 0, none⟩ ⟨g, 1, none⟩ _ (by simp)).trans h12
  · rw [World.frozen?_setCell]
    exact hT.fr 1 (by omega)
  rintro e u' w'' ⟨rfl, rfl, rfl⟩
  simp [Leaves, settle, results, Tryd.results53]
  exact ⟨W2, hT, rfl⟩

set_option maxRecDepth 100000 in
set_option maxHeartbeats 1600000 in
theorem do_any (g : Nat) (w : World) (hex : ∀ j, j < 770 → (w.cell? ⟨g, j, none⟩).isSome = true) (hfr : ∀ j, j < 770 → w.frozen? ⟨g, j, none⟩ = false)
    (h0 : w.cell? ⟨g, 0, none⟩ = some (.int .u32 0)) (h1 : w.cell? ⟨g, 1, none⟩ = some (.int .i32 0)) (h3 : w.cell? ⟨g, 3, none⟩ = some (.int .i32 0)) :
    Calls Tryd.prog 47 #[.pointer (some ⟨g, 0, none⟩), .func (.func 48) #[.pointer (some ⟨g, 0, none⟩)] #[]] w fun e w' => e = .returned (.tuple #[]) ∧
      ∃ W2, TabK ((w.setCell ⟨g, 1, none⟩ (.int .i32 1)).setCell ⟨g, 3, none⟩ (.int .i32 1)) W2 g 255 ∧ w' = (W2.drew.setCell ⟨g, 0, none⟩ (.int .u32 1)).setCell ⟨g, 1, none⟩ (.int .i32 0) := by
  have hnot : ∀ (x : Bool) (w : World), (Op.unary .not (.bool x)).run Tryd.prog w = .ok (.bool (!x)) w := fun _ _ => rfl
  go_enter Tryd.func47, Tryd.ntmps47
  go_wp2_with fail
  refine (bool_load ⟨g, 0, none⟩ _ h0).mono ?_
  rintro e w' ⟨rfl, rfl⟩
  go_wp2_with fail
  refine (slow_any g _ hex hfr h0 h1 h3).mono ?_
  rintro e w' ⟨rfl, W2, hT, rfl⟩
  clear hex hfr h0 h1 h3
  go_wp2_with fail
  go_end0
  exact ⟨rfl, W2, hT, rfl⟩

theorem tab_of {w W2 : World} {g : Nat} (h3 : (w.cell? ⟨g, 3, none⟩).isSome = true) (hT : TabK ((w.setCell ⟨g, 1, none⟩ (.int .i32 1)).setCell ⟨g, 3, none⟩ (.int .i32 1)) W2 g 255) :
    Tab ((W2.drew.setCell ⟨g, 0, none⟩ (.int .u32 1)).setCell ⟨g, 1, none⟩ (.int .i32 0)) g ∧ Below g w ((W2.drew.setCell ⟨g, 0, none⟩ (.int .u32 1)).setCell ⟨g, 1, none⟩ (.int .i32 0)) := by
  have hc : ∀ j, 2 ≤ j → ((W2.drew.setCell ⟨g, 0, none⟩ (.int .u32 1)).setCell ⟨g, 1, none⟩ (.int .i32 0)).cell? ⟨g, j, none⟩ = W2.cell? ⟨g, j, none⟩ := fun j hj =>
    (World.cell?_setCell_other _ ⟨g, 1, none⟩ ⟨g, j, none⟩ _ (fun h => by have := (Addr.mk.inj h).2.1; omega)).trans (World.cell?_setCell_other _ ⟨g, 0, none⟩ ⟨g, j, none⟩ _ (fun h => by have := (Addr.mk.inj h).2.1; omega))
  refine ⟨⟨fun i hi => (hc _ (by omega)).trans (hT.e1 i hi), fun i hi => (hc _ (by omega)).trans (hT.e2 i hi), fun i hi => (hc _ (by omega)).trans (hT.lo i hi), ?_⟩, ?_⟩
  · rw [hc 3 (by omega), hT.low 3 (by omega)]
    obtain ⟨v, hv⟩ := Option.isSome_iff_exists.1 h3
    exact World.cell?_setCell_same _ _ _ ((World.cell?_setCell_other _ ⟨g, 1, none⟩ ⟨g, 3, none⟩ _ (by simp)).trans hv)
  · exact ((((((Below.refl g w).setCell (by show g ≤ g; omega) _).setCell (by show g ≤ g; omega) _).trans hT.bel).drew).setCell (by show g ≤ g; omega) _).setCell (by show g ≤ g; omega) _

set_option maxRecDepth 100000 in
theorem ready_any (g : Nat) (w : World) (hex : ∀ j, j < 770 → (w.cell? ⟨g, j, none⟩).isSome = true) (hfr : ∀ j, j < 770 → w.frozen? ⟨g, j, none⟩ = false)
    (h0 : w.cell? ⟨g, 0, none⟩ = some (.int .u32 0)) (h1 : w.cell? ⟨g, 1, none⟩ = some (.int .i32 0)) (h3 : w.cell? ⟨g, 3, none⟩ = some (.int .i32 0)) :
    Calls Tryd.prog 42 #[.pointer (some ⟨g, 0, none⟩)] w fun e w' => e = .returned (.pointer (some ⟨g, 0, none⟩)) ∧ Tab w' g ∧ Below g w w' := by
  go_enter Tryd.func42, Tryd.ntmps42
  go_wp2_with fail
  refine (do_any g _ hex hfr h0 h1 h3).mono ?_
  rintro e w' ⟨rfl, W2, hT, rfl⟩
  obtain ⟨t1, t2⟩ := tab_of (by rw [h3]; rfl) hT
  clear hex hfr h0 h1 hT h3
  go_wp2_with fail
  go_ret
  exact ⟨rfl, t1, t2⟩

theorem zt_low : zt[0]? = some (.int .u32 0) ∧ zt[1]? = some (.int .i32 0) ∧ zt[3]? = some (.int .i32 0) := by
  refine ⟨?_, ?_, ?_⟩ <;> simp [zt]
set_option maxRecDepth 100000 in
/-- NEW TABLES -/
theorem fresh_any (w : World) :
    Calls Tryd.prog 30 #[] w fun e w' => e = .returned (.pointer (some ⟨w.heap.size, 0, none⟩)) ∧ Tab w' w.heap.size ∧ Below w.heap.size w w' ∧ w.heap.size < w'.heap.size := by
  have hz := run_zt
  have hk := Blk.new w 69 zt
  have hc : ∀ j, (w.alloc (.cells zt 69)).cell? ⟨w.heap.size, j, none⟩ = zt[j]? := fun j => hk.cell j
  have hb := (Below.refl w.heap.size w).alloc (Nat.le_refl _) (.cells zt 69)
  have hs : (w.alloc (.cells zt 69)).heap.size = w.heap.size + 1 := by simp
  have hex : ∀ j, j < 770 → ((w.alloc (.cells zt 69)).cell? ⟨w.heap.size, j, none⟩).isSome = true := fun j hj => by
    rw [hc j, Array.getElem?_eq_getElem (by rw [zt_size]; exact hj)]
    rfl
  have hfr : ∀ j, j < 770 → (w.alloc (.cells zt 69)).frozen? ⟨w.heap.size, j, none⟩ = false := fun j _ => hk.frozen j
  have h0 : (w.alloc (.cells zt 69)).cell? ⟨w.heap.size, 0, none⟩ = some (.int .u32 0) := (hc 0).trans zt_low.1
  have h1 : (w.alloc (.cells zt 69)).cell? ⟨w.heap.size, 1, none⟩ = some (.int .i32 0) := (hc 1).trans zt_low.2.1
  have h3 : (w.alloc (.cells zt 69)).cell? ⟨w.heap.size, 3, none⟩ = some (.int .i32 0) := (hc 3).trans zt_low.2.2
  clear hk hc
  have HX := Lib.hid hex
  have HF := Lib.hid hfr
  clear hex hfr
  go_enter Tryd.func30, Tryd.ntmps30
  go_wp2_with fail
  refine (ready_any _ _ HX.out HF.out h0 h1 h3).mono ?_
  rintro e w' ⟨rfl, t1, t2⟩
  have hsz := t2.size
  have hbb := hb.trans t2
  rw [hs] at hsz
  clear hz h0 h1 h3 t2 hb hs HX HF
  go_wp2_with fail
  go_ret
  exact ⟨rfl, t1, hbb, by omega⟩
end Go.Proofs.YtaghdkiafgainaaDoor
