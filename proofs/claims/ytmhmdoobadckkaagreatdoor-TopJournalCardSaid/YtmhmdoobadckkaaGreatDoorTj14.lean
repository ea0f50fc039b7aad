/- Own texts, joined: TopJ. -/
import Derived.Test.YtmhmdoobadckkaaGreatDoorTj13
/- TopJournal: the walk. -/
namespace Go.Proofs.YtmhmdoobadckkaaGreatDoor
set_option maxRecDepth 20000
open Go.RowKit Go.OpenShut

set_option maxRecDepth 100000 in
set_option maxHeartbeats 8000000 in
theorem topJournal_walk (A : Option Addr) (n c : Nat) (at_ : Int) (d : ByteArray) (xs : List ByteArray) (w : World) (hx : StrsIn w A n c xs) (ha : (Lit.int .u8 at_).wf = true) (hd : d.size ≤ maxLen) :
    Calls Tryz.prog 3 #[.slice A n c, .int .u8 at_, .string d] w fun e w' => e = .returned (.bool true) ∧ Below w.heap.size w w' := by
  obtain ⟨hxs, hnc, hcm, hA, hxz⟩ := hx
  unfold maxLen at hcm hd
  have HV := Lib.hid (heavyT_any w A n c xs hxs (by unfold maxLen; omega))
  have HSH := Lib.hid shown_top
  cases hhv : heavyT xs with
  | true =>
    rw [hhv] at HV
    clear hxs hnc hcm hA hxz ha hhv
    go_enter Tryz.func3, Tryz.ntmps3
    go_wp2_with fail
    refine HV.out.mono ?_
    rintro e w1 ⟨rfl, rfl⟩
    go_wp2_with fail
    refine (HSH.out w).mono ?_
    rintro e w2 ⟨rfl, hb⟩
    have HB := Lib.hid hb
    clear hb
    go_wp2_with fail
    go_ret
    exact ⟨rfl, HB.out⟩
  | false =>
    rw [hhv] at HV
    obtain ⟨hn40, hx100⟩ := (heavyT_no xs).1 hhv
    have hnl : xs.length = n := hxs.1
    by_cases h100 : 100 < d.size
    · have h100' : (100 : Int) < d.size := by omega
      clear hxs hnc hcm hA hxz ha hhv hn40 hx100 hnl
      go_enter Tryz.func3, Tryz.ntmps3
      go_wp2_with fail
      refine HV.out.mono ?_
      rintro e w1 ⟨rfl, rfl⟩
      go_wp2_with fail
      refine (HSH.out w).mono ?_
      rintro e w2 ⟨rfl, hb⟩
      have HB := Lib.hid hb
      clear hb
      go_wp2_with fail
      go_ret
      exact ⟨rfl, HB.out⟩
    · have hd100 : (d.size : Int) ≤ 100 := by omega
      have HXS := Lib.hid hxs
      have HX100 := Lib.hid hx100
      have HNL := Lib.hid hnl
      have HAT := Lib.hid ha
      clear hxs hnc hcm hA hxz ha hhv hx100 hnl
      go_enter Tryz.func3, Tryz.ntmps3
      go_wp2_with fail
      refine HV.out.mono ?_
      rintro e w1 ⟨rfl, rfl⟩
      go_wp2_with fail
      refine (HSH.out w).mono ?_
      rintro e w1 ⟨rfl, hb1⟩
      have HB1 := Lib.hid hb1
      clear hb1 HV
      have hdec : decide ((100 : Int) < d.size) = false := decide_eq_false (by omega)
      go_wp2_with fail
      have hG0 := Blk.new w1 26 #[.int .i64 5, .int .i64 1, .int .i64 3]
      have HBA := Lib.hid (HB1.out.alloc HB1.out.size (.cells #[.int .i64 5, .int .i64 1, .int .i64 3] 26))
      generalize w1.alloc (.cells #[.int .i64 5, .int .i64 1, .int .i64 3] 26) = wA at *
      generalize w1.heap.size = gG at *
      clear HB1 w1
      have HND := Lib.hid (fun W σ R (hd : Dsk W σ R) => drives_top W σ R hd 5 7 (by omega) (by omega) (by omega))
      have HNE := Lib.hid (fun W => need_any W 5 1 3 (by decide))
      rw [show (4 + ((3 : Nat) : Int) * ((1 : Nat) : Int)) = ((7 : Nat) : Int) from rfl] at HNE
      unfold gV at HNE
      refine wp_region_nu (fun Y => Blk Y gG 26 #[.int .i64 5, .int .i64 1, .int .i64 3]) (fun _ => false) (NU.pures [0, 1] (.fork3 2 (.fork3 3 (.fork 4 (.pure 5 (.imp 6 (.imp 7 .nil))) 6 (.imp 4 (.pure 5 (.imp 7 .nil)))) 4 (.fork 3 (.pure 5 (.imp 6 (.imp 7 .nil))) 6 (.imp 3 (.pure 5 (.imp 7 .nil)))) 6 (.fork 3 (.imp 4 (.pure 5 (.imp 7 .nil))) 4 (.imp 3 (.pure 5 (.imp 7 .nil))))) 4 (.fork 2 (.fork 3 (.pure 5 (.imp 6 (.imp 7 .nil))) 6 (.imp 3 (.pure 5 (.imp 7 .nil)))) 6 (.imp 2 (.imp 3 (.pure 5 (.imp 7 .nil))))) 6 (.fork 2 (.fork 3 (.imp 4 (.pure 5 (.imp 7 .nil))) 4 (.imp 3 (.pure 5 (.imp 7 .nil)))) 4 (.imp 2 (.imp 3 (.pure 5 (.imp 7 .nil))))))) (by kernel_rfl) (by kernel_rfl) (by kernel_rfl) (fun d _ _ _ _ h => by cases d <;> exact h) ?_
      have hG := hG0.drew; have nG : ¬ (fun _ : Nat => False) gG := fun h => h
      have hd := Dsk.none_ wA.drew
      have hx := Ext.of_below (fun _ : Nat => False) HBA.out.drew
      clear hG0
      generalize wA.drew = W at *
      repeat (refine nu_pure rfl hG (fun Y hY => by have hqY := hY.cell; clear hY; go_wp2; exact ⟨rfl, rfl, rfl⟩) rfl ?_ ?_; rfl)
      apply share (α := Nat → Nat → Nat → Nat → Act) (p := fun f => ∀ (bD cD b4 b6 : Nat) (ps : List (Option Nat)) (R1 : Nat → Prop) (W : World), ps.length = 5 → (∀ p ∈ ps, ∃ g, p = some g ∧ newσ (fun _ => none) 7 ps g = some (Drv.new 7)) → ps.Nodup → Dsk W (newσ (fun _ => none) 7 ps) R1 → Ext (fun _ => False) R1 w W → OwnV 33 W w.heap.size (.slice (some ⟨bD, 0, none⟩) 5 cD) (ps.map pv) → 5 ≤ cD → ¬ R1 bD → Blk W b4 3 #[.int .i64 3, .int .i64 3, .int .i64 3, .int .i64 3, .int .i64 3] → ¬ R1 b4 → w.heap.size ≤ b4 → Blk W b6 32 #[.int .i64 0, .int .i64 0, .int .i64 0, .slice none 0 0, .slice none 0 0] → ¬ R1 b6 → w.heap.size ≤ b6 → Blk W gG 26 #[.int .i64 5, .int .i64 1, .int .i64 3] → ¬ R1 gG → wpNU Tryz.prog _ _ (fun Y => Blk Y gG 26 #[.int .i64 5, .int .i64 1, .int .i64 3]) (fun _ => false) (.imp 7 .nil) (f bD cD b4 b6) W)
      ·
        intro T
        refine nu_fork3 rfl rfl rfl ?_ ?_ ?_
        ·
          go_wp2_with fail
          refine (HNE.out _).mono ?_
          rintro e W2 ⟨rfl, hb⟩
          replace hd := hd.below hb; replace hx := hx.below hb; replace hG := hG.below hb hG.lt
          clear hb
          obtain ⟨W, rfl⟩ : ∃ V : World, V = W2 := ⟨_, rfl⟩
          go_wp2_with fail
          refine ⟨fun _ => hG, ?_⟩
          refine nu_fork3 rfl rfl rfl ?_ ?_ ?_
          ·
            go_wp2_with fail
            refine (HND.out _ _ _ hd).mono ?_
            rintro e W2 ⟨v, ps, rfl, hl, hps, hnd, R1, hd1, hx1, ho, hoR⟩
            have hll : (ps.map pv).length = 5 := by rw [List.length_map, hl]
            rcases ho.2 with ⟨rfl, h0⟩ | ⟨bD, cD, cur, rfl, hbD, hh, hcp, hcm, hcs, hct⟩
            · rw [hll] at h0; cases h0
            rw [hll] at ho hoR hcp ⊢
            replace ho := ho.base hx.size
            have hps2 : ∀ p ∈ ps, ∃ g, p = some g ∧ newσ (fun _ => none) 7 ps g = some (Drv.new 7) := fun p hp => by obtain ⟨g, rfl, _, _⟩ := hps p hp; exact ⟨g, rfl, by rw [newσ_at, if_pos hp]⟩
            have hGl := hG.lt; replace hG := hx1.blk hG nG; replace nG := hx1.not nG hGl; clear hGl
            replace hd := hd1; replace hx := hx.trans hx1
            have hoR2 : ¬ R1 bD := hoR bD rfl
            clear hd1 hx1 hps hbD hh hcm hcs hct hoR hll
            obtain ⟨W, rfl⟩ : ∃ V : World, V = W2 := ⟨_, rfl⟩
            go_wp2_with fail
            refine ⟨fun _ => hG, ?_⟩
            refine nu_fork rfl rfl ?_ ?_
            ·
              go_wp2_with fail
              have h4 := Blk.new W 3 #[.int .i64 3, .int .i64 3, .int .i64 3, .int .i64 3, .int .i64 3]
              have n4 := hd.new; have hz4 := hx.size
              replace hd := hd.alloc (.cells #[.int .i64 3, .int .i64 3, .int .i64 3, .int .i64 3, .int .i64 3] 3)
              replace hx := hx.alloc (.cells #[.int .i64 3, .int .i64 3, .int .i64 3, .int .i64 3, .int .i64 3] 3)
              replace hG := hG.alloc (.cells #[.int .i64 3, .int .i64 3, .int .i64 3, .int .i64 3, .int .i64 3] 3)
              replace ho := ho.alloc (.cells #[.int .i64 3, .int .i64 3, .int .i64 3, .int .i64 3, .int .i64 3] 3)
              generalize W.alloc (.cells #[.int .i64 3, .int .i64 3, .int .i64 3, .int .i64 3, .int .i64 3] 3) = W2 at *
              generalize W.heap.size = b4 at *
              obtain ⟨W, rfl⟩ : ∃ V : World, V = W2 := ⟨_, rfl⟩
              refine ⟨fun _ => hG, ?_⟩
              repeat (refine nu_pure rfl hG (fun Y hY => by clear hY; go_wp2; exact ⟨rfl, rfl, rfl⟩) rfl ?_ ?_; rfl)
              refine nu_imp rfl ?_
              go_wp2_with fail
              have h6 := Blk.new W 32 #[.int .i64 0, .int .i64 0, .int .i64 0, .slice none 0 0, .slice none 0 0]
              have n6 := hd.new; have hz6 := hx.size
              replace hd := hd.alloc (.cells #[.int .i64 0, .int .i64 0, .int .i64 0, .slice none 0 0, .slice none 0 0] 32)
              replace hx := hx.alloc (.cells #[.int .i64 0, .int .i64 0, .int .i64 0, .slice none 0 0, .slice none 0 0] 32)
              replace hG := hG.alloc (.cells #[.int .i64 0, .int .i64 0, .int .i64 0, .slice none 0 0, .slice none 0 0] 32)
              replace h4 := h4.alloc (.cells #[.int .i64 0, .int .i64 0, .int .i64 0, .slice none 0 0, .slice none 0 0] 32)
              replace ho := ho.alloc (.cells #[.int .i64 0, .int .i64 0, .int .i64 0, .slice none 0 0, .slice none 0 0] 32)
              generalize W.alloc (.cells #[.int .i64 0, .int .i64 0, .int .i64 0, .slice none 0 0, .slice none 0 0] 32) = W2 at *
              generalize W.heap.size = b6 at *
              obtain ⟨W, rfl⟩ : ∃ V : World, V = W2 := ⟨_, rfl⟩
              refine ⟨fun _ => hG, ?_⟩
              exact T bD cD b4 b6 ps R1 W hl hps2 hnd hd hx ho hcp hoR2 h4 n4 hz4 h6 n6 hz6 hG nG
            ·
              go_wp2_with fail
              have h6 := Blk.new W 32 #[.int .i64 0, .int .i64 0, .int .i64 0, .slice none 0 0, .slice none 0 0]
              have n6 := hd.new; have hz6 := hx.size
              replace hd := hd.alloc (.cells #[.int .i64 0, .int .i64 0, .int .i64 0, .slice none 0 0, .slice none 0 0] 32)
              replace hx := hx.alloc (.cells #[.int .i64 0, .int .i64 0, .int .i64 0, .slice none 0 0, .slice none 0 0] 32)
              replace hG := hG.alloc (.cells #[.int .i64 0, .int .i64 0, .int .i64 0, .slice none 0 0, .slice none 0 0] 32)
              replace ho := ho.alloc (.cells #[.int .i64 0, .int .i64 0, .int .i64 0, .slice none 0 0, .slice none 0 0] 32)
              generalize W.alloc (.cells #[.int .i64 0, .int .i64 0, .int .i64 0, .slice none 0 0, .slice none 0 0] 32) = W2 at *
              generalize W.heap.size = b6 at *
              obtain ⟨W, rfl⟩ : ∃ V : World, V = W2 := ⟨_, rfl⟩
              refine ⟨fun _ => hG, ?_⟩
              refine nu_imp rfl ?_
              go_wp2_with fail
              have h4 := Blk.new W 3 #[.int .i64 3, .int .i64 3, .int .i64 3, .int .i64 3, .int .i64 3]
              have n4 := hd.new; have hz4 := hx.size
              replace hd := hd.alloc (.cells #[.int .i64 3, .int .i64 3, .int .i64 3, .int .i64 3, .int .i64 3] 3)
              replace hx := hx.alloc (.cells #[.int .i64 3, .int .i64 3, .int .i64 3, .int .i64 3, .int .i64 3] 3)
              replace hG := hG.alloc (.cells #[.int .i64 3, .int .i64 3, .int .i64 3, .int .i64 3, .int .i64 3] 3)
              replace h6 := h6.alloc (.cells #[.int .i64 3, .int .i64 3, .int .i64 3, .int .i64 3, .int .i64 3] 3)
              replace ho := ho.alloc (.cells #[.int .i64 3, .int .i64 3, .int .i64 3, .int .i64 3, .int .i64 3] 3)
              generalize W.alloc (.cells #[.int .i64 3, .int .i64 3, .int .i64 3, .int .i64 3, .int .i64 3] 3) = W2 at *
              generalize W.heap.size = b4 at *
              obtain ⟨W, rfl⟩ : ∃ V : World, V = W2 := ⟨_, rfl⟩
              refine ⟨fun _ => hG, ?_⟩
              repeat (refine nu_pure rfl hG (fun Y hY => by clear hY; go_wp2; exact ⟨rfl, rfl, rfl⟩) rfl ?_ ?_; rfl)
              exact T bD cD b4 b6 ps R1 W hl hps2 hnd hd hx ho hcp hoR2 h4 n4 hz4 h6 n6 hz6 hG nG
          ·
            go_wp2_with fail
            have h4 := Blk.new W 3 #[.int .i64 3, .int .i64 3, .int .i64 3, .int .i64 3, .int .i64 3]
            have n4 := hd.new; have hz4 := hx.size
            replace hd := hd.alloc (.cells #[.int .i64 3, .int .i64 3, .int .i64 3, .int .i64 3, .int .i64 3] 3)
            replace hx := hx.alloc (.cells #[.int .i64 3, .int .i64 3, .int .i64 3, .int .i64 3, .int .i64 3] 3)
            replace hG := hG.alloc (.cells #[.int .i64 3, .int .i64 3, .int .i64 3, .int .i64 3, .int .i64 3] 3)
            generalize W.alloc (.cells #[.int .i64 3, .int .i64 3, .int .i64 3, .int .i64 3, .int .i64 3] 3) = W2 at *
            generalize W.heap.size = b4 at *
            obtain ⟨W, rfl⟩ : ∃ V : World, V = W2 := ⟨_, rfl⟩
            refine ⟨fun _ => hG, ?_⟩
            refine nu_fork rfl rfl ?_ ?_
            ·
              go_wp2_with fail
              refine (HND.out _ _ _ hd).mono ?_
              rintro e W2 ⟨v, ps, rfl, hl, hps, hnd, R1, hd1, hx1, ho, hoR⟩
              have hll : (ps.map pv).length = 5 := by rw [List.length_map, hl]
              rcases ho.2 with ⟨rfl, h0⟩ | ⟨bD, cD, cur, rfl, hbD, hh, hcp, hcm, hcs, hct⟩
              · rw [hll] at h0; cases h0
              rw [hll] at ho hoR hcp ⊢
              replace ho := ho.base hx.size
              have hps2 : ∀ p ∈ ps, ∃ g, p = some g ∧ newσ (fun _ => none) 7 ps g = some (Drv.new 7) := fun p hp => by obtain ⟨g, rfl, _, _⟩ := hps p hp; exact ⟨g, rfl, by rw [newσ_at, if_pos hp]⟩
              have h4l := h4.lt; replace h4 := hx1.blk h4 n4; replace n4 := hx1.not n4 h4l; clear h4l
              have hGl := hG.lt; replace hG := hx1.blk hG nG; replace nG := hx1.not nG hGl; clear hGl
              replace hd := hd1; replace hx := hx.trans hx1
              have hoR2 : ¬ R1 bD := hoR bD rfl
              clear hd1 hx1 hps hbD hh hcm hcs hct hoR hll
              obtain ⟨W, rfl⟩ : ∃ V : World, V = W2 := ⟨_, rfl⟩
              go_wp2_with fail
              refine ⟨fun _ => hG, ?_⟩
              repeat (refine nu_pure rfl hG (fun Y hY => by clear hY; go_wp2; exact ⟨rfl, rfl, rfl⟩) rfl ?_ ?_; rfl)
              refine nu_imp rfl ?_
              go_wp2_with fail
              have h6 := Blk.new W 32 #[.int .i64 0, .int .i64 0, .int .i64 0, .slice none 0 0, .slice none 0 0]
              have n6 := hd.new; have hz6 := hx.size
              replace hd := hd.alloc (.cells #[.int .i64 0, .int .i64 0, .int .i64 0, .slice none 0 0, .slice none 0 0] 32)
              replace hx := hx.alloc (.cells #[.int .i64 0, .int .i64 0, .int .i64 0, .slice none 0 0, .slice none 0 0] 32)
              replace hG := hG.alloc (.cells #[.int .i64 0, .int .i64 0, .int .i64 0, .slice none 0 0, .slice none 0 0] 32)
              replace h4 := h4.alloc (.cells #[.int .i64 0, .int .i64 0, .int .i64 0, .slice none 0 0, .slice none 0 0] 32)
              replace ho := ho.alloc (.cells #[.int .i64 0, .int .i64 0, .int .i64 0, .slice none 0 0, .slice none 0 0] 32)
              generalize W.alloc (.cells #[.int .i64 0, .int .i64 0, .int .i64 0, .slice none 0 0, .slice none 0 0] 32) = W2 at *
              generalize W.heap.size = b6 at *
              obtain ⟨W, rfl⟩ : ∃ V : World, V = W2 := ⟨_, rfl⟩
              refine ⟨fun _ => hG, ?_⟩
              exact T bD cD b4 b6 ps R1 W hl hps2 hnd hd hx ho hcp hoR2 h4 n4 hz4 h6 n6 hz6 hG nG
            ·
              go_wp2_with fail
              have h6 := Blk.new W 32 #[.int .i64 0, .int .i64 0, .int .i64 0, .slice none 0 0, .slice none 0 0]
              have n6 := hd.new; have hz6 := hx.size
              replace hd := hd.alloc (.cells #[.int .i64 0, .int .i64 0, .int .i64 0, .slice none 0 0, .slice none 0 0] 32)
              replace hx := hx.alloc (.cells #[.int .i64 0, .int .i64 0, .int .i64 0, .slice none 0 0, .slice none 0 0] 32)
              replace hG := hG.alloc (.cells #[.int .i64 0, .int .i64 0, .int .i64 0, .slice none 0 0, .slice none 0 0] 32)
              replace h4 := h4.alloc (.cells #[.int .i64 0, .int .i64 0, .int .i64 0, .slice none 0 0, .slice none 0 0] 32)
              generalize W.alloc (.cells #[.int .i64 0, .int .i64 0, .int .i64 0, .slice none 0 0, .slice none 0 0] 32) = W2 at *
              generalize W.heap.size = b6 at *
              obtain ⟨W, rfl⟩ : ∃ V : World, V = W2 := ⟨_, rfl⟩
              refine ⟨fun _ => hG, ?_⟩
              refine nu_imp rfl ?_
              go_wp2_with fail
              refine (HND.out _ _ _ hd).mono ?_
              rintro e W2 ⟨v, ps, rfl, hl, hps, hnd, R1, hd1, hx1, ho, hoR⟩
              have hll : (ps.map pv).length = 5 := by rw [List.length_map, hl]
              rcases ho.2 with ⟨rfl, h0⟩ | ⟨bD, cD, cur, rfl, hbD, hh, hcp, hcm, hcs, hct⟩
              · rw [hll] at h0; cases h0
              rw [hll] at ho hoR hcp ⊢
              replace ho := ho.base hx.size
              have hps2 : ∀ p ∈ ps, ∃ g, p = some g ∧ newσ (fun _ => none) 7 ps g = some (Drv.new 7) := fun p hp => by obtain ⟨g, rfl, _, _⟩ := hps p hp; exact ⟨g, rfl, by rw [newσ_at, if_pos hp]⟩
              have h4l := h4.lt; replace h4 := hx1.blk h4 n4; replace n4 := hx1.not n4 h4l; clear h4l
              have h6l := h6.lt; replace h6 := hx1.blk h6 n6; replace n6 := hx1.not n6 h6l; clear h6l
              have hGl := hG.lt; replace hG := hx1.blk hG nG; replace nG := hx1.not nG hGl; clear hGl
              replace hd := hd1; replace hx := hx.trans hx1
              have hoR2 : ¬ R1 bD := hoR bD rfl
              clear hd1 hx1 hps hbD hh hcm hcs hct hoR hll
              obtain ⟨W, rfl⟩ : ∃ V : World, V = W2 := ⟨_, rfl⟩
              go_wp2_with fail
              refine ⟨fun _ => hG, ?_⟩
              repeat (refine nu_pure rfl hG (fun Y hY => by clear hY; go_wp2; exact ⟨rfl, rfl, rfl⟩) rfl ?_ ?_; rfl)
              exact T bD cD b4 b6 ps R1 W hl hps2 hnd hd hx ho hcp hoR2 h4 n4 hz4 h6 n6 hz6 hG nG
          ·
            go_wp2_with fail
            have h6 := Blk.new W 32 #[.int .i64 0, .int .i64 0, .int .i64 0, .slice none 0 0, .slice none 0 0]
            have n6 := hd.new; have hz6 := hx.size
            replace hd := hd.alloc (.cells #[.int .i64 0, .int .i64 0, .int .i64 0, .slice none 0 0, .slice none 0 0] 32)
            replace hx := hx.alloc (.cells #[.int .i64 0, .int .i64 0, .int .i64 0, .slice none 0 0, .slice none 0 0] 32)
            replace hG := hG.alloc (.cells #[.int .i64 0, .int .i64 0, .int .i64 0, .slice none 0 0, .slice none 0 0] 32)
            generalize W.alloc (.cells #[.int .i64 0, .int .i64 0, .int .i64 0, .slice none 0 0, .slice none 0 0] 32) = W2 at *
            generalize W.heap.size = b6 at *
            obtain ⟨W, rfl⟩ : ∃ V : World, V = W2 := ⟨_, rfl⟩
            refine ⟨fun _ => hG, ?_⟩
            refine nu_fork rfl rfl ?_ ?_
            ·
              go_wp2_with fail
              refine (HND.out _ _ _ hd).mono ?_
              rintro e W2 ⟨v, ps, rfl, hl, hps, hnd, R1, hd1, hx1, ho, hoR⟩
              have hll : (ps.map pv).length = 5 := by rw [List.length_map, hl]
              rcases ho.2 with ⟨rfl, h0⟩ | ⟨bD, cD, cur, rfl, hbD, hh, hcp, hcm, hcs, hct⟩
              · rw [hll] at h0; cases h0
              rw [hll] at ho hoR hcp ⊢
              replace ho := ho.base hx.size
              have hps2 : ∀ p ∈ ps, ∃ g, p = some g ∧ newσ (fun _ => none) 7 ps g = some (Drv.new 7) := fun p hp => by obtain ⟨g, rfl, _, _⟩ := hps p hp; exact ⟨g, rfl, by rw [newσ_at, if_pos hp]⟩
              have h6l := h6.lt; replace h6 := hx1.blk h6 n6; replace n6 := hx1.not n6 h6l; clear h6l
              have hGl := hG.lt; replace hG := hx1.blk hG nG; replace nG := hx1.not nG hGl; clear hGl
              replace hd := hd1; replace hx := hx.trans hx1
              have hoR2 : ¬ R1 bD := hoR bD rfl
              clear hd1 hx1 hps hbD hh hcm hcs hct hoR hll
              obtain ⟨W, rfl⟩ : ∃ V : World, V = W2 := ⟨_, rfl⟩
              go_wp2_with fail
              refine ⟨fun _ => hG, ?_⟩
              refine nu_imp rfl ?_
              go_wp2_with fail
              have h4 := Blk.new W 3 #[.int .i64 3, .int .i64 3, .int .i64 3, .int .i64 3, .int .i64 3]
              have n4 := hd.new; have hz4 := hx.size
              replace hd := hd.alloc (.cells #[.int .i64 3, .int .i64 3, .int .i64 3, .int .i64 3, .int .i64 3] 3)
              replace hx := hx.alloc (.cells #[.int .i64 3, .int .i64 3, .int .i64 3, .int .i64 3, .int .i64 3] 3)
              replace hG := hG.alloc (.cells #[.int .i64 3, .int .i64 3, .int .i64 3, .int .i64 3, .int .i64 3] 3)
              replace h6 := h6.alloc (.cells #[.int .i64 3, .int .i64 3, .int .i64 3, .int .i64 3, .int .i64 3] 3)
              replace ho := ho.alloc (.cells #[.int .i64 3, .int .i64 3, .int .i64 3, .int .i64 3, .int .i64 3] 3)
              generalize W.alloc (.cells #[.int .i64 3, .int .i64 3, .int .i64 3, .int .i64 3, .int .i64 3] 3) = W2 at *
              generalize W.heap.size = b4 at *
              obtain ⟨W, rfl⟩ : ∃ V : World, V = W2 := ⟨_, rfl⟩
              refine ⟨fun _ => hG, ?_⟩
              repeat (refine nu_pure rfl hG (fun Y hY => by clear hY; go_wp2; exact ⟨rfl, rfl, rfl⟩) rfl ?_ ?_; rfl)
              exact T bD cD b4 b6 ps R1 W hl hps2 hnd hd hx ho hcp hoR2 h4 n4 hz4 h6 n6 hz6 hG nG
            ·
              go_wp2_with fail
              have h4 := Blk.new W 3 #[.int .i64 3, .int .i64 3, .int .i64 3, .int .i64 3, .int .i64 3]
              have n4 := hd.new; have hz4 := hx.size
              replace hd := hd.alloc (.cells #[.int .i64 3, .int .i64 3, .int .i64 3, .int .i64 3, .int .i64 3] 3)
              replace hx := hx.alloc (.cells #[.int .i64 3, .int .i64 3, .int .i64 3, .int .i64 3, .int .i64 3] 3)
              replace hG := hG.alloc (.cells #[.int .i64 3, .int .i64 3, .int .i64 3, .int .i64 3, .int .i64 3] 3)
              replace h6 := h6.alloc (.cells #[.int .i64 3, .int .i64 3, .int .i64 3, .int .i64 3, .int .i64 3] 3)
              generalize W.alloc (.cells #[.int .i64 3, .int .i64 3, .int .i64 3, .int .i64 3, .int .i64 3] 3) = W2 at *
              generalize W.heap.size = b4 at *
              obtain ⟨W, rfl⟩ : ∃ V : World, V = W2 := ⟨_, rfl⟩
              refine ⟨fun _ => hG, ?_⟩
              refine nu_imp rfl ?_
              go_wp2_with fail
              refine (HND.out _ _ _ hd).mono ?_
              rintro e W2 ⟨v, ps, rfl, hl, hps, hnd, R1, hd1, hx1, ho, hoR⟩
              have hll : (ps.map pv).length = 5 := by rw [List.length_map, hl]
              rcases ho.2 with ⟨rfl, h0⟩ | ⟨bD, cD, cur, rfl, hbD, hh, hcp, hcm, hcs, hct⟩
              · rw [hll] at h0; cases h0
              rw [hll] at ho hoR hcp ⊢
              replace ho := ho.base hx.size
              have hps2 : ∀ p ∈ ps, ∃ g, p = some g ∧ newσ (fun _ => none) 7 ps g = some (Drv.new 7) := fun p hp => by obtain ⟨g, rfl, _, _⟩ := hps p hp; exact ⟨g, rfl, by rw [newσ_at, if_pos hp]⟩
              have h4l := h4.lt; replace h4 := hx1.blk h4 n4; replace n4 := hx1.not n4 h4l; clear h4l
              have h6l := h6.lt; replace h6 := hx1.blk h6 n6; replace n6 := hx1.not n6 h6l; clear h6l
              have hGl := hG.lt; replace hG := hx1.blk hG nG; replace nG := hx1.not nG hGl; clear hGl
              replace hd := hd1; replace hx := hx.trans hx1
              have hoR2 : ¬ R1 bD := hoR bD rfl
              clear hd1 hx1 hps hbD hh hcm hcs hct hoR hll
              obtain ⟨W, rfl⟩ : ∃ V : World, V = W2 := ⟨_, rfl⟩
              go_wp2_with fail
              refine ⟨fun _ => hG, ?_⟩
              repeat (refine nu_pure rfl hG (fun Y hY => by clear hY; go_wp2; exact ⟨rfl, rfl, rfl⟩) rfl ?_ ?_; rfl)
              exact T bD cD b4 b6 ps R1 W hl hps2 hnd hd hx ho hcp hoR2 h4 n4 hz4 h6 n6 hz6 hG nG
        ·
          go_wp2_with fail
          have h4 := Blk.new W 3 #[.int .i64 3, .int .i64 3, .int .i64 3, .int .i64 3, .int .i64 3]
          have n4 := hd.new; have hz4 := hx.size
          replace hd := hd.alloc (.cells #[.int .i64 3, .int .i64 3, .int .i64 3, .int .i64 3, .int .i64 3] 3)
          replace hx := hx.alloc (.cells #[.int .i64 3, .int .i64 3, .int .i64 3, .int .i64 3, .int .i64 3] 3)
          replace hG := hG.alloc (.cells #[.int .i64 3, .int .i64 3, .int .i64 3, .int .i64 3, .int .i64 3] 3)
          generalize W.alloc (.cells #[.int .i64 3, .int .i64 3, .int .i64 3, .int .i64 3, .int .i64 3] 3) = W2 at *
          generalize W.heap.size = b4 at *
          obtain ⟨W, rfl⟩ : ∃ V : World, V = W2 := ⟨_, rfl⟩
          refine ⟨fun _ => hG, ?_⟩
          refine nu_fork rfl rfl ?_ ?_
          ·
            go_wp2_with fail
            refine (HNE.out _).mono ?_
            rintro e W2 ⟨rfl, hb⟩
            replace hd := hd.below hb; replace hx := hx.below hb; replace hG := hG.below hb hG.lt
            replace h4 := h4.below hb h4.lt
            clear hb
            obtain ⟨W, rfl⟩ : ∃ V : World, V = W2 := ⟨_, rfl⟩
            go_wp2_with fail
            refine ⟨fun _ => hG, ?_⟩
            refine nu_fork rfl rfl ?_ ?_
            ·
              go_wp2_with fail
              refine (HND.out _ _ _ hd).mono ?_
              rintro e W2 ⟨v, ps, rfl, hl, hps, hnd, R1, hd1, hx1, ho, hoR⟩
              have hll : (ps.map pv).length = 5 := by rw [List.length_map, hl]
              rcases ho.2 with ⟨rfl, h0⟩ | ⟨bD, cD, cur, rfl, hbD, hh, hcp, hcm, hcs, hct⟩
              · rw [hll] at h0; cases h0
              rw [hll] at ho hoR hcp ⊢
              replace ho := ho.base hx.size
              have hps2 : ∀ p ∈ ps, ∃ g, p = some g ∧ newσ (fun _ => none) 7 ps g = some (Drv.new 7) := fun p hp => by obtain ⟨g, rfl, _, _⟩ := hps p hp; exact ⟨g, rfl, by rw [newσ_at, if_pos hp]⟩
              have h4l := h4.lt; replace h4 := hx1.blk h4 n4; replace n4 := hx1.not n4 h4l; clear h4l
              have hGl := hG.lt; replace hG := hx1.blk hG nG; replace nG := hx1.not nG hGl; clear hGl
              replace hd := hd1; replace hx := hx.trans hx1
              have hoR2 : ¬ R1 bD := hoR bD rfl
              clear hd1 hx1 hps hbD hh hcm hcs hct hoR hll
              obtain ⟨W, rfl⟩ : ∃ V : World, V = W2 := ⟨_, rfl⟩
              go_wp2_with fail
              refine ⟨fun _ => hG, ?_⟩
              repeat (refine nu_pure rfl hG (fun Y hY => by clear hY; go_wp2; exact ⟨rfl, rfl, rfl⟩) rfl ?_ ?_; rfl)
              refine nu_imp rfl ?_
              go_wp2_with fail
              have h6 := Blk.new W 32 #[.int .i64 0, .int .i64 0, .int .i64 0, .slice none 0 0, .slice none 0 0]
              have n6 := hd.new; have hz6 := hx.size
              replace hd := hd.alloc (.cells #[.int .i64 0, .int .i64 0, .int .i64 0, .slice none 0 0, .slice none 0 0] 32)
              replace hx := hx.alloc (.cells #[.int .i64 0, .int .i64 0, .int .i64 0, .slice none 0 0, .slice none 0 0] 32)
              replace hG := hG.alloc (.cells #[.int .i64 0, .int .i64 0, .int .i64 0, .slice none 0 0, .slice none 0 0] 32)
              replace h4 := h4.alloc (.cells #[.int .i64 0, .int .i64 0, .int .i64 0, .slice none 0 0, .slice none 0 0] 32)
              replace ho := ho.alloc (.cells #[.int .i64 0, .int .i64 0, .int .i64 0, .slice none 0 0, .slice none 0 0] 32)
              generalize W.alloc (.cells #[.int .i64 0, .int .i64 0, .int .i64 0, .slice none 0 0, .slice none 0 0] 32) = W2 at *
              generalize W.heap.size = b6 at *
              obtain ⟨W, rfl⟩ : ∃ V : World, V = W2 := ⟨_, rfl⟩
              refine ⟨fun _ => hG, ?_⟩
              exact T bD cD b4 b6 ps R1 W hl hps2 hnd hd hx ho hcp hoR2 h4 n4 hz4 h6 n6 hz6 hG nG
            ·
              go_wp2_with fail
              have h6 := Blk.new W 32 #[.int .i64 0, .int .i64 0, .int .i64 0, .slice none 0 0, .slice none 0 0]
              have n6 := hd.new; have hz6 := hx.size
              replace hd := hd.alloc (.cells #[.int .i64 0, .int .i64 0, .int .i64 0, .slice none 0 0, .slice none 0 0] 32)
              replace hx := hx.alloc (.cells #[.int .i64 0, .int .i64 0, .int .i64 0, .slice none 0 0, .slice none 0 0] 32)
              replace hG := hG.alloc (.cells #[.int .i64 0, .int .i64 0, .int .i64 0, .slice none 0 0, .slice none 0 0] 32)
              replace h4 := h4.alloc (.cells #[.int .i64 0, .int .i64 0, .int .i64 0, .slice none 0 0, .slice none 0 0] 32)
              generalize W.alloc (.cells #[.int .i64 0, .int .i64 0, .int .i64 0, .slice none 0 0, .slice none 0 0] 32) = W2 at *
              generalize W.heap.size = b6 at *
              obtain ⟨W, rfl⟩ : ∃ V : World, V = W2 := ⟨_, rfl⟩
              refine ⟨fun _ => hG, ?_⟩
              refine nu_imp rfl ?_
              go_wp2_with fail
              refine (HND.out _ _ _ hd).mono ?_
              rintro e W2 ⟨v, ps, rfl, hl, hps, hnd, R1, hd1, hx1, ho, hoR⟩
              have hll : (ps.map pv).length = 5 := by rw [List.length_map, hl]
              rcases ho.2 with ⟨rfl, h0⟩ | ⟨bD, cD, cur, rfl, hbD, hh, hcp, hcm, hcs, hct⟩
              · rw [hll] at h0; cases h0
              rw [hll] at ho hoR hcp ⊢
              replace ho := ho.base hx.size
              have hps2 : ∀ p ∈ ps, ∃ g, p = some g ∧ newσ (fun _ => none) 7 ps g = some (Drv.new 7) := fun p hp => by obtain ⟨g, rfl, _, _⟩ := hps p hp; exact ⟨g, rfl, by rw [newσ_at, if_pos hp]⟩
              have h4l := h4.lt; replace h4 := hx1.blk h4 n4; replace n4 := hx1.not n4 h4l; clear h4l
              have h6l := h6.lt; replace h6 := hx1.blk h6 n6; replace n6 := hx1.not n6 h6l; clear h6l
              have hGl := hG.lt; replace hG := hx1.blk hG nG; replace nG := hx1.not nG hGl; clear hGl
              replace hd := hd1; replace hx := hx.trans hx1
              have hoR2 : ¬ R1 bD := hoR bD rfl
              clear hd1 hx1 hps hbD hh hcm hcs hct hoR hll
              obtain ⟨W, rfl⟩ : ∃ V : World, V = W2 := ⟨_, rfl⟩
              go_wp2_with fail
              refine ⟨fun _ => hG, ?_⟩
              repeat (refine nu_pure rfl hG (fun Y hY => by clear hY; go_wp2; exact ⟨rfl, rfl, rfl⟩) rfl ?_ ?_; rfl)
              exact T bD cD b4 b6 ps R1 W hl hps2 hnd hd hx ho hcp hoR2 h4 n4 hz4 h6 n6 hz6 hG nG
          ·
            go_wp2_with fail
            have h6 := Blk.new W 32 #[.int .i64 0, .int .i64 0, .int .i64 0, .slice none 0 0, .slice none 0 0]
            have n6 := hd.new; have hz6 := hx.size
            replace hd := hd.alloc (.cells #[.int .i64 0, .int .i64 0, .int .i64 0, .slice none 0 0, .slice none 0 0] 32)
            replace hx := hx.alloc (.cells #[.int .i64 0, .int .i64 0, .int .i64 0, .slice none 0 0, .slice none 0 0] 32)
            replace hG := hG.alloc (.cells #[.int .i64 0, .int .i64 0, .int .i64 0, .slice none 0 0, .slice none 0 0] 32)
            replace h4 := h4.alloc (.cells #[.int .i64 0, .int .i64 0, .int .i64 0, .slice none 0 0, .slice none 0 0] 32)
            generalize W.alloc (.cells #[.int .i64 0, .int .i64 0, .int .i64 0, .slice none 0 0, .slice none 0 0] 32) = W2 at *
            generalize W.heap.size = b6 at *
            obtain ⟨W, rfl⟩ : ∃ V : World, V = W2 := ⟨_, rfl⟩
            refine ⟨fun _ => hG, ?_⟩
            refine nu_imp rfl ?_
            go_wp2_with fail
            refine (HNE.out _).mono ?_
            rintro e W2 ⟨rfl, hb⟩
            replace hd := hd.below hb; replace hx := hx.below hb; replace hG := hG.below hb hG.lt
            replace h4 := h4.below hb h4.lt
            replace h6 := h6.below hb h6.lt
            clear hb
            obtain ⟨W, rfl⟩ : ∃ V : World, V = W2 := ⟨_, rfl⟩
            go_wp2_with fail
            refine ⟨fun _ => hG, ?_⟩
            refine nu_imp rfl ?_
            go_wp2_with fail
            refine (HND.out _ _ _ hd).mono ?_
            rintro e W2 ⟨v, ps, rfl, hl, hps, hnd, R1, hd1, hx1, ho, hoR⟩
            have hll : (ps.map pv).length = 5 := by rw [List.length_map, hl]
            rcases ho.2 with ⟨rfl, h0⟩ | ⟨bD, cD, cur, rfl, hbD, hh, hcp, hcm, hcs, hct⟩
            · rw [hll] at h0; cases h0
            rw [hll] at ho hoR hcp ⊢
            replace ho := ho.base hx.size
            have hps2 : ∀ p ∈ ps, ∃ g, p = some g ∧ newσ (fun _ => none) 7 ps g = some (Drv.new 7) := fun p hp => by obtain ⟨g, rfl, _, _⟩ := hps p hp; exact ⟨g, rfl, by rw [newσ_at, if_pos hp]⟩
            have h4l := h4.lt; replace h4 := hx1.blk h4 n4; replace n4 := hx1.not n4 h4l; clear h4l
            have h6l := h6.lt; replace h6 := hx1.blk h6 n6; replace n6 := hx1.not n6 h6l; clear h6l
            have hGl := hG.lt; replace hG := hx1.blk hG nG; replace nG := hx1.not nG hGl; clear hGl
            replace hd := hd1; replace hx := hx.trans hx1
            have hoR2 : ¬ R1 bD := hoR bD rfl
            clear hd1 hx1 hps hbD hh hcm hcs hct hoR hll
            obtain ⟨W, rfl⟩ : ∃ V : World, V = W2 := ⟨_, rfl⟩
            go_wp2_with fail
            refine ⟨fun _ => hG, ?_⟩
            repeat (refine nu_pure rfl hG (fun Y hY => by clear hY; go_wp2; exact ⟨rfl, rfl, rfl⟩) rfl ?_ ?_; rfl)
            exact T bD cD b4 b6 ps R1 W hl hps2 hnd hd hx ho hcp hoR2 h4 n4 hz4 h6 n6 hz6 hG nG
        ·
          go_wp2_with fail
          have h6 := Blk.new W 32 #[.int .i64 0, .int .i64 0, .int .i64 0, .slice none 0 0, .slice none 0 0]
          have n6 := hd.new; have hz6 := hx.size
          replace hd := hd.alloc (.cells #[.int .i64 0, .int .i64 0, .int .i64 0, .slice none 0 0, .slice none 0 0] 32)
          replace hx := hx.alloc (.cells #[.int .i64 0, .int .i64 0, .int .i64 0, .slice none 0 0, .slice none 0 0] 32)
          replace hG := hG.alloc (.cells #[.int .i64 0, .int .i64 0, .int .i64 0, .slice none 0 0, .slice none 0 0] 32)
          generalize W.alloc (.cells #[.int .i64 0, .int .i64 0, .int .i64 0, .slice none 0 0, .slice none 0 0] 32) = W2 at *
          generalize W.heap.size = b6 at *
          obtain ⟨W, rfl⟩ : ∃ V : World, V = W2 := ⟨_, rfl⟩
          refine ⟨fun _ => hG, ?_⟩
          refine nu_fork rfl rfl ?_ ?_
          ·
            go_wp2_with fail
            refine (HNE.out _).mono ?_
            rintro e W2 ⟨rfl, hb⟩
            replace hd := hd.below hb; replace hx := hx.below hb; replace hG := hG.below hb hG.lt
            replace h6 := h6.below hb h6.lt
            clear hb
            obtain ⟨W, rfl⟩ : ∃ V : World, V = W2 := ⟨_, rfl⟩
            go_wp2_with fail
            refine ⟨fun _ => hG, ?_⟩
            refine nu_fork rfl rfl ?_ ?_
            ·
              go_wp2_with fail
              refine (HND.out _ _ _ hd).mono ?_
              rintro e W2 ⟨v, ps, rfl, hl, hps, hnd, R1, hd1, hx1, ho, hoR⟩
              have hll : (ps.map pv).length = 5 := by rw [List.length_map, hl]
              rcases ho.2 with ⟨rfl, h0⟩ | ⟨bD, cD, cur, rfl, hbD, hh, hcp, hcm, hcs, hct⟩
              · rw [hll] at h0; cases h0
              rw [hll] at ho hoR hcp ⊢
              replace ho := ho.base hx.size
              have hps2 : ∀ p ∈ ps, ∃ g, p = some g ∧ newσ (fun _ => none) 7 ps g = some (Drv.new 7) := fun p hp => by obtain ⟨g, rfl, _, _⟩ := hps p hp; exact ⟨g, rfl, by rw [newσ_at, if_pos hp]⟩
              have h6l := h6.lt; replace h6 := hx1.blk h6 n6; replace n6 := hx1.not n6 h6l; clear h6l
              have hGl := hG.lt; replace hG := hx1.blk hG nG; replace nG := hx1.not nG hGl; clear hGl
              replace hd := hd1; replace hx := hx.trans hx1
              have hoR2 : ¬ R1 bD := hoR bD rfl
              clear hd1 hx1 hps hbD hh hcm hcs hct hoR hll
              obtain ⟨W, rfl⟩ : ∃ V : World, V = W2 := ⟨_, rfl⟩
              go_wp2_with fail
              refine ⟨fun _ => hG, ?_⟩
              refine nu_imp rfl ?_
              go_wp2_with fail
              have h4 := Blk.new W 3 #[.int .i64 3, .int .i64 3, .int .i64 3, .int .i64 3, .int .i64 3]
              have n4 := hd.new; have hz4 := hx.size
              replace hd := hd.alloc (.cells #[.int .i64 3, .int .i64 3, .int .i64 3, .int .i64 3, .int .i64 3] 3)
              replace hx := hx.alloc (.cells #[.int .i64 3, .int .i64 3, .int .i64 3, .int .i64 3, .int .i64 3] 3)
              replace hG := hG.alloc (.cells #[.int .i64 3, .int .i64 3, .int .i64 3, .int .i64 3, .int .i64 3] 3)
              replace h6 := h6.alloc (.cells #[.int .i64 3, .int .i64 3, .int .i64 3, .int .i64 3, .int .i64 3] 3)
              replace ho := ho.alloc (.cells #[.int .i64 3, .int .i64 3, .int .i64 3, .int .i64 3, .int .i64 3] 3)
              generalize W.alloc (.cells #[.int .i64 3, .int .i64 3, .int .i64 3, .int .i64 3, .int .i64 3] 3) = W2 at *
              generalize W.heap.size = b4 at *
              obtain ⟨W, rfl⟩ : ∃ V : World, V = W2 := ⟨_, rfl⟩
              refine ⟨fun _ => hG, ?_⟩
              repeat (refine nu_pure rfl hG (fun Y hY => by clear hY; go_wp2; exact ⟨rfl, rfl, rfl⟩) rfl ?_ ?_; rfl)
              exact T bD cD b4 b6 ps R1 W hl hps2 hnd hd hx ho hcp hoR2 h4 n4 hz4 h6 n6 hz6 hG nG
            ·
              go_wp2_with fail
              have h4 := Blk.new W 3 #[.int .i64 3, .int .i64 3, .int .i64 3, .int .i64 3, .int .i64 3]
              have n4 := hd.new; have hz4 := hx.size
              replace hd := hd.alloc (.cells #[.int .i64 3, .int .i64 3, .int .i64 3, .int .i64 3, .int .i64 3] 3)
              replace hx := hx.alloc (.cells #[.int .i64 3, .int .i64 3, .int .i64 3, .int .i64 3, .int .i64 3] 3)
              replace hG := hG.alloc (.cells #[.int .i64 3, .int .i64 3, .int .i64 3, .int .i64 3, .int .i64 3] 3)
              replace h6 := h6.alloc (.cells #[.int .i64 3, .int .i64 3, .int .i64 3, .int .i64 3, .int .i64 3] 3)
              generalize W.alloc (.cells #[.int .i64 3, .int .i64 3, .int .i64 3, .int .i64 3, .int .i64 3] 3) = W2 at *
              generalize W.heap.size = b4 at *
              obtain ⟨W, rfl⟩ : ∃ V : World, V = W2 := ⟨_, rfl⟩
              refine ⟨fun _ => hG, ?_⟩
              refine nu_imp rfl ?_
              go_wp2_with fail
              refine (HND.out _ _ _ hd).mono ?_
              rintro e W2 ⟨v, ps, rfl, hl, hps, hnd, R1, hd1, hx1, ho, hoR⟩
              have hll : (ps.map pv).length = 5 := by rw [List.length_map, hl]
              rcases ho.2 with ⟨rfl, h0⟩ | ⟨bD, cD, cur, rfl, hbD, hh, hcp, hcm, hcs, hct⟩
              · rw [hll] at h0; cases h0
              rw [hll] at ho hoR hcp ⊢
              replace ho := ho.base hx.size
              have hps2 : ∀ p ∈ ps, ∃ g, p = some g ∧ newσ (fun _ => none) 7 ps g = some (Drv.new 7) := fun p hp => by obtain ⟨g, rfl, _, _⟩ := hps p hp; exact ⟨g, rfl, by rw [newσ_at, if_pos hp]⟩
              have h4l := h4.lt; replace h4 := hx1.blk h4 n4; replace n4 := hx1.not n4 h4l; clear h4l
              have h6l := h6.lt; replace h6 := hx1.blk h6 n6; replace n6 := hx1.not n6 h6l; clear h6l
              have hGl := hG.lt; replace hG := hx1.blk hG nG; replace nG := hx1.not nG hGl; clear hGl
              replace hd := hd1; replace hx := hx.trans hx1
              have hoR2 : ¬ R1 bD := hoR bD rfl
              clear hd1 hx1 hps hbD hh hcm hcs hct hoR hll
              obtain ⟨W, rfl⟩ : ∃ V : World, V = W2 := ⟨_, rfl⟩
              go_wp2_with fail
              refine ⟨fun _ => hG, ?_⟩
              repeat (refine nu_pure rfl hG (fun Y hY => by clear hY; go_wp2; exact ⟨rfl, rfl, rfl⟩) rfl ?_ ?_; rfl)
              exact T bD cD b4 b6 ps R1 W hl hps2 hnd hd hx ho hcp hoR2 h4 n4 hz4 h6 n6 hz6 hG nG
          ·
            go_wp2_with fail
            have h4 := Blk.new W 3 #[.int .i64 3, .int .i64 3, .int .i64 3, .int .i64 3, .int .i64 3]
            have n4 := hd.new; have hz4 := hx.size
            replace hd := hd.alloc (.cells #[.int .i64 3, .int .i64 3, .int .i64 3, .int .i64 3, .int .i64 3] 3)
            replace hx := hx.alloc (.cells #[.int .i64 3, .int .i64 3, .int .i64 3, .int .i64 3, .int .i64 3] 3)
            replace hG := hG.alloc (.cells #[.int .i64 3, .int .i64 3, .int .i64 3, .int .i64 3, .int .i64 3] 3)
            replace h6 := h6.alloc (.cells #[.int .i64 3, .int .i64 3, .int .i64 3, .int .i64 3, .int .i64 3] 3)
            generalize W.alloc (.cells #[.int .i64 3, .int .i64 3, .int .i64 3, .int .i64 3, .int .i64 3] 3) = W2 at *
            generalize W.heap.size = b4 at *
            obtain ⟨W, rfl⟩ : ∃ V : World, V = W2 := ⟨_, rfl⟩
            refine ⟨fun _ => hG, ?_⟩
            refine nu_imp rfl ?_
            go_wp2_with fail
            refine (HNE.out _).mono ?_
            rintro e W2 ⟨rfl, hb⟩
            replace hd := hd.below hb; replace hx := hx.below hb; replace hG := hG.below hb hG.lt
            replace h4 := h4.below hb h4.lt
            replace h6 := h6.below hb h6.lt
            clear hb
            obtain ⟨W, rfl⟩ : ∃ V : World, V = W2 := ⟨_, rfl⟩
            go_wp2_with fail
            refine ⟨fun _ => hG, ?_⟩
            refine nu_imp rfl ?_
            go_wp2_with fail
            refine (HND.out _ _ _ hd).mono ?_
            rintro e W2 ⟨v, ps, rfl, hl, hps, hnd, R1, hd1, hx1, ho, hoR⟩
            have hll : (ps.map pv).length = 5 := by rw [List.length_map, hl]
            rcases ho.2 with ⟨rfl, h0⟩ | ⟨bD, cD, cur, rfl, hbD, hh, hcp, hcm, hcs, hct⟩
            · rw [hll] at h0; cases h0
            rw [hll] at ho hoR hcp ⊢
            replace ho := ho.base hx.size
            have hps2 : ∀ p ∈ ps, ∃ g, p = some g ∧ newσ (fun _ => none) 7 ps g = some (Drv.new 7) := fun p hp => by obtain ⟨g, rfl, _, _⟩ := hps p hp; exact ⟨g, rfl, by rw [newσ_at, if_pos hp]⟩
            have h4l := h4.lt; replace h4 := hx1.blk h4 n4; replace n4 := hx1.not n4 h4l; clear h4l
            have h6l := h6.lt; replace h6 := hx1.blk h6 n6; replace n6 := hx1.not n6 h6l; clear h6l
            have hGl := hG.lt; replace hG := hx1.blk hG nG; replace nG := hx1.not nG hGl; clear hGl
            replace hd := hd1; replace hx := hx.trans hx1
            have hoR2 : ¬ R1 bD := hoR bD rfl
            clear hd1 hx1 hps hbD hh hcm hcs hct hoR hll
            obtain ⟨W, rfl⟩ : ∃ V : World, V = W2 := ⟨_, rfl⟩
            go_wp2_with fail
            refine ⟨fun _ => hG, ?_⟩
            repeat (refine nu_pure rfl hG (fun Y hY => by clear hY; go_wp2; exact ⟨rfl, rfl, rfl⟩) rfl ?_ ?_; rfl)
            exact T bD cD b4 b6 ps R1 W hl hps2 hnd hd hx ho hcp hoR2 h4 n4 hz4 h6 n6 hz6 hG nG
      · intro bD cD b4 b6 ps R1 W hl hps hnd hd hx ho hcp hoR h4 n4 hz4 h6 n6 hz6 hG nG
        have hq6 := h6.cell
        have hf6 := h6.frozen
        have hne4 : b6 ≠ b4 := h6.ne h4 (by decide)
        have hneG : b6 ≠ gG := h6.ne hG (by decide)
        have hneD : some b6 ≠ (Value.slice (some ⟨bD, 0, none⟩) 5 cD).ownBlock := ho.ne_blk' h6 (by decide)
        have hG5 := (((((hG.far (p := ⟨b6, 0, none⟩) hneG.symm (.int .i64 5)).far (p := ⟨b6, 1, none⟩) hneG.symm (.int .i64 1)).far (p := ⟨b6, 2, none⟩) hneG.symm (.int .i64 3)).far (p := ⟨b6, 3, none⟩) hneG.symm (.slice (some ⟨bD, 0, none⟩) 5 cD)).far (p := ⟨b6, 4, none⟩) hneG.symm (.slice (some ⟨b4, 0, none⟩) 5 5))
        have h45 := (((((h4.far (p := ⟨b6, 0, none⟩) hne4.symm (.int .i64 5)).far (p := ⟨b6, 1, none⟩) hne4.symm (.int .i64 1)).far (p := ⟨b6, 2, none⟩) hne4.symm (.int .i64 3)).far (p := ⟨b6, 3, none⟩) hne4.symm (.slice (some ⟨bD, 0, none⟩) 5 cD)).far (p := ⟨b6, 4, none⟩) hne4.symm (.slice (some ⟨b4, 0, none⟩) 5 5))
        have hd5 := (((((hd.setCell (p := ⟨b6, 0, none⟩) n6 (.int .i64 5)).setCell (p := ⟨b6, 1, none⟩) n6 (.int .i64 1)).setCell (p := ⟨b6, 2, none⟩) n6 (.int .i64 3)).setCell (p := ⟨b6, 3, none⟩) n6 (.slice (some ⟨bD, 0, none⟩) 5 cD)).setCell (p := ⟨b6, 4, none⟩) n6 (.slice (some ⟨b4, 0, none⟩) 5 5))
        have hx5 := (((((hx.set_ (p := ⟨b6, 0, none⟩) hz6 (.int .i64 5)).set_ (p := ⟨b6, 1, none⟩) hz6 (.int .i64 1)).set_ (p := ⟨b6, 2, none⟩) hz6 (.int .i64 3)).set_ (p := ⟨b6, 3, none⟩) hz6 (.slice (some ⟨bD, 0, none⟩) 5 cD)).set_ (p := ⟨b6, 4, none⟩) hz6 (.slice (some ⟨b4, 0, none⟩) 5 5))
        have ho5 := (((((ho.far (p := ⟨b6, 0, none⟩) hneD (.int .i64 5)).far (p := ⟨b6, 1, none⟩) hneD (.int .i64 1)).far (p := ⟨b6, 2, none⟩) hneD (.int .i64 3)).far (p := ⟨b6, 3, none⟩) hneD (.slice (some ⟨bD, 0, none⟩) 5 cD)).far (p := ⟨b6, 4, none⟩) hneD (.slice (some ⟨b4, 0, none⟩) 5 5))
        have h65 := (((((h6.set_ 0 (.int .i64 5)).set_ 1 (.int .i64 1)).set_ 2 (.int .i64 3)).set_ 3 (.slice (some ⟨bD, 0, none⟩) 5 cD)).set_ 4 (.slice (some ⟨b4, 0, none⟩) 5 5))
        clear hG h4 hd hx ho h6 hne4 hneG hneD
        refine nu_imp rfl ?_
        go_wp2_with fail
        refine ⟨fun _ => hG5, ?_⟩
        refine nu_nil ?_
        generalize ((((W.setCell ⟨b6, 0, none⟩ (.int .i64 5)).setCell ⟨b6, 1, none⟩ (.int .i64 1)).setCell ⟨b6, 2, none⟩ (.int .i64 3)).setCell ⟨b6, 3, none⟩ (.slice (some ⟨bD, 0, none⟩) 5 cD)).setCell ⟨b6, 4, none⟩ (.slice (some ⟨b4, 0, none⟩) 5 5) = W5 at *
        clear hq6 hf6 W hG5 nG HND HNE HBA
        obtain ⟨hset, hts, hfm, hwh⟩ := SJ_base hl hps hnd hd5 ho5 hoR h45 n4
        have hb6 : Blk W5 b6 32 (setCs (SJ ps) ⟨some ⟨bD, 0, none⟩, cD, some ⟨b4, 0, none⟩, 5⟩) := h65
        have hsl := fun W => (show Sem.run Tryz.prog (binOp BinOp.eql 27 (Value.slice (some ⟨bD, 0, none⟩) 5 cD) (Value.slice none 0 0)) W = .ok (.bool false) W from by kernel_rfl)
        have hq6 := h65.cell
        have HNEW := Lib.hid (hd5.new_ 168 (by omega) (by omega))
        have HSET := Lib.hid hset
        have HTS := Lib.hid hts
        have HFM := Lib.hid hfm
        have HWH := Lib.hid hwh
        have HB6 := Lib.hid hb6
        have HX5 := Lib.hid hx5
        have HN6 := Lib.hid n6
        have HLA := Lib.hid (ho5.lt bD rfl).2
        have HLB := Lib.hid h45.lt
        have HPS := Lib.hid hps
        clear hset hts hfm hwh hb6 hx5 n6 h65 hd5 ho5 h45 hps hnd hl hoR n4
        go_wp2_with fail
        refine HNEW.out.mono ?_
        rintro e W6 ⟨gd, rfl, hgl, hgn, hb6', R2, hd2, hx2⟩
        obtain ⟨u1, u2⟩ := Drv.new_up 168 (by omega)
        have hs168 : 1 ≤ slotsOf (Drv.new 168).n := by rw [u2]; decide
        obtain ⟨f1, f2⟩ := fmtR_up u1 hs168
        have fmk := fmtR_mark u1 hs168
        have hout : some gd ∉ (SJ ps).ds := fun e => by
          obtain ⟨g', e1, e2⟩ := HPS.out _ e
          cases e1
          rw [hgn] at e2
          cases e2
        have hq6 : ∀ i, W6.cell? ⟨b6, i, none⟩ = #[.int .i64 5, .int .i64 1, .int .i64 3, .slice (some ⟨bD, 0, none⟩) 5 cD, .slice (some ⟨b4, 0, none⟩) 5 5][i]? := (hx2.blk HB6.out HN6.out).cell
        have HFT := Lib.hid (format_any W6 _ R2 hd2 gd (Drv.new 168) (upd_same _ _ _) u1 hs168 ((Drv.new_pl 168).mono (by omega)))
        have HX2 := Lib.hid hx2
        have HOUT := Lib.hid hout
        have HGL := Lib.hid hgl
        have HU := Lib.hid u1
        have HU2 := Lib.hid u2
        have HF1 := Lib.hid f1
        have HF2 := Lib.hid f2
        have HMK := Lib.hid fmk
        have HS1 := Lib.hid hs168
        clear hd2 hx2 hb6' hout hgl hgn u1 u2 f1 f2 fmk hs168
        go_wp2_with fail
        refine HFT.out.mono ?_
        rintro e W7 ⟨rfl, R3, hd3, hx3⟩
        have hopn := open_ring W7 _ R3 hd3 gd (Drv.new 168).fmtR (upd_same _ _ _) 0 (by omega) HMK.out.1 HMK.out.2 (by rw [HF2.out]; exact HS1.out)
        rw [HF2.out, HU2.out, show slotsOf 168 = 4 from rfl, ropen_fmt HU.out HU2.out] at hopn
        have HOPN := Lib.hid hopn
        have HD3 := Lib.hid hd3
        have HX3 := Lib.hid (HX2.out.trans hx3)
        clear hopn hd3 hx3 hq6
        go_upto_region 8 with fail
        go_cut [10, 11, 12] from 61 to 66 (fun s10 s11 s12 wx => ∃ gj A8 c8, s10 = .pointer (some ⟨gj, 0, none⟩) ∧ s11 = .slice A8 0 c8 ∧ s12 = .int .i64 0 ∧ TJ w wx (upd (upd (newσ (fun _ => none) 7 ps) gd (Drv.new 168)) gd (Drv.new 168).fmtR) R3 (SJ ps) ⟨some ⟨bD, 0, none⟩, cD, some ⟨b4, 0, none⟩, 5⟩ (List.replicate 5 sec0) b6 gd gj (Drv.new 168).fmtR ⟨4, 0, 1⟩)
        case first =>
          go_wp2_with fail
          refine HOPN.out.mono ?_
          rintro e W8 ⟨gj, v8, rfl, hrg, hok8, hgj, hb8⟩
          obtain ⟨A8, c8, rfl⟩ := hok8.len
          have hsame : ∀ g, some g ∈ (SJ ps).ds → upd (upd (newσ (fun _ => none) 7 ps) gd (Drv.new 168)) gd (Drv.new 168).fmtR g = newσ (fun _ => none) 7 ps g := fun g hg => by
            have hne : g ≠ gd := fun e => HOUT.out (e ▸ hg)
            rw [upd_other _ _ hne, upd_other _ _ hne]
          have hT : TJ w W8 (upd (upd (newσ (fun _ => none) 7 ps) gd (Drv.new 168)) gd (Drv.new 168).fmtR) R3 (SJ ps) ⟨some ⟨bD, 0, none⟩, cD, some ⟨b4, 0, none⟩, 5⟩ (List.replicate 5 sec0) b6 gd gj (Drv.new 168).fmtR ⟨4, 0, 1⟩ :=
            ⟨(HX5.out.trans HX3.out).below hb8, (HSET.out.next HD3.out HX3.out ((FineM.congr hsame HFM.out).fine (by omega))).below hb8, FineM.congr hsame HFM.out, Whole.congr hsame HWH.out, (HX3.out.blk HB6.out HN6.out).below hb8 (HX3.out.blk HB6.out HN6.out).lt, HX3.out.not HN6.out HB6.out.lt, upd_same _ _ _, HOUT.out, hrg,
              fun e => by have := HD3.out.lt e; omega, Nat.le_trans (HX5.out.trans HX3.out).size hgj, fun b o e => by cases e; have := HLA.out; have := HX3.out.size; omega, fun b o e => by cases e; have := HLB.out; have := HX3.out.size; omega⟩
          have HT := Lib.hid hT
          clear hrg hok8 hgj hb8 hsame hT
          go_wp2_with fail
          go_meet
          exact ⟨gj, A8, c8, rfl, rfl, rfl, HT.out⟩
        case rest =>
        obtain ⟨gj, A8, c8, rfl, rfl, rfl, hT⟩ := hcut
        have HT := Lib.hid hT
        clear hT HOPN HFT HNEW HSET HFM HWH HB6 HX5 HN6 HX2 HX3 HD3 HLA HLB HPS HGL
        generalize upd (upd (newσ (fun _ => none) 7 ps) gd (Drv.new 168)) gd (Drv.new 168).fmtR = σ8 at *
        generalize (List.replicate 5 sec0 : List Sec) = T8 at *
        have HD1 := Lib.hid (show ∀ i : Nat, i < 4 → (Drv.new 168).fmtR.readS (4 + 41 * (i : Int)) = sec0 from fun i hi => (fmtR_slot HU.out HS1.out (i := i) (by rw [HU2.out]; exact hi)).2)
        have HN1 := Lib.hid (HF2.out.trans HU2.out)
        have HP1 := Lib.hid (fmtR_pl (Drv.new 168))
        generalize (Drv.new 168).fmtR = D1 at *
        have HFU := Lib.hid fullT_any
        rename_i hK
        refine hK _ _ ?_
        clear hK
        refine wp_seq_k (fun _ _ => ?_)
        go_cut [] from 67 to 72 (fun wx => wc = wx)
        case first =>
          go_wp2_with fail
          go_meet
          exact rfl
        case rest =>
        subst hcut

        rename_i hK3
        refine hK3 _ _ ?_
        clear hK3
        refine wp_seq_k (fun _ _ => ?_)
        go_cut [13] from 73 to 93 (fun s13 wx => ∃ (σ : Nat → Option Drv) (R : Nat → Prop) (T : List Sec), TJ w wx σ R (SJ ps) ⟨some ⟨bD, 0, none⟩, cD, some ⟨b4, 0, none⟩, 5⟩ T b6 gd gj D1 ⟨4, 0, 1⟩)
        case first =>
          go_wp2_with fail
          go_wp2_with fail
          go_loopw [13] (fun i V => ∃ (j : Nat) (σ : Nat → Option Drv) (R : Nat → Prop) (T : List Sec), j ≤ n ∧ j ≤ 3 ∧ i = .int .i64 j ∧ TJ w V σ R (SJ ps) ⟨some ⟨bD, 0, none⟩, cD, some ⟨b4, 0, none⟩, 5⟩ T b6 gd gj D1 ⟨4, 0, 1⟩) (fun i _ => 4 - (RowKit.intOf i).toNat)
          case atStart => exact ⟨0, σ8, R3, T8, by omega, by omega, rfl, HT.out⟩
          case round =>
            obtain ⟨j, σ, R, T, hjn, hj3, rfl, hT⟩ := hrel
            by_cases hlt : j < n ∧ j < 3
            · obtain ⟨hlt1, hlt2⟩ := hlt
              obtain ⟨bA, oA, rfl, hbA, hcA⟩ := HXS.out.2 (by omega)
              have hwx := hcA j hlt1
              have hxc := (hT.ext.below_of.cell (p := ⟨bA, oA + j, none⟩) hbA).trans hwx
              have hxm := HX100.out _ (mem_getD (xs := xs) (k := j) (by rw [HNL.out]; exact hlt1))
              generalize xs.getD j ⟨#[]⟩ = x at *
              have hnf : Blk wr.drew b6 32 #[.int .i64 5, .int .i64 1, .int .i64 3, .slice (some ⟨bD, 0, none⟩) 5 cD, .slice (some ⟨b4, 0, none⟩) 5 5] ∧ wr.drew.cell? ⟨bA, oA + j, none⟩ = some (.string x) := ⟨hT.blk, hxc⟩
              have hTd := hT.below (Below.refl _ _).drew
              have hj5 : (j : Int) < 3 := by omega
              have hjn5 : (j : Int) < n := by omega
              have HWX := Lib.hid hwx
              clear hcA hxc hT hwx
              go_wp2_with fail
              refine wp_region_nf (fun Y => Blk Y b6 32 #[.int .i64 5, .int .i64 1, .int .i64 3, .slice (some ⟨bD, 0, none⟩) 5 cD, .slice (some ⟨b4, 0, none⟩) 5 5] ∧ Y.cell? ⟨bA, oA + j, none⟩ = some (.string x)) (fun _ => false) [(0, true), (1, true), (2, true), (3, true), (4, true), (5, true), (6, false), (7, true), (8, false), (9, false), (10, true)] (by kernel_rfl) rfl (by kernel_rfl) (by kernel_rfl) (fun d _ _ _ _ h => by cases d <;> exact h) ?_
              generalize wr.drew = V at *
              repeat (refine nf_pure rfl hnf (fun Y hY => by have hqS := hY.1.cell; have hqX := hY.2; clear hY; go_wp2; exact ⟨rfl, rfl, rfl⟩) rfl ?_ ?_; rfl)
              refine nf_imp rfl ?_
              go_wp2_with fail
              refine (HFU.out _ x (by omega)).mono ?_
              rintro e V2 ⟨rfl, rfl⟩
              go_wp2_with fail
              refine ⟨fun _ => hnf, ?_⟩
              repeat (refine nf_pure rfl hnf (fun Y hY => by clear hY; go_wp2; exact ⟨rfl, rfl, rfl⟩) rfl ?_ ?_; rfl)
              have hfz : (⟨(fullL x.data.toList).toArray⟩ : ByteArray).size = 64 := fullS'_size x
              generalize (⟨(fullL x.data.toList).toArray⟩ : ByteArray) = F at *
              have hal := (Below.refl V.heap.size V).alloc (Nat.le_refl _) (.cells #[.int .i64 (j : Int), .int .i64 0, .string F] 44)
              have hbc := Blk.new V 44 #[.int .i64 (j : Int), .int .i64 0, .string F]
              have hT2 := hTd.below hal
              have HAP := Lib.hid (hT2.apply HTS.out (i := j) (by show j + 2 < 5; omega) hfz V.heap.size 1 hbc)
              have hnf2 : Blk (V.alloc (.cells #[.int .i64 (j : Int), .int .i64 0, .string F] 44)) b6 32 #[.int .i64 5, .int .i64 1, .int .i64 3, .slice (some ⟨bD, 0, none⟩) 5 cD, .slice (some ⟨b4, 0, none⟩) 5 5] ∧ (V.alloc (.cells #[.int .i64 (j : Int), .int .i64 0, .string F] 44)).cell? ⟨bA, oA + j, none⟩ = some (.string x) := ⟨hnf.1.alloc _, (hal.cell (p := ⟨bA, oA + j, none⟩) (cellLt hnf.2)).trans hnf.2⟩
              have HXC := Lib.hid hnf2.2
              have HBW := Lib.hid (show bA < w.heap.size from hbA)
              unfold setV setCs at HAP
              clear hal hbc hT2 hTd
              refine nf_imp rfl ?_
              go_wp2_with fail
              refine ⟨fun _ => hnf2, ?_⟩
              refine nf_imp rfl ?_
              go_wp2_with fail
              refine HAP.out.mono ?_
              rintro e V3 ⟨rfl, σ3, R3', hT3⟩
              have hnf3 : Blk V3 b6 32 #[.int .i64 5, .int .i64 1, .int .i64 3, .slice (some ⟨bD, 0, none⟩) 5 cD, .slice (some ⟨b4, 0, none⟩) 5 5] ∧ V3.cell? ⟨bA, oA + j, none⟩ = some (.string x) := ⟨hT3.blk, (hT3.ext.below_of.cell (p := ⟨bA, oA + j, none⟩) HBW.out).trans HWX.out⟩
              have HT3 := Lib.hid hT3
              clear hT3 hnf hnf2
              go_wp2_with fail
              refine ⟨fun _ => hnf3, ?_⟩
              repeat (refine nf_pure rfl hnf3 (fun Y hY => by clear hY; go_wp2; exact ⟨rfl, rfl, rfl⟩) rfl ?_ ?_; rfl)
              refine nf_nil ?_
              clear hnf3
              go_wp2_with fail
              go_roundw
              case rel => exact ⟨j + 1, σ3, R3', _, by omega, by omega, by go_num, HT3.out⟩
              case measure => simp [RowKit.intOf]; omega
            · have HT9 := Lib.hid hT
              clear hT
              have hj9 : (j : Int) < n → ¬ ((j : Int) < 3) := fun h1 h2 => hlt ⟨by omega, by omega⟩
              by_cases hjn9 : (j : Int) < n
              · have hj10 := hj9 hjn9
                clear hj9 hlt
                go_wp2_with fail
                go_meet
                exact ⟨σ, R, T, HT9.out⟩
              · clear hj9 hlt
                go_wp2_with fail
                go_meet
                exact ⟨σ, R, T, HT9.out⟩
        case rest =>
          obtain ⟨σ, R, T, hT⟩ := hcut
          clear HT
          have hxa := HAT.out
          obtain ⟨a, rfl⟩ : ∃ a : Nat, at_ = (a : Int) := ⟨at_.toNat, by simp [Lit.wf, IntKind.min, IntKind.max, IntKind.bits, IntKind.signed] at hxa; omega⟩
          have ha256 : (a : Int) ≤ 255 := by simp [Lit.wf, IntKind.min, IntKind.max, IntKind.bits, IntKind.signed] at hxa; omega
          have hk3 : a % 3 < 3 := Nat.mod_lt _ (by omega)
          have hkm : (a : Int) % 3 = ((a % 3 : Nat) : Int) := by omega
          generalize a % 3 = k at *
          have hnf : Blk wc.drew b6 32 #[.int .i64 5, .int .i64 1, .int .i64 3, .slice (some ⟨bD, 0, none⟩) 5 cD, .slice (some ⟨b4, 0, none⟩) 5 5] := hT.blk
          have hTd := hT.below (Below.refl _ _).drew
          clear hT hxa
          go_wp2_with fail
          refine wp_region_nf (fun Y => Blk Y b6 32 #[.int .i64 5, .int .i64 1, .int .i64 3, .slice (some ⟨bD, 0, none⟩) 5 cD, .slice (some ⟨b4, 0, none⟩) 5 5]) (fun _ => false) [(0, true), (1, true), (2, true), (3, false), (4, true), (5, false), (6, false), (7, true), (8, true), (9, true), (10, true), (11, true)] (by kernel_rfl) rfl (by kernel_rfl) (by kernel_rfl) (fun d _ _ _ _ h => by cases d <;> exact h) ?_
          generalize wc.drew = V at *
          repeat (refine nf_pure rfl hnf (fun Y hY => by have hqS := hY.cell; clear hY; go_wp2; exact ⟨rfl, rfl, rfl⟩) rfl ?_ ?_; rfl)
          refine nf_imp rfl ?_
          go_wp2_with fail
          refine (HFU.out _ d (by omega)).mono ?_
          rintro e V2 ⟨rfl, rfl⟩
          go_wp2_with fail
          refine ⟨fun _ => hnf, ?_⟩
          repeat (refine nf_pure rfl hnf (fun Y hY => by clear hY; go_wp2; exact ⟨rfl, rfl, rfl⟩) rfl ?_ ?_; rfl)
          have hfz : (⟨(fullL d.data.toList).toArray⟩ : ByteArray).size = 64 := fullS'_size d
          obtain ⟨F, hF⟩ : ∃ F, (⟨(fullL d.data.toList).toArray⟩ : ByteArray) = F := ⟨_, rfl⟩
          rw [hF] at hfz ⊢
          have HFF := Lib.hid hF
          have hal := (Below.refl V.heap.size V).alloc (Nat.le_refl _) (.cells #[.int .i64 (k : Int), .int .i64 0, .string F] 44)
          have hbc := Blk.new V 44 #[.int .i64 (k : Int), .int .i64 0, .string F]
          have hT2 := hTd.below hal
          have hk5 : k + 2 < (SJ ps).n := by show k + 2 < 5; omega
          have HPA := Lib.hid (hT2.parts HTS.out (i := k) hk5 hfz V.heap.size 1 hbc)
          have hnf2 := hnf.alloc (.cells #[.int .i64 (k : Int), .int .i64 0, .string F] 44)
          have HT2 := Lib.hid hT2
          have HFZ := Lib.hid hfz
          unfold setV setCs at HPA
          clear hal hbc hT2 hTd hnf hF hfz
          refine nf_imp rfl ?_
          go_wp2_with fail
          refine ⟨fun _ => hnf2, ?_⟩
          refine nf_imp rfl ?_
          go_wp2_with fail
          refine HPA.out.mono ?_
          rintro e V3 ⟨v3, rfl, hop, hb3⟩
          have hnf3 := hnf2.below hb3 hnf2.lt
          have hT3 := HT2.out.below hb3
          have hmay := partsT_may (S := SJ ps) (σ := σ) (row := 1) (off := 0) (ys := newCols ((SJ ps).n - 2) T k F) (want := wantB ((SJ ps).n - 2) k []) hT3.set.ok.geo HTS.out.r HTS.out.k (hT3.sizes hk5 HFZ.out) (hT3.ne _ _ _)
          have hpl := partsT_len (SJ ps) σ 1 0 (newCols ((SJ ps).n - 2) T k F) (wantB ((SJ ps).n - 2) k []) (SJ ps).n
          obtain ⟨P, hP⟩ : ∃ P, partsT (SJ ps) σ 1 0 (newCols ((SJ ps).n - 2) T k F) (wantB ((SJ ps).n - 2) k []) (SJ ps).n = P := ⟨_, rfl⟩
          rw [hP] at hop hmay hpl
          have HPP := Lib.hid hP
          have hpl5 : P.length ≤ 5 := hpl
          obtain ⟨Ap, cp, rfl, hcp2, hcm2⟩ := hop.shape
          have hqok : (⟨4, 0, 1⟩ : Rng).ok := ⟨by decide, by decide, by decide, by decide, by decide⟩
          have HAPP := Lib.hid (hT3.append (c := cp) HF1.out (HP1.out.mono (by omega)) hqok (by decide) (by rw [HN1.out]; decide) hop.parts hmay (by unfold maxLen; omega))
          have HUP := Lib.hid (app_up (q := ⟨4, 0, 1⟩) HF1.out hqok (by rw [HN1.out]; decide) (row := 1) hmay)
          have HLO := Lib.hid (app_low (q := ⟨4, 0, 1⟩) HF1.out hqok (by rw [HN1.out]; decide) (row := 1) hmay (j := 3) (by omega) (by omega))
          have HRO := Lib.hid (ropen_app HF1.out HN1.out HD1.out hmay)
          have HMA := Lib.hid hmay
          have HPL := Lib.hid hpl5
          clear hop hb3 hT3 hmay hpl hP hcp2 hcm2 hqok hnf2 hpl5
          go_wp2_with fail
          refine ⟨fun _ => hnf3, ?_⟩
          repeat (refine nf_pure rfl hnf3 (fun Y hY => by clear hY; go_wp2; exact ⟨rfl, rfl, rfl⟩) rfl ?_ ?_; rfl)
          refine nf_nil ?_
          clear hnf3
          go_wp2_with fail
          refine HAPP.out.mono ?_
          rintro e V4 ⟨rfl, R4, hT4⟩
          have HOP2 := Lib.hid (hT4.open_ (HLO.out.1.trans HMK.out.1) (HLO.out.2.trans HMK.out.2) (by rw [HUP.out.2, HN1.out]; decide))
          rw [HUP.out.2, HN1.out, show slotsOf 168 = 4 from rfl, HRO.out] at HOP2
          have HT4 := Lib.hid hT4
          clear hT4
          go_wp2_with fail
          refine HOP2.out.mono ?_
          rintro e V5 ⟨g5, v5, rfl, _, hok5, _, hb5⟩
          obtain ⟨A5, c5, rfl⟩ := hok5.len
          have hT5 := HT4.out.below hb5
          have hrec := hok5.recs (R := R4) (fun b hb => HT4.out.set.dsk.lt hb)
          have HREC := Lib.hid hrec
          obtain ⟨bR, oR, rfl, hbR, hbl, hcR⟩ := hrec.2 (by simp)
          obtain ⟨r1, r2, A', c', r3, r4⟩ := hcR 0 (by simp)
          have r1' : V5.cell? ⟨bR, oR, none⟩ = some (.int .u64 1) := by simpa using r1
          have r2' : V5.cell? ⟨bR, oR + 1, none⟩ = some (.int .i64 1) := by simpa using r2
          have r3' : V5.cell? ⟨bR, oR + 2, none⟩ = some (.slice A' P.length c') := by simpa using r3
          have HMC := Lib.hid (rcMay_any V5 1 1 A' P.length c' P r4.parts (by have := HPL.out; unfold maxLen; omega))
          have hmb : mayB 1 P = true := HMA.out
          rw [hmb] at HMC
          have HT5 := Lib.hid hT5
          clear hok5 hb5 hT5 hrec hbR hbl hcR r1 r2 r3 r4 hmb
          go_wp2_with fail
          refine HMC.out.mono ?_
          rintro e V6 ⟨rfl, hb6⟩
          have hT6 := HT5.out.below hb6
          have hsame : ∀ g, some g ∈ (SJ ps).ds → upd σ gd (D1.app ⟨4, 0, 1⟩ 1 P) g = σ g := fun g hg => upd_other _ _ (fun e => HOUT.out (e ▸ hg))
          have hx2 : P = partsT (SJ ps) (upd σ gd (D1.app ⟨4, 0, 1⟩ 1 P)) 1 0 (newCols ((SJ ps).n - 2) T k F) (wantB ((SJ ps).n - 2) k []) (SJ ps).n := HPP.out.symm.trans (partsT_congr hsame 1 0 _ _ _).symm
          have HRE := Lib.hid (hT6.replay HTS.out (i := k) hk5 HFZ.out (x := ⟨1, 1, recSum P, P⟩) rfl hx2 (c := c5) (HREC.out.ext (Ext.of_below R4 hb6)))
          have hq6 : ∀ i, V6.cell? ⟨b6, i, none⟩ = (#[.int .i64 5, .int .i64 1, .int .i64 3, .slice (some ⟨bD, 0, none⟩) 5 cD, .slice (some ⟨b4, 0, none⟩) 5 5] : Array Value)[i]? := hT6.blk.cell
          have hgT : (newCols ((SJ ps).n - 2) T k F).getD k ⟨#[]⟩ = F := by
            have h5 : (SJ ps).n = 5 := rfl
            rw [newCols_data (by have := hT6.wh.st.len; omega) (by omega) (by omega), if_pos rfl]
          have HGT := Lib.hid hgT
          unfold setV setCs at HRE
          clear hT6 hsame hx2 hb6 r1' r2' r3' hgT
          go_wp2_with fail
          refine HRE.out.mono ?_
          rintro e V7 ⟨rfl, σ7, R7, hT7⟩
          have hq7 : ∀ i, V7.cell? ⟨b6, i, none⟩ = (#[.int .i64 5, .int .i64 1, .int .i64 3, .slice (some ⟨bD, 0, none⟩) 5 cD, .slice (some ⟨b4, 0, none⟩) 5 5] : Array Value)[i]? := hT7.blk.cell
          have HSE := Lib.hid (hT7.sector HTS.out (i := k) hk5)
          rw [HGT.out] at HSE
          have HT7 := Lib.hid hT7
          unfold setV setCs at HSE
          clear hT7 hq6
          go_wp2_with fail
          refine HSE.out.mono ?_
          rintro e V8 ⟨rfl, hb8⟩
          have hT8 := HT7.out.below hb8
          have hq8 : ∀ i, V8.cell? ⟨b6, i, none⟩ = (#[.int .i64 5, .int .i64 1, .int .i64 3, .slice (some ⟨bD, 0, none⟩) 5 cD, .slice (some ⟨b4, 0, none⟩) 5 5] : Array Value)[i]? := hT8.blk.cell
          have HRD := Lib.hid (hT8.read HTS.out)
          have HT8 := Lib.hid hT8
          unfold setV setCs at HRD
          clear hT8 hb8 hq7
          go_wp2_with fail
          refine HRD.out.mono ?_
          rintro e V9 ⟨y1, y2, rfl, ho1, ho2, hb9⟩
          obtain ⟨Y1, z1, rfl, hz1, hz2, hz3, hz4⟩ := ho1.shape
          obtain ⟨Y2, z2, rfl, hz5⟩ := ho2.shape
          have hYl : (svs (newCols ((SJ ps).n - 2) T k F)).length = 5 := by
            rw [svs_len]
            exact HT7.out.wh.st.len2 (show 2 ≤ 5 by decide)
          rw [hYl] at ho1 hz1 ⊢
          have hszs : ∀ x ∈ newCols ((SJ ps).n - 2) T k F, x.size ≤ 4000000000 := fun x hx => by
            have := stripe_sizes HT7.out.wh.st (show 2 ≤ 5 by decide) x hx
            omega
          have HGO := Lib.hid (sgood_any V9 Y1 5 z1 (newCols ((SJ ps).n - 2) T k F) ho1.strs (by omega) hz1 hz2 hszs)
          rw [HT7.out.good] at HGO
          have HB9 := Lib.hid ((HT8.out.below hb9).ext.below_of)
          clear ho1 ho2 hb9 hq8 hz1 hz2 hz3 hz4 hz5 hYl hszs
          go_wp2_with fail
          refine (HFU.out _ d (by omega)).mono ?_
          rintro e V10 ⟨rfl, rfl⟩
          rw [HFF.out]
          go_wp2_with fail
          refine HGO.out.mono ?_
          rintro e V11 ⟨rfl, hb11⟩
          have HB11 := Lib.hid (HB9.out.trans (hb11.mono HB9.out.size))
          clear hb11
          go_wp2_with fail
          go_ret
          exact ⟨rfl, HB11.out⟩
end Go.Proofs.YtmhmdoobadckkaaGreatDoor
