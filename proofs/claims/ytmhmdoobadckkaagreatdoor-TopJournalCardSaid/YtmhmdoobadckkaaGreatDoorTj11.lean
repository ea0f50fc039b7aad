/- Own texts, joined: Prt. -/
import Derived.Test.YtmhmdoobadckkaaGreatDoorTj7
import Derived.Test.YtmhmdoobadckkaaGreatDoorTj9
import Derived.Test.YtmhmdoobadckkaaGreatDoorTj10
/- stripe.Parts, where there is one change: the walk. -/
namespace Go.Proofs.YtmhmdoobadckkaaGreatDoor
set_option maxRecDepth 20000
open Go.RowKit Go.OpenShut

/-- the parts that are told -/
def PartsP (w : World) (ps : List Prt) (e : Ending) (w' : World) : Prop := ∃ v, e = .returned (.tuple #[v, .int .i64 0]) ∧ OwnP 142 w' w.heap.size v ps ∧ Below w.heap.size w w'
theorem keysUp_one {β : Type} (k : Int) (v : β) : keysUp' [(k, v)] = [k] := by simp [keysUp']
theorem OwnV.ownI {w : World} {B : Nat} {t : TypeId} {v : Value} {l : List Int} (h : OwnV t w B v (ivs .i64 l)) : OwnI w B t .i64 v l := by
  unfold OwnV at h
  unfold OwnI
  have e : (ivs .i64 l).length = l.length := by simp [ivs]
  rwa [e] at h
set_option maxRecDepth 100000 in
set_option maxHeartbeats 4000000 in
theorem parts_one (w : World) (σ : Nat → Option Drv) (R : Nat → Prop) (S : RS) (L : SL) (h : SetIn w σ R S L) (row i off : Nat) (d : ByteArray) (hr : row < S.r) (hi : i + 2 < S.n) (ho : off < S.k) (hd : d.size = 64)
    (b o c : Nat) (hc : PAt w b o 0 ⟨(i : Int), (off : Int), d⟩) (xs : List Sec) (lost : List Int) (hxl : xs.length = S.n) (hxs : ∀ x ∈ xs, x.size ≤ 64) (hlo : lost.length ≤ 10)
    (hfl : ∀ W, Below w.heap.size w W → Calls Tryz.prog 75 #[setV S L, .int .i64 (row : Int), .int .i64 (off : Int)] W (ReadP W xs lost)) :
    Calls Tryz.prog 24 #[setV S L, .int .i64 (row : Int), .slice (some ⟨b, o, none⟩) 1 c] w (PartsP w (partsT S σ row off (newCols (S.n - 2) xs i d) (wantB (S.n - 2) i lost) S.n)) := by
  have hg := h.ok.geo
  have HG := Lib.hid (geo_bd hg)
  obtain ⟨q1, q2, q3⟩ := hc
  have hbl := cellLt q1
  have HBP := Lib.hid (fun W (hb : Below w.heap.size w W) => byPlace_one W σ R S L (h.below hb) b o c i off d ⟨(hb.cell hbl).trans q1, (hb.cell hbl).trans q2, (hb.cell hbl).trans q3⟩ hi ho hd)
  have HRO := Lib.hid (fun W => roles_any W S.n S.k S.r hg row hr)
  have HTH := Lib.hid (fun W (hb : Below w.heap.size w W) c (hc : c < S.n) => there_st W σ R S L (h.below hb) c hc)
  have HFL := Lib.hid hfl
  have HXL := Lib.hid hxl
  have HXS := Lib.hid hxs
  have HDZ := Lib.hid hd
  have HLO := Lib.hid hlo
  have HI := Lib.hid hi
  have HO := Lib.hid ho
  have hn4 : (4 : Int) ≤ S.n := by have := HG.out; omega
  have hn10 : (S.n : Int) ≤ 10 := by have := HG.out; omega
  have hr2 : (row : Int) < S.r := by omega
  have hr3 : decide (S.r ≤ row) = false := decide_eq_false (by omega)
  have hr4 : decide ((row : Int) < 0) = false := decide_eq_false (by omega)
  have hal := (Below.refl w.heap.size w).alloc (Nat.le_refl _) (.cells #[.int .i64 (S.n : Int), .int .i64 (S.k : Int), .int .i64 (S.r : Int), .slice L.A S.n L.ca, .slice L.B S.n L.cb] 32)
  have hbx := Blk.new w 32 #[.int .i64 (S.n : Int), .int .i64 (S.k : Int), .int .i64 (S.r : Int), .slice L.A S.n L.ca, .slice L.B S.n L.cb]
  unfold setV setCs gV at *
  clear h hr hi ho hd q1 q2 q3 hbl hxl hxs hlo hfl hg
  go_enter Tryz.func24, Tryz.ntmps24
  go_wp2_with fail
  refine (HBP.out _ hal).mono ?_
  rintro e w1 ⟨r, r2, rfl, hr1, hrr2, hne, hm1, hm2, hb1⟩
  replace hbx := hbx.below hb1 hbx.lt
  replace hal := hal.trans (hb1.mono hal.size)
  clear hb1
  have hq := hbx.cell
  have HBX := Lib.hid hbx
  have HAL := Lib.hid hal
  have HM1 := Lib.hid hm1
  have HM2 := Lib.hid hm2
  clear hbx hal hm1 hm2
  go_wp2_with fail
  refine (HRO.out _).mono ?_
  rintro e w2 ⟨gc, rfl, hgc, hk, hb2⟩
  have hz2 := HAL.out.size
  have HB2 := Lib.hid (HAL.out.trans (hb2.mono hz2))
  have HBX2 := Lib.hid (HBX.out.below hb2 HBX.out.lt)
  have HM12 := Lib.hid (HM1.out.below hb2)
  have HM22 := Lib.hid (HM2.out.below hb2)
  have HK2 := Lib.hid hk
  clear hb2 hk HBX HAL HM1 HM2 hq
  have hln : ((rolesL S.n row).map fun x : Nat => (x : Int)).length = S.n := by simp [rolesL]
  rw [hln]
  go_wp2_with fail
  refine (keysM_any (some r) w2).mono ?_
  rintro e w3 ⟨rfl, rfl⟩
  have hb3 := (Below.refl w2.heap.size w2).alloc (Nat.le_refl _) (.cells #[.map (some r)] 131)
  have hcb := (Blk.new w2 131 #[.map (some r)]).cell 0
  go_wp2_with fail
  refine (sortedM _ r [((off : Int), .map (some r2))] (HM12.out.below hb3) (by simp; have := HG.out; have := HO.out; omega) (by simp) w2.heap.size (by simp) hcb).mono ?_
  rintro e w4 ⟨v4, rfl, ho4, hb4⟩
  rw [keysUp_one] at ho4
  obtain ⟨A4, c4, rfl⟩ := ho4.shape
  obtain ⟨b4, o4, hA4, hb4l, hcl4⟩ := ho4.ints.2 (by simp)
  subst hA4
  have hc40 := hcl4 0 (by simp)
  have hb34 := hb3.trans (hb4.mono hb3.size)
  have HB4 := Lib.hid (HB2.out.trans (hb34.mono HB2.out.size))
  have HBX4 := Lib.hid (HBX2.out.below hb34 HBX2.out.lt)
  have HM14 := Lib.hid (HM12.out.below hb34)
  have HM24 := Lib.hid (HM22.out.below hb34)
  have HK4 := Lib.hid (HK2.out.below hb34 HK2.out.lt)
  clear hb3 hcb hb4 hb34 ho4 HB2 HBX2 HM12 HM22 HK2 hcl4
  have hc41 : w4.cell? ⟨b4, o4, none⟩ = some (.int .i64 (off : Int)) := hc40
  have hq4 := HBX4.out.cell
  clear hc40
  go_wp2_with fail
  go_loopw [56, 12] (fun x out wr => (x = .int .i64 0 ∧ out = .slice none 0 0 ∧ w4 = wr) ∨ (x = .int .i64 1 ∧ OwnP 142 wr w.heap.size out (partsT S σ row off (newCols (S.n - 2) xs i d) (wantB (S.n - 2) i lost) S.n) ∧ Below w.heap.size w wr)) (fun x _ _ => 2 - (RowKit.intOf x).toNat)
  case atStart => exact Or.inl ⟨rfl, rfl, rfl⟩
  case round =>
    rcases hrel with ⟨rfl, rfl, rfl⟩ | ⟨rfl, hop, hb⟩
    · go_wp2_with fail
      refine (HFL.out _ HB4.out).mono ?_
      rintro e w5 ⟨v1, v2, rfl, ho1, ho2, hb5⟩
      obtain ⟨A1, c1, rfl, hcl1, hcm1, hx1, hA1⟩ := ho1.shape
      obtain ⟨A2, c2, rfl, hx2⟩ := ho2.shape
      clear hx1 hx2
      have HA1 := Lib.hid hA1
      have HC1 := Lib.hid hcm1
      clear hA1 hcm1
      have hl1 : (svs xs).length = S.n := by rw [svs_len, HXL.out]
      have hl2 : (ivs .i64 lost).length = lost.length := by simp [ivs]
      rw [hl1] at ho1 hcl1 ⊢
      rw [hl2] at ho2 ⊢
      have HB5 := Lib.hid (HB4.out.trans (hb5.mono HB4.out.size))
      have HB45 := Lib.hid hb5
      have HO1 := Lib.hid ho1
      have HO2 := Lib.hid ho2
      have HM25 := Lib.hid (HM24.out.below hb5)
      have HM25L := Lib.hid HM24.out.lt
      have HM15 := Lib.hid (HM14.out.below hb5)
      clear hb5 ho1 ho2 hq4 hc41 hl1 hl2 HM24 HM14
      have hmm := @run_makeMap Tryz.prog
      go_wp2_with fail
      have hnf := (Below.refl w5.heap.size w5).drew
      refine wp_region_nt (fun Y => Below w5.heap.size w5 Y) (fun _ => false) (NT.pures [1, 3, 4] (.imp 0 (.fork 2 (.imp 5 (NT.pures [6, 7] .nil)) 5 (.imp 2 (NT.pures [6, 7] .nil))))) (by kernel_rfl) (by kernel_rfl) (by kernel_rfl) (fun d _ _ _ _ h => by cases d <;> exact h) ?_
      repeat (refine nt_pure rfl hnf (fun Y hY => by clear hY; go_wp2; exact ⟨rfl, rfl, rfl⟩) rfl ?_ ?_; rfl)
      refine nt_imp rfl ?_
      go_wp2_with fail
      have hs0 : SetB (w5.alloc (.map #[] 0)).drew w5.heap.size (fun _ => False) := ⟨[], (mapB_new rfl : MapB (w5.alloc (.map #[] 0)) w5.heap.size []), fun x => by simp⟩
      replace hnf := ((Below.refl w5.heap.size w5).alloc (Nat.le_refl _) (.map #[] 0)).drew
      refine ⟨fun _ => hnf, ?_⟩
      generalize (w5.alloc (.map #[] 0)).drew = w6 at *
      clear hmm
      have HZ := Lib.hid (Nat.le_refl w5.heap.size)
      apply share (α := Act) (p := fun f => ∀ W, SetB W w5.heap.size (fun y => y = (S.n : Int) - 2 ∨ y = (S.n : Int) - 2 + 1) → Below w5.heap.size w5 W → wpNT Tryz.prog _ _ (fun Y => Below w5.heap.size w5 Y) (fun _ => false) (NT.pures [6, 7] .nil) f W)
      · intro T
        refine nt_fork rfl rfl ?_ ?_
        · go_wp2_with (refine wp_insertS rfl (.tmp 71) (.tmp 72) (.const (.bool true)) 112 rfl _ _ Tryz.underlying112 Tryz.underlying3 w5.heap.size _ rfl hs0 ((S.n : Int) - 2) rfl rfl ?_; intro W1 hs1 hg1)
          have hn1 := hnf.grown hg1 hnf.size (fun j hj => by cases hj; exact Nat.le_refl _)
          refine ⟨fun _ => hn1, ?_⟩
          refine nt_imp rfl ?_
          go_wp2_with (refine wp_insertS rfl (.tmp 71) (.tmp 74) (.const (.bool true)) 112 rfl _ _ Tryz.underlying112 Tryz.underlying3 w5.heap.size _ rfl hs1 ((S.n : Int) - 2 + 1) rfl rfl ?_; intro W2 hs2 hg2)
          have hn2 := hn1.grown hg2 hn1.size (fun j hj => by cases hj; exact Nat.le_refl _)
          refine ⟨fun _ => hn2, ?_⟩
          exact T W2 (hs2.iff (fun x => by simp)) hn2
        · go_wp2_with (refine wp_insertS rfl (.tmp 71) (.tmp 74) (.const (.bool true)) 112 rfl _ _ Tryz.underlying112 Tryz.underlying3 w5.heap.size _ rfl hs0 ((S.n : Int) - 2 + 1) rfl rfl ?_; intro W1 hs1 hg1)
          have hn1 := hnf.grown hg1 hnf.size (fun j hj => by cases hj; exact Nat.le_refl _)
          refine ⟨fun _ => hn1, ?_⟩
          refine nt_imp rfl ?_
          go_wp2_with (refine wp_insertS rfl (.tmp 71) (.tmp 72) (.const (.bool true)) 112 rfl _ _ Tryz.underlying112 Tryz.underlying3 w5.heap.size _ rfl hs1 ((S.n : Int) - 2) rfl rfl ?_; intro W2 hs2 hg2)
          have hn2 := hn1.grown hg2 hn1.size (fun j hj => by cases hj; exact Nat.le_refl _)
          refine ⟨fun _ => hn2, ?_⟩
          exact T W2 (hs2.iff (fun x => by simp [or_comm])) hn2
      · intro W6 hs6 hnf
        repeat (refine nt_pure rfl hnf (fun Y hY => by clear hY; go_wp2; exact ⟨rfl, rfl, rfl⟩) rfl ?_ ?_; rfl)
        refine nt_nil ?_
        have HS6 := Lib.hid hs6
        have HN6 := Lib.hid hnf
        clear hs6 hnf
        go_wp2_with fail
        go_loopw [78] (fun x wr => ∃ j : Nat, j ≤ lost.length ∧ x = .int .i64 j ∧ SetB wr w5.heap.size (fun y => (y = (S.n : Int) - 2 ∨ y = (S.n : Int) - 2 + 1) ∨ y ∈ lost.take j) ∧ Below w5.heap.size w5 wr) (fun x _ => lost.length - (RowKit.intOf x).toNat)
        case atStart => exact ⟨0, by omega, rfl, HS6.out.iff (fun x => by simp), HN6.out⟩
        case round =>
          obtain ⟨j, hj, rfl, hs, hn⟩ := hrel
          by_cases hlt : j < lost.length
          · have hll := HLO.out
            obtain ⟨b2, o2, hA2, hb2l, hcl2⟩ := (OwnV.ownI HO2.out).ints.2 (by omega)
            subst hA2
            have hcj := (hn.cell (p := ⟨b2, o2 + j, none⟩) hb2l).trans (hcl2 j hlt)
            have hmem : lost.getD j 0 = lost[j] := by simp [List.getD, hlt]
            have HT := Lib.hid (show lost.take (j + 1) = lost.take j ++ [lost.getD j 0] by rw [List.take_succ_eq_append_getElem hlt, hmem])
            generalize lost.getD j 0 = z at *
            clear hcl2 hmem
            go_wp2_with (at_mapUpdate; refine wp_updateS rfl (.tmp 82) (.tmp 83) (.const (.bool true)) 112 rfl _ _ Tryz.underlying112 Tryz.underlying3 w5.heap.size _ rfl hs z rfl rfl ?_; intro W7 hs7 hg7)
            have hn7 := hn.grown hg7 hn.size (fun j hj => by cases hj; exact Nat.le_refl _)
            go_roundw
            case rel => exact ⟨j + 1, by omega, by go_num, hs7.iff (fun x => by rw [HT.out]; simp [or_assoc]), hn7⟩
            case measure => simp [RowKit.intOf]; omega
          · obtain rfl : j = lost.length := by omega
            rw [List.take_length] at hs
            obtain ⟨wo, rfl⟩ : ∃ wo : World, wo = wr := ⟨_, rfl⟩
            obtain ⟨g1, rfl⟩ : ∃ g1, A1 = some ⟨g1, 0, none⟩ := by
              rcases HO1.out.2 with ⟨e1, h9⟩ | ⟨g, cap, cur, e1, _⟩
              · exfalso
                rw [svs_len, HXL.out] at h9
                omega
              · injection e1 with e2
                exact ⟨g, e2⟩
            obtain ⟨hg1, hg2⟩ := HO1.out.lt g1 rfl
            have hsl := hs.lt
            have hr2l := HM25.out.lt
            have hr24 := HM25L.out
            have hlk : (Instr.lookup 131 (.map (some r)) (.int .i64 (off : Int)) false).run Tryz.prog wo = .ok (.map (some r2)) wo := (lookup_ints (P := Tryz.prog) Tryz.underlying131 Tryz.underlying3 zero_mapS (HM15.out.below hn) (off : Int)).trans (by simp [mfind])
            obtain ⟨ob, hrg, hit0, _⟩ := range_one (P := Tryz.prog) Tryz.underlying103 (HM25.out.below hn)
            have hs8 := hs.old (Below.heap_alloc wo ob _ hsl)
            have hn8 := hn.alloc hn.size ob
            have HS8 := Lib.hid hs8
            have HN8 := Lib.hid hn8
            have HIT := Lib.hid hit0
            have hitl : wo.heap.size < (wo.alloc ob).heap.size := by simp
            have HHIT := Lib.hid hitl
            have hw5 : w5.heap.size < wo.heap.size := hsl
            clear hs hn hs8 hn8 hit0 hitl
            go_wp2_with fail
            clear hlk hrg
            generalize wo.alloc ob = w8 at *
            generalize wo.heap.size = it at *
            have hw45 := HB45.out.size
            go_loopw [21] (fun _ W => ∃ q : Bool, ItAt W r2 it (i : Int) (.string d) q ∧ SetB W w5.heap.size (fun y => ((y = (S.n : Int) - 2 ∨ y = (S.n : Int) - 2 + 1) ∨ y ∈ lost) ∨ (q = true ∧ y = (i : Int))) ∧ OwnV 9 W w4.heap.size (.slice (some ⟨g1, 0, none⟩) S.n c1) (svs (if q then xs.set i d else xs)) ∧ Below w4.heap.size w4 W) (fun _ W => itM W it)
            case atStart => exact ⟨false, HIT.out, HS8.out.iff (fun x => by simp), HO1.out.below HN8.out, HB45.out.trans (HN8.out.mono hw45)⟩
            case round =>
              obtain ⟨q, hit, hs, ho, hb⟩ := hrel
              have HM := Lib.hid hit.m
              cases q with
              | false =>
                obtain ⟨W1, hnx, hit1, hgn⟩ := next_first (P := Tryz.prog) hit
                have hen := entry_one (P := Tryz.prog) hit1
                have hs1 := hs.old (hgn.block _ hs.lt (by simp; omega))
                have ho1 : OwnV 9 W1 w4.heap.size (.slice (some ⟨g1, 0, none⟩) S.n c1) (svs xs) := World.ownsRow.kept ho hgn (Or.inr (by simp [Value.ownBlock]; omega))
                have hb1 := hb.grown hgn hb.size (fun j hj => by cases hj; omega)
                have hii := HI.out
                obtain ⟨hc, hf⟩ := ho1.isSome_ (by rw [svs_len, HXL.out]) (show i < S.n by omega)
                have hs2 : SetB (W1.setCell ⟨g1, i, none⟩ (.string d)) w5.heap.size _ := hs1.old (Below.heap_setCell _ _ _ _ (by simp; omega))
                have ho2 := ho1.set i (.string d) (by rw [svs_len, HXL.out])
                have hit2 : ItAt (W1.setCell ⟨g1, i, none⟩ (.string d)) r2 it (i : Int) (.string d) true := hit1.old (Below.heap_setCell _ _ _ _ (by simp; omega)) (Below.heap_setCell _ _ _ _ (by simp; omega))
                have hb2 := hb1.setCell (p := ⟨g1, i, none⟩) (by exact hg1) (.string d)
                have hi0 : (i : Int) < S.n := by omega
                have HIT2 := Lib.hid hit2
                have HO9 := Lib.hid ho2
                have HB9 := Lib.hid hb2
                clear hit hs ho hb hit1 hs1 ho1 hb1 hgn hit2 ho2 hb2
                go_wp2_with (at_mapUpdate; refine wp_updateS rfl (.tmp 96) (.tmp 97) (.const (.bool true)) 112 rfl _ _ Tryz.underlying112 Tryz.underlying3 w5.heap.size _ rfl hs2 (i : Int) rfl rfl ?_; intro W3 hs3 hg3)
                have hit3 := HIT2.out.old (hg3.block _ HIT2.out.lt.1 (by simp; omega)) (hg3.block _ HIT2.out.lt.2 (by simp; omega))
                go_roundw
                case rel =>
                  refine ⟨_, _, _, _, _, _, _, _, _, _, _, _, _, ?_, rfl⟩
                  refine ⟨true, hit3, hs3.iff (fun x => by simp), ?_, HB9.out.grown hg3 HB9.out.size (fun j hj => by cases hj; exact hw45)⟩
                  have e9 : svs (if true = true then xs.set i d else xs) = (svs xs).set i (.string d) := by simp [svs, List.map_set]
                  rw [e9]
                  exact World.ownsRow.kept HO9.out hg3 (Or.inr (by simp [Value.ownBlock]; omega))
                case measure => rw [hit3.m, HM.out]; simp
              | true =>
                have hnl := next_last (P := Tryz.prog) hit
                obtain ⟨wp, rfl⟩ : ∃ wp : World, wp = wr := ⟨_, rfl⟩
                have ho' : OwnV 9 wp w4.heap.size (.slice (some ⟨g1, 0, none⟩) S.n c1) (svs (xs.set i d)) := ho
                have hs' : SetB wp w5.heap.size (fun y => ((y = (S.n : Int) - 2 ∨ y = (S.n : Int) - 2 + 1) ∨ y ∈ lost) ∨ y = (i : Int)) := hs.iff (fun x => by simp)
                have hNt : ((S.n : Int) - 2).toNat = S.n - 2 := by omega
                have hNt2 : ((S.n : Int) - 2 + 1).toNat = S.n - 2 + 1 := by omega
                have hcS : (S.n : Int) ≤ c1 := by omega
                have hii := HI.out
                have HPQ := Lib.hid (fun V (hV : Below wp.heap.size wp V) => (show StrsA V V.heap.size (some ⟨g1, 0, none⟩) (S.n - 2) ((xs.set i d).take (S.n - 2)) from ((ho'.below hV).strs.take (S.n - 2) (by omega))))
                have HSZ := Lib.hid (show ∀ x ∈ (xs.set i d).take (S.n - 2), x.size ≤ 4294967295 from fun x hx => by
                  have hx2 := List.mem_of_mem_take hx
                  rcases List.mem_or_eq_of_mem_set hx2 with h9 | h9
                  · have := HXS.out x h9; omega
                  · subst h9; have := HDZ.out; omega)
                have HP := Lib.hid (fun V (hV : Below wp.heap.size wp V) => P_any V V.heap.size (some ⟨g1, 0, none⟩) (S.n - 2) c1 _ (HPQ.out V hV) (Nat.le_refl _) (by omega) HSZ.out)
                have HQ := Lib.hid (fun V (hV : Below wp.heap.size wp V) => Q_any V (some ⟨g1, 0, none⟩) (S.n - 2) c1 _ (HPQ.out V hV) (by omega) (by omega) HSZ.out)
                have HOW := Lib.hid ho'
                have HSW := Lib.hid hs'
                have HBW := Lib.hid hb
                have HITL := Lib.hid hit.lt
                clear hit hs ho hb ho' hs' HM HPQ
                go_wp2_with fail
                have hnf := (Chg.refl (fun b => b = g1) wp).drew
                have hbl := (Below.refl wp.heap.size wp).drew
                refine wp_region_nf (fun Y => Chg (fun b => b = g1) wp Y) (fun _ => false) [(0, true), (1, true), (2, true), (3, true), (4, true), (5, true), (6, true), (7, true), (9, true), (10, true), (11, true), (8, false), (12, false), (13, false), (14, false), (15, false), (16, false)] (by kernel_rfl) rfl (by kernel_rfl) (by kernel_rfl) (fun d _ _ _ _ h => by cases d <;> exact h) ?_
                repeat (refine nf_pure rfl hnf (fun Y hY => by clear hY; go_wp2; exact ⟨rfl, rfl, rfl⟩) rfl ?_ ?_; rfl)
                refine nf_imp rfl ?_
                go_wp2_with fail
                refine (HP.out _ hbl).mono ?_
                rintro e W1 ⟨rfl, hb1⟩
                replace hnf := hnf.then hb1
                replace hbl := hbl.trans (hb1.mono hbl.size)
                clear hb1
                go_wp2_with fail
                refine ⟨fun _ => hnf, ?_⟩
                refine nf_imp rfl ?_
                go_wp2_with fail
                refine (HQ.out _ hbl).mono ?_
                rintro e W2 ⟨rfl, hb2⟩
                replace hnf := hnf.then hb2
                replace hbl := hbl.trans (hb2.mono hbl.size)
                clear hb2
                go_wp2_with fail
                refine ⟨fun _ => hnf, ?_⟩
                refine nf_imp rfl ?_
                go_wp2_with fail
                refine ⟨fun _ => hnf, ?_⟩
                have hO2 := HOW.out.below hbl
                have hln1 : (svs (xs.set i d)).length = S.n := by rw [svs_len, List.length_set, HXL.out]
                obtain ⟨hc1, hf1⟩ := hO2.isSome_ hln1 (show S.n - 2 < S.n by omega)
                have hO3 := hO2.set (S.n - 2) (.string ⟨(addL ((xs.set i d).take (S.n - 2))).toArray⟩) hln1
                have hln2 : ((svs (xs.set i d)).set (S.n - 2) (.string ⟨(addL ((xs.set i d).take (S.n - 2))).toArray⟩)).length = S.n := by rw [List.length_set, hln1]
                obtain ⟨hc2, hf2⟩ := hO3.isSome_ hln2 (show S.n - 2 + 1 < S.n by omega)
                have hO4 := hO3.set (S.n - 2 + 1) (.string ⟨(qL ((xs.set i d).take (S.n - 2))).toArray⟩) hln2
                have HO4 := Lib.hid hO4
                have HBL := Lib.hid hbl
                have hnf2 := hnf.setCell (p := ⟨g1, S.n - 2, none⟩) (Or.inl rfl) (.string ⟨(addL ((xs.set i d).take (S.n - 2))).toArray⟩)
                have hnf3 := hnf2.setCell (p := ⟨g1, S.n - 2 + 1, none⟩) (Or.inl rfl) (.string ⟨(qL ((xs.set i d).take (S.n - 2))).toArray⟩)
                clear hO2 hO3 hO4 hbl hln1 hln2
                refine nf_imp rfl ?_
                go_wp2_with fail
                refine ⟨fun _ => hnf2, ?_⟩
                refine nf_imp rfl ?_
                go_wp2_with fail
                refine ⟨fun _ => hnf2, ?_⟩
                refine nf_imp rfl ?_
                go_wp2_with fail
                refine ⟨fun _ => hnf3, ?_⟩
                refine nf_nil ?_
                have HYE := Lib.hid (show svs (newCols (S.n - 2) xs i d) = ((svs (xs.set i d)).set (S.n - 2) (.string ⟨(addL ((xs.set i d).take (S.n - 2))).toArray⟩)).set (S.n - 2 + 1) (.string ⟨(qL ((xs.set i d).take (S.n - 2))).toArray⟩) by unfold newCols svs; simp only [List.map_set])
                rw [← HYE.out] at HO4
                have HYL := Lib.hid (show (newCols (S.n - 2) xs i d).length = S.n by rw [newCols_len, HXL.out])
                have HB4W := Lib.hid ((HBW.out.trans (HBL.out.mono HBW.out.size)))
                have HSW4 := Lib.hid (((HSW.out.below HBL.out).old (Below.heap_setCell W2 ⟨g1, S.n - 2, none⟩ (.string ⟨(addL ((xs.set i d).take (S.n - 2))).toArray⟩) _ (by simp; omega))).old (Below.heap_setCell _ ⟨g1, S.n - 2 + 1, none⟩ (.string ⟨(qL ((xs.set i d).take (S.n - 2))).toArray⟩) _ (by simp; omega)))
                have HBB4 := Lib.hid ((HB4W.out.setCell (p := ⟨g1, S.n - 2, none⟩) (by exact hg1) (.string ⟨(addL ((xs.set i d).take (S.n - 2))).toArray⟩)).setCell (p := ⟨g1, S.n - 2 + 1, none⟩) (by exact hg1) (.string ⟨(qL ((xs.set i d).take (S.n - 2))).toArray⟩))
                have HBXW := Lib.hid (HBX4.out.below HBB4.out HBX4.out.lt)
                have HKW := Lib.hid (HK4.out.below HBB4.out HK4.out.lt)
                clear hnf hnf2 hnf3 hc1 hc2 hf1 hf2 HYE HB4W HSW HBW HOW HP HQ HITL hnl HBL
                generalize hys : newCols (S.n - 2) xs i d = ys at *
                have HYD := Lib.hid hys
                clear hys
                go_wp2_with fail
                generalize (W2.setCell ⟨g1, S.n - 2, none⟩ (.string ⟨(addL ((xs.set i d).take (S.n - 2))).toArray⟩)).setCell ⟨g1, S.n - 2 + 1, none⟩ (.string ⟨(qL ((xs.set i d).take (S.n - 2))).toArray⟩) = W4 at *
                have HB04 := Lib.hid (HB4.out.trans (HBB4.out.mono HB4.out.size))
                clear W1 W2
                go_loopw [117, 12] (fun x out W => ∃ j : Nat, j ≤ S.n ∧ x = .int .i64 j ∧ OwnP 142 W W4.heap.size out (partsT S σ row off ys (wantB (S.n - 2) i lost) j) ∧ Below W4.heap.size W4 W) (fun x _ _ => S.n - (RowKit.intOf x).toNat)
                case atStart => exact ⟨0, by omega, rfl, OwnP.none_ _ _, Below.refl _ _⟩
                case round =>
                  obtain ⟨j, hj, rfl, hop, hn⟩ := hrel
                  by_cases hlt : j < S.n
                  · have hwi : wantB (S.n - 2) i lost j = true ↔ (((j : Int) = (S.n : Int) - 2 ∨ (j : Int) = (S.n : Int) - 2 + 1) ∨ (j : Int) ∈ lost) ∨ (j : Int) = (i : Int) := by
                      unfold wantB
                      simp only [Bool.or_eq_true, decide_eq_true_eq]
                      constructor
                      · rintro ((h9 | h9) | h9)
                        · left; left; omega
                        · left; right; exact h9
                        · right; omega
                      · rintro ((h9 | h9) | h9)
                        · left; left; omega
                        · left; right; exact h9
                        · right; omega
                    have hlk := SetB.look (P := Tryz.prog) Tryz.underlying112 Tryz.underlying3 zero_bool (HSW4.out.below hn) (j : Int) _ hwi
                    have hcl := lcol_lt row j (show 0 < S.n by omega)
                    have hkc : wr.cell? ⟨gc, j, none⟩ = some (.int .i64 (lcol S.n row j : Int)) := by
                      rw [(HKW.out.below hn HKW.out.lt).cell]
                      simp [intA, rolesL, hlt]
                    obtain ⟨hyc, _⟩ := (HO4.out.below hn).isSome_ (by rw [svs_len, HYL.out]) hlt
                    have hyv : (svs ys).getD j undef = .string (ys.getD j ⟨#[]⟩) := by
                      have : j < ys.length := by rw [HYL.out]; exact hlt
                      simp [svs, List.getD, this]
                    rw [hyv] at hyc
                    have hbx := (HBXW.out.below hn HBXW.out.lt).cell
                    have HTJ := Lib.hid (HTH.out wr (HB04.out.trans (hn.mono HB04.out.size)) _ hcl)
                    have HPT := Lib.hid (show partsT S σ row off ys (wantB (S.n - 2) i lost) (j + 1) = partsT S σ row off ys (wantB (S.n - 2) i lost) j ++ (if wantB (S.n - 2) i lost j && aliveB σ (S.ds.getD (lcol S.n row j) none) then [⟨(lcol S.n row j : Int), (off : Int), ys.getD j ⟨#[]⟩⟩] else []) from rfl)
                    have hpl := partsT_len S σ row off ys (wantB (S.n - 2) i lost) j
                    generalize partsT S σ row off ys (wantB (S.n - 2) i lost) j = P1 at *
                    generalize wantB (S.n - 2) i lost j = wj at *
                    generalize aliveB σ (S.ds.getD (lcol S.n row j) none) = al at *
                    generalize lcol S.n row j = cj at *
                    generalize ys.getD j ⟨#[]⟩ = y at *
                    obtain ⟨A5, c5, rfl, hc5, hcm5⟩ := hop.shape
                    have HOP := Lib.hid hop
                    have HNN := Lib.hid hn
                    have hz5 := hn.size
                    clear hwi hyv hop hn
                    cases wj with
                    | false =>
                      go_wp2_with fail
                      go_roundw
                      case rel => exact ⟨j + 1, by omega, by go_num, by rw [HPT.out]; simpa using HOP.out, HNN.out⟩
                      case measure => simp [RowKit.intOf]; omega
                    | true =>
                      go_wp2_with fail
                      refine HTJ.out.mono ?_
                      rintro e W6 ⟨rfl, hb6⟩
                      have hz6 := hb6.size
                      have HOP6 := Lib.hid (show OwnP 142 W6 W4.heap.size (.slice A5 P1.length c5) P1 from HOP.out.below hb6)
                      have HN6 := Lib.hid (HNN.out.trans (hb6.mono HNN.out.size))
                      have hyc6 := (hb6.cell (p := ⟨g1, j, none⟩) (cellLt hyc)).trans hyc
                      clear hb6 hyc hkc hbx hlk
                      cases al with
                      | false =>
                        go_wp2_with fail
                        go_roundw
                        case rel => exact ⟨j + 1, by omega, by go_num, by rw [HPT.out]; simpa using HOP6.out, HN6.out⟩
                        case measure => simp [RowKit.intOf]; omega
                      | true =>
                        have hPL := PartsA.lit (w0 := W6) (g := W6.heap.size) (t := 142) (p := ⟨(cj : Int), (off : Int), y⟩) rfl
                        dsimp only at hPL
                        go_wp2_with (at_builtin; refine wp_appP 46 142 Tryz.underlying46 info_part rfl (.tmp 130) (.tmp 138) rfl W4.heap.size _ _ (HOP6.out.alloc _) rfl _ 1 1 _ rfl hPL (fun h => by cases h) ?c1 ?c2 ?_; (case c1 => omega); (case c2 => simp; omega); intro v7 w7 hv7 hg7 hb7 ha7)
                        go_roundw
                        case rel => exact ⟨j + 1, by omega, by go_num, by rw [HPT.out]; simpa using hv7, HN6.out.trans (((Below.refl W4.heap.size W6).alloc (by omega) _).trans hb7)⟩
                        case measure => simp [RowKit.intOf]; omega
                  · obtain rfl : j = S.n := by omega
                    have HOP := Lib.hid hop
                    have HNN := Lib.hid hn
                    clear hop hn
                    go_wp2_with fail
                    go_roundw
                    case rel => exact Or.inr ⟨by go_num, by rw [HYD.out]; exact HOP.out.base HB04.out.size, HB04.out.trans (HNN.out.mono HB04.out.size)⟩
                    case measure => simp [RowKit.intOf]
    · obtain ⟨A9, c9, rfl, _⟩ := hop.shape
      have HOP := Lib.hid hop
      have HB := Lib.hid hb
      clear hop hb
      go_wp2_with fail
      go_ret2
      exact ⟨_, rfl, HOP.out, HB.out⟩
end Go.Proofs.YtmhmdoobadckkaaGreatDoor
