/- Own texts, joined: Mark, Sup, Sav1, Save, Save2, Cre0, Fil0, Fld0, Fls, Str0, Rc0, RcOwn, Put0, Put, Put1. -/
import Derived.Test.YtmhmdoobadckkaaGreatDoorTj1
import Derived.Test.YtmhmdoobadckkaaGreatDoorTj4
import Derived.Test.YtmhmdoobadckkaaGreatDoorTj5
import Derived.Laws.AppendOwnNone
import Derived.Maps.AppendAt
import Derived.Laws.OwnMore
/- (*Array).members, mark. -/
namespace Go.Proofs.YtmhmdoobadckkaaGreatDoor
set_option maxRecDepth 20000
open Go.RowKit Go.OpenShut

theorem members1_any (w : World) (σ : Nat → Option Drv) (R : Nat → Prop) (h : Dsk w σ R) (p : Option Nat) (hp : PIn σ p) :
    Calls Tryz.prog 260 #[pv p] w fun e w' => e = .returned (.bool (!aliveB σ p)) ∧ w = w' := by
  have HA := Lib.hid (alive_any w σ R h p hp)
  obtain ⟨q, hq⟩ : ∃ q, aliveB σ p = q := ⟨_, rfl⟩
  rw [hq] at HA ⊢
  obtain ⟨v, hv⟩ : ∃ v, pv p = v := ⟨_, rfl⟩
  rw [hv] at HA ⊢
  clear h hp hq hv
  go_enter Tryz.func260, Tryz.ntmps260
  go_wp2_with fail
  refine HA.out.mono ?_
  rintro e w1 ⟨rfl, rfl⟩
  go_wp2_with fail
  go_ret
  exact ⟨rfl, rfl⟩
/-- those alive, in a slice of the call's own -/
def Members (w : World) (ms : List (Option Nat)) (e : Ending) (w' : World) : Prop := ∃ gm c, e = .returned (.slice (some ⟨gm, 0, none⟩) ms.length c) ∧ w.heap.size ≤ gm ∧ OwnV 33 w' w.heap.size (.slice (some ⟨gm, 0, none⟩) ms.length c) (ms.map pv) ∧ Below w.heap.size w w'
set_option maxHeartbeats 1000000 in
theorem members_any (w : World) (σ : Nat → Option Drv) (R : Nat → Prop) (h : Dsk w σ R) (g : Nat) (a : Arr) (V : AV) (ha : ArrMem w R g a V) (hf : Fine σ a.ds 4) (h0 : 0 < a.ds.length) (hn : a.ds.length ≤ 100) :
    Calls Tryz.prog 187 #[.pointer (some ⟨g, 0, none⟩)] w (Members w (a.ds.filter (aliveB σ))) := by
  have hq := ha.head.cell
  unfold Arr.cells at hq
  have HC := Lib.hid (cloneD w (some ⟨V.A, 0, none⟩) a.ds.length V.ca a.ds (ha.va.any_ (fun _ h => h.elim)) (by omega) (fun e => by cases e))
  have HD := Lib.hid (fun W gm c (hb : Below w.heap.size w W) (hgm : w.heap.size ≤ gm) (ho : OwnV 33 W w.heap.size (.slice (some ⟨gm, 0, none⟩) a.ds.length c) (a.ds.map pv)) =>
    deleteD W w.heap.size gm c a.ds ho (by omega) 260 #[] (fun _ _ => rfl) (fun p => !aliveB σ p) (fun W' hW' p hp =>
      members1_any W' σ R ((h.below hb).old (fun b hb' => hW'.block b ((h.below hb).lt hb') (fun e => by subst e; exact absurd (h.lt hb') (by omega)))) p (hf.pin p hp)))
  have HF := Lib.hid (show a.ds.filter (fun p => !(!aliveB σ p)) = a.ds.filter (aliveB σ) by simp)
  have hl : (a.ds.map pv).length = a.ds.length := List.length_map _
  have HL := Lib.hid hl
  clear h ha hf hl
  generalize hN : a.ds.length = n at *
  go_enter Tryz.func187, Tryz.ntmps187
  go_wp2_with fail
  refine HC.out.mono ?_
  rintro e w1 ⟨v, rfl, ho, hb⟩
  have ⟨gm, c, hv, hg0⟩ : ∃ gm c, v = .slice (some ⟨gm, 0, none⟩) n c ∧ w.heap.size ≤ gm := by
    rcases ho.2 with ⟨_, h2⟩ | ⟨gm, cap, cur, e, h2, _⟩
    · rw [HL.out] at h2; omega
    · exact ⟨gm, cap, by rw [e, HL.out], h2⟩
  subst hv
  have HD1 := Lib.hid (HD.out w1 gm c hb hg0 ho)
  have HB := Lib.hid hb
  clear ho hb
  go_wp2_with fail
  refine HD1.out.mono ?_
  rintro e w2 ⟨rfl, ho2, hc2⟩
  go_wp2_with fail
  go_ret
  rw [HF.out] at ho2
  exact ⟨gm, c, rfl, hg0, ho2, HB.out.trans (hc2.below HB.out.size (fun j hj e => by subst e; omega))⟩
/-- those that are up -/
theorem Fine.up {σ : Nat → Option Drv} {ds : List (Option Nat)} {k : Nat} (h : Fine σ ds k) {p : Option Nat} (hp : p ∈ ds) (ha : aliveB σ p = true) : ∃ g D, p = some g ∧ σ g = some D ∧ D.up ∧ k ≤ D.n ∧ D.pl 1000 := by
  cases p with
  | none => cases ha
  | some g =>
    obtain ⟨D, h1, h2, h3, h4, h5⟩ := h g hp
    unfold aliveB at ha
    simp only [h1] at ha
    exact ⟨g, D, rfl, h1, ⟨h2, by simpa using ha, h3⟩, h4, h5⟩
theorem stepD_up {σ : Nat → Option Drv} {g : Nat} {D : Drv} (h : σ g = some D) (hu : D.up) (F : Drv → Drv) : stepD F σ (some g) = upd σ g (F D) := by
  unfold stepD
  simp only [h, hu.2.1, Bool.false_eq_true, if_false]
theorem foldl_snoc (F : Drv → Drv) (l : List (Option Nat)) (j : Nat) (hj : j < l.length) (σ : Nat → Option Drv) : (l.take (j + 1)).foldl (stepD F) σ = stepD F ((l.take j).foldl (stepD F) σ) (l.getD j none) := by
  rw [List.take_succ_eq_append_getElem hj, List.foldl_append]
  simp [List.getD, hj]
/-- what mark makes of the drives -/
def markσ (σ : Nat → Option Drv) (a : Arr) : Nat → Option Drv := (a.ds.filter (aliveB σ)).foldl (stepD fun D => D.wf1 2 (pgS a.e (stS a.im.stain))) σ
theorem stS_size (n : Nat) : (stS n).size = 8 := by
  unfold stS le8
  show Array.size _ = 8
  simp
set_option maxHeartbeats 2000000 in
theorem mark_any (w : World) (σ : Nat → Option Drv) (R : Nat → Prop) (h : Dsk w σ R) (g : Nat) (a : Arr) (V : AV) (ha : ArrMem w R g a V) (hf : Fine σ a.ds 4) (h0 : 0 < a.ds.length) (hn : a.ds.length ≤ 100) (he : a.e < 18446744073709551616) :
    Calls Tryz.prog 97 #[.pointer (some ⟨g, 0, none⟩)] w (Wrote (markσ σ a) R w 0) := by
  have HM := Lib.hid (members_any w σ R h g a V ha hf h0 hn)
  have hfl := List.length_filter_le (aliveB σ) a.ds
  have HMS := Lib.hid (fun p (hp : p ∈ a.ds.filter (aliveB σ)) => List.mem_filter.1 hp)
  have HH := Lib.hid h
  have HA := Lib.hid ha
  have HFI := Lib.hid hf
  have hk := keeps_wf1 (k := 4) (Nat.le_refl _) 2 (pgS a.e (stS a.im.stain)) (by omega) (by omega) (pgS_size _ (stS_size _))
  have HK := Lib.hid hk
  have HST := Lib.hid (stS_size a.im.stain)
  unfold markσ
  generalize hms : a.ds.filter (aliveB σ) = ms at *
  have hmn : ms.length ≤ 100 := by omega
  generalize hm : ms.length = m at *
  have HML := Lib.hid hm
  have HE := Lib.hid he
  clear h ha hf hk hm hms hfl he
  go_enter Tryz.func97, Tryz.ntmps97
  go_wp2_with fail
  refine HM.out.mono ?_
  rintro e w1 ⟨gm, c, rfl, hg0, ho, hb⟩
  have hd1 := HH.out.below hb
  have hm := HML.out
  rw [hm] at ho ⊢
  clear hm
  have hva : VA w1 R (some ⟨gm, 0, none⟩) m (ms.map pv) := by
    have h1 := ho
    have hl : (ms.map pv).length = m := by rw [List.length_map]; exact HML.out
    rw [← hl] at h1 ⊢
    exact h1.va (fun b hb => by
      obtain rfl : gm = b := by simpa [Value.ownBlock] using hb
      intro hR
      have := HH.out.lt hR
      omega)
  have hra : ArrMem w1 R g a V := HA.out.below hb
  have HB := Lib.hid hb
  have HD1 := Lib.hid hd1
  have HVA := Lib.hid hva
  have HRA := Lib.hid hra
  clear ho hb hd1 hva hra
  go_wp2_with fail
  go_loopw [8] (fun i wr => ∃ j : Nat, j ≤ m ∧ i = .int .i64 j ∧ ∃ R', Dsk wr ((ms.take j).foldl (stepD fun D => D.wf1 2 (pgS a.e (stS a.im.stain))) σ) R' ∧ Ext R R' w1 wr) (fun i _ => m - (RowKit.intOf i).toNat)
  case atStart => exact ⟨0, by omega, rfl, R, HD1.out, Ext.refl _ _⟩
  case round =>
    obtain ⟨j, hj, rfl, R', hd, hx⟩ := hrel
    by_cases hlt : j < m
    · have hlm : j < ms.length := by rw [HML.out]; exact hlt
      have hmem : ms.getD j none ∈ ms := by simp [List.getD, hlm]
      have hcell := (HVA.out.ext hx).at_ hlt
      rw [getD_mapV pv ms j hlm, Nat.zero_add] at hcell
      obtain ⟨m1, m2⟩ := HMS.out _ hmem
      have hin : ∀ p ∈ ms.take j, p ∈ a.ds := fun p hp => (HMS.out p (List.mem_of_mem_take hp)).1
      have hfj := HFI.out.steps HK.out (ms.take j) hin
      have hal := alive_steps HK.out (ms.take j) HFI.out hin (ms.getD j none)
      rw [m2] at hal
      obtain ⟨gj, D, e1, e2, e3, e4, e5⟩ := hfj.up m1 hal
      have HS := Lib.hid (foldl_snoc (fun D => D.wf1 2 (pgS a.e (stS a.im.stain))) ms j hlm σ)
      have haj := HRA.out.ext hx
      rw [e1] at hcell HS
      rw [stepD_up e2 e3] at HS
      generalize (ms.take j).foldl (stepD fun D => D.wf1 2 (pgS a.e (stS a.im.stain))) σ = σj at *
      have HSV := Lib.hid (fun W (hb : Below wr.heap.size wr W) => pgSave_any W σj R' (hd.below hb) gj D e2 e3 e4 e5 a.e HE.out (stS a.im.stain) HST.out)
      have HBY := Lib.hid (fun W (hb : Below wr.heap.size wr W) => bytes_int W V.gi V.bi a.im (haj.below hb).im)
      have HHD := Lib.hid haj.head
      have HX := Lib.hid hx
      have HGR := Lib.hid (haj.out g (by simp [AV.fp]))
      have hq := haj.head.cell
      unfold Arr.cells at hq
      clear hd hx hin hfj hal hmem m1 m2 e1 e2 e3 e4 e5 haj
      generalize pgS a.e (stS a.im.stain) = S at *
      generalize stS a.im.stain = bits at *
      unfold pv at hcell
      go_wp2_with fail
      have hnf := (Chg.refl R' wr).drew
      have hbl := (Below.refl wr.heap.size wr).drew
      refine wp_region_nf (fun Y => Chg R' wr Y) (fun _ => false) [(0, true), (1, true), (2, true), (3, true), (4, true), (5, true), (6, true), (7, true), (8, true), (9, true), (10, false), (11, true), (12, false), (13, true)] (by kernel_rfl) rfl (by kernel_rfl) (by kernel_rfl) (fun d _ _ _ _ h => by cases d <;> exact h) ?_
      repeat (refine nf_pure rfl hnf (fun Y hY => by have hqY := (hY.keeps HHD.out HGR.out).cell; unfold Arr.cells at hqY; clear hY; go_wp2; exact ⟨rfl, rfl, rfl⟩) rfl ?_ ?_; rfl)
      refine nf_imp rfl ?_
      go_wp2_with fail
      refine (HBY.out _ hbl).mono ?_
      rintro e w2 ⟨rfl, hb2⟩
      replace hnf := hnf.then hb2
      replace hbl := hbl.trans (hb2.mono hbl.size)
      go_wp2_with fail
      refine ⟨fun _ => hnf, ?_⟩
      repeat (refine nf_pure rfl hnf (fun Y hY => by clear hY; go_wp2; exact ⟨rfl, rfl, rfl⟩) rfl ?_ ?_; rfl)
      refine nf_imp rfl ?_
      go_wp2_with fail
      refine (HSV.out _ hbl).mono ?_
      rintro e w3 ⟨rfl, R2, hd3, hx3⟩
      replace hnf := hnf.trans hx3.1 (fun _ _ h => h)
      go_wp2_with fail
      refine ⟨fun _ => hnf, ?_⟩
      repeat (refine nf_pure rfl hnf (fun Y hY => by clear hY; go_wp2; exact ⟨rfl, rfl, rfl⟩) rfl ?_ ?_; rfl)
      refine nf_nil ?_
      go_wp2_with fail
      go_roundw
      case rel =>
        refine ⟨j + 1, by omega, by go_num, R2, ?_, (HX.out.below hbl).trans hx3⟩
        rw [HS.out]
        exact hd3
      case measure => simp [RowKit.intOf]; omega
    · obtain rfl : j = m := by omega
      have e1 : ms.take j = ms := List.take_of_length_le (by have := HML.out; omega)
      rw [e1] at hd
      have HD := Lib.hid hd
      have HX := Lib.hid hx
      clear hd hx e1
      go_wp2_with fail
      go_ret
      exact ⟨rfl, Did.below HB.out ⟨R', HD.out, HX.out⟩⟩
end Go.Proofs.YtmhmdoobadckkaaGreatDoor
/- (*Array).super. -/
namespace Go.Proofs.YtmhmdoobadckkaaGreatDoor
set_option maxRecDepth 20000
open Go.RowKit Go.OpenShut

/-- a result that lies in a block of its own -/
theorem results_cell1 {P : Program} {fn : Func} {p : Tmp} {ty : TypeId} (h : fn.results = #[.cell p ty]) (tmps : Array Value) (w : World) (g : Nat) (t : TypeId) {cs : Array Value} (d : TypeDesc)
    (hp : tmps.getD p undef = .pointer (some ⟨g, 0, none⟩)) (hg : Blk w g t cs)
    (hu : P.underlying ty = some d) (hd : (match d with | .struct _ | .array _ _ => true | _ => false) = true) (hi : (P.info? ty).map (·.size) = some cs.size) :
    (results fn tmps).run P w = .ok (.agg cs) w := by
  have hp' : tmps[p]?.getD undef = .pointer (some ⟨g, 0, none⟩) := by simpa using hp
  simp [results, h, hp', asAddr, run_loadVar_row w g t ty cs (0, 0) d hg hu hd hi]
theorem blk10 {w : World} {g : Nat} {t : TypeId} {z0 z1 z2 z3 z4 z5 z6 z7 z8 z9 : Value} (h : Blk w g t #[z0, z1, z2, z3, z4, z5, z6, z7, z8, z9]) (v0 v1 v2 v3 v4 v5 v6 v7 v8 v9 : Value) :
    Blk ((((((((((w.setCell ⟨g, 0, none⟩ v0).setCell ⟨g, 1, none⟩ v1).setCell ⟨g, 2, none⟩ v2).setCell ⟨g, 3, none⟩ v3).setCell ⟨g, 4, none⟩ v4).setCell ⟨g, 5, none⟩ v5).setCell ⟨g, 6, none⟩ v6).setCell ⟨g, 7, none⟩ v7).setCell ⟨g, 8, none⟩ v8).setCell ⟨g, 9, none⟩ v9) g t #[v0, v1, v2, v3, v4, v5, v6, v7, v8, v9] ∧
    ∀ B a, B ≤ g → Below B a w → Below B a ((((((((((w.setCell ⟨g, 0, none⟩ v0).setCell ⟨g, 1, none⟩ v1).setCell ⟨g, 2, none⟩ v2).setCell ⟨g, 3, none⟩ v3).setCell ⟨g, 4, none⟩ v4).setCell ⟨g, 5, none⟩ v5).setCell ⟨g, 6, none⟩ v6).setCell ⟨g, 7, none⟩ v7).setCell ⟨g, 8, none⟩ v8).setCell ⟨g, 9, none⟩ v9) := by
  refine ⟨?_, fun B a hB hb => ?_⟩
  · have h1 := (((((((((h.set_ 0 v0).set_ 1 v1).set_ 2 v2).set_ 3 v3).set_ 4 v4).set_ 5 v5).set_ 6 v6).set_ 7 v7).set_ 8 v8).set_ 9 v9
    simpa using h1
  · iterate 10 refine Below.setCell ?_ (by exact hB) _
    exact hb
def Arr.sup (a : Arr) (role built : Int) : Sup := ⟨a.u, a.e, role, a.n, a.k, a.r, false, built, a.c, a.gr⟩
set_option maxHeartbeats 2000000 in
theorem super_any (w : World) (R : Nat → Prop) (g : Nat) (a : Arr) (V : AV) (ha : ArrMem w R g a V) (role built : Int) :
    Calls Tryz.prog 105 #[.pointer (some ⟨g, 0, none⟩), .int .i64 role, .int .i64 built] w fun e w' => e = .returned (a.sup role built).v ∧ Below w.heap.size w w' := by
  have HHD := Lib.hid ha.head
  have hlt := ha.head.lt
  have hq := ha.head.cell
  unfold Arr.cells at hq
  unfold Arr.sup Sup.v
  clear ha
  go_enter Tryz.func105, Tryz.ntmps105
  go_wp2_with fail
  have hB : Blk (w.alloc (.cells #[.int .u64 0, .int .u64 0, .int .i64 0, .int .i64 0, .int .i64 0, .int .i64 0, .bool false, .int .i64 0, .int .i64 0, .int .i64 0] 171)).drew w.heap.size 171 _ := Blk.new w _ _
  have hnf := (((Below.refl w.heap.size w).alloc (Nat.le_refl _) (.cells #[.int .u64 0, .int .u64 0, .int .i64 0, .int .i64 0, .int .i64 0, .int .i64 0, .bool false, .int .i64 0, .int .i64 0, .int .i64 0] 171))).drew
  refine wp_region_nf (fun Y => Below w.heap.size w Y) (fun _ => false) [(0, true), (1, true), (2, true), (3, true), (4, true), (5, true), (6, true), (7, true), (8, true), (9, true), (10, true), (11, true), (12, true), (13, true), (14, true), (15, true), (16, true), (17, true), (18, true), (19, true), (20, true), (21, true), (22, true), (23, true), (24, true), (25, true), (26, true), (27, true), (28, false)] (by kernel_rfl) rfl (by kernel_rfl) (by kernel_rfl) (fun d _ _ _ _ h => by cases d <;> exact h) ?_
  generalize (w.alloc (.cells #[.int .u64 0, .int .u64 0, .int .i64 0, .int .i64 0, .int .i64 0, .int .i64 0, .bool false, .int .i64 0, .int .i64 0, .int .i64 0] 171)).drew = W at *
  have HB := Lib.hid hB
  repeat (refine nf_pure rfl hnf (fun Y hY => by have hqY := (HHD.out.below hY hlt).cell; unfold Arr.cells at hqY; clear hY; go_wp2; exact ⟨rfl, rfl, rfl⟩) rfl ?_ ?_; rfl)
  refine nf_imp rfl ?_
  have hqB := hB.cell
  have hfB := hB.frozen
  go_wp2_with fail
  obtain ⟨hB', hn'⟩ := blk10 HB.out (.int .u64 (a.u : Int)) (.int .u64 (a.e : Int)) (.int .i64 role) (.int .i64 (a.n : Int)) (.int .i64 (a.k : Int)) (.int .i64 (a.r : Int)) (.bool false) (.int .i64 built) (.int .i64 (a.c : Int)) (.int .i64 (a.gr : Int))
  replace hnf := hn' _ _ (Nat.le_refl _) hnf
  clear hn' hqB hfB hq hB
  generalize World.setCell _ _ _ = W2 at *
  refine ⟨fun _ => hnf, ?_⟩
  refine nf_nil ?_
  go_wp2_with fail
  have hi : (Tryz.prog.info? 171).map (·.size) = some 10 := by kernel_rfl
  exact bodyPost_ret (results_cell1 Tryz.results105 _ _ _ _ _ rfl hB' Tryz.underlying171 rfl hi) rfl ⟨rfl, hnf⟩
end Go.Proofs.YtmhmdoobadckkaaGreatDoor
/- (*Array).save$1: a superblock saved on a drive that is alive. -/
namespace Go.Proofs.YtmhmdoobadckkaaGreatDoor
set_option maxRecDepth 20000
open Go.RowKit Go.OpenShut

theorem stepD_not {σ : Nat → Option Drv} {p : Option Nat} (h : aliveB σ p = false) (F : Drv → Drv) : stepD F σ p = σ := by
  cases p with
  | none => rfl
  | some g =>
    unfold aliveB at h
    unfold stepD
    cases e : σ g with
    | none => simp only [e]
    | some D =>
      simp only [e] at h
      simp only [e]
      simp at h
      simp [h]
def supF (s : Sup) (D : Drv) : Drv := D.wf1 (s.e % 2) s.str
set_option maxHeartbeats 2000000 in
theorem save1_any (w : World) (σ : Nat → Option Drv) (R : Nat → Prop) (h : Dsk w σ R) (p : Option Nat) (hf : Fine σ [p] 4) (s : Sup) (hw : s.wf) (hm : s.may = true) (bo : Nat) :
    Calls Tryz.prog 190 #[pv p, s.v, .pointer (some ⟨bo, 0, none⟩)] w fun e w' => e = .returned (.tuple #[]) ∧ Did (stepD (supF s) σ p) R w w' := by
  have HA := Lib.hid (fun W (hb : Below w.heap.size w W) => alive_any W σ R (h.below hb) p (hf.pin p (by simp)))
  cases hal : aliveB σ p
  · rw [hal] at HA
    rw [stepD_not hal]
    obtain ⟨v, hv⟩ : ∃ v, pv p = v := ⟨_, rfl⟩
    rw [hv] at HA ⊢
    have HH := Lib.hid h
    unfold Sup.v
    clear h hf hw hm hal hv
    go_enter Tryz.func190, Tryz.ntmps190
    go_wp2_with fail
    refine (HA.out _ ((Below.refl _ _).alloc (Nat.le_refl _) _)).mono ?_
    rintro e w1 ⟨rfl, rfl⟩
    go_wp2_with fail
    go_end0
    exact ⟨rfl, Did.of_below HH.out ((Below.refl _ _).alloc (Nat.le_refl _) _)⟩
  · rw [hal] at HA
    obtain ⟨g, D, rfl, hg, hu, hn, hp⟩ := hf.up (by simp) hal
    rw [stepD_up hg hu]
    have HS := Lib.hid (fun W (hb : Below w.heap.size w W) => sloSave_any W σ R (h.below hb) g D hg hu hn hp s hw hm)
    unfold supF
    generalize s.str = S at *
    obtain ⟨su, se, sr, sc, sk, sn, scl, sb, snw, sgr⟩ := s
    unfold Sup.v at *
    unfold pv at *
    clear h hf hw hm hal hg hu hn hp
    go_enter Tryz.func190, Tryz.ntmps190
    go_wp2_with fail
    refine (HA.out _ ((Below.refl _ _).alloc (Nat.le_refl _) _)).mono ?_
    rintro e w1 ⟨rfl, rfl⟩
    go_wp2_with fail
    refine (HS.out _ ((Below.refl _ _).alloc (Nat.le_refl _) _)).mono ?_
    rintro e w1 ⟨rfl, hd⟩
    go_wp2_with fail
    go_end0
    exact ⟨rfl, Did.below ((Below.refl _ _).alloc (Nat.le_refl _) _) hd⟩
end Go.Proofs.YtmhmdoobadckkaaGreatDoor
/- (*Array).save. -/
namespace Go.Proofs.YtmhmdoobadckkaaGreatDoor
set_option maxRecDepth 20000
open Go.RowKit Go.OpenShut

structure Arr.ok (a : Arr) : Prop where
  geo : geoOK a.n a.k a.r = true
  u0 : 0 < a.u
  u1 : a.u < 18446744073709551616
  e1 : a.e < 9223372036854775808
  dl : a.ds.length = max a.n a.c
  bl : a.bs.length = max a.n a.c
  bb : ∀ b ∈ a.bs, 0 ≤ b ∧ b ≤ a.r
  gr : (a.c = 0 ∧ a.gr = 0) ∨ (a.n + 1 ≤ a.c ∧ a.c ≤ 10 ∧ a.gr ≤ a.r)
/-- the superblock of a column -/
def Arr.supI (a : Arr) (j : Nat) : Sup := a.sup (j : Int) (a.bs.getD j 0)
theorem Arr.sup_ok {a : Arr} (h : a.ok) {role built : Int} (hr : role = 254 ∨ role = 255 ∨ (0 ≤ role ∧ role < max a.n a.c)) (hb : 0 ≤ built ∧ built ≤ a.r) : (a.sup role built).wf ∧ (a.sup role built).may = true := by
  obtain ⟨b1, b2, b3⟩ := hb, h.u0, h.gr
  have h1 := h.u1
  have h2 := h.e1
  obtain ⟨g1, g2, _⟩ := geo_bd h.geo
  refine ⟨⟨by simp [Arr.sup], by simp [Arr.sup]; omega, by simp [Arr.sup], by simp [Arr.sup]; omega, by simp [Arr.sup]; omega⟩, ?_⟩
  unfold Sup.may Arr.sup
  simp only [Bool.and_eq_true, Bool.or_eq_true, decide_eq_true_eq, wi_iff, Bool.not_eq_true', beq_eq_false_iff_ne, ne_eq]
  refine ⟨⟨⟨⟨⟨⟨by omega, h.geo⟩, by omega⟩, by omega⟩, by omega⟩, by omega⟩, by omega⟩
/-- the drives behind the first j superblocks -/
def saveT (a : Arr) (σ : Nat → Option Drv) : Nat → (Nat → Option Drv)
  | 0 => σ
  | j + 1 => stepD (supF (a.supI j)) (saveT a σ j) (a.ds.getD j none)
def saveP (a : Arr) (σ : Nat → Option Drv) : Nat → (Nat → Option Drv)
  | 0 => σ
  | j + 1 => stepD (supF (a.sup 254 0)) (saveP a σ j) (a.sp.getD j none)
def saveσ (a : Arr) (σ : Nat → Option Drv) : Nat → Option Drv :=
  stepD (supF (a.sup 255 0)) (saveP a (saveT a σ a.ds.length) a.sp.length) (a.jr.map (·.1))
/-- all drives of an array -/
def Arr.all (a : Arr) : List (Option Nat) := a.ds ++ a.sp ++ [a.jr.map (·.1)]
theorem keeps_sup {s : Sup} (hw : s.wf) (hm : s.may = true) : Keeps (supF s) 4 :=
  keeps_wf1 (Nat.le_refl 4) (s.e % 2) s.str (by have := hw.e0; omega) (by have := hw.e0; omega) (Sup.str_size hw hm)
theorem Fine.one {σ : Nat → Option Drv} {ds : List (Option Nat)} {k : Nat} (h : Fine σ ds k) {p : Option Nat} (hp : p ∈ ds) : Fine σ [p] k := fun g hg => by
  simp at hg
  exact h g (hg ▸ hp)
theorem Fine.sub {σ : Nat → Option Drv} {ds ds' : List (Option Nat)} {k : Nat} (h : Fine σ ds k) (hs : ∀ p ∈ ds', p ∈ ds) : Fine σ ds' k := fun g hg => h g (hs _ hg)
theorem getD_mem {l : List (Option Nat)} {j : Nat} (h : j < l.length) : l.getD j none ∈ l := by simp [List.getD, h]
theorem Arr.supI_ok {a : Arr} (h : a.ok) {j : Nat} (hj : j < a.ds.length) : (a.supI j).wf ∧ (a.supI j).may = true := by
  have h1 := h.dl
  have h2 := h.bl
  refine Arr.sup_ok h (Or.inr (Or.inr (by omega))) (h.bb _ ?_)
  have : j < a.bs.length := by omega
  simp [List.getD, this]
theorem saveT_fine {a : Arr} (h : a.ok) {σ : Nat → Option Drv} (hf : Fine σ a.all 4) : ∀ j, j ≤ a.ds.length → Fine (saveT a σ j) a.all 4
  | 0, _ => hf
  | j + 1, hj => by
    obtain ⟨h1, h2⟩ := a.supI_ok h (j := j) (by omega)
    exact (saveT_fine h hf j (by omega)).step (keeps_sup h1 h2) (List.mem_append_left _ (List.mem_append_left _ (getD_mem (show j < a.ds.length by omega))))
theorem saveP_fine {a : Arr} (h : a.ok) {σ : Nat → Option Drv} (hf : Fine σ a.all 4) : ∀ j, j ≤ a.sp.length → Fine (saveP a σ j) a.all 4
  | 0, _ => hf
  | j + 1, hj => by
    obtain ⟨h1, h2⟩ := Arr.sup_ok h (role := 254) (built := 0) (Or.inl rfl) ⟨by omega, by omega⟩
    exact (saveP_fine h hf j (by omega)).step (keeps_sup h1 h2) (List.mem_append_left _ (List.mem_append_right _ (getD_mem (show j < a.sp.length by omega))))
end Go.Proofs.YtmhmdoobadckkaaGreatDoor
/- (*Array).save: the walk. -/
namespace Go.Proofs.YtmhmdoobadckkaaGreatDoor
set_option maxRecDepth 20000
open Go.RowKit Go.OpenShut

def Arr.on (a : Arr) : Arr := { a with e := a.e + 1 }
/-- behind a call that writes the drives and the array's own head -/
def ADid (σ' : Nat → Option Drv) (g : Nat) (a' : Arr) (V : AV) (R : Nat → Prop) (w w' : World) : Prop := ∃ R', Dsk w' σ' R' ∧ ArrMem w' R' g a' V ∧ Chg (fun b => R b ∨ b = g) w w' ∧ ∀ b, b < w.heap.size → R' b → R b
set_option maxRecDepth 200000 in
set_option maxHeartbeats 4000000 in
theorem save_any (w : World) (σ : Nat → Option Drv) (R : Nat → Prop) (h : Dsk w σ R) (g : Nat) (a : Arr) (V : AV) (ha : ArrMem w R g a V) (hok : a.on.ok) (hf : Fine σ a.all 4) (hsp : a.sp.length ≤ 1000000) :
    Calls Tryz.prog 98 #[.pointer (some ⟨g, 0, none⟩)] w fun e w' => e = .returned (.int .i64 0) ∧ ADid (saveσ a.on σ) g a.on V R w w' := by
  have hq := ha.head.cell
  have hfz := ha.head.frozen
  have hgR := ha.out g (by simp [AV.fp])
  have hw1 : ((a.e : Int) + 1) % 18446744073709551616 = ((a.e : Int) + 1) := by have := hok.e1; simp [Arr.on] at this; omega
  have hw2 : (a.e : Int) + 1 < 18446744073709551616 := by have := hok.e1; simp [Arr.on] at this; omega
  have hra := ha.hset 1 (.int .u64 ((a.e : Int) + 1)) a.on (by simp [Arr.cells, Arr.on]) rfl rfl rfl rfl rfl rfl
  have hrd := h.setCell (p := ⟨g, 1, none⟩) hgR (.int .u64 ((a.e : Int) + 1))
  have hch : Chg (fun b => R b ∨ b = g) w (w.setCell ⟨g, 1, none⟩ (.int .u64 ((a.e : Int) + 1))) := (Chg.refl _ _).setCell (Or.inl (Or.inr rfl)) _
  have HRA := Lib.hid hra
  have HRD := Lib.hid hrd
  have HCH := Lib.hid hch
  have HOK := Lib.hid hok
  have HF := Lib.hid (show Fine σ a.on.all 4 from hf)
  have HGR := Lib.hid hgR
  have HLT := Lib.hid h
  have hq7 : ((w.setCell ⟨g, 1, none⟩ (.int .u64 ((a.e : Int) + 1))).alloc (.cells #[.bool false] 4)).cell? ⟨g, 7, none⟩ = some (.slice (some ⟨V.A, 0, none⟩) a.ds.length V.ca) := (hra.head.alloc (.cells #[.bool false] 4)).cell 7
  have hbo : Blk ((w.setCell ⟨g, 1, none⟩ (.int .u64 ((a.e : Int) + 1))).alloc (.cells #[.bool false] 4)) w.heap.size 4 #[.bool false] := Blk.newAt (by simp)
  have hda := hrd.alloc (.cells #[.bool false] 4)
  have haa := hra.below ((Below.refl _ _).alloc (Nat.le_refl _) (.cells #[.bool false] 4))
  have hca := hch.alloc (.cells #[.bool false] 4)
  have HNR := Lib.hid h.new
  unfold Arr.cells at hq
  clear h ha hok hf hra hrd hch hgR
  go_enter Tryz.func98, Tryz.ntmps98
  go_wp2_with fail
  generalize (w.setCell ⟨g, 1, none⟩ (.int .u64 ((a.e : Int) + 1))).alloc (.cells #[.bool false] 4) = W1 at *
  have HBO := Lib.hid hbo
  have HDA := Lib.hid hda
  have HAA := Lib.hid haa
  have HCA := Lib.hid hca
  have HZ := Lib.hid hbo.lt
  clear hbo hda haa hca hq7 hq hfz hw1 hw2 HRA HRD HCH
  have hdl : a.ds.length ≤ 100 := by have := HOK.out.dl; have := HOK.out.gr; obtain ⟨_, _, _⟩ := geo_bd HOK.out.geo; simp [Arr.on] at *; omega
  have hdb : a.bs.length = a.ds.length := HOK.out.bl.trans HOK.out.dl.symm
  generalize hn : a.ds.length = n at *
  have HN := Lib.hid hn
  clear hn
  go_loopw [24] (fun i wr => ∃ j : Nat, j ≤ n ∧ i = .int .i64 j ∧ ∃ R', Dsk wr (saveT a.on σ j) R' ∧ Ext R R' W1 wr) (fun i _ => n - (RowKit.intOf i).toNat)
  case atStart => exact ⟨0, by omega, rfl, R, HDA.out, Ext.refl _ _⟩
  case round =>
    obtain ⟨j, hj, rfl, R', hd, hx⟩ := hrel
    have haj := HAA.out.ext hx
    by_cases hlt : j < n
    · have hjl : j < a.on.ds.length := by rw [show a.on.ds = a.ds from rfl, HN.out]; exact hlt
      obtain ⟨bB, bo, cb, hbv, hbc⟩ : ∃ b o c, V.bv = .slice (some ⟨b, o, none⟩) n c ∧ wr.cell? ⟨b, o + j, none⟩ = some (.int .i64 (a.bs.getD j 0)) := by
        obtain ⟨A, c, hA⟩ := haj.bs.shape
        have h1 := haj.bs
        rw [hA] at h1
        obtain ⟨_, hii⟩ := h1.ints
        obtain ⟨b, o, e1, _, h2⟩ := hii (by rw [show a.on.bs = a.bs from rfl, hdb]; omega)
        exact ⟨b, o, c, by rw [hA, e1, ← hdb]; rfl, h2 j (by rw [show a.on.bs = a.bs from rfl, hdb]; exact hlt)⟩
      have hq8 : wr.cell? ⟨g, 8, none⟩ = some (.slice (some ⟨bB, bo, none⟩) n cb) := (haj.head.cell 8).trans (by rw [← hbv]; rfl)
      have hpc : wr.cell? ⟨V.A, j, none⟩ = some (pv (a.ds.getD j none)) := by
        have h1 := haj.va.at_ (j := j) hjl
        rw [getD_mapV pv _ _ hjl, Nat.zero_add] at h1
        exact h1
      have hfj := saveT_fine HOK.out HF.out j (Nat.le_of_lt hjl)
      obtain ⟨k1, k2⟩ := a.on.supI_ok HOK.out hjl
      have HSUP := Lib.hid (fun W (hb : Below wr.heap.size wr W) => super_any W R' g a.on V (haj.below hb) (j : Int) (a.bs.getD j 0))
      have HSAV := Lib.hid (fun W (hb : Below wr.heap.size wr W) => save1_any W _ R' (hd.below hb) (a.ds.getD j none) (hfj.one (List.mem_append_left _ (List.mem_append_left _ (getD_mem hjl)))) (a.on.supI j) k1 k2 w.heap.size)
      have HST := Lib.hid (show saveT a.on σ (j + 1) = stepD (supF (a.on.supI j)) (saveT a.on σ j) (a.ds.getD j none) from rfl)
      have HS := Lib.hid (show (a.on.sup (j : Int) (a.bs.getD j 0)) = a.on.supI j from rfl)
      rw [HS.out] at HSUP
      have HX := Lib.hid hx
      obtain ⟨S, hS⟩ : ∃ S, a.on.supI j = S := ⟨_, rfl⟩
      rw [hS] at HSUP HSAV HST
      clear HS hS
      obtain ⟨b, hb⟩ : ∃ b, a.bs.getD j 0 = b := ⟨_, rfl⟩
      obtain ⟨p, hp⟩ : ∃ p, a.ds.getD j none = p := ⟨_, rfl⟩
      rw [hb] at hbc HSUP
      rw [hp] at hpc HSAV HST
      clear hb hp
      obtain ⟨pa, hpa⟩ : ∃ a : Option Addr, pv p = .pointer a := ⟨_, rfl⟩
      rw [hpa] at hpc HSAV
      clear hd hx haj hfj k1 k2 hjl hpa hbv
      go_wp2_with fail
      refine (HSUP.out _ (Below.refl _ _)).mono ?_
      rintro e w2 ⟨rfl, hb2⟩
      go_wp2_with fail
      refine (HSAV.out _ hb2).mono ?_
      rintro e w3 ⟨rfl, R2, hd3, hx3⟩
      go_wp2_with fail
      go_roundw
      case rel =>
        refine ⟨j + 1, by omega, by go_num, R2, ?_, (HX.out.below hb2).trans hx3⟩
        rw [HST.out]
        exact hd3
      case measure => simp [RowKit.intOf]; omega
    · obtain rfl : j = n := by omega
      have hq9 : wr.cell? ⟨g, 9, none⟩ = some (.slice V.C a.sp.length V.cc) := haj.head.cell 9
      have HT := Lib.hid (show saveT a.on σ a.on.ds.length = saveT a.on σ j from by rw [show a.on.ds.length = j from HN.out])
      have hfT := saveT_fine HOK.out HF.out j (by rw [show a.on.ds.length = j from HN.out]; exact Nat.le_refl _)
      obtain ⟨σT, hσT⟩ : ∃ s, saveT a.on σ j = s := ⟨_, rfl⟩
      rw [hσT] at HT hfT hd
      have HFT := Lib.hid hfT
      have HD := Lib.hid hd
      have HX := Lib.hid hx
      generalize hm : a.sp.length = m at *
      have HM := Lib.hid hm
      clear hd hx haj hfT hσT hlt hj hdb hdl hm
      go_wp2_with fail
      go_loopw [48] (fun i wq => ∃ k : Nat, k ≤ m ∧ i = .int .i64 k ∧ ∃ R2, Dsk wq (saveP a.on σT k) R2 ∧ Ext R R2 W1 wq) (fun i _ => m - (RowKit.intOf i).toNat)
      case atStart => exact ⟨0, by omega, rfl, R', HD.out, HX.out⟩
      case round =>
        obtain ⟨k, hk, rfl, R2, hd, hx⟩ := hrel
        have haj := HAA.out.ext hx
        by_cases hlt : k < m
        · have hkl : k < a.on.sp.length := by rw [show a.on.sp = a.sp from rfl, HM.out]; exact hlt
          obtain ⟨cb, co, hce, _⟩ := haj.sp.some_ (by omega)
          have hpc : wr.cell? ⟨cb, co + k, none⟩ = some (pv (a.sp.getD k none)) := by
            have h1 := haj.sp
            rw [hce] at h1
            have h2 := h1.at_ (j := k) hkl
            rw [getD_mapV pv _ _ hkl] at h2
            exact h2
          have hfk := saveP_fine HOK.out HFT.out k (Nat.le_of_lt hkl)
          obtain ⟨k1, k2⟩ := Arr.sup_ok HOK.out (role := 254) (built := 0) (Or.inl rfl) ⟨by omega, by omega⟩
          have HSUP := Lib.hid (fun W (hb : Below wr.heap.size wr W) => super_any W R2 g a.on V (haj.below hb) 254 0)
          have HSAV := Lib.hid (fun W (hb : Below wr.heap.size wr W) => save1_any W _ R2 (hd.below hb) (a.sp.getD k none) (hfk.one (List.mem_append_left _ (List.mem_append_right _ (getD_mem hkl)))) (a.on.sup 254 0) k1 k2 w.heap.size)
          have HST := Lib.hid (show saveP a.on σT (k + 1) = stepD (supF (a.on.sup 254 0)) (saveP a.on σT k) (a.sp.getD k none) from rfl)
          obtain ⟨S, hS⟩ : ∃ S, a.on.sup 254 0 = S := ⟨_, rfl⟩
          rw [hS] at HSUP HSAV HST
          obtain ⟨p, hp⟩ : ∃ p, a.sp.getD k none = p := ⟨_, rfl⟩
          rw [hp] at hpc HSAV HST
          obtain ⟨pa, hpa⟩ : ∃ a : Option Addr, pv p = .pointer a := ⟨_, rfl⟩
          rw [hpa] at hpc HSAV
          have HX := Lib.hid hx
          rw [hce] at *
          clear hd hx haj hfk k1 k2 hkl hpa hS hp hq9 hce
          go_wp2_with fail
          refine (HSUP.out _ (Below.refl _ _)).mono ?_
          rintro e w2 ⟨rfl, hb2⟩
          go_wp2_with fail
          refine (HSAV.out _ hb2).mono ?_
          rintro e w3 ⟨rfl, R3, hd3, hx3⟩
          go_wp2_with fail
          go_roundw
          case rel =>
            refine ⟨k + 1, by omega, by go_num, R3, ?_, (HX.out.below hb2).trans hx3⟩
            rw [HST.out]
            exact hd3
          case measure => simp [RowKit.intOf]; omega
        · obtain rfl : k = m := by omega
          have hq10 : wr.cell? ⟨g, 10, none⟩ = some (pv (a.jr.map (·.1))) := haj.head.cell 10
          have hbo := (hx.blk HBO.out HNR.out).cell
          have HQ := Lib.hid (show saveσ a.on σ = stepD (supF (a.on.sup 255 0)) (saveP a.on σT k) (a.jr.map (·.1)) from by unfold saveσ; rw [HT.out, show a.on.sp.length = k from HM.out]; rfl)
          have hfk := saveP_fine HOK.out HFT.out k (by rw [show a.on.sp.length = k from HM.out]; exact Nat.le_refl _)
          have HE := Lib.hid (show ∀ (R3 : Nat → Prop) (w3 : World), Dsk w3 (saveσ a.on σ) R3 → Ext R2 R3 wr w3 → ADid (saveσ a.on σ) g a.on V R w w3 from fun R3 w3 h1 h2 => ⟨R3, h1, haj.ext h2, HCA.out.trans (hx.trans h2).1 (fun _ _ h => Or.inl h), fun b hb h3 => (hx.trans h2).2 b (Nat.lt_of_lt_of_le hb HCA.out.size) h3⟩)
          cases hjr : a.jr with
          | none =>
            rw [hjr] at hq10 HQ
            have HD2 := Lib.hid hd
            unfold pv at hq10
            clear hd hx haj hfk
            go_wp2_with fail
            go_ret
            exact ⟨rfl, HE.out R2 wr (by rw [HQ.out]; exact HD2.out) (Ext.refl _ _)⟩
          | some jq =>
            obtain ⟨jd, q⟩ := jq
            rw [hjr] at hq10 HQ
            have hjm : some jd ∈ a.on.all := List.mem_append_right _ (by simp [Arr.on, hjr])
            obtain ⟨k1, k2⟩ := Arr.sup_ok HOK.out (role := 255) (built := 0) (Or.inr (Or.inl rfl)) ⟨by omega, by omega⟩
            have HSUP := Lib.hid (fun W (hb : Below wr.heap.size wr W) => super_any W R2 g a.on V (haj.below hb) 255 0)
            have HSAV := Lib.hid (fun W (hb : Below wr.heap.size wr W) => save1_any W _ R2 (hd.below hb) (some jd) (hfk.one hjm) (a.on.sup 255 0) k1 k2 w.heap.size)
            have HB := Lib.hid (hx.blk HBO.out HNR.out)
            have HNB := Lib.hid (hx.not HNR.out HZ.out)
            have HHD := Lib.hid haj.head
            have HGR2 := Lib.hid (haj.out g (by simp [AV.fp]))
            have HJR := Lib.hid hjr
            obtain ⟨S, hS⟩ : ∃ S, a.on.sup 255 0 = S := ⟨_, rfl⟩
            rw [hS] at HSUP HSAV HQ
            unfold pv at hq10 HSAV
            clear hd hx haj hfk k1 k2 hS hjm hjr hbo
            go_wp2_with fail
            have hnf := (Chg.refl R2 wr).drew
            have hbl := (Below.refl wr.heap.size wr).drew
            refine wp_region_nf (fun Y => Chg R2 wr Y) (fun _ => false) [(0, true), (1, true), (2, true), (3, true), (4, true), (5, true), (6, false), (7, false)] (by kernel_rfl) rfl (by kernel_rfl) (by kernel_rfl) (fun d _ _ _ _ h => by cases d <;> exact h) ?_
            repeat (refine nf_pure rfl hnf (fun Y hY => by have hqY : Y.cell? ⟨g, 10, none⟩ = some (.pointer (some ⟨jd, 0, none⟩)) := ((hY.keeps HHD.out HGR2.out).cell 10).trans (by unfold Arr.cells; simp [Arr.on, HJR.out, pv]); clear hY; go_wp2; exact ⟨rfl, rfl, rfl⟩) rfl ?_ ?_; rfl)
            refine nf_imp rfl ?_
            go_wp2_with fail
            refine (HSUP.out _ hbl).mono ?_
            rintro e w2 ⟨rfl, hb2⟩
            replace hnf := hnf.then hb2
            replace hbl := hbl.trans (hb2.mono hbl.size)
            go_wp2_with fail
            refine ⟨fun _ => hnf, ?_⟩
            refine nf_imp rfl ?_
            go_wp2_with fail
            refine (HSAV.out _ hbl).mono ?_
            rintro e w3 ⟨rfl, R3, hd3, hx3⟩
            replace hnf := hnf.trans hx3.1 (fun _ _ h => h)
            go_wp2_with fail
            refine ⟨fun _ => hnf, ?_⟩
            refine nf_nil ?_
            have hbo := (hnf.keeps HB.out HNB.out).cell
            have HX3 := Lib.hid ((Ext.of_below R2 hbl).trans hx3)
            have HD3 := Lib.hid hd3
            clear hd3 hx3
            go_wp2_with fail
            go_ret
            exact ⟨rfl, HE.out R3 w3 (by rw [HQ.out]; exact HD3.out) HX3.out⟩
end Go.Proofs.YtmhmdoobadckkaaGreatDoor
/- array.Create, as the laws see it: what becomes of the drives, and of the array, row by row. -/
namespace Go.Proofs.YtmhmdoobadckkaaGreatDoor
set_option maxRecDepth 20000
open Go.RowKit Go.OpenShut

/-- an integer appended to a slice of one's own: in its block, or in a new one -/
theorem wp_pushIA {w : World} {ops : Array Oper} {rest : List Oper} {o : Oper} {a : Act} {Q : Exit → Act → World → Prop} (st t : TypeId) (k : IntKind) (hst : Tryz.prog.underlying st = some (.slice t))
    (hinfo : (Tryz.prog.info? t).map (fun i => (i.zero, i.size, i.bytes)) = some (some (.int k 0), 1, 8)) (hgd : o.guard = none) (s x : Operand)
    (ho : o.op = .call { callee := .builtin .append, args := #[s, x], argTypes := #[st, st] })
    (base : Nat) (v : Value) (l : List Int) (hown : OwnI w base t k v l) (hs : a.eval s = v) (ad : Addr) (c : Nat) (b : Int) (hx : a.eval x = .slice (some ad) 1 c) (hc : w.cell? ad = some (.int k b))
    (hlen : l.length < 4294967296) (hbase : base ≤ w.heap.size)
    (h : ∀ v' w', OwnI w' base t k v' (l ++ [b]) → w.grownBy w' v.ownBlock → (v'.ownBlock = v.ownBlock ∨ v'.ownBlock = some w.heap.size) → wpList Tryz.prog ops Q rest (a.put o.dst v') w') : wpList Tryz.prog ops Q (o :: rest) a w := by
  obtain ⟨i0, hi, hz0, hz1, hz2⟩ := info_parts hinfo
  refine wpList_append_own_at _ hgd s x st ho base t i0 (.int k 0) 1 8 hst hi hz0 hz1 hz2 rfl (by decide) v l.length (ivs k l) hs hown ad 1 c [.int k b] hx rfl ?_ ?_ (by unfold maxLen; omega) (by omega) hbase ?_
  · intro j u hj
    have : j = 0 := by
      rcases Nat.eq_zero_or_pos j with e | e
      · exact e
      · rw [List.getElem?_eq_none (by simp; omega)] at hj; cases hj
    subst this
    simp at hj
    subst hj
    simpa [Addr.add] using hc
  · intro u hu
    simp at hu
    subst hu
    rfl
  · intro v' w' h1 h2 _ h4
    refine h v' w' ?_ h2 h4
    unfold OwnI
    have e : ivs k (l ++ [b]) = ivs k l ++ [.int k b] := by simp [ivs]
    rw [e, List.length_append]
    exact h1
section
variable {w w' : World} {R : Nat → Prop} {g : Nat} {a : Arr} {V : AV}
theorem ArrMem.headG (h : ArrMem w R g a V) (hg : w.grownBy w' V.bv.ownBlock) : Blk w' g 166 (a.cells V) := by
  refine h.head.grown hg fun e => ?_
  have hnd := h.nodup
  unfold AV.fp at hnd
  exact (List.nodup_cons.1 hnd).1 (by simp [← e])
/-- a number is appended to what is built -/
theorem ArrMem.pushed (h : ArrMem w R g a V) {v' : Value} {x : Int} (ho : OwnI w' 0 3 .i64 v' (a.bs ++ [x])) (hg : w.grownBy w' V.bv.ownBlock) (hk : v'.ownBlock = V.bv.ownBlock ∨ v'.ownBlock = some w.heap.size)
    (hR : ∀ b, R b → b < w.heap.size) (hC : ∀ b off, V.C = some ⟨b, off, none⟩ → b < w.heap.size) :
    ArrMem (w'.setCell ⟨g, 8, none⟩ v') R g { a with bs := a.bs ++ [x] } { V with bv := v' } := by
  have hlt := h.lt
  have hnd := h.nodup
  have hout := h.out
  have hfar := h.far
  obtain ⟨L, hL⟩ : ∃ L, [g, V.A, V.gi, V.bi, V.gs] = L := ⟨_, rfl⟩
  obtain ⟨M, hM⟩ : ∃ M, (match a.jr with | none => [] | some _ => [V.rg]) = M := ⟨_, rfl⟩
  have e0 : V.fp g a = L ++ (V.bv.ownBlock.toList ++ M) := by unfold AV.fp; rw [← hL, ← hM]; rfl
  have e1 : AV.fp { V with bv := v' } g { a with bs := a.bs ++ [x] } = L ++ (v'.ownBlock.toList ++ M) := by unfold AV.fp; rw [← hL, ← hM]; rfl
  rw [e0] at hlt hnd hout hfar
  have hp := (List.perm_append_comm_assoc L V.bv.ownBlock.toList M).nodup_iff.1 hnd
  rw [List.nodup_append] at hp
  obtain ⟨_, hp2, hp3⟩ := hp
  have hlm : ∀ b ∈ L ++ M, b < w.heap.size := fun b hb => hlt b (by rcases List.mem_append.1 hb with h | h <;> simp [h])
  have hoth : ∀ b ∈ L ++ M, some b ≠ v'.ownBlock := fun b hb e => by
    rcases hk with hk | hk
    · exact hp3 b (by rw [← hk, ← e]; simp) b hb rfl
    · rw [hk] at e
      have := hlm b hb
      simp at e
      omega
  have hoth2 : ∀ b ∈ L ++ M, some b ≠ V.bv.ownBlock := fun b hb e => hp3 b (by rw [← e]; simp) b hb rfl
  have hold : ∀ b ∈ L ++ M, b ≠ g → (w'.setCell ⟨g, 8, none⟩ v').heap[b]? = w.heap[b]? := fun b hb hbg =>
    (Below.heap_setCell w' _ v' b hbg).trans (hg.block b (hlm b hb) (hoth2 b hb))
  have hgL : g ∈ L ++ M := by rw [← hL]; simp
  have hnd' : (L ++ (v'.ownBlock.toList ++ M)).Nodup := by
    refine (List.perm_append_comm_assoc L v'.ownBlock.toList M).nodup_iff.2 ?_
    rw [List.nodup_append]
    refine ⟨?_, hp2, fun b hb c hc e => ?_⟩
    · cases v'.ownBlock <;> simp
    · subst e
      exact hoth b hc (by simpa using hb : v'.ownBlock = some b).symm
  have hne : ∀ b ∈ [V.A, V.gi, V.bi, V.gs] ++ M, b ∈ L ++ M ∧ b ≠ g := fun b hb => by
    have h1 : (L ++ M) = g :: ([V.A, V.gi, V.bi, V.gs] ++ M) := by rw [← hL]; rfl
    rw [h1] at hp2
    exact ⟨by rw [h1]; exact List.mem_cons_of_mem _ hb, fun e => (List.nodup_cons.1 hp2).1 (e ▸ hb)⟩
  have hgo : (some g : Option Nat) ≠ v'.ownBlock := hoth g hgL
  have hhead : Blk w' g 166 (a.cells V) := (hg.block g (hlm g hgL) (hoth2 g hgL)).trans h.head
  refine ⟨?_, h.ds.old fun b hb => ?_, ?_, ?_, ⟨?_, ?_, h.im.ne, h.im.rows, h.im.len, h.im.bits⟩, h.st.old ?_, fun j q hj => ?_, ?_, ?_, ?_⟩
  · have hh := hhead.set_ 8 v'
    exact hh
  · obtain rfl : V.A = b := by simpa [Value.ownBlock] using hb
    have := hne V.A (by simp)
    exact hold _ this.1 this.2
  · exact ho.far (fun e => hgo e) v'
  · refine ⟨h.sp.1, fun h0 => ?_⟩
    obtain ⟨b, off, e, hb, hc⟩ := h.sp.2 h0
    have hbl : b < w.heap.size := cellLt (hc 0 h0)
    have hbf := hfar b off e
    refine ⟨b, off, e, hb, fun j hj => (cell_same ?_).trans (hc j hj)⟩
    refine (Below.heap_setCell w' _ v' b (fun e => hbf (by rw [← hL]; simp [e]))).trans (hg.block b hbl (fun e => hbf (by simp [← e])))
  · have := hne V.gi (by simp)
    exact (hold _ this.1 this.2).trans h.im.head
  · have := hne V.bi (by simp)
    exact (hold _ this.1 this.2).trans h.im.busy
  · have := hne V.gs (by simp)
    exact hold _ this.1 this.2
  · have h1 : V.rg ∈ M := by rw [← hM]; show V.rg ∈ (match a.jr with | none => [] | some _ => [V.rg]); rw [show a.jr = some (j, q) from hj]; simp
    have := hne V.rg (by simp [h1])
    exact (hold _ this.1 this.2).trans (h.ring j q hj)
  · rw [e1]; exact hnd'
  · rw [e1]
    intro b hb hRb
    rcases List.mem_append.1 hb with h1 | h1
    · exact hout b (by simp [h1]) hRb
    · rcases List.mem_append.1 h1 with h1 | h1
      · have h2 : v'.ownBlock = some b := by simpa using h1
        rcases hk with hk | hk
        · exact hout b (by rw [hk] at h2; simp [h2]) hRb
        · rw [hk] at h2
          have := hR b hRb
          simp at h2
          omega
      · exact hout b (by simp [h1]) hRb
  · rw [e1]
    intro b off hb hm
    have h0 := hfar b off hb
    have h9 := hC b off hb
    rcases List.mem_append.1 hm with h1 | h1
    · exact h0 (by simp [h1])
    · rcases List.mem_append.1 h1 with h1 | h1
      · have h2 : v'.ownBlock = some b := by simpa using h1
        rcases hk with hk | hk
        · exact h0 (by rw [hk] at h2; simp [h2])
        · rw [hk] at h2
          simp at h2
          omega
      · exact h0 (by simp [h1])
end
theorem OwnV.base {t : TypeId} {w : World} {B B' : Nat} {v : Value} {l : List Value} (h : OwnV t w B v l) (hB : B' ≤ B) : OwnV t w B' v l :=
  ⟨h.1, h.2.imp id fun ⟨g, cap, cur, e, hg, r⟩ => ⟨g, cap, cur, e, Nat.le_trans hB hg, r⟩⟩
def rowsOf (s k : Nat) : Nat := min (s - 4) (256 * k) / k
/-- as many rows as there is room for on the first j drives -/
def rowsMin (σ : Nat → Option Drv) (k : Nat) (ps : List (Option Nat)) : Nat → Nat
  | 0 => 256
  | j + 1 => min (rowsMin σ k ps j) (match ps.getD j none with | none => 0 | some g => match σ g with | none => 0 | some D => rowsOf D.n k)
theorem rowsMin_le (σ : Nat → Option Drv) (k : Nat) (ps : List (Option Nat)) : ∀ j, rowsMin σ k ps j ≤ 256
  | 0 => Nat.le_refl _
  | j + 1 => Nat.le_trans (Nat.min_le_left _ _) (rowsMin_le σ k ps j)
theorem rowsMin_mono (σ : Nat → Option Drv) (k : Nat) (ps : List (Option Nat)) (i : Nat) : ∀ j, i ≤ j → rowsMin σ k ps j ≤ rowsMin σ k ps i
  | 0, h => by obtain rfl : i = 0 := by omega
               exact Nat.le_refl _
  | j + 1, h => by
    by_cases e : i = j + 1
    · subst e; exact Nat.le_refl _
    · exact Nat.le_trans (Nat.min_le_left _ _) (rowsMin_mono σ k ps i j (by omega))
theorem rowsMin_room {σ : Nat → Option Drv} {k : Nat} {ps : List (Option Nat)} {i : Nat} (hk : 1 ≤ k) (hi : i < ps.length) {g : Nat} {D : Drv} (hg : ps.getD i none = some g) (hD : σ g = some D) (h1 : 1 ≤ rowsMin σ k ps ps.length) : 4 + rowsMin σ k ps ps.length * k ≤ D.n := by
  have h2 := rowsMin_mono σ k ps (i + 1) ps.length (by omega)
  have h3 : rowsMin σ k ps (i + 1) ≤ rowsOf D.n k := by
    show min _ _ ≤ _
    rw [hg]
    simp only [hD]
    exact Nat.min_le_right _ _
  have h4 : rowsMin σ k ps ps.length ≤ rowsOf D.n k := Nat.le_trans h2 h3
  have h5 : rowsOf D.n k ≤ (D.n - 4) / k := Nat.div_le_div_right (Nat.min_le_left _ _)
  have h6 : rowsMin σ k ps ps.length * k ≤ (D.n - 4) / k * k := Nat.mul_le_mul_right k (Nat.le_trans h4 h5)
  have h7 := Nat.div_mul_le_self (D.n - 4) k
  have h8 : 1 * 1 ≤ rowsMin σ k ps ps.length * k := Nat.mul_le_mul h1 hk
  omega
/-- what Create makes of a drive -/
def fmtD (m : Nat) (D : Drv) : Drv := (D.clear 0 4).clear 4 m
theorem keeps_fmt (m : Nat) : Keeps (fmtD m) (4 + m) := fun D hu hn _ => by
  obtain ⟨h1, h2⟩ := Drv.clear_up hu 0 4 (by omega)
  obtain ⟨h3, h4⟩ := Drv.clear_up h1 4 m (by omega)
  exact ⟨h3, h4.trans h2, (Drv.clear_pl _ _ _).mono (by omega)⟩
/-- the array, when j of its columns are told to be built -/
def Arr.made (u k r : Nat) (ps : List (Option Nat)) (j : Nat) : Arr := ⟨u, 0, ps.length, k, r, 0, 0, ps, List.replicate j (r : Int), [], none, IM.new r, [], false, false, 0, 0, 0⟩
theorem Arr.made_succ (u k r : Nat) (ps : List (Option Nat)) (j : Nat) : { Arr.made u k r ps j with bs := (Arr.made u k r ps j).bs ++ [(r : Int)] } = Arr.made u k r ps (j + 1) := by
  unfold Arr.made
  congr 1
  simp only [List.replicate_succ']
theorem ArrMem.new_ {w : World} {R : Nat → Prop} {B g A cA gi bi gs u k r : Nat} {ps : List (Option Nat)} (hR : ∀ b, R b → b < B) (hA : OwnV 33 w 0 (.slice (some ⟨A, 0, none⟩) ps.length cA) (ps.map pv)) (him : IntAt w gi bi (IM.new r)) (hgs : MapB w gs [])
    (hg : Blk w g 166 ((Arr.made u k r ps 0).cells ⟨A, cA, .slice none 0 0, none, 0, 0, gi, bi, gs⟩)) (hnd : [g, A, gi, bi, gs].Nodup) (hB : ∀ b ∈ [g, A, gi, bi, gs], B ≤ b) : ArrMem w R g (Arr.made u k r ps 0) ⟨A, cA, .slice none 0 0, none, 0, 0, gi, bi, gs⟩ := by
  refine ⟨hg, hA, OwnI.nil_ _ _ _ _, VA.nil_, him, hgs, (fun j q hj => by cases hj), ?_, ?_, (fun b off hb => by cases hb)⟩
  · show ([g, A, gi, bi, gs] ++ ([] ++ [])).Nodup
    simpa using hnd
  · intro b hb hRb
    have hb' : b ∈ [g, A, gi, bi, gs] ++ ([] ++ []) := hb
    have h1 := hB b (by simpa using hb')
    have h2 := hR b hRb
    omega
theorem ArrMem.new3 {w w1 w2 w3 : World} {R : Nat → Prop} (hR : ∀ b, R b → b < w.heap.size) {A cA gi bi u k r n : Nat} {ps : List (Option Nat)} (hl : ps.length = n) (hA : w.heap.size ≤ A) (ho : OwnV 33 w1 w.heap.size (.slice (some ⟨A, 0, none⟩) n cA) (ps.map pv)) (hb : Below w.heap.size w w1) (hb2 : Below w1.heap.size w1 w2)
    (him : IntAt w2 gi bi (IM.new r)) (hgi : w1.heap.size ≤ gi) (hbi : w1.heap.size ≤ bi) (hb3 : Below ((w2.alloc (.map #[] 0)).alloc (.cells #[.int .u64 (u : Int), .int .u64 0, .int .i64 (n : Int), .int .i64 (k : Int), .int .i64 (r : Int), .int .i64 0, .int .i64 0, .slice (some ⟨A, 0, none⟩) n cA, .slice none 0 0, .slice none 0 0, .pointer none, .pointer none, .pointer (some ⟨gi, 0, none⟩), .map (some w2.heap.size), .bool false, .bool false, .int .i64 0, .int .i64 0, .int .i64 0] 166)).heap.size ((w2.alloc (.map #[] 0)).alloc (.cells #[.int .u64 (u : Int), .int .u64 0, .int .i64 (n : Int), .int .i64 (k : Int), .int .i64 (r : Int), .int .i64 0, .int .i64 0, .slice (some ⟨A, 0, none⟩) n cA, .slice none 0 0, .slice none 0 0, .pointer none, .pointer none, .pointer (some ⟨gi, 0, none⟩), .map (some w2.heap.size), .bool false, .bool false, .int .i64 0, .int .i64 0, .int .i64 0] 166)) w3) :
    ArrMem w3 R (w2.heap.size + 1) (Arr.made u k r ps 0) ⟨A, cA, .slice none 0 0, none, 0, 0, gi, bi, w2.heap.size⟩ ∧ Below w.heap.size w w3 ∧ ∀ b ∈ [w2.heap.size + 1, A, gi, bi, w2.heap.size], w.heap.size ≤ b := by
  subst hl
  have s1 := hb.size
  have s2 := hb2.size
  have hAl : A < w1.heap.size := (ho.lt A rfl).2
  have hgl := him.head.lt
  have hbl := him.busy.lt
  have hbx : Below w2.heap.size w2 w3 := (((Below.refl _ _).alloc (Nat.le_refl _) _).alloc (by simp) _).trans (hb3.mono (by simp; omega))
  refine ⟨ArrMem.new_ hR ?_ ⟨him.head.below hbx hgl, him.busy.below hbx hbl, him.ne, him.rows, him.len, him.bits⟩ ?_ ?_ ?_ ?_, hb.trans ((hb2.mono s1).trans (hbx.mono (by omega))), ?_⟩
  · exact ((ho.below hb2).below hbx).base (Nat.zero_le _)
  · exact ((mapB_new rfl).alloc _).old (hb3.block _ (by simp; omega))
  · exact (Blk.newAt (by simp)).below hb3 (by simp)
  · have hne := him.ne
    simp only [List.nodup_cons, List.mem_cons, List.not_mem_nil, or_false, not_or, List.nodup_nil, and_true, not_false_eq_true]
    omega
  · intro b hb
    simp only [List.mem_cons, List.not_mem_nil, or_false] at hb
    omega
  · intro b hb
    simp only [List.mem_cons, List.not_mem_nil, or_false] at hb
    omega
theorem Fine.mono {σ : Nat → Option Drv} {ds : List (Option Nat)} {k k' : Nat} (h : Fine σ ds k) (hk : k' ≤ k) : Fine σ ds k' := fun g hg => by
  obtain ⟨D, h1, h2, h3, h4, h5⟩ := h g hg
  exact ⟨D, h1, h2, h3, by omega, h5⟩
theorem markσ_fine {σ : Nat → Option Drv} {a : Arr} {ds : List (Option Nat)} (h : Fine σ ds 4) (hs : ∀ p ∈ a.ds, p ∈ ds) : Fine (markσ σ a) ds 4 :=
  h.steps (keeps_wf1 (k := 4) (Nat.le_refl _) 2 (pgS a.e (stS a.im.stain)) (by omega) (by omega) (pgS_size _ (stS_size _))) _ (fun p hp => hs p (List.mem_filter.1 hp).1)
theorem Arr.made_ok {u k r : Nat} {ps : List (Option Nat)} (hu0 : 0 < u) (hu1 : u < 18446744073709551616) (hg : geoOK ps.length k r = true) : (Arr.made u k r ps ps.length).on.ok := by
  refine ⟨hg, hu0, hu1, by simp [Arr.made, Arr.on], by simp [Arr.made, Arr.on], by simp [Arr.made, Arr.on], fun b hb => ?_, Or.inl ⟨rfl, rfl⟩⟩
  have hb' : b ∈ List.replicate ps.length (r : Int) := hb
  have := (List.mem_replicate.1 hb').2
  show 0 ≤ b ∧ b ≤ (r : Int)
  omega
theorem Ext.adid {R R1 R2 : Nat → Prop} {w w1 w2 : World} {g : Nat} (h : Ext R R1 w w1) (hc : Chg (fun b => R1 b ∨ b = g) w1 w2) (hn : ∀ b, b < w1.heap.size → R2 b → R1 b) (hg : w.heap.size ≤ g) : Ext R R2 w w2 := by
  refine ⟨h.1.trans hc (fun j hj e => ?_), fun b hb h2 => h.2 b hb (hn b (Nat.lt_of_lt_of_le hb h.size) h2)⟩
  rcases e with e | e
  · exact h.2 j hj e
  · omega
/-- of what stands behind w the call may write whatever it made itself -/
theorem Ext.own {R R1 : Nat → Prop} {w w1 w2 : World} {row : Option Nat} (h : Ext R R1 w w1) (hg : w1.grownBy w2 row) (hr : ∀ b, row = some b → w.heap.size ≤ b) : Ext R R1 w w2 := by
  refine ⟨⟨hg.os.trans h.1.os, hg.tape.trans h.1.tape, hg.output.trans h.1.output, Nat.le_trans h.1.size hg.size, fun j hj hn => ?_⟩, h.2⟩
  refine (hg.block j (Nat.lt_of_lt_of_le hj h.1.size) (fun e => ?_)).trans (h.1.block j hj hn)
  have := hr j e.symm
  omega
theorem Dsk.grown {σ : Nat → Option Drv} {R : Nat → Prop} {w w' : World} {row : Option Nat} (h : Dsk w σ R) (hg : w.grownBy w' row) (hr : ∀ b, row = some b → ¬ R b) : Dsk w' σ R :=
  h.old fun b hb => hg.block b (h.lt hb) (fun e => hr b e.symm hb)
/-- what becomes of the drives, without a journal -/
def createσ (u k r : Nat) (σ : Nat → Option Drv) (ps : List (Option Nat)) : Nat → Option Drv :=
  saveσ (Arr.made u k r ps ps.length).on (markσ (ps.foldl (stepD (fmtD (r * k))) σ) (Arr.made u k r ps ps.length))
end Go.Proofs.YtmhmdoobadckkaaGreatDoor
/- refill.Fill where nothing is lost. -/
namespace Go.Proofs.YtmhmdoobadckkaaGreatDoor
set_option maxRecDepth 20000
open Go.RowKit Go.OpenShut

theorem StrsA.va {w : World} {B n : Nat} {A : Option Addr} {xs : List ByteArray} (h : StrsA w B A n xs) : VA w (fun _ => False) A n (svs xs) :=
  ⟨by rw [svs_len]; exact h.1, fun h0 => by
    obtain ⟨b, off, e, _, hc⟩ := h.2 h0
    refine ⟨b, off, e, fun h => h, fun j hj => (hc j hj).trans ?_⟩
    have hj' : j < xs.length := by rw [h.1]; exact hj
    simp [svs, List.getD, hj']⟩
theorem ne2_11 (w : World) : (Op.equalIn 10000 241 (.agg #[.int .i64 0, .int .i64 0]) (.agg #[.int .i64 1, .int .i64 1])).run Tryz.prog w = .ok false w := by kernel_rfl
theorem ne2_12 (w : World) : (Op.equalIn 10000 241 (.agg #[.int .i64 0, .int .i64 0]) (.agg #[.int .i64 1, .int .i64 2])).run Tryz.prog w = .ok false w := by kernel_rfl
theorem ne2_13 (w : World) : (Op.equalIn 10000 241 (.agg #[.int .i64 0, .int .i64 0]) (.agg #[.int .i64 1, .int .i64 3])).run Tryz.prog w = .ok false w := by kernel_rfl
theorem ne2_10 (w : World) : (Op.equalIn 10000 241 (.agg #[.int .i64 0, .int .i64 0]) (.agg #[.int .i64 1, .int .i64 0])).run Tryz.prog w = .ok false w := by kernel_rfl
theorem ne2_23 (w : World) : (Op.equalIn 10000 241 (.agg #[.int .i64 0, .int .i64 0]) (.agg #[.int .i64 2, .int .i64 3])).run Tryz.prog w = .ok false w := by kernel_rfl
theorem ne2_30 (w : World) : (Op.equalIn 10000 241 (.agg #[.int .i64 0, .int .i64 0]) (.agg #[.int .i64 3, .int .i64 0])).run Tryz.prog w = .ok false w := by kernel_rfl
theorem ne2_20 (w : World) : (Op.equalIn 10000 241 (.agg #[.int .i64 0, .int .i64 0]) (.agg #[.int .i64 2, .int .i64 0])).run Tryz.prog w = .ok false w := by kernel_rfl
set_option maxRecDepth 100000 in
set_option maxHeartbeats 4000000 in
theorem fill0_any (w : World) (A : Option Addr) (n c : Nat) (xs : List ByteArray) (hx : StrsA w w.heap.size A n xs) (hn : 4 ≤ n ∧ n ≤ 10) (B : Option Addr) (c' : Nat) (K : Nat) (hK : K ≤ 4096) (hlen : ∀ i, i < n → (xs.getD i ⟨#[]⟩).size = K) :
    Calls Tryz.prog 169 #[.slice A n c, .slice B 0 c'] w fun e w' => ∃ v, e = .returned (.tuple #[v, .int .i64 0]) ∧ OwnV 9 w' w.heap.size v (svs xs) ∧ Below w.heap.size w w' := by
  have hnil : IntsA w w.heap.size .i64 B 0 [] := ⟨rfl, fun h => by omega⟩
  have HM := Lib.hid (rfMay_any w A n c xs hx hn B 0 c' [] hnil (fun i hi => by cases hi) List.nodup_nil (by omega) K hK (fun i hi _ => hlen i hi))
  rw [show rfE [] = 0 from rfl] at HM
  have HV := Lib.hid (fun W => values_any W B 0 c')
  have HS := Lib.hid (fun W Bs (h1 : Bs < W.heap.size) (h2 : W.cell? ⟨Bs, 0, none⟩ = some (.slice B 0 c')) => sortedV_any W Bs 0 B 0 c' [] (by omega) h1 (Nat.zero_le _) h2 ⟨rfl, fun h => by omega⟩)
  rw [show srt [] = [] by simp [srt]] at HS
  obtain ⟨b0, o0, rfl, hb0, hc0⟩ := hx.2 (by omega)
  have HC := Lib.hid (fun W (hb : Below w.heap.size w W) => cloneS W ⟨b0, o0, none⟩ n c xs ((hx.below hb).va) (by omega))
  have HX := Lib.hid hc0
  have HLEN := Lib.hid hlen
  have HXL := Lib.hid hx.1
  have HCO := Lib.hid (fun W A2 c2 q => containsI W W.heap.size A2 0 c2 [] ⟨rfl, fun h => by omega⟩ (by omega) q)
  have hn4 : (4 : Int) ≤ n := by omega
  have hn10 : (n : Int) ≤ 10 := by omega
  clear hx hn hK hlen hc0 hnil
  go_enter Tryz.func169, Tryz.ntmps169
  go_wp2_with fail
  refine HM.out.mono ?_
  rintro e w1 ⟨rfl, hb1⟩
  go_wp2_with fail
  refine (HV.out _).mono ?_
  rintro e w2 ⟨rfl, rfl⟩
  have hcl := (Blk.new w1 30 #[.slice B 0 c']).cell 0
  have hal := (Below.refl w1.heap.size w1).alloc (Nat.le_refl _) (.cells #[.slice B 0 c'] 30)
  have hb2 := hb1.trans (hal.mono hb1.size)
  go_wp2_with fail
  refine (HS.out _ w1.heap.size (by simp) hcl).mono ?_
  rintro e w3 ⟨v3, rfl, ho3, hb3⟩
  obtain ⟨A3, c3, rfl, _⟩ := ho3.shape
  have hb4 := hb2.trans (hb3.mono hb2.size)
  clear ho3 hb1 hb2 hb3 hal hcl
  have hz0 : (ivs .i64 ([] : List Int)).length = 0 := rfl
  rw [hz0]
  clear hz0
  go_wp2_with fail
  refine (HC.out _ hb4).mono ?_
  rintro e w4 ⟨v4, rfl, ho4, hb5⟩
  obtain ⟨A4, c4, rfl, _⟩ := ho4.shape
  have hl4 : (svs xs).length = n := by rw [svs_len, HXL.out]
  rw [hl4] at ho4 ⊢
  have hb6 := hb4.trans (hb5.mono hb4.size)
  have HO4 := Lib.hid (ho4.base hb4.size)
  clear ho4 hb4 hb5 hl4
  have hr5 := Blk.new w4 304 #[.slice A4 n c4, .int .i64 ((n : Int) - 2)]
  have hb7 := hb6.alloc hb6.size (.cells #[.slice A4 n c4, .int .i64 ((n : Int) - 2)] 304)
  have HO5 := Lib.hid (HO4.out.alloc (.cells #[.slice A4 n c4, .int .i64 ((n : Int) - 2)] 304))
  go_wp2_with fail
  generalize w4.alloc (.cells #[.slice A4 n c4, .int .i64 ((n : Int) - 2)] 304) = w5 at *
  generalize w4.heap.size = gr at *
  have HR5 := Lib.hid hr5
  have HB7 := Lib.hid hb7
  clear hr5 hb7 hb6 HO4
  go_loopw [35, 9] (fun i lg wr => ∃ j : Nat, j ≤ n ∧ i = .int .i64 j ∧ (lg = .int .i64 0 ∨ lg = .int .i64 (K : Int)) ∧ w5 = wr) (fun i _ _ => n - (RowKit.intOf i).toNat)
  case atStart => exact ⟨0, by omega, rfl, Or.inl rfl, rfl⟩
  case round =>
    obtain ⟨j, hj, rfl, hlg, rfl⟩ := hrel
    by_cases hlt : j < n
    · have hcx : w5.cell? ⟨b0, o0 + j, none⟩ = some (.string (xs.getD j ⟨#[]⟩)) := (HB7.out.cell (p := ⟨b0, o0 + j, none⟩) hb0).trans (HX.out j hlt)
      have hxs : ((xs.getD j ⟨#[]⟩).size : Int) = (K : Int) := by rw [HLEN.out j hlt]
      have HCJ := Lib.hid (HCO.out w5 A3 c3 (j : Int))
      rw [show decide ((j : Int) ∈ ([] : List Int)) = false by simp] at HCJ
      generalize xs.getD j ⟨#[]⟩ = x at *
      go_wp2_with fail
      refine HCJ.out.mono ?_
      rintro e w6 ⟨rfl, rfl⟩
      go_wp2_with fail
      go_roundw
      case rel => exact ⟨j + 1, by omega, by go_num, Or.inr (by first | rfl | simp [hxs]), trivial⟩
      case measure => simp [RowKit.intOf]; omega
    · obtain rfl : j = n := by omega
      clear hlg
      go_wp2_with fail
      go_loopw [49] (fun i wr => i = .int .i64 0 ∧ w5 = wr) (fun _ _ => 0)
      case atStart => exact ⟨rfl, rfl⟩
      case round =>
        obtain ⟨rfl, rfl⟩ := hrel
        go_wp2_with fail
        have hk6 := Blk.new w5 241 #[.int .i64 0, .int .i64 0]
        have hr6 := HR5.out.alloc (.cells #[.int .i64 0, .int .i64 0] 241)
        have hb8 := HB7.out.alloc HB7.out.size (.cells #[.int .i64 0, .int .i64 0] 241)
        have ho6 := HO5.out.alloc (.cells #[.int .i64 0, .int .i64 0] 241)
        generalize w5.alloc (.cells #[.int .i64 0, .int .i64 0] 241) = w6 at *
        generalize w5.heap.size = gk at *
        go_loopw [62] (fun i wr => i = .int .i64 0 ∧ w6 = wr) (fun _ _ => 0)
        case atStart => exact ⟨rfl, rfl⟩
        case round =>
          obtain ⟨rfl, rfl⟩ := hrel
          have hqk := hk6.cell
          have hqr := hr6.cell
          have HO6 := Lib.hid ho6
          have HB8 := Lib.hid hb8
          clear ho6 hb8 hk6 hr6
          have n1 := ne2_11
          have n2 := ne2_12
          have n3 := ne2_13
          have n4 := ne2_10
          have n5 := ne2_23
          have n6 := ne2_30
          have n7 := ne2_20
          go_wp2_with fail
          go_ret2
          exact ⟨_, rfl, HO6.out, HB8.out⟩
end Go.Proofs.YtmhmdoobadckkaaGreatDoor
/- row.Filled where nothing is lost. -/
namespace Go.Proofs.YtmhmdoobadckkaaGreatDoor
set_option maxRecDepth 20000
open Go.RowKit Go.OpenShut

/-- a sector that is read has 64 bytes -/
theorem RS.secS_size {w : World} {σ : Nat → Option Drv} {R : Nat → Prop} {S : RS} (h : Dsk w σ R) {row off x : Nat} (hE : S.secE σ row off x = 0) : (S.secS σ row off x).size = 64 := by
  unfold RS.secE at hE
  unfold RS.secS
  cases hb : S.blt σ row x with
  | none => rw [hb] at hE; cases hE
  | some g =>
    rw [hb] at hE
    simp only at hE ⊢
    cases hD : σ g with
    | none => rw [hD] at hE; cases hE
    | some D =>
      rw [hD] at hE
      simp only at hE ⊢
      have hw := h.wf hD
      have hm : D.may (lsec S.k row off : Int) = 0 := by
        unfold Drv.readE at hE
        by_cases hm : D.may (lsec S.k row off : Int) = 0
        · exact hm
        · rw [if_pos hm] at hE
          exact absurd hE hm
      obtain ⟨_, _, h3, h4⟩ := Drv.may_in hm
      unfold Drv.readS
      rw [if_pos hE]
      exact Drv.cur_size hw h3 h4
theorem RS.secs_len (S : RS) (σ : Nat → Option Drv) (row off : Nat) : (S.secs σ row off).length = S.n := by simp [RS.secs]
theorem RS.secs_get (S : RS) (σ : Nat → Option Drv) (row off i : Nat) (hi : i < S.n) : (S.secs σ row off).getD i ⟨#[]⟩ = S.secS σ row off i := by simp [RS.secs, List.getD, hi]
theorem RS.lost_none {S : RS} {σ : Nat → Option Drv} {row off : Nat} (h : ∀ x, x < S.n → S.secE σ row off x = 0) : S.lost σ row off = [] := by
  unfold RS.lost lostPos
  rw [List.map_eq_nil_iff, List.filter_eq_nil_iff]
  intro i hi
  have hi : i < S.n := by simpa using hi
  have e : (List.range S.n).getD i 0 = i := by simp [List.getD, hi]
  rw [e]
  simp [RS.lostF, h i hi]
theorem OwnV.strs {w : World} {B n c : Nat} {A : Option Addr} {xs : List ByteArray} (h : OwnV 9 w B (.slice A n c) (svs xs)) : StrsA w w.heap.size A n xs := by
  have h' : OwnS w B (.slice A n c) xs := by
    unfold OwnS
    have h1 := h
    unfold OwnV at h1
    rw [svs_len] at h1
    exact h1
  exact h'.strs
set_option maxHeartbeats 2000000 in
theorem filled0_any (w : World) (σ : Nat → Option Drv) (R : Nat → Prop) (S : RS) (L : SL) (h : SetIn w σ R S L) (hon : ∀ g, some g ∈ S.ds → ∃ D, σ g = some D ∧ D.lim = none) (row off : Nat) (hr : row < S.r) (ho : off < S.k) (hno : ∀ x, x < S.n → S.secE σ row off x = 0) :
    Calls Tryz.prog 75 #[setV S L, .int .i64 (row : Int), .int .i64 (off : Int)] w (ReadP w (S.secs σ row off) []) := by
  have hg := geo_bd h.ok.geo
  have HRD := Lib.hid (fun W (hb : Below w.heap.size w W) => read_row W σ R S L (h.below hb) hon row off hr ho)
  rw [RS.lost_none hno] at HRD
  have HSZ := Lib.hid (fun i (hi : i < S.n) => show ((S.secs σ row off).getD i ⟨#[]⟩).size = 64 from by rw [RS.secs_get S σ row off i hi]; exact RS.secS_size h.dsk (hno i hi))
  have HLN := Lib.hid (RS.secs_len S σ row off)
  have hn : 4 ≤ S.n ∧ S.n ≤ 10 := ⟨hg.1, hg.2.1⟩
  have HN := Lib.hid hn
  generalize S.secs σ row off = xs at *
  unfold setV setCs at *
  clear h hon hr ho hno hg hn
  go_enter Tryz.func75, Tryz.ntmps75
  go_wp2_with fail
  have hal := (Below.refl w.heap.size w).alloc (Nat.le_refl _) (.cells #[.int .i64 (S.n : Int), .int .i64 (S.k : Int), .int .i64 (S.r : Int), .slice L.A S.n L.ca, .slice L.B S.n L.cb] 32)
  refine (HRD.out _ hal).mono ?_
  rintro e w1 ⟨v1, v2, rfl, ho1, ho2, hb1⟩
  obtain ⟨A1, c1, rfl, _⟩ := ho1.shape
  obtain ⟨A2, c2, rfl, _⟩ := ho2.shape
  have hl1 : (svs xs).length = S.n := by rw [svs_len, HLN.out]
  have hl2 : (ivs .i64 ([] : List Int)).length = 0 := rfl
  rw [hl1] at ho1 ⊢
  rw [hl2] at ho2 ⊢
  have HF := Lib.hid (fill0_any w1 A1 S.n c1 xs ho1.strs HN.out A2 c2 64 (by omega) HSZ.out)
  have hb2 := hal.trans (hb1.mono hal.size)
  have HO2 := Lib.hid (ho2.base (B' := w.heap.size) hal.size)
  have HB2 := Lib.hid hb2
  clear ho1 ho2 hb1 hb2 hal hl1 hl2
  go_wp2_with fail
  refine HF.out.mono ?_
  rintro e w2 ⟨v3, rfl, ho3, hb3⟩
  obtain ⟨A3, c3, rfl, _⟩ := ho3.shape
  have HO3 := Lib.hid (ho3.base HB2.out.size)
  have HO4 := Lib.hid (HO2.out.below hb3)
  have HB3 := Lib.hid (HB2.out.trans (hb3.mono HB2.out.size))
  clear ho3 hb3
  go_wp2_with fail
  refine bodyPost_ret (results_tmp3 rfl _ _ _) rfl ?_
  exact ⟨_, _, rfl, HO3.out, HO4.out, HB3.out⟩
end Go.Proofs.YtmhmdoobadckkaaGreatDoor
/- row.Flush. -/
namespace Go.Proofs.YtmhmdoobadckkaaGreatDoor
set_option maxRecDepth 20000
open Go.RowKit Go.OpenShut

theorem keeps_fl (k : Nat) : Keeps Drv.flOK k := fun D hu _ _ => by
  obtain ⟨a1, a2⟩ := hu.flOK
  exact ⟨a1, a2, (Drv.flOK_pl _).mono (by omega)⟩
/-- the same set, when its drives are others of the same size -/
theorem RS.ok.fine {S : RS} {σ σ' : Nat → Option Drv} (h : S.ok σ) (hf : Fine σ' S.ds S.need) : S.ok σ' :=
  ⟨h.geo, h.dl, h.bl, fun g hg => by obtain ⟨D, h1, _, _, h4, _⟩ := hf g hg; exact ⟨D, h1, h4⟩, h.bb⟩
theorem SetIn.next {w w' : World} {σ σ' : Nat → Option Drv} {R R' : Nat → Prop} {S : RS} {L : SL} (h : SetIn w σ R S L) (hd : Dsk w' σ' R') (hx : Ext R R' w w') (hf : Fine σ' S.ds S.need) : SetIn w' σ' R' S L :=
  ⟨hd, h.ds.ext hx, h.bs.ext hx, h.ok.fine hf⟩
theorem RS.there_eq (S : RS) (σ : Nat → Option Drv) (c : Nat) : S.there σ c = if aliveB σ (S.ds.getD c none) then S.ds.getD c none else none := by
  unfold RS.there aliveB
  cases S.ds.getD c none with
  | none => rfl
  | some g =>
    cases e : σ g with
    | none => simp [e]
    | some D => cases hd : D.dead <;> simp [e, hd]
set_option maxRecDepth 100000 in
set_option maxHeartbeats 4000000 in
theorem flush_row (w : World) (σ : Nat → Option Drv) (R : Nat → Prop) (S : RS) (L : SL) (h : SetIn w σ R S L) (hf : Fine σ S.ds S.need) :
    Calls Tryz.prog 165 #[setV S L] w (Wrote (S.ds.foldl (stepD Drv.flOK) σ) R w 0) := by
  have hg := geo_bd h.ok.geo
  have HMY := Lib.hid (fun W (hb : Below w.heap.size w W) => may_row W σ R S L (h.below hb))
  have HH := Lib.hid h
  have HF := Lib.hid hf
  have HDL := Lib.hid h.ok.dl
  have hn10 : S.n ≤ 10 := hg.2.1
  unfold setV setCs at *
  clear h hf hg
  go_enter Tryz.func165, Tryz.ntmps165
  go_wp2_with fail
  have hal := (Below.refl w.heap.size w).alloc (Nat.le_refl _) (.cells #[.int .i64 (S.n : Int), .int .i64 (S.k : Int), .int .i64 (S.r : Int), .slice L.A S.n L.ca, .slice L.B S.n L.cb] 32)
  have hbx := Blk.new w 32 #[.int .i64 (S.n : Int), .int .i64 (S.k : Int), .int .i64 (S.r : Int), .slice L.A S.n L.ca, .slice L.B S.n L.cb]
  refine (HMY.out _ hal).mono ?_
  rintro e w1 ⟨rfl, hb1⟩
  have hbx1 := hbx.below hb1 hbx.lt
  have hq1 := hbx1.cell
  have HB1 := Lib.hid (hal.trans (hb1.mono hal.size))
  have HBX := Lib.hid hbx1
  have HNR := Lib.hid HH.out.dsk.new
  clear hal hbx hb1 hbx1
  go_wp2_with fail
  go_loopw [12, 3] (fun i of wr => ∃ j : Nat, j ≤ S.n ∧ i = .int .i64 j ∧ of = .bool false ∧ ∃ R', Dsk wr ((S.ds.take j).foldl (stepD Drv.flOK) σ) R' ∧ Ext R R' w1 wr) (fun i _ _ => S.n - (RowKit.intOf i).toNat)
  case atStart => exact ⟨0, by omega, rfl, rfl, R, HH.out.dsk.below HB1.out, Ext.refl _ _⟩
  case round =>
    obtain ⟨j, hj, rfl, rfl, R', hd, hx⟩ := hrel
    by_cases hlt : j < S.n
    · have hjl : j < S.ds.length := by rw [HDL.out]; exact hlt
      have hin : ∀ p ∈ S.ds.take j, p ∈ S.ds := fun p hp => List.mem_of_mem_take hp
      have hfj := HF.out.steps (keeps_fl S.need) (S.ds.take j) hin
      have HS := Lib.hid (foldl_snoc Drv.flOK S.ds j hjl σ)
      have hset : SetIn wr ((S.ds.take j).foldl (stepD Drv.flOK) σ) R' S L := (HH.out.below HB1.out).next hd hx hfj
      have hth := there_any wr _ R' S L hset j hlt
      rw [RS.there_eq] at hth
      have hmem := getD_mem hjl
      have hbr := (hx.blk HBX.out (fun h => HNR.out h))
      have hqr := hbr.cell
      have HX := Lib.hid hx
      have HTH := Lib.hid hth
      unfold setV setCs at HTH
      cases hal : aliveB ((S.ds.take j).foldl (stepD Drv.flOK) σ) (S.ds.getD j none) with
      | true =>
        obtain ⟨gj, D, e1, e2, e3, e4, e5⟩ := hfj.up hmem hal
        rw [hal, if_pos rfl, e1] at HTH
        rw [e1] at HS
        rw [stepD_up e2 e3] at HS
        have HFL := Lib.hid (fun W (hb : Below wr.heap.size wr W) => (hd.below hb).flush e2 (e5.mono (by omega)))
        rw [e3.fl, e3.flE] at HFL
        clear hd hx hset hth hin hfj e1 e2 e3 e4 e5 hal
        unfold pv at HTH
        go_wp2_with fail
        refine HTH.out.mono ?_
        rintro e w2 ⟨rfl, hb2⟩
        go_wp2_with fail
        refine (HFL.out _ hb2).mono ?_
        rintro e w3 ⟨rfl, R3, hd3, hx3⟩
        have HD3 := Lib.hid hd3
        have HX3 := Lib.hid ((HX.out.below hb2).trans hx3)
        clear hd3 hx3 hb2
        go_wp2_with fail
        go_roundw
        case rel => exact ⟨j + 1, by omega, by go_num, rfl, R3, by rw [HS.out]; exact HD3.out, HX3.out⟩
        case measure => simp [RowKit.intOf]; omega
      | false =>
        rw [hal] at HTH
        have HSN := Lib.hid (HS.out.trans (show stepD Drv.flOK ((S.ds.take j).foldl (stepD Drv.flOK) σ) (S.ds.getD j none) = (S.ds.take j).foldl (stepD Drv.flOK) σ from stepD_not hal _))
        have HD := Lib.hid hd
        clear hd hx hset hth hin hfj hal
        rw [if_neg (by simp)] at HTH
        unfold pv at HTH
        go_wp2_with fail
        refine HTH.out.mono ?_
        rintro e w2 ⟨rfl, hb2⟩
        have HD2 := Lib.hid (HD.out.below hb2)
        have HX2 := Lib.hid (HX.out.below hb2)
        clear hb2
        go_wp2_with fail
        go_roundw
        case rel => exact ⟨j + 1, by omega, by go_num, rfl, R', by rw [HSN.out]; exact HD2.out, HX2.out⟩
        case measure => simp [RowKit.intOf]; omega
    · obtain rfl : j = S.n := by omega
      rw [List.take_of_length_le (by rw [HDL.out]; exact Nat.le_refl _)] at hd
      have HD := Lib.hid hd
      have HX := Lib.hid hx
      clear hd hx hq1
      go_wp2_with fail
      go_ret
      exact ⟨rfl, Did.below HB1.out ⟨R', HD.out, HX.out⟩⟩
end Go.Proofs.YtmhmdoobadckkaaGreatDoor
/- stripe: there, roles. -/
namespace Go.Proofs.YtmhmdoobadckkaaGreatDoor
set_option maxRecDepth 20000
open Go.RowKit Go.OpenShut

theorem there_st (w : World) (σ : Nat → Option Drv) (R : Nat → Prop) (S : RS) (L : SL) (h : SetIn w σ R S L) (c : Nat) (hc : c < S.n) :
    Calls Tryz.prog 78 #[setV S L, .int .i64 (c : Int)] w fun e w' => e = .returned (.bool (aliveB σ (S.ds.getD c none))) ∧ Below w.heap.size w w' := by
  obtain ⟨A, ca, B, cb⟩ := L
  obtain ⟨b, off, hA, _⟩ := h.ds.some_ (show 0 < S.n by omega)
  dsimp only at hA
  subst hA
  have hcl : c < S.ds.length := by rw [h.ok.dl]; exact hc
  have hal := (Below.refl w.heap.size w).alloc (Nat.le_refl _) (.cells #[.int .i64 (S.n : Int), .int .i64 (S.k : Int), .int .i64 (S.r : Int), .slice (some ⟨b, off, none⟩) S.n ca, .slice B S.n cb] 32)
  have hcell := (h.ds.below hal).at_ hc
  rw [getD_mapV pv S.ds c hcl] at hcell
  have hbx := (Blk.new w 32 #[.int .i64 (S.n : Int), .int .i64 (S.k : Int), .int .i64 (S.r : Int), .slice (some ⟨b, off, none⟩) S.n ca, .slice B S.n cb]).cell
  have hpin := h.ok.pin _ (getD_mem hcl)
  have HAL := Lib.hid hal
  have hd := h.dsk.below hal
  have hc0 : 0 ≤ (c : Int) := by omega
  have hcn : (c : Int) < S.n := by omega
  unfold setV setCs aliveB
  dsimp only
  cases hp : S.ds.getD c none with
  | none =>
    rw [hp] at hcell
    unfold pv at hcell
    clear h hal hpin hd
    go_enter Tryz.func78, Tryz.ntmps78
    go_wp2_with fail
    go_ret
    exact ⟨rfl, HAL.out⟩
  | some g =>
    rw [hp] at hcell
    obtain ⟨D, hD⟩ := Option.isSome_iff_exists.1 (hpin g hp)
    have HDD := Lib.hid (hd.dead hD)
    simp only [hD]
    unfold pv at hcell
    clear h hal hpin hd hD
    go_enter Tryz.func78, Tryz.ntmps78
    go_wp2_with fail
    refine HDD.out.mono ?_
    rintro e w2 ⟨rfl, rfl⟩
    go_wp2_with fail
    go_ret
    exact ⟨rfl, HAL.out⟩
/-- the columns by their roles -/
def rolesL (n row : Nat) : List Nat := (List.range n).map (lcol n row)
end Go.Proofs.YtmhmdoobadckkaaGreatDoor
/- Parts of a record: slices of structs of three cells. -/
namespace Go.Proofs.YtmhmdoobadckkaaGreatDoor
set_option maxRecDepth 20000
open Go.RowKit Go.OpenShut

structure Prt where
  col : Int
  off : Int
  data : ByteArray
def prt0 : Prt := ⟨0, 0, ⟨#[]⟩⟩
def Prt.cells (p : Prt) : List Value := [.int .i64 p.col, .int .i64 p.off, .string p.data]
def Prt.v (p : Prt) : Value := .agg #[.int .i64 p.col, .int .i64 p.off, .string p.data]
/-- the cells of part j -/
def PAt (w : World) (b o j : Nat) (p : Prt) : Prop :=
  w.cell? ⟨b, o + j * 3, none⟩ = some (.int .i64 p.col) ∧ w.cell? ⟨b, o + j * 3 + 1, none⟩ = some (.int .i64 p.off) ∧ w.cell? ⟨b, o + j * 3 + 2, none⟩ = some (.string p.data)
/-- a slice of parts that can be read, below block B -/
def PartsA (w : World) (B : Nat) (A : Option Addr) (n : Nat) (ps : List Prt) : Prop :=
  ps.length = n ∧ (0 < n → ∃ b o, A = some ⟨b, o, none⟩ ∧ b < B ∧ ∀ j, j < n → PAt w b o j (ps.getD j prt0))
section
variable {w w' : World} {B B' n : Nat} {A : Option Addr} {ps : List Prt}
theorem PAt.below {b o j : Nat} {p : Prt} (h : PAt w b o j p) (hB : Below B w w') (hb : b < B) : PAt w' b o j p :=
  ⟨(hB.cell (p := ⟨b, o + j * 3, none⟩) hb).trans h.1, (hB.cell (p := ⟨b, o + j * 3 + 1, none⟩) hb).trans h.2.1, (hB.cell (p := ⟨b, o + j * 3 + 2, none⟩) hb).trans h.2.2⟩
theorem PartsA.below (h : PartsA w B A n ps) (hb : Below B w w') : PartsA w' B A n ps :=
  ⟨h.1, fun hn => by
    obtain ⟨b, o, e, hlt, hc⟩ := h.2 hn
    exact ⟨b, o, e, hlt, fun j hj => (hc j hj).below hb hlt⟩⟩
theorem PartsA.mono (h : PartsA w B A n ps) (hB : B ≤ B') : PartsA w B' A n ps :=
  ⟨h.1, fun hn => by
    obtain ⟨b, o, e, hlt, hc⟩ := h.2 hn
    exact ⟨b, o, e, Nat.lt_of_lt_of_le hlt hB, hc⟩⟩
theorem PartsA.drew (h : PartsA w B A n ps) : PartsA w.drew B A n ps := h
theorem PartsA.none_ : PartsA w B none 0 [] := ⟨rfl, fun h => by omega⟩
end

/-- a record as a value -/
def recV (seq row : Int) (A : Option Addr) (n c : Nat) : Value := .agg #[.int .u64 seq, .int .i64 row, .slice A n c]

def loadedB (ps : List Prt) : Bool := ps.all fun p => decide (p.data.size = 64)
theorem allP {q : Prt → Bool} (ps : List Prt) : ps.all q = true ↔ ∀ j, j < ps.length → q (ps.getD j prt0) = true := by
  rw [List.all_eq_true]
  constructor
  · intro h j hj
    have e : ps.getD j prt0 = ps[j] := by simp [List.getD, hj]
    rw [e]
    exact h _ (List.getElem_mem hj)
  · intro h x hx
    obtain ⟨j, hj, rfl⟩ := List.mem_iff_getElem.1 hx
    have e : ps.getD j prt0 = ps[j] := by simp [List.getD, hj]
    rw [← e]
    exact h j hj
set_option maxHeartbeats 1000000 in
theorem loaded_any (w : World) (seq row : Int) (A : Option Addr) (n c : Nat) (ps : List Prt) (h : PartsA w w.heap.size A n ps) (hn : n ≤ maxLen) :
    Calls Tryz.prog 83 #[recV seq row A n c] w fun e w' => e = .returned (.bool (loadedB ps)) ∧ Below w.heap.size w w' := by
  unfold recV
  unfold maxLen at hn
  go_enter Tryz.func83, Tryz.ntmps83
  go_wp2_with fail
  have hb0 := (Below.refl w.heap.size w).alloc (Nat.le_refl _) (.cells #[.int .u64 seq, .int .i64 row, .slice A n c] 54)
  generalize w.alloc (.cells #[.int .u64 seq, .int .i64 row, .slice A n c] 54) = w1 at *
  go_loopw [8] (fun i wr => ∃ k : Nat, k ≤ n ∧ i = .int .i64 k ∧ (∀ j, j < k → (ps.getD j prt0).data.size = 64) ∧ Below w.heap.size w wr) (fun i _ => n - (intOf i).toNat)
  case atStart => exact ⟨0, by omega, rfl, fun j hj => by omega, hb0⟩
  case round =>
    obtain ⟨k, hk, rfl, hall, hbr⟩ := hrel
    have HA := Lib.hid hall
    clear hall
    by_cases hlt : k < n
    · obtain ⟨b, o, rfl, hb, hc⟩ := h.2 (by omega)
      obtain ⟨c0, c1, c2⟩ := (hc k hlt).below hbr hb
      have HP := Lib.hid (fun j (hj : j < k + 1) (h0 : (ps.getD k prt0).data.size = 64) => show (ps.getD j prt0).data.size = 64 by
        by_cases e : j = k
        · rw [e]; exact h0
        · exact HA.out j (by omega))
      have HF : Hid ((ps.getD k prt0).data.size ≠ 64 → loadedB ps = false) := Lib.hid (fun h0 => by
        rw [Bool.eq_false_iff]
        intro e
        exact h0 (by simpa using (allP ps).1 e k (by rw [h.1]; exact hlt)))
      generalize ps.getD k prt0 = p at *
      obtain ⟨pc, po, pd⟩ := p
      dsimp only at c0 c1 c2 HP HF
      clear hc
      by_cases h0 : pd.size = 64
      · have e1 : ((pd.size : Int) != 64) = false := by rw [h0]; rfl
        have hbe := hbr.alloc hbr.size (.cells #[.int .i64 pc, .int .i64 po, .string pd] 142)
        go_wp2_with fail
        go_roundw
        case rel => exact ⟨k + 1, by omega, by go_num, fun j hj => HP.out j hj h0, hbe⟩
        case measure => simp [intOf]; go_num
      · have e1 : ((pd.size : Int) != 64) = true := by rw [bne_iff_ne]; omega
        have hbe := hbr.alloc hbr.size (.cells #[.int .i64 pc, .int .i64 po, .string pd] 142)
        go_wp2_with fail
        go_ret
        exact ⟨by rw [HF.out h0]; rfl, hbe⟩
    · obtain rfl : k = n := by omega
      have e : loadedB ps = true := (allP ps).2 (fun j hj => by
        have h1 := HA.out j (by rw [h.1] at hj; exact hj)
        simpa using h1)
      have HE := Lib.hid e
      clear e
      go_wp2_with fail
      go_ret
      exact ⟨by rw [HE.out]; rfl, hbr⟩
end Go.Proofs.YtmhmdoobadckkaaGreatDoor
/- Slices of parts of the call's own. -/
namespace Go.Proofs.YtmhmdoobadckkaaGreatDoor
set_option maxRecDepth 20000
open Go.RowKit Go.OpenShut

def pcs (l : List Prt) : List Value := l.flatMap Prt.cells
theorem pcs_cons (p : Prt) (l : List Prt) : pcs (p :: l) = p.cells ++ pcs l := rfl
theorem pcs_len : ∀ l : List Prt, (pcs l).length = l.length * 3
  | [] => rfl
  | p :: l => by rw [pcs_cons, List.length_append, pcs_len l, List.length_cons]; show 3 + _ = _; omega
theorem pcs_app (l m : List Prt) : pcs (l ++ m) = pcs l ++ pcs m := by simp [pcs]
theorem pcs_get : ∀ (l : List Prt) (j : Nat), j < l.length → (pcs l)[j * 3]? = some (.int .i64 (l.getD j prt0).col) ∧ (pcs l)[j * 3 + 1]? = some (.int .i64 (l.getD j prt0).off) ∧ (pcs l)[j * 3 + 2]? = some (.string (l.getD j prt0).data)
  | [], j, h => by simp at h
  | p :: l, 0, _ => ⟨rfl, rfl, rfl⟩
  | p :: l, j + 1, h => by
    have ih := pcs_get l j (by simpa using h)
    have e : ∀ r, (pcs (p :: l))[(j + 1) * 3 + r]? = (pcs l)[j * 3 + r]? := fun r => by
      rw [pcs_cons, List.getElem?_append_right (by show 3 ≤ _; omega)]
      congr 1
      show (j + 1) * 3 + r - 3 = _
      omega
    have e0 := e 0
    rw [Nat.add_zero, Nat.add_zero] at e0
    rw [e0, e 1, e 2]
    exact ih
theorem pcs_one (l : List Prt) : ∀ u ∈ pcs l, u.oneCell' = true := by
  intro u hu
  obtain ⟨p, _, h⟩ := List.mem_flatMap.1 hu
  simp only [Prt.cells, List.mem_cons, List.not_mem_nil, or_false] at h
  rcases h with rfl | rfl | rfl <;> rfl
def OwnP (e : TypeId) (w : World) (base : Nat) (v : Value) (l : List Prt) : Prop := w.ownsRow base e 3 v l.length (pcs l)
section
variable {e : TypeId} {w w' : World} {base : Nat} {v : Value} {l : List Prt}
theorem OwnP.drew (h : OwnP e w base v l) : OwnP e w.drew base v l := h
theorem OwnP.alloc (h : OwnP e w base v l) (o : Obj) : OwnP e (w.alloc o) base v l := World.ownsRow.alloc h o
theorem OwnP.below (h : OwnP e w base v l) (hb : Below w.heap.size w w') : OwnP e w' base v l := by
  obtain ⟨h1, h2⟩ := h
  refine ⟨h1, ?_⟩
  rcases h2 with h2 | ⟨g, cap, cur, hv, hg, hh, r⟩
  · exact Or.inl h2
  · refine Or.inr ⟨g, cap, cur, hv, hg, ?_, r⟩
    have hlt : g < w.heap.size := by
      rcases Nat.lt_or_ge g w.heap.size with hlt | hge
      · exact hlt
      · rw [Array.getElem?_eq_none hge] at hh; cases hh
    rw [hb.block g hlt]; exact hh
theorem OwnP.shape (h : OwnP e w base v l) : ∃ A c, v = .slice A l.length c ∧ l.length ≤ c ∧ c ≤ maxLen := by
  rcases h.2 with ⟨rfl, h0⟩ | ⟨g, cap, cur, rfl, _, _, hl, h3, _⟩
  · exact ⟨none, 0, by rw [h0], by omega, by omega⟩
  · exact ⟨_, _, rfl, hl, h3⟩
theorem OwnP.none_ (w : World) (base : Nat) : OwnP e w base (.slice none 0 0) [] := ⟨rfl, Or.inl ⟨rfl, rfl⟩⟩
theorem OwnP.grown {row : Option Nat} (h : OwnP e w base v l) (hg : w.grownBy w' row) (hn : v.ownBlock = none ∨ v.ownBlock ≠ row) : OwnP e w' base v l :=
  World.ownsRow.kept h hg hn
theorem OwnP.far (h : OwnP e w base v l) {p : Addr} (hp : some p.block ≠ v.ownBlock) (u : Value) : OwnP e (w.setCell p u) base v l := by
  obtain ⟨h1, h2⟩ := h
  refine ⟨h1, ?_⟩
  rcases h2 with h2 | ⟨g, cap, cur, rfl, hg, hh, r⟩
  · exact Or.inl h2
  · refine Or.inr ⟨g, cap, cur, rfl, hg, ?_, r⟩
    rw [Below.heap_setCell w p u g (fun e => hp (by rw [← e]; rfl))]
    exact hh
theorem OwnP.lt (h : OwnP e w base v l) : ∀ k, v.ownBlock = some k → base ≤ k ∧ k < w.heap.size := World.ownsRow.lt h
theorem OwnP.some_ {A : Option Addr} {n c : Nat} (h : OwnP e w base (.slice A n c) l) (hn : 0 < n) : ∃ g, A = some ⟨g, 0, none⟩ := by
  have h0 := h.1
  rcases h.2 with ⟨e', h1⟩ | ⟨g, cap, cur, e', _⟩
  · cases e'; omega
  · cases e'; exact ⟨g, rfl⟩
theorem OwnP.parts {A : Option Addr} {n c : Nat} (h : OwnP e w base (.slice A n c) l) : PartsA w w.heap.size A n l := by
  have hcl := fun g hg => World.ownsRow.cells (g := g) h hg
  have hlt := h.lt
  obtain ⟨h1, h2⟩ := h
  rcases h2 with ⟨e', h0⟩ | ⟨g, cap, cur, e', hg, hh, r⟩
  · cases e'
    exact ⟨h0, fun h => by omega⟩
  · cases e'
    refine ⟨rfl, fun _ => ⟨g, 0, rfl, (hlt g rfl).2, fun j hj => ?_⟩⟩
    obtain ⟨a0, a1, a2⟩ := pcs_get l j hj
    have e3 : ∀ i, (⟨g, 0, none⟩ : Addr).add i = ⟨g, 0 + i, none⟩ := fun i => by unfold Addr.add; split <;> simp_all
    have b0 := hcl g rfl _ _ a0
    have b1 := hcl g rfl _ _ a1
    have b2 := hcl g rfl _ _ a2
    rw [e3] at b0 b1 b2
    exact ⟨b0, b1, b2⟩
end
theorem info_part : (Tryz.prog.info? 142).map (fun i => (i.zero, i.size, i.bytes)) = some (some (.agg #[.int .i64 0, .int .i64 0, .string ⟨#[]⟩]), 3, 32) := by kernel_rfl
/-- parts appended to a slice of the call's own -/
theorem wp_appP (t e : TypeId) (hu : Tryz.prog.underlying t = some (.slice e)) (hinfo : (Tryz.prog.info? e).map (fun i => (i.zero, i.size, i.bytes)) = some (some (.agg #[.int .i64 0, .int .i64 0, .string ⟨#[]⟩]), 3, 32))
    {w : World} {ops : Array Oper} {rest : List Oper} {o : Oper} {a : Act} {Q : Exit → Act → World → Prop} (hgd : o.guard = none) (s x : Operand)
    (ho : o.op = .call { callee := .builtin .append, args := #[s, x], argTypes := #[t, t] })
    (base : Nat) (v : Value) (l : List Prt) (hown : OwnP e w base v l) (hs : a.eval s = v) (A : Option Addr) (m c : Nat) (b : List Prt) (hx : a.eval x = .slice A m c) (hb : PartsA w w.heap.size A m b) (hc0 : A = none → c = 0)
    (hlen : l.length + m < 4294967296) (hbase : base ≤ w.heap.size)
    (h : ∀ v' w', OwnP e w' base v' (l ++ b) → w.grownBy w' v.ownBlock → Below base w w' → (v'.ownBlock = v.ownBlock ∨ v'.ownBlock = some w.heap.size) → wpList Tryz.prog ops Q rest (a.put o.dst v') w') : wpList Tryz.prog ops Q (o :: rest) a w := by
  obtain ⟨i0, hi, hz0, hz1, hz2⟩ := info_parts hinfo
  obtain ⟨hbl, hb2⟩ := hb
  cases A with
  | none =>
    obtain rfl := hc0 rfl
    have hm : m = 0 := by
      rcases Nat.eq_zero_or_pos m with e | e
      · exact e
      · obtain ⟨_, _, h0, _⟩ := hb2 e
        cases h0
    subst hm
    have hbn : b = [] := List.eq_nil_of_length_eq_zero hbl
    subst hbn
    refine wpList_append_own_none hgd s x t ho base e i0 3 hu hi v l.length (pcs l) hs hown hx ?_
    refine h v w ?_ (World.grownBy.refl _ _) (Below.refl _ _) (Or.inl rfl)
    rw [List.append_nil]
    exact hown
  | some ad =>
    refine wpList_append_own_at _ hgd s x t ho base e i0 _ 3 32 hu hi hz0 hz1 hz2 rfl (by decide) v l.length (pcs l) hs hown ad m c (pcs b) hx (by rw [pcs_len, hbl]) ?_ (pcs_one b) (by unfold maxLen; omega) (by omega) hbase ?_
    · intro j u hj
      have hj' : j < b.length * 3 := by
        rcases Nat.lt_or_ge j (b.length * 3) with e | e
        · exact e
        · rw [List.getElem?_eq_none (by rw [pcs_len]; exact e)] at hj; cases hj
      obtain ⟨g, off, e, _, hcc⟩ := hb2 (by omega)
      cases e
      have e3 : ∀ i, (⟨g, off, none⟩ : Addr).add i = ⟨g, off + i, none⟩ := fun i => by unfold Addr.add; split <;> simp_all
      rw [e3]
      obtain ⟨a0, a1, a2⟩ := pcs_get b (j / 3) (by omega)
      obtain ⟨c0, c1, c2⟩ := hcc (j / 3) (by omega)
      rcases (show j = j / 3 * 3 ∨ j = j / 3 * 3 + 1 ∨ j = j / 3 * 3 + 2 by omega) with e | e | e
      · rw [← e] at a0 c0; rw [a0] at hj; cases hj; exact c0
      · rw [← e] at a1; rw [a1] at hj; cases hj; rw [show off + j = off + j / 3 * 3 + 1 by omega]; exact c1
      · rw [← e] at a2; rw [a2] at hj; cases hj; rw [show off + j = off + j / 3 * 3 + 2 by omega]; exact c2
    · intro v' w' h1 h2 _ h3
      refine h v' w' ?_ h2 ((Below.refl _ _).grown h2 hbase (fun k hk => (World.ownsRow.lt hown k hk).1)) h3
      unfold OwnP
      rw [pcs_app, List.length_append, hbl]
      exact h1
theorem pcs_set0 : ∀ (l : List Prt) (j : Nat) (x : Int), j < l.length → (pcs l).set (j * 3) (.int .i64 x) = pcs (l.set j ⟨x, (l.getD j prt0).off, (l.getD j prt0).data⟩)
  | [], j, _, h => by simp at h
  | p :: l, 0, x, _ => rfl
  | p :: l, j + 1, x, h => by
    have ih := pcs_set0 l j x (by simpa using h)
    rw [pcs_cons, show (j + 1) * 3 = p.cells.length + j * 3 by show _ = 3 + j * 3; omega, List.set_append_right _ _ (by omega), Nat.add_sub_cancel_left, ih]
    rfl
theorem pcs_set1 : ∀ (l : List Prt) (j : Nat) (x : Int), j < l.length → (pcs l).set (j * 3 + 1) (.int .i64 x) = pcs (l.set j ⟨(l.getD j prt0).col, x, (l.getD j prt0).data⟩)
  | [], j, _, h => by simp at h
  | p :: l, 0, x, _ => rfl
  | p :: l, j + 1, x, h => by
    have ih := pcs_set1 l j x (by simpa using h)
    rw [pcs_cons, show (j + 1) * 3 + 1 = p.cells.length + (j * 3 + 1) by show _ = 3 + (j * 3 + 1); omega, List.set_append_right _ _ (by omega), Nat.add_sub_cancel_left, ih]
    rfl
theorem pcs_set2 : ∀ (l : List Prt) (j : Nat) (s : ByteArray), j < l.length → (pcs l).set (j * 3 + 2) (.string s) = pcs (l.set j ⟨(l.getD j prt0).col, (l.getD j prt0).off, s⟩)
  | [], j, _, h => by simp at h
  | p :: l, 0, x, _ => rfl
  | p :: l, j + 1, x, h => by
    have ih := pcs_set2 l j x (by simpa using h)
    rw [pcs_cons, show (j + 1) * 3 + 2 = p.cells.length + (j * 3 + 2) by show _ = 3 + (j * 3 + 2); omega, List.set_append_right _ _ (by omega), Nat.add_sub_cancel_left, ih]
    rfl
theorem OwnP.set0 {e : TypeId} {w : World} {base g n c : Nat} {l : List Prt} (h : OwnP e w base (.slice (some ⟨g, 0, none⟩) n c) l) (hl : l.length = n) (j : Nat) (hj : j < n) (x : Int) :
    OwnP e (w.setCell ⟨g, j * 3, none⟩ (.int .i64 x)) base (.slice (some ⟨g, 0, none⟩) n c) (l.set j ⟨x, (l.getD j prt0).off, (l.getD j prt0).data⟩) := by
  subst hl
  have h1 := (World.ownsRow.stored h (j * 3) (.int .i64 x)).1
  rw [pcs_set0 l j x hj] at h1
  unfold OwnP
  rw [List.length_set]
  exact h1
theorem OwnP.set1 {e : TypeId} {w : World} {base g n c : Nat} {l : List Prt} (h : OwnP e w base (.slice (some ⟨g, 0, none⟩) n c) l) (hl : l.length = n) (j : Nat) (hj : j < n) (x : Int) :
    OwnP e (w.setCell ⟨g, j * 3 + 1, none⟩ (.int .i64 x)) base (.slice (some ⟨g, 0, none⟩) n c) (l.set j ⟨(l.getD j prt0).col, x, (l.getD j prt0).data⟩) := by
  subst hl
  have h1 := (World.ownsRow.stored h (j * 3 + 1) (.int .i64 x)).1
  rw [pcs_set1 l j x hj] at h1
  unfold OwnP
  rw [List.length_set]
  exact h1
theorem OwnP.set2 {e : TypeId} {w : World} {base g n c : Nat} {l : List Prt} (h : OwnP e w base (.slice (some ⟨g, 0, none⟩) n c) l) (hl : l.length = n) (j : Nat) (hj : j < n) (s : ByteArray) :
    OwnP e (w.setCell ⟨g, j * 3 + 2, none⟩ (.string s)) base (.slice (some ⟨g, 0, none⟩) n c) (l.set j ⟨(l.getD j prt0).col, (l.getD j prt0).off, s⟩) := by
  subst hl
  have h1 := (World.ownsRow.stored h (j * 3 + 2) (.string s)).1
  rw [pcs_set2 l j s hj] at h1
  unfold OwnP
  rw [List.length_set]
  exact h1
theorem OwnP.froz {e : TypeId} {w : World} {base g n c : Nat} {l : List Prt} (h : OwnP e w base (.slice (some ⟨g, 0, none⟩) n c) l) (hl : l.length = n) (i : Nat) : w.frozen? ⟨g, i, none⟩ = false := by
  subst hl
  exact World.ownsRow.frozenAt h i
theorem OwnP.at_ {e : TypeId} {w : World} {base g n c : Nat} {l : List Prt} (h : OwnP e w base (.slice (some ⟨g, 0, none⟩) n c) l) (hl : l.length = n) (j : Nat) (hj : j < n) : PAt w g 0 j (l.getD j prt0) := by
  subst hl
  obtain ⟨b, o, e', _, hc⟩ := h.parts.2 (by omega)
  cases e'
  exact hc j hj
/-- one part as a literal -/
theorem PartsA.lit {w0 : World} {g : Nat} {t : TypeId} {p : Prt} (hg : w0.heap.size = g) : PartsA (w0.alloc (.cells #[.int .i64 p.col, .int .i64 p.off, .string p.data] t)) (w0.alloc (.cells #[.int .i64 p.col, .int .i64 p.off, .string p.data] t)).heap.size (some ⟨g, 0, none⟩) 1 [p] := by
  subst hg
  have h := Blk.new w0 t #[.int .i64 p.col, .int .i64 p.off, .string p.data]
  refine ⟨rfl, fun _ => ⟨w0.heap.size, 0, rfl, h.lt, fun j hj => ?_⟩⟩
  obtain rfl : j = 0 := by omega
  exact ⟨h.cell 0, h.cell 1, h.cell 2⟩
end Go.Proofs.YtmhmdoobadckkaaGreatDoor
/- stripe.Put: are all parts right? -/
namespace Go.Proofs.YtmhmdoobadckkaaGreatDoor
set_option maxRecDepth 20000
open Go.RowKit Go.OpenShut

/-- a part that may be put -/
def Prt.fits (p : Prt) (n k : Nat) : Prop := 0 ≤ p.col ∧ p.col < n ∧ 0 ≤ p.off ∧ p.off < k ∧ p.data.size = 64
theorem wrong_no (w : World) (bx : Nat) (S : RS) (L : SL) (hbx : Blk w bx 32 (setCs S L)) (p : Prt) (hp : p.fits S.n S.k) :
    Calls Tryz.prog 162 (#[p.v] ++ #[.pointer (some ⟨bx, 0, none⟩)]) w fun e w' => e = .returned (.bool false) ∧ Below w.heap.size w w' := by
  obtain ⟨h1, h2, h3, h4, h5⟩ := hp
  have hal := (Below.refl w.heap.size w).alloc (Nat.le_refl _) (.cells #[.int .i64 p.col, .int .i64 p.off, .string p.data] 142)
  have hpx := (Blk.new w 142 #[.int .i64 p.col, .int .i64 p.off, .string p.data]).cell
  have hq := (hbx.alloc (.cells #[.int .i64 p.col, .int .i64 p.off, .string p.data] 142)).cell
  have hsz : ((p.data.size : Int) != 64) = false := by rw [h5]; rfl
  have HAL := Lib.hid hal
  unfold setCs at hq
  unfold Prt.v
  clear hal hbx h5
  generalize p.col = pc at *
  generalize p.off = po at *
  generalize p.data = pd at *
  show Calls _ _ #[.agg #[.int .i64 pc, .int .i64 po, .string pd], .pointer (some ⟨bx, 0, none⟩)] _ _
  go_enter Tryz.func162, Tryz.ntmps162
  go_wp2_with fail
  have e1 : decide (pc < 0) = false := decide_eq_false (by omega)
  have e2 : decide ((S.n : Int) ≤ pc) = false := decide_eq_false (by omega)
  have e3 : decide (po < 0) = false := decide_eq_false (by omega)
  have e4 : decide ((S.k : Int) ≤ po) = false := decide_eq_false (by omega)
  have e5 : (decide (pc < 0) || decide ((S.n : Int) ≤ pc) || decide (po < 0) || decide ((S.k : Int) ≤ po)) = false := by rw [e1, e2, e3, e4]; rfl
  go_ret
  exact ⟨congrArg (fun b => Ending.returned (Value.bool b)) e5, HAL.out⟩
set_option maxHeartbeats 1000000 in
theorem indexFuncP_no (w : World) (B : Nat) (A : Option Addr) (n c : Nat) (ps : List Prt) (h : PartsA w B A n ps) (hB : B ≤ w.heap.size) (hn : n ≤ 4294967295) (F : Nat) (lb : Array Value) (hF : ∀ args w, (callFunc F args).run Tryz.prog w = .ok (.enter F args) w)
    (hf : ∀ W, Below w.heap.size w W → ∀ p ∈ ps, Calls Tryz.prog F (#[p.v] ++ lb) W fun e w' => e = .returned (.bool false) ∧ Below W.heap.size W w') :
    Calls Tryz.prog 235 #[.slice A n c, .func (.func F) #[] lb] w fun e w' => e = .returned (.int .i64 (-1)) ∧ Below w.heap.size w w' := by
  have HLn := Lib.hid h.1
  have HF := Lib.hid hf
  have HV := Lib.hid h
  clear hf h
  go_enter Tryz.func235, Tryz.ntmps235
  go_wp2_with fail
  go_loopw [8] (fun i wr => ∃ k : Nat, k ≤ n ∧ i = .int .i64 k ∧ Below w.heap.size w wr) (fun i _ => n - (RowKit.intOf i).toNat)
  case atStart => exact ⟨0, by omega, rfl, Below.refl _ _⟩
  case round =>
    obtain ⟨k, hk, rfl, hbr⟩ := hrel
    by_cases hlt : k < n
    · obtain ⟨b, off, rfl, hbb, hc⟩ := HV.out.2 (by omega)
      obtain ⟨q1, q2, q3⟩ := (hc k hlt).below (hbr.mono hB) hbb
      have hmem : ps.getD k prt0 ∈ ps := by
        have : k < ps.length := by rw [HLn.out]; exact hlt
        simp [List.getD, this]
      have HC := Lib.hid (HF.out wr hbr _ hmem)
      generalize ps.getD k prt0 = p at *
      unfold Prt.v at HC
      generalize p.col = pc at *
      generalize p.off = po at *
      generalize p.data = pd at *
      have HB := Lib.hid hbr
      clear hc hmem hbr
      go_wp2_with fail
      refine HC.out.mono ?_
      rintro e w2 ⟨rfl, hb2⟩
      have HB2 := Lib.hid (HB.out.trans (hb2.mono HB.out.size))
      clear hb2 q1 q2 q3
      go_wp2_with fail
      go_roundw
      case rel => exact ⟨k + 1, by omega, by go_num, HB2.out⟩
      case measure => simp [RowKit.intOf]; omega
    · have HB := Lib.hid hbr
      clear hbr
      go_wp2_with fail
      go_ret
      exact ⟨rfl, HB.out⟩
theorem containsFuncP_no (w : World) (B : Nat) (A : Option Addr) (n c : Nat) (ps : List Prt) (h : PartsA w B A n ps) (hB : B ≤ w.heap.size) (hn : n ≤ 4294967295) (F : Nat) (lb : Array Value) (hF : ∀ args w, (callFunc F args).run Tryz.prog w = .ok (.enter F args) w)
    (hf : ∀ W, Below w.heap.size w W → ∀ p ∈ ps, Calls Tryz.prog F (#[p.v] ++ lb) W fun e w' => e = .returned (.bool false) ∧ Below W.heap.size W w') :
    Calls Tryz.prog 164 #[.slice A n c, .func (.func F) #[] lb] w fun e w' => e = .returned (.bool false) ∧ Below w.heap.size w w' := by
  have HI := Lib.hid (indexFuncP_no w B A n c ps h hB hn F lb hF hf)
  clear h hn hf hF hB
  go_enter Tryz.func164, Tryz.ntmps164
  go_wp2_with (go_at_call 235; refine HI.out.mono ?_; rintro e w1 ⟨rfl, hb⟩)
  go_ret
  exact ⟨rfl, hb⟩
end Go.Proofs.YtmhmdoobadckkaaGreatDoor
/- stripe.Put: the walk. -/
namespace Go.Proofs.YtmhmdoobadckkaaGreatDoor
set_option maxRecDepth 20000
open Go.RowKit Go.OpenShut

/-- drives as in Fine, with so many writes pending -/
def FineM (σ : Nat → Option Drv) (ds : List (Option Nat)) (k m : Nat) : Prop := ∀ g, some g ∈ ds → ∃ D, σ g = some D ∧ D.wf ∧ D.lim = none ∧ k ≤ D.n ∧ D.pl m
theorem FineM.fine {σ : Nat → Option Drv} {ds : List (Option Nat)} {k m : Nat} (h : FineM σ ds k m) (hm : m ≤ 1000) : Fine σ ds k := fun g hg => by
  obtain ⟨D, h1, h2, h3, h4, h5⟩ := h g hg
  exact ⟨D, h1, h2, h3, h4, h5.mono hm⟩
def putD (S : RS) (row : Nat) (p : Prt) (D : Drv) : Drv := D.wrOK (lsec S.k row p.off.toNat : Int) p.data
def putS (S : RS) (row : Nat) (σ : Nat → Option Drv) (p : Prt) : Nat → Option Drv := stepD (putD S row p) σ (S.ds.getD p.col.toNat none)
theorem lsec_need {S : RS} {row off : Nat} (hr : row < S.r) (ho : off < S.k) : lsec S.k row off < S.need := by
  unfold lsec RS.need
  have : (row + 1) * S.k ≤ S.r * S.k := Nat.mul_le_mul_right _ hr
  rw [Nat.add_mul, Nat.one_mul] at this
  have h2 := Nat.mul_comm S.k row
  omega
theorem FineM.put {S : RS} {row : Nat} {σ : Nat → Option Drv} {m : Nat} (h : FineM σ S.ds S.need m) {p : Prt} (hp : p.fits S.n S.k) (hr : row < S.r) : FineM (putS S row σ p) S.ds S.need (m + 1) := by
  obtain ⟨p1, p2, p3, p4, p5⟩ := hp
  have hls := lsec_need (S := S) (row := row) (off := p.off.toNat) hr (by omega)
  intro g hg
  obtain ⟨D, h1, h2, h3, h4, h5⟩ := h g hg
  unfold putS stepD
  cases hq : S.ds.getD p.col.toNat none with
  | none => exact ⟨D, h1, h2, h3, h4, h5.mono (by omega)⟩
  | some q =>
    cases hD : σ q with
    | none => exact ⟨D, by simp only [hD]; exact h1, h2, h3, h4, h5.mono (by omega)⟩
    | some E =>
      simp only [hD]
      cases hdd : E.dead with
      | true => exact ⟨D, by simpa using h1, h2, h3, h4, h5.mono (by omega)⟩
      | false =>
        rw [if_neg (by simp)]
        by_cases e : g = q
        · subst e
          rw [h1] at hD
          cases hD
          have hu : D.up := ⟨h2, hdd, h3⟩
          obtain ⟨a1, a2⟩ := hu.wrOK (i := (lsec S.k row p.off.toNat : Int)) (s := p.data) (by omega) (by omega) p5
          refine ⟨putD S row p D, upd_same _ _ _, a1.1, a1.2.2, by unfold putD; rw [a2]; exact h4, ?_⟩
          have h6 := h5.wr (lsec S.k row p.off.toNat : Int) p.data
          rw [hu.wr (by omega) (by omega) p5] at h6
          exact h6
        · exact ⟨D, by rw [upd_other _ _ e]; exact h1, h2, h3, h4, h5.mono (by omega)⟩
theorem FineM.puts {S : RS} {row : Nat} (hr : row < S.r) : ∀ (ps : List Prt) {σ : Nat → Option Drv} {m : Nat}, FineM σ S.ds S.need m → (∀ p ∈ ps, p.fits S.n S.k) → FineM (ps.foldl (putS S row) σ) S.ds S.need (m + ps.length)
  | [], _, _, h, _ => h
  | p :: ps, _, m, h, hp => by
    have h1 := FineM.puts hr ps (h.put (hp p (by simp)) hr) (fun q hq => hp q (by simp [hq]))
    rw [List.length_cons, Nat.add_comm ps.length 1, ← Nat.add_assoc]
    exact h1
theorem puts_snoc (S : RS) (row : Nat) (σ : Nat → Option Drv) (ps : List Prt) (j : Nat) (hj : j < ps.length) : (ps.take (j + 1)).foldl (putS S row) σ = putS S row ((ps.take j).foldl (putS S row) σ) (ps.getD j prt0) := by
  rw [List.take_succ_eq_append_getElem hj, List.foldl_append]
  simp [List.getD, hj]
/-- what a row's parts make of its drives -/
def putσ (S : RS) (row : Nat) (σ : Nat → Option Drv) (ps : List Prt) : Nat → Option Drv := S.ds.foldl (stepD Drv.flOK) (ps.foldl (putS S row) σ)
/-- parts that can be read, in a block that is none of R's -/
def PartsR (w : World) (R : Nat → Prop) (A : Option Addr) (n : Nat) (ps : List Prt) : Prop := ps.length = n ∧ (0 < n → ∃ b o, A = some ⟨b, o, none⟩ ∧ ¬ R b ∧ b < w.heap.size ∧ ∀ j, j < n → PAt w b o j (ps.getD j prt0))
theorem PartsR.ext {w w' : World} {R R' : Nat → Prop} {A : Option Addr} {n : Nat} {ps : List Prt} (h : PartsR w R A n ps) (k : Ext R R' w w') : PartsR w' R' A n ps := by
  refine ⟨h.1, fun h0 => ?_⟩
  obtain ⟨b, o, e, hR, hlt, hc⟩ := h.2 h0
  have hs : w'.heap[b]? = w.heap[b]? := k.1.block b hlt hR
  exact ⟨b, o, e, k.not hR hlt, Nat.lt_of_lt_of_le hlt k.size, fun j hj => ⟨(cell_same hs).trans (hc j hj).1, (cell_same hs).trans (hc j hj).2.1, (cell_same hs).trans (hc j hj).2.2⟩⟩
theorem PartsR.parts {w : World} {R : Nat → Prop} {A : Option Addr} {n : Nat} {ps : List Prt} (h : PartsR w R A n ps) : PartsA w w.heap.size A n ps :=
  ⟨h.1, fun h0 => by obtain ⟨b, o, e, _, hlt, hc⟩ := h.2 h0; exact ⟨b, o, e, hlt, hc⟩⟩
end Go.Proofs.YtmhmdoobadckkaaGreatDoor
/- stripe.Put: the walk. -/
namespace Go.Proofs.YtmhmdoobadckkaaGreatDoor
set_option maxRecDepth 20000
open Go.RowKit Go.OpenShut

set_option maxRecDepth 100000 in
set_option maxHeartbeats 4000000 in
theorem put_any (w : World) (σ : Nat → Option Drv) (R : Nat → Prop) (S : RS) (L : SL) (h : SetIn w σ R S L) (hf : FineM σ S.ds S.need 900) (row : Nat) (hr : row < S.r) (A : Option Addr) (n c : Nat) (ps : List Prt) (hps : PartsR w R A n ps) (hn : n ≤ 40) (hfit : ∀ p ∈ ps, p.fits S.n S.k) :
    Calls Tryz.prog 69 #[setV S L, .int .i64 (row : Int), .slice A n c] w (Wrote (putσ S row σ ps) R w 0) := by
  have hg := h.ok.geo
  have HG := Lib.hid (geo_bd hg)
  have HMY := Lib.hid (fun W (hb : Below w.heap.size w W) => may_row W σ R S L (h.below hb))
  have HCF := Lib.hid (fun W (hb : Below w.heap.size w W) bx (hbx : Blk W bx 32 (setCs S L)) => containsFuncP_no W W.heap.size A n c ps ((hps.parts.below hb).mono hb.size) (Nat.le_refl _) (by omega) 162 #[.pointer (some ⟨bx, 0, none⟩)] (enters_of Tryz.func162 (by kernel_rfl) rfl) (fun W2 hb2 p hp => wrong_no W2 bx S L (hbx.below hb2 hbx.lt) p (hfit p hp)))
  have HH := Lib.hid h
  have HF := Lib.hid hf
  have HPS := Lib.hid hps
  have HFIT := Lib.hid hfit
  have HSC := Lib.hid (fun W off (ho : off < S.k) => sector_any W S.n S.k S.r hg row off hr ho)
  have HR := Lib.hid hr
  have hr2 : (row : Int) < S.r := by omega
  have hr3 : decide (S.r ≤ row) = false := decide_eq_false (by omega)
  have hr4 : decide ((row : Int) < 0) = false := decide_eq_false (by omega)
  have hln : ps.length = n := hps.1
  have HLN := Lib.hid hln
  unfold setV setCs at *
  clear h hf hg hps hfit hln hr
  go_enter Tryz.func69, Tryz.ntmps69
  go_wp2_with fail
  have hal := (Below.refl w.heap.size w).alloc (Nat.le_refl _) (.cells #[.int .i64 (S.n : Int), .int .i64 (S.k : Int), .int .i64 (S.r : Int), .slice L.A S.n L.ca, .slice L.B S.n L.cb] 32)
  have hbx := Blk.new w 32 #[.int .i64 (S.n : Int), .int .i64 (S.k : Int), .int .i64 (S.r : Int), .slice L.A S.n L.ca, .slice L.B S.n L.cb]
  refine (HMY.out _ hal).mono ?_
  rintro e w1 ⟨rfl, hb1⟩
  have hbx1 := hbx.below hb1 hbx.lt
  have hb2 := hal.trans (hb1.mono hal.size)
  clear hal hbx hb1
  go_wp2_with fail
  refine (HCF.out _ hb2 _ hbx1).mono ?_
  rintro e w2 ⟨rfl, hb3⟩
  have hbx2 := hbx1.below hb3 hbx1.lt
  have HB3 := Lib.hid (hb2.trans (hb3.mono hb2.size))
  have HBX := Lib.hid hbx2
  have hqx := hbx2.cell
  clear hbx1 hb2 hb3
  go_wp2_with fail
  have HNR := Lib.hid HH.out.dsk.new
  clear hqx hbx2
  go_loopw [32] (fun i wr => ∃ j : Nat, j ≤ n ∧ i = .int .i64 j ∧ ∃ R', Dsk wr ((ps.take j).foldl (putS S row) σ) R' ∧ Ext R R' w2 wr) (fun i _ => n - (RowKit.intOf i).toNat)
  case atStart => exact ⟨0, by omega, rfl, R, HH.out.dsk.below HB3.out, Ext.refl _ _⟩
  case round =>
    obtain ⟨j, hj, rfl, R', hd, hx⟩ := hrel
    by_cases hlt : j < n
    · have hjl : j < ps.length := by rw [HLN.out]; exact hlt
      have hmem : ps.getD j prt0 ∈ ps := by simp [List.getD, hjl]
      have hfit := HFIT.out _ hmem
      have HS := Lib.hid (puts_snoc S row σ ps j hjl)
      have hfm := FineM.puts HR.out (ps.take j) HF.out (fun p hp => HFIT.out p (List.mem_of_mem_take hp))
      rw [List.length_take, Nat.min_eq_left (Nat.le_of_lt hjl)] at hfm
      have hfj := hfm.fine (by omega)
      have hset : SetIn wr ((ps.take j).foldl (putS S row) σ) R' S L := (HH.out.below HB3.out).next hd hx hfj
      obtain ⟨b, o, rfl, hbR, hbl, hc⟩ := (((HPS.out.ext (Ext.of_below R HB3.out)).ext hx).2 (by omega))
      obtain ⟨q1, q2, q3⟩ := hc j hlt
      generalize ps.getD j prt0 = p at *
      obtain ⟨pc, po, pd⟩ := p
      obtain ⟨f1, f2, f3, f4, f5⟩ := hfit
      dsimp only at q1 q2 q3 f1 f2 f3 f4 f5
      obtain ⟨cc, rfl⟩ := Int.eq_ofNat_of_zero_le f1
      obtain ⟨oo, rfl⟩ := Int.eq_ofNat_of_zero_le f3
      have hcc : cc < S.n := by omega
      have hoo : oo < S.k := by omega
      have hbr := hx.blk HBX.out HNR.out
      have hnrr := hx.not HNR.out HBX.out.lt
      have HSTEP := Lib.hid (show putS S row ((ps.take j).foldl (putS S row) σ) ⟨(cc : Int), (oo : Int), pd⟩ = stepD (fun D => D.wrOK (lsec S.k row oo : Int) pd) ((ps.take j).foldl (putS S row) σ) (S.ds.getD cc none) from rfl)
      rw [HSTEP.out] at HS
      generalize (ps.take j).foldl (putS S row) σ = σj at *
      have hal := (Below.refl wr.heap.size wr).alloc (Nat.le_refl _) (.cells #[.int .i64 (cc : Int), .int .i64 (oo : Int), .string pd] 142)
      have hpb := Blk.new wr 142 #[.int .i64 (cc : Int), .int .i64 (oo : Int), .string pd]
      have hnp := hd.new
      have hbr2 := hbr.alloc (.cells #[.int .i64 (cc : Int), .int .i64 (oo : Int), .string pd] 142)
      have HTH := Lib.hid (fun W (hb : Below (wr.alloc (.cells #[.int .i64 (cc : Int), .int .i64 (oo : Int), .string pd] 142)).heap.size (wr.alloc (.cells #[.int .i64 (cc : Int), .int .i64 (oo : Int), .string pd] 142)) W) => there_st W σj R' S L ((hset.below hal).below hb) cc hcc)
      have HX := Lib.hid (hx.below hal)
      have HDA := Lib.hid (hd.below hal)
      have hdsv := (hset.below hal).ds
      have HPB := Lib.hid hpb
      have HBR := Lib.hid hbr2
      have hcl : cc < S.ds.length := by rw [HH.out.ok.dl]; exact hcc
      obtain ⟨bA, oA, hA, hAR, _⟩ := hdsv.2 (by omega)
      have hdc := hdsv
      rw [hA] at hdc
      have hdcell := hdc.at_ hcc
      rw [getD_mapV pv S.ds cc hcl] at hdcell
      have hAl := cellLt hdcell
      have HW1 := Lib.hid (fun W (hb : Below (wr.alloc (.cells #[.int .i64 (cc : Int), .int .i64 (oo : Int), .string pd] 142)).heap.size (wr.alloc (.cells #[.int .i64 (cc : Int), .int .i64 (oo : Int), .string pd] 142)) W) => (HDA.out.below hb))
      have hlA := Lib.hid hAl
      have hmemd := getD_mem hcl
      have HAR := Lib.hid hAR
      have HNP := Lib.hid hnp
      have HNRR := Lib.hid hnrr
      cases hal2 : aliveB σj (S.ds.getD cc none) with
      | true =>
        obtain ⟨gj, D, e1, e2, e3, e4, e5⟩ := hfj.up hmemd hal2
        have HWR := Lib.hid (fun W (hb : Below (wr.alloc (.cells #[.int .i64 (cc : Int), .int .i64 (oo : Int), .string pd] 142)).heap.size (wr.alloc (.cells #[.int .i64 (cc : Int), .int .i64 (oo : Int), .string pd] 142)) W) => (HDA.out.below hb).write e2 (lsec S.k row oo : Int) pd (e5.mono (by omega)))
        have hls := lsec_need (S := S) HR.out hoo
        rw [e3.wr (by omega) (by omega) f5, e3.wrE (by omega) (by omega) f5] at HWR
        rw [hal2] at HTH
        rw [e1] at hdcell HS
        rw [stepD_up e2 e3] at HS
        have HDC := Lib.hid hdcell
        unfold pv at HDC
        have HSO := Lib.hid (fun W => HSC.out W oo hoo)
        unfold gV at HSO
        obtain ⟨A9, ca9, B9, cb9⟩ := L
        dsimp only at hA
        subst hA
        clear hd hx hset hfm hfj hal hpb hbr hbr2 hdsv hdc hdcell hal2 e1 e2 e3 e4 e5 hls hc hmemd hmem
        go_wp2_with fail
        have hnf := (Chg.refl R' (wr.alloc (.cells #[.int .i64 (cc : Int), .int .i64 (oo : Int), .string pd] 142))).drew
        have hbl := (Below.refl (wr.alloc (.cells #[.int .i64 (cc : Int), .int .i64 (oo : Int), .string pd] 142)).heap.size (wr.alloc (.cells #[.int .i64 (cc : Int), .int .i64 (oo : Int), .string pd] 142))).drew
        refine wp_region_nf (fun Y => Chg R' (wr.alloc (.cells #[.int .i64 (cc : Int), .int .i64 (oo : Int), .string pd] 142)) Y) (fun _ => false) [(0, true), (1, true), (2, true), (3, false), (4, true), (5, true), (6, true), (7, true), (8, true), (9, true), (10, true), (11, true), (12, true), (13, true), (14, true), (15, true), (17, true), (18, true), (16, false), (19, false), (20, true), (21, true)] (by kernel_rfl) rfl (by kernel_rfl) (by kernel_rfl) (fun d _ _ _ _ h => by cases d <;> exact h) ?_
        clear q1 q2 q3
        generalize (wr.alloc (.cells #[.int .i64 (cc : Int), .int .i64 (oo : Int), .string pd] 142)) = wa at *
        repeat (refine nf_pure rfl hnf (fun Y hY => by have hcS := (hY.keeps HBR.out HNRR.out).cell; have hcP := (hY.keeps HPB.out HNP.out).cell; have hcD := (cell_same (hY.block bA hAl HAR.out)).trans HDC.out; clear hY; go_wp2; exact ⟨rfl, rfl, rfl⟩) rfl ?_ ?_; rfl)
        refine nf_imp rfl ?_
        go_wp2_with fail
        refine (HTH.out _ hbl).mono ?_
        rintro e w3 ⟨rfl, hb3⟩
        replace hnf := hnf.then hb3
        replace hbl := hbl.trans (hb3.mono hbl.size)
        clear hb3
        go_wp2_with fail
        refine ⟨fun _ => hnf, ?_⟩
        repeat (refine nf_pure rfl hnf (fun Y hY => by have hcS := (hY.keeps HBR.out HNRR.out).cell; have hcP := (hY.keeps HPB.out HNP.out).cell; have hcD := (cell_same (hY.block bA hAl HAR.out)).trans HDC.out; clear hY; go_wp2; exact ⟨rfl, rfl, rfl⟩) rfl ?_ ?_; rfl)
        refine nf_imp rfl ?_
        go_wp2_with fail
        refine (HSO.out _).mono ?_
        rintro e w4 ⟨rfl, hb4⟩
        replace hnf := hnf.then hb4
        replace hbl := hbl.trans (hb4.mono hbl.size)
        clear hb4
        go_wp2_with fail
        refine ⟨fun _ => hnf, ?_⟩
        repeat (refine nf_pure rfl hnf (fun Y hY => by have hcS := (hY.keeps HBR.out HNRR.out).cell; have hcP := (hY.keeps HPB.out HNP.out).cell; have hcD := (cell_same (hY.block bA hAl HAR.out)).trans HDC.out; clear hY; go_wp2; exact ⟨rfl, rfl, rfl⟩) rfl ?_ ?_; rfl)
        refine nf_imp rfl ?_
        go_wp2_with fail
        refine (HWR.out _ hbl).mono ?_
        rintro e w5 ⟨rfl, R5, hd5, hx5⟩
        replace hnf := hnf.trans hx5.1 (fun _ _ h => h)
        have HD5 := Lib.hid hd5
        have HX5 := Lib.hid ((HX.out.below hbl).trans hx5)
        clear hd5 hx5 hbl
        go_wp2_with fail
        refine ⟨fun _ => hnf, ?_⟩
        repeat (refine nf_pure rfl hnf (fun Y hY => by clear hY; go_wp2; exact ⟨rfl, rfl, rfl⟩) rfl ?_ ?_; rfl)
        refine nf_nil ?_
        clear hnf
        go_wp2_with fail
        go_roundw
        case rel =>
          exact ⟨j + 1, by omega, by go_num, R5, by rw [HS.out]; exact HD5.out, HX5.out⟩
        case measure => simp [RowKit.intOf]; omega
      | false =>
        rw [stepD_not hal2] at HS
        rw [hal2] at HTH
        have HDc := HDA
        obtain ⟨A9, ca9, B9, cb9⟩ := L
        dsimp only at hA
        subst hA
        clear hd hx hset hfm hfj hal hpb hbr hbr2 hdsv hdc hdcell hal2 hc hmemd hmem
        go_wp2_with fail
        have hnf := (Below.refl (wr.alloc (.cells #[.int .i64 (cc : Int), .int .i64 (oo : Int), .string pd] 142)).heap.size (wr.alloc (.cells #[.int .i64 (cc : Int), .int .i64 (oo : Int), .string pd] 142))).drew
        refine wp_region_nf (fun Y => Below (wr.alloc (.cells #[.int .i64 (cc : Int), .int .i64 (oo : Int), .string pd] 142)).heap.size (wr.alloc (.cells #[.int .i64 (cc : Int), .int .i64 (oo : Int), .string pd] 142)) Y) (fun _ => false) [(0, true), (1, true), (2, true), (3, false), (4, true), (5, true), (6, true), (7, true), (8, true), (9, true), (10, true), (11, true), (12, true), (13, true), (14, true), (15, true), (17, true), (18, true), (16, false), (19, false), (20, true), (21, true)] (by kernel_rfl) rfl (by kernel_rfl) (by kernel_rfl) (fun d _ _ _ _ h => by cases d <;> exact h) ?_
        clear q1 q2 q3
        generalize (wr.alloc (.cells #[.int .i64 (cc : Int), .int .i64 (oo : Int), .string pd] 142)) = wa at *
        repeat (refine nf_pure rfl hnf (fun Y hY => by have hcS := (HBR.out.below hY HBR.out.lt).cell; have hcP := (HPB.out.below hY HPB.out.lt).cell; clear hY; go_wp2; exact ⟨rfl, rfl, rfl⟩) rfl ?_ ?_; rfl)
        refine nf_imp rfl ?_
        go_wp2_with fail
        refine (HTH.out _ hnf).mono ?_
        rintro e w3 ⟨rfl, hb3⟩
        replace hnf := hnf.trans (hb3.mono hnf.size)
        clear hb3
        go_wp2_with fail
        refine ⟨fun _ => hnf, ?_⟩
        repeat (refine nf_pure rfl hnf (fun Y hY => by clear hY; go_wp2; exact ⟨rfl, rfl, rfl⟩) rfl ?_ ?_; rfl)
        refine nf_imp rfl ?_
        go_wp2_with fail
        refine ⟨fun _ => hnf, ?_⟩
        repeat (refine nf_pure rfl hnf (fun Y hY => by clear hY; go_wp2; exact ⟨rfl, rfl, rfl⟩) rfl ?_ ?_; rfl)
        refine nf_imp rfl ?_
        go_wp2_with fail
        refine ⟨fun _ => hnf, ?_⟩
        repeat (refine nf_pure rfl hnf (fun Y hY => by clear hY; go_wp2; exact ⟨rfl, rfl, rfl⟩) rfl ?_ ?_; rfl)
        refine nf_nil ?_
        have HD5 := Lib.hid (HDA.out.below hnf)
        have HX5 := Lib.hid (HX.out.below hnf)
        clear hnf
        go_wp2_with fail
        go_roundw
        case rel =>
          exact ⟨j + 1, by omega, by go_num, R', by rw [HS.out]; exact HD5.out, HX5.out⟩
        case measure => simp [RowKit.intOf]; omega
    · obtain rfl : j = n := by omega
      have hln := HLN.out
      rw [List.take_of_length_le (by omega)] at hd
      have hfm := FineM.puts HR.out ps HF.out (fun p hp => HFIT.out p hp)
      have hfj := hfm.fine (by omega)
      have hset : SetIn wr (ps.foldl (putS S row) σ) R' S L := (HH.out.below HB3.out).next hd hx hfj
      have HFL := Lib.hid (flush_row wr _ R' S L hset hfj)
      have hbr := (hx.blk HBX.out HNR.out).cell
      have HX := Lib.hid hx
      unfold setV setCs at HFL
      clear hd hx hset hfm hfj hln
      go_wp2_with fail
      refine HFL.out.mono ?_
      rintro e w3 ⟨rfl, R3, hd3, hx3⟩
      have HD3 := Lib.hid hd3
      have HX3 := Lib.hid (HX.out.trans hx3)
      clear hd3 hx3 hbr
      go_wp2_with fail
      go_ret
      exact ⟨rfl, Did.below HB3.out ⟨R3, HD3.out, HX3.out⟩⟩
end Go.Proofs.YtmhmdoobadckkaaGreatDoor
