/- Own texts, joined: TopJ0. -/
import Derived.Test.YtmhmdoobadckkaaGreatDoorTj8
import Derived.Test.YtmhmdoobadckkaaGreatDoorTj9
import Derived.Test.YtmhmdoobadckkaaGreatDoorTj10
import Derived.Test.YtmhmdoobadckkaaGreatDoorTj12
/- TopJournal: what stays so on the way, and what each call makes of it. -/
namespace Go.Proofs.YtmhmdoobadckkaaGreatDoor
set_option maxRecDepth 20000
open Go.RowKit Go.OpenShut

theorem Blk.ne {w : World} {g g' : Nat} {t t' : TypeId} {cs cs' : Array Value} (h : Blk w g t cs) (h' : Blk w g' t' cs') (ht : t ≠ t') : g ≠ g' := fun e => by
  subst e
  unfold Blk at h h'
  rw [h] at h'
  cases h'
  exact ht rfl
theorem alive_of_secE {S : RS} {σ : Nat → Option Drv} {row off x : Nat} (h : S.secE σ row off x = 0) : aliveB σ (S.ds.getD (lcol S.n row x) none) = true := by
  have hb := blt_of_secE h
  unfold RS.blt at hb
  split at hb
  · exact absurd rfl hb
  · rw [RS.there_eq] at hb
    split at hb
    · rename_i ha; exact ha
    · exact absurd rfl hb
/-- an address is not in block g -/
def FarA (A : Option Addr) (g : Nat) : Prop := ∀ b off, A = some ⟨b, off, none⟩ → b ≠ g
theorem VA.chg {w w' : World} {R R' : Nat → Prop} {A : Option Addr} {n g : Nat} {xs : List Value} (h : VA w R A n xs) (hc : Chg (fun b => R b ∨ b = g) w w') (hR : ∀ b, b < w.heap.size → R' b → R b) (hf : FarA A g) : VA w' R' A n xs := by
  refine ⟨h.1, fun h0 => ?_⟩
  obtain ⟨b, off, e, hb, hcl⟩ := h.2 h0
  have hlt : b < w.heap.size := cellLt (hcl 0 h0)
  exact ⟨b, off, e, fun hb' => hb (hR b hlt hb'), fun j hj => (cell_same (hc.block b hlt (fun h9 => h9.elim hb (hf b off e)))).trans (hcl j hj)⟩
structure TJ (w0 W : World) (σ : Nat → Option Drv) (R : Nat → Prop) (S : RS) (L : SL) (T : List Sec) (bS gd gj : Nat) (Dj : Drv) (q : Rng) : Prop where
  ext : Ext (fun _ => False) R w0 W
  set : SetIn W σ R S L
  fm : FineM σ S.ds S.need 0
  wh : Whole S σ 1 0 T
  blk : Blk W bS 32 (setCs S L)
  nb : ¬ R bS
  dj : σ gd = some Dj
  out : some gd ∉ S.ds
  rg : RngAt W gj gd q
  nr : ¬ R gj
  jl : w0.heap.size ≤ gj
  fA : FarA L.A gj
  fB : FarA L.B gj
/-- what is so of the set for good -/
structure TS (S : RS) : Prop where
  once : Once S.ds
  r : 1 < S.r
  k : 0 < S.k
section
variable {w0 W W' : World} {σ : Nat → Option Drv} {R : Nat → Prop} {S : RS} {L : SL} {T : List Sec} {bS gd gj : Nat} {Dj : Drv} {q : Rng}
theorem TJ.below (h : TJ w0 W σ R S L T bS gd gj Dj q) (hb : Below W.heap.size W W') : TJ w0 W' σ R S L T bS gd gj Dj q :=
  ⟨h.ext.below hb, h.set.below hb, h.fm, h.wh, h.blk.below hb h.blk.lt, h.nb, h.dj, h.out, h.rg.below hb h.rg.lt, h.nr, h.jl, h.fA, h.fB⟩
theorem TJ.did (h : TJ w0 W σ R S L T bS gd gj Dj q) {σ' : Nat → Option Drv} {R' : Nat → Prop} {T' : List Sec} (hd : Dsk W' σ' R') (hx : Ext R R' W W') (hf : FineM σ' S.ds S.need 0) (hw : Whole S σ' 1 0 T') (hj : σ' gd = some Dj) : TJ w0 W' σ' R' S L T' bS gd gj Dj q :=
  ⟨h.ext.trans hx, h.set.next hd hx (hf.fine (by omega)), hf, hw, hx.blk h.blk h.nb, hx.not h.nb h.blk.lt, hj, h.out, hx.blk h.rg h.nr, hx.not h.nr h.rg.lt, h.jl, h.fA, h.fB⟩
theorem TJ.filled (h : TJ w0 W σ R S L T bS gd gj Dj q) (ht : TS S) (hb : Below W.heap.size W W') : Calls Tryz.prog 75 #[setV S L, .int .i64 ((1 : Nat) : Int), .int .i64 ((0 : Nat) : Int)] W' (ReadP W' T []) := by
  have hn := geo_bd h.set.ok.geo
  have := filled0_any W' σ R S L (h.set.below hb) (fun g hg => by obtain ⟨D, a, b, c, d⟩ := h.fm g hg; exact ⟨D, a, c⟩) 1 0 ht.r ht.k h.wh.e
  rwa [h.wh.secs (by omega)] at this
theorem FineM.up_ {σ : Nat → Option Drv} {ds : List (Option Nat)} {k m m' : Nat} (h : FineM σ ds k m) (hm : m ≤ m') : FineM σ ds k m' := fun g hg => by
  obtain ⟨D, a, b, c, d, e⟩ := h g hg
  exact ⟨D, a, b, c, d, e.mono hm⟩
theorem TJ.ne (h : TJ w0 W σ R S L T bS gd gj Dj q) (ys : List Sec) (i : Nat) (lost : List Int) : 0 < (partsT S σ 1 0 ys (wantB (S.n - 2) i lost) S.n).length := by
  have hn := geo_bd h.set.ok.geo
  exact partsT_ne (x := S.n - 1) (by omega) (by unfold wantB; simp; omega) (alive_of_secE (h.wh.e (S.n - 1) (by omega))) S.n (by omega)
theorem TJ.sizes (h : TJ w0 W σ R S L T bS gd gj Dj q) {i : Nat} (hi : i + 2 < S.n) {d : Sec} (hd : d.size = 64) : ∀ x, x < S.n → ((newCols (S.n - 2) T i d).getD x ⟨#[]⟩).size = 64 := fun x hx => by
  have hn := geo_bd h.set.ok.geo
  exact (newCols_stripe h.wh.st (i := i) (by omega) hd).size x (by omega)
/-- a row's change was put -/
theorem TJ.put (h : TJ w0 W σ R S L T bS gd gj Dj q) (ht : TS S) {i : Nat} (hi : i + 2 < S.n) {d : Sec} (hd : d.size = 64) (hD : Did (putσ S 1 σ (partsT S σ 1 0 (newCols (S.n - 2) T i d) (wantB (S.n - 2) i []) S.n)) R W W') :
    ∃ σ' R', TJ w0 W' σ' R' S L (newCols (S.n - 2) T i d) bS gd gj Dj q := by
  have hn := geo_bd h.set.ok.geo
  obtain ⟨R', hd', hx'⟩ := hD
  have hfit := partsT_fits (S := S) (σ := σ) (row := 1) (ys := newCols (S.n - 2) T i d) (want := wantB (S.n - 2) i []) (j := S.n) (by omega) ht.k (Nat.le_refl _) (h.sizes hi hd)
  exact ⟨_, R', h.did hd' hx' (h.fm.putσ hfit ht.r) (h.wh.put h.set.ok.geo h.set.ok.dl ht.once h.fm (by omega) ht.r ht.k hi hd) ((putσ_other h.out _).trans h.dj)⟩
theorem TJ.apply (h : TJ w0 W σ R S L T bS gd gj Dj q) (ht : TS S) {i : Nat} (hi : i + 2 < S.n) {d : Sec} (hd : d.size = 64) (b c : Nat) (hb : Blk W b 44 #[.int .i64 (i : Int), .int .i64 0, .string d]) :
    Calls Tryz.prog 22 #[setV S L, .pointer none, .int .i64 ((1 : Nat) : Int), .slice (some ⟨b, 0, none⟩) 1 c] W fun e W' => e = .returned (.int .i64 0) ∧ ∃ σ' R', TJ w0 W' σ' R' S L (newCols (S.n - 2) T i d) bS gd gj Dj q := by
  refine (apply_nil W σ R S L h.set (h.fm.up_ (by omega)) 1 i 0 d ht.r hi ht.k hd b 0 c ⟨hb.cell 0, hb.cell 1, hb.cell 2⟩ T [] h.wh.st (by simp) (fun W' hb => h.filled ht hb) (h.ne _ _ _)).mono ?_
  rintro e W' ⟨rfl, hd'⟩
  exact ⟨rfl, h.put ht hi hd hd'⟩
theorem TJ.parts (h : TJ w0 W σ R S L T bS gd gj Dj q) (ht : TS S) {i : Nat} (hi : i + 2 < S.n) {d : Sec} (hd : d.size = 64) (b c : Nat) (hb : Blk W b 44 #[.int .i64 (i : Int), .int .i64 0, .string d]) :
    Calls Tryz.prog 24 #[setV S L, .int .i64 ((1 : Nat) : Int), .slice (some ⟨b, 0, none⟩) 1 c] W (PartsP W (partsT S σ 1 0 (newCols (S.n - 2) T i d) (wantB (S.n - 2) i []) S.n)) := by
  have hn := geo_bd h.set.ok.geo
  exact parts_one W σ R S L h.set 1 i 0 d ht.r hi ht.k hd b 0 c ⟨hb.cell 0, hb.cell 1, hb.cell 2⟩ T [] (h.wh.st.len2 (by omega)) (fun x hx => by have := stripe_sizes h.wh.st (by omega) x hx; omega) (by simp) (fun W' hb => h.filled ht hb)
theorem TJ.append (h : TJ w0 W σ R S L T bS gd gj Dj q) (hu : Dj.up) (hp : Dj.pl 1000) (hok : q.ok) (hle : 1 ≤ q.left) (hDs : 4 + 41 * q.slots ≤ Dj.n) {A : Option Addr} {m c : Nat} {ps : List Prt} (hps : PartsA W W.heap.size A m ps) (hm : mayB ((1 : Nat) : Int) ps = true) (hm2 : m ≤ maxLen) :
    Calls Tryz.prog 25 #[.pointer (some ⟨gj, 0, none⟩), .int .i64 ((1 : Nat) : Int), .slice A m c] W fun e W' => e = .returned (.tuple #[.int .u64 (q.next : Int), .int .i64 0]) ∧ ∃ R', TJ w0 W' (upd σ gd (Dj.app q 1 ps)) R' S L T bS gd gj (Dj.app q 1 ps) q.on := by
  refine (append_any W σ R h.set.dsk gj gd q h.rg h.nr hok hle Dj h.dj hu hp hDs 1 A m c ps hps hm hm2).mono ?_
  rintro e W' ⟨rfl, R', hd, hr, hc, hR⟩
  have hsame : ∀ g, some g ∈ S.ds → upd σ gd (Dj.app q 1 ps) g = σ g := fun g hg => upd_other _ _ (fun e => h.out (e ▸ hg))
  have hfm := FineM.congr hsame h.fm
  have hbne : bS ≠ gj := h.blk.ne h.rg (by decide)
  refine ⟨rfl, R', ⟨h.ext.adid hc hR h.jl, ⟨hd, h.set.ds.chg hc hR h.fA, h.set.bs.chg hc hR h.fB, h.set.ok.fine (hfm.fine (by omega))⟩, hfm, h.wh.congr hsame, hc.keeps h.blk (fun e => e.elim h.nb hbne), fun e => h.nb (hR bS h.blk.lt e), upd_same _ _ _, h.out, hr, fun e => h.nr (hR gj h.rg.lt e), h.jl, h.fA, h.fB⟩⟩
theorem TJ.replay (h : TJ w0 W σ R S L T bS gd gj Dj q) (ht : TS S) {i : Nat} (hi : i + 2 < S.n) {d : Sec} (hd : d.size = 64) {x : Hd} (hx1 : x.row = 1) (hx2 : x.ps = partsT S σ 1 0 (newCols (S.n - 2) T i d) (wantB (S.n - 2) i []) S.n) {A : Option Addr} {c : Nat} (hr : RecsR W R A 1 [x]) :
    Calls Tryz.prog 27 #[setV S L, .slice A 1 c] W fun e W' => e = .returned (.tuple #[.int .i64 ((1 : Nat) : Int), .int .i64 0]) ∧ ∃ σ' R', TJ w0 W' σ' R' S L (newCols (S.n - 2) T i d) bS gd gj Dj q := by
  have hn := geo_bd h.set.ok.geo
  have hfit := partsT_fits (S := S) (σ := σ) (row := 1) (ys := newCols (S.n - 2) T i d) (want := wantB (S.n - 2) i []) (j := S.n) (by omega) ht.k (Nat.le_refl _) (h.sizes hi hd)
  have hpl := partsT_len S σ 1 0 (newCols (S.n - 2) T i d) (wantB (S.n - 2) i []) S.n
  refine (replay_any W σ R S L h.set (h.fm.up_ (by omega)) A 1 c [x] hr (fun y hy => ?_) (by omega)).mono ?_
  · simp at hy
    subst hy
    rw [hx1, hx2]
    exact ⟨ht.r, by omega, hfit⟩
  · rintro e W' ⟨rfl, hD⟩
    refine ⟨rfl, h.put ht hi hd ?_⟩
    have e1 : replayσ S σ [x] = putσ S x.row σ x.ps := rfl
    rw [e1, hx1, hx2] at hD
    exact hD
theorem TJ.sector (h : TJ w0 W σ R S L T bS gd gj Dj q) (ht : TS S) {i : Nat} (hi : i + 2 < S.n) :
    Calls Tryz.prog 28 #[setV S L, .int .i64 ((1 : Nat) : Int), .int .i64 ((0 : Nat) : Int), .int .i64 (i : Int)] W fun e W' => e = .returned (.tuple #[.string (T.getD i ⟨#[]⟩), .int .i64 0]) ∧ Below W.heap.size W W' := by
  have h1 := rowSector_own W σ R S L h.set 1 0 i ht.r ht.k (by omega) (h.wh.e i (by omega))
  rwa [h.wh.s i (by omega)] at h1
theorem TJ.read (h : TJ w0 W σ R S L T bS gd gj Dj q) (ht : TS S) :
    Calls Tryz.prog 29 #[setV S L, .int .i64 ((1 : Nat) : Int), .int .i64 ((0 : Nat) : Int)] W (ReadP W T []) := by
  have hn := geo_bd h.set.ok.geo
  have h1 := read_row W σ R S L h.set (fun g hg => by obtain ⟨D, a, b, c, d⟩ := h.fm g hg; exact ⟨D, a, c⟩) 1 0 ht.r ht.k
  rwa [h.wh.secs (by omega), RS.lost_none h.wh.e] at h1
theorem TJ.good (h : TJ w0 W σ R S L T bS gd gj Dj q) : goodL T = true := by
  rw [h.wh.st.eq_full]
  exact good_full _
theorem TJ.open_ (h : TJ w0 W σ R S L T bS gd gj Dj q) (h0 : Dj.readE 3 = 0) (h1 : Dj.readS 3 = rmS 0) (hs : 1 ≤ slotsOf Dj.n) :
    Calls Tryz.prog 21 #[.pointer (some ⟨gd, 0, none⟩)] W (OpenP W gd ⟨slotsOf Dj.n, 0, 1⟩ (ropen Dj ⟨slotsOf Dj.n, 0, 1⟩ (slotsOf Dj.n))) :=
  open_ring W σ R h.set.dsk gd Dj h.dj 0 (by omega) h0 h1 hs
end
theorem fmtR_pl (D : Drv) : D.fmtR.pl 0 := by
  unfold Drv.fmtR
  rw [List.foldl_append]
  exact Drv.flOK_pl _
/-- the set of this statement -/
def SJ (ps : List (Option Nat)) : RS := ⟨5, 1, 3, ps, [3, 3, 3, 3, 3]⟩
theorem SJ_base {W : World} {ps : List (Option Nat)} {σ : Nat → Option Drv} {R : Nat → Prop} {B bD cD b4 : Nat} (hl : ps.length = 5) (hps : ∀ p ∈ ps, ∃ g, p = some g ∧ σ g = some (Drv.new 7)) (hnd : ps.Nodup) (hd : Dsk W σ R) (ho : OwnV 33 W B (.slice (some ⟨bD, 0, none⟩) 5 cD) (ps.map pv)) (hoR : ¬ R bD)
    (h4 : Blk W b4 3 #[.int .i64 3, .int .i64 3, .int .i64 3, .int .i64 3, .int .i64 3]) (n4 : ¬ R b4) :
    SetIn W σ R (SJ ps) ⟨some ⟨bD, 0, none⟩, cD, some ⟨b4, 0, none⟩, 5⟩ ∧ TS (SJ ps) ∧ FineM σ (SJ ps).ds (SJ ps).need 0 ∧ Whole (SJ ps) σ 1 0 (List.replicate 5 sec0) := by
  have hgeo : geoOK (SJ ps).n (SJ ps).k (SJ ps).r = true := (by decide : geoOK ((5 : Nat) : Int) ((1 : Nat) : Int) ((3 : Nat) : Int) = true)
  have hnew : ∀ g, some g ∈ ps → σ g = some (Drv.new 7) := fun g hg => by
    obtain ⟨g', e1, e2⟩ := hps _ hg
    cases e1
    exact e2
  obtain ⟨u1, u2⟩ := Drv.new_up 7 (by omega)
  have hneed : (SJ ps).need = 7 := rfl
  have hups : UpS (SJ ps) σ := by
    refine ⟨hgeo, hl, Once.of_nodup hnd, fun c hc => ?_, fun c hc => ?_⟩
    · obtain ⟨g, e1, e2⟩ := hps _ (getD_mem (l := ps) (j := c) (by rw [hl]; exact hc))
      exact ⟨g, _, e1, e2, u1, by rw [u2, hneed]; omega⟩
    · have hc5 : c < 5 := hc
      have : ∀ c, c < 5 → (3 : Int) ≤ ([3, 3, 3, 3, 3] : List Int).getD c 0 := by decide
      exact this c hc5
  refine ⟨⟨hd, ho.va (fun b hb => by simp [Value.ownBlock] at hb; subst hb; exact hoR), VA.blk (xs := [.int .i64 3, .int .i64 3, .int .i64 3, .int .i64 3, .int .i64 3]) h4 rfl n4, ⟨hgeo, hl, rfl, fun g hg => ⟨_, hnew g hg, by rw [u2, hneed]; omega⟩, fun b hb => ?_⟩⟩, ⟨Once.of_nodup hnd, (by decide : 1 < 3), (by decide : 0 < 1)⟩, fun g hg => ⟨_, hnew g hg, u1.1, u1.2.2, by rw [u2, hneed]; omega, Drv.new_pl 7⟩, ?_⟩
  · have hb' : b ∈ ([3, 3, 3, 3, 3] : List Int) := hb
    simp at hb'
    omega
  · refine whole_zero hups (by decide : 1 < 3) (by decide : 0 < 1) (fun g D hg hD j h1 h2 => ?_)
    rw [hnew g hg] at hD
    cases hD
    rw [hneed] at h2
    exact ⟨Drv.new_cur 7 (by omega) h2, by simp [Drv.new]⟩
/-- behind a format there is no record -/
theorem ropen_none {D : Drv} {q : Rng} (h : rrec D (rfirst q q.next) q.next = none) : ∀ f, ropen D q f = []
  | 0 => rfl
  | f + 1 => by
    unfold ropen
    rw [h]
theorem ropen_fmt {D : Drv} (hu : D.up) (hn : D.n = 168) : ropen D.fmtR ⟨4, 0, 1⟩ 4 = [] := by
  have hs : slotsOf D.n = 4 := by rw [hn]; rfl
  have h1 := (fmtR_slot hu (by omega) (i := 1) (by omega)).2
  rw [show (4 + 41 * ((1 : Nat) : Int)) = ((45 : Nat) : Int) from rfl] at h1
  exact ropen_none (q := ⟨4, 0, 1⟩) (show rrec D.fmtR 45 1 = none from rrec_zero h1) 4
theorem ropen_app {D : Drv} (hu : D.up) (hn : D.n = 168) (hz : ∀ i : Nat, i < 4 → D.readS (4 + 41 * (i : Int)) = sec0) {ps : List Prt} (hm : mayB ((1 : Nat) : Int) ps = true) : ropen (D.app ⟨4, 0, 1⟩ 1 ps) ⟨4, 0, 1⟩ 4 = [⟨1, 1, recSum ps, ps⟩] := by
  have hok : (⟨4, 0, 1⟩ : Rng).ok := ⟨by decide, by decide, by decide, by decide, by decide⟩
  have h1 := rrec_app (q := ⟨4, 0, 1⟩) hu hok (by show 4 + 41 * 4 ≤ D.n; omega) (row := 1) hm
  have h2 := (app_other (q := ⟨4, 0, 1⟩) hu hok (by show 4 + 41 * 4 ≤ D.n; omega) (row := 1) hm (i := 2) (by decide) (by decide)).2
  rw [hz 2 (by omega), show (4 + 41 * ((2 : Nat) : Int)) = ((86 : Nat) : Int) from rfl] at h2
  generalize D.app ⟨4, 0, 1⟩ 1 ps = E at *
  have h3 := ropen_none (q := Rng.on ⟨4, 0, 1⟩) (show rrec E 86 2 = none from rrec_zero h2) 3
  unfold ropen
  rw [h1]
  show _ :: ropen E (Rng.on ⟨4, 0, 1⟩) 3 = _
  rw [h3]
end Go.Proofs.YtmhmdoobadckkaaGreatDoor
