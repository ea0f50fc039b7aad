/- Own texts, joined: Apl, StpC, Rop0, RcPlain, RcvP, Rop, Rpl1, Blank, Top0, Top1, Hdr, Stat, Fld, Top2, NU. -/
import Derived.Test.YtmhmdoobadckkaaGreatDoorTj1
import Derived.Test.YtmhmdoobadckkaaGreatDoorTj3
import Derived.Test.YtmhmdoobadckkaaGreatDoorTj6
import Derived.Test.YtmhmdoobadckkaaGreatDoorTj7
import Derived.Test.YtmhmdoobadckkaaGreatDoorTj8
import Derived.Test.YtmhmdoobadckkaaGreatDoorTj9
import Derived.Test.YtmhmdoobadckkaaGreatDoorTj10
import Derived.Test.YtmhmdoobadckkaaGreatDoorTj11
/- stripe.Apply, where there is one change: without a ring. -/
namespace Go.Proofs.YtmhmdoobadckkaaGreatDoor
set_option maxRecDepth 20000
open Go.RowKit Go.OpenShut

set_option maxRecDepth 100000 in
set_option maxHeartbeats 4000000 in
theorem apply_nil (w : World) (σ : Nat → Option Drv) (R : Nat → Prop) (S : RS) (L : SL) (h : SetIn w σ R S L) (hf : FineM σ S.ds S.need 900) (row i off : Nat) (d : ByteArray) (hr : row < S.r) (hi : i + 2 < S.n) (ho : off < S.k) (hd : d.size = 64)
    (b o c : Nat) (hc : PAt w b o 0 ⟨(i : Int), (off : Int), d⟩) (T : List Sec) (lost : List Int) (hT : Stripe (S.n - 2) 64 T) (hlo : lost.length ≤ 10)
    (hfl : ∀ W, Below w.heap.size w W → Calls Tryz.prog 75 #[setV S L, .int .i64 (row : Int), .int .i64 (off : Int)] W (ReadP W T lost))
    (hne : 0 < (partsT S σ row off (newCols (S.n - 2) T i d) (wantB (S.n - 2) i lost) S.n).length) :
    Calls Tryz.prog 22 #[setV S L, .pointer none, .int .i64 (row : Int), .slice (some ⟨b, o, none⟩) 1 c] w (Wrote (putσ S row σ (partsT S σ row off (newCols (S.n - 2) T i d) (wantB (S.n - 2) i lost) S.n)) R w 0) := by
  obtain ⟨hn1, hn2, _⟩ := geo_bd h.ok.geo
  obtain ⟨q1, q2, q3⟩ := hc
  have hbl := cellLt q1
  have HPA := Lib.hid (fun W (hb : Below w.heap.size w W) => parts_one W σ R S L (h.below hb) row i off d hr hi ho hd b o c ⟨(hb.cell hbl).trans q1, (hb.cell hbl).trans q2, (hb.cell hbl).trans q3⟩ T lost (hT.len2 (by omega)) (fun x hx => by have := stripe_sizes hT (by omega) x hx; omega) hlo (fun V hV => hfl V (hb.trans (hV.mono hb.size))))
  have hst := newCols_stripe hT (i := i) (d := d) (by omega) hd
  have hfit := partsT_fits (S := S) (σ := σ) (row := row) (ys := newCols (S.n - 2) T i d) (want := wantB (S.n - 2) i lost) (j := S.n) (by omega) ho (Nat.le_refl _) (fun x hx => hst.size x (by omega))
  have hlen := partsT_len S σ row off (newCols (S.n - 2) T i d) (wantB (S.n - 2) i lost) S.n
  have HH := Lib.hid h
  have hal := (Below.refl w.heap.size w).alloc (Nat.le_refl _) (.cells #[.int .i64 (S.n : Int), .int .i64 (S.k : Int), .int .i64 (S.r : Int), .slice L.A S.n L.ca, .slice L.B S.n L.cb] 32)
  have hbx := Blk.new w 32 #[.int .i64 (S.n : Int), .int .i64 (S.k : Int), .int .i64 (S.r : Int), .slice L.A S.n L.ca, .slice L.B S.n L.cb]
  generalize partsT S σ row off (newCols (S.n - 2) T i d) (wantB (S.n - 2) i lost) S.n = ps at *
  have HPU := Lib.hid (fun W (hb : Below w.heap.size w W) A c (hps : PartsR W R A ps.length ps) => put_any W σ R S L (h.below hb) hf row hr A ps.length c ps hps (by omega) hfit)
  have hRl := fun b (hb : R b) => h.dsk.lt hb
  unfold setV setCs at *
  clear h hf hr hi ho hd hT hlo hfl q1 q2 q3 hst hfit
  go_enter Tryz.func22, Tryz.ntmps22
  go_wp2_with fail
  refine (HPA.out _ hal).mono ?_
  rintro e w1 ⟨v, rfl, hop, hb1⟩
  have hbx1 := (hbx.below hb1 hbx.lt).cell
  have hb2 := hal.trans (hb1.mono hal.size)
  obtain ⟨A, c1, rfl, hcl, hcm⟩ := hop.shape
  have HPR := Lib.hid (hop.partsR (R := R) (fun b hb => Nat.lt_of_lt_of_le (hRl b hb) hal.size))
  have HB2 := Lib.hid hb2
  have hne2 : ((ps.length : Int) == 0) = false := by rw [beq_eq_false_iff_ne]; omega
  clear hop hb1 hb2 hal hbx hRl
  go_wp2_with fail
  refine (HPU.out _ HB2.out A c1 HPR.out).mono ?_
  rintro e w3 ⟨rfl, hd3⟩
  have HD3 := Lib.hid hd3
  clear hd3
  go_wp2_with fail
  go_ret
  exact ⟨rfl, Did.below HB2.out HD3.out⟩
end Go.Proofs.YtmhmdoobadckkaaGreatDoor
/- What steps make of a drive's sectors: plain. -/
namespace Go.Proofs.YtmhmdoobadckkaaGreatDoor
set_option maxRecDepth 20000
open Go.RowKit Go.OpenShut

/-- the last write to a sector -/
def lastW : List Stp → Int → Option Sec
  | [], _ => none
  | .wr i s :: L, j => match lastW L j with
    | some x => some x
    | none => if j = i then some s else none
  | .fl :: L, j => lastW L j
theorem lastW_app (A B : List Stp) (j : Int) : lastW (A ++ B) j = match lastW B j with | some x => some x | none => lastW A j := by
  induction A with
  | nil => simp [lastW]; cases lastW B j <;> rfl
  | cons x A ih =>
    cases x with
    | wr i s =>
      simp only [List.cons_append, lastW, ih]
      cases lastW B j <;> rfl
    | fl => simp only [List.cons_append, lastW, ih]
theorem steps_cur : ∀ (L : List Stp) {D : Drv}, D.up → (∀ x ∈ L, x.ok D.n) → ∀ {j : Int}, 0 ≤ j → (L.foldl Stp.do_ D).up ∧ (L.foldl Stp.do_ D).n = D.n ∧ (L.foldl Stp.do_ D).cur j = (lastW L j).getD (D.cur j) ∧ (j ∈ (L.foldl Stp.do_ D).spoilt ↔ j ∈ D.spoilt ∧ lastW L j = none)
  | [], D, hu, _, j, _ => ⟨hu, rfl, rfl, by simp [lastW]⟩
  | .fl :: L, D, hu, hok, j, hj => by
    obtain ⟨f1, f2, f3, f4⟩ := hu.fl_read hj
    obtain ⟨a1, a2, a3, a4⟩ := steps_cur L (D := D.flOK) f1 (fun x hx => by rw [f2]; exact hok x (by simp [hx])) hj
    exact ⟨a1, a2.trans f2, by rw [f3] at a3; exact a3, by rw [f4] at a4; exact a4⟩
  | .wr i s :: L, D, hu, hok, j, hj => by
    obtain ⟨h0, h1, h2⟩ : 0 ≤ i ∧ i < (D.n : Int) ∧ s.size = 64 := hok (.wr i s) (by simp)
    obtain ⟨w1, w2⟩ := hu.wrOK h0 h1 h2
    obtain ⟨a1, a2, a3, a4⟩ := steps_cur L (D := D.wrOK i s) w1 (fun x hx => by rw [w2]; exact hok x (by simp [hx])) hj
    refine ⟨a1, a2.trans w2, ?_, ?_⟩
    · refine a3.trans ?_
      rw [Drv.cur_wrOK]
      simp only [lastW]
      cases lastW L j with
      | some x => rfl
      | none => by_cases e : j = i <;> simp [e]
    · refine a4.trans ?_
      have e1 : j ∈ (D.wrOK i s).spoilt ↔ j ∈ D.spoilt.erase i := Iff.rfl
      rw [e1, hu.1.spN.mem_erase_iff]
      simp only [lastW]
      cases lastW L j with
      | some x => simp
      | none => by_cases e : j = i <;> simp [e]
end Go.Proofs.YtmhmdoobadckkaaGreatDoor
/- ring.Open: what it finds, plain. -/
namespace Go.Proofs.YtmhmdoobadckkaaGreatDoor
set_option maxRecDepth 20000
open Go.RowKit Go.OpenShut

/-- the records that are found, one behind the other -/
def ropen (D : Drv) : Rng → Nat → List Hd
  | _, 0 => []
  | q, f + 1 => match rrec D (rfirst q q.next) q.next with
    | none => []
    | some x => x :: ropen D q.on f
def Rng.plus (q : Rng) (l : Nat) : Rng := { q with next := q.next + l }
theorem Rng.plus_on (q : Rng) (l : Nat) : (q.plus l).on = q.plus (l + 1) := by unfold Rng.plus Rng.on; rw [Nat.add_assoc]
theorem Rng.on_plus (q : Rng) (l : Nat) : q.on.plus l = q.plus (l + 1) := by unfold Rng.plus Rng.on; congr 1; show q.next + 1 + l = q.next + (l + 1); omega
theorem ropen_len (D : Drv) : ∀ (f : Nat) (q : Rng), (ropen D q f).length ≤ f
  | 0, _ => Nat.le_refl _
  | f + 1, q => by
    unfold ropen
    cases rrec D (rfirst q q.next) q.next with
    | none => exact Nat.zero_le _
    | some x => exact Nat.succ_le_succ (ropen_len D f q.on)
/-- what a mark says -/
theorem rm_open (t : Nat) : openB (rmS t).data.toList = true := openB_seal _ 60 (by rw [sec_len, rm_len]; omega)
theorem rm_text (t : Nat) : openS (rmS t) = ⟨(padL (mgM ++ e8 t).data.toList 60).toArray⟩ := openS_seal _ 60 (by rw [sec_len, rm_len]; omega)
theorem e8_list (t : Nat) : (e8 t).data.toList = encL [(t : Int)] [8] := by unfold e8; simp
theorem rm_extract (t : Nat) : (openS (rmS t)).extract 4 12 = e8 t := by
  rw [rm_text]
  have h1 : (mgM ++ e8 t).data.toList = mgM.data.toList ++ (e8 t).data.toList := by simp
  have h2 : (e8 t).data.toList.length = 8 := by rw [sec_len, e8_size]
  apply ByteArray.ext
  apply Array.toList_inj.1
  have e : ((⟨(padL (mgM ++ e8 t).data.toList 60).toArray⟩ : ByteArray).extract 4 12).data.toList = ((padL (mgM ++ e8 t).data.toList 60).drop 4).take 8 := by
    rw [ByteArray.data_extract, Array.toList_extract]
  rw [e, h1]
  unfold padL
  rw [List.append_assoc, List.drop_append_of_le_length (by decide)]
  show (([] ++ _) : List UInt8).take 8 = _
  rw [List.nil_append, List.take_append_of_le_length (by omega), List.take_of_length_le (by omega)]
theorem rm_dec (t : Nat) (ht : t < 18446744073709551616) : decE [8] (e8 t) = 0 ∧ decX [8] (e8 t) = [(t : Int)] := by
  have hs := e8_size t
  obtain ⟨h1, h2⟩ := dec_ok (ws := [8]) (by decide) (s := e8 t) (by rw [hs]; rfl)
  refine ⟨h1, ?_⟩
  rw [h2, e8_list, encL_eq [(t : Int)] [8] rfl, show [(t : Int)].map Int.toNat = [t] from by simp, dec_enc [t] [8] rfl (by
    intro i hi
    obtain rfl : i = 0 := by simp at hi; omega
    simpa using ht)]
  rfl
end Go.Proofs.YtmhmdoobadckkaaGreatDoor
/- Plain laws of records: a head that was made is read back; a byte changed. -/
namespace Go.Proofs.YtmhmdoobadckkaaGreatDoor
set_option maxRecDepth 20000
open Go.RowKit Go.OpenShut

def clr (p : Prt) : Prt := ⟨p.col, p.off, ⟨#[]⟩⟩
theorem placedF_clr : ∀ (ps : List Prt) (l : List (Int × Int)), placedF l (ps.map clr) = placedF l ps
  | [], _ => rfl
  | p :: ps, l => by
    rw [List.map_cons, placedF, placedF, placedF_clr ps]
    rfl
theorem placedB_clr (row : Int) (ps : List Prt) : placedB row (ps.map clr) = placedB row ps := by
  unfold placedB
  rw [List.length_map, placedF_clr]
theorem headB_clr (seq row : Int) (sum : Nat) (ps : List Prt) : headB seq row sum (ps.map clr) = headB seq row sum ps := by
  unfold headB headL
  rw [List.length_map, List.map_map]
  rfl
theorem partB_pByte (p : Prt) (h : 0 ≤ p.col ∧ p.col < 10 ∧ 0 ≤ p.off ∧ p.off < 4) : partB (pByte p) = clr p := by
  obtain ⟨h1, h2, h3, h4⟩ := h
  unfold partB pByte clr
  rw [UInt8.toNat_ofNat']
  congr 1 <;> omega
theorem mapPart (ps : List Prt) (h : ∀ p ∈ ps, 0 ≤ p.col ∧ p.col < 10 ∧ 0 ≤ p.off ∧ p.off < 4) : (ps.map pByte).map partB = ps.map clr := by
  rw [List.map_map]
  exact List.map_congr_left fun p hp => partB_pByte p (h p hp)
section
variable {seq row sum : Nat} {ps : List Prt}
theorem list_mk (l : List UInt8) : (⟨l.toArray⟩ : ByteArray).data.toList = l := by simp
theorem headB_take60 (h1 : seq < 18446744073709551616) (h2 : row < 256) (h3 : ps.length ≤ 40) (h4 : sum < 4294967296) : (headB seq row sum ps).take 60 = padL (headL seq row sum ps) 60 := by
  unfold headB sealL
  rw [List.take_left' (padL_length _ _ (by rw [headL_len seq row sum ps (by omega) (by omega) h3 h4]; omega))]
theorem headNs_of (h1 : seq < 18446744073709551616) (h2 : row < 256) (h3 : ps.length ≤ 40) (h4 : sum < 4294967296) : headNs ⟨(headB seq row sum ps).toArray⟩ = [seq, row, ps.length, sum] := by
  unfold headNs
  rw [list_mk]
  have e1 : (headB seq row sum ps).take 19 = headF seq row ps.length sum := by
    have e : (headB seq row sum ps).take 19 = ((headB seq row sum ps).take 60).take 19 := by rw [List.take_take]; rfl
    rw [e, headB_take60 h1 h2 h3 h4]
    unfold padL headL
    rw [List.append_assoc, List.take_left' (headF_len _ _ _ _ (by omega) (by omega) h3 h4)]
  rw [e1]
  have e2 : (headF seq row ps.length sum).drop 4 = encL [(seq : Int), row, (ps.length : Int), (sum : Int)] [8, 2, 1, 4] := rfl
  rw [e2, encL_eq [(seq : Int), row, (ps.length : Int), (sum : Int)] [8, 2, 1, 4] rfl]
  refine dec_enc [seq, row, ps.length, sum] ws4 rfl (fun i hi => ?_)
  have hi' : i < 4 := hi
  match i, hi' with
  | 0, _ => exact h1
  | 1, _ => show row < 65536; omega
  | 2, _ => show ps.length < 256; omega
  | 3, _ => exact h4
theorem headPs_of (h1 : seq < 18446744073709551616) (h2 : row < 256) (h3 : ps.length ≤ 40) (h4 : sum < 4294967296) (hp : ∀ p ∈ ps, 0 ≤ p.col ∧ p.col < 10 ∧ 0 ≤ p.off ∧ p.off < 4) : headPs ⟨(headB seq row sum ps).toArray⟩ = ps.map clr := by
  unfold headPs
  rw [headNs_of h1 h2 h3 h4, list_mk, headB_take60 h1 h2 h3 h4]
  show (((padL (headL seq row sum ps) 60).drop 19).take ps.length).map partB = _
  have e : (padL (headL seq row sum ps) 60).drop 19 = ps.map pByte ++ List.replicate (60 - (headL seq row sum ps).length) 0 := by
    unfold padL headL
    rw [List.append_assoc, List.drop_left' (headF_len _ _ _ _ (by omega) (by omega) h3 h4)]
  rw [e, List.take_left' (by simp), mapPart ps hp]
theorem head_of (hp : placedB row ps = true) (h1 : seq < 18446744073709551616) (h4 : sum < 4294967296) :
    headE ⟨(headB seq row sum ps).toArray⟩ = 0 ∧ headR ⟨(headB seq row sum ps).toArray⟩ = ⟨seq, row, sum, ps.map clr⟩ := by
  obtain ⟨r0, r1, n1, n40, hpf⟩ := placed_row hp
  have hall := placedF_all ps [] hpf
  have hN := headNs_of (ps := ps) h1 (by omega : row < 256) n40 h4
  have hP := headPs_of (ps := ps) h1 (by omega : row < 256) n40 h4 hall
  have hL := headB_len (seq : Int) (row : Int) sum ps (by omega) (by omega) n40 h4
  have hE : headE ⟨(headB seq row sum ps).toArray⟩ = 0 := by
    unfold headE
    rw [if_pos (by rw [size_mk, hL])]
    have hO : openB (⟨(headB seq row sum ps).toArray⟩ : ByteArray).data.toList = true := by
      rw [list_mk]
      exact openB_seal _ _ (by rw [headL_len seq row sum ps (by omega) (by omega) n40 h4]; omega)
    rw [hO, if_pos rfl]
    have hM : headM ⟨(headB seq row sum ps).toArray⟩ = true := by
      unfold headM
      rw [list_mk, headB_take]
      rfl
    rw [hM, if_pos rfl]
    have hK : headOK ⟨(headB seq row sum ps).toArray⟩ = true := by
      unfold headOK
      rw [hN, hP, list_mk]
      show (placedB (row : Int) (ps.map clr) && decide (headB (seq : Int) (row : Int) sum (ps.map clr) = headB seq row sum ps)) = true
      rw [placedB_clr, headB_clr, hp, decide_eq_true rfl]
      rfl
    rw [hK, if_pos rfl]
  refine ⟨hE, ?_⟩
  unfold headR
  rw [if_pos hE, hN, hP]
  rfl
end
theorem zipD_clr (ps : List Prt) (xs : List ByteArray) : zipD (ps.map clr) xs = zipD ps xs := by
  unfold zipD setD
  rw [List.length_map]
  refine List.map_congr_left fun j hj => ?_
  have hj' : j < ps.length := List.mem_range.1 hj
  rw [if_pos hj', if_pos hj']
  simp [List.getD, hj', clr]
theorem zipD_self (ps : List Prt) : zipD ps (loadS ps) = ps := by
  apply List.ext_getElem (zipD_len _ _)
  intro i h1 h2
  simp only [zipD, setD, List.getElem_map, List.getElem_range]
  rw [if_pos h2]
  simp [List.getD, h2, loadS]
section
variable {seq row sum : Nat} {ps : List Prt}
theorem dec_of {xs : List ByteArray} (hp : placedB row ps = true) (h1 : seq < 18446744073709551616) (h4 : sum < 4294967296) :
    decE12 ⟨(headB seq row sum ps).toArray⟩ xs = (if xs.length ≠ ps.length then 31 else if loadedB (zipD ps xs) then if recSum (zipD ps xs) = sum then 0 else 80 else 31) ∧
    (decE12 ⟨(headB seq row sum ps).toArray⟩ xs = 0 → decR12 ⟨(headB seq row sum ps).toArray⟩ xs = ⟨seq, row, sum, zipD ps xs⟩) := by
  obtain ⟨hE, hR⟩ := head_of hp h1 h4
  constructor
  · unfold decE12
    rw [if_neg (by rw [hE]; simp), hR]
    dsimp only
    rw [List.length_map, zipD_clr]
  · intro h
    unfold decR12
    rw [if_pos h, hR]
    dsimp only
    rw [zipD_clr]
theorem dec_self (hm : mayB row ps = true) (h1 : seq < 18446744073709551616) :
    decE12 ⟨(headB seq row (recSum ps) ps).toArray⟩ (loadS ps) = 0 ∧ decR12 ⟨(headB seq row (recSum ps) ps).toArray⟩ (loadS ps) = ⟨seq, row, recSum ps, ps⟩ := by
  unfold mayB at hm
  rw [Bool.and_eq_true] at hm
  obtain ⟨hp, hl⟩ := hm
  obtain ⟨a, b⟩ := dec_of (xs := loadS ps) hp h1 (cmore_lt 0 (flatL ps))
  rw [zipD_self] at a b
  have e : decE12 ⟨(headB seq row (cmore 0 (flatL ps)) ps).toArray⟩ (loadS ps) = 0 := by
    rw [a, if_neg (by rw [loadS_len]; simp), if_pos hl]; exact if_pos rfl
  exact ⟨e, b e⟩
theorem dec_short {xs : List ByteArray} (hp : placedB row ps = true) (h1 : seq < 18446744073709551616) (h4 : sum < 4294967296) (h : xs.length ≠ ps.length) : decE12 ⟨(headB seq row sum ps).toArray⟩ xs = 31 := by
  rw [(dec_of hp h1 h4).1, if_pos h]
end
end Go.Proofs.YtmhmdoobadckkaaGreatDoor
/- What a ring holds behind its format, and behind a record: plain. -/
namespace Go.Proofs.YtmhmdoobadckkaaGreatDoor
set_option maxRecDepth 20000
open Go.RowKit Go.OpenShut

theorem lastW_load (p : Nat) (xs : List Sec) : ∀ (k : Nat) (j : Int), lastW (loadL p xs k) j = if (p : Int) + 1 ≤ j ∧ j < (p : Int) + 1 + k then some (xs.getD (j - p - 1).toNat ⟨#[]⟩) else none
  | 0, j => by
    rw [if_neg (by omega)]
    rfl
  | k + 1, j => by
    rw [loadL_succ, lastW_app, lastW_load p xs k j]
    simp only [lastW]
    by_cases e : j = ((p + 1 + k : Nat) : Int)
    · rw [if_pos e]
      show some _ = _
      rw [if_pos (by omega)]
      have : (j - p - 1).toNat = k := by omega
      rw [this]
    · rw [if_neg e]
      by_cases h : (p : Int) + 1 ≤ j ∧ j < (p : Int) + 1 + k
      · rw [if_pos h, if_pos (by omega)]
      · rw [if_neg h, if_neg (by omega)]
theorem lastW_appL (p n row : Nat) (ps : List Prt) (j : Int) : lastW (appL p n row ps) j = if j = (p : Int) then some (recS n row ps) else if (p : Int) + 1 ≤ j ∧ j < (p : Int) + 1 + ps.length then some ((loadS ps).getD (j - p - 1).toNat ⟨#[]⟩) else none := by
  unfold appL
  rw [lastW_app, lastW_load]
  simp only [lastW]
  by_cases e : j = (p : Int)
  · rw [if_pos e, if_pos e]
  · rw [if_neg e, if_neg e]
theorem lastW_format : ∀ (n : Nat) (j : Int), lastW (formatL n) j = if ∃ i : Nat, i < n ∧ j = 4 + 41 * (i : Int) then some sec0 else none
  | 0, j => by
    rw [if_neg (by rintro ⟨i, h, _⟩; omega)]
    rfl
  | n + 1, j => by
    rw [formatL_succ, lastW_app, lastW_format n j]
    simp only [lastW]
    by_cases e : j = 4 + 41 * (n : Int)
    · rw [if_pos e]
      show some _ = _
      rw [if_pos ⟨n, by omega, e⟩]
    · rw [if_neg e]
      by_cases h : ∃ i : Nat, i < n ∧ j = 4 + 41 * (i : Int)
      · rw [if_pos h, if_pos (by obtain ⟨i, h1, h2⟩ := h; exact ⟨i, by omega, h2⟩)]
      · rw [if_neg h, if_neg (by
          rintro ⟨i, h1, h2⟩
          by_cases e2 : i = n
          · subst e2; exact e h2
          · exact h ⟨i, by omega, h2⟩)]
theorem Drv.up.read_of {D : Drv} (h : D.up) {j : Int} (h0 : 0 ≤ j) (h1 : j < D.n) (hs : j ∉ D.spoilt) : D.readE j = 0 ∧ D.readS j = D.cur j := by
  have e := h.readE h0 h1
  rw [if_neg hs] at e
  refine ⟨e, ?_⟩
  unfold Drv.readS
  rw [if_pos e]
theorem read_step {L : List Stp} {D : Drv} (hu : D.up) (hok : ∀ x ∈ L, x.ok D.n) {j : Int} (h0 : 0 ≤ j) (h1 : j < D.n) {s : Sec} (hl : lastW L j = some s) : (L.foldl Stp.do_ D).readE j = 0 ∧ (L.foldl Stp.do_ D).readS j = s := by
  obtain ⟨a1, a2, a3, a4⟩ := steps_cur L hu hok h0
  obtain ⟨b1, b2⟩ := a1.read_of h0 (by rw [a2]; exact h1) (fun e => by rw [(a4.1 e).2] at hl; cases hl)
  rw [a3, hl] at b2
  exact ⟨b1, b2⟩
theorem read_keep {L : List Stp} {D : Drv} (hu : D.up) (hok : ∀ x ∈ L, x.ok D.n) {j : Int} (h0 : 0 ≤ j) (h1 : j < D.n) (hl : lastW L j = none) : (L.foldl Stp.do_ D).readE j = D.readE j ∧ (L.foldl Stp.do_ D).readS j = D.readS j := by
  obtain ⟨a1, a2, a3, a4⟩ := steps_cur L hu hok h0
  rw [hl] at a3
  have e1 := a1.readE h0 (by rw [a2]; exact h1)
  have e2 := hu.readE h0 h1
  have e3 : j ∈ (L.foldl Stp.do_ D).spoilt ↔ j ∈ D.spoilt := a4.trans ⟨fun h => h.1, fun h => ⟨h, hl⟩⟩
  simp only [e3] at e1
  refine ⟨e1.trans e2.symm, ?_⟩
  unfold Drv.readS
  rw [e1, e2, a3]
  rfl
theorem head_sec0 : headE sec0 ≠ 0 := by decide +kernel
theorem rrec_zero {D : Drv} {p n : Nat} (h : D.readS (p : Int) = sec0) : rrec D p n = none := by
  unfold rrec
  split
  · rfl
  · rw [h, if_pos head_sec0]
theorem fmtR_up {D : Drv} (hu : D.up) (hs : 1 ≤ slotsOf D.n) : D.fmtR.up ∧ D.fmtR.n = D.n := by
  obtain ⟨a1, a2, _⟩ := steps_cur _ hu (fmt_ok hs) (j := 0) (by omega)
  exact ⟨a1, a2⟩
theorem slots_room {n i : Nat} (h : i < slotsOf n) : 4 + 41 * i + 41 ≤ n := by
  unfold slotsOf at h
  have := Nat.div_mul_le_self (n - 4) 41
  omega
theorem fmtR_mark {D : Drv} (hu : D.up) (hs : 1 ≤ slotsOf D.n) : D.fmtR.readE 3 = 0 ∧ D.fmtR.readS 3 = rmS 0 := by
  have := slots_room (n := D.n) (i := 0) (by omega)
  refine read_step hu (fmt_ok hs) (by omega) (by omega) ?_
  rw [lastW_app]
  simp [lastW]
theorem fmtR_slot {D : Drv} (hu : D.up) (hs : 1 ≤ slotsOf D.n) {i : Nat} (hi : i < slotsOf D.n) : D.fmtR.readE (4 + 41 * (i : Int)) = 0 ∧ D.fmtR.readS (4 + 41 * (i : Int)) = sec0 := by
  have := slots_room hi
  refine read_step hu (fmt_ok hs) (by omega) (by omega) ?_
  rw [lastW_app, lastW_format, if_pos ⟨i, hi, rfl⟩]
  have : ¬ (4 + 41 * (i : Int) = 3) := by omega
  simp [lastW, this]
/-- the record that was appended is found -/
theorem rrec_app {D : Drv} {q : Rng} (hu : D.up) (hok : q.ok) (hDs : 4 + 41 * q.slots ≤ D.n) {row : Nat} {ps : List Prt} (hm : mayB (row : Int) ps = true) :
    rrec (D.app q row ps) (rfirst q q.next) q.next = some ⟨q.next, row, recSum ps, ps⟩ := by
  have hap := app_ok (D := D) (q := q) hok hDs hm
  have hfl := rfirst_le hok q.next
  have hnx := hok.n
  have hm2 := hm
  unfold mayB at hm2
  rw [Bool.and_eq_true] at hm2
  obtain ⟨hp, _⟩ := hm2
  obtain ⟨_, _, hl1, hl40, _⟩ := placed_row hp
  obtain ⟨h1, h2⟩ := read_step hu hap (j := (rfirst q q.next : Int)) (by omega) (by omega) (s := recS q.next row ps) (by rw [lastW_appL, if_pos rfl])
  have hld : ∀ i, i < ps.length → (D.app q row ps).readE ((rfirst q q.next + 1 + i : Nat) : Int) = 0 ∧ (D.app q row ps).readS ((rfirst q q.next + 1 + i : Nat) : Int) = (loadS ps).getD i ⟨#[]⟩ := fun i hi =>
    read_step hu hap (by omega) (by omega) (by
      rw [lastW_appL, if_neg (by omega), if_pos (by omega)]
      congr 2
      omega)
  obtain ⟨e1, e2⟩ := head_of (seq := q.next) hp (by omega) (cmore_lt 0 (flatL ps))
  obtain ⟨d1, d2⟩ := dec_self (seq := q.next) hm (by omega)
  have hrg : ∀ k, k ≤ ps.length → rgood (D.app q row ps) (rfirst q q.next) k = true := by
    intro k
    induction k with
    | zero => intro _; rfl
    | succ k ih =>
      intro hk
      unfold rgood
      rw [ih (by omega), (hld k (by omega)).1]
      rfl
  have hrl : rload (D.app q row ps) (rfirst q q.next) ps.length = loadS ps := by
    apply List.ext_getElem (by rw [rload_len, loadS_len])
    intro i a b
    have hi : i < ps.length := by rwa [rload_len] at a
    have h9 := (hld i hi).2
    have e9 : (rload (D.app q row ps) (rfirst q q.next) ps.length)[i] = (D.app q row ps).readS ((rfirst q q.next + 1 + i : Nat) : Int) := by simp [rload]
    rw [e9, h9]
    simp [List.getD, b]
  have hS : (D.app q row ps).readS (rfirst q q.next : Int) = ⟨(headB (q.next : Int) (row : Int) (recSum ps) ps).toArray⟩ := h2
  have e1' : headE ⟨(headB (q.next : Int) (row : Int) (recSum ps) ps).toArray⟩ = 0 := e1
  have e2' : headR ⟨(headB (q.next : Int) (row : Int) (recSum ps) ps).toArray⟩ = ⟨q.next, row, recSum ps, ps.map clr⟩ := e2
  unfold rrec
  have h1' : (D.app q row ps).readE (rfirst q q.next : Int) = 0 := h1
  rw [if_neg (by rw [h1']; simp), hS, e1', if_neg (by simp), e2']
  dsimp only
  rw [if_neg (by simp), List.length_map, hrg _ (Nat.le_refl _), if_neg (by simp), hrl, d1, if_pos rfl, d2]
/-- another slot's head is as it was -/
theorem app_other {D : Drv} {q : Rng} (hu : D.up) (hok : q.ok) (hDs : 4 + 41 * q.slots ≤ D.n) {row : Nat} {ps : List Prt} (hm : mayB (row : Int) ps = true) {i : Nat} (hi : i < q.slots) (hne : i ≠ q.next % q.slots) :
    (D.app q row ps).readE (4 + 41 * (i : Int)) = D.readE (4 + 41 * (i : Int)) ∧ (D.app q row ps).readS (4 + 41 * (i : Int)) = D.readS (4 + 41 * (i : Int)) := by
  have hap := app_ok (D := D) (q := q) hok hDs hm
  unfold mayB at hm
  rw [Bool.and_eq_true] at hm
  obtain ⟨_, _, hl1, hl40, _⟩ := placed_row hm.1
  refine read_keep hu hap (by omega) (by omega) ?_
  rw [lastW_appL]
  unfold rfirst
  rw [if_neg (by omega), if_neg (by omega)]
theorem app_low {D : Drv} {q : Rng} (hu : D.up) (hok : q.ok) (hDs : 4 + 41 * q.slots ≤ D.n) {row : Nat} {ps : List Prt} (hm : mayB (row : Int) ps = true) {j : Int} (h0 : 0 ≤ j) (h4 : j < 4) :
    (D.app q row ps).readE j = D.readE j ∧ (D.app q row ps).readS j = D.readS j := by
  have hap := app_ok (D := D) (q := q) hok hDs hm
  refine read_keep hu hap h0 (by omega) ?_
  rw [lastW_appL]
  unfold rfirst
  rw [if_neg (by omega), if_neg (by omega)]
theorem app_up {D : Drv} {q : Rng} (hu : D.up) (hok : q.ok) (hDs : 4 + 41 * q.slots ≤ D.n) {row : Nat} {ps : List Prt} (hm : mayB (row : Int) ps = true) : (D.app q row ps).up ∧ (D.app q row ps).n = D.n := by
  obtain ⟨a1, a2, _⟩ := steps_cur _ hu (app_ok (D := D) (q := q) hok hDs hm) (j := 0) (by omega)
  exact ⟨a1, a2⟩
end Go.Proofs.YtmhmdoobadckkaaGreatDoor
/- ring.Open: the walk. -/
namespace Go.Proofs.YtmhmdoobadckkaaGreatDoor
set_option maxRecDepth 20000
open Go.RowKit Go.OpenShut

def OpenP (w : World) (j : Nat) (q : Rng) (L : List Hd) (e : Ending) (w' : World) : Prop := ∃ g v, e = .returned (.tuple #[.pointer (some ⟨g, 0, none⟩), v, .int .i64 0]) ∧ RngAt w' g j (q.plus L.length) ∧ OwnK w' w.heap.size v L ∧ w.heap.size ≤ g ∧ Below w.heap.size w w'
set_option maxRecDepth 100000 in
set_option maxHeartbeats 4000000 in
theorem open_ring (w : World) (σ : Nat → Option Drv) (R : Nat → Prop) (h : Dsk w σ R) (j : Nat) (D : Drv) (hD : σ j = some D) (t : Nat) (ht : t < 4611686018427387904) (h0 : D.readE 3 = 0) (h1 : D.readS 3 = rmS t) (hs : 1 ≤ slotsOf D.n) :
    Calls Tryz.prog 21 #[.pointer (some ⟨j, 0, none⟩)] w (OpenP w j ⟨slotsOf D.n, t, t + 1⟩ (ropen D ⟨slotsOf D.n, t, t + 1⟩ (slotsOf D.n))) := by
  have hn := (h.wf hD).le
  have hn : D.n ≤ 4096 := hn
  have HRD := Lib.hid (h.read hD 3)
  rw [h0, h1] at HRD
  have HSE := Lib.hid (fun W (hb : Below w.heap.size w W) => (h.below hb).sectors hD)
  have HSL := Lib.hid (fun W => slots_any W D.n hn)
  have HOP := Lib.hid (fun W => open_any W (rmS t) (by rw [rmS_size]; decide))
  rw [rm_open] at HOP
  have hx := rm_extract t
  have hos : (openS (rmS t)).size = 60 := by
    rw [rm_text]
    show Array.size _ = 60
    rw [List.size_toArray, padL_length _ _ (by rw [sec_len, rm_len]; omega)]
  obtain ⟨hd1, hd2⟩ := rm_dec t (by omega)
  have HDE := Lib.hid (fun (W : World) (b : Nat) (k : Blk W b 3 #[.int .i64 8]) => decode_any W (e8 t) (some ⟨b, 0, none⟩) 1 1 [8] (IntsA.blk (xs := [8]) k rfl k.lt) (by omega))
  rw [hd1, hd2] at HDE
  have HRM := Lib.hid (fun W => rmark_any W t (by omega))
  have hsl : slotsOf D.n ≤ 99 := by unfold slotsOf; omega
  have HRR := Lib.hid (fun W (hb : Below w.heap.size w W) g q (hq : RngAt W g j q) (hok : q.ok) => rrec_any W σ R (h.below hb) g j q hq hok D hD q.next (by have := hok.n; omega))
  obtain ⟨n, hnn⟩ : ∃ n, slotsOf D.n = n := ⟨_, rfl⟩
  rw [hnn] at HSL hs hsl ⊢
  have HLE := Lib.hid (ropen_len D n ⟨n, t, t + 1⟩)
  have hsz : ((n : Int) == 0) = false := by simp; omega
  have ht2 : ((t : Int) + 1) % 18446744073709551616 = (t : Int) + 1 := by omega
  generalize rmS t = b at *
  generalize openS b = T at *
  generalize e8 t = eb at *
  have hx2 : T.extract 4 12 = eb := hx
  clear h hD h0 h1 hd1 hd2 hx hnn hn
  go_enter Tryz.func21, Tryz.ntmps21
  go_wp2_with fail
  refine HRD.out.mono ?_
  rintro e w1 ⟨rfl, rfl⟩
  go_wp2_with fail
  refine (HSE.out _ (Below.refl _ _)).mono ?_
  rintro e w1 ⟨rfl, rfl⟩
  go_wp2_with fail
  refine (HSL.out _).mono ?_
  rintro e w1 ⟨rfl, rfl⟩
  go_wp2_with fail
  have hg0 := Blk.new w 122 #[.pointer (some ⟨j, 0, none⟩), .int .i64 (n : Int), .int .u64 0, .int .u64 0]
  have hb0 := (Below.refl w.heap.size w).alloc (Nat.le_refl _) (.cells #[.pointer (some ⟨j, 0, none⟩), .int .i64 (n : Int), .int .u64 0, .int .u64 0] 122)
  generalize w.alloc (.cells #[.pointer (some ⟨j, 0, none⟩), .int .i64 (n : Int), .int .u64 0, .int .u64 0] 122) = W1 at *
  refine (HOP.out _).mono ?_
  rintro e w2 ⟨rfl, hb1⟩
  have hg1 := hg0.below hb1 hg0.lt
  have hb2 := hb0.trans (hb1.mono hb0.size)
  have hc1 := hg1.cell
  clear hg0 hb0 hb1
  go_wp2_with fail
  have hs2 := hb2.size
  refine (HDE.out _ w2.heap.size (Blk.newAt rfl)).mono ?_
  rintro e w3 ⟨A, n1, c1, rfl, hI, hb3⟩
  obtain rfl : n1 = 1 := hI.1.symm
  obtain ⟨bl, ol, rfl, hbl, hcl⟩ := hI.2 (by omega)
  have hl0 : w3.cell? ⟨bl, ol, none⟩ = some (.int .u64 (t : Int)) := hcl 0 (by omega)
  have hal := (Below.refl w2.heap.size w2).alloc (Nat.le_refl _) (.cells #[.int .i64 8] 3)
  have hb4 : Below w.heap.size w w3 := hb2.trans ((hal.trans (hb3.mono hal.size)).mono hs2)
  have hg3 := (hg1.alloc (.cells #[.int .i64 8] 3)).below hb3 (hg1.alloc (.cells #[.int .i64 8] 3)).lt
  clear hc1 hg1 hb2 hb3 hI hcl
  go_wp2_with fail
  refine (HRM.out _).mono ?_
  rintro e w4 ⟨rfl, hb5⟩
  have hl4 : w4.cell? ⟨bl, ol, none⟩ = some (.int .u64 (t : Int)) := (hb5.cell (p := ⟨bl, ol, none⟩) hbl).trans hl0
  have hg4 := hg3.below hb5 hg3.lt
  have hb6 := hb4.trans (hb5.mono hb4.size)
  have hl5 : (w4.drew.setCell ⟨w.heap.size, 2, none⟩ (.int .u64 (t : Int))).cell? ⟨bl, ol, none⟩ = some (.int .u64 (t : Int)) := by
    by_cases e : (⟨w.heap.size, 2, none⟩ : Addr) = ⟨bl, ol, none⟩
    · rw [← e]
      exact (hg4.drew.set_ 2 (.int .u64 (t : Int))).cell 2
    · rw [World.cell?_setCell_other _ _ _ _ e]
      exact hl4
  clear hg3 hb4 hb5 hl0 hbl hal
  go_wp2_with fail
  have hnf : w4.drew.cell? ⟨bl, ol, none⟩ = some (.int .u64 (t : Int)) := hl4
  have hg5 := hg4.drew
  have hb7 := hb6.drew
  refine wp_region_nf (fun Y => Y.cell? ⟨bl, ol, none⟩ = some (.int .u64 (t : Int))) (fun i => i == 14) [(0, true), (1, true), (2, true), (3, true), (4, true), (5, true), (6, true), (7, true), (8, true), (9, true), (10, true), (11, false), (12, false), (13, false), (14, false)] (by kernel_rfl) rfl (by kernel_rfl) (by kernel_rfl) (fun d _ _ _ _ h => by cases d <;> exact h) ?_
  generalize w4.drew = w5 at *
  repeat (refine nf_pure rfl hnf (fun Y hY => by have hcY := hY; clear hY; go_wp2; exact ⟨rfl, rfl, rfl⟩) rfl ?_ ?_; rfl)
  refine nf_imp rfl ?_
  have hqr := hg5.cell
  have hfr := hg5.frozen
  go_wp2_with fail
  clear hqr hfr
  have hg6 := hg5.set_ 2 (.int .u64 (t : Int))
  have hb8 := hb7.setCell (p := ⟨w.heap.size, 2, none⟩) (Nat.le_refl _) (.int .u64 (t : Int))
  replace hnf := hl5
  generalize w5.setCell ⟨w.heap.size, 2, none⟩ (.int .u64 (t : Int)) = w6 at *
  refine ⟨fun _ => hnf, ?_⟩
  refine nf_imp rfl ?_
  go_wp2_with fail
  refine ⟨fun _ => hnf, ?_⟩
  refine nf_imp rfl ?_
  go_wp2_with fail
  refine ⟨fun _ => hnf, ?_⟩
  refine nf_imp rfl ?_
  have hqr := hg6.cell
  have hfr := hg6.frozen
  go_wp2_with fail
  clear hqr hfr
  have hg7 := hg6.set_ 3 (.int .u64 ((t : Int) + 1))
  have hb9 := hb8.setCell (p := ⟨w.heap.size, 3, none⟩) (Nat.le_refl _) (.int .u64 ((t : Int) + 1))
  refine ⟨fun h => (by cases h), ?_⟩
  refine nf_nil ?_
  generalize w6.setCell ⟨w.heap.size, 3, none⟩ (.int .u64 ((t : Int) + 1)) = w7 at *
  clear hg6 hb8 hnf hl5 hb7 hg5 hg4 hb6 hl4
  have HG7 := Lib.hid (show RngAt w7 w.heap.size j ((⟨n, t, t + 1⟩ : Rng).plus 0) from by
    have := hg7
    unfold RngAt
    exact this)
  have HB9 := Lib.hid hb9
  clear hg7 hb9
  go_wp2_with fail
  go_loopw [12] (fun v wr => ∃ l : Nat, l ≤ n ∧ ∃ L, L.length = l ∧ OwnK wr w.heap.size v L ∧ ropen D ⟨n, t, t + 1⟩ n = L ++ ropen D ((⟨n, t, t + 1⟩ : Rng).plus l) (n - l) ∧ RngAt wr w.heap.size j ((⟨n, t, t + 1⟩ : Rng).plus l) ∧ Below w.heap.size w wr) (fun v _ => n - (match v with | .slice _ m _ => m | _ => 0))
  case atStart => exact ⟨0, by omega, [], rfl, OwnK.nil_ _ _, rfl, HG7.out, HB9.out⟩
  case round =>
    obtain ⟨l, hl, L, hLl, ho, hL, hg, hb⟩ := hrel
    obtain ⟨A, c, rfl⟩ := ho.len
    rw [hLl] at ho
    have HO := Lib.hid ho
    have HL := Lib.hid hL
    have HG := Lib.hid hg
    have HB := Lib.hid hb
    have HLL := Lib.hid hLl
    have hq1 : wr.cell? ⟨w.heap.size, 1, none⟩ = some (.int .i64 (n : Int)) := hg.cell 1
    have hq3 : wr.cell? ⟨w.heap.size, 3, none⟩ = some (.int .u64 (((⟨n, t, t + 1⟩ : Rng).plus l).next : Int)) := hg.cell 3
    have hfz := hg.frozen 3
    rw [hLl]
    clear ho hL hg hb hLl
    by_cases hlt : l < n
    · have hok : ((⟨n, t, t + 1⟩ : Rng).plus l).ok := ⟨hs, hsl, by show t < t + 1 + l; omega, by show t + 1 + l < _; omega, by show t + 1 + l - t - 1 ≤ n; omega⟩
      have HC := Lib.hid (HRR.out wr HB.out w.heap.size _ HG.out hok)
      have HU := Lib.hid (show ropen D ((⟨n, t, t + 1⟩ : Rng).plus l) (n - l) = match rrec D (rfirst ((⟨n, t, t + 1⟩ : Rng).plus l) ((⟨n, t, t + 1⟩ : Rng).plus l).next) ((⟨n, t, t + 1⟩ : Rng).plus l).next with | none => [] | some x => x :: ropen D ((⟨n, t, t + 1⟩ : Rng).plus (l + 1)) (n - (l + 1)) from by
        rw [show n - l = (n - (l + 1)) + 1 by omega, ← Rng.plus_on]
        rfl)
      generalize rrec D (rfirst ((⟨n, t, t + 1⟩ : Rng).plus l) ((⟨n, t, t + 1⟩ : Rng).plus l).next) ((⟨n, t, t + 1⟩ : Rng).plus l).next = r at *
      have hnx : (((⟨n, t, t + 1⟩ : Rng).plus l).next : Int) = (t : Int) + 1 + (l : Int) := by show ((t + 1 + l : Nat) : Int) = _; omega
      clear hok
      go_wp2_with fail
      refine HC.out.mono ?_
      rintro e w8 ⟨A8, c8, rfl, hv8, hb8⟩
      have hszr := HB.out.size
      have HB8 := Lib.hid (HB.out.trans (hb8.mono hszr))
      have HO8 := Lib.hid (HO.out.below hb8)
      have HG8 := Lib.hid (show RngAt w8 w.heap.size j _ from (show Blk wr _ _ _ from HG.out).below hb8 (show Blk wr _ _ _ from HG.out).lt)
      have HV8 := Lib.hid (hv8.base hszr)
      have hs8 := HB8.out.size
      clear hv8 hb8 hq1 hq3 hfz
      unfold recV
      cases r with
      | none =>
        have HE := Lib.hid (show ropen D ⟨n, t, t + 1⟩ n = L from by rw [HL.out, HU.out]; simp)
        have hq8 := (Blk.new w8 54 #[.int .u64 ((hd0.seq : Nat) : Int), .int .i64 ((hd0.row : Nat) : Int), .slice A8 hd0.ps.length c8]).cell
        dsimp only [Option.getD, Option.isSome]
        go_wp2_with fail
        refine bodyPost_ret (results_tmp3 rfl _ _ _) rfl ?_
        rw [HE.out]
        exact ⟨w.heap.size, _, rfl, by rw [HLL.out]; exact (show Blk w8 _ _ _ from HG8.out).alloc _, HO8.out.below ((Below.refl _ _).alloc (Nat.le_refl _) _), Nat.le_refl _, HB8.out.alloc hs8 _⟩
      | some x =>
        dsimp only [Option.getD, Option.isSome] at HV8 ⊢
        have hq9 := (Blk.new w8 54 #[.int .u64 (x.seq : Int), .int .i64 (x.row : Int), .slice A8 x.ps.length c8]).cell
        have hal9 := (Below.refl w8.heap.size w8).alloc (Nat.le_refl _) (.cells #[.int .u64 (x.seq : Int), .int .i64 (x.row : Int), .slice A8 x.ps.length c8] 54)
        have hal10 := hal9.alloc hal9.size (.cells #[.int .u64 (x.seq : Int), .int .i64 (x.row : Int), .slice A8 x.ps.length c8] 54)
        have HO10 := Lib.hid (HO8.out.below hal10)
        have HG10 := Lib.hid (show Blk _ _ _ _ from ((show Blk w8 _ _ _ from HG8.out).alloc (.cells #[.int .u64 (x.seq : Int), .int .i64 (x.row : Int), .slice A8 x.ps.length c8] 54)).alloc (.cells #[.int .u64 (x.seq : Int), .int .i64 (x.row : Int), .slice A8 x.ps.length c8] 54))
        have HV10 := Lib.hid (HV8.out.below hal10)
        have HB10 := Lib.hid ((HB8.out.alloc hs8 (.cells #[.int .u64 (x.seq : Int), .int .i64 (x.row : Int), .slice A8 x.ps.length c8] 54)).alloc (HB8.out.alloc hs8 (.cells #[.int .u64 (x.seq : Int), .int .i64 (x.row : Int), .slice A8 x.ps.length c8] 54)).size (.cells #[.int .u64 (x.seq : Int), .int .i64 (x.row : Int), .slice A8 x.ps.length c8] 54))
        have HSZ := Lib.hid HB10.out.size
        clear hal9 hal10
        have HBK := Lib.hid (show Blk ((w8.alloc (.cells #[.int .u64 (x.seq : Int), .int .i64 (x.row : Int), .slice A8 x.ps.length c8] 54)).alloc (.cells #[.int .u64 (x.seq : Int), .int .i64 (x.row : Int), .slice A8 x.ps.length c8] 54)) (w8.heap.size + 1) 54 (kc (x, A8, c8)).toArray from Blk.newAt (by simp))
        have hlL := HLL.out
        go_wp2_with (at_builtin; go_loud (refine wp_pushK rfl (.tmp 92) (.tmp 94) rfl w.heap.size _ L HO10.out rfl (w8.heap.size + 1) 1 (x, A8, c8) rfl HBK.out HV10.out (by omega) HSZ.out ?_; intro v4 w4 hv4 hg4 hb4 hk4; obtain ⟨A4, c4, rfl⟩ := hv4.len; have hq4 := (hk4 _ _ _ HG10.out (by decide)).cell; have hf4 := (hk4 _ _ _ HG10.out (by decide)).frozen; have HV4 := Lib.hid hv4; have HB4 := Lib.hid (HB10.out.trans hb4); have HG4 := Lib.hid (hk4 _ _ _ HG10.out (by decide)); clear hv4 hb4 hk4 hg4))
        have HV5 := Lib.hid (show OwnK w4 w.heap.size (.slice A4 (l + 1) c4) (L ++ [x]) from by
          have h9 := HV4.out
          rw [List.length_append, HLL.out] at h9
          exact h9)
        have HNX := Lib.hid (show (t : Int) + 1 + (l : Int) + 1 = (((⟨n, t, t + 1⟩ : Rng).plus (l + 1)).next : Int) from by show _ = ((t + 1 + (l + 1) : Nat) : Int); omega)
        go_roundw
        case rel =>
          refine ⟨l + 1, by omega, L ++ [x], by simp [HLL.out], HV5.out.far (p := ⟨w.heap.size, 3, none⟩) HG4.out (by decide) (by decide) _, ?_, ?_, HB4.out.setCell (Nat.le_refl _) _⟩
          · rw [HL.out, HU.out]
            simp
          · have h9 := (show Blk w4 _ _ _ from HG4.out).set_ 3 (.int .u64 ((t : Int) + 1 + (l : Int) + 1))
            rw [HNX.out] at h9 ⊢
            exact h9
        case measure => simp; omega
    · obtain rfl : l = n := by omega
      have HE := Lib.hid (show ropen D ⟨l, t, t + 1⟩ l = L from by rw [HL.out, Nat.sub_self]; simp [ropen])
      go_wp2_with fail
      refine bodyPost_ret (results_tmp3 rfl _ _ _) rfl ?_
      rw [HE.out]
      exact ⟨w.heap.size, _, rfl, by rw [HLL.out]; exact HG.out, HO.out, Nat.le_refl _, HB.out⟩
end Go.Proofs.YtmhmdoobadckkaaGreatDoor
/- stripe.Replay: the walk. -/
namespace Go.Proofs.YtmhmdoobadckkaaGreatDoor
set_option maxRecDepth 20000
open Go.RowKit Go.OpenShut

theorem replay_snoc (S : RS) (σ : Nat → Option Drv) (hs : List Hd) (j : Nat) (hj : j < hs.length) : replayσ S σ (hs.take (j + 1)) = putσ S (hs.getD j hd0).row (replayσ S σ (hs.take j)) (hs.getD j hd0).ps := by
  unfold replayσ
  rw [List.take_succ_eq_append_getElem hj, List.foldl_append]
  simp [List.getD, hj]
theorem FineM.replay {S : RS} {m : Nat} : ∀ (hs : List Hd) {σ : Nat → Option Drv}, FineM σ S.ds S.need m → (∀ h ∈ hs, h.row < S.r ∧ ∀ p ∈ h.ps, p.fits S.n S.k) → FineM (replayσ S σ hs) S.ds S.need m
  | [], _, h, _ => h
  | x :: hs, σ, h, hp => by
    show FineM (replayσ S (Go.Proofs.YtmhmdoobadckkaaGreatDoor.putσ S x.row σ x.ps) hs) S.ds S.need m
    exact FineM.replay hs (h.putσ (hp x (by simp)).2 (hp x (by simp)).1) (fun y hy => hp y (by simp [hy]))
set_option maxRecDepth 100000 in
set_option maxHeartbeats 4000000 in
theorem replay_any (w : World) (σ : Nat → Option Drv) (R : Nat → Prop) (S : RS) (L : SL) (h : SetIn w σ R S L) (hf : FineM σ S.ds S.need 900) (A : Option Addr) (n c : Nat) (hs : List Hd) (hr : RecsR w R A n hs) (hall : ∀ h ∈ hs, h.row < S.r ∧ h.ps.length ≤ 40 ∧ ∀ p ∈ h.ps, p.fits S.n S.k) (hn : n ≤ 100000) :
    Calls Tryz.prog 27 #[setV S L, .slice A n c] w fun e w' => e = .returned (.tuple #[.int .i64 (n : Int), .int .i64 0]) ∧ Did (replayσ S σ hs) R w w' := by
  have hln := hr.1
  have HLN := Lib.hid hln
  have HH := Lib.hid h
  have HF := Lib.hid hf
  have HR := Lib.hid hr
  have HALL := Lib.hid hall
  have hal := (Below.refl w.heap.size w).alloc (Nat.le_refl _) (.cells #[.int .i64 (S.n : Int), .int .i64 (S.k : Int), .int .i64 (S.r : Int), .slice L.A S.n L.ca, .slice L.B S.n L.cb] 32)
  have hbx := Blk.new w 32 #[.int .i64 (S.n : Int), .int .i64 (S.k : Int), .int .i64 (S.r : Int), .slice L.A S.n L.ca, .slice L.B S.n L.cb]
  have HNR := Lib.hid h.dsk.new
  have HAL := Lib.hid hal
  have HBX := Lib.hid hbx
  unfold setV setCs at *
  clear h hf hr hall hln hal hbx
  go_enter Tryz.func27, Tryz.ntmps27
  go_wp2_with fail
  go_loopw [11] (fun i wr => ∃ j : Nat, j ≤ n ∧ i = .int .i64 j ∧ ∃ R', Dsk wr (replayσ S σ (hs.take j)) R' ∧ Ext R R' w wr ∧ Blk wr w.heap.size 32 #[.int .i64 (S.n : Int), .int .i64 (S.k : Int), .int .i64 (S.r : Int), .slice L.A S.n L.ca, .slice L.B S.n L.cb] ∧ ¬ R' w.heap.size) (fun i _ => n - (RowKit.intOf i).toNat)
  case atStart => exact ⟨0, by omega, rfl, R, HH.out.dsk.below HAL.out, (Ext.refl _ _).below HAL.out, HBX.out, HNR.out⟩
  case round =>
    obtain ⟨j, hj, rfl, R', hd, hx, hb, hnr⟩ := hrel
    by_cases hlt : j < n
    · have hjl : j < hs.length := by rw [HLN.out]; exact hlt
      have hmem : hs.getD j hd0 ∈ hs := by simp [List.getD, hjl]
      obtain ⟨a1, a2, a3⟩ := HALL.out _ hmem
      have HS := Lib.hid (replay_snoc S σ hs j hjl)
      have hfm := FineM.replay (hs.take j) HF.out (fun p hp => ⟨(HALL.out p (List.mem_of_mem_take hp)).1, (HALL.out p (List.mem_of_mem_take hp)).2.2⟩)
      have hset : SetIn wr (replayσ S σ (hs.take j)) R' S L := (HH.out.next hd hx (hfm.fine (by omega)))
      obtain ⟨b, o, rfl, hbR, hbl, hc⟩ := ((HR.out.ext hx).2 (by omega))
      obtain ⟨q1, q2, A', c', q3, q4⟩ := hc j hlt
      generalize hs.getD j hd0 = x at *
      generalize replayσ S σ (hs.take j) = σj at *
      obtain ⟨x1, x2, x3, xp⟩ := x
      dsimp only at q1 q2 q3 q4 a1 a2 a3 HS
      have hal := (Below.refl wr.heap.size wr).alloc (Nat.le_refl _) (.cells #[.int .u64 (x1 : Int), .int .i64 (x2 : Int), .slice A' xp.length c'] 54)
      have HPU := Lib.hid (put_any _ σj R' S L (hset.below hal) hfm x2 a1 A' xp.length c' xp (q4.ext (Ext.of_below R' hal)) a2 a3)
      have hqb := (hb.alloc (.cells #[.int .u64 (x1 : Int), .int .i64 (x2 : Int), .slice A' xp.length c'] 54)).cell
      have hbl2 := hb.lt
      have HX := Lib.hid (hx.below hal)
      have HB := Lib.hid (hb.alloc (.cells #[.int .u64 (x1 : Int), .int .i64 (x2 : Int), .slice A' xp.length c'] 54))
      have HNN := Lib.hid hnr
      unfold setV setCs at HPU
      clear hd hx hb hnr hset hfm hmem hal a2 a3 q4 hc
      go_wp2_with fail
      refine HPU.out.mono ?_
      rintro e w1 ⟨rfl, R1, hd1, hx1⟩
      have HD1 := Lib.hid hd1
      have HX1 := Lib.hid (HX.out.trans hx1)
      have HB1 := Lib.hid (hx1.blk HB.out HNN.out)
      have HN1 := Lib.hid (hx1.not HNN.out HB.out.lt)
      clear hd1 hx1
      go_wp2_with fail
      go_roundw
      case rel => exact ⟨j + 1, by omega, by go_num, R1, by rw [HS.out]; exact HD1.out, HX1.out, HB1.out, HN1.out⟩
      case measure => simp [RowKit.intOf]; omega
    · obtain rfl : j = n := by omega
      rw [List.take_of_length_le (by rw [HLN.out]; omega)] at hd
      have HD := Lib.hid hd
      have HX := Lib.hid hx
      clear hd hx hb hnr
      go_wp2_with fail
      go_ret2
      exact ⟨rfl, R', HD.out, HX.out⟩
end Go.Proofs.YtmhmdoobadckkaaGreatDoor
/- Blank: a sector of bytes 0. -/
namespace Go.Proofs.YtmhmdoobadckkaaGreatDoor
set_option maxRecDepth 20000
open Go.RowKit Go.OpenShut

def fullL (l : List UInt8) : List UInt8 := (l ++ List.replicate 64 0).take 64
theorem fullL_len (l : List UInt8) : (fullL l).length = 64 := by
  unfold fullL
  rw [List.length_take, List.length_append, List.length_replicate]
  omega
theorem szMk (l : List UInt8) : (ByteArray.mk l.toArray).size = l.length := by show Array.size _ = _; simp
theorem mkOf {s : ByteArray} {l : List UInt8} (h : s.data.toList = l) : s = ⟨l.toArray⟩ := by rw [← h]
theorem lenOf (s : ByteArray) : s.data.toList.length = s.size := by simp
theorem app_list (s t : ByteArray) : (s ++ t).data.toList = s.data.toList ++ t.data.toList := by simp
def blankS : ByteArray := ⟨(List.replicate 64 0).toArray⟩
theorem blankS_list : blankS.data.toList = List.replicate 64 0 := by simp [blankS]
theorem blankS_size : blankS.size = 64 := by rw [← lenOf, blankS_list, List.length_replicate]
theorem eqOf {s t : ByteArray} (h : s.data.toList = t.data.toList) : s = t := by rw [mkOf h]
set_option maxHeartbeats 1000000 in
theorem blank_any (w : World) :
    Calls Tryz.prog 70 #[] w fun e w' => e = .returned (.string blankS) ∧ w = w' := by
  go_enter Tryz.func70, Tryz.ntmps70
  go_wp2_with fail
  go_loop [1, 2] (fun s i => ∃ (k : Nat) (T : ByteArray), k ≤ 64 ∧ i = .int .i64 k ∧ s = .string T ∧ T.data.toList = List.replicate k 0) (fun _ i => 64 - (intOf i).toNat)
  case atStart => exact ⟨0, ⟨#[]⟩, by omega, rfl, rfl, rfl⟩
  case round =>
    obtain ⟨k, T, hk, rfl, rfl, hT⟩ := hrel
    have HT := Lib.hid hT
    have hs : T.size = k := by rw [← lenOf, hT, List.length_replicate]
    clear hT
    by_cases hlt : k < 64
    · go_wp2_with fail
      go_round
      case rel => exact ⟨k + 1, _, by omega, by go_num, rfl, by rw [app_list, HT.out, List.replicate_succ']⟩
      case measure => simp [intOf]; omega
    · obtain rfl : k = 64 := by omega
      go_wp2_with fail
      go_ret
      exact ⟨by rw [eqOf (HT.out.trans blankS_list.symm)]; rfl, rfl⟩
end Go.Proofs.YtmhmdoobadckkaaGreatDoor
/- What the statements' own packages do: full, heavy, drives. -/
namespace Go.Proofs.YtmhmdoobadckkaaGreatDoor
set_option maxRecDepth 20000
open Go.RowKit Go.OpenShut

def fullS' (s : ByteArray) : ByteArray := ⟨(fullL s.data.toList).toArray⟩
theorem fullS'_size (s : ByteArray) : (fullS' s).size = 64 := by unfold fullS'; rw [szMk, fullL_len]
set_option maxHeartbeats 1000000 in
theorem fullT_any (w : World) (s : ByteArray) (hs : s.size ≤ 4294967295) :
    Calls Tryz.prog 23 #[.string s] w fun e w' => e = .returned (.string ⟨(fullL s.data.toList).toArray⟩) ∧ w = w' := by
  go_enter Tryz.func23, Tryz.ntmps23
  go_wp2_with fail
  refine (blank_any _).mono ?_
  rintro e w' ⟨rfl, rfl⟩
  have hz := blankS_size
  have HF := Lib.hid (show ((s ++ blankS).extract 0 64).data.toList = fullL s.data.toList by
    rw [← Lib.toList_data, Lib.extract_toList, app_list, blankS_list]
    simp [fullL])
  generalize blankS = Z at *
  go_wp2_with fail
  go_ret
  exact ⟨by rw [← mkOf HF.out]; rfl, rfl⟩

set_option maxHeartbeats 1000000 in
theorem full21_any (w : World) (s : ByteArray) (hs : s.size ≤ 4294967295) :
    Calls Tryz.prog 45 #[.string s] w fun e w' => e = .returned (.string ⟨(fullL s.data.toList).toArray⟩) ∧ w = w' := by
  go_enter Tryz.func45, Tryz.ntmps45
  go_wp2_with fail
  refine (blank_any _).mono ?_
  rintro e w' ⟨rfl, rfl⟩
  have hz := blankS_size
  have HF := Lib.hid (show ((s ++ blankS).extract 0 64).data.toList = fullL s.data.toList by
    rw [← Lib.toList_data, Lib.extract_toList, app_list, blankS_list]
    simp [fullL])
  generalize blankS = Z at *
  go_wp2_with fail
  go_ret
  exact ⟨by rw [← mkOf HF.out]; rfl, rfl⟩

def heavyT (xs : List ByteArray) : Bool := decide (40 < xs.length) || xs.any fun x => decide (100 < x.size)
theorem heavyT_no (xs : List ByteArray) : heavyT xs = false ↔ xs.length ≤ 40 ∧ ∀ x ∈ xs, x.size ≤ 100 := by
  unfold heavyT
  rw [Bool.or_eq_false_iff, decide_eq_false_iff_not, List.any_eq_false]
  simp only [decide_eq_true_eq]
  constructor
  · rintro ⟨h1, h2⟩
    exact ⟨by omega, fun x hx => by have := h2 x hx; omega⟩
  · rintro ⟨h1, h2⟩
    exact ⟨by omega, fun x hx => by have := h2 x hx; omega⟩
theorem heavyT_at (xs : List ByteArray) (x : ByteArray) (hx : x ∈ xs) (h : 100 < x.size) : heavyT xs = true := by
  unfold heavyT
  rw [Bool.or_eq_true, List.any_eq_true]
  exact Or.inr ⟨x, hx, by simpa using h⟩
set_option maxHeartbeats 1000000 in
theorem heavyT_any (w : World) (A : Option Addr) (n c : Nat) (xs : List ByteArray) (h : StrsA w w.heap.size A n xs) (hn : n ≤ maxLen) :
    Calls Tryz.prog 15 #[.slice A n c] w fun e w' => e = .returned (.bool (heavyT xs)) ∧ w = w' := by
  unfold maxLen at hn
  have HL := Lib.hid h.1
  by_cases h40 : 40 < n
  · have hh : heavyT xs = true := by unfold heavyT; rw [h.1, decide_eq_true h40]; rfl
    rw [hh]
    clear hh h
    go_enter Tryz.func15, Tryz.ntmps15
    go_wp2_with fail
    go_ret
    exact ⟨rfl, rfl⟩
  · have HNO := Lib.hid (fun (hall : ∀ j, j < n → (xs.getD j ⟨#[]⟩).size ≤ 100) => (heavyT_no xs).2 ⟨by rw [h.1]; omega, fun x hx => by
      obtain ⟨j, hj, rfl⟩ := List.mem_iff_getElem.1 hx
      have := hall j (by rw [← h.1]; exact hj)
      simpa [List.getD, hj] using this⟩)
    have HYES := Lib.hid (fun (k : Nat) (hk : k < n) => heavyT_at xs _ (mem_getD (k := k) (by rw [h.1]; exact hk)))
    have hn40 : n ≤ 40 := by omega
    go_enter Tryz.func15, Tryz.ntmps15
    go_wp2
    go_loop [3] (fun i => ∃ k : Nat, k ≤ n ∧ i = .int .i64 k ∧ ∀ j, j < k → (xs.getD j ⟨#[]⟩).size ≤ 100) (fun i => n - (intOf i).toNat)
    case atStart => exact ⟨0, by omega, rfl, fun j hj => by omega⟩
    case round =>
      obtain ⟨k, hk, rfl, hall⟩ := hrel
      have HA := Lib.hid hall
      clear hall
      by_cases hlt : k < n
      · obtain ⟨b, off, rfl, hbB, hc⟩ := h.2 (by omega)
        have hck := hc k hlt
        have HY := Lib.hid (HYES.out k hlt)
        have HAK := Lib.hid (fun (hx : (xs.getD k ⟨#[]⟩).size ≤ 100) j (hj : j < k + 1) => show (xs.getD j ⟨#[]⟩).size ≤ 100 by
          by_cases e : j = k
          · subst e; exact hx
          · exact HA.out j (by omega))
        generalize xs.getD k ⟨#[]⟩ = x at *
        clear hc h
        by_cases h2 : 100 < x.size
        · go_wp2_with fail
          go_ret
          rw [HY.out h2]
          exact ⟨rfl, rfl⟩
        · go_wp2_with fail
          go_round
          case rel => exact ⟨k + 1, by omega, by go_num, HAK.out (by omega)⟩
          case measure => simp [intOf]; omega
      · obtain rfl : k = n := by omega
        go_wp2
        go_ret
        rw [HNO.out HA.out]
        exact ⟨rfl, rfl⟩

end Go.Proofs.YtmhmdoobadckkaaGreatDoor
/- revetmenttop.drives. -/
namespace Go.Proofs.YtmhmdoobadckkaaGreatDoor
set_option maxRecDepth 20000
open Go.RowKit Go.OpenShut

/-- new drives, one behind the other -/
def newσ (σ : Nat → Option Drv) (s : Nat) : List (Option Nat) → (Nat → Option Drv)
  | [] => σ
  | none :: l => newσ σ s l
  | some g :: l => newσ (upd σ g (Drv.new s)) s l
theorem newσ_snoc (s g : Nat) : ∀ (l : List (Option Nat)) (σ : Nat → Option Drv), newσ σ s (l ++ [some g]) = upd (newσ σ s l) g (Drv.new s)
  | [], _ => rfl
  | none :: l, σ => newσ_snoc s g l σ
  | some _q :: l, _σ => newσ_snoc s g l _
theorem newσ_at (s g : Nat) : ∀ (l : List (Option Nat)) (σ : Nat → Option Drv), newσ σ s l g = if some g ∈ l then some (Drv.new s) else σ g
  | [], _ => by simp [newσ]
  | none :: l, σ => by
    unfold newσ
    rw [newσ_at s g l σ]
    simp
  | some q :: l, σ => by
    unfold newσ
    rw [newσ_at s g l _]
    by_cases h : some g ∈ l
    · rw [if_pos h, if_pos (by simp [h])]
    · rw [if_neg h]
      by_cases e : g = q
      · subst e
        rw [upd_same, if_pos (by simp)]
      · rw [upd_other _ _ e, if_neg (by simp [h, e])]
/-- new drives in a slice of the call's own -/
def NewDs (σ : Nat → Option Drv) (R : Nat → Prop) (n s : Nat) (w : World) (e : Ending) (w' : World) : Prop :=
  ∃ v ps, e = .returned v ∧ ps.length = n ∧ (∀ p ∈ ps, ∃ g, p = some g ∧ σ g = none ∧ w.heap.size ≤ g) ∧ ps.Nodup ∧ ∃ R', Dsk w' (newσ σ s ps) R' ∧ Ext R R' w w' ∧ OwnV 33 w' w.heap.size v (ps.map pv) ∧ (∀ b, v.ownBlock = some b → ¬ R' b)
theorem info_ptr : (Tryz.prog.info? 33).map (fun i => (i.zero, i.size, i.bytes)) = some (some (.pointer none), 1, 8) := by kernel_rfl
set_option maxRecDepth 100000 in
set_option maxHeartbeats 4000000 in
theorem drives_top (w : World) (σ : Nat → Option Drv) (R : Nat → Prop) (h : Dsk w σ R) (n s : Nat) (hn : n ≤ 100) (h1 : 1 ≤ s) (h2 : s ≤ 4096) :
    Calls Tryz.prog 17 #[.int .i64 (n : Int), .int .i64 (s : Int)] w (NewDs σ R n s w) := by
  have HN := Lib.hid (fun W σ' R' (hd : Dsk W σ' R') => hd.new_ s h1 h2)
  have HH := Lib.hid h
  clear h h1 h2
  go_enter Tryz.func17, Tryz.ntmps17
  go_wp2_with fail
  have hb0 := (Below.refl w.heap.size w).alloc (Nat.le_refl _) (.cells #[] 33)
  have ho0 := OwnV.new 33 w w.heap.size (Nat.le_refl _) [] (by simp)
  have HB0 := Lib.hid hb0
  have HO0 := Lib.hid ho0
  clear hb0 ho0
  go_loopw [5, 6] (fun v i wr => ∃ (j : Nat) (ps : List (Option Nat)), j ≤ n ∧ i = .int .i64 j ∧ ps.length = j ∧ (∀ p ∈ ps, ∃ g, p = some g ∧ σ g = none ∧ w.heap.size ≤ g) ∧ ps.Nodup ∧ ∃ R', Dsk wr (newσ σ s ps) R' ∧ Ext R R' w wr ∧ OwnV 33 wr w.heap.size v (ps.map pv) ∧ (∀ b, v.ownBlock = some b → ¬ R' b)) (fun _ i _ => n - (RowKit.intOf i).toNat)
  case atStart =>
    refine ⟨0, [], by omega, rfl, rfl, fun p hp => (by cases hp), List.nodup_nil, R, HH.out.below HB0.out, (Ext.refl _ _).below HB0.out, HO0.out, fun b hb => ?_⟩
    intro hR
    have := HH.out.lt hR
    simp [Value.ownBlock] at hb
    omega
  case round =>
    obtain ⟨j, ps, hj, rfl, hl, hps, hnd, R1, hd, hx, ho, hoR⟩ := hrel
    by_cases hlt : j < n
    · obtain ⟨A1, c1, rfl, hc1, hcm1, hA1, hA2⟩ := ho.shape
      have hll : (ps.map pv).length = j := by rw [List.length_map, hl]
      rw [hll] at ho hoR hc1
      have HND := Lib.hid (HN.out wr _ R1 hd)
      have HX := Lib.hid hx
      have HO := Lib.hid ho
      have HOR := Lib.hid hoR
      have HD := Lib.hid hd
      have HPS := Lib.hid hps
      have HNO := Lib.hid hnd
      have HLL := Lib.hid hll
      have HL := Lib.hid hl
      clear hd hx ho hoR hA1 hA2 hc1 hcm1 hps hnd hl
      rw [hll]
      clear hll
      go_wp2_with fail
      refine HND.out.mono ?_
      rintro e w1 ⟨g, rfl, hg1, hg2, hb1, R2, hd2, hx2⟩
      have ho1 := HO.out.ext hx2 HOR.out
      have hal := (Below.refl w1.heap.size w1).alloc (Nat.le_refl _) (.cells #[.pointer (some ⟨g, 0, none⟩)] 33)
      have hVA : VA (w1.alloc (.cells #[.pointer (some ⟨g, 0, none⟩)] 33)) (fun _ => False) (some ⟨w1.heap.size, 0, none⟩) 1 [pv (some g)] := ⟨rfl, fun _ => ⟨w1.heap.size, 0, rfl, fun h => h, fun i hi => by
        obtain rfl : i = 0 := by omega
        rw [(Blk.new w1 33 #[.pointer (some ⟨g, 0, none⟩)]).cell]; rfl⟩⟩
      have HG1 := Lib.hid hg1
      have HG2 := Lib.hid hg2
      have HX2 := Lib.hid (HX.out.trans hx2)
      have HD2 := Lib.hid hd2
      have HB1 := Lib.hid hb1
      have hsz := HX.out.size
      have hsz2 := hx2.size
      have HOR2 := Lib.hid (fun b (hb : (Value.slice A1 j c1).ownBlock = some b) => hx2.not (HOR.out b hb) (HO.out.lt b hb).2)
      clear hg1 hg2 hb1 hd2 hx2
      go_wp2_with (at_builtin; refine wp_appV 27 33 (.pointer none) 8 Tryz.underlying27 info_ptr rfl (by decide) rfl (.tmp 18) (.tmp 20) rfl w.heap.size _ _ (ho1.alloc _) rfl _ 1 1 [pv (some g)] rfl hVA ?one (fun h => by cases h) ?c1 ?c2 ?_; (case one => intro u hu; simp at hu; subst hu; rfl); (case c1 => rw [HLL.out]; omega); (case c2 => simp; omega); intro v4 w4 hv4 hg4 hb4 ha4)
      go_roundw
      case rel =>
        have hat := newσ_at s g ps σ
        rw [HG2.out] at hat
        have hni : some g ∉ ps := fun e => by rw [if_pos e] at hat; cases hat
        rw [if_neg hni] at hat
        have hal2 := HX2.out.alloc (.cells #[.pointer (some ⟨g, 0, none⟩)] 33)
        refine ⟨j + 1, ps ++ [some g], by omega, by go_num, by simp [HL.out], fun p hp => ?_, ?_, R2, ?_, ?_, ?_, ?_⟩
        · rcases List.mem_append.1 hp with hp | hp
          · exact HPS.out p hp
          · simp at hp
            exact ⟨g, hp, hat.symm, by have := HG1.out; omega⟩
        · rw [List.nodup_append]
          refine ⟨HNO.out, by simp, fun a ha b hb e => ?_⟩
          simp at hb
          subst hb
          subst e
          exact hni ha
        · rw [newσ_snoc]
          exact (HD2.out.alloc _).grown hg4 HOR2.out
        · exact hal2.own hg4 (fun b hb => (HO.out.lt b hb).1)
        · rw [List.map_append]
          exact hv4
        · intro b hb hR
          rcases ha4 with ha4 | ha4
          · rw [ha4] at hb
            exact HOR2.out b hb hR
          · rw [ha4] at hb
            have := HD2.out.lt hR
            simp at hb
            omega
      case measure => simp [RowKit.intOf]; omega
    · obtain rfl : j = n := by omega
      obtain ⟨A1, c1, rfl, hc1, hcm1, hA1, hA2⟩ := ho.shape
      have HX := Lib.hid hx
      have HO := Lib.hid ho
      have HOR := Lib.hid hoR
      have HD := Lib.hid hd
      have HPS := Lib.hid hps
      have HNO := Lib.hid hnd
      have HL := Lib.hid hl
      clear hd hx ho hoR hA1 hA2 hc1 hcm1 hps hnd hl
      go_wp2_with fail
      go_ret
      exact ⟨_, ps, rfl, HL.out, HPS.out, HNO.out, R1, HD.out, HX.out, HO.out, HOR.out⟩
end Go.Proofs.YtmhmdoobadckkaaGreatDoor
/- Steps that write a drive's head alone; what Create makes of new drives: plain. -/
namespace Go.Proofs.YtmhmdoobadckkaaGreatDoor
set_option maxRecDepth 20000
open Go.RowKit Go.OpenShut

/-- D' is D but for its first four sectors -/
structure Hdr (D D' : Drv) : Prop where
  wf : D'.wf
  dead : D'.dead = D.dead
  lim : D'.lim = D.lim
  n : D'.n = D.n
  cur : ∀ j : Int, 4 ≤ j → D'.cur j = D.cur j
  sp : ∀ j : Int, 4 ≤ j → (j ∈ D'.spoilt ↔ j ∈ D.spoilt)
theorem Hdr.refl {D : Drv} (h : D.wf) : Hdr D D := ⟨h, rfl, rfl, rfl, fun _ _ => rfl, fun _ _ => Iff.rfl⟩
theorem Hdr.trans {A B C : Drv} (h : Hdr A B) (k : Hdr B C) : Hdr A C :=
  ⟨k.wf, k.dead.trans h.dead, k.lim.trans h.lim, k.n.trans h.n, fun j hj => (k.cur j hj).trans (h.cur j hj), fun j hj => (k.sp j hj).trans (h.sp j hj)⟩
theorem Hdr.up {A B : Drv} (h : Hdr A B) (hu : A.up) : B.up := ⟨h.wf, h.dead.trans hu.2.1, h.lim.trans hu.2.2⟩
theorem hdr_wf1 {D : Drv} (hu : D.up) {i : Int} {s : Sec} (h0 : 0 ≤ i) (h4 : i < 4) (hn : 4 ≤ D.n) (hs : s.size = 64) : Hdr D (D.wf1 i s) := by
  have h1 := fun j (hj : 0 ≤ j) => hu.put_read (i := i) (j := j) (s := s) h0 (by omega) hj hs
  obtain ⟨a, b, _⟩ := h1 0 (by omega)
  refine ⟨a.1, a.2.1.trans hu.2.1.symm, a.2.2.trans hu.2.2.symm, b, fun j hj => ?_, fun j hj => ?_⟩
  · have := (h1 j (by omega)).2.2.1
    rw [if_neg (by omega)] at this
    exact this
  · exact (h1 j (by omega)).2.2.2.trans ⟨fun h => h.2, fun h => ⟨by omega, h⟩⟩
/-- all drives are as they were, but for their first four sectors -/
def HdrS (σ σ' : Nat → Option Drv) : Prop := ∀ g, (σ g = none → σ' g = none) ∧ ∀ D, σ g = some D → D.wf → ∃ D', σ' g = some D' ∧ Hdr D D'
theorem HdrS.refl (σ : Nat → Option Drv) : HdrS σ σ := fun _g => ⟨fun h => h, fun D h hw => ⟨D, h, Hdr.refl hw⟩⟩
theorem HdrS.trans {a b c : Nat → Option Drv} (h : HdrS a b) (k : HdrS b c) : HdrS a c := fun g => ⟨fun e => (k g).1 ((h g).1 e), fun D hD hw => by
  obtain ⟨D1, h1, h2⟩ := (h g).2 D hD hw
  obtain ⟨D2, k1, k2⟩ := (k g).2 D1 h1 h2.wf
  exact ⟨D2, k1, h2.trans k2⟩⟩
theorem HdrS.step {σ : Nat → Option Drv} {F : Drv → Drv} {ds : List (Option Nat)} {k : Nat} (hf : Fine σ ds k) (hF : ∀ D : Drv, D.up → k ≤ D.n → Hdr D (F D)) {p : Option Nat} (hp : p ∈ ds) : HdrS σ (stepD F σ p) := by
  cases p with
  | none => exact HdrS.refl σ
  | some q =>
    intro g
    by_cases e : g = q
    · subst e
      obtain ⟨E, h1, h2, h3, h4, h5⟩ := hf g hp
      refine ⟨fun h => (by rw [h1] at h; cases h), fun D hD hw => ?_⟩
      rw [h1] at hD
      cases hD
      cases hd : E.dead with
      | true => exact ⟨E, (stepD_dead h1 hd).trans h1, Hdr.refl hw⟩
      | false => exact ⟨F E, stepD_same h1 hd, hF E ⟨h2, hd, h3⟩ h4⟩
    · have h1 : stepD F σ (some q) g = σ g := stepD_other (fun h => e (by cases h; rfl))
      rw [h1]
      exact HdrS.refl σ g
theorem HdrS.steps {F : Drv → Drv} {ds : List (Option Nat)} {k : Nat} (hK : Keeps F k) (hF : ∀ D : Drv, D.up → k ≤ D.n → Hdr D (F D)) : ∀ (l : List (Option Nat)) {σ : Nat → Option Drv}, Fine σ ds k → (∀ p ∈ l, p ∈ ds) → HdrS σ (l.foldl (stepD F) σ)
  | [], σ, _, _ => HdrS.refl σ
  | p :: l, σ, hf, hl => (HdrS.step hf hF (hl p (by simp))).trans (HdrS.steps hK hF l (hf.step hK (hl p (by simp))) (fun q hq => hl q (by simp [hq])))
theorem hdr_sup {s : Sup} (hw : s.wf) (hm : s.may = true) (D : Drv) (hu : D.up) (hn : 4 ≤ D.n) : Hdr D (supF s D) :=
  hdr_wf1 hu (by have := hw.e0; omega) (by have := hw.e0; omega) hn (Sup.str_size hw hm)
theorem hdr_mark {a : Arr} (D : Drv) (hu : D.up) (hn : 4 ≤ D.n) : Hdr D (D.wf1 2 (pgS a.e (stS a.im.stain))) := hdr_wf1 hu (by omega) (by omega) hn (pgS_size _ (stS_size _))
theorem hdrS_mark {σ : Nat → Option Drv} {a : Arr} {ds : List (Option Nat)} (hf : Fine σ ds 4) (hs : ∀ p ∈ a.ds, p ∈ ds) : HdrS σ (markσ σ a) :=
  HdrS.steps (keeps_wf1 (k := 4) (Nat.le_refl _) 2 (pgS a.e (stS a.im.stain)) (by omega) (by omega) (pgS_size _ (stS_size _))) hdr_mark _ hf (fun p hp => hs p (List.mem_filter.1 hp).1)
theorem hdrS_saveT {a : Arr} (h : a.ok) {σ : Nat → Option Drv} (hf : Fine σ a.all 4) : ∀ j, j ≤ a.ds.length → HdrS σ (saveT a σ j)
  | 0, _ => HdrS.refl σ
  | j + 1, hj => by
    obtain ⟨h1, h2⟩ := a.supI_ok h (j := j) (by omega)
    exact (hdrS_saveT h hf j (by omega)).trans (HdrS.step (saveT_fine h hf j (by omega)) (hdr_sup h1 h2) (List.mem_append_left _ (List.mem_append_left _ (getD_mem (show j < a.ds.length by omega)))))
theorem hdrS_saveP {a : Arr} (h : a.ok) {σ : Nat → Option Drv} (hf : Fine σ a.all 4) : ∀ j, j ≤ a.sp.length → HdrS σ (saveP a σ j)
  | 0, _ => HdrS.refl σ
  | j + 1, hj => by
    obtain ⟨h1, h2⟩ := Arr.sup_ok h (role := 254) (built := 0) (Or.inl rfl) ⟨by omega, by omega⟩
    exact (hdrS_saveP h hf j (by omega)).trans (HdrS.step (saveP_fine h hf j (by omega)) (hdr_sup h1 h2) (List.mem_append_left _ (List.mem_append_right _ (getD_mem (show j < a.sp.length by omega)))))
theorem saveσ_fine {a : Arr} (h : a.ok) {σ : Nat → Option Drv} (hf : Fine σ a.all 4) : Fine (saveσ a σ) a.all 4 := by
  have h1 := saveT_fine h hf a.ds.length (Nat.le_refl _)
  have h2 := saveP_fine h h1 a.sp.length (Nat.le_refl _)
  obtain ⟨h3, h4⟩ := Arr.sup_ok h (role := 255) (built := 0) (Or.inr (Or.inl rfl)) ⟨by omega, by omega⟩
  exact h2.step (keeps_sup h3 h4) (List.mem_append_right _ (by simp))
theorem hdrS_save {a : Arr} (h : a.ok) {σ : Nat → Option Drv} (hf : Fine σ a.all 4) : HdrS σ (saveσ a σ) := by
  have h1 := saveT_fine h hf a.ds.length (Nat.le_refl _)
  have h2 := saveP_fine h h1 a.sp.length (Nat.le_refl _)
  obtain ⟨h3, h4⟩ := Arr.sup_ok h (role := 255) (built := 0) (Or.inr (Or.inl rfl)) ⟨by omega, by omega⟩
  exact ((hdrS_saveT h hf _ (Nat.le_refl _)).trans (hdrS_saveP h h1 _ (Nat.le_refl _))).trans (HdrS.step h2 (hdr_sup h3 h4) (List.mem_append_right _ (by simp)))
theorem Once.of_nodup {l : List (Option Nat)} (h : l.Nodup) : Once l := fun c c' g h1 h2 => by
  have lt : ∀ c, l.getD c none = some g → ∃ hc : c < l.length, l[c] = some g := fun c hc => by
    rcases Nat.lt_or_ge c l.length with e | e
    · exact ⟨e, by simpa [List.getD, e] using hc⟩
    · simp [List.getD, List.getElem?_eq_none e] at hc
  obtain ⟨a1, a2⟩ := lt c h1
  obtain ⟨b1, b2⟩ := lt c' h2
  exact (List.getElem_inj h).1 (a2.trans b2.symm)
/-- what Create makes of a drive -/
structure Made (m : Nat) (D D' : Drv) : Prop where
  up : D'.up
  n : D'.n = D.n
  zero : ∀ j : Int, 4 ≤ j → j < 4 + (m : Int) → D'.cur j = sec0
  sp : ∀ j : Int, 4 ≤ j → j < 4 + (m : Int) → j ∉ D'.spoilt
theorem zeros_sp {D : Drv} (hu : D.up) (b : Nat) : ∀ k, b + k ≤ D.n → ∀ j : Int, j ∈ (D.zeros b k).spoilt ↔ j ∈ D.spoilt ∧ ¬ ((b : Int) ≤ j ∧ j < b + k)
  | 0, _, j => by
    unfold Drv.zeros
    exact ⟨fun h => ⟨h, by omega⟩, fun h => h.1⟩
  | k + 1, hk, j => by
    have ih := zeros_sp hu b k (by omega) j
    have h1 := (Drv.zeros_up hu b k (by omega)).1
    unfold Drv.zeros
    show j ∈ (D.zeros b k).spoilt.erase _ ↔ _
    rw [h1.1.spN.mem_erase_iff, ih]
    constructor
    · rintro ⟨a, b1, c⟩
      exact ⟨b1, by omega⟩
    · rintro ⟨a, c⟩
      exact ⟨by omega, a, by omega⟩
theorem fmtD_made {D : Drv} (hu : D.up) {m : Nat} (hn : 4 + m ≤ D.n) : Made m D (fmtD m D) := by
  obtain ⟨h1, h2⟩ := Drv.clear_up hu 0 4 (by omega)
  obtain ⟨h3, h4⟩ := Drv.clear_up h1 4 m (by omega)
  refine ⟨h3, h4.trans h2, fun j a b => ?_, fun j a b => ?_⟩
  · unfold fmtD
    rw [Drv.clear_cur h1 4 m (by omega) (by omega), if_pos ⟨by omega, by omega⟩]
  · show j ∉ ((D.clear 0 4).zeros 4 m).spoilt
    rw [zeros_sp h1 4 m (by omega) j]
    rintro ⟨_, c⟩
    omega
theorem Made.hdr {m : Nat} {D D' D'' : Drv} (h : Made m D D') (k : Hdr D' D'') : Made m D D'' :=
  ⟨k.up h.up, k.n.trans h.n, fun j a b => (k.cur j a).trans (h.zero j a b), fun j a b e => h.sp j a b ((k.sp j a).1 e)⟩
theorem fine_of_creat {σ : Nat → Option Drv} {ps : List (Option Nat)} {k r : Nat} (h : Creat σ ps k r) : Fine σ ps (4 + r * k) := fun g hg => by
  obtain ⟨c, hc, e⟩ := Once.mem hg
  obtain ⟨g', D, e1, e2, e3, e4, e5⟩ := h.at_ hc
  rw [e] at e1
  cases e1
  exact ⟨D, e2, e3.1, e3.2.2, e4, e5⟩
theorem createσ_fine {σ : Nat → Option Drv} {ps : List (Option Nat)} {u k r : Nat} (hu0 : 0 < u) (hu1 : u < 18446744073709551616) (h : Creat σ ps k r) (hg : geoOK ps.length k r = true) : Fine (createσ u k r σ ps) ps 4 := by
  have hf := fine_of_creat h
  have h1 := Fine.steps (keeps_fmt (r * k)) ps hf (fun p hp => hp)
  have h2 : Fine (ps.foldl (stepD (fmtD (r * k))) σ) ps 4 := h1.mono (by omega)
  have h3 := markσ_fine (a := Arr.made u k r ps ps.length) h2 (fun p hp => hp)
  have hall : ∀ {τ}, Fine τ ps 4 → Fine τ (Arr.made u k r ps ps.length).on.all 4 := fun hf g hg => hf g (by simpa [Arr.all, Arr.made, Arr.on] using hg)
  exact (saveσ_fine (Arr.made_ok hu0 hu1 hg) (hall h3)).sub (fun p hp => by simp [Arr.all, Arr.made, Arr.on, hp])
theorem createσ_at {σ : Nat → Option Drv} {ps : List (Option Nat)} {u k r : Nat} (hu0 : 0 < u) (hu1 : u < 18446744073709551616) (h : Creat σ ps k r) (hg : geoOK ps.length k r = true) {g : Nat} {D : Drv} (hm : some g ∈ ps) (hD : σ g = some D) :
    ∃ D', createσ u k r σ ps g = some D' ∧ Made (r * k) D D' := by
  have hf := fine_of_creat h
  obtain ⟨E, e1, e2, e3, e4, e5⟩ := hf g hm
  rw [hD] at e1
  cases e1
  have hdd : D.dead = false := by
    have := h.al _ hm
    unfold aliveB at this
    simp only [hD] at this
    simpa using this
  have hst := steps_once (F := fmtD (r * k)) hdd ps (Once.of_nodup h.nd) hm hD
  have hmd := fmtD_made (D := D) ⟨e2, hdd, e3⟩ e4
  have h1 := Fine.steps (keeps_fmt (r * k)) ps hf (fun p hp => hp)
  have h2 : Fine (ps.foldl (stepD (fmtD (r * k))) σ) ps 4 := h1.mono (by omega)
  have h3 := markσ_fine (a := Arr.made u k r ps ps.length) h2 (fun p hp => hp)
  have hall : ∀ {τ}, Fine τ ps 4 → Fine τ (Arr.made u k r ps ps.length).on.all 4 := fun hf g hg => hf g (by simpa [Arr.all, Arr.made, Arr.on] using hg)
  have hs := (hdrS_mark (a := Arr.made u k r ps ps.length) h2 (fun p hp => hp)).trans (hdrS_save (Arr.made_ok hu0 hu1 hg) (hall h3))
  obtain ⟨D', d1, d2⟩ := (hs g).2 _ hst hmd.up.1
  exact ⟨D', d1, hmd.hdr d2⟩
/-- new drives may be made an array -/
theorem rowsMin_new {σ : Nat → Option Drv} {k s : Nat} {ps : List (Option Nat)} (h : ∀ p ∈ ps, ∃ g, p = some g ∧ σ g = some (Drv.new s)) : ∀ j, j ≤ ps.length → rowsMin σ k ps j = if j = 0 then 256 else min 256 (rowsOf s k)
  | 0, _ => rfl
  | j + 1, hj => by
    obtain ⟨g, e1, e2⟩ := h _ (getD_mem (show j < ps.length by omega))
    rw [if_neg (by omega)]
    show min (rowsMin σ k ps j) _ = _
    rw [rowsMin_new h j (by omega), e1]
    simp only [e2]
    have e3 : (Drv.new s).n = s := by simp [Drv.n, Drv.new]
    rw [e3]
    split
    · rfl
    · rw [Nat.min_assoc, Nat.min_self]
theorem new_creat {σ : Nat → Option Drv} {ps : List (Option Nat)} {n s k r : Nat} (hl : ps.length = n) (hs : s ≤ 4096) (hps : ∀ p ∈ ps, ∃ g, p = some g ∧ σ g = some (Drv.new s)) (hnd : ps.Nodup) (h4 : 4 ≤ n) (h10 : n ≤ 10) (hk1 : 1 ≤ k) (hk4 : k ≤ 4) (hr : min 256 (rowsOf s k) = r) (hr1 : 1 ≤ r) : Creat σ ps k r := by
  refine ⟨by omega, by omega, hk1, hk4, hnd, fun p hp => ?_, fun g hg => ?_, ?_, hr1⟩
  · obtain ⟨g, rfl, e⟩ := hps p hp
    exact aliveB_of e rfl
  · obtain ⟨g', e1, e⟩ := hps _ hg
    cases e1
    obtain ⟨u1, u2⟩ := Drv.new_up s hs
    exact ⟨_, e, u1.1, u1.2.2, by omega, (Drv.new_pl s).mono (by omega)⟩
  · rw [rowsMin_new hps _ (Nat.le_refl _), if_neg (by omega), hr]
end Go.Proofs.YtmhmdoobadckkaaGreatDoor
/- (*Array).Status, without a journal. -/
namespace Go.Proofs.YtmhmdoobadckkaaGreatDoor
set_option maxRecDepth 20000
open Go.RowKit Go.OpenShut

/-- a status told -/
def Told (w : World) (σ : Nat → Option Drv) (a : Arr) (dl : List Int) (jb : Bool) (e : Ending) (w' : World) : Prop := ∃ A1 c1 A2 c2 A3 c3, e = .returned (.agg (stC a (((a.sp.filter (aliveB σ)).length : Nat) : Int) (.slice A1 (colsL (missB σ a) a.ds.length).length c1) (.slice A2 (colsL (buildB σ a) a.ds.length).length c2) (.slice A3 dl.length c3) jb)) ∧
  OwnI w' w.heap.size 3 .i64 (.slice A1 (colsL (missB σ a) a.ds.length).length c1) (colsL (missB σ a) a.ds.length) ∧ OwnI w' w.heap.size 3 .i64 (.slice A2 (colsL (buildB σ a) a.ds.length).length c2) (colsL (buildB σ a) a.ds.length) ∧ OwnI w' w.heap.size 3 .i64 (.slice A3 dl.length c3) dl ∧ Below w.heap.size w w'
set_option maxRecDepth 200000 in
set_option maxHeartbeats 8000000 in
theorem status_any (w0 : World) (σ : Nat → Option Drv) (R : Nat → Prop) (h : Dsk w0 σ R) (g : Nat) (a : Arr) (V : AV) (ha : ArrMem w0 R g a V) (hp : ∀ p ∈ a.ds, PIn σ p) (hps : ∀ p ∈ a.sp, PIn σ p) (hn : a.ds.length ≤ 100) (hsp : a.sp.length ≤ 1000000) (hbl : a.bs.length = a.ds.length) (hg : geoOK a.n a.k a.r = true) (hs : a.stp = false) (hjr : a.jr = none) (dl : List Int)
    (hdi : ∀ W, Below w0.heap.size w0 W → Calls Tryz.prog 120 #[.pointer (some ⟨V.gi, 0, none⟩)] W (MadeI W dl)) :
    Calls Tryz.prog 35 #[.pointer (some ⟨g, 0, none⟩)] w0 (Told w0 σ a dl false) := by
  have hC : Blk w0 g 166 #[.int .u64 (a.u : Int), .int .u64 (a.e : Int), .int .i64 (a.n : Int), .int .i64 (a.k : Int), .int .i64 (a.r : Int), .int .i64 (a.c : Int), .int .i64 (a.gr : Int),
    .slice (some ⟨V.A, 0, none⟩) a.ds.length V.ca, V.bv, .slice V.C a.sp.length V.cc, .pointer none, .pointer none, .pointer (some ⟨V.gi, 0, none⟩), .map (some V.gs), .bool false, .bool a.scr, .int .i64 (a.scd : Int), .int .i64 (a.fx : Int), .int .i64 (a.wr : Int)] := by
    have h1 := ha.head
    unfold Arr.cells at h1
    rw [hjr, hs] at h1
    exact h1
  have hq := hC.cell
  have hlt0 := hC.lt
  have HHD0 := Lib.hid hC
  have HA := Lib.hid ha
  have HD := Lib.hid h
  have HP := Lib.hid hp
  have HPS := Lib.hid hps
  have HBL := Lib.hid hbl
  have HG := Lib.hid hg
  have HDI := Lib.hid hdi
  clear hC h ha hp hps hbl hdi hs hjr hg
  go_enter Tryz.func35, Tryz.ntmps35
  go_upto_region 3 with fail
  have hrb := Blk.new w0 70 #[.int .i64 0, .int .i64 0, .int .i64 0, .int .i64 0, .int .i64 0, .int .i64 0, .int .i64 0, .slice none 0 0, .slice none 0 0, .slice none 0 0, .bool false, .bool false, .bool false, .int .i64 0, .int .i64 0]
  have hb0 := (Below.refl w0.heap.size w0).alloc (Nat.le_refl _) (.cells #[.int .i64 0, .int .i64 0, .int .i64 0, .int .i64 0, .int .i64 0, .int .i64 0, .int .i64 0, .slice none 0 0, .slice none 0 0, .slice none 0 0, .bool false, .bool false, .bool false, .int .i64 0, .int .i64 0] 70)
  generalize w0.alloc (.cells #[.int .i64 0, .int .i64 0, .int .i64 0, .int .i64 0, .int .i64 0, .int .i64 0, .int .i64 0, .slice none 0 0, .slice none 0 0, .slice none 0 0, .bool false, .bool false, .bool false, .int .i64 0, .int .i64 0] 70) = w at *
  have HRB := Lib.hid hrb
  have HB0 := Lib.hid hb0
  have HHD := Lib.hid (HHD0.out.below hb0 hlt0)
  have hlt := HHD.out.lt
  have H6 := Lib.hid (fun W (hW : Below w.heap.size w W) => asize_any W R g a V ((HA.out.below hb0).below hW) HG.out)
  have H19 := Lib.hid (fun W (hW : Below w.heap.size w W) => missing_any W σ R ((HD.out.below hb0).below hW) g a V ((HA.out.below hb0).below hW) HP.out hn)
  have H21 := Lib.hid (fun W (hW : Below w.heap.size w W) => building_any W σ R ((HD.out.below hb0).below hW) g a V ((HA.out.below hb0).below hW) HP.out hn HBL.out)
  have H26 := Lib.hid (fun W (hW : Below w.heap.size w W) => HDI.out W (hb0.trans (hW.mono hb0.size)))
  clear hrb hb0 hq hlt0
  go_cut [3] from 11 (fun s3 wx => ∃ gs A1 c1 A2 c2 A3 c3, s3 = .pointer (some ⟨gs, 0, none⟩) ∧ Blk wx gs 70 (stC a 0 (.slice A1 (colsL (missB σ a) a.ds.length).length c1) (.slice A2 (colsL (buildB σ a) a.ds.length).length c2) (.slice A3 dl.length c3) false) ∧ w.heap.size ≤ gs ∧
    OwnI wx w.heap.size 3 .i64 (.slice A1 (colsL (missB σ a) a.ds.length).length c1) (colsL (missB σ a) a.ds.length) ∧ OwnI wx w.heap.size 3 .i64 (.slice A2 (colsL (buildB σ a) a.ds.length).length c2) (colsL (buildB σ a) a.ds.length) ∧ OwnI wx w.heap.size 3 .i64 (.slice A3 dl.length c3) dl ∧ Below w.heap.size w wx)
  case first =>
    clear HA HD HP HPS HBL HG HDI HHD0 HRB HB0
    refine wp_region_nt (fun Y => Below w.heap.size w Y) (fun _ => false) (NT.pures [0, 1, 2, 3, 4, 5, 7, 8, 9, 10, 11, 12, 13, 14, 15, 16, 17, 18, 20, 22, 23, 24, 25, 27, 28, 29, 30, 31, 39, 40, 41, 42, 43, 44, 45, 46, 47, 48, 49, 50] (.fork 6 (.fork 19 (.fork 21 (.fork 26 (NT.pures [32, 33, 34, 35, 36] (.fork 37 (NT.pures [38, 51] (.imp 52 (.imp 53 .nil))) 52 (.imp 37 (NT.pures [38, 51] (.imp 53 .nil))))) 52 (.imp 26 (NT.pures [32, 33, 34, 35, 36] (.imp 37 (NT.pures [38, 51] (.imp 53 .nil)))))) 52 (.imp 21 (.imp 26 (NT.pures [32, 33, 34, 35, 36] (.imp 37 (NT.pures [38, 51] (.imp 53 .nil))))))) 52 (.imp 19 (.imp 21 (.imp 26 (NT.pures [32, 33, 34, 35, 36] (.imp 37 (NT.pures [38, 51] (.imp 53 .nil)))))))) 52 (.imp 6 (.imp 19 (.imp 21 (.imp 26 (NT.pures [32, 33, 34, 35, 36] (.imp 37 (NT.pures [38, 51] (.imp 53 .nil)))))))))) (by kernel_rfl) (by kernel_rfl) (by kernel_rfl) (fun d _ _ _ _ h => by cases d <;> exact h) ?_
    have hnf := (Below.refl w.heap.size w).drew
    generalize World.drew w = W0 at *
    repeat (refine nt_pure rfl hnf (fun Y hY => by have hqY := (HHD.out.below hY hlt).cell; clear hY; go_wp2; exact ⟨rfl, rfl, rfl⟩) rfl ?_ ?_; rfl)
    apply share (α := Nat → Option Addr → Nat → Option Addr → Nat → Option Addr → Nat → Act) (p := fun f => ∀ (gs : Nat) (A19 : Option Addr) (c19 : Nat) (A21 : Option Addr) (c21 : Nat) (A26 : Option Addr) (c26 : Nat) (W : World), Blk W gs 70 #[.int .i64 0, .int .i64 0, .int .i64 0, .int .i64 0, .int .i64 0, .int .i64 0, .int .i64 0, .slice none 0 0, .slice none 0 0, .slice none 0 0, .bool false, .bool false, .bool false, .int .i64 0, .int .i64 0] → w.heap.size ≤ gs → OwnI W w.heap.size 3 .i64 (.slice A19 (colsL (missB σ a) a.ds.length).length c19) (colsL (missB σ a) a.ds.length) → OwnI W w.heap.size 3 .i64 (.slice A21 (colsL (buildB σ a) a.ds.length).length c21) (colsL (buildB σ a) a.ds.length) → OwnI W w.heap.size 3 .i64 (.slice A26 dl.length c26) dl → Below w.heap.size w W → wpNT Tryz.prog _ _ (fun Y => Below w.heap.size w Y) (fun _ => false) (.imp 53 .nil) (f gs A19 c19 A21 c21 A26 c26) W)
    ·
      intro T5
      apply share (α := Nat → Option Addr → Nat → Option Addr → Nat → Option Addr → Nat → Act) (p := fun f => ∀ (gs : Nat) (A19 : Option Addr) (c19 : Nat) (A21 : Option Addr) (c21 : Nat) (A26 : Option Addr) (c26 : Nat) (W : World), Blk W gs 70 #[.int .i64 0, .int .i64 0, .int .i64 0, .int .i64 0, .int .i64 0, .int .i64 0, .int .i64 0, .slice none 0 0, .slice none 0 0, .slice none 0 0, .bool false, .bool false, .bool false, .int .i64 0, .int .i64 0] → w.heap.size ≤ gs → OwnI W w.heap.size 3 .i64 (.slice A19 (colsL (missB σ a) a.ds.length).length c19) (colsL (missB σ a) a.ds.length) → OwnI W w.heap.size 3 .i64 (.slice A21 (colsL (buildB σ a) a.ds.length).length c21) (colsL (buildB σ a) a.ds.length) → OwnI W w.heap.size 3 .i64 (.slice A26 dl.length c26) dl → Below w.heap.size w W → wpNT Tryz.prog _ _ (fun Y => Below w.heap.size w Y) (fun _ => false) (.imp 37 (NT.pures [38, 51] (.imp 53 .nil))) (f gs A19 c19 A21 c21 A26 c26) W)
      ·
        intro T4
        apply share (α := Nat → Option Addr → Nat → Option Addr → Nat → Act) (p := fun f => ∀ (gs : Nat) (A19 : Option Addr) (c19 : Nat) (A21 : Option Addr) (c21 : Nat) (W : World), Blk W gs 70 #[.int .i64 0, .int .i64 0, .int .i64 0, .int .i64 0, .int .i64 0, .int .i64 0, .int .i64 0, .slice none 0 0, .slice none 0 0, .slice none 0 0, .bool false, .bool false, .bool false, .int .i64 0, .int .i64 0] → w.heap.size ≤ gs → OwnI W w.heap.size 3 .i64 (.slice A19 (colsL (missB σ a) a.ds.length).length c19) (colsL (missB σ a) a.ds.length) → OwnI W w.heap.size 3 .i64 (.slice A21 (colsL (buildB σ a) a.ds.length).length c21) (colsL (buildB σ a) a.ds.length) → Below w.heap.size w W → wpNT Tryz.prog _ _ (fun Y => Below w.heap.size w Y) (fun _ => false) (.imp 26 (NT.pures [32, 33, 34, 35, 36] (.imp 37 (NT.pures [38, 51] (.imp 53 .nil))))) (f gs A19 c19 A21 c21) W)
        ·
          intro T3
          apply share (α := Nat → Option Addr → Nat → Act) (p := fun f => ∀ (gs : Nat) (A19 : Option Addr) (c19 : Nat) (W : World), Blk W gs 70 #[.int .i64 0, .int .i64 0, .int .i64 0, .int .i64 0, .int .i64 0, .int .i64 0, .int .i64 0, .slice none 0 0, .slice none 0 0, .slice none 0 0, .bool false, .bool false, .bool false, .int .i64 0, .int .i64 0] → w.heap.size ≤ gs → OwnI W w.heap.size 3 .i64 (.slice A19 (colsL (missB σ a) a.ds.length).length c19) (colsL (missB σ a) a.ds.length) → Below w.heap.size w W → wpNT Tryz.prog _ _ (fun Y => Below w.heap.size w Y) (fun _ => false) (.imp 21 (.imp 26 (NT.pures [32, 33, 34, 35, 36] (.imp 37 (NT.pures [38, 51] (.imp 53 .nil)))))) (f gs A19 c19) W)
          ·
            intro T2
            apply share (α := Nat → Act) (p := fun f => ∀ (gs : Nat) (W : World), Blk W gs 70 #[.int .i64 0, .int .i64 0, .int .i64 0, .int .i64 0, .int .i64 0, .int .i64 0, .int .i64 0, .slice none 0 0, .slice none 0 0, .slice none 0 0, .bool false, .bool false, .bool false, .int .i64 0, .int .i64 0] → w.heap.size ≤ gs → Below w.heap.size w W → wpNT Tryz.prog _ _ (fun Y => Below w.heap.size w Y) (fun _ => false) (.imp 19 (.imp 21 (.imp 26 (NT.pures [32, 33, 34, 35, 36] (.imp 37 (NT.pures [38, 51] (.imp 53 .nil))))))) (f gs) W)
            ·
              intro T1
              apply share (α := Nat → Act) (p := fun f => ∀ (gs : Nat) (W : World), Blk W gs 70 #[.int .i64 0, .int .i64 0, .int .i64 0, .int .i64 0, .int .i64 0, .int .i64 0, .int .i64 0, .slice none 0 0, .slice none 0 0, .slice none 0 0, .bool false, .bool false, .bool false, .int .i64 0, .int .i64 0] → w.heap.size ≤ gs → Below w.heap.size w W → wpNT Tryz.prog _ _ (fun Y => Below w.heap.size w Y) (fun _ => false) (.imp 6 (.imp 19 (.imp 21 (.imp 26 (NT.pures [32, 33, 34, 35, 36] (.imp 37 (NT.pures [38, 51] (.imp 53 .nil)))))))) (f gs) W)
              ·
                intro T0
                refine nt_fork rfl rfl ?_ ?_
                ·
                  go_wp2_with fail
                  refine (H6.out _ hnf).mono ?_
                  rintro e W1 ⟨rfl, hb⟩
                  replace hnf := hnf.trans (hb.mono hnf.size)
                  clear hb
                  go_wp2_with fail
                  refine ⟨fun _ => hnf, ?_⟩
                  repeat (refine nt_pure rfl hnf (fun Y hY => by have hqY := (HHD.out.below hY hlt).cell; clear hY; go_wp2; exact ⟨rfl, rfl, rfl⟩) rfl ?_ ?_; rfl)
                  refine nt_fork rfl rfl ?_ ?_
                  ·
                    go_wp2_with fail
                    refine (H19.out _ hnf).mono ?_
                    rintro e W2 ⟨v, rfl, ho, hb⟩
                    have hsz := hnf.size
                    replace hnf := hnf.trans (hb.mono hnf.size)
                    clear hb
                    have hm := ho.base hsz
                    clear hsz ho
                    obtain ⟨A19, c19, rfl⟩ := hm.shape
                    go_wp2_with fail
                    refine ⟨fun _ => hnf, ?_⟩
                    repeat (refine nt_pure rfl hnf (fun Y hY => by have hqY := (HHD.out.below hY hlt).cell; clear hY; go_wp2; exact ⟨rfl, rfl, rfl⟩) rfl ?_ ?_; rfl)
                    refine nt_fork rfl rfl ?_ ?_
                    ·
                      go_wp2_with fail
                      refine (H21.out _ hnf).mono ?_
                      rintro e W3 ⟨v, rfl, ho, hb⟩
                      have hsz := hnf.size
                      replace hm := hm.below hb
                      replace hnf := hnf.trans (hb.mono hnf.size)
                      clear hb
                      have hbu := ho.base hsz
                      clear hsz ho
                      obtain ⟨A21, c21, rfl⟩ := hbu.shape
                      go_wp2_with fail
                      refine ⟨fun _ => hnf, ?_⟩
                      repeat (refine nt_pure rfl hnf (fun Y hY => by have hqY := (HHD.out.below hY hlt).cell; clear hY; go_wp2; exact ⟨rfl, rfl, rfl⟩) rfl ?_ ?_; rfl)
                      refine nt_fork rfl rfl ?_ ?_
                      ·
                        go_wp2_with fail
                        refine (H26.out _ hnf).mono ?_
                        rintro e W4 ⟨v, rfl, ho, hb⟩
                        have hsz := hnf.size
                        replace hm := hm.below hb
                        replace hbu := hbu.below hb
                        replace hnf := hnf.trans (hb.mono hnf.size)
                        clear hb
                        have hdi := ho.base hsz
                        clear hsz ho
                        obtain ⟨A26, c26, rfl⟩ := hdi.shape
                        go_wp2_with fail
                        refine ⟨fun _ => hnf, ?_⟩
                        repeat (refine nt_pure rfl hnf (fun Y hY => by have hqY := (HHD.out.below hY hlt).cell; clear hY; go_wp2; exact ⟨rfl, rfl, rfl⟩) rfl ?_ ?_; rfl)
                        refine nt_fork rfl rfl ?_ ?_
                        ·
                          go_wp2_with fail
                          refine ⟨fun _ => hnf, ?_⟩
                          repeat (refine nt_pure rfl hnf (fun Y hY => by have hqY := (HHD.out.below hY hlt).cell; clear hY; go_wp2; exact ⟨rfl, rfl, rfl⟩) rfl ?_ ?_; rfl)
                          refine nt_imp rfl ?_
                          go_wp2_with fail
                          have hgB := hnf.size
                          have hb := (Below.refl W4.heap.size W4).alloc (Nat.le_refl _) (.cells #[.int .i64 0, .int .i64 0, .int .i64 0, .int .i64 0, .int .i64 0, .int .i64 0, .int .i64 0, .slice none 0 0, .slice none 0 0, .slice none 0 0, .bool false, .bool false, .bool false, .int .i64 0, .int .i64 0] 70)
                          replace hm := hm.below hb
                          replace hbu := hbu.below hb
                          replace hdi := hdi.below hb
                          replace hnf := hnf.trans (hb.mono hnf.size)
                          clear hb
                          have hB := Blk.new W4 70 #[.int .i64 0, .int .i64 0, .int .i64 0, .int .i64 0, .int .i64 0, .int .i64 0, .int .i64 0, .slice none 0 0, .slice none 0 0, .slice none 0 0, .bool false, .bool false, .bool false, .int .i64 0, .int .i64 0]
                          generalize W4.alloc (.cells #[.int .i64 0, .int .i64 0, .int .i64 0, .int .i64 0, .int .i64 0, .int .i64 0, .int .i64 0, .slice none 0 0, .slice none 0 0, .slice none 0 0, .bool false, .bool false, .bool false, .int .i64 0, .int .i64 0] 70) = V5 at *
                          generalize W4.heap.size = gs at *
                          refine ⟨fun _ => hnf, ?_⟩
                          exact T5 _ _ _ _ _ _ _ _ hB hgB hm hbu hdi hnf
                        ·
                          go_wp2_with fail
                          have hgB := hnf.size
                          have hb := (Below.refl W4.heap.size W4).alloc (Nat.le_refl _) (.cells #[.int .i64 0, .int .i64 0, .int .i64 0, .int .i64 0, .int .i64 0, .int .i64 0, .int .i64 0, .slice none 0 0, .slice none 0 0, .slice none 0 0, .bool false, .bool false, .bool false, .int .i64 0, .int .i64 0] 70)
                          replace hm := hm.below hb
                          replace hbu := hbu.below hb
                          replace hdi := hdi.below hb
                          replace hnf := hnf.trans (hb.mono hnf.size)
                          clear hb
                          have hB := Blk.new W4 70 #[.int .i64 0, .int .i64 0, .int .i64 0, .int .i64 0, .int .i64 0, .int .i64 0, .int .i64 0, .slice none 0 0, .slice none 0 0, .slice none 0 0, .bool false, .bool false, .bool false, .int .i64 0, .int .i64 0]
                          generalize W4.alloc (.cells #[.int .i64 0, .int .i64 0, .int .i64 0, .int .i64 0, .int .i64 0, .int .i64 0, .int .i64 0, .slice none 0 0, .slice none 0 0, .slice none 0 0, .bool false, .bool false, .bool false, .int .i64 0, .int .i64 0] 70) = V4 at *
                          generalize W4.heap.size = gs at *
                          refine ⟨fun _ => hnf, ?_⟩
                          exact T4 _ _ _ _ _ _ _ _ hB hgB hm hbu hdi hnf
                      ·
                        go_wp2_with fail
                        have hgB := hnf.size
                        have hb := (Below.refl W3.heap.size W3).alloc (Nat.le_refl _) (.cells #[.int .i64 0, .int .i64 0, .int .i64 0, .int .i64 0, .int .i64 0, .int .i64 0, .int .i64 0, .slice none 0 0, .slice none 0 0, .slice none 0 0, .bool false, .bool false, .bool false, .int .i64 0, .int .i64 0] 70)
                        replace hm := hm.below hb
                        replace hbu := hbu.below hb
                        replace hnf := hnf.trans (hb.mono hnf.size)
                        clear hb
                        have hB := Blk.new W3 70 #[.int .i64 0, .int .i64 0, .int .i64 0, .int .i64 0, .int .i64 0, .int .i64 0, .int .i64 0, .slice none 0 0, .slice none 0 0, .slice none 0 0, .bool false, .bool false, .bool false, .int .i64 0, .int .i64 0]
                        generalize W3.alloc (.cells #[.int .i64 0, .int .i64 0, .int .i64 0, .int .i64 0, .int .i64 0, .int .i64 0, .int .i64 0, .slice none 0 0, .slice none 0 0, .slice none 0 0, .bool false, .bool false, .bool false, .int .i64 0, .int .i64 0] 70) = V3 at *
                        generalize W3.heap.size = gs at *
                        refine ⟨fun _ => hnf, ?_⟩
                        exact T3 _ _ _ _ _ _ hB hgB hm hbu hnf
                    ·
                      go_wp2_with fail
                      have hgB := hnf.size
                      have hb := (Below.refl W2.heap.size W2).alloc (Nat.le_refl _) (.cells #[.int .i64 0, .int .i64 0, .int .i64 0, .int .i64 0, .int .i64 0, .int .i64 0, .int .i64 0, .slice none 0 0, .slice none 0 0, .slice none 0 0, .bool false, .bool false, .bool false, .int .i64 0, .int .i64 0] 70)
                      replace hm := hm.below hb
                      replace hnf := hnf.trans (hb.mono hnf.size)
                      clear hb
                      have hB := Blk.new W2 70 #[.int .i64 0, .int .i64 0, .int .i64 0, .int .i64 0, .int .i64 0, .int .i64 0, .int .i64 0, .slice none 0 0, .slice none 0 0, .slice none 0 0, .bool false, .bool false, .bool false, .int .i64 0, .int .i64 0]
                      generalize W2.alloc (.cells #[.int .i64 0, .int .i64 0, .int .i64 0, .int .i64 0, .int .i64 0, .int .i64 0, .int .i64 0, .slice none 0 0, .slice none 0 0, .slice none 0 0, .bool false, .bool false, .bool false, .int .i64 0, .int .i64 0] 70) = V2 at *
                      generalize W2.heap.size = gs at *
                      refine ⟨fun _ => hnf, ?_⟩
                      exact T2 _ _ _ _ hB hgB hm hnf
                  ·
                    go_wp2_with fail
                    have hgB := hnf.size
                    have hb := (Below.refl W1.heap.size W1).alloc (Nat.le_refl _) (.cells #[.int .i64 0, .int .i64 0, .int .i64 0, .int .i64 0, .int .i64 0, .int .i64 0, .int .i64 0, .slice none 0 0, .slice none 0 0, .slice none 0 0, .bool false, .bool false, .bool false, .int .i64 0, .int .i64 0] 70)
                    replace hnf := hnf.trans (hb.mono hnf.size)
                    clear hb
                    have hB := Blk.new W1 70 #[.int .i64 0, .int .i64 0, .int .i64 0, .int .i64 0, .int .i64 0, .int .i64 0, .int .i64 0, .slice none 0 0, .slice none 0 0, .slice none 0 0, .bool false, .bool false, .bool false, .int .i64 0, .int .i64 0]
                    generalize W1.alloc (.cells #[.int .i64 0, .int .i64 0, .int .i64 0, .int .i64 0, .int .i64 0, .int .i64 0, .int .i64 0, .slice none 0 0, .slice none 0 0, .slice none 0 0, .bool false, .bool false, .bool false, .int .i64 0, .int .i64 0] 70) = V1 at *
                    generalize W1.heap.size = gs at *
                    refine ⟨fun _ => hnf, ?_⟩
                    exact T1 _  _ hB hgB  hnf
                ·
                  go_wp2_with fail
                  have hgB := hnf.size
                  have hb := (Below.refl W0.heap.size W0).alloc (Nat.le_refl _) (.cells #[.int .i64 0, .int .i64 0, .int .i64 0, .int .i64 0, .int .i64 0, .int .i64 0, .int .i64 0, .slice none 0 0, .slice none 0 0, .slice none 0 0, .bool false, .bool false, .bool false, .int .i64 0, .int .i64 0] 70)
                  replace hnf := hnf.trans (hb.mono hnf.size)
                  clear hb
                  have hB := Blk.new W0 70 #[.int .i64 0, .int .i64 0, .int .i64 0, .int .i64 0, .int .i64 0, .int .i64 0, .int .i64 0, .slice none 0 0, .slice none 0 0, .slice none 0 0, .bool false, .bool false, .bool false, .int .i64 0, .int .i64 0]
                  generalize W0.alloc (.cells #[.int .i64 0, .int .i64 0, .int .i64 0, .int .i64 0, .int .i64 0, .int .i64 0, .int .i64 0, .slice none 0 0, .slice none 0 0, .slice none 0 0, .bool false, .bool false, .bool false, .int .i64 0, .int .i64 0] 70) = V0 at *
                  generalize W0.heap.size = gs at *
                  refine ⟨fun _ => hnf, ?_⟩
                  exact T0 _  _ hB hgB  hnf
              ·
                intro gs  W hB hgB  hnf
                refine nt_imp rfl ?_
                go_wp2_with fail
                refine (H6.out _ hnf).mono ?_
                rintro e W1 ⟨rfl, hb⟩
                replace hB := hB.below hb hB.lt
                replace hnf := hnf.trans (hb.mono hnf.size)
                clear hb
                go_wp2_with fail
                refine ⟨fun _ => hnf, ?_⟩
                repeat (refine nt_pure rfl hnf (fun Y hY => by have hqY := (HHD.out.below hY hlt).cell; clear hY; go_wp2; exact ⟨rfl, rfl, rfl⟩) rfl ?_ ?_; rfl)
                exact T1 _  _ hB hgB  hnf
            ·
              intro gs  W hB hgB  hnf
              refine nt_imp rfl ?_
              go_wp2_with fail
              refine (H19.out _ hnf).mono ?_
              rintro e W2 ⟨v, rfl, ho, hb⟩
              have hsz := hnf.size
              replace hB := hB.below hb hB.lt
              replace hnf := hnf.trans (hb.mono hnf.size)
              clear hb
              have hm := ho.base hsz
              clear hsz ho
              obtain ⟨A19, c19, rfl⟩ := hm.shape
              go_wp2_with fail
              refine ⟨fun _ => hnf, ?_⟩
              repeat (refine nt_pure rfl hnf (fun Y hY => by have hqY := (HHD.out.below hY hlt).cell; clear hY; go_wp2; exact ⟨rfl, rfl, rfl⟩) rfl ?_ ?_; rfl)
              exact T2 _ _ _ _ hB hgB hm hnf
          ·
            intro gs A19 c19 W hB hgB hm hnf
            refine nt_imp rfl ?_
            go_wp2_with fail
            refine (H21.out _ hnf).mono ?_
            rintro e W3 ⟨v, rfl, ho, hb⟩
            have hsz := hnf.size
            replace hm := hm.below hb
            replace hB := hB.below hb hB.lt
            replace hnf := hnf.trans (hb.mono hnf.size)
            clear hb
            have hbu := ho.base hsz
            clear hsz ho
            obtain ⟨A21, c21, rfl⟩ := hbu.shape
            go_wp2_with fail
            refine ⟨fun _ => hnf, ?_⟩
            repeat (refine nt_pure rfl hnf (fun Y hY => by have hqY := (HHD.out.below hY hlt).cell; clear hY; go_wp2; exact ⟨rfl, rfl, rfl⟩) rfl ?_ ?_; rfl)
            exact T3 _ _ _ _ _ _ hB hgB hm hbu hnf
        ·
          intro gs A19 c19 A21 c21 W hB hgB hm hbu hnf
          refine nt_imp rfl ?_
          go_wp2_with fail
          refine (H26.out _ hnf).mono ?_
          rintro e W4 ⟨v, rfl, ho, hb⟩
          have hsz := hnf.size
          replace hm := hm.below hb
          replace hbu := hbu.below hb
          replace hB := hB.below hb hB.lt
          replace hnf := hnf.trans (hb.mono hnf.size)
          clear hb
          have hdi := ho.base hsz
          clear hsz ho
          obtain ⟨A26, c26, rfl⟩ := hdi.shape
          go_wp2_with fail
          refine ⟨fun _ => hnf, ?_⟩
          repeat (refine nt_pure rfl hnf (fun Y hY => by have hqY := (HHD.out.below hY hlt).cell; clear hY; go_wp2; exact ⟨rfl, rfl, rfl⟩) rfl ?_ ?_; rfl)
          exact T4 _ _ _ _ _ _ _ _ hB hgB hm hbu hdi hnf
      ·
        intro gs A19 c19 A21 c21 A26 c26 W hB hgB hm hbu hdi hnf
        refine nt_imp rfl ?_
        go_wp2_with fail
        refine ⟨fun _ => hnf, ?_⟩
        repeat (refine nt_pure rfl hnf (fun Y hY => by have hqY := (HHD.out.below hY hlt).cell; clear hY; go_wp2; exact ⟨rfl, rfl, rfl⟩) rfl ?_ ?_; rfl)
        exact T5 _ _ _ _ _ _ _ _ hB hgB hm hbu hdi hnf
    ·
      intro gs A19 c19 A21 c21 A26 c26 W hB hgB hm hbu hdi hnf
      refine nt_imp rfl ?_
      have hqB := hB.cell
      have hfB := hB.frozen
      go_wp2_with fail
      clear hqB hfB
      obtain ⟨hB2, hb2⟩ := blk15 hB rfl (.int .i64 (a.n : Int)) (.int .i64 (a.k : Int)) (.int .i64 (a.r : Int)) (.int .i64 ((a.r : Int) * a.k * ((a.n : Int) - 2))) (.int .i64 0) (.int .i64 (a.gr : Int)) (.int .i64 (a.scd : Int)) (.slice A19 (colsL (missB σ a) a.ds.length).length c19) (.slice A21 (colsL (buildB σ a) a.ds.length).length c21) (.slice A26 dl.length c26) (.bool (decide (0 < a.c))) (.bool false) (.bool false) (.int .i64 (a.fx : Int)) (.int .i64 (a.wr : Int))
      replace hnf := hb2.2 _ _ hgB hnf
      replace hm := hb2.1 _ (by decide) hm
      replace hbu := hb2.1 _ (by decide) hbu
      replace hdi := hb2.1 _ (by decide) hdi
      clear hb2 hB
      have hB := hB2
      clear hB2
      generalize World.setCell _ _ _ = Wz at *
      refine ⟨fun _ => hnf, ?_⟩
      refine nt_nil ?_
      go_wp2_with fail
      go_meet
      exact ⟨_, _, _, _, _, _, _, rfl, hB, hgB, hm, hbu, hdi, hnf⟩
  case rest =>
    obtain ⟨gs, A1, c1, A2, c2, A3, c3, rfl, hB, hgB, ho1, ho2, ho3, hnf⟩ := hcut
    have hrl : w0.heap.size < w.heap.size := HRB.out.lt
    have hq9 : wc.cell? ⟨g, 9, none⟩ = some (.slice V.C a.sp.length V.cc) := (HHD.out.below hnf hlt).cell 9
    have HVS := Lib.hid ((HA.out.sp.below HB0.out).below hnf)
    have HVL := Lib.hid (show ∀ b off, V.C = some ⟨b, off, none⟩ → 0 < a.sp.length → b < w.heap.size from fun b off e h0 => by
      obtain ⟨b', off', e', _, hc⟩ := HA.out.sp.2 h0
      rw [e] at e'
      cases e'
      have := cellLt (hc 0 h0)
      omega)
    have HDC := Lib.hid (fun W (hW : Below w.heap.size w W) => (HD.out.below HB0.out).below hW)
    have HBC := Lib.hid hB
    have HO1 := Lib.hid ho1
    have HO2 := Lib.hid ho2
    have HO3 := Lib.hid ho3
    have HNF := Lib.hid hnf
    generalize hm : a.sp.length = m at *
    have HM := Lib.hid hm
    clear hm hB ho1 ho2 ho3 hnf H6 H19 H21 H26 HDI HA HD HG HBL HP
    go_wp2_with fail
    go_loopw [68] (fun i wr => ∃ j : Nat, j ≤ m ∧ i = .int .i64 j ∧ Blk wr gs 70 (stC a ((((a.sp.take j).filter (aliveB σ)).length : Nat) : Int) (.slice A1 (colsL (missB σ a) a.ds.length).length c1) (.slice A2 (colsL (buildB σ a) a.ds.length).length c2) (.slice A3 dl.length c3) false) ∧
      OwnI wr w.heap.size 3 .i64 (.slice A1 (colsL (missB σ a) a.ds.length).length c1) (colsL (missB σ a) a.ds.length) ∧ OwnI wr w.heap.size 3 .i64 (.slice A2 (colsL (buildB σ a) a.ds.length).length c2) (colsL (buildB σ a) a.ds.length) ∧ OwnI wr w.heap.size 3 .i64 (.slice A3 dl.length c3) dl ∧ Below w.heap.size w wr ∧ Chg (· = gs) wc wr) (fun i _ => m - (RowKit.intOf i).toNat)
    case atStart => exact ⟨0, by omega, rfl, HBC.out, HO1.out, HO2.out, HO3.out, HNF.out, Chg.refl _ _⟩
    case round =>
      obtain ⟨j, hj, rfl, hB, ho1, ho2, ho3, hnf, hch⟩ := hrel
      by_cases hlt2 : j < m
      · have hjl : j < a.sp.length := by rw [HM.out]; exact hlt2
        obtain ⟨cb, co, hce, _⟩ := HVS.out.some_ (by omega)
        have hpc : wr.cell? ⟨cb, co + j, none⟩ = some (pv (a.sp.getD j none)) := by
          have h1 := HVS.out
          rw [hce] at h1
          have h2 := h1.at_ hlt2
          rw [getD_mapV pv _ _ hjl] at h2
          have hbl := HVL.out cb co hce (by omega)
          exact (cell_same (hch.block cb (Nat.lt_of_lt_of_le hbl HNF.out.size) (fun e => by omega))).trans h2
        have HAL := Lib.hid (alive_any wr σ R (HDC.out wr hnf) (a.sp.getD j none) (HPS.out _ (getD_mem hjl)))
        have HCN := Lib.hid (show ((a.sp.take (j + 1)).filter (aliveB σ)).length = ((a.sp.take j).filter (aliveB σ)).length + if aliveB σ (a.sp.getD j none) then 1 else 0 from by
          rw [List.take_succ_eq_append_getElem hjl, List.filter_append, List.length_append]
          have e : a.sp.getD j none = a.sp[j] := by simp [List.getD, hjl]
          rw [e]
          by_cases hx : aliveB σ a.sp[j] <;> simp [hx])
        have hcl : ((a.sp.take j).filter (aliveB σ)).length ≤ 1000000 := Nat.le_trans (List.length_filter_le _ _) (by rw [List.length_take]; omega)
        obtain ⟨p, hp⟩ : ∃ p, a.sp.getD j none = p := ⟨_, rfl⟩
        rw [hp] at hpc HAL HCN
        obtain ⟨pa, hpa⟩ : ∃ a : Option Addr, pv p = .pointer a := ⟨_, rfl⟩
        rw [hpa] at hpc HAL
        obtain ⟨q, hqq⟩ : ∃ q, aliveB σ p = q := ⟨_, rfl⟩
        rw [hqq] at HAL HCN
        generalize ((a.sp.take j).filter (aliveB σ)).length = n at *
        have HBR := Lib.hid hB
        have HR1 := Lib.hid ho1
        have HR2 := Lib.hid ho2
        have HR3 := Lib.hid ho3
        have HNR := Lib.hid hnf
        have HCR := Lib.hid hch
        have hc4 : wr.cell? ⟨gs, 4, none⟩ = some (.int .i64 (n : Int)) := hB.cell 4
        have hf4 := hB.frozen 4
        rw [hce] at *
        clear hB ho1 ho2 ho3 hnf hch hqq hpa hp hq9 hce
        go_wp2_with fail
        refine HAL.out.mono ?_
        rintro e w2 ⟨rfl, rfl⟩
        cases q
        · go_wp2_with fail
          go_roundw
          case rel => exact ⟨j + 1, by omega, by go_num, by rw [HCN.out]; exact HBR.out, HR1.out, HR2.out, HR3.out, HNR.out, HCR.out⟩
          case measure => simp [RowKit.intOf]; omega
        · go_wp2_with fail
          go_roundw
          case rel => exact ⟨j + 1, by omega, by go_num, by rw [HCN.out]; exact HBR.out.set_ 4 _, HR1.out.far (HR1.out.ne_blk HBR.out (by decide)) _, HR2.out.far (HR2.out.ne_blk HBR.out (by decide)) _, HR3.out.far (HR3.out.ne_blk HBR.out (by decide)) _, HNR.out.setCell hgB _, HCR.out.setCell (Or.inl rfl) _⟩
          case measure => simp [RowKit.intOf]; omega
      · obtain rfl : j = m := by omega
        have e1 : a.sp.take j = a.sp := List.take_of_length_le (by have := HM.out; omega)
        rw [e1] at hB
        have HBR := Lib.hid hB
        have HR1 := Lib.hid ho1
        have HR2 := Lib.hid ho2
        have HR3 := Lib.hid ho3
        have HNR := Lib.hid hnf
        have HRR := Lib.hid (HRB.out.below hnf hrl)
        have hqB := hB.cell
        have hqR := HRR.out.cell
        have hfR := HRR.out.frozen
        unfold stC at hqB
        clear hB ho1 ho2 ho3 hnf hch e1 hq9
        go_wp2_with fail
        clear hqB hqR hfR
        obtain ⟨hB2, hb2⟩ := blk15 HRR.out rfl (.int .i64 (a.n : Int)) (.int .i64 (a.k : Int)) (.int .i64 (a.r : Int)) (.int .i64 ((a.r : Int) * a.k * ((a.n : Int) - 2))) (.int .i64 ((((a.sp.filter (aliveB σ)).length : Nat) : Int))) (.int .i64 (a.gr : Int)) (.int .i64 (a.scd : Int)) (.slice A1 (colsL (missB σ a) a.ds.length).length c1) (.slice A2 (colsL (buildB σ a) a.ds.length).length c2) (.slice A3 dl.length c3) (.bool (decide (0 < a.c))) (.bool false) (.bool false) (.int .i64 (a.fx : Int)) (.int .i64 (a.wr : Int))
        have k1 := hb2.2 _ _ (Nat.le_refl _) (HB0.out.trans (HNR.out.mono HB0.out.size))
        have o1 := hb2.1 _ (by decide) (HR1.out.base HB0.out.size)
        have o2 := hb2.1 _ (by decide) (HR2.out.base HB0.out.size)
        have o3 := hb2.1 _ (by decide) (HR3.out.base HB0.out.size)
        clear hb2
        generalize World.setCell _ _ _ = Wz at *
        have hi : (Tryz.prog.info? 70).map (·.size) = some 15 := by kernel_rfl
        exact bodyPost_ret (results_cell1 Tryz.results35 _ _ _ _ _ rfl hB2 Tryz.underlying70 rfl hi) rfl ⟨_, _, _, _, _, _, rfl, o1, o2, o3, k1⟩
end Go.Proofs.YtmhmdoobadckkaaGreatDoor
/- The fields of an array's status. -/
namespace Go.Proofs.YtmhmdoobadckkaaGreatDoor
set_option maxRecDepth 20000
open Go.RowKit Go.OpenShut

theorem stf_size (W : World) (a b c d e f g h i j k l m n o : Value) : (Instr.field 70 (.agg #[a, b, c, d, e, f, g, h, i, j, k, l, m, n, o]) 1).run Tryz.prog W = .ok d W := by kernel_rfl
theorem stf_spares (W : World) (a b c d e f g h i j k l m n o : Value) : (Instr.field 70 (.agg #[a, b, c, d, e, f, g, h, i, j, k, l, m, n, o]) 2).run Tryz.prog W = .ok e W := by kernel_rfl
theorem stf_missing (W : World) (a b c d e f g h i j k l m n o : Value) : (Instr.field 70 (.agg #[a, b, c, d, e, f, g, h, i, j, k, l, m, n, o]) 5).run Tryz.prog W = .ok h W := by kernel_rfl
theorem stf_building (W : World) (a b c d e f g h i j k l m n o : Value) : (Instr.field 70 (.agg #[a, b, c, d, e, f, g, h, i, j, k, l, m, n, o]) 6).run Tryz.prog W = .ok i W := by kernel_rfl
theorem stf_dirty (W : World) (a b c d e f g h i j k l m n o : Value) : (Instr.field 70 (.agg #[a, b, c, d, e, f, g, h, i, j, k, l, m, n, o]) 7).run Tryz.prog W = .ok j W := by kernel_rfl
theorem stf_growing (W : World) (a b c d e f g h i j k l m n o : Value) : (Instr.field 70 (.agg #[a, b, c, d, e, f, g, h, i, j, k, l, m, n, o]) 8).run Tryz.prog W = .ok k W := by kernel_rfl
theorem stf_journal (W : World) (a b c d e f g h i j k l m n o : Value) : (Instr.field 70 (.agg #[a, b, c, d, e, f, g, h, i, j, k, l, m, n, o]) 9).run Tryz.prog W = .ok l W := by kernel_rfl
theorem stf_stopped (W : World) (a b c d e f g h i j k l m n o : Value) : (Instr.field 70 (.agg #[a, b, c, d, e, f, g, h, i, j, k, l, m, n, o]) 10).run Tryz.prog W = .ok m W := by kernel_rfl
theorem stf_geo (W : World) (a b c d e f g h i j k l m n o : Value) : (Instr.field 70 (.agg #[a, b, c, d, e, f, g, h, i, j, k, l, m, n, o]) 0).run Tryz.prog W = .ok (.agg #[a, b, c]) W := by kernel_rfl
end Go.Proofs.YtmhmdoobadckkaaGreatDoor
/- revetmenttop.shown: an array is made. -/
namespace Go.Proofs.YtmhmdoobadckkaaGreatDoor
set_option maxRecDepth 20000
open Go.RowKit Go.OpenShut

theorem Ext.below_of {w w' : World} {R' : Nat → Prop} (h : Ext (fun _ => False) R' w w') : Below w.heap.size w w' := h.1.below (Nat.le_refl _) (fun _ _ h => h)
theorem gm_23 : gm 2 3 = 6 := by decide
set_option maxRecDepth 100000 in
set_option maxHeartbeats 4000000 in
theorem shown_top (w : World) : Calls Tryz.prog 16 #[] w fun e w' => e = .returned (.bool true) ∧ Below w.heap.size w w' := by
  have HD := Lib.hid (drives_top w _ _ (Dsk.none_ w) 4 6 (by omega) (by omega) (by omega))
  have HMU := Lib.hid (fun W => mul_any W 2 3 (by omega) (by omega))
  rw [gm_23] at HMU
  go_enter Tryz.func16, Tryz.ntmps16
  go_wp2_with fail
  refine HD.out.mono ?_
  rintro e w1 ⟨v, ps, rfl, hl, hps, hnd, R1, hd1, hx1, ho1, hoR⟩
  have hll : (ps.map pv).length = 4 := by rw [List.length_map, hl]
  rcases ho1.2 with ⟨rfl, h0⟩ | ⟨b, cap, cur, rfl, hb, hh, hcp, hcm, hcs, hct⟩
  · rw [hll] at h0; cases h0
  rw [hll] at ho1 hoR hcp ⊢
  have hps2 : ∀ p ∈ ps, ∃ g, p = some g ∧ newσ (fun _ => none) 6 ps g = some (Drv.new 6) := fun p hp => by
    obtain ⟨g, rfl, _, _⟩ := hps p hp
    exact ⟨g, rfl, by rw [newσ_at, if_pos hp]⟩
  have hC : Creat (newσ (fun _ => none) 6 ps) ps 1 2 := new_creat hl (by omega) hps2 hnd (by omega) (by omega) (by omega) (by omega) (by decide) (by omega)
  have HC := Lib.hid (create0_any w1 _ R1 hd1 b 0 4 cap ps (ho1.va hoR) hl hcp 5 1 2 (by omega) (by omega) hC)
  have hg : geoOK ps.length 1 2 = true := by rw [hl]; decide
  have HF := Lib.hid (createσ_fine (u := 5) (by omega) (by omega) hC hg)
  have HX1 := Lib.hid hx1
  have HL := Lib.hid hl
  have hsl := fun W => (show Sem.run Tryz.prog (binOp BinOp.eql 27 (Value.slice (some ⟨b, 0, none⟩) 4 cap) (Value.slice none 0 0)) W = .ok (.bool false) W from by kernel_rfl)
  clear hps hnd hd1 hx1 ho1 hoR hh hcp hcm hcs hct hps2 hll
  go_wp2_with fail
  refine HC.out.mono ?_
  rintro e w2 ⟨g, V, R2, rfl, hd2, ha2, hx2, _⟩
  have hpin : ∀ p ∈ (Arr.made 5 1 2 ps 4).on.ds, PIn (createσ 5 1 2 (newσ (fun _ => none) 6 ps) ps) p := HF.out.pin
  have HDI := Lib.hid (fun W (hb : Below w2.heap.size w2 W) => dirty0_any W V.gi V.bi _ (ha2.below hb).im (show (IM.new 2).stain = 0 from rfl))
  have HST := Lib.hid (status_any w2 _ R2 hd2 g _ V ha2 hpin (fun p hp => by cases hp) (by show ps.length ≤ 100; omega) (by show (0 : Nat) ≤ _; omega) (by show (List.replicate 4 (2 : Int)).length = ps.length; rw [hl]; rfl) hg rfl rfl [] HDI.out)
  have HX2 := Lib.hid (HX1.out.trans hx2)
  clear hd2 ha2 hx2 hpin
  go_wp2_with fail
  refine HST.out.mono ?_
  rintro e w3 ⟨A1, c1, A2, c2, A3, c3, rfl, _, _, _, hb3⟩
  have hsz : ((Arr.made 5 1 2 ps 4).on.r : Int) * ((Arr.made 5 1 2 ps 4).on.k : Int) * (((Arr.made 5 1 2 ps 4).on.n : Int) - 2) = 4 := by
    show (2 : Int) * 1 * ((ps.length : Int) - 2) = 4
    rw [HL.out]; rfl
  unfold stC
  rw [hsz]
  have HB3 := Lib.hid (HX2.out.below_of.trans (hb3.mono HX2.out.size))
  clear hb3 hsz
  have hfs := stf_size
  go_wp2_with fail
  refine (HMU.out _).mono ?_
  rintro e w4 ⟨rfl, rfl⟩
  go_wp2_with fail
  go_ret
  exact ⟨rfl, HB3.out⟩
end Go.Proofs.YtmhmdoobadckkaaGreatDoor
/- As NT, with forks of three. that are no pure ones may come up, both orders are walked. -/
namespace Go.Proofs.YtmhmdoobadckkaaGreatDoor
set_option maxRecDepth 20000
open Go

inductive NU where
  | nil : NU
  | pure : Nat → NU → NU
  | imp : Nat → NU → NU
  | fork : Nat → NU → Nat → NU → NU
  | fork3 : Nat → NU → Nat → NU → Nat → NU → NU

section
variable {P : Program} {ops : Array Oper} {Q : Exit → Act → World → Prop} {md : Region.Mode} {S : World → Prop}

def wpNU (P : Program) (ops : Array Oper) (Q : Exit → Act → World → Prop) (S : World → Prop) (bar : Nat → Bool) : NU → Act → World → Prop
  | .nil, a, w => Q .normal a w
  | .pure i r, a, w => S w ∧ ∃ o v, ops[i]? = some o ∧ YG P ops S o v a ∧ wpNU P ops Q S bar r (a.put o.dst v) w
  | .imp i r, a, w => wpOp P ops Q i (fun a' w' => (bar i = false → S w') ∧ wpNU P ops Q S bar r a' w') a w
  | .fork i r j t, a, w => wpOp P ops Q i (fun a' w' => (bar i = false → S w') ∧ wpNU P ops Q S bar r a' w') a w ∧ wpOp P ops Q j (fun a' w' => (bar j = false → S w') ∧ wpNU P ops Q S bar t a' w') a w
  | .fork3 i r j t k u, a, w => wpOp P ops Q i (fun a' w' => (bar i = false → S w') ∧ wpNU P ops Q S bar r a' w') a w ∧ wpOp P ops Q j (fun a' w' => (bar j = false → S w') ∧ wpNU P ops Q S bar t a' w') a w ∧ wpOp P ops Q k (fun a' w' => (bar k = false → S w') ∧ wpNU P ops Q S bar u a' w') a w

def nuB (md : Region.Mode) (ops : Array Oper) (bar : Nat → Bool) : Nat → NU → Array Bool → Bool
  | 0, .nil, listed => (Region.ready md ops listed).isEmpty
  | n + 1, .pure i r, listed => (Region.ready md ops listed).contains i && nfFree md ops bar listed i && nuB md ops bar n r (listed.setIfInBounds i true)
  | n + 1, .imp i r, listed => decide (Region.ready md ops listed = [i]) && nuB md ops bar n r (listed.setIfInBounds i true)
  | n + 1, .fork i r j t, listed => decide (Region.ready md ops listed = [i, j]) && nuB md ops bar n r (listed.setIfInBounds i true) && nuB md ops bar n t (listed.setIfInBounds j true)
  | n + 1, .fork3 i r j t k u, listed => decide (Region.ready md ops listed = [i, j, k]) && nuB md ops bar n r (listed.setIfInBounds i true) && nuB md ops bar n t (listed.setIfInBounds j true) && nuB md ops bar n u (listed.setIfInBounds k true)
  | _, _, _ => false

theorem wpAnyG_of_nu {bar : Nat → Bool} (hs : Region.noSelect ops = true) (hQ : ∀ d v c a w, Q (.panic c) (a.put d v) w → Q (.panic c) a w) :
    ∀ (n : Nat) (π : NU) (listed : Array Bool) (a : Act) (w : World), nuB md ops bar n π listed = true → wpNU P ops Q S bar π a w → wpAnyG P md ops Q S bar n listed a w
  | 0, .nil, _, _, _, hB, h => ⟨by simpa [nuB] using hB, h⟩
  | n + 1, .pure i r, listed, a, w, hB, h => by
    obtain ⟨hS, o, v, hi, hy, h⟩ := h
    simp only [nuB, Bool.and_eq_true] at hB
    obtain ⟨⟨hr, hf⟩, hB'⟩ := hB
    obtain ⟨hb, hfree⟩ := nfFree_spec hi hf
    exact wpAnyG_first hi (Region.noSelect_spec hs) hb (fun c a w => hQ o.dst v c a w) n listed a w hS hfree (by simpa using hr) hy (wpAnyG_of_nu hs hQ n r _ _ _ hB' h)
  | n + 1, .imp i r, listed, a, w, hB, h => by
    simp only [nuB, Bool.and_eq_true, decide_eq_true_eq] at hB
    obtain ⟨hr, hB'⟩ := hB
    refine ⟨fun h0 => (by rw [hr] at h0; cases h0), fun j hj => ?_⟩
    rw [hr] at hj
    obtain rfl : j = i := by simpa using hj
    exact wpOp_mono (fun a' w' h' => ⟨h'.1, wpAnyG_of_nu hs hQ n r _ _ _ hB' h'.2⟩) h
  | n + 1, .fork i r k t, listed, a, w, hB, h => by
    simp only [nuB, Bool.and_eq_true, decide_eq_true_eq] at hB
    obtain ⟨⟨hr, hB1⟩, hB2⟩ := hB
    refine ⟨fun h0 => (by rw [hr] at h0; cases h0), fun j hj => ?_⟩
    rw [hr] at hj
    have hj' : j = i ∨ j = k := by simpa using hj
    rcases hj' with rfl | rfl
    · exact wpOp_mono (fun a' w' h' => ⟨h'.1, wpAnyG_of_nu hs hQ n r _ _ _ hB1 h'.2⟩) h.1
    · exact wpOp_mono (fun a' w' h' => ⟨h'.1, wpAnyG_of_nu hs hQ n t _ _ _ hB2 h'.2⟩) h.2
  | n + 1, .fork3 i r k t m u, listed, a, w, hB, h => by
    simp only [nuB, Bool.and_eq_true, decide_eq_true_eq] at hB
    obtain ⟨⟨⟨hr, hB1⟩, hB2⟩, hB3⟩ := hB
    refine ⟨fun h0 => (by rw [hr] at h0; cases h0), fun j hj => ?_⟩
    rw [hr] at hj
    have hj' : j = i ∨ j = k ∨ j = m := by simpa using hj
    rcases hj' with rfl | rfl | rfl
    · exact wpOp_mono (fun a' w' h' => ⟨h'.1, wpAnyG_of_nu hs hQ n r _ _ _ hB1 h'.2⟩) h.1
    · exact wpOp_mono (fun a' w' h' => ⟨h'.1, wpAnyG_of_nu hs hQ n t _ _ _ hB2 h'.2⟩) h.2.1
    · exact wpOp_mono (fun a' w' h' => ⟨h'.1, wpAnyG_of_nu hs hQ n u _ _ _ hB3 h'.2⟩) h.2.2
  | 0, .pure .., _, _, _, hB, _ => by simp [nuB] at hB
  | 0, .fork3 .., _, _, _, hB, _ => by simp [nuB] at hB
  | 0, .imp .., _, _, _, hB, _ => by simp [nuB] at hB
  | 0, .fork .., _, _, _, hB, _ => by simp [nuB] at hB
  | n + 1, .nil, _, _, _, hB, _ => by simp [nuB] at hB

/-- THE REGION, BY ITS TREE OF ORDERS π. -/
theorem wp_region_nu {id : Nat} {l : List Oper} {a : Act} {w : World} (S : World → Prop) (bar : Nat → Bool) (π : NU) (hm : P.follows .mixedOrders = true)
    (hs : Region.noSelect l.toArray = true) (hB : nuB .any l.toArray bar l.length π (Array.replicate l.length false) = true)
    (hQ : ∀ d v c a w, Q (.panic c) (a.put d v) w → Q (.panic c) a w)
    (h : wpNU P l.toArray Q S bar π a w.drew) : (Code.region id l.toArray true).wp P Q a w := by
  refine wp_region_any hm (wpAny_of_G _ _ _ _ (S := S) (bar := bar) ?_)
  have := wpAnyG_of_nu hs hQ l.length π (Array.replicate l.length false) a w.drew hB h
  simpa using this

def NU.pures : List Nat → NU → NU
  | [], t => t
  | i :: r, t => .pure i (NU.pures r t)

theorem nu_pure {bar : Nat → Bool} {i : Nat} {o : Oper} {r : NU} {a a1 : Act} {w : World} (hi : ops[i]? = some o) (hS : S w)
    (h1 : ∀ w', S w' → wpList P ops (only a1 w') [o] a w') (hz : szB o a = true) (hd : a1.defers = a.defers) (h2 : wpNU P ops Q S bar r a1 w) : wpNU P ops Q S bar (.pure i r) a w := by
  have hsz := szB_spec hz
  by_cases hw : Region.wanted o (yielded ops a.tmps) = true
  · have h1' : ∀ w', S w' → o.wp P a w' (only a1 w' .normal) (only a1 w') := fun w' hS' => by
      have h := h1 w' hS'
      simp only [wpList, hw, if_true] at h
      exact h.resolve_right fun hh => only_out hh.2
    obtain ⟨⟨v, hv⟩, _⟩ := wp_val hd (h1' w hS)
    have hV := put_val hsz hv a
    refine ⟨hS, o, _, hi, .inl ⟨hw, fun w' hS' => ⟨(wp_val hd (h1' w' hS')).2, fun K Q hK => ?_⟩⟩, by rw [← hV, hv]; exact h2⟩
    rw [← hV, hv] at hK
    exact wp_strict (h1' w' hS') (fun a' w'' h => by rw [h.2.1, h.2.2]; exact hK) (fun c a' w'' h => by cases h.1) only_out
  · have h := h1 w hS
    simp only [wpList, hw] at h
    have h3 : a.put o.dst undef = a1 := h.2.1
    exact ⟨hS, o, undef, hi, .inr ⟨by simpa using hw, rfl⟩, by rw [h3]; exact h2⟩

def behindU (P : Program) (ops : Array Oper) (Q : Exit → Act → World → Prop) (S : World → Prop) (b : Bool) (bar : Nat → Bool) (r : NU) : Exit → Act → World → Prop
  | .normal, a, w => (b = false → S w) ∧ wpNU P ops Q S bar r a w
  | e, a, w => Q e a w
theorem nu_op {bar : Nat → Bool} {i : Nat} {o : Oper} {r : NU} {a : Act} {w : World} (hi : ops[i]? = some o)
    (h : wpList P ops (behindU P ops Q S (bar i) bar r) [o] a w) : wpOp P ops Q i (fun a' w' => (bar i = false → S w') ∧ wpNU P ops Q S bar r a' w') a w := by
  unfold wpOp
  simp only [hi]
  simp only [wpList] at h
  split
  · rename_i hw
    simp only [hw, if_true] at h
    rcases h with h | h
    · refine .inl ?_
      unfold Oper.wp at *
      have hout : LetsOut (behindU P ops Q S (bar i) bar r) → LetsOut Q := fun ⟨a, w, hq⟩ => ⟨a, w, hq⟩
      generalize (execOp a.eval o).run P w = z at *
      cases z with
      | ok n w1 =>
        cases n <;> simp only [Oper.upon] at h ⊢
        case enter f args =>
          refine Calls.mono h fun e w'' he => ?_
          cases e with
          | returned v => exact he
          | panicked c => exact he
          | outgrown => exact hout he
        all_goals exact h
      | halt x w1 => cases x <;> simp only [Oper.upon] at h ⊢; exact h
    · exact .inr ⟨h.1, let ⟨a, w, hq⟩ := h.2; ⟨a, w, hq⟩⟩
  · rename_i hw
    simp only [hw] at h
    exact h
theorem nu_imp {bar : Nat → Bool} {i : Nat} {o : Oper} {r : NU} {a : Act} {w : World} (hi : ops[i]? = some o)
    (h : wpList P ops (behindU P ops Q S (bar i) bar r) [o] a w) : wpNU P ops Q S bar (.imp i r) a w := nu_op hi h
theorem nu_fork {bar : Nat → Bool} {i j : Nat} {o o' : Oper} {r t : NU} {a : Act} {w : World} (hi : ops[i]? = some o) (hj : ops[j]? = some o')
    (h : wpList P ops (behindU P ops Q S (bar i) bar r) [o] a w) (h' : wpList P ops (behindU P ops Q S (bar j) bar t) [o'] a w) : wpNU P ops Q S bar (.fork i r j t) a w := ⟨nu_op hi h, nu_op hj h'⟩
theorem nu_fork3 {bar : Nat → Bool} {i j k : Nat} {o o' o'' : Oper} {r t u : NU} {a : Act} {w : World} (hi : ops[i]? = some o) (hj : ops[j]? = some o') (hk : ops[k]? = some o'')
    (h : wpList P ops (behindU P ops Q S (bar i) bar r) [o] a w) (h' : wpList P ops (behindU P ops Q S (bar j) bar t) [o'] a w) (h'' : wpList P ops (behindU P ops Q S (bar k) bar u) [o''] a w) : wpNU P ops Q S bar (.fork3 i r j t k u) a w := ⟨nu_op hi h, nu_op hj h', nu_op hk h''⟩
theorem nu_nil {bar : Nat → Bool} {a : Act} {w : World} (h : Q .normal a w) : wpNU P ops Q S bar .nil a w := h
end
end Go.Proofs.YtmhmdoobadckkaaGreatDoor
