/- Plain laws of records: a head that was made is read back; a byte changed. -/
import Derived.Test.YthpehdmffleobaaRcDec
import Derived.Test.YthpehdmffleobaaRcShown
import Derived.Test.YthpehdmffleobaaRcPlPlain
namespace Go.Proofs.Ythpehdmffleobaa
open Go.RowKit Go.OpenShut

def clr (p : Prt) : Prt := ⟨p.col, p.off, ⟨#[]⟩⟩
theorem placedF_clr : ∀ (ps : List Prt) (l : List (Int × Int)), placedF l (ps.map clr) = placedF l ps
  | [], _ => rfl
  | p :: ps, l => by
    rw [List.map_cons, placedF, placedF, placedF_clr ps]
    rfl
theorem placedB_clr (row : Int) (ps : List Prt) : placedB row (ps.map clr) = placedB row ps := by
  unfold placedB
  rw [List.length_map, placedF_clr]
theorem headB_clr (seq row : Int) (sum : Nat) (ps : List Prt) : headB seq row sum (ps.map clr) = headB seq row sum ps := by
  unfold headB headL
  rw [List.length_map, List.map_map]
  rfl
theorem partB_pByte (p : Prt) (h : 0 ≤ p.col ∧ p.col < 10 ∧ 0 ≤ p.off ∧ p.off < 4) : partB (pByte p) = clr p := by
  obtain ⟨h1, h2, h3, h4⟩ := h
  unfold partB pByte clr
  rw [UInt8.toNat_ofNat']
  congr 1 <;> omega
theorem mapPart (ps : List Prt) (h : ∀ p ∈ ps, 0 ≤ p.col ∧ p.col < 10 ∧ 0 ≤ p.off ∧ p.off < 4) : (ps.map pByte).map partB = ps.map clr := by
  rw [List.map_map]
  exact List.map_congr_left fun p hp => partB_pByte p (h p hp)
section
variable {seq row sum : Nat} {ps : List Prt}
theorem list_mk (l : List UInt8) : (⟨l.toArray⟩ : ByteArray).data.toList = l := by simp
theorem size_mk (l : List UInt8) : (⟨l.toArray⟩ : ByteArray).size = l.length := by show Array.size _ = _; simp
theorem headB_take60 (h1 : seq < 18446744073709551616) (h2 : row < 256) (h3 : ps.length ≤ 40) (h4 : sum < 4294967296) : (headB seq row sum ps).take 60 = padL (headL seq row sum ps) 60 := by
  unfold headB sealL
  rw [List.take_left' (padL_length _ _ (by rw [headL_len seq row sum ps (by omega) (by omega) h3 h4]; omega))]
theorem headNs_of (h1 : seq < 18446744073709551616) (h2 : row < 256) (h3 : ps.length ≤ 40) (h4 : sum < 4294967296) : headNs ⟨(headB seq row sum ps).toArray⟩ = [seq, row, ps.length, sum] := by
  unfold headNs
  rw [list_mk]
  have e1 : (headB seq row sum ps).take 19 = headF seq row ps.length sum := by
    have e : (headB seq row sum ps).take 19 = ((headB seq row sum ps).take 60).take 19 := by rw [List.take_take]; rfl
    rw [e, headB_take60 h1 h2 h3 h4]
    unfold padL headL
    rw [List.append_assoc, List.take_left' (headF_len _ _ _ _ (by omega) (by omega) h3 h4)]
  rw [e1]
  have e2 : (headF seq row ps.length sum).drop 4 = encL [(seq : Int), row, (ps.length : Int), (sum : Int)] [8, 2, 1, 4] := rfl
  rw [e2, encL_eq [(seq : Int), row, (ps.length : Int), (sum : Int)] [8, 2, 1, 4] rfl]
  refine dec_enc [seq, row, ps.length, sum] ws4 rfl (fun i hi => ?_)
  have hi' : i < 4 := hi
  match i, hi' with
  | 0, _ => exact h1
  | 1, _ => show row < 65536; omega
  | 2, _ => show ps.length < 256; omega
  | 3, _ => exact h4
theorem headPs_of (h1 : seq < 18446744073709551616) (h2 : row < 256) (h3 : ps.length ≤ 40) (h4 : sum < 4294967296) (hp : ∀ p ∈ ps, 0 ≤ p.col ∧ p.col < 10 ∧ 0 ≤ p.off ∧ p.off < 4) : headPs ⟨(headB seq row sum ps).toArray⟩ = ps.map clr := by
  unfold headPs
  rw [headNs_of h1 h2 h3 h4, list_mk, headB_take60 h1 h2 h3 h4]
  show (((padL (headL seq row sum ps) 60).drop 19).take ps.length).map partB = _
  have e : (padL (headL seq row sum ps) 60).drop 19 = ps.map pByte ++ List.replicate (60 - (headL seq row sum ps).length) 0 := by
    unfold padL headL
    rw [List.append_assoc, List.drop_left' (headF_len _ _ _ _ (by omega) (by omega) h3 h4)]
  rw [e, List.take_left' (by simp), mapPart ps hp]
theorem head_of (hp : placedB row ps = true) (h1 : seq < 18446744073709551616) (h4 : sum < 4294967296) :
    headE ⟨(headB seq row sum ps).toArray⟩ = 0 ∧ headR ⟨(headB seq row sum ps).toArray⟩ = ⟨seq, row, sum, ps.map clr⟩ := by
  obtain ⟨r0, r1, n1, n40, hpf⟩ := placed_row hp
  have hall := placedF_all ps [] hpf
  have hN := headNs_of (ps := ps) h1 (by omega : row < 256) n40 h4
  have hP := headPs_of (ps := ps) h1 (by omega : row < 256) n40 h4 hall
  have hL := headB_len (seq : Int) (row : Int) sum ps (by omega) (by omega) n40 h4
  have hE : headE ⟨(headB seq row sum ps).toArray⟩ = 0 := by
    unfold headE
    rw [if_pos (by rw [size_mk, hL])]
    have hO : openB (⟨(headB seq row sum ps).toArray⟩ : ByteArray).data.toList = true := by
      rw [list_mk]
      exact openB_seal _ _ (by rw [headL_len seq row sum ps (by omega) (by omega) n40 h4]; omega)
    rw [hO, if_pos rfl]
    have hM : headM ⟨(headB seq row sum ps).toArray⟩ = true := by
      unfold headM
      rw [list_mk, headB_take]
      rfl
    rw [hM, if_pos rfl]
    have hK : headOK ⟨(headB seq row sum ps).toArray⟩ = true := by
      unfold headOK
      rw [hN, hP, list_mk]
      show (placedB (row : Int) (ps.map clr) && decide (headB (seq : Int) (row : Int) sum (ps.map clr) = headB seq row sum ps)) = true
      rw [placedB_clr, headB_clr, hp, decide_eq_true rfl]
      rfl
    rw [hK, if_pos rfl]
  refine ⟨hE, ?_⟩
  unfold headR
  rw [if_pos hE, hN, hP]
  rfl
end
theorem zipD_clr (ps : List Prt) (xs : List ByteArray) : zipD (ps.map clr) xs = zipD ps xs := by
  unfold zipD setD
  rw [List.length_map]
  refine List.map_congr_left fun j hj => ?_
  have hj' : j < ps.length := List.mem_range.1 hj
  rw [if_pos hj', if_pos hj']
  simp [List.getD, hj', clr]
theorem zipD_self (ps : List Prt) : zipD ps (loadS ps) = ps := by
  apply List.ext_getElem (zipD_len _ _)
  intro i h1 h2
  simp only [zipD, setD, List.getElem_map, List.getElem_range]
  rw [if_pos h2]
  simp [List.getD, h2, loadS]
section
variable {seq row sum : Nat} {ps : List Prt}
theorem dec_of {xs : List ByteArray} (hp : placedB row ps = true) (h1 : seq < 18446744073709551616) (h4 : sum < 4294967296) :
    decE12 ⟨(headB seq row sum ps).toArray⟩ xs = (if xs.length ≠ ps.length then 31 else if loadedB (zipD ps xs) then if recSum (zipD ps xs) = sum then 0 else 80 else 31) ∧
    (decE12 ⟨(headB seq row sum ps).toArray⟩ xs = 0 → decR12 ⟨(headB seq row sum ps).toArray⟩ xs = ⟨seq, row, sum, zipD ps xs⟩) := by
  obtain ⟨hE, hR⟩ := head_of hp h1 h4
  constructor
  · unfold decE12
    rw [if_neg (by rw [hE]; simp), hR]
    dsimp only
    rw [List.length_map, zipD_clr]
  · intro h
    unfold decR12
    rw [if_pos h, hR]
    dsimp only
    rw [zipD_clr]
theorem dec_self (hm : mayB row ps = true) (h1 : seq < 18446744073709551616) :
    decE12 ⟨(headB seq row (recSum ps) ps).toArray⟩ (loadS ps) = 0 ∧ decR12 ⟨(headB seq row (recSum ps) ps).toArray⟩ (loadS ps) = ⟨seq, row, recSum ps, ps⟩ := by
  unfold mayB at hm
  rw [Bool.and_eq_true] at hm
  obtain ⟨hp, hl⟩ := hm
  obtain ⟨a, b⟩ := dec_of (xs := loadS ps) hp h1 (cmore_lt 0 (flatL ps))
  rw [zipD_self] at a b
  have e : decE12 ⟨(headB seq row (cmore 0 (flatL ps)) ps).toArray⟩ (loadS ps) = 0 := by
    rw [a, if_neg (by rw [loadS_len]; simp), if_pos hl]; exact if_pos rfl
  exact ⟨e, b e⟩
theorem dec_short {xs : List ByteArray} (hp : placedB row ps = true) (h1 : seq < 18446744073709551616) (h4 : sum < 4294967296) (h : xs.length ≠ ps.length) : decE12 ⟨(headB seq row sum ps).toArray⟩ xs = 31 := by
  rw [(dec_of hp h1 h4).1, if_pos h]
end
end Go.Proofs.Ythpehdmffleobaa
