/- superblocks: what comes back from a sector, and what a spoilt sector is. -/
import Derived.Test.YtfoflbbeckepoaaSuSome
namespace Go.Proofs.Ytfoflbbeckepoaa
open Go.RowKit Go.OpenShut

theorem nums_dec (s : Sup) (hw : s.wf) (hs : s.small) : decL ws11 (encL s.nums ws11) = s.nums.map Int.toNat := by
  rw [encL_eq s.nums ws11 rfl]
  refine dec_enc _ _ rfl ?_
  intro i hi
  have h := allFit_at (nums_fit s hw hs) hi
  unfold fitsB at h
  simp only [Bool.and_eq_true, decide_eq_true_eq] at h
  have h2 : (s.nums.map Int.toNat).getD i 0 = (s.nums.getD i 0).toNat := by
    have h3 : i < s.nums.length := hi
    simp [List.getD, h3]
  rw [h2]
  exact h.2
theorem sup_str (s : Sup) (hm : s.may = true) : s.str = ⟨s.bytes.toArray⟩ := by unfold Sup.str; rw [if_pos hm]
theorem sup_list (s : Sup) (hm : s.may = true) : s.str.data.toList = s.bytes := by rw [sup_str s hm]
theorem sup_size (s : Sup) (hw : s.wf) (hm : s.may = true) : s.str.size = 64 := by
  have h : s.str.data.toList.length = s.str.size := by simp
  rw [← h, sup_list s hm, sup_bytes_len s hw (may_small hm)]
theorem sup_open (s : Sup) (hw : s.wf) (hm : s.may = true) : openB s.str.data.toList = true := by
  rw [sup_list s hm]
  exact openB_seal _ _ (by rw [nums_encLen s hw (may_small hm)]; omega)
theorem sup_ns (s : Sup) (hw : s.wf) (hm : s.may = true) : supNs s.str = s.nums.map Int.toNat := by
  have hs := may_small hm
  unfold supNs
  rw [sup_list s hm]
  have h : s.bytes.take 31 = encL s.nums ws11 := by
    unfold Sup.bytes sealL padL
    rw [List.append_assoc, List.take_append_of_le_length (by rw [nums_encLen s hw hs]; omega), List.take_of_length_le (by rw [nums_encLen s hw hs]; omega)]
  rw [h]
  exact nums_dec s hw hs
theorem sup_of (s : Sup) (hw : s.wf) (hs : s.small) : Sup.of (s.nums.map Int.toNat) = s := by
  obtain ⟨_, _, _, _, _⟩ := hw
  obtain ⟨_, _, _, _, _, _, _, _, _, _, _, _, _, _⟩ := hs
  obtain ⟨u, e, r, c, k, n, cl, b, nw, gr⟩ := s
  have hcl : ((((clN cl).toNat : Nat) : Int) == 1) = cl := by cases cl <;> rfl
  unfold Sup.of Sup.nums
  simp only [List.map_cons, List.map_nil, List.getD_cons_zero, List.getD_cons_succ]
  rw [hcl]
  simp only [Sup.mk.injEq]
  refine ⟨?_, ?_, ?_, ?_, ?_, ?_, trivial, ?_, ?_, ?_⟩ <;> (rw [Int.toNat_of_nonneg]; assumption)
theorem sup_back (s : Sup) (hw : s.wf) (hm : s.may = true) : supDec s.str = (s, 0) := by
  unfold supDec
  rw [if_pos (sup_size s hw hm), if_pos (sup_open s hw hm), sup_ns s hw hm, if_pos (show (s.nums.map Int.toNat).getD 0 0 = 827610706 from rfl), sup_of s hw (may_small hm)]
  unfold supRest
  rw [hm]
  simp
theorem sup_inj (s t : Sup) (hs : s.wf) (ht : t.wf) (ms : s.may = true) (mt : t.may = true) : decide (s.str = t.str) = s.same t := by
  rw [Bool.eq_iff_iff, Sup.same_iff, decide_eq_true_eq]
  constructor
  · intro h
    have h1 := sup_back s hs ms
    rw [h, sup_back t ht mt] at h1
    exact (Prod.mk.inj h1).1.symm
  · rintro rfl
    rfl

theorem le32_inj {a b : Nat} (ha : a < 4294967296) (hb : b < 4294967296) (h : le32 a = le32 b) : a = b := by
  unfold le32 at h
  simp only [List.cons.injEq, ← UInt8.toNat_inj, UInt8.toNat_ofNat'] at h
  omega
theorem cmore_set (l : List UInt8) (k : Nat) (x : UInt8) (hk : k < l.length) (hx : l[k] ≠ x) : cmore 0 (l.set k x) ≠ cmore 0 l := by
  have e : l = l.take k ++ l[k] :: l.drop (k + 1) := by
    have e := List.take_append_drop k l
    rw [List.drop_eq_getElem_cons hk] at e
    exact e.symm
  have e2 : l.set k x = l.take k ++ x :: l.drop (k + 1) := by rw [List.set_eq_take_append_cons_drop, if_pos hk]
  have h := cmore_one (l.take k) (l.drop (k + 1)) x l[k] (Ne.symm hx) 0
  rw [← e, ← e2] at h
  exact h
theorem openB_spoilt (l : List UInt8) (k : Nat) (x : UInt8) (hk : k < l.length) (hx : l[k] ≠ x) (ho : openB l = true) : openB (l.set k x) = false := by
  unfold openB at ho ⊢
  simp only [Bool.and_eq_true, decide_eq_true_eq] at ho
  obtain ⟨h4, ho⟩ := ho
  rw [List.length_set, decide_eq_true h4, Bool.true_and]
  apply decide_eq_false
  intro h
  rw [List.take_set, List.drop_set] at h
  by_cases hlt : k < l.length - 4
  · rw [if_pos hlt, ← ho] at h
    have h5 := le32_inj (cmore_lt 0 _) (cmore_lt 0 _) h
    refine cmore_set (l.take (l.length - 4)) k x (by rw [List.length_take]; omega) ?_ h5
    rw [List.getElem_take]
    exact hx
  · rw [if_neg hlt, List.set_eq_of_length_le (by rw [List.length_take]; omega), ho] at h
    have h6 := congrArg (fun t : List UInt8 => t[k - (l.length - 4)]?) h
    simp only [List.getElem?_drop, List.getElem?_set] at h6
    rw [show l.length - 4 + (k - (l.length - 4)) = k by omega, List.getElem?_eq_getElem hk] at h6
    simp only [if_true, List.length_drop] at h6
    rw [if_pos (by omega)] at h6
    exact hx (Option.some.inj h6)
theorem sup_spoilt (s : Sup) (hw : s.wf) (hm : s.may = true) (k : Nat) (x : UInt8) (hk : k < s.str.size) (hx : s.str[k] ≠ x) (b : ByteArray) (hb : b.data.toList = s.str.data.toList.take k ++ x :: s.str.data.toList.drop (k + 1)) :
    supDec b = (Sup.zero, 80) := by
  have hl : k < s.str.data.toList.length := by simpa using hk
  have hb2 : b.data.toList = s.str.data.toList.set k x := by rw [hb, List.set_eq_take_append_cons_drop, if_pos hl]
  have hz : b.size = 64 := by
    have h : b.data.toList.length = b.size := by simp
    rw [← h, hb2, List.length_set]
    have h : s.str.data.toList.length = s.str.size := by simp
    rw [h, sup_size s hw hm]
  have ho : openB b.data.toList = false := by
    rw [hb2]
    exact openB_spoilt _ k x hl hx (sup_open s hw hm)
  unfold supDec
  rw [if_pos hz, ho]
  rfl
end Go.Proofs.Ytfoflbbeckepoaa
