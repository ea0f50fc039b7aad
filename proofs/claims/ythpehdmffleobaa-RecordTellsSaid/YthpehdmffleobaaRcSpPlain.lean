/- Plain laws: a head, or a load, with one byte that is another one. -/
import Derived.Test.YthpehdmffleobaaRcPlain
namespace Go.Proofs.Ythpehdmffleobaa
open Go.RowKit Go.OpenShut


theorem le32_inj {a b : Nat} (ha : a < 4294967296) (hb : b < 4294967296) (h : le32 a = le32 b) : a = b := by
  unfold le32 at h
  simp only [List.cons.injEq, ← UInt8.toNat_inj, UInt8.toNat_ofNat'] at h
  omega
theorem cmore_set (l : List UInt8) (k : Nat) (x : UInt8) (hk : k < l.length) (hx : l[k] ≠ x) : cmore 0 (l.set k x) ≠ cmore 0 l := by
  have e : l = l.take k ++ l[k] :: l.drop (k + 1) := by
    have e := List.take_append_drop k l
    rw [List.drop_eq_getElem_cons hk] at e
    exact e.symm
  have e2 : l.set k x = l.take k ++ x :: l.drop (k + 1) := by rw [List.set_eq_take_append_cons_drop, if_pos hk]
  have h := cmore_one (l.take k) (l.drop (k + 1)) x l[k] (Ne.symm hx) 0
  rw [← e, ← e2] at h
  exact h
theorem openB_spoilt (l : List UInt8) (k : Nat) (x : UInt8) (hk : k < l.length) (hx : l[k] ≠ x) (ho : openB l = true) : openB (l.set k x) = false := by
  unfold openB at ho ⊢
  simp only [Bool.and_eq_true, decide_eq_true_eq] at ho
  obtain ⟨h4, ho⟩ := ho
  rw [List.length_set, decide_eq_true h4, Bool.true_and]
  apply decide_eq_false
  intro h
  rw [List.take_set, List.drop_set] at h
  by_cases hlt : k < l.length - 4
  · rw [if_pos hlt, ← ho] at h
    have h5 := le32_inj (cmore_lt 0 _) (cmore_lt 0 _) h
    refine cmore_set (l.take (l.length - 4)) k x (by rw [List.length_take]; omega) ?_ h5
    rw [List.getElem_take]
    exact hx
  · rw [if_neg hlt, List.set_eq_of_length_le (by rw [List.length_take]; omega), ho] at h
    have h6 := congrArg (fun t : List UInt8 => t[k - (l.length - 4)]?) h
    simp only [List.getElem?_drop, List.getElem?_set] at h6
    rw [show l.length - 4 + (k - (l.length - 4)) = k by omega, List.getElem?_eq_getElem hk] at h6
    simp only [if_true, List.length_drop] at h6
    rw [if_pos (by omega)] at h6
    exact hx (Option.some.inj h6)
theorem headE_spoilt (b : ByteArray) (hz : b.size = 64) (ho : openB b.data.toList = true) (k : Nat) (x : UInt8) (hk : k < 64) (hx : b.data.toList.getD k 0 ≠ x) (t : ByteArray) (ht : t.data.toList = b.data.toList.set k x) : headE t = 80 := by
  have hl : b.data.toList.length = 64 := by simpa using hz
  have hkl : k < b.data.toList.length := by rw [hl]; exact hk
  have htz : t.size = 64 := by
    have h : t.data.toList.length = t.size := by simp
    rw [← h, ht, List.length_set, hl]
  have hs : openB t.data.toList = false := by
    rw [ht]
    refine openB_spoilt _ k x hkl ?_ ho
    intro e
    apply hx
    simp only [List.getD, List.getElem?_eq_getElem hkl, Option.getD_some]
    exact e
  unfold headE
  rw [if_pos htz, hs]
  rfl
theorem flat_set (xs : List ByteArray) (k : Nat) (hk : k < xs.length) (s : ByteArray) :
    (((xs.set k s).map (·.data.toList)).flatten = ((xs.take k).map (·.data.toList)).flatten ++ s.data.toList ++ ((xs.drop (k + 1)).map (·.data.toList)).flatten) := by
  rw [List.set_eq_take_append_cons_drop, if_pos hk]
  simp
theorem flat_self (xs : List ByteArray) (k : Nat) (hk : k < xs.length) :
    ((xs.map (·.data.toList)).flatten = ((xs.take k).map (·.data.toList)).flatten ++ (xs.getD k ⟨#[]⟩).data.toList ++ ((xs.drop (k + 1)).map (·.data.toList)).flatten) := by
  have e : xs = xs.set k (xs.getD k ⟨#[]⟩) := by
    apply List.ext_getElem (by simp)
    intro i h1 h2
    rw [List.getElem_set]
    by_cases e : k = i
    · subst e; simp [List.getD, h1]
    · rw [if_neg e]
  have h := flat_set xs k hk (xs.getD k ⟨#[]⟩)
  rw [← e] at h
  exact h
theorem flatL_zip (ps : List Prt) (xs : List ByteArray) (h : xs.length = ps.length) : flatL (zipD ps xs) = (xs.map (·.data.toList)).flatten := by
  have e : flatL (zipD ps xs) = ((loadS (zipD ps xs)).map (·.data.toList)).flatten := by simp [loadS, flatL, Function.comp_def]
  rw [e, loadS_zip ps xs h]
theorem loadedB_zip (ps : List Prt) (xs : List ByteArray) (h : xs.length = ps.length) : loadedB (zipD ps xs) = xs.all fun x => decide (x.size = 64) := by
  have e : loadedB (zipD ps xs) = (loadS (zipD ps xs)).all fun x => decide (x.size = 64) := by simp [loadS, loadedB, Function.comp_def]
  rw [e, loadS_zip ps xs h]
theorem load_spoilt {seq row : Nat} {ps : List Prt} (hm : mayB row ps = true) (h1 : seq < 18446744073709551616) (k : Nat) (hk : k < ps.length) (i : Nat) (x : UInt8) (hi : i < 64) (s : ByteArray) (hs : s.data.toList = (((loadS ps).getD k ⟨#[]⟩).data.toList).set i x) (hx : (((loadS ps).getD k ⟨#[]⟩).data.toList).getD i 0 ≠ x) :
    decE12 ⟨(headB seq row (recSum ps) ps).toArray⟩ ((loadS ps).set k s) = 80 := by
  unfold mayB at hm
  rw [Bool.and_eq_true] at hm
  obtain ⟨hp, hl⟩ := hm
  have hkl : k < (loadS ps).length := by rw [loadS_len]; exact hk
  have hlen : ((loadS ps).set k s).length = ps.length := by rw [List.length_set, loadS_len]
  have hall : ∀ y ∈ loadS ps, y.size = 64 := fun y hy => by
    have := loadedB_zip ps (loadS ps) (loadS_len ps)
    rw [zipD_self, hl] at this
    have h2 := List.all_eq_true.1 this.symm y hy
    simpa using h2
  generalize hg : (loadS ps).getD k ⟨#[]⟩ = g at *
  have hgm : g ∈ loadS ps := by
    rw [← hg]
    simp [List.getD, hkl]
  have hgz : g.data.toList.length = 64 := by simpa using hall g hgm
  have hsz : s.size = 64 := by
    have h : s.data.toList.length = s.size := by simp
    rw [← h, hs, List.length_set, hgz]
  rw [(dec_of (sum := recSum ps) (xs := (loadS ps).set k s) hp h1 (cmore_lt 0 (flatL ps))).1, if_neg (by rw [hlen]; simp)]
  have hld : loadedB (zipD ps ((loadS ps).set k s)) = true := by
    rw [loadedB_zip _ _ hlen, List.all_eq_true]
    intro y hy
    rcases List.mem_or_eq_of_mem_set hy with h | h
    · simpa using hall y h
    · rw [h, hsz]; rfl
  rw [hld, if_pos rfl, if_neg]
  unfold recSum
  rw [flatL_zip _ _ hlen, flat_set _ _ hkl, hs]
  have e2 : flatL ps = ((loadS ps).map (·.data.toList)).flatten := by simp [loadS, flatL, Function.comp_def]
  rw [e2, flat_self _ k hkl, hg]
  have hil : i < g.data.toList.length := by rw [hgz]; exact hi
  have e3 : g.data.toList = g.data.toList.take i ++ g.data.toList.getD i 0 :: g.data.toList.drop (i + 1) := by
    have e := List.take_append_drop i g.data.toList
    rw [List.drop_eq_getElem_cons hil] at e
    simp only [List.getD, List.getElem?_eq_getElem hil, Option.getD_some]
    exact e.symm
  have e4 : g.data.toList.set i x = g.data.toList.take i ++ x :: g.data.toList.drop (i + 1) := by rw [List.set_eq_take_append_cons_drop, if_pos hil]
  rw [e4]
  generalize ((loadS ps).take k |>.map (·.data.toList)).flatten = P at *
  generalize ((loadS ps).drop (k + 1) |>.map (·.data.toList)).flatten = R at *
  intro h
  have h2 : cmore 0 (P ++ (g.data.toList.take i ++ x :: g.data.toList.drop (i + 1)) ++ R) = cmore 0 (P ++ (g.data.toList.take i ++ g.data.toList.getD i 0 :: g.data.toList.drop (i + 1)) ++ R) := by
    rw [h, ← e3]
  have h3 := cmore_one (P ++ g.data.toList.take i) (g.data.toList.drop (i + 1) ++ R) x (g.data.toList.getD i 0) (Ne.symm hx) 0
  apply h3
  have r : ∀ c : UInt8, P ++ g.data.toList.take i ++ c :: (g.data.toList.drop (i + 1) ++ R) = P ++ (g.data.toList.take i ++ c :: g.data.toList.drop (i + 1)) ++ R := fun c => by simp
  rw [r, r]
  exact h2
end Go.Proofs.Ythpehdmffleobaa
