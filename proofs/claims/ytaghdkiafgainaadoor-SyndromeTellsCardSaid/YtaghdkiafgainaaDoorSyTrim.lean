/- strings.Trim at the byte 0; what syndrome.Good takes for bytes 0. -/
import Derived.Test.YtaghdkiafgainaaDoorSyDelta
namespace Go.Proofs.YtaghdkiafgainaaDoor
set_option maxRecDepth 20000
open Go.RowKit Go.OpenShut

def dz (l : List UInt8) : List UInt8 := l.dropWhile (· == 0)
def dzr (l : List UInt8) : List UInt8 := (dz l.reverse).reverse
theorem dz_all (l : List UInt8) : dz l = [] ↔ ∀ x ∈ l, x = 0 := by
  induction l with
  | nil => simp [dz]
  | cons a l ih =>
    unfold dz at *
    rw [List.dropWhile_cons]
    by_cases h : a = 0
    · subst h; simp [ih]
    · simp [h]
theorem dzr_all (l : List UInt8) : dzr l = [] ↔ ∀ x ∈ l, x = 0 := by
  unfold dzr
  rw [List.reverse_eq_nil_iff, dz_all]
  simp
theorem dz_mem (l : List UInt8) (x : UInt8) (h : x ∈ l) (h0 : x ≠ 0) : x ∈ dz l := by
  induction l with
  | nil => cases h
  | cons a l ih =>
    unfold dz at *
    rw [List.dropWhile_cons]
    by_cases ha : a = 0
    · subst ha
      simp
      rcases List.mem_cons.1 h with rfl | h
      · exact absurd rfl h0
      · exact ih h
    · simp [ha]
      exact List.mem_cons.1 h
theorem trim_zero (l : List UInt8) : (dz (dzr l) == []) = zeroB l := by
  rw [Bool.eq_iff_iff, beq_iff_eq, zeroB, List.all_eq_true, dz_all]
  constructor
  · intro h x hx
    rw [beq_iff_eq]
    by_cases h0 : x = 0
    · exact h0
    · have h1 : x ∈ dz l.reverse := dz_mem _ _ (by simpa using hx) h0
      exact h x (by unfold dzr; simpa using h1)
  · intro h x hx
    unfold dzr dz at hx
    rw [List.mem_reverse] at hx
    have h1 := (List.dropWhile_sublist _).subset hx
    simpa using h x (by simpa using h1)
theorem dz_cons0 (T : List UInt8) (r : List UInt8) (h : T = 0 :: r) : dz T = dz r := by subst h; simp [dz]
theorem dz_stop (T : List UInt8) (h : T = [] ∨ T.getD 0 0 ≠ 0) : dz T = T := by
  cases T with
  | nil => rfl
  | cons a r =>
    rcases h with h | h
    · cases h
    · simp [dz, List.dropWhile_cons]
      intro e
      exact absurd e (by simpa using h)

theorem ext_list (s : ByteArray) (a b : Nat) : (s.extract a b).data.toList = (s.data.toList.drop a).take (b - a) := by
  rw [← Lib.toList_data, Lib.extract_toList]
theorem list_len (s : ByteArray) : s.data.toList.length = s.size := by simp
theorem getD_at (s : ByteArray) (k : Nat) (h : k < s.size) : s.data.toList.getD k 0 = s[k] := by simp [List.getD, h]; rfl
theorem mk_of {s : ByteArray} {l : List UInt8} (h : s.data.toList = l) : s = ⟨l.toArray⟩ := by rw [← h]

set_option maxHeartbeats 1000000 in
theorem trimL_any (w : World) (s : ByteArray) (hs : s.size ≤ 4294967295) :
    Calls Tryd.prog 32 #[.string s, .int .u8 0] w fun e w' => e = .returned (.string ⟨(dz s.data.toList).toArray⟩) ∧ w = w' := by
  obtain ⟨D, hD⟩ : ∃ D, dz s.data.toList = D := ⟨_, rfl⟩
  rw [hD]
  have HD := Lib.hid hD
  clear hD
  go_enter Tryd.func32, Tryd.ntmps32
  go_wp2
  go_loop [0] (fun v => ∃ T : ByteArray, v = .string T ∧ dz T.data.toList = D ∧ T.size ≤ 4294967295) (fun v => match v with | .string T => T.size | _ => 0)
  case atStart => exact ⟨s, rfl, HD.out, hs⟩
  case round =>
    obtain ⟨T, rfl, hT, hz⟩ := hrel
    have HT := Lib.hid hT
    clear hT
    by_cases h0 : 0 < T.size
    · have HG := Lib.hid (getD_at T 0 h0)
      by_cases h1 : T[0] = 0
      · have e1 : ((T[0].toNat : Int) == 0) = true := by rw [h1]; rfl
        go_wp2
        go_round
        case rel =>
          refine ⟨T.extract 1 T.size, rfl, ?_, by simp; omega⟩
          rw [ext_list, List.take_of_length_le (by simp)]
          rw [← HT.out]
          have h2 : T.data.toList = 0 :: T.data.toList.drop 1 := by
            have h3 := list_len T
            cases hc : T.data.toList with
            | nil => rw [hc] at h3; simp at h3; omega
            | cons a r =>
              have h4 := HG.out
              rw [hc, h1] at h4
              simp at h4
              rw [h4]
              rfl
          exact (dz_cons0 _ _ h2).symm
        case measure => simp; omega
      · have e1 : ((T[0].toNat : Int) == 0) = false := by
          rw [beq_eq_false_iff_ne]
          intro e
          exact h1 (UInt8.toNat_inj.1 (by simpa using e))
        go_wp2
        go_ret
        refine ⟨?_, rfl⟩
        rw [← HT.out, dz_stop _ (Or.inr (by rw [HG.out]; exact h1))]
        rfl
    · go_wp2
      go_ret
      refine ⟨?_, rfl⟩
      rw [← HT.out, dz_stop _ (Or.inl (List.eq_nil_of_length_eq_zero (by rw [list_len]; omega)))]
      rfl
theorem dzr_snoc0 (T : List UInt8) (r : List UInt8) (h : T = r ++ [0]) : dzr T = dzr r := by subst h; simp [dzr, dz]
theorem dzr_stop (T : List UInt8) (h : T = [] ∨ ∃ r x, T = r ++ [x] ∧ x ≠ 0) : dzr T = T := by
  rcases h with rfl | ⟨r, x, rfl, h⟩
  · rfl
  · unfold dzr
    rw [List.reverse_append, dz_stop _ (Or.inr (by simpa using h)), List.reverse_append, List.reverse_reverse]
    simp
theorem last_of (T : ByteArray) (n : Nat) (h : T.size = n + 1) : T.data.toList = T.data.toList.take n ++ [T[n]] := by
  have h1 := List.take_append_drop n T.data.toList
  have h2 : T.data.toList.drop n = [T[n]] := by
    have h3 : n < T.data.toList.length := by rw [list_len]; omega
    rw [List.drop_eq_getElem_cons h3, List.drop_of_length_le (by rw [list_len]; omega)]
    rfl
  rw [h2] at h1
  exact h1.symm
set_option maxHeartbeats 1000000 in
theorem trimR_any (w : World) (s : ByteArray) (hs : s.size ≤ 4294967295) :
    Calls Tryd.prog 33 #[.string s, .int .u8 0] w fun e w' => e = .returned (.string ⟨(dzr s.data.toList).toArray⟩) ∧ w = w' := by
  obtain ⟨D, hD⟩ : ∃ D, dzr s.data.toList = D := ⟨_, rfl⟩
  rw [hD]
  have HD := Lib.hid hD
  clear hD
  go_enter Tryd.func33, Tryd.ntmps33
  go_wp2
  go_loop [0] (fun v => ∃ T : ByteArray, v = .string T ∧ dzr T.data.toList = D ∧ T.size ≤ 4294967295) (fun v => match v with | .string T => T.size | _ => 0)
  case atStart => exact ⟨s, rfl, HD.out, hs⟩
  case round =>
    obtain ⟨T, rfl, hT, hz⟩ := hrel
    have HT := Lib.hid hT
    clear hT
    by_cases h0 : 0 < T.size
    · obtain ⟨n, hn⟩ : ∃ n, T.size = n + 1 := ⟨T.size - 1, by omega⟩
      have HL := Lib.hid (last_of T n hn)
      have hsub : (T.size : Int) - 1 = (n : Int) := by omega
      have hlt : n < T.size := by omega
      by_cases h1 : T[n] = 0
      · have e1 : ((T[n].toNat : Int) == 0) = true := by rw [h1]; rfl
        go_wp2
        go_round
        case rel =>
          refine ⟨T.extract 0 n, rfl, ?_, by simp; omega⟩
          rw [ext_list, List.drop_zero, Nat.sub_zero]
          rw [← HT.out]
          exact (dzr_snoc0 _ _ (by rw [← h1]; exact HL.out)).symm
        case measure => simp; omega
      · have e1 : ((T[n].toNat : Int) == 0) = false := by
          rw [beq_eq_false_iff_ne]
          intro e
          exact h1 (UInt8.toNat_inj.1 (by simpa using e))
        go_wp2
        go_ret
        refine ⟨?_, rfl⟩
        rw [← HT.out, dzr_stop _ (Or.inr ⟨_, _, HL.out, h1⟩)]
        rfl
    · go_wp2
      go_ret
      refine ⟨?_, rfl⟩
      rw [← HT.out, dzr_stop _ (Or.inl (List.eq_nil_of_length_eq_zero (by rw [list_len]; omega)))]
      rfl
theorem dzr_len (l : List UInt8) : (dzr l).length ≤ l.length := by
  unfold dzr dz
  rw [List.length_reverse]
  have := (List.dropWhile_sublist (· == (0 : UInt8)) (l := l.reverse)).length_le
  simpa using this
set_option maxHeartbeats 1000000 in
theorem trim_any (w : World) (s : ByteArray) (hs : s.size ≤ 4294967295) :
    Calls Tryd.prog 21 #[.string s, .string ⟨#[0]⟩] w fun e w' => e = .returned (.string ⟨(dz (dzr s.data.toList)).toArray⟩) ∧ Below w.heap.size w w' := by
  by_cases h0 : s = ⟨#[]⟩
  · subst h0
    go_enter Tryd.func21, Tryd.ntmps21
    go_wp2_with fail
    go_ret
    exact ⟨rfl, Below.refl _ _⟩
  · have e0 : s.toList.isEmpty = false := by
      rw [Lib.toList_data, List.isEmpty_eq_false_iff]
      intro e
      exact h0 (mk_of e)
    obtain ⟨R, hR⟩ : ∃ R, dzr s.data.toList = R := ⟨_, rfl⟩
    have hRl : R.length ≤ 4294967295 := by rw [← hR]; have := dzr_len s.data.toList; rw [list_len] at this; omega
    rw [hR]
    have HR := Lib.hid hR
    clear hR
    have hc : ((⟨#[0]⟩ : ByteArray)[0]'Nat.zero_lt_one) = 0 := rfl
    go_enter Tryd.func21, Tryd.ntmps21
    go_wp2_with fail
    refine wp_region_nf (fun Y => Below w.heap.size w Y) (fun _ => false) [(0, true), (1, true), (2, true), (4, true), (5, true), (3, false), (6, false), (7, true)] (by kernel_rfl) rfl (by kernel_rfl) (by kernel_rfl) (fun d _ _ _ _ h => by cases d <;> exact h) ?_
    have hbd := (Below.refl w.heap.size w).drew
    generalize w.drew = V at *
    repeat (refine nf_pure rfl hbd (fun Y hY => by clear hY; go_wp2; exact ⟨rfl, rfl, rfl⟩) rfl ?_ ?_; rfl)
    refine nf_imp rfl ?_
    go_wp2_with fail
    refine (trimR_any _ s hs).mono ?_
    rintro e W1 ⟨rfl, rfl⟩
    rw [HR.out]
    go_wp2_with fail
    refine ⟨fun _ => hbd, ?_⟩
    refine nf_imp rfl ?_
    go_wp2_with fail
    refine (trimL_any _ ⟨R.toArray⟩ (by rw [size_mk]; omega)).mono ?_
    rintro e W2 ⟨rfl, rfl⟩
    rw [mk_list]
    go_wp2_with fail
    refine ⟨fun _ => hbd, ?_⟩
    repeat (refine nf_pure rfl hbd (fun Y hY => by clear hY; go_wp2; exact ⟨rfl, rfl, rfl⟩) rfl ?_ ?_; rfl)
    refine nf_nil ?_
    go_wp2_with fail
    go_ret
    exact ⟨rfl, hbd⟩
theorem empty_mk (l : List UInt8) : ((⟨l.toArray⟩ : ByteArray).toList == []) = (l == []) := by rw [Lib.toList_data]
set_option maxHeartbeats 1000000 in
theorem good1_any (w : World) (s : ByteArray) (hs : s.size ≤ 4294967295) :
    Calls Tryd.prog 20 #[.string s] w fun e w' => e = .returned (.bool (zeroB s.data.toList)) ∧ Below w.heap.size w w' := by
  have h := trim_zero s.data.toList
  obtain ⟨R, hR⟩ : ∃ R, dz (dzr s.data.toList) = R := ⟨_, rfl⟩
  have HT := Lib.hid (trim_any w s hs)
  rw [hR] at HT h
  clear hR
  rw [← h]
  clear h
  go_enter Tryd.func20, Tryd.ntmps20
  go_wp2_with fail
  refine HT.out.mono ?_
  rintro e W2 ⟨rfl, hb⟩
  go_wp2_with fail
  go_ret
  refine ⟨?_, hb⟩
  have e : R.isEmpty = (R == []) := by cases R <;> rfl
  rw [← e]
  rfl
end Go.Proofs.YtaghdkiafgainaaDoor
