/- Own texts, joined: FillP, PutP, Apl0, RcPl0, Whl, Cre, Miss, Dir0, StZ. -/
import Derived.Test.YtmhmdoobadckkaaGreatDoorTj4
import Derived.Test.YtmhmdoobadckkaaGreatDoorTj6
import Derived.Test.YtmhmdoobadckkaaGreatDoorTj7
import Derived.Test.YtmhmdoobadckkaaGreatDoorTj8
import Derived.Test.YtmhmdoobadckkaaGreatDoorTj9
import Derived.Deep.DeepCutAuto
/- What two columns of a row come to, if they are lost: the plain law of refill. -/
namespace Go.Proofs.YtmhmdoobadckkaaGreatDoor
set_option maxRecDepth 20000
open Go.RowKit Go.OpenShut

/-- a row of n data columns, with its own P and Q, all of m bytes -/
structure Stripe (n m : Nat) (T : List ByteArray) : Prop where
  len : T.length = n + 2
  size : ∀ i, i < n + 2 → (T.getD i ⟨#[]⟩).size = m
  p : (T.getD n ⟨#[]⟩).data.toList = addL (T.take n)
  q : (T.getD (n + 1) ⟨#[]⟩).data.toList = qL (T.take n)
theorem bytes_ext {a b : ByteArray} (h : a.data.toList = b.data.toList) : a = b := by
  cases a; cases b
  congr 1
  exact Array.toList_inj.1 h
theorem mk_data (a : ByteArray) : (⟨a.data.toList.toArray⟩ : ByteArray) = a := by simp
theorem size_list (a : ByteArray) : a.data.toList.length = a.size := by simp
section
variable {n m : Nat} {T : List ByteArray}
theorem getD_take {l : List ByteArray} {k i : Nat} (h : i < k) : (l.take k).getD i ⟨#[]⟩ = l.getD i ⟨#[]⟩ := by
  simp [List.getD, h]
theorem take_setB {l : List ByteArray} {k i : Nat} (z : ByteArray) : (l.set i z).take k = (l.take k).set i z := List.take_set ..
theorem getD_set_eq {l : List ByteArray} {i : Nat} (h : i < l.length) (z : ByteArray) : (l.set i z).getD i ⟨#[]⟩ = z := by simp [List.getD, h]
theorem getD_set_ne {l : List ByteArray} {i j : Nat} (h : i ≠ j) (z : ByteArray) : (l.set i z).getD j ⟨#[]⟩ = l.getD j ⟨#[]⟩ := by simp [List.getD, h]
theorem set_beyond {l : List ByteArray} {i : Nat} (h : l.length ≤ i) (z : ByteArray) : l.set i z = l := List.set_eq_of_length_le h
def zeros (m : Nat) : ByteArray := ⟨(List.replicate m (0 : UInt8)).toArray⟩
theorem zeros_size (m : Nat) : (zeros m).size = m := by unfold zeros; rw [size_mk, List.length_replicate]
theorem zeros_at (m j : Nat) : (zeros m).data.toList.getD j 0 = 0 := by
  simp [zeros, List.getD, List.getElem?_replicate]
  split <;> rfl
theorem mul_zeros (m b j : Nat) : (mulL (zeros m).data.toList b).getD j 0 = 0 := by rw [mulL_getD, zeros_at, u8_zero_gm]
theorem xor_can (a b : UInt8) : (a ^^^ b) ^^^ a = b := by rw [UInt8.xor_comm a b, UInt8.xor_assoc, UInt8.xor_self, UInt8.xor_zero]
theorem xor_can2 (a b : UInt8) : (a ^^^ b) ^^^ b = a := by rw [UInt8.xor_assoc, UInt8.xor_self, UInt8.xor_zero]
theorem Stripe.add_len (h : Stripe n m T) : (addL (T.take n)).length = m := by rw [← h.p, size_list, h.size n (by omega)]
theorem Stripe.q_len (h : Stripe n m T) : (qL (T.take n)).length = m := by rw [← h.q, size_list, h.size (n + 1) (by omega)]
theorem Stripe.at_len (h : Stripe n m T) {i : Nat} (hi : i < n + 2) : (T.getD i ⟨#[]⟩).data.toList.length = m := by rw [size_list, h.size i hi]
theorem addL_len2 (l : List ByteArray) (hl : ∀ i, i < l.length → (l.getD i ⟨#[]⟩).size = m) (h0 : 0 < l.length) : (addL l).length = m := by
  induction l using snoc_ind with
  | h0 => simp at h0
  | h1 xs x ih =>
    rw [addL_snoc, xorL_length, size_list]
    have hx := hl xs.length (by simp)
    have e : (xs ++ [x]).getD xs.length ⟨#[]⟩ = x := by simp [List.getD]
    rw [e] at hx
    rcases Nat.eq_zero_or_pos xs.length with h | h
    · have : xs = [] := List.eq_nil_of_length_eq_zero h
      subst this
      rw [hx]
      simp [addL_nil]
    · rw [ih (fun i hi => by
        have := hl i (by simp; omega)
        have e : (xs ++ [x]).getD i ⟨#[]⟩ = xs.getD i ⟨#[]⟩ := by simp [List.getD, List.getElem?_append_left hi]
        rwa [e] at this) h, hx]
      simp
theorem qL_len2 (l : List ByteArray) (hl : ∀ i, i < l.length → (l.getD i ⟨#[]⟩).size = m) (h0 : 0 < l.length) : (qL l).length = m := by
  induction l using snoc_ind with
  | h0 => simp at h0
  | h1 xs x ih =>
    rw [qL_snoc, xorL_length, mulL_len, size_list]
    have hx := hl xs.length (by simp)
    have e : (xs ++ [x]).getD xs.length ⟨#[]⟩ = x := by simp [List.getD]
    rw [e] at hx
    rcases Nat.eq_zero_or_pos xs.length with h | h
    · have : xs = [] := List.eq_nil_of_length_eq_zero h
      subst this
      rw [hx]
      simp [qL_nil]
    · rw [ih (fun i hi => by
        have := hl i (by simp; omega)
        have e : (xs ++ [x]).getD i ⟨#[]⟩ = xs.getD i ⟨#[]⟩ := by simp [List.getD, List.getElem?_append_left hi]
        rwa [e] at this) h, hx]
      simp
/-- the sums of a row of which some columns are others -/
theorem sumP_at {C : List ByteArray} (hC : C.length = n + 2) : sumPL C = xorL (addL (C.take n)) (C.getD n ⟨#[]⟩).data.toList := by
  unfold sumPL
  rw [hC, if_neg (by omega), Nat.add_sub_cancel]
theorem sumQ_at {C : List ByteArray} (hC : C.length = n + 2) : sumQL C = xorL (qL (C.take n)) (C.getD (n + 1) ⟨#[]⟩).data.toList := by
  unfold sumQL
  rw [hC, if_neg (by omega), Nat.add_sub_cancel]
/-- one data column is bytes 0 -/
theorem Stripe.one_p (h : Stripe n m T) {i : Nat} (hi : i < n) {C : List ByteArray} (hC : C.length = n + 2) (h1 : C.take n = (T.take n).set i (zeros m)) (h2 : C.getD n ⟨#[]⟩ = T.getD n ⟨#[]⟩) :
    sumPL C = (T.getD i ⟨#[]⟩).data.toList := by
  have hl := h.len
  rw [sumP_at hC, h1, h2]
  refine list_ext ?_ (fun j _ => ?_)
  · rw [xorL_length, h.at_len (by omega), h.at_len (by omega), addL_len2 (m := m)]
    · simp
    · intro k hk
      rw [List.length_set, List.length_take] at hk
      by_cases e : i = k
      · subst e
        rw [getD_set_eq (by rw [List.length_take]; omega), zeros_size]
      · rw [getD_set_ne e, getD_take (by omega), h.size k (by omega)]
    · rw [List.length_set, List.length_take]; omega
  · rw [xorL_getD, addL_set j _ _ i (by rw [List.length_take]; omega), h.p, getD_take hi, zeros_at, UInt8.xor_zero, xor_can]
theorem Stripe.one_q (h : Stripe n m T) {i : Nat} (hi : i < n) {C : List ByteArray} (hC : C.length = n + 2) (h1 : C.take n = (T.take n).set i (zeros m)) (h2 : C.getD (n + 1) ⟨#[]⟩ = T.getD (n + 1) ⟨#[]⟩) :
    sumQL C = mulL (T.getD i ⟨#[]⟩).data.toList (pw i) := by
  have hl := h.len
  rw [sumQ_at hC, h1, h2]
  refine list_ext ?_ (fun j _ => ?_)
  · rw [xorL_length, h.at_len (by omega), mulL_len, h.at_len (by omega), qL_len2 (m := m)]
    · simp
    · intro k hk
      rw [List.length_set, List.length_take] at hk
      by_cases e : i = k
      · subst e
        rw [getD_set_eq (by rw [List.length_take]; omega), zeros_size]
      · rw [getD_set_ne e, getD_take (by omega), h.size k (by omega)]
    · rw [List.length_set, List.length_take]; omega
  · rw [xorL_getD, qL_set j _ _ i (by rw [List.length_take]; omega), h.q, getD_take hi, mul_zeros, UInt8.xor_zero, xor_can]
/-- two are -/
theorem Stripe.two_p (h : Stripe n m T) {i k : Nat} (hi : i < n) (hk : k < n) (hik : i ≠ k) {C : List ByteArray} (hC : C.length = n + 2) (h1 : C.take n = ((T.take n).set i (zeros m)).set k (zeros m)) (h2 : C.getD n ⟨#[]⟩ = T.getD n ⟨#[]⟩) :
    sumPL C = xorL (T.getD i ⟨#[]⟩).data.toList (T.getD k ⟨#[]⟩).data.toList := by
  have hl := h.len
  rw [sumP_at hC, h1, h2]
  refine list_ext ?_ (fun j _ => ?_)
  · rw [xorL_length, xorL_length, h.at_len (by omega), h.at_len (by omega), h.at_len (by omega), addL_len2 (m := m)]
    · intro x hx
      rw [List.length_set, List.length_set, List.length_take] at hx
      by_cases e : k = x
      · subst e
        rw [getD_set_eq (by rw [List.length_set, List.length_take]; omega), zeros_size]
      · rw [getD_set_ne e]
        by_cases e : i = x
        · subst e
          rw [getD_set_eq (by rw [List.length_take]; omega), zeros_size]
        · rw [getD_set_ne e, getD_take (by omega), h.size x (by omega)]
    · rw [List.length_set, List.length_set, List.length_take]; omega
  · rw [xorL_getD, xorL_getD, addL_set j _ _ k (by rw [List.length_set, List.length_take]; omega), addL_set j _ _ i (by rw [List.length_take]; omega), h.p, getD_set_ne hik, getD_take hi, getD_take hk, zeros_at, UInt8.xor_zero, UInt8.xor_zero,
      UInt8.xor_assoc ((addL (T.take n)).getD j 0), xor_can]
theorem Stripe.two_q (h : Stripe n m T) {i k : Nat} (hi : i < n) (hk : k < n) (hik : i ≠ k) {C : List ByteArray} (hC : C.length = n + 2) (h1 : C.take n = ((T.take n).set i (zeros m)).set k (zeros m)) (h2 : C.getD (n + 1) ⟨#[]⟩ = T.getD (n + 1) ⟨#[]⟩) :
    sumQL C = xorL (mulL (T.getD i ⟨#[]⟩).data.toList (pw i)) (mulL (T.getD k ⟨#[]⟩).data.toList (pw k)) := by
  have hl := h.len
  rw [sumQ_at hC, h1, h2]
  refine list_ext ?_ (fun j _ => ?_)
  · rw [xorL_length, xorL_length, mulL_len, mulL_len, h.at_len (by omega), h.at_len (by omega), h.at_len (by omega), qL_len2 (m := m)]
    · intro x hx
      rw [List.length_set, List.length_set, List.length_take] at hx
      by_cases e : k = x
      · subst e
        rw [getD_set_eq (by rw [List.length_set, List.length_take]; omega), zeros_size]
      · rw [getD_set_ne e]
        by_cases e : i = x
        · subst e
          rw [getD_set_eq (by rw [List.length_take]; omega), zeros_size]
        · rw [getD_set_ne e, getD_take (by omega), h.size x (by omega)]
    · rw [List.length_set, List.length_set, List.length_take]; omega
  · rw [xorL_getD, xorL_getD, qL_set j _ _ k (by rw [List.length_set, List.length_take]; omega), qL_set j _ _ i (by rw [List.length_take]; omega), h.q, getD_set_ne hik, getD_take hi, getD_take hk, mul_zeros, mul_zeros, UInt8.xor_zero, UInt8.xor_zero,
      UInt8.xor_assoc ((qL (T.take n)).getD j 0), xor_can]
/-- what is told by P, by Q, by both -/
theorem xor_zeros (l : List UInt8) (h : l.length = m) : xorL (zeros m).data.toList l = l := by
  refine list_ext ?_ (fun j _ => ?_)
  · rw [xorL_length, size_list, zeros_size, h]; simp
  · rw [xorL_getD, zeros_at, UInt8.zero_xor]
theorem pw_back (i : Nat) : gm (pw i) (pw ((-(i : Int)) % 255).toNat) = 1 := by
  rw [gm_pp, ← pw_mod]
  have : (i + ((-(i : Int)) % 255).toNat) % 255 = 0 := by omega
  rw [this]
  rfl
theorem mul_back (l : List UInt8) (i : Nat) : mulL (mulL l (pw i)) (pw ((-(i : Int)) % 255).toNat) = l := by
  rw [lin5 _ _ _ (pw_lt _) (pw_lt _), pw_back, lin7]
theorem pw_apart {i k : Nat} (hi : i < 255) (hk : k < 255) (h : i ≠ k) : pw i ^^^ pw k ≠ 0 := by
  intro e
  have h2 := Nat.xor_assoc (pw i) (pw k) (pw k)
  rw [e, Nat.xor_self, Nat.xor_zero, Nat.zero_xor] at h2
  exact h (pw_inj hi hk h2.symm)
theorem both_k (s t : List UInt8) (i k : Nat) (hi : i < 255) (hk : k < 255) (h : i ≠ k) (hl : s.length = t.length) :
    mulL (xorL (xorL (mulL s (pw i)) (mulL t (pw k))) (mulL (xorL s t) (pw i))) (inv (pw i ^^^ pw k)) = t := by
  have e : xorL (xorL (mulL s (pw i)) (mulL t (pw k))) (mulL (xorL s t) (pw i)) = mulL t (pw i ^^^ pw k) := by
    rw [lin4 _ _ _ (pw_lt _), ← lin6 t _ _ (pw_lt _) (pw_lt _)]
    refine list_ext ?_ (fun j _ => ?_)
    · simp only [xorL_length, mulL_len]; omega
    · simp only [xorL_getD]
      rw [UInt8.xor_comm ((mulL s (pw i)).getD j 0), UInt8.xor_assoc, ← UInt8.xor_assoc ((mulL s (pw i)).getD j 0), UInt8.xor_self, UInt8.zero_xor, UInt8.xor_comm]
  rw [e, lin5 _ _ _ (xor_lt (pw_lt _) (pw_lt _)) (inv_lt _), gm_inv (xor_lt (pw_lt _) (pw_lt _)) (pw_apart hi hk h), lin7]
theorem both_i (s t : List UInt8) (hl : s.length = t.length) : xorL (xorL s t) t = s := by
  refine list_ext ?_ (fun j _ => ?_)
  · simp only [xorL_length]; omega
  · simp only [xorL_getD]
    rw [xor_can2]
/-- a row whose data are known -/
theorem Stripe.of_data {xs : List ByteArray} (h0 : 0 < xs.length) (h : ∀ x ∈ xs, x.size = m) : Stripe xs.length m (fullS xs) := by
  have hg : ∀ i, i < xs.length → (xs.getD i ⟨#[]⟩).size = m := fun i hi => by
    have e : xs.getD i ⟨#[]⟩ = xs[i] := by simp [List.getD, hi]
    rw [e]
    exact h _ (List.getElem_mem hi)
  have h1 : (fullS xs).take xs.length = xs := by simp [fullS]
  have h2 : (fullS xs).getD xs.length ⟨#[]⟩ = ⟨(addL xs).toArray⟩ := by simp [fullS, List.getD]
  have h3 : (fullS xs).getD (xs.length + 1) ⟨#[]⟩ = ⟨(qL xs).toArray⟩ := by simp [fullS, List.getD]
  refine ⟨fullS_len xs, fun i hi => ?_, by rw [h1, h2], by rw [h1, h3]⟩
  rcases Nat.lt_or_ge i xs.length with e | e
  · have : (fullS xs).getD i ⟨#[]⟩ = xs.getD i ⟨#[]⟩ := by simp [fullS, List.getD, List.getElem?_append_left e]
    rw [this]
    exact hg i e
  · rcases (show i = xs.length ∨ i = xs.length + 1 by omega) with rfl | rfl
    · rw [h2, size_mk, addL_len2 xs hg h0]
    · rw [h3, size_mk, qL_len2 xs hg h0]
/-- a stripe is known by its data -/
theorem Stripe.eq_full (h : Stripe n m T) : T = fullS (T.take n) := by
  have hl := h.len
  have hp : T.getD n ⟨#[]⟩ = ⟨(addL (T.take n)).toArray⟩ := bytes_ext (by rw [h.p])
  have hq : T.getD (n + 1) ⟨#[]⟩ = ⟨(qL (T.take n)).toArray⟩ := bytes_ext (by rw [h.q])
  have e : T.drop n = [T.getD n ⟨#[]⟩, T.getD (n + 1) ⟨#[]⟩] := by
    apply List.ext_getElem
    · simp; omega
    · intro i h1 h2
      simp at h2
      have h3 : n < T.length := by omega
      have h4 : n + 1 < T.length := by omega
      rcases (show i = 0 ∨ i = 1 by omega) with rfl | rfl
      · simp [List.getD, h3]
      · simp [List.getD, h4]
  unfold fullS
  rw [← hp, ← hq, ← e, List.take_append_drop]
end
end Go.Proofs.YtmhmdoobadckkaaGreatDoor
/- What a row's parts make of its drives: plain. -/
namespace Go.Proofs.YtmhmdoobadckkaaGreatDoor
set_option maxRecDepth 20000
open Go.RowKit Go.OpenShut

theorem stepD_other {F : Drv → Drv} {σ : Nat → Option Drv} {p : Option Nat} {g : Nat} (h : p ≠ some g) : stepD F σ p g = σ g := by
  cases p with
  | none => rfl
  | some q =>
    unfold stepD
    cases hD : σ q with
    | none => simp only [hD]
    | some E =>
      simp only [hD]
      by_cases e : E.dead = true
      · rw [if_pos e]
      · rw [if_neg e]
        exact upd_other _ _ (fun e => h (by rw [e]))
theorem stepD_dead {F : Drv → Drv} {σ : Nat → Option Drv} {p : Option Nat} {g : Nat} {D : Drv} (hD : σ g = some D) (hd : D.dead = true) : stepD F σ p g = σ g := by
  by_cases e : p = some g
  · subst e
    unfold stepD
    simp only [hD, hd, if_true]
  · exact stepD_other e
theorem stepD_same {F : Drv → Drv} {σ : Nat → Option Drv} {g : Nat} {D : Drv} (hD : σ g = some D) (hd : D.dead = false) : stepD F σ (some g) g = some (F D) := by
  unfold stepD
  simp only [hD, hd, Bool.false_eq_true, if_false]
  exact upd_same _ _ _
theorem steps_other {F : Drv → Drv} {g : Nat} : ∀ (l : List (Option Nat)) {σ : Nat → Option Drv}, (∀ p ∈ l, p ≠ some g) → l.foldl (stepD F) σ g = σ g
  | [], _, _ => rfl
  | p :: l, _, h => (steps_other l (fun q hq => h q (by simp [hq]))).trans (stepD_other (h p (by simp)))
theorem steps_dead {F : Drv → Drv} {g : Nat} {D : Drv} (hd : D.dead = true) : ∀ (l : List (Option Nat)) {σ : Nat → Option Drv}, σ g = some D → l.foldl (stepD F) σ g = some D
  | [], _, h => h
  | _p :: l, _, h => steps_dead hd l ((stepD_dead h hd).trans h)
/-- each drive stands once in a list -/
def Once (l : List (Option Nat)) : Prop := ∀ c c' g, l.getD c none = some g → l.getD c' none = some g → c = c'
theorem Once.mem {l : List (Option Nat)} {g : Nat} (h : some g ∈ l) : ∃ c, c < l.length ∧ l.getD c none = some g := by
  obtain ⟨c, hc, e⟩ := List.mem_iff_getElem.1 h
  exact ⟨c, hc, by simp [List.getD, hc, e]⟩
theorem Once.tail {p : Option Nat} {l : List (Option Nat)} (h : Once (p :: l)) : Once l := fun c c' g h1 h2 => by
  have := h (c + 1) (c' + 1) g h1 h2
  omega
theorem Once.head {g : Nat} {l : List (Option Nat)} (h : Once (some g :: l)) : ∀ q ∈ l, q ≠ some g := fun q hq e => by
  subst e
  obtain ⟨c, _, hc⟩ := Once.mem hq
  have := h 0 (c + 1) g rfl hc
  omega
theorem steps_once {F : Drv → Drv} {g : Nat} {D : Drv} (hd : D.dead = false) : ∀ (l : List (Option Nat)) {σ : Nat → Option Drv}, Once l → some g ∈ l → σ g = some D → l.foldl (stepD F) σ g = some (F D)
  | [], _, _, h, _ => by cases h
  | p :: l, σ, ho, hm, hD => by
    by_cases e : p = some g
    · subst e
      exact (steps_other l ho.head).trans (stepD_same hD hd)
    · have hm' : some g ∈ l := by
        rcases List.mem_cons.1 hm with h | h
        · exact absurd h.symm e
        · exact h
      exact steps_once hd l ho.tail hm' ((stepD_other e).trans hD)
section
variable {S : RS} {σ : Nat → Option Drv} {row off : Nat} {ys : List Sec} {want : Nat → Bool}
theorem puts_other {g : Nat} : ∀ (ps : List Prt) {σ : Nat → Option Drv}, (∀ p ∈ ps, S.ds.getD p.col.toNat none ≠ some g) → ps.foldl (putS S row) σ g = σ g
  | [], _, _ => rfl
  | p :: ps, _, h => (puts_other ps (fun q hq => h q (by simp [hq]))).trans (stepD_other (h p (by simp)))
theorem puts_dead {g : Nat} {D : Drv} (hd : D.dead = true) : ∀ (ps : List Prt) {σ : Nat → Option Drv}, σ g = some D → ps.foldl (putS S row) σ g = some D
  | [], _, h => h
  | _p :: ps, _, h => puts_dead hd ps ((stepD_dead h hd).trans h)
/-- a drive that is none of the set's -/
theorem putσ_other {g : Nat} (hg : some g ∉ S.ds) (ps : List Prt) : putσ S row σ ps g = σ g := by
  unfold putσ
  rw [steps_other _ (fun p hp e => hg (e ▸ hp)), puts_other _ (fun p _ e => hg (by
    rcases Nat.lt_or_ge p.col.toNat S.ds.length with h | h
    · rw [← e]; exact getD_mem h
    · simp [List.getD, List.getElem?_eq_none h] at e))]
theorem putσ_dead {g : Nat} {D : Drv} (hD : σ g = some D) (hd : D.dead = true) (ps : List Prt) : putσ S row σ ps g = some D :=
  steps_dead hd _ (puts_dead hd ps hD)
theorem aliveB_of {σ : Nat → Option Drv} {g : Nat} {D : Drv} (hD : σ g = some D) (hd : D.dead = false) : aliveB σ (some g) = true := by
  unfold aliveB
  simp only [hD, hd]
  rfl
/-- the drive of role x, behind the parts of the first j roles -/
theorem parts_at (h0 : 0 < S.n) (ho : Once S.ds) {x g : Nat} {D : Drv} (hx : x < S.n) (hg : S.ds.getD (lcol S.n row x) none = some g) (hD : σ g = some D) (hd : D.dead = false) :
    ∀ j, j ≤ S.n → (partsT S σ row off ys want j).foldl (putS S row) σ g = some (if want x && decide (x < j) then D.wrOK (lsec S.k row off : Int) (ys.getD x ⟨#[]⟩) else D)
  | 0, _ => by simp [partsT, hD]
  | j + 1, hj => by
    have ih := parts_at h0 ho hx hg hD hd j (by omega)
    unfold partsT
    rw [List.foldl_append]
    generalize (partsT S σ row off ys want j).foldl (putS S row) σ = σj at *
    by_cases e : x = j
    · subst e
      rw [if_neg (by simp)] at ih
      rw [hg, aliveB_of hD hd, Bool.and_true]
      cases hw : want x with
      | false => simpa using ih
      | true =>
        simp only [if_true, List.foldl_cons, List.foldl_nil]
        unfold putS
        simp only [Int.toNat_natCast, hg]
        rw [stepD_same ih hd]
        simp [putD]
    · have e1 : decide (x < j + 1) = decide (x < j) := by
        rw [decide_eq_decide]; omega
      rw [e1, ← ih]
      split
      · simp only [List.foldl_cons, List.foldl_nil]
        refine stepD_other (fun e2 => ?_)
        simp only [Int.toNat_natCast] at e2
        have := ho _ _ _ e2 hg
        exact e (lcol_inj h0 (by omega) hx this).symm
      · rfl
theorem put_at (h0 : 0 < S.n) (hl : S.ds.length = S.n) (ho : Once S.ds) {x g : Nat} {D : Drv} (hx : x < S.n) (hg : S.ds.getD (lcol S.n row x) none = some g) (hD : σ g = some D) (hd : D.dead = false) :
    putσ S row σ (partsT S σ row off ys want S.n) g = some (if want x then (D.wrOK (lsec S.k row off : Int) (ys.getD x ⟨#[]⟩)).flOK else D.flOK) := by
  have h1 := parts_at (off := off) (ys := ys) (want := want) h0 ho hx hg hD hd S.n (Nat.le_refl _)
  rw [decide_eq_true hx, Bool.and_true] at h1
  unfold putσ
  have hm : some g ∈ S.ds := by rw [← hg]; exact getD_mem (by rw [hl]; exact lcol_lt row x h0)
  rw [steps_once (D := if want x then D.wrOK (lsec S.k row off : Int) (ys.getD x ⟨#[]⟩) else D) (by split <;> exact hd) S.ds ho hm h1]
  split <;> rfl
end
/-! ### what a role's sector gives -/
/-- role x's drive is there, whole up to this row, and its sector is well: it gives t -/
theorem RS.sec_of {S : RS} {σ : Nat → Option Drv} {row off x g : Nat} {D : Drv} (hb : S.blt σ row x = some g) (hD : σ g = some D) (hu : D.up) (hn : (lsec S.k row off : Int) < D.n) :
    S.secE σ row off x = (if (lsec S.k row off : Int) ∈ D.spoilt then 41 else 0) ∧ S.secS σ row off x = (if (lsec S.k row off : Int) ∈ D.spoilt then ⟨#[]⟩ else D.cur (lsec S.k row off : Int)) := by
  unfold RS.secE RS.secS
  rw [hb]
  simp only [hD]
  have hE := hu.readE (i := (lsec S.k row off : Int)) (by omega) hn
  refine ⟨hE, ?_⟩
  unfold Drv.readS
  rw [hE]
  split <;> rfl
/-- as far as a row is read, it is T -/
def Agree (S : RS) (σ : Nat → Option Drv) (row off : Nat) (T : List Sec) : Prop := ∀ x, x < S.n → S.secE σ row off x = 0 → S.secS σ row off x = T.getD x ⟨#[]⟩
theorem RS.blt_put {S : RS} {σ σ' : Nat → Option Drv} (h : ∀ p ∈ S.ds, aliveB σ' p = aliveB σ p) (h0 : 0 < S.n) (hl : S.ds.length = S.n) (row x : Nat) : S.blt σ' row x = S.blt σ row x := by
  unfold RS.blt
  rw [RS.there_eq, RS.there_eq, h _ (getD_mem (by rw [hl]; exact lcol_lt row x h0))]
theorem putσ_alive {S : RS} {σ : Nat → Option Drv} {row m : Nat} (hf : FineM σ S.ds S.need m) (hm : m + S.n ≤ 1000) (hr : row < S.r) {ps : List Prt} (hp : ∀ p ∈ ps, p.fits S.n S.k) (hpl : ps.length ≤ S.n) : ∀ q, aliveB (putσ S row σ ps) q = aliveB σ q := by
  have hps : ∀ (ps : List Prt) {σ : Nat → Option Drv} {m : Nat}, FineM σ S.ds S.need m → m + ps.length ≤ 1000 → (∀ p ∈ ps, p.fits S.n S.k) → ∀ q, aliveB (ps.foldl (putS S row) σ) q = aliveB σ q := by
    intro ps
    induction ps with
    | nil => intro σ m _ _ _ q; rfl
    | cons p ps ih =>
      intro σ m hf hm hp q
      have hpp := hp p (by simp)
      simp only [List.length_cons] at hm
      have h1 := ih (hf.put hpp hr) (by omega) (fun r hr => hp r (by simp [hr])) q
      refine h1.trans ?_
      obtain ⟨p1, p2, p3, p4, p5⟩ := hpp
      have hls := lsec_need (S := S) (row := row) (off := p.off.toNat) hr (by omega)
      unfold putS stepD
      cases hq : S.ds.getD p.col.toNat none with
      | none => rfl
      | some r =>
        cases hD : σ r with
        | none => simp only [hD]
        | some E =>
          simp only [hD]
          cases hdd : E.dead with
          | true => rw [if_pos rfl]
          | false =>
            rw [if_neg (by simp)]
            cases q with
            | none => rfl
            | some g =>
              by_cases e : g = r
              · subst e
                have h9 : (putD S row p E).dead = false := hdd
                simp [aliveB, upd_same, hD, hdd, h9]
              · simp [aliveB, upd_other _ _ e]
  intro q
  have h1 := hps ps hf (by omega) hp q
  unfold putσ
  refine (alive_steps (k := S.need) (ds := S.ds) ?_ S.ds ((FineM.puts hr ps hf hp).fine (by omega)) (fun p hp => hp) q).trans h1
  exact fun D hu hn _ => ⟨hu.flOK.1, hu.flOK.2, (Drv.flOK_pl _).mono (by omega)⟩
section
variable {S : RS} {σ : Nat → Option Drv} {row off : Nat}
/-- the drive of a role, before and behind a row's parts -/
theorem put_role {m : Nat} (hg : geoOK S.n S.k S.r = true) (hl : S.ds.length = S.n) (hn : Once S.ds) (hf : FineM σ S.ds S.need m) {ys : List Sec} {want : Nat → Bool} (row' : Nat) {x g : Nat} (_hx : x < S.n)
    (hb : S.blt σ row' x = some g) : ∃ D, σ g = some D ∧ D.up ∧ S.need ≤ D.n ∧ S.ds.getD (lcol S.n row' x) none = some g ∧ ∃ y, y < S.n ∧ lcol S.n row y = lcol S.n row' x ∧
      putσ S row σ (partsT S σ row off ys want S.n) g = some (if want y then (D.wrOK (lsec S.k row off : Int) (ys.getD y ⟨#[]⟩)).flOK else D.flOK) := by
  obtain ⟨hn1, _⟩ := geo_bd hg
  have h0 : 0 < S.n := by omega
  obtain ⟨hmem, D, hD, hd⟩ := RS.blt_some hb
  obtain ⟨D', h1, h2, h3, h4, h5⟩ := hf g hmem
  rw [hD] at h1
  cases h1
  have hcol : S.ds.getD (lcol S.n row' x) none = some g := by
    unfold RS.blt at hb
    split at hb
    · cases hb
    · exact (RS.there_some hb).1
  have hc := lcol_lt row' x h0
  refine ⟨D, hD, ⟨h2, hd, h3⟩, h4, hcol, lrole S.n row (lcol S.n row' x), lrole_lt h0, lcol_lrole h0 hc, ?_⟩
  exact put_at h0 hl hn (lrole_lt h0) (by rw [lcol_lrole h0 hc]; exact hcol) hD hd
end
/-- an up drive's sector, behind a write and a flush -/
theorem Drv.up.put_read {D : Drv} (h : D.up) {i j : Int} {s : Sec} (h0 : 0 ≤ i) (h1 : i < D.n) (hj : 0 ≤ j) (hs : s.size = 64) :
    (D.wrOK i s).flOK.up ∧ (D.wrOK i s).flOK.n = D.n ∧ (D.wrOK i s).flOK.cur j = (if j = i then s else D.cur j) ∧ (j ∈ (D.wrOK i s).flOK.spoilt ↔ j ≠ i ∧ j ∈ D.spoilt) := by
  obtain ⟨a1, a2⟩ := h.wrOK h0 h1 hs
  obtain ⟨b1, b2⟩ := a1.flOK
  refine ⟨b1, b2.trans a2, ?_, ?_⟩
  · rw [Drv.cur_flOK a1.1 hj, Drv.cur_wrOK]
  · show j ∈ D.spoilt.erase i ↔ _
    rw [h.1.spN.mem_erase_iff]
theorem Drv.up.fl_read {D : Drv} (h : D.up) {j : Int} (hj : 0 ≤ j) : D.flOK.up ∧ D.flOK.n = D.n ∧ D.flOK.cur j = D.cur j ∧ D.flOK.spoilt = D.spoilt :=
  ⟨h.flOK.1, h.flOK.2, Drv.cur_flOK h.1 hj, rfl⟩
section
variable {S : RS} {σ : Nat → Option Drv} {row off m : Nat} {ys : List Sec} {want : Nat → Bool} (hg : geoOK S.n S.k S.r = true) (hl : S.ds.length = S.n) (hn : Once S.ds) (hf : FineM σ S.ds S.need m) (hm : m + S.n ≤ 1000) (hr : row < S.r) (ho : off < S.k) (hy : ∀ x, x < S.n → (ys.getD x ⟨#[]⟩).size = 64)
include hg hl hn hf hm hr ho hy
theorem put_blt (row' x : Nat) : S.blt (putσ S row σ (partsT S σ row off ys want S.n)) row' x = S.blt σ row' x := by
  have _ := hn
  obtain ⟨hn1, _⟩ := geo_bd hg
  exact RS.blt_put (fun p _ => putσ_alive hf hm hr (partsT_fits (by omega) ho (Nat.le_refl _) hy) (partsT_len ..) p) (by omega) hl row' x
/-- the row itself -/
theorem put_sec (x : Nat) (hx : x < S.n) :
    (S.secE (putσ S row σ (partsT S σ row off ys want S.n)) row off x = if want x = true ∧ S.blt σ row x ≠ none then 0 else S.secE σ row off x) ∧
    (S.secS (putσ S row σ (partsT S σ row off ys want S.n)) row off x = if want x = true ∧ S.blt σ row x ≠ none then ys.getD x ⟨#[]⟩ else S.secS σ row off x) := by
  have hbl := put_blt (want := want) hg hl hn hf hm hr ho hy row x
  have hls := lsec_need (S := S) hr ho
  obtain ⟨hn1, _⟩ := geo_bd hg
  cases hb : S.blt σ row x with
  | none =>
    rw [hb] at hbl
    constructor
    · rw [if_neg (by simp)]; unfold RS.secE; rw [hbl, hb]
    · rw [if_neg (by simp)]; unfold RS.secS; rw [hbl, hb]
  | some g =>
    rw [hb] at hbl
    obtain ⟨D, hD, hu, hnn, hcol, y, hy1, hy2, hp⟩ := put_role (row := row) (off := off) (ys := ys) (want := want) hg hl hn hf row hx hb
    obtain rfl := lcol_inj (by omega) hy1 hx hy2
    obtain ⟨e1, e2⟩ := RS.sec_of hb hD hu (off := off) (by omega)
    cases hw : want y with
    | true =>
      rw [hw, if_pos rfl] at hp
      obtain ⟨u1, u2, u3, u4⟩ := hu.put_read (i := (lsec S.k row off : Int)) (j := (lsec S.k row off : Int)) (s := ys.getD y ⟨#[]⟩) (by omega) (by omega) (by omega) (hy y hx)
      obtain ⟨f1, f2⟩ := RS.sec_of hbl hp u1 (off := off) (by omega)
      have hns : ¬ (lsec S.k row off : Int) ∈ ((D.wrOK (lsec S.k row off : Int) (ys.getD y ⟨#[]⟩)).flOK).spoilt := fun h => (u4.1 h).1 rfl
      rw [if_neg hns] at f1 f2
      rw [u3, if_pos rfl] at f2
      exact ⟨by rw [if_pos ⟨rfl, by simp⟩]; exact f1, by rw [if_pos ⟨rfl, by simp⟩]; exact f2⟩
    | false =>
      rw [hw, if_neg (by simp)] at hp
      obtain ⟨u1, u2, u3, u4⟩ := hu.fl_read (j := (lsec S.k row off : Int)) (by omega)
      obtain ⟨f1, f2⟩ := RS.sec_of hbl hp u1 (off := off) (by omega)
      rw [u4] at f1 f2
      rw [u3] at f2
      exact ⟨by rw [if_neg (by simp)]; exact f1.trans e1.symm, by rw [if_neg (by simp)]; exact f2.trans e2.symm⟩
/-- the other rows -/
theorem put_sec_other (row' off' x : Nat) (hx : x < S.n) (hr' : row' < S.r) (ho' : off' < S.k) (hne : ¬ (row' = row ∧ off' = off)) :
    S.secE (putσ S row σ (partsT S σ row off ys want S.n)) row' off' x = S.secE σ row' off' x ∧ S.secS (putσ S row σ (partsT S σ row off ys want S.n)) row' off' x = S.secS σ row' off' x := by
  have hbl := put_blt (want := want) hg hl hn hf hm hr ho hy row' x
  have hls := lsec_need (S := S) hr ho
  have hls' := lsec_need (S := S) hr' ho'
  have hne2 : (lsec S.k row' off' : Int) ≠ (lsec S.k row off : Int) := fun e => hne (lsec_inj ho' ho (by omega))
  cases hb : S.blt σ row' x with
  | none =>
    rw [hb] at hbl
    constructor
    · unfold RS.secE; rw [hbl, hb]
    · unfold RS.secS; rw [hbl, hb]
  | some g =>
    rw [hb] at hbl
    obtain ⟨D, hD, hu, hnn, hcol, y, hy1, hy2, hp⟩ := put_role (row := row) (off := off) (ys := ys) (want := want) hg hl hn hf row' hx hb
    obtain ⟨e1, e2⟩ := RS.sec_of hb hD hu (off := off') (by omega)
    cases hw : want y with
    | true =>
      rw [hw, if_pos rfl] at hp
      obtain ⟨u1, u2, u3, u4⟩ := hu.put_read (i := (lsec S.k row off : Int)) (j := (lsec S.k row' off' : Int)) (s := ys.getD y ⟨#[]⟩) (by omega) (by omega) (by omega) (hy y hy1)
      obtain ⟨f1, f2⟩ := RS.sec_of hbl hp u1 (off := off') (by omega)
      rw [if_neg hne2] at u3
      have hs : (lsec S.k row' off' : Int) ∈ ((D.wrOK (lsec S.k row off : Int) (ys.getD y ⟨#[]⟩)).flOK).spoilt ↔ (lsec S.k row' off' : Int) ∈ D.spoilt := u4.trans ⟨fun h => h.2, fun h => ⟨hne2, h⟩⟩
      rw [u3] at f2
      simp only [hs] at f1 f2
      exact ⟨f1.trans e1.symm, f2.trans e2.symm⟩
    | false =>
      rw [hw, if_neg (by simp)] at hp
      obtain ⟨u1, u2, u3, u4⟩ := hu.fl_read (j := (lsec S.k row' off' : Int)) (by omega)
      obtain ⟨f1, f2⟩ := RS.sec_of hbl hp u1 (off := off') (by omega)
      rw [u4] at f1 f2
      rw [u3] at f2
      exact ⟨f1.trans e1.symm, f2.trans e2.symm⟩
end
end Go.Proofs.YtmhmdoobadckkaaGreatDoor
/- A row that is whole; what becomes of it where a data column is changed: plain. -/
namespace Go.Proofs.YtmhmdoobadckkaaGreatDoor
set_option maxRecDepth 20000
open Go.RowKit Go.OpenShut

theorem newCols_full {n : Nat} {T : List Sec} {i : Nat} {d : Sec} (hl : T.length = n + 2) (hi : i < n) : newCols n T i d = fullS ((T.take n).set i d) := by
  unfold newCols
  have e1 : (T.set i d).take n = (T.take n).set i d := take_setB d
  rw [e1]
  have e2 : T.set i d = (T.take n).set i d ++ T.drop n := by
    conv => lhs; rw [← List.take_append_drop n T]
    rw [List.set_append_left _ _ (by rw [List.length_take]; omega)]
  have hl2 : ((T.take n).set i d).length = n := by rw [List.length_set, List.length_take]; omega
  rw [e2, List.set_append_right _ _ (by omega), List.set_append_right _ _ (by omega), hl2, Nat.sub_self, Nat.add_sub_cancel_left]
  unfold fullS
  congr 1
  have hd : (T.drop n).length = 2 := by rw [List.length_drop]; omega
  match h : T.drop n, hd with
  | [a, b], _ => rfl
theorem newCols_stripe {n m : Nat} {T : List Sec} (h : Stripe n m T) {i : Nat} {d : Sec} (hi : i < n) (hd : d.size = m) : Stripe n m (newCols n T i d) := by
  have hl := h.len
  rw [newCols_full hl hi]
  have hl2 : ((T.take n).set i d).length = n := by rw [List.length_set, List.length_take]; omega
  have h1 := Stripe.of_data (m := m) (xs := (T.take n).set i d) (by omega) (fun x hx => by
    rcases List.mem_or_eq_of_mem_set hx with h9 | h9
    · obtain ⟨k, hk, rfl⟩ := List.mem_iff_getElem.1 h9
      have hk2 : k < n := by rw [List.length_take] at hk; omega
      have := h.size k (by omega)
      rw [List.getElem_take]
      have e : T.getD k ⟨#[]⟩ = T[k] := by simp [List.getD, show k < T.length by omega]
      rwa [e] at this
    · rw [h9]; exact hd)
  rw [hl2] at h1
  exact h1
theorem newCols_data {n : Nat} {T : List Sec} {i : Nat} {d : Sec} (hl : T.length = n + 2) (hi : i < n) {x : Nat} (hx : x < n) : (newCols n T i d).getD x ⟨#[]⟩ = if x = i then d else T.getD x ⟨#[]⟩ := by
  rw [newCols_full hl hi]
  unfold fullS
  have hl2 : ((T.take n).set i d).length = n := by rw [List.length_set, List.length_take]; omega
  have e : (((T.take n).set i d) ++ [(⟨(addL ((T.take n).set i d)).toArray⟩ : ByteArray), ⟨(qL ((T.take n).set i d)).toArray⟩]).getD x ⟨#[]⟩ = ((T.take n).set i d).getD x ⟨#[]⟩ := by
    simp only [List.getD]
    rw [List.getElem?_append_left (by omega)]
  rw [e]
  by_cases h : x = i
  · subst h
    rw [if_pos rfl, getD_set_eq (by rw [List.length_take]; omega)]
  · rw [if_neg h, getD_set_ne (fun e => h e.symm), getD_take hx]
/-- a row that is whole: each role's sector is read, and it is T -/
structure Whole (S : RS) (σ : Nat → Option Drv) (row off : Nat) (T : List Sec) : Prop where
  st : Stripe (S.n - 2) 64 T
  e : ∀ x, x < S.n → S.secE σ row off x = 0
  s : ∀ x, x < S.n → S.secS σ row off x = T.getD x ⟨#[]⟩
section
variable {S : RS} {σ : Nat → Option Drv} {row off : Nat} {T : List Sec}
theorem Stripe.len2 {n m : Nat} {T : List Sec} (h : Stripe (n - 2) m T) (hn : 2 ≤ n) : T.length = n := by have := h.len; omega
theorem Whole.secs (h : Whole S σ row off T) (hn : 2 ≤ S.n) : S.secs σ row off = T := by
  have hl := h.st.len2 hn
  apply List.ext_getElem (by rw [RS.secs_len, hl])
  intro i h1 h2
  have hi : i < S.n := by omega
  have e1 := RS.secs_get S σ row off i hi
  rw [h.s i hi] at e1
  simpa [List.getD, h1, h2] using e1
theorem stripe_sizes {n m : Nat} (h : Stripe (n - 2) m T) (_hn : 2 ≤ n) : ∀ x ∈ T, x.size = m := fun x hx => by
  obtain ⟨k, hk, rfl⟩ := List.mem_iff_getElem.1 hx
  have hl := h.len
  have := h.size k (by omega)
  have e : T.getD k ⟨#[]⟩ = T[k] := by simp [List.getD, hk]
  rwa [e] at this
theorem blt_of_secE {x : Nat} (h : S.secE σ row off x = 0) : S.blt σ row x ≠ none := fun e => by
  unfold RS.secE at h
  rw [e] at h
  cases h
/-- the change of a row that is whole -/
theorem Whole.put {m : Nat} (h : Whole S σ row off T) (hg : geoOK S.n S.k S.r = true) (hl : S.ds.length = S.n) (hn : Once S.ds) (hf : FineM σ S.ds S.need m) (hm : m + S.n ≤ 1000) (hr : row < S.r) (ho : off < S.k) {i : Nat} (hi : i + 2 < S.n) {d : Sec} (hd : d.size = 64) :
    Whole S (putσ S row σ (partsT S σ row off (newCols (S.n - 2) T i d) (wantB (S.n - 2) i []) S.n)) row off (newCols (S.n - 2) T i d) := by
  obtain ⟨hn1, _⟩ := geo_bd hg
  have hst := newCols_stripe h.st (i := i) (d := d) (by omega) hd
  have hy : ∀ x, x < S.n → ((newCols (S.n - 2) T i d).getD x ⟨#[]⟩).size = 64 := fun x hx => hst.size x (by omega)
  have hps := fun x (hx : x < S.n) => put_sec (want := wantB (S.n - 2) i []) hg hl hn hf hm hr ho hy x hx
  refine ⟨hst, fun x hx => ?_, fun x hx => ?_⟩
  · rw [(hps x hx).1]
    split
    · rfl
    · exact h.e x hx
  · rw [(hps x hx).2]
    split
    · rfl
    · rename_i hw
      have hw2 : wantB (S.n - 2) i [] x ≠ true := fun e => hw ⟨e, blt_of_secE (h.e x hx)⟩
      unfold wantB at hw2
      simp only [ne_eq, Bool.or_eq_true, decide_eq_true_eq, not_or, List.not_mem_nil, not_false_eq_true, and_true] at hw2
      rw [h.s x hx, newCols_data (by have := h.st.len; omega) (by omega) (by omega), if_neg hw2.2]
theorem Whole.other {m : Nat} (h : Whole S σ row off T) (hg : geoOK S.n S.k S.r = true) (hl : S.ds.length = S.n) (hn : Once S.ds) (hf : FineM σ S.ds S.need m) (hm : m + S.n ≤ 1000) {row' off' : Nat} (hr : row < S.r) (ho : off < S.k) (hr' : row' < S.r) (ho' : off' < S.k) (hne : ¬ (row = row' ∧ off = off')) {ys : List Sec} {want : Nat → Bool} (hy : ∀ x, x < S.n → (ys.getD x ⟨#[]⟩).size = 64) :
    Whole S (putσ S row' σ (partsT S σ row' off' ys want S.n)) row off T := by
  have hps := fun x (hx : x < S.n) => put_sec_other (want := want) hg hl hn hf hm hr' ho' hy row off x hx hr ho hne
  exact ⟨h.st, fun x hx => (hps x hx).1.trans (h.e x hx), fun x hx => (hps x hx).2.trans (h.s x hx)⟩
end
/-- parts are never none, where a column that is wanted is there -/
theorem partsT_ne {S : RS} {σ : Nat → Option Drv} {row off : Nat} {ys : List Sec} {want : Nat → Bool} {x : Nat} (hx : x < S.n) (hw : want x = true) (ha : aliveB σ (S.ds.getD (lcol S.n row x) none) = true) : ∀ j, x < j → 0 < (partsT S σ row off ys want j).length
  | 0, h => by omega
  | j + 1, h => by
    unfold partsT
    rw [List.length_append]
    by_cases e : x = j
    · subst e
      rw [hw, ha]
      simp
    · have := partsT_ne (off := off) (ys := ys) hx hw ha j (by omega)
      omega
end Go.Proofs.YtmhmdoobadckkaaGreatDoor
/- Plain laws of places. -/
namespace Go.Proofs.YtmhmdoobadckkaaGreatDoor
set_option maxRecDepth 20000
open Go.RowKit Go.OpenShut

def pkey (p : Prt) : Int × Int := (p.col, p.off)
theorem placedF_iff : ∀ (ps : List Prt) (l : List (Int × Int)), placedF l ps = true ↔ (∀ p ∈ ps, placeOk p = true) ∧ (ps.map pkey).Nodup ∧ ∀ p ∈ ps, pkey p ∉ l
  | [], l => by simp [placedF]
  | p :: ps, l => by
    rw [placedF, Bool.and_eq_true, Bool.and_eq_true, placedF_iff ps, Bool.not_eq_true', decide_eq_false_iff_not, List.map_cons, List.nodup_cons]
    rw [List.forall_mem_cons, List.forall_mem_cons]
    simp only [List.mem_map, not_exists, not_and]
    constructor
    · rintro ⟨⟨h1, h2⟩, h3, h4, h5⟩
      exact ⟨⟨h1, h3⟩, ⟨fun q hq e => h5 q hq (by rw [e]; exact List.mem_cons_self), h4⟩, h2, fun q hq e => h5 q hq (List.mem_cons_of_mem _ e)⟩
    · rintro ⟨⟨h1, h3⟩, ⟨h6, h4⟩, h2, h5⟩
      exact ⟨⟨h1, h2⟩, h3, h4, fun q hq e => by
        rcases List.mem_cons.1 e with e | e
        · exact h6 q hq e
        · exact h5 q hq e⟩
end Go.Proofs.YtmhmdoobadckkaaGreatDoor
/- Rows that are whole: where the drives of the set are the same; rows of bytes 0; parts that may be a record. -/
namespace Go.Proofs.YtmhmdoobadckkaaGreatDoor
set_option maxRecDepth 20000
open Go.RowKit Go.OpenShut

theorem aliveB_congr {σ σ' : Nat → Option Drv} {p : Option Nat} (h : ∀ g, p = some g → σ' g = σ g) : aliveB σ' p = aliveB σ p := by
  cases p with
  | none => rfl
  | some g => unfold aliveB; simp only [h g rfl]
section
variable {S : RS} {σ σ' : Nat → Option Drv} (h : ∀ g, some g ∈ S.ds → σ' g = σ g)
include h
theorem ds_same (c : Nat) : ∀ g, S.ds.getD c none = some g → σ' g = σ g := fun g e => by
  refine h g ?_
  rw [← e]
  rcases Nat.lt_or_ge c S.ds.length with hc | hc
  · exact getD_mem hc
  · simp [List.getD, List.getElem?_eq_none hc] at e
theorem blt_congr (row x : Nat) : S.blt σ' row x = S.blt σ row x := by
  unfold RS.blt
  rw [RS.there_eq, RS.there_eq, aliveB_congr (ds_same h _)]
theorem sec_congr (row off x : Nat) : S.secE σ' row off x = S.secE σ row off x ∧ S.secS σ' row off x = S.secS σ row off x := by
  unfold RS.secE RS.secS
  rw [blt_congr h]
  cases e : S.blt σ row x with
  | none => exact ⟨rfl, rfl⟩
  | some g =>
    simp only
    rw [h g (RS.blt_some e).1]
    exact ⟨rfl, rfl⟩
theorem Whole.congr {row off : Nat} {T : List Sec} (hw : Whole S σ row off T) : Whole S σ' row off T :=
  ⟨hw.st, fun x hx => (sec_congr h row off x).1.trans (hw.e x hx), fun x hx => (sec_congr h row off x).2.trans (hw.s x hx)⟩
theorem partsT_congr (row off : Nat) (ys : List Sec) (want : Nat → Bool) : ∀ j, partsT S σ' row off ys want j = partsT S σ row off ys want j
  | 0 => rfl
  | j + 1 => by
    unfold partsT
    rw [partsT_congr row off ys want j, aliveB_congr (ds_same h _)]
theorem FineM.congr {k m : Nat} (hf : FineM σ S.ds k m) : FineM σ' S.ds k m := fun g hg => by
  rw [h g hg]
  exact hf g hg
end
/-! ### bytes 0 -/
theorem xor_zz (m : Nat) : xorL (List.replicate m (0 : UInt8)) (List.replicate m 0) = List.replicate m 0 := by
  refine list_ext (by simp [xorL_length]) (fun j _ => ?_)
  rw [xorL_getD]
  have e : (List.replicate m (0 : UInt8)).getD j 0 = 0 := by
    simp [List.getD, List.getElem?_replicate]
    split <;> rfl
  rw [e]
  rfl
theorem addL_zeros (m : Nat) : ∀ n, addL (List.replicate (n + 1) (zeros m)) = List.replicate m 0
  | 0 => by
    rw [List.replicate_succ, List.replicate_zero, addL_cons, addL_nil, xorL_nilr]
    simp [zeros]
  | n + 1 => by
    rw [List.replicate_succ, addL_cons, addL_zeros m n]
    have e : (zeros m).data.toList = List.replicate m 0 := by simp [zeros]
    rw [e, xor_zz]
theorem mulL_z (m b : Nat) : mulL (List.replicate m (0 : UInt8)) b = List.replicate m 0 := by
  refine list_ext (by simp [mulL_len]) (fun j _ => ?_)
  have e : (List.replicate m (0 : UInt8)).getD j 0 = 0 := by
    simp [List.getD, List.getElem?_replicate]
    split <;> rfl
  rw [mulL_getD, e, u8_zero_gm]
theorem qL_zeros (m : Nat) : ∀ n, qL (List.replicate (n + 1) (zeros m)) = List.replicate m 0
  | 0 => by
    have e : (zeros m).data.toList = List.replicate m 0 := by simp [zeros]
    rw [List.replicate_succ, List.replicate_zero, qL_cons, qL_nil, show mulL ([] : List UInt8) 2 = [] from rfl, xorL_nilr, e]
  | n + 1 => by
    have e : (zeros m).data.toList = List.replicate m 0 := by simp [zeros]
    rw [List.replicate_succ, qL_cons, qL_zeros m n, mulL_z, e, xor_zz]
theorem sec0_zeros : sec0 = zeros 64 := rfl
theorem stripe_zero {n : Nat} (hn : 1 ≤ n) : Stripe n 64 (List.replicate (n + 2) sec0) := by
  have hd : ∀ i, i < n + 2 → (List.replicate (n + 2) sec0).getD i ⟨#[]⟩ = sec0 := fun i hi => by simp [List.getD, hi]
  have ht : (List.replicate (n + 2) sec0).take n = List.replicate (n - 1 + 1) (zeros 64) := by
    rw [List.take_replicate, sec0_zeros]
    congr 1
    omega
  refine ⟨by simp, fun i hi => by rw [hd i hi]; rfl, ?_, ?_⟩
  · rw [hd n (by omega), ht, addL_zeros]; rfl
  · rw [hd (n + 1) (by omega), ht, qL_zeros]; rfl
/-- a set whose drives are all up, and built -/
structure UpS (S : RS) (σ : Nat → Option Drv) : Prop where
  geo : geoOK S.n S.k S.r = true
  dl : S.ds.length = S.n
  once : Once S.ds
  up : ∀ c, c < S.n → ∃ g D, S.ds.getD c none = some g ∧ σ g = some D ∧ D.up ∧ S.need ≤ D.n
  bl : ∀ c, c < S.n → (S.r : Int) ≤ S.bs.getD c 0
theorem UpS.blt {S : RS} {σ : Nat → Option Drv} (h : UpS S σ) {row x : Nat} (hr : row < S.r) : ∃ g D, S.blt σ row x = some g ∧ S.ds.getD (lcol S.n row x) none = some g ∧ σ g = some D ∧ D.up ∧ S.need ≤ D.n := by
  obtain ⟨hn1, _⟩ := geo_bd h.geo
  have hc := lcol_lt row x (show 0 < S.n by omega)
  obtain ⟨g, D, h1, h2, h3, h4⟩ := h.up _ hc
  refine ⟨g, D, ?_, h1, h2, h3, h4⟩
  have hb := h.bl _ hc
  unfold RS.blt
  rw [if_neg (by omega), RS.there_eq, h1, aliveB_of h2 h3.2.1]
  rfl
theorem whole_zero {S : RS} {σ : Nat → Option Drv} (h : UpS S σ) {row off : Nat} (hr : row < S.r) (ho : off < S.k) (hz : ∀ g D, some g ∈ S.ds → σ g = some D → ∀ j : Int, 4 ≤ j → j < S.need → D.cur j = sec0 ∧ j ∉ D.spoilt) :
    Whole S σ row off (List.replicate S.n sec0) := by
  obtain ⟨hn1, _⟩ := geo_bd h.geo
  have hst := stripe_zero (n := S.n - 2) (by omega)
  rw [show S.n - 2 + 2 = S.n by omega] at hst
  have hls := lsec_need (S := S) hr ho
  have hsec : ∀ x, S.secE σ row off x = 0 ∧ S.secS σ row off x = sec0 := fun x => by
    obtain ⟨g, D, h1, h2, h3, h4, h5⟩ := h.blt (x := x) hr
    obtain ⟨e1, e2⟩ := RS.sec_of h1 h3 h4 (off := off) (by omega)
    have hmem : some g ∈ S.ds := by
      rw [← h2]
      exact getD_mem (by rw [h.dl]; exact lcol_lt row x (by omega))
    obtain ⟨z1, z2⟩ := hz g D hmem h3 (lsec S.k row off : Int) (by unfold lsec; omega) (by omega)
    rw [if_neg z2] at e1 e2
    exact ⟨e1, e2.trans z1⟩
  refine ⟨hst, fun x _ => (hsec x).1, fun x hx => ?_⟩
  rw [(hsec x).2]
  simp [List.getD, hx]
/-! ### parts that may be a record -/
theorem partsT_col {S : RS} {σ : Nat → Option Drv} {row off : Nat} {ys : List Sec} {want : Nat → Bool} (h0 : 0 < S.n) : ∀ j, j ≤ S.n → ((partsT S σ row off ys want j).map pkey).Nodup ∧ ∀ p ∈ partsT S σ row off ys want j, ∃ r, r < j ∧ p.col = (lcol S.n row r : Int)
  | 0, _ => ⟨List.nodup_nil, fun p hp => by cases hp⟩
  | j + 1, hj => by
    obtain ⟨h1, h2⟩ := partsT_col (row := row) (off := off) (ys := ys) (want := want) (σ := σ) h0 j (by omega)
    unfold partsT
    split
    · refine ⟨?_, fun p hp => ?_⟩
      · rw [List.map_append, List.nodup_append]
        refine ⟨h1, by simp, fun a ha b hb e => ?_⟩
        obtain ⟨p, hp, rfl⟩ := List.mem_map.1 ha
        simp at hb
        subst hb
        obtain ⟨r, hr, hc⟩ := h2 p hp
        have e2 := congrArg Prod.fst e
        simp only [pkey] at e2
        rw [hc] at e2
        have := lcol_inj h0 (show r < S.n by omega) (show j < S.n by omega) (by exact_mod_cast e2)
        omega
      · rcases List.mem_append.1 hp with hp | hp
        · obtain ⟨r, hr, hc⟩ := h2 p hp
          exact ⟨r, by omega, hc⟩
        · simp at hp
          subst hp
          exact ⟨j, by omega, rfl⟩
    · rw [List.append_nil]
      exact ⟨h1, fun p hp => by obtain ⟨r, hr, hc⟩ := h2 p hp; exact ⟨r, by omega, hc⟩⟩
theorem partsT_may {S : RS} {σ : Nat → Option Drv} {row off : Nat} {ys : List Sec} {want : Nat → Bool} (hg : geoOK S.n S.k S.r = true) (hr : row < S.r) (ho : off < S.k) (hy : ∀ r, r < S.n → (ys.getD r ⟨#[]⟩).size = 64) (hne : 0 < (partsT S σ row off ys want S.n).length) :
    mayB (row : Int) (partsT S σ row off ys want S.n) = true := by
  obtain ⟨hn1, hn2, hk1, hk2, hr1, hr2⟩ := geo_bd hg
  have hl := partsT_len S σ row off ys want S.n
  have hf := partsT_fits (S := S) (σ := σ) (row := row) (ys := ys) (want := want) (j := S.n) (by omega) ho (Nat.le_refl _) hy
  obtain ⟨hc, _⟩ := partsT_col (S := S) (σ := σ) (row := row) (off := off) (ys := ys) (want := want) (by omega) S.n (Nat.le_refl _)
  generalize partsT S σ row off ys want S.n = ps at *
  unfold mayB placedB loadedB
  simp only [Bool.and_eq_true, decide_eq_true_eq, List.all_eq_true]
  refine ⟨⟨⟨⟨⟨by omega, by omega⟩, by omega⟩, by omega⟩, ?_⟩, fun p hp => (hf p hp).2.2.2.2⟩
  rw [placedF_iff]
  refine ⟨fun p hp => ?_, hc, fun p _ h => by cases h⟩
  obtain ⟨f1, f2, f3, f4, f5⟩ := hf p hp
  unfold placeOk
  simp only [Bool.and_eq_true, decide_eq_true_eq]
  omega
end Go.Proofs.YtmhmdoobadckkaaGreatDoor
/- array.Create without a journal: the walk. -/
namespace Go.Proofs.YtmhmdoobadckkaaGreatDoor
set_option maxRecDepth 20000
open Go.RowKit Go.OpenShut

def CreatedP (σ' : Nat → Option Drv) (R : Nat → Prop) (a : Arr) (w : World) (e : Ending) (w' : World) : Prop := ∃ g V R', e = .returned (.tuple #[.pointer (some ⟨g, 0, none⟩), .int .i64 0]) ∧ Dsk w' σ' R' ∧ ArrMem w' R' g a V ∧ Ext R R' w w' ∧ ∀ b ∈ V.fp g a, w.heap.size ≤ b
/-- what Create asks of the drives -/
structure Creat (σ : Nat → Option Drv) (ps : List (Option Nat)) (k r : Nat) : Prop where
  n4 : 4 ≤ ps.length
  n10 : ps.length ≤ 10
  k1 : 1 ≤ k
  k4 : k ≤ 4
  nd : ps.Nodup
  al : ∀ p ∈ ps, aliveB σ p = true
  fine : Fine σ ps 0
  rows : rowsMin σ k ps ps.length = r
  r1 : 1 ≤ r
theorem any_peq {ps : List (Option Nat)} (h : ps.Nodup) {j : Nat} (hj : j < ps.length) : (ps.take j).any (peq (ps.getD j none)) = false := by
  rw [List.any_eq_false]
  intro x hx e
  obtain ⟨i, hi, rfl⟩ := List.mem_iff_getElem.1 hx
  rw [List.length_take] at hi
  have e1 : ps.getD j none = ps[j] := by simp [List.getD, hj]
  rw [List.getElem_take, e1] at e
  have e2 := of_decide_eq_true e
  have := (List.getElem_inj h).1 e2
  omega
theorem Creat.at_ {σ : Nat → Option Drv} {ps : List (Option Nat)} {k r : Nat} (h : Creat σ ps k r) {j : Nat} (hj : j < ps.length) : ∃ g D, ps.getD j none = some g ∧ σ g = some D ∧ D.up ∧ 4 + r * k ≤ D.n ∧ D.pl 1000 := by
  have hm := getD_mem hj
  obtain ⟨g, D, e1, e2, e3, _, e5⟩ := h.fine.up hm (h.al _ hm)
  refine ⟨g, D, e1, e2, e3, ?_, e5⟩
  have := rowsMin_room h.k1 hj e1 e2 (by rw [h.rows]; exact h.r1)
  rw [h.rows] at this
  exact this
set_option maxRecDepth 200000 in
set_option maxHeartbeats 4000000 in
theorem create0_any (w : World) (σ : Nat → Option Drv) (R : Nat → Prop) (h : Dsk w σ R) (b o n c : Nat) (ps : List (Option Nat)) (hps : VA w R (some ⟨b, o, none⟩) n (ps.map pv)) (hl : ps.length = n) (hc : n ≤ c) (u k r : Nat) (hu0 : 0 < u) (hu1 : u < 18446744073709551616) (hC : Creat σ ps k r) :
    Calls Tryz.prog 31 #[.int .u64 (u : Int), .int .i64 (k : Int), .slice (some ⟨b, o, none⟩) n c, .pointer none] w (CreatedP (createσ u k r σ ps) R (Arr.made u k r ps n).on w) := by
  have HC := Lib.hid hC
  have HD := Lib.hid h
  have HP := Lib.hid hps
  have HL := Lib.hid hl
  have hn4 : (4 : Int) ≤ n := by have := hC.n4; omega
  have hn10 : (n : Int) ≤ 10 := by have := hC.n10; omega
  have hnc : (n : Int) ≤ c := by omega
  have hk1 : (1 : Int) ≤ k := by have := hC.k1; omega
  have hk4 : (k : Int) ≤ 4 := by have := hC.k4; omega
  have HU0 := Lib.hid hu0
  have HU1 := Lib.hid hu1
  have hu : ((u : Int) == 0) = false := by simp; omega
  clear hC h hps hl hc hu0 hu1
  go_enter Tryz.func31, Tryz.ntmps31
  go_wp2_with fail
  go_loopw [40, 10] (fun i rr wr => ∃ j : Nat, j ≤ n ∧ i = .int .i64 j ∧ rr = .int .i64 (rowsMin σ k ps j : Nat) ∧ wr = w) (fun i _ _ => n - (RowKit.intOf i).toNat)
  case atStart => exact ⟨0, by omega, rfl, rfl, rfl⟩
  case round =>
    obtain ⟨j, hj, rfl, rfl, hw⟩ := hrel
    replace hw := hw.symm
    subst hw
    by_cases hlt : j < n
    · have hlp : j < ps.length := by rw [HL.out]; exact hlt
      obtain ⟨gj, D, e1, e2, e3, e4, e5⟩ := HC.out.at_ hlp
      have hcell := HP.out.at_ hlt
      rw [getD_mapV pv ps j hlp, e1] at hcell
      have hal : aliveB σ (some gj) = true := by simp [aliveB, e2, e3.2.1]
      have HAL := Lib.hid (alive_any w σ R HD.out (some gj) (fun g e => by cases e; rw [e2]; rfl))
      rw [hal] at HAL
      have hvt : VA w (fun _ => False) (some ⟨b, o, none⟩) j ((ps.map pv).take j) := (HP.out.take j hj).any_ (fun _ h => h.elim)
      rw [← List.map_take] at hvt
      have HCT := Lib.hid (containsD w HD.out (some ⟨b, o, none⟩) j c (ps.take j) hvt (by omega) (some gj) (fun p hp => HC.out.fine.pin p (List.mem_of_mem_take hp)) (fun g e => by cases e; rw [e2]; rfl))
      have hany := any_peq HC.out.nd hlp
      rw [e1] at hany
      rw [hany] at HCT
      have HSE := Lib.hid (HD.out.sectors e2)
      have hD4 : D.n ≤ 4096 := e3.1.le
      have HRO := Lib.hid (rows_any w D.n k (by omega) (by omega) hD4)
      have HMIN := Lib.hid (show ((rowsMin σ k ps (j + 1) : Nat) : Int) = min ((rowsMin σ k ps j : Nat) : Int) ((min (D.n - 4) (256 * k) / k : Nat) : Int) from by
        show ((min (rowsMin σ k ps j) _ : Nat) : Int) = _
        rw [e1]
        simp only [e2, rowsOf]
        omega)
      unfold pv at hcell HAL HCT
      generalize hrj : rowsMin σ k ps j = rj at *
      obtain ⟨rd, hrd⟩ : ∃ x, min (D.n - 4) (256 * k) / k = x := ⟨_, rfl⟩
      rw [hrd] at HRO HMIN
      have hjc : (j : Int) ≤ c := by omega
      clear hvt hrd hrj e1 e2 e3 e4 e5 hal hany hlp hD4
      go_wp2_with fail
      refine HAL.out.mono ?_
      rintro e w1 ⟨rfl, rfl⟩
      go_wp2_with fail
      refine HCT.out.mono ?_
      rintro e w1 ⟨rfl, rfl⟩
      go_wp2_with fail
      refine HSE.out.mono ?_
      rintro e w1 ⟨rfl, rfl⟩
      go_wp2_with fail
      refine HRO.out.mono ?_
      rintro e w1 ⟨rfl, rfl⟩
      go_wp2_with fail
      go_roundw
      case rel => exact ⟨j + 1, by omega, by go_num, by rw [HMIN.out], trivial⟩
      case measure => simp [RowKit.intOf]; omega
    · obtain rfl : j = n := by omega
      have hr : rowsMin σ k ps j = r := by rw [← HL.out]; exact HC.out.rows
      have hr1 : (1 : Int) ≤ r := by have := HC.out.r1; omega
      have hr2 : (r : Int) ≤ 256 := by have := rowsMin_le σ k ps j; omega
      rw [hr]
      have HCL := Lib.hid (cloneD w (some ⟨b, o, none⟩) j c ps (HP.out.any_ (fun _ h => h.elim)) (by omega) (fun e => by cases e))
      have HIN := Lib.hid (fun W => intNew_any W r (by omega) (by omega))
      have hmm := @run_makeMap Tryz.prog
      obtain ⟨m, hm⟩ : ∃ m, r * k = m := ⟨_, rfl⟩
      have hrk : (r : Int) * (k : Int) = (m : Int) := by rw [← hm]; simp
      have hm1 : (m : Int) ≤ 1024 := by
        have h1 : r * k ≤ 256 * 4 := Nat.mul_le_mul (by omega) (by omega)
        omega
      have HM := Lib.hid hm
      clear hlt hj hr hm
      go_wp2_with fail
      refine HCL.out.mono ?_
      rintro e w1 ⟨v, rfl, ho, hb⟩
      obtain ⟨A, cA, hv, hA⟩ : ∃ A c, v = .slice (some ⟨A, 0, none⟩) j c ∧ w.heap.size ≤ A := by
        rcases ho.2 with ⟨_, h2⟩ | ⟨A, cap, cur, e, h2, _⟩
        · rw [List.length_map, HL.out] at h2; omega
        · exact ⟨A, cap, by rw [e, List.length_map, HL.out], h2⟩
      subst hv
      have HO := Lib.hid ho
      have HB := Lib.hid hb
      clear ho hb
      go_wp2_with fail
      refine (HIN.out _).mono ?_
      rintro e w2 ⟨gi, bi, rfl, him, hgi, hbi, hb2⟩
      have HNW := Lib.hid (fun w3 h => ArrMem.new3 (R := R) (w3 := w3) (u := u) (k := k) (fun b hb => HD.out.lt hb) HL.out hA HO.out HB.out hb2 him hgi hbi h)
      have hsz : w.heap.size ≤ w2.heap.size + 1 := by
        have := HB.out.size
        have := hb2.size
        omega
      clear him hb2 hgi hbi HCL HIN HO HB HP
      go_wp2_with fail
      refine (rep0_any _).mono ?_
      rintro e w3 ⟨rfl, hb3⟩
      obtain ⟨hra, hbw, hfp⟩ := HNW.out _ hb3
      clear hb3 HNW hmm
      obtain ⟨ga, hga⟩ : ∃ x, w2.heap.size + 1 = x := ⟨_, rfl⟩
      obtain ⟨gs, hgs⟩ : ∃ x, w2.heap.size = x := ⟨_, rfl⟩
      rw [hga, hgs] at hra hfp
      have HFP := Lib.hid hfp
      rw [hga] at hsz ⊢
      have hq7 : w3.cell? ⟨ga, 7, none⟩ = some (.slice (some ⟨A, 0, none⟩) j cA) := (hra.head.cell 7).trans (by rw [← HL.out]; rfl)
      have HRA := Lib.hid hra
      have HDW := Lib.hid (HD.out.below hbw)
      have HXW := Lib.hid (Ext.of_below R hbw)
      have HGA := Lib.hid hsz
      have HFI := Lib.hid (show Fine σ ps (4 + m) from fun g hg => by
        obtain ⟨i, hi, e⟩ := List.mem_iff_getElem.1 hg
        obtain ⟨g', D, e1, e2, e3, e4, e5⟩ := HC.out.at_ hi
        have e6 : g' = g := by
          have : ps.getD i none = some g := by simp [List.getD, hi, e]
          rw [this] at e1
          cases e1; rfl
        subst e6
        exact ⟨D, e2, e3.1, e3.2.2, by have := HM.out; omega, e5⟩)
      clear hfp hra hbw hga hgs hsz hA HD
      go_wp2_with fail
      go_loopw [104] (fun i wr => ∃ l : Nat, l ≤ j ∧ i = .int .i64 l ∧ ∃ R' bv, Dsk wr ((ps.take l).foldl (stepD (fmtD m)) σ) R' ∧ ArrMem wr R' ga (Arr.made u k r ps l) ⟨A, cA, bv, none, 0, 0, gi, bi, gs⟩ ∧ Ext R R' w wr ∧ ∀ x, bv.ownBlock = some x → w.heap.size ≤ x) (fun i _ => j - (RowKit.intOf i).toNat)
      case atStart => exact ⟨0, by omega, rfl, R, _, HDW.out, HRA.out, HXW.out, fun x hx => by cases hx⟩
      case round =>
        obtain ⟨l, hl, rfl, R', bv, hd, ha, hx, hbv⟩ := hrel
        by_cases hlt : l < j
        · have hlp : l < ps.length := by rw [HL.out]; exact hlt
          have hmem := getD_mem hlp
          have hin : ∀ p ∈ ps.take l, p ∈ ps := fun p hp => List.mem_of_mem_take hp
          have hfj := HFI.out.steps (keeps_fmt m) (ps.take l) hin
          have hal := alive_steps (keeps_fmt m) (ps.take l) HFI.out hin (ps.getD l none)
          rw [HC.out.al _ hmem] at hal
          obtain ⟨gj, D, e1, e2, e3, e4, e5⟩ := hfj.up hmem hal
          have HS := Lib.hid (foldl_snoc (fmtD m) ps l hlp σ)
          have hpc : wr.cell? ⟨A, l, none⟩ = some (pv (ps.getD l none)) := by
            have h1 := ha.va.at_ (j := l) hlp
            rw [show (Arr.made u k r ps l).ds = ps from rfl, getD_mapV pv _ _ hlp, Nat.zero_add] at h1
            exact h1
          rw [e1] at HS hpc
          rw [stepD_up e2 e3] at HS
          generalize (ps.take l).foldl (stepD (fmtD m)) σ = σl at *
          have hq8 : wr.cell? ⟨ga, 8, none⟩ = some bv := ha.head.cell 8
          have HU := Lib.hid e3
          obtain ⟨u1, u2⟩ := Drv.clear_up e3 0 4 (by omega)
          have HV1 := Lib.hid u1
          have HN1 := Lib.hid (show 4 + m ≤ (D.clear 0 4).n by rw [u2]; exact e4)
          have HP1 := Lib.hid (show (D.clear 0 4).pl 1000 from (Drv.clear_pl _ _ _).mono (by omega))
          have HWI := Lib.hid (fun W (h : Dsk W σl R') => wipe_any W σl R' h gj D e2 e3 (by omega) e5)
          have haj := ha.below ((Below.refl _ _).alloc (Nat.le_refl _) (.cells #[.int .i64 (r : Int)] 3))
          have HAJ := Lib.hid haj
          have HBS := Lib.hid haj.bs
          have HDJ := Lib.hid (hd.alloc (.cells #[.int .i64 (r : Int)] 3))
          have HXJ := Lib.hid (hx.alloc (.cells #[.int .i64 (r : Int)] 3))
          have HBV := Lib.hid hbv
          have HLJ := Lib.hid hlt
          have HSZ := Lib.hid hx.size
          clear hlp hmem hin hfj hal e1 e2 e3 e4 e5 u1 u2 haj ha hd hx hbv hlt hq7
          unfold pv at hpc
          go_wp2_with (at_builtin; refine wp_pushIA 30 3 .i64 Tryz.underlying30 info_int rfl (.tmp 112) (.tmp 114) rfl 0 bv _ HBS.out rfl ⟨wr.heap.size, 0, none⟩ 1 (r : Int) rfl (cell_one _ _ _) (by simp [Arr.made]; omega) (Nat.zero_le _) ?_; intro v4 w4 hv4 hg4 hk4; obtain ⟨A4, n4, c4, rfl⟩ : ∃ A n c, v4 = .slice A n c := (by obtain ⟨A, c, h⟩ := hv4.shape; exact ⟨A, _, c, h⟩); have HV4 := Lib.hid hv4; have HG4 := Lib.hid hg4; have HK4 := Lib.hid hk4; clear hv4 hk4; have hfz4 := (HAJ.out.headG hg4).frozen 8; have hq4 : w4.cell? ⟨ga, 8, none⟩ = some bv := (HAJ.out.headG hg4).cell 8)
          have HD5 := Lib.hid ((HDJ.out.grown HG4.out (fun b hb => HAJ.out.out b (by simp [AV.fp, hb]))).setCell (p := ⟨ga, 8, none⟩) (HAJ.out.out ga (by simp [AV.fp])) (.slice A4 n4 c4))
          have HA5 := Lib.hid (HAJ.out.pushed HV4.out HG4.out HK4.out (fun b hb => HDJ.out.lt hb) (fun b off hb => by cases hb))
          rw [Arr.made_succ] at HA5
          have HX5 := Lib.hid ((HXJ.out.own HG4.out (fun b hb => HBV.out b hb)).set_ (p := ⟨ga, 8, none⟩) HGA.out (.slice A4 n4 c4))
          have HV5 := Lib.hid (show ∀ x, (Value.slice A4 n4 c4).ownBlock = some x → w.heap.size ≤ x from fun x hx => by
            rcases HK4.out with e | e
            · exact HBV.out x (by rw [← e]; exact hx)
            · rw [hx] at e
              have := HSZ.out
              simp at e
              omega)
          generalize w4.setCell ⟨ga, 8, none⟩ (.slice A4 n4 c4) = W5 at *
          clear hq8 hq4 hfz4 hg4 hpc HV4 HG4 HK4 HAJ HBS HDJ HXJ HBV
          refine (HWI.out _ HD5.out).mono ?_
          rintro e w6 ⟨rfl, R6, hd6, hx6⟩
          have HA6 := Lib.hid (HA5.out.ext hx6)
          have HX6 := Lib.hid (HX5.out.trans hx6)
          have HD6 := Lib.hid hd6
          clear hd6 hx6 HWI HD5 HA5 HX5
          go_wp2_with fail
          go_loopw [126] (fun i wq => ∃ t : Nat, t ≤ m ∧ i = .int .i64 t ∧ ∃ R7, Dsk wq (upd σl gj ((D.clear 0 4).zeros 4 t)) R7 ∧ Ext R6 R7 w6 wq) (fun i _ => m - (RowKit.intOf i).toNat)
          case atStart => exact ⟨0, by omega, rfl, R6, HD6.out, Ext.refl _ _⟩
          case round =>
            obtain ⟨t, ht, rfl, R7, hd, hx⟩ := hrel
            by_cases hlt : t < m
            · have HW7 := Lib.hid (hd.zero HV1.out (by have := HN1.out; omega) HP1.out)
              rw [show ((4 + t : Nat) : Int) = 4 + (t : Int) by omega] at HW7
              have HX7 := Lib.hid hx
              clear hd hx
              go_wp2_with fail
              refine HW7.out.mono ?_
              rintro e w7 ⟨rfl, R8, hd8, hx8⟩
              have HD8 := Lib.hid hd8
              have HX8 := Lib.hid (HX7.out.trans hx8)
              clear hd8 hx8
              go_wp2_with fail
              go_roundw
              case rel => exact ⟨t + 1, by omega, by go_num, R8, HD8.out, HX8.out⟩
              case measure => simp [RowKit.intOf]; omega
            · obtain rfl : t = m := by omega
              have HW7 := Lib.hid (hd.clear_ HV1.out HN1.out HP1.out)
              have HX7 := Lib.hid hx
              clear hd hx
              go_wp2_with fail
              refine HW7.out.mono ?_
              rintro e w7 ⟨rfl, R8, hd8, hx8⟩
              have HD8 := Lib.hid hd8
              have HX8 := Lib.hid (HX7.out.trans hx8)
              clear hd8 hx8
              go_wp2_with fail
              go_roundw
              case rel => exact ⟨l + 1, HLJ.out, by go_num, R8, _, by rw [HS.out]; exact HD8.out, HA6.out.ext HX8.out, HX6.out.trans HX8.out, HV5.out⟩
              case measure => have := HLJ.out; simp [RowKit.intOf]; omega
        · obtain rfl : l = j := by omega
          have e1 : ps.take l = ps := List.take_of_length_le (by have := HL.out; omega)
          rw [e1] at hd
          have HA := Lib.hid ha
          have HD := Lib.hid hd
          have HX := Lib.hid hx
          have HBV := Lib.hid hbv
          have hfi : Fine (ps.foldl (stepD (fmtD m)) σ) ps 4 := (HFI.out.steps (keeps_fmt m) ps (fun p hp => hp)).mono (by omega)
          have HF := Lib.hid hfi
          have HMK := Lib.hid (mark_any wr _ R' hd ga _ _ ha hfi (by show 0 < ps.length; have := HL.out; omega) (by show ps.length ≤ 100; have := HL.out; omega) (by show 0 < _; omega))
          clear hd ha hx hbv e1 hq7 hfi
          go_wp2_with fail
          refine HMK.out.mono ?_
          rintro e w7 ⟨rfl, R7, hd7, hx7⟩
          have HA7 := Lib.hid (HA.out.ext hx7)
          have HX7 := Lib.hid (HX.out.trans hx7)
          have hok : (Arr.made u k r ps l).on.ok := by
            have e := HL.out
            subst e
            exact Arr.made_ok HU0.out HU1.out ((geoOK_iff _ _ _).2 ⟨⟨by omega, by omega⟩, ⟨by omega, by omega⟩, ⟨by omega, by omega⟩⟩)
          have HSV := Lib.hid (save_any w7 _ R7 hd7 ga _ _ HA7.out hok (Fine.sub (ds := ps ++ [none]) (markσ_fine (a := Arr.made u k r ps l) (fun g hg => HF.out g (by simpa using hg)) (fun p hp => by simp [show p ∈ ps from hp])) (fun p hp => by simpa [Arr.all, Arr.made] using hp)) (by simp [Arr.made]))
          clear hd7 hx7 hok HMK
          go_wp2_with fail
          refine HSV.out.mono ?_
          rintro e w8 ⟨rfl, R8, hd8, ha8, hc8, hn8⟩
          have HD8 := Lib.hid hd8
          have HA8 := Lib.hid ha8
          have HX8 := Lib.hid (HX7.out.adid hc8 hn8 HGA.out)
          clear hd8 ha8 hc8 hn8 HSV
          go_wp2_with fail
          go_ret2
          refine ⟨ga, _, R8, rfl, ?_, HA8.out, HX8.out, ?_⟩
          · have e1 := HM.out
            have e2 := HL.out
            subst e1 e2
            exact HD8.out
          · intro b hb
            have hb' : b ∈ [ga, A, gi, bi, gs] ++ (bv.ownBlock.toList ++ []) := hb
            rcases List.mem_append.1 hb' with h | h
            · exact HFP.out b h
            · exact HBV.out b (by simpa using h)
end Go.Proofs.YtmhmdoobadckkaaGreatDoor
/- (*Array).missing, building, size. -/
namespace Go.Proofs.YtmhmdoobadckkaaGreatDoor
set_option maxRecDepth 20000
open Go.RowKit Go.OpenShut

/-- columns of which something is so, rising -/
def colsL (f : Nat → Bool) (j : Nat) : List Int := ((List.range j).filter f).map fun i : Nat => (i : Int)
theorem colsL_succ (f : Nat → Bool) (j : Nat) : colsL f (j + 1) = colsL f j ++ if f j then [(j : Int)] else [] := by
  unfold colsL
  rw [List.range_succ, List.filter_append, List.map_append]
  by_cases h : f j <;> simp [h]
theorem colsL_len (f : Nat → Bool) (j : Nat) : (colsL f j).length ≤ j := by
  unfold colsL
  rw [List.length_map]
  exact Nat.le_trans (List.length_filter_le _ _) (by simp)
def missB (σ : Nat → Option Drv) (a : Arr) (c : Nat) : Bool := !aliveB σ (a.ds.getD c none)
def buildB (σ : Nat → Option Drv) (a : Arr) (c : Nat) : Bool := aliveB σ (a.ds.getD c none) && decide (a.bs.getD c 0 < a.r)
/-- a slice of numbers that a call makes -/
def MadeI (w : World) (l : List Int) (e : Ending) (w' : World) : Prop := ∃ v, e = .returned v ∧ OwnI w' w.heap.size 3 .i64 v l ∧ Below w.heap.size w w'
set_option maxHeartbeats 1000000 in
theorem missing_any (w : World) (σ : Nat → Option Drv) (R : Nat → Prop) (h : Dsk w σ R) (g : Nat) (a : Arr) (V : AV) (ha : ArrMem w R g a V) (hp : ∀ p ∈ a.ds, PIn σ p) (hn : a.ds.length ≤ 100) :
    Calls Tryz.prog 100 #[.pointer (some ⟨g, 0, none⟩)] w (MadeI w (colsL (missB σ a) a.ds.length)) := by
  have hq : w.cell? ⟨g, 7, none⟩ = some (.slice (some ⟨V.A, 0, none⟩) a.ds.length V.ca) := ha.head.cell 7
  have HD := Lib.hid h
  have HVA := Lib.hid ha.va
  have HP := Lib.hid (fun j (hj : j < a.ds.length) => hp _ (getD_mem hj))
  generalize hN : a.ds.length = n at *
  have HN := Lib.hid hN
  clear h ha hp hN
  go_enter Tryz.func100, Tryz.ntmps100
  go_wp2_with fail
  go_loopw [11, 3] (fun i v wr => ∃ j : Nat, j ≤ n ∧ i = .int .i64 j ∧ OwnI wr w.heap.size 3 .i64 v (colsL (missB σ a) j) ∧ Below w.heap.size w wr) (fun i _ _ => n - (RowKit.intOf i).toNat)
  case atStart => exact ⟨0, by omega, rfl, (show OwnI _ _ _ _ _ [] from OwnI.nil_ _ _ _ _), Below.refl _ _⟩
  case round =>
    rename_i v
    obtain ⟨j, hj, rfl, ho, hb⟩ := hrel
    by_cases hlt : j < n
    · have hjl : j < a.ds.length := by rw [HN.out]; exact hlt
      have hcell := (HVA.out.below hb).at_ hlt
      rw [getD_mapV pv a.ds j hjl, Nat.zero_add] at hcell
      have HAL := Lib.hid (alive_any wr σ R (HD.out.below hb) (a.ds.getD j none) (HP.out j hlt))
      have HS := Lib.hid (colsL_succ (missB σ a) j)
      have hlen := colsL_len (missB σ a) j
      rw [show missB σ a j = !aliveB σ (a.ds.getD j none) from rfl] at HS
      obtain ⟨p, hp⟩ : ∃ p, a.ds.getD j none = p := ⟨_, rfl⟩
      rw [hp] at hcell HAL HS
      obtain ⟨pa, hpa⟩ : ∃ a : Option Addr, pv p = .pointer a := ⟨_, rfl⟩
      rw [hpa] at hcell HAL
      obtain ⟨q, hq⟩ : ∃ q, aliveB σ p = q := ⟨_, rfl⟩
      rw [hq] at HAL HS
      have HO := Lib.hid ho
      have HB := Lib.hid hb
      clear hq hpa hp ho hb
      go_wp2_with fail
      refine HAL.out.mono ?_
      rintro e w1 ⟨rfl, rfl⟩
      cases q
      · have hsz := HB.out.size
        go_wp2_with (at_builtin; refine wp_pushI 30 3 .i64 Tryz.underlying30 info_int rfl (.tmp 19) (.tmp 21) rfl w.heap.size _ _ (HO.out.alloc _) rfl ⟨wr.heap.size, 0, none⟩ 1 (j : Int) rfl (cell_one _ _ _) (by omega) (by simp; omega) ?_; intro v4 w4 hv4 hg4 hb4)
        go_roundw
        case rel => exact ⟨j + 1, by omega, by go_num, by rw [HS.out]; exact hv4, (HB.out.alloc hsz _).trans hb4⟩
        case measure => simp [RowKit.intOf]; omega
      · go_wp2_with fail
        go_roundw
        case rel => exact ⟨j + 1, by omega, by go_num, by rw [HS.out]; simpa using HO.out, HB.out⟩
        case measure => simp [RowKit.intOf]; omega
    · obtain rfl : j = n := by omega
      have HO := Lib.hid ho
      have HB := Lib.hid hb
      clear ho hb
      go_wp2_with fail
      go_ret
      exact ⟨_, rfl, HO.out, HB.out⟩
set_option maxHeartbeats 2000000 in
theorem building_any (w : World) (σ : Nat → Option Drv) (R : Nat → Prop) (h : Dsk w σ R) (g : Nat) (a : Arr) (V : AV) (ha : ArrMem w R g a V) (hp : ∀ p ∈ a.ds, PIn σ p) (hn : a.ds.length ≤ 100) (hbl : a.bs.length = a.ds.length) :
    Calls Tryz.prog 101 #[.pointer (some ⟨g, 0, none⟩)] w (MadeI w (colsL (buildB σ a) a.ds.length)) := by
  have hq : w.cell? ⟨g, 7, none⟩ = some (.slice (some ⟨V.A, 0, none⟩) a.ds.length V.ca) := ha.head.cell 7
  have HD := Lib.hid h
  have HVA := Lib.hid ha.va
  have HA := Lib.hid ha
  have HP := Lib.hid (fun j (hj : j < a.ds.length) => hp _ (getD_mem hj))
  generalize hN : a.ds.length = n at *
  have HN := Lib.hid hN
  have HBL := Lib.hid hbl
  clear h ha hp hN hbl
  go_enter Tryz.func101, Tryz.ntmps101
  go_wp2_with fail
  go_loopw [11, 3] (fun i v wr => ∃ j : Nat, j ≤ n ∧ i = .int .i64 j ∧ OwnI wr w.heap.size 3 .i64 v (colsL (buildB σ a) j) ∧ Below w.heap.size w wr) (fun i _ _ => n - (RowKit.intOf i).toNat)
  case atStart => exact ⟨0, by omega, rfl, (show OwnI _ _ _ _ _ [] from OwnI.nil_ _ _ _ _), Below.refl _ _⟩
  case round =>
    rename_i v
    obtain ⟨j, hj, rfl, ho, hb⟩ := hrel
    by_cases hlt : j < n
    · have hjl : j < a.ds.length := by rw [HN.out]; exact hlt
      have hcell := (HVA.out.below hb).at_ hlt
      rw [getD_mapV pv a.ds j hjl, Nat.zero_add] at hcell
      have HAL := Lib.hid (fun W (h2 : Below wr.heap.size wr W) => alive_any W σ R ((HD.out.below hb).below h2) (a.ds.getD j none) (HP.out j hlt))
      have HS := Lib.hid (colsL_succ (buildB σ a) j)
      have hlen := colsL_len (buildB σ a) j
      rw [show buildB σ a j = (aliveB σ (a.ds.getD j none) && decide (a.bs.getD j 0 < a.r)) from rfl] at HS
      have haj := HA.out.below hb
      obtain ⟨bB, bo, cb, hbv, hbc⟩ : ∃ b o c, V.bv = .slice (some ⟨b, o, none⟩) n c ∧ wr.cell? ⟨b, o + j, none⟩ = some (.int .i64 (a.bs.getD j 0)) := by
        obtain ⟨A, c, hA⟩ := haj.bs.shape
        have h1 := haj.bs
        rw [hA] at h1
        obtain ⟨_, hii⟩ := h1.ints
        obtain ⟨b, o, e1, _, h2⟩ := hii (by rw [HBL.out]; omega)
        exact ⟨b, o, c, by rw [hA, e1, ← HBL.out], h2 j (by rw [HBL.out]; exact hlt)⟩
      have hq8 : wr.cell? ⟨g, 8, none⟩ = some (.slice (some ⟨bB, bo, none⟩) n cb) := (haj.head.cell 8).trans (by rw [← hbv]; rfl)
      have hq4 : wr.cell? ⟨g, 4, none⟩ = some (.int .i64 (a.r : Int)) := haj.head.cell 4
      have hbb := cellLt hbc
      have hgl := cellLt hq4
      obtain ⟨p, hp⟩ : ∃ p, a.ds.getD j none = p := ⟨_, rfl⟩
      rw [hp] at hcell HAL HS
      obtain ⟨pa, hpa⟩ : ∃ a : Option Addr, pv p = .pointer a := ⟨_, rfl⟩
      rw [hpa] at hcell HAL
      obtain ⟨q, hqq⟩ : ∃ q, aliveB σ p = q := ⟨_, rfl⟩
      rw [hqq] at HAL HS
      obtain ⟨x, hx⟩ : ∃ x, a.bs.getD j 0 = x := ⟨_, rfl⟩
      rw [hx] at HS hbc
      have HO := Lib.hid ho
      have HB := Lib.hid hb
      clear hqq hpa hp hx ho hb hbv haj hjl hq
      go_wp2_with fail
      have hnf := (Below.refl wr.heap.size wr).drew
      refine wp_region_nf (fun Y => Below wr.heap.size wr Y) (fun _ => false) [(0, true), (1, false), (2, true), (3, true), (4, true), (5, true), (6, true), (7, true), (8, true), (9, true), (10, true), (11, true), (12, true), (13, true), (14, true), (15, true), (16, true), (17, true)] (by kernel_rfl) rfl (by kernel_rfl) (by kernel_rfl) (fun d _ _ _ _ h => by cases d <;> exact h) ?_
      repeat (refine nf_pure rfl hnf (fun Y hY => by clear hY; go_wp2; exact ⟨rfl, rfl, rfl⟩) rfl ?_ ?_; rfl)
      refine nf_imp rfl ?_
      go_wp2_with fail
      refine (HAL.out _ hnf).mono ?_
      rintro e w1 ⟨rfl, rfl⟩
      go_wp2_with fail
      refine ⟨fun _ => hnf, ?_⟩
      cases q
      ·
        repeat (refine nf_pure rfl hnf (fun Y hY => by have c8 := (hY.cell (p := ⟨g, 8, none⟩) hgl).trans hq8; have c4 := (hY.cell (p := ⟨g, 4, none⟩) hgl).trans hq4; have cb := (hY.cell (p := ⟨bB, bo + j, none⟩) hbb).trans hbc; clear hY; go_wp2; exact ⟨rfl, rfl, rfl⟩) rfl ?_ ?_; rfl)
        refine nf_nil ?_
        have HB2 := Lib.hid hnf
        clear hnf hcell
        go_wp2_with fail
        go_roundw
        case rel => exact ⟨j + 1, by omega, by go_num, by rw [HS.out]; simpa using HO.out.below HB2.out, HB.out.trans (HB2.out.mono HB.out.size)⟩
        case measure => simp [RowKit.intOf]; omega
      ·
        repeat (refine nf_pure rfl hnf (fun Y hY => by have c8 := (hY.cell (p := ⟨g, 8, none⟩) hgl).trans hq8; have c4 := (hY.cell (p := ⟨g, 4, none⟩) hgl).trans hq4; have cb := (hY.cell (p := ⟨bB, bo + j, none⟩) hbb).trans hbc; clear hY; go_wp2; exact ⟨rfl, rfl, rfl⟩) rfl ?_ ?_; rfl)
        refine nf_nil ?_
        have HB2 := Lib.hid hnf
        have hsz := HB.out.size
        generalize wr.drew = W2 at *
        have hsz2 := HB2.out.size
        clear hnf hcell hbc hq8 hq4 hbb hgl
        by_cases hlx : x < (a.r : Int)
        · have HS2 := Lib.hid (HS.out.trans (show _ = colsL (buildB σ a) j ++ [(j : Int)] by simp [hlx]))
          go_wp2_with (at_builtin; refine wp_pushI 30 3 .i64 Tryz.underlying30 info_int rfl (.tmp 34) (.tmp 36) rfl w.heap.size _ _ ((HO.out.below HB2.out).alloc _) rfl ⟨W2.heap.size, 0, none⟩ 1 (j : Int) rfl (cell_one _ _ _) (by omega) (by simp; omega) ?_; intro v4 w4 hv4 hg4 hb4)
          go_roundw
          case rel => exact ⟨j + 1, by omega, by go_num, by rw [HS2.out]; exact hv4, ((HB.out.trans (HB2.out.mono hsz)).alloc (by omega) _).trans hb4⟩
          case measure => simp [RowKit.intOf]; omega
        · have HS2 := Lib.hid (HS.out.trans (show _ = colsL (buildB σ a) j by simp [hlx]))
          go_wp2_with fail
          go_roundw
          case rel => exact ⟨j + 1, by omega, by go_num, by rw [HS2.out]; exact HO.out.below HB2.out, HB.out.trans (HB2.out.mono hsz)⟩
          case measure => simp [RowKit.intOf]; omega
    · obtain rfl : j = n := by omega
      have HO := Lib.hid ho
      have HB := Lib.hid hb
      clear ho hb hq
      go_wp2_with fail
      go_ret
      exact ⟨_, rfl, HO.out, HB.out⟩
theorem asize_any (w : World) (R : Nat → Prop) (g : Nat) (a : Arr) (V : AV) (ha : ArrMem w R g a V) (hg : geoOK a.n a.k a.r = true) :
    Calls Tryz.prog 119 #[.pointer (some ⟨g, 0, none⟩)] w fun e w' => e = .returned (.int .i64 ((a.r : Int) * a.k * ((a.n : Int) - 2))) ∧ Below w.heap.size w w' := by
  have HS := Lib.hid (size_lay w a.n a.k a.r hg)
  have hq := ha.head.cell
  unfold Arr.cells at hq
  unfold gV at HS
  clear ha hg
  go_enter Tryz.func119, Tryz.ntmps119
  go_wp2_with fail
  refine HS.out.mono ?_
  rintro e w1 ⟨rfl, hb⟩
  clear hq
  go_wp2_with fail
  go_ret
  exact ⟨rfl, hb⟩
end Go.Proofs.YtmhmdoobadckkaaGreatDoor
/- (*Map).Dirty where nothing is stained. -/
namespace Go.Proofs.YtmhmdoobadckkaaGreatDoor
set_option maxRecDepth 20000
open Go.RowKit Go.OpenShut
attribute [local go_sem] Oper.semAt_some

def iEnc (x : Int) : Array Value := #[.int .i64 x]
theorem stained_any (w : World) (g : Nat) :
    Calls Tryz.prog 211 #[.pointer (some ⟨g, 0, none⟩)] w fun e w' => e = .returned (.func (.func 289) #[] #[.pointer (some ⟨w.heap.size, 0, none⟩)]) ∧ w' = w.alloc (.cells #[.pointer (some ⟨g, 0, none⟩)] 163) := by
  go_enter Tryz.func211, Tryz.ntmps211
  go_wp2
  go_ret
  exact ⟨rfl, rfl⟩
set_option maxHeartbeats 2000000 in
theorem stained0_in (m : Nat) (_hm : 1 ≤ m) (l Bs _n₀ g : Nat) (J Jx : List Int → World → Prop) (W : World) (hBs : W.cell? ⟨Bs, 0, none⟩ = some (.pointer (some ⟨g, 0, none⟩))) (hI : W.cell? ⟨g, 1, none⟩ = some (.int .u64 0)) (h0 : J [] W) :
    CallsIn Fence.wide m Tryz.prog 289 #[.func (.yield l) #[] #[], .pointer (some ⟨Bs, 0, none⟩)] W fun e W' => (∃ v, e = .returned v) ∧ ((∃ ys : List Int, ys = [] ∧ J ys W') ∨ (∃ pre : List Int, True ∧ Jx pre W')) := by
  have HJ := Lib.hid h0
  clear h0
  refine callsIn_of_wp Tryz.func289 rfl trivial ?_ rfl
  simp only [Tryz.ntmps289, List.size_toArray, List.length_cons, List.length_nil, Nat.reduceAdd, Nat.reduceSub, Array.replicate_succ, Array.replicate_zero, List.push_toArray, List.append_toArray, List.nil_append, List.cons_append]
  gi_wp2
  gi_loopw [3] (fun i wr => i = .int .u64 0 ∧ wr = W) (fun _ _ => 0)
  case atStart => exact ⟨rfl, rfl⟩
  case round =>
    obtain ⟨rfl, hw⟩ := hrel
    replace hw := hw.symm
    subst hw
    gi_wp2
    go_end0
    exact ⟨⟨_, rfl⟩, .inl ⟨[], rfl, HJ.out⟩⟩
theorem stained0_stops (Bs n₀ g : Nat) (w : World) (hBs : Bs < w.heap.size) (hg : g < w.heap.size) (hc : w.cell? ⟨Bs, 0, none⟩ = some (.pointer (some ⟨g, 0, none⟩))) (hI : w.cell? ⟨g, 1, none⟩ = some (.int .u64 0)) :
    SeqStopsK Fence.wide 4 Tryz.prog 289 #[.pointer (some ⟨Bs, 0, none⟩)] iEnc (Below n₀) (fun ys => ys = []) (fun _ => True) 0 w :=
  fun l J Jx W hW _ _ hY h0 => stained0_in 4 (by omega) l Bs n₀ g J Jx W ((hW.cell (p := ⟨Bs, 0, none⟩) hBs).trans hc) ((hW.cell (p := ⟨g, 1, none⟩) hg).trans hI) h0
set_option maxHeartbeats 2000000 in
theorem dirty0_any (w : World) (g b : Nat) (I : IM) (h : IntAt w g b I) (hz : I.stain = 0) :
    Calls Tryz.prog 120 #[.pointer (some ⟨g, 0, none⟩)] w (MadeI w []) := by
  have hc : w.cell? ⟨g, 1, none⟩ = some (.int .u64 0) := (h.head.cell 1).trans (by rw [hz]; rfl)
  have hgl := h.head.lt
  clear h hz
  refine calls_marks Tryz.func120 rfl ?_
  simp only [Tryz.ntmps120, List.size_toArray, List.length_cons, List.length_nil, Nat.reduceAdd, Nat.reduceSub, Array.replicate_succ, Array.replicate_zero, List.push_toArray, List.append_toArray, List.nil_append, List.cons_append]
  go_wp2_with fail
  refine (stained_any _ g).mono ?_
  rintro e w1 ⟨rfl, rfl⟩
  go_wp2_with fail
  have hb1 := Blk.new w 30 #[.slice none 0 0]
  have hk1 := (Below.refl w.heap.size w).alloc (Nat.le_refl _) (.cells #[.slice none 0 0] 30)
  have hs1 : (w.alloc (.cells #[.slice none 0 0] 30)).heap.size = w.heap.size + 1 := by simp
  generalize w.alloc (.cells #[.slice none 0 0] 30) = W1 at *
  have hb2 := Blk.new W1 163 #[.pointer (some ⟨g, 0, none⟩)]
  have hb3 := hb1.alloc (.cells #[.pointer (some ⟨g, 0, none⟩)] 163)
  have hk2 := hk1.alloc hk1.size (.cells #[.pointer (some ⟨g, 0, none⟩)] 163)
  have hs2 : (W1.alloc (.cells #[.pointer (some ⟨g, 0, none⟩)] 163)).heap.size = w.heap.size + 1 + 1 := by simp; omega
  rw [hs1] at hb2
  generalize W1.alloc (.cells #[.pointer (some ⟨g, 0, none⟩)] 163) = R at *
  refine wp_range w.heap.size (by omega) rfl (enters_of Tryz.func289 (by kernel_rfl) rfl)
    (stained0_stops (w.heap.size + 1) w.heap.size g R (by omega) (by omega) (hb2.cell 0) ((hk2.cell (p := ⟨g, 1, none⟩) hgl).trans hc)) (fun _ => rfl)
    (fun _ V => Blk V w.heap.size 30 #[.slice none 0 0] ∧ Below w.heap.size w V)
    (fun _ _ _ => False) ?hI (fun _ _ _ _ _ hs _ _ => hs) ⟨hb3, hk2⟩ ?hround ?hdone (fun _ _ _ _ _ _ h => h.elim)
  case hI =>
    rintro s V V' row ⟨h3, h4⟩ hg hr
    exact ⟨h3.turn hg hr, below_turn h4 (Nat.le_refl _) (by omega) hg hr⟩
  case hround =>
    apply Exists.intro
    constructor
    · intro l x V K hK
      dsimp only [iEnc]
      gi_wp2
      exact hK
    · intro l pre x V _ hlen
      exact absurd hlen (by omega)
  case hdone =>
    rintro D xs V hD _ ⟨h1, h4⟩ hdef
    have hv := h1.cell 0
    go_wp2_with fail
    refine ret_mark rfl hdef (results_tmp rfl _ _ _) ?_
    exact ⟨_, rfl, OwnI.nil_ _ _ _ _, h4.trans (belowK_b (w := w) (Nat.le_refl _) V D _ _ (by omega) hdef rfl rfl)⟩
end Go.Proofs.YtmhmdoobadckkaaGreatDoor
/- (*Array).Status. -/
namespace Go.Proofs.YtmhmdoobadckkaaGreatDoor
set_option maxRecDepth 20000
open Go.RowKit Go.OpenShut

theorem OwnI.base {w : World} {B B' : Nat} {t : TypeId} {k : IntKind} {v : Value} {l : List Int} (h : OwnI w B t k v l) (hB : B' ≤ B) : OwnI w B' t k v l :=
  ⟨h.1, h.2.imp id fun ⟨g, cap, cur, e, hg, r⟩ => ⟨g, cap, cur, e, Nat.le_trans hB hg, r⟩⟩
def stZ : Array Value := #[.int .i64 0, .int .i64 0, .int .i64 0, .int .i64 0, .int .i64 0, .int .i64 0, .int .i64 0, .slice none 0 0, .slice none 0 0, .slice none 0 0, .bool false, .bool false, .bool false, .int .i64 0, .int .i64 0]
/-- a status -/
def stC (a : Arr) (sp : Int) (v1 v2 v3 : Value) (j : Bool) : Array Value := #[.int .i64 (a.n : Int), .int .i64 (a.k : Int), .int .i64 (a.r : Int), .int .i64 ((a.r : Int) * a.k * ((a.n : Int) - 2)), .int .i64 sp, .int .i64 (a.gr : Int), .int .i64 (a.scd : Int), v1, v2, v3,
  .bool (decide (0 < a.c)), .bool j, .bool false, .int .i64 (a.fx : Int), .int .i64 (a.wr : Int)]
theorem blk15 {w : World} {g : Nat} {t : TypeId} {cs : Array Value} (h : Blk w g t cs) (hcs : cs = stZ) (v0 v1 v2 v3 v4 v5 v6 v7 v8 v9 v10 v11 v12 v13 v14 : Value) :
    Blk (((((((((((((((w.setCell ⟨g, 0, none⟩ v0).setCell ⟨g, 1, none⟩ v1).setCell ⟨g, 2, none⟩ v2).setCell ⟨g, 3, none⟩ v3).setCell ⟨g, 4, none⟩ v4).setCell ⟨g, 5, none⟩ v5).setCell ⟨g, 6, none⟩ v6).setCell ⟨g, 7, none⟩ v7).setCell ⟨g, 8, none⟩ v8).setCell ⟨g, 9, none⟩ v9).setCell ⟨g, 10, none⟩ v10).setCell ⟨g, 11, none⟩ v11).setCell ⟨g, 12, none⟩ v12).setCell ⟨g, 13, none⟩ v13).setCell ⟨g, 14, none⟩ v14) g t #[v0, v1, v2, v3, v4, v5, v6, v7, v8, v9, v10, v11, v12, v13, v14] ∧
    ((∀ {B : Nat} {e : TypeId} {k : IntKind} {v : Value} (l : List Int), e ≠ t → OwnI w B e k v l → OwnI (((((((((((((((w.setCell ⟨g, 0, none⟩ v0).setCell ⟨g, 1, none⟩ v1).setCell ⟨g, 2, none⟩ v2).setCell ⟨g, 3, none⟩ v3).setCell ⟨g, 4, none⟩ v4).setCell ⟨g, 5, none⟩ v5).setCell ⟨g, 6, none⟩ v6).setCell ⟨g, 7, none⟩ v7).setCell ⟨g, 8, none⟩ v8).setCell ⟨g, 9, none⟩ v9).setCell ⟨g, 10, none⟩ v10).setCell ⟨g, 11, none⟩ v11).setCell ⟨g, 12, none⟩ v12).setCell ⟨g, 13, none⟩ v13).setCell ⟨g, 14, none⟩ v14) B e k v l) ∧
    ∀ B a, B ≤ g → Below B a w → Below B a (((((((((((((((w.setCell ⟨g, 0, none⟩ v0).setCell ⟨g, 1, none⟩ v1).setCell ⟨g, 2, none⟩ v2).setCell ⟨g, 3, none⟩ v3).setCell ⟨g, 4, none⟩ v4).setCell ⟨g, 5, none⟩ v5).setCell ⟨g, 6, none⟩ v6).setCell ⟨g, 7, none⟩ v7).setCell ⟨g, 8, none⟩ v8).setCell ⟨g, 9, none⟩ v9).setCell ⟨g, 10, none⟩ v10).setCell ⟨g, 11, none⟩ v11).setCell ⟨g, 12, none⟩ v12).setCell ⟨g, 13, none⟩ v13).setCell ⟨g, 14, none⟩ v14)) := by
  subst hcs
  refine ⟨?_, fun l he ho => ?_, fun B a hB hb => ?_⟩
  · have h1 := ((((((((((((((h.set_ 0 v0).set_ 1 v1).set_ 2 v2).set_ 3 v3).set_ 4 v4).set_ 5 v5).set_ 6 v6).set_ 7 v7).set_ 8 v8).set_ 9 v9).set_ 10 v10).set_ 11 v11).set_ 12 v12).set_ 13 v13).set_ 14 v14
    simpa [stZ] using h1
  · have hne : some g ≠ Value.ownBlock _ := ho.ne_blk h he.symm
    iterate 15 refine OwnI.far ?_ (by exact hne) _
    exact ho
  · iterate 15 refine Below.setCell ?_ (by exact hB) _
    exact hb
/-- a fact that several ways share: what it speaks of is fixed by its first use -/
theorem share {α : Type} {G : Prop} {p : α → Prop} (f : α) (hm : p f → G) (hp : p f) : G := hm hp
end Go.Proofs.YtmhmdoobadckkaaGreatDoor
