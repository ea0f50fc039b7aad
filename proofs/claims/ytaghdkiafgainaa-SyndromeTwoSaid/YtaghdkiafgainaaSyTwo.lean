/- revetmentlaw05.SyndromeTwo: the plain law, and its walk. -/
import Derived.Test.YtaghdkiafgainaaSyPlain
import Derived.Maps.AppendAt
namespace Go.Proofs.Ytaghdkiafgainaa
open Go.RowKit Go.OpenShut

def gq (u : UInt8) (i : Nat) : UInt8 := UInt8.ofNat (gm u.toNat (pw i))
theorem gq_xor (u v : UInt8) (i : Nat) : gq (u ^^^ v) i = gq u i ^^^ gq v i := by
  have h := congrArg (fun l : List UInt8 => l.getD 0 0) (lin4 [u] [v] (pw i) (pw_lt i))
  simp only [mulL_getD, xorL_getD] at h
  exact h
theorem xor_swap {p q r s : UInt8} (h : p ^^^ q = r ^^^ s) : p ^^^ r = q ^^^ s := by
  have h1 : p = (r ^^^ s) ^^^ q := by rw [← h, UInt8.xor_assoc, UInt8.xor_self, UInt8.xor_zero]
  have h2 : ((r ^^^ s) ^^^ q) ^^^ r = (r ^^^ r) ^^^ (q ^^^ s) := by ac_rfl
  rw [h1, h2, UInt8.xor_self, UInt8.zero_xor]
theorem xor_eq {p q : UInt8} (h : p ^^^ q = 0) : p = q := by
  have h1 : (p ^^^ q) ^^^ q = 0 ^^^ q := by rw [h]
  rw [UInt8.xor_assoc, UInt8.xor_self, UInt8.xor_zero, UInt8.zero_xor] at h1
  exact h1
theorem two_plain (a b c d : UInt8) (x y : Nat) (hx : x < 8) (hy : y < 8) (hne : x ≠ y) : (a ^^^ b = c ^^^ d ∧ gq a x ^^^ gq b y = gq c x ^^^ gq d y) ↔ (a = c ∧ b = d) := by
  constructor
  · rintro ⟨h1, h2⟩
    have e1 := xor_swap h1
    have e2 := xor_swap h2
    rw [← gq_xor, ← gq_xor, ← e1] at e2
    have h0 : (a ^^^ c).toNat = 0 := by
      rcases Nat.eq_zero_or_pos (a ^^^ c).toNat with h | h
      · exact h
      · exfalso
        have g1 := gm_lt (b := pw x) (a ^^^ c).toNat_lt
        have g2 := gm_lt (b := pw y) (a ^^^ c).toNat_lt
        have e3 : gm (a ^^^ c).toNat (pw x) = gm (a ^^^ c).toNat (pw y) := by
          have := congrArg UInt8.toNat e2
          unfold gq at this
          rw [UInt8.toNat_ofNat', UInt8.toNat_ofNat'] at this
          omega
        exact hne (pw_inj (by omega) (by omega) (gm_cancel (a ^^^ c).toNat_lt (pw_lt _) (pw_lt _) (by omega) e3))
    have h3 : a ^^^ c = 0 := UInt8.toNat_inj.1 (by rw [h0]; rfl)
    exact ⟨xor_eq h3, xor_eq (by rw [← e1]; exact h3)⟩
  · rintro ⟨rfl, rfl⟩
    exact ⟨rfl, rfl⟩
def twoL (x y : Nat) (a b : UInt8) : List ByteArray := ((List.replicate 8 (⟨#[0]⟩ : ByteArray)).set x ⟨#[a]⟩).set y ⟨#[b]⟩
theorem twoL_len (x y : Nat) (a b : UInt8) : (twoL x y a b).length = 8 := by simp [twoL]
theorem twoL_at (x y : Nat) (a b : UInt8) (j : Nat) (hj : j < 8) : (twoL x y a b).getD j ⟨#[]⟩ = if j = y then ⟨#[b]⟩ else if j = x then ⟨#[a]⟩ else ⟨#[0]⟩ := by
  unfold twoL
  simp only [List.getD, List.getElem?_set, List.getElem?_replicate, List.length_set, List.length_replicate]
  by_cases h1 : j = y
  · subst h1; simp [hj]
  · by_cases h2 : j = x
    · subst h2; simp [hj, h1, Ne.symm h1]
    · simp [hj, h1, h2, Ne.symm h1, Ne.symm h2]
theorem twoL_size (x y : Nat) (a b : UInt8) : ∀ s ∈ twoL x y a b, s.size = 1 := by
  intro s hs
  obtain ⟨j, hj, rfl⟩ := List.mem_iff_getElem.1 hs
  have h := twoL_at x y a b j (by rw [twoL_len] at hj; exact hj)
  simp only [List.getD, List.getElem?_eq_getElem hj, Option.getD_some] at h
  rw [h]
  (repeat' split) <;> rfl
theorem addL_len_eq (M : Nat) (x : ByteArray) (xs : List ByteArray) (h : ∀ s ∈ x :: xs, s.size = M) : (addL (x :: xs)).length = M := by
  rw [addL_cons, xorL_length]
  have h1 := h x (by simp)
  have h2 := addL_len M xs (fun s hs => by rw [h s (by simp [hs])]; exact Nat.le_refl _)
  have h3 : x.data.toList.length = x.size := by simp
  omega
theorem qL_len_eq (M : Nat) (x : ByteArray) (xs : List ByteArray) (h : ∀ s ∈ x :: xs, s.size = M) : (qL (x :: xs)).length = M := by
  rw [qL_cons, xorL_length, mulL_len]
  have h1 := h x (by simp)
  have h2 := qL_len M xs (fun s hs => by rw [h s (by simp [hs])]; exact Nat.le_refl _)
  have h3 : x.data.toList.length = x.size := by simp
  omega
theorem len_one {l : List UInt8} (h : l.length = 1) : l = [l.getD 0 0] := by
  match l, h with
  | [x], _ => rfl
theorem twoL_sums (x y : Nat) (a b : UInt8) (hx : x < 8) (hy : y < 8) (hne : x ≠ y) : addL (twoL x y a b) = [a ^^^ b] ∧ qL (twoL x y a b) = [gq a x ^^^ gq b y] := by
  have hc : ∃ s r, twoL x y a b = s :: r := by
    cases h : twoL x y a b with
    | nil => have := twoL_len x y a b; rw [h] at this; cases this
    | cons s r => exact ⟨s, r, rfl⟩
  obtain ⟨s, r, hsr⟩ := hc
  have hsz := twoL_size x y a b
  rw [hsr] at hsz
  have l1 := addL_len_eq 1 s r hsz
  have l2 := qL_len_eq 1 s r hsz
  rw [← hsr] at l1 l2
  rw [len_one l1, len_one l2]
  have r1 : ((List.replicate 8 (⟨#[0]⟩ : ByteArray)).set x ⟨#[a]⟩).getD y ⟨#[]⟩ = ⟨#[0]⟩ := by
    simp only [List.getD, List.getElem?_set, List.getElem?_replicate, List.length_replicate]
    simp [hne, hy]
  have r2 : (List.replicate 8 (⟨#[0]⟩ : ByteArray)).getD x ⟨#[]⟩ = ⟨#[0]⟩ := by
    rw [List.getD, List.getElem?_replicate, if_pos hx]
    rfl
  have z1 : (addL (List.replicate 8 (⟨#[0]⟩ : ByteArray))).getD 0 0 = 0 := by decide +kernel
  have z2 : (qL (List.replicate 8 (⟨#[0]⟩ : ByteArray))).getD 0 0 = 0 := by decide +kernel
  have g0 : ∀ i, UInt8.ofNat (gm ((⟨#[0]⟩ : ByteArray).data.toList.getD 0 0).toNat (pw i)) = 0 := fun i => by
    show UInt8.ofNat (gm 0 (pw i)) = 0
    rw [gm_zero_left]
    rfl
  constructor
  · unfold twoL
    rw [addL_set 0 _ _ y (by simp; exact hy), r1, addL_set 0 _ _ x (by simp; exact hx), r2, z1]
    simp
  · unfold twoL
    rw [qL_set 0 _ _ y (by simp; exact hy), r1, qL_set 0 _ _ x (by simp; exact hx), r2, z2]
    simp only [mulL_getD, g0]
    simp [gq]
theorem two_same (a b c d : UInt8) (x y : Nat) (hx : x < 8) (hy : y < 8) (hne : x ≠ y) :
    (decide (addL (twoL x y a b) = addL (twoL x y c d)) && decide (qL (twoL x y a b) = qL (twoL x y c d))) = (a == c && b == d) := by
  rw [(twoL_sums x y a b hx hy hne).1, (twoL_sums x y a b hx hy hne).2, (twoL_sums x y c d hx hy hne).1, (twoL_sums x y c d hx hy hne).2, Bool.eq_iff_iff]
  simp only [Bool.and_eq_true, decide_eq_true_eq, List.cons.injEq, and_true, beq_iff_eq]
  exact two_plain a b c d x y hx hy hne
/-- one string appended to a slice of the call's own; where the new one lies -/
theorem wp_pushS {w : World} {ops : Array Oper} {rest : List Oper} {o : Oper} {a : Act} {Q : Exit → Act → World → Prop} (hgd : o.guard = none) (s x : Operand)
    (ho : o.op = .call { callee := .builtin .append, args := #[s, x], argTypes := #[22, 22] })
    (base : Nat) (v : Value) (l : List ByteArray) (hown : OwnS w base v l) (hs : a.eval s = v) (ad : Addr) (c : Nat) (b : ByteArray) (hx : a.eval x = .slice (some ad) 1 c) (hc : w.cell? ad = some (.string b))
    (hlen : l.length < 4294967296) (hbase : base ≤ w.heap.size)
    (h : ∀ v' w', OwnS w' base v' (l ++ [b]) → w.grownBy w' v.ownBlock → Below base w w' → (v'.ownBlock = v.ownBlock ∨ v'.ownBlock = some w.heap.size) → wpList Try.prog ops Q rest (a.put o.dst v') w') : wpList Try.prog ops Q (o :: rest) a w := by
  obtain ⟨i0, hi, hz0, hz1, hz2⟩ := info_parts info_string
  refine wpList_append_own_at _ hgd s x 22 ho base 9 i0 (.string ⟨#[]⟩) 1 16 Try.underlying22 hi hz0 hz1 hz2 rfl (by decide) v l.length (svs l) hs hown ad 1 c [.string b] hx rfl ?_ ?_ (by unfold maxLen; omega) (by omega) hbase ?_
  · intro j u hj
    have : j = 0 := by
      rcases Nat.eq_zero_or_pos j with e | e
      · exact e
      · rw [List.getElem?_eq_none (by simp; omega)] at hj; cases hj
    subst this
    simp at hj
    subst hj
    simpa [Addr.add] using hc
  · intro u hu
    simp at hu
    subst hu
    rfl
  · intro v' w' h1 h2 _ h3
    refine h v' w' ?_ h2 ((Below.refl _ _).grown h2 hbase (fun k hk => (World.ownsRow.lt hown k hk).1)) h3
    unfold OwnS
    have e : svs (l ++ [b]) = svs l ++ [.string b] := by simp [svs]
    rw [e, List.length_append]
    exact h1
theorem OwnS.lt {w : World} {base : Nat} {v : Value} {l : List ByteArray} (h : OwnS w base v l) : ∀ k, v.ownBlock = some k → k < w.heap.size := fun k hk => (World.ownsRow.lt h k hk).2
end Go.Proofs.Ytaghdkiafgainaa
