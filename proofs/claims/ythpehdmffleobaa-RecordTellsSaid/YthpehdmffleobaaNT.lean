/- A region that draws its order, walked by a tree of orders: as in NF, but where two operations that are no pure ones may come up, both orders are walked. -/
import Derived.Test.YthpehdmffleobaaNF
namespace Go.Proofs.Ythpehdmffleobaa
open Go

inductive NT where
  | nil : NT
  | pure : Nat → NT → NT
  | imp : Nat → NT → NT
  | fork : Nat → NT → Nat → NT → NT

section
variable {P : Program} {ops : Array Oper} {Q : Exit → Act → World → Prop} {md : Region.Mode} {S : World → Prop}

def wpNT (P : Program) (ops : Array Oper) (Q : Exit → Act → World → Prop) (S : World → Prop) (bar : Nat → Bool) : NT → Act → World → Prop
  | .nil, a, w => Q .normal a w
  | .pure i r, a, w => S w ∧ ∃ o v, ops[i]? = some o ∧ YG P ops S o v a ∧ wpNT P ops Q S bar r (a.put o.dst v) w
  | .imp i r, a, w => wpOp P ops Q i (fun a' w' => (bar i = false → S w') ∧ wpNT P ops Q S bar r a' w') a w
  | .fork i r j t, a, w => wpOp P ops Q i (fun a' w' => (bar i = false → S w') ∧ wpNT P ops Q S bar r a' w') a w ∧ wpOp P ops Q j (fun a' w' => (bar j = false → S w') ∧ wpNT P ops Q S bar t a' w') a w

def ntB (md : Region.Mode) (ops : Array Oper) (bar : Nat → Bool) : Nat → NT → Array Bool → Bool
  | 0, .nil, listed => (Region.ready md ops listed).isEmpty
  | n + 1, .pure i r, listed => (Region.ready md ops listed).contains i && nfFree md ops bar listed i && ntB md ops bar n r (listed.setIfInBounds i true)
  | n + 1, .imp i r, listed => decide (Region.ready md ops listed = [i]) && ntB md ops bar n r (listed.setIfInBounds i true)
  | n + 1, .fork i r j t, listed => decide (Region.ready md ops listed = [i, j]) && ntB md ops bar n r (listed.setIfInBounds i true) && ntB md ops bar n t (listed.setIfInBounds j true)
  | _, _, _ => false

theorem wpAnyG_of_nt {bar : Nat → Bool} (hs : Region.noSelect ops = true) (hQ : ∀ d v c a w, Q (.panic c) (a.put d v) w → Q (.panic c) a w) :
    ∀ (n : Nat) (π : NT) (listed : Array Bool) (a : Act) (w : World), ntB md ops bar n π listed = true → wpNT P ops Q S bar π a w → wpAnyG P md ops Q S bar n listed a w
  | 0, .nil, _, _, _, hB, h => ⟨by simpa [ntB] using hB, h⟩
  | n + 1, .pure i r, listed, a, w, hB, h => by
    obtain ⟨hS, o, v, hi, hy, h⟩ := h
    simp only [ntB, Bool.and_eq_true] at hB
    obtain ⟨⟨hr, hf⟩, hB'⟩ := hB
    obtain ⟨hb, hfree⟩ := nfFree_spec hi hf
    exact wpAnyG_first hi (Region.noSelect_spec hs) hb (fun c a w => hQ o.dst v c a w) n listed a w hS hfree (by simpa using hr) hy (wpAnyG_of_nt hs hQ n r _ _ _ hB' h)
  | n + 1, .imp i r, listed, a, w, hB, h => by
    simp only [ntB, Bool.and_eq_true, decide_eq_true_eq] at hB
    obtain ⟨hr, hB'⟩ := hB
    refine ⟨fun h0 => (by rw [hr] at h0; cases h0), fun j hj => ?_⟩
    rw [hr] at hj
    obtain rfl : j = i := by simpa using hj
    exact wpOp_mono (fun a' w' h' => ⟨h'.1, wpAnyG_of_nt hs hQ n r _ _ _ hB' h'.2⟩) h
  | n + 1, .fork i r k t, listed, a, w, hB, h => by
    simp only [ntB, Bool.and_eq_true, decide_eq_true_eq] at hB
    obtain ⟨⟨hr, hB1⟩, hB2⟩ := hB
    refine ⟨fun h0 => (by rw [hr] at h0; cases h0), fun j hj => ?_⟩
    rw [hr] at hj
    have hj' : j = i ∨ j = k := by simpa using hj
    rcases hj' with rfl | rfl
    · exact wpOp_mono (fun a' w' h' => ⟨h'.1, wpAnyG_of_nt hs hQ n r _ _ _ hB1 h'.2⟩) h.1
    · exact wpOp_mono (fun a' w' h' => ⟨h'.1, wpAnyG_of_nt hs hQ n t _ _ _ hB2 h'.2⟩) h.2
  | 0, .pure .., _, _, _, hB, _ => by simp [ntB] at hB
  | 0, .imp .., _, _, _, hB, _ => by simp [ntB] at hB
  | 0, .fork .., _, _, _, hB, _ => by simp [ntB] at hB
  | n + 1, .nil, _, _, _, hB, _ => by simp [ntB] at hB

/-- THE REGION, BY ITS TREE OF ORDERS π. -/
theorem wp_region_nt {id : Nat} {l : List Oper} {a : Act} {w : World} (S : World → Prop) (bar : Nat → Bool) (π : NT) (hm : P.follows .mixedOrders = true)
    (hs : Region.noSelect l.toArray = true) (hB : ntB .any l.toArray bar l.length π (Array.replicate l.length false) = true)
    (hQ : ∀ d v c a w, Q (.panic c) (a.put d v) w → Q (.panic c) a w)
    (h : wpNT P l.toArray Q S bar π a w.drew) : (Code.region id l.toArray true).wp P Q a w := by
  refine wp_region_any hm (wpAny_of_G _ _ _ _ (S := S) (bar := bar) ?_)
  have := wpAnyG_of_nt hs hQ l.length π (Array.replicate l.length false) a w.drew hB h
  simpa using this

def NT.pures : List Nat → NT → NT
  | [], t => t
  | i :: r, t => .pure i (NT.pures r t)

theorem nt_pure {bar : Nat → Bool} {i : Nat} {o : Oper} {r : NT} {a a1 : Act} {w : World} (hi : ops[i]? = some o) (hS : S w)
    (h1 : ∀ w', S w' → wpList P ops (only a1 w') [o] a w') (hz : szB o a = true) (hd : a1.defers = a.defers) (h2 : wpNT P ops Q S bar r a1 w) : wpNT P ops Q S bar (.pure i r) a w := by
  have hsz := szB_spec hz
  by_cases hw : Region.wanted o (yielded ops a.tmps) = true
  · have h1' : ∀ w', S w' → o.wp P a w' (only a1 w' .normal) (only a1 w') := fun w' hS' => by
      have h := h1 w' hS'
      simp only [wpList, hw, if_true] at h
      exact h.resolve_right fun hh => only_out hh.2
    obtain ⟨⟨v, hv⟩, _⟩ := wp_val hd (h1' w hS)
    have hV := put_val hsz hv a
    refine ⟨hS, o, _, hi, .inl ⟨hw, fun w' hS' => ⟨(wp_val hd (h1' w' hS')).2, fun K Q hK => ?_⟩⟩, by rw [← hV, hv]; exact h2⟩
    rw [← hV, hv] at hK
    exact wp_strict (h1' w' hS') (fun a' w'' h => by rw [h.2.1, h.2.2]; exact hK) (fun c a' w'' h => by cases h.1) only_out
  · have h := h1 w hS
    simp only [wpList, hw] at h
    have h3 : a.put o.dst undef = a1 := h.2.1
    exact ⟨hS, o, undef, hi, .inr ⟨by simpa using hw, rfl⟩, by rw [h3]; exact h2⟩

def behindT (P : Program) (ops : Array Oper) (Q : Exit → Act → World → Prop) (S : World → Prop) (b : Bool) (bar : Nat → Bool) (r : NT) : Exit → Act → World → Prop
  | .normal, a, w => (b = false → S w) ∧ wpNT P ops Q S bar r a w
  | e, a, w => Q e a w
theorem nt_op {bar : Nat → Bool} {i : Nat} {o : Oper} {r : NT} {a : Act} {w : World} (hi : ops[i]? = some o)
    (h : wpList P ops (behindT P ops Q S (bar i) bar r) [o] a w) : wpOp P ops Q i (fun a' w' => (bar i = false → S w') ∧ wpNT P ops Q S bar r a' w') a w := by
  unfold wpOp
  simp only [hi]
  simp only [wpList] at h
  split
  · rename_i hw
    simp only [hw, if_true] at h
    rcases h with h | h
    · refine .inl ?_
      unfold Oper.wp at *
      have hout : LetsOut (behindT P ops Q S (bar i) bar r) → LetsOut Q := fun ⟨a, w, hq⟩ => ⟨a, w, hq⟩
      generalize (execOp a.eval o).run P w = z at *
      cases z with
      | ok n w1 =>
        cases n <;> simp only [Oper.upon] at h ⊢
        case enter f args =>
          refine Calls.mono h fun e w'' he => ?_
          cases e with
          | returned v => exact he
          | panicked c => exact he
          | outgrown => exact hout he
        all_goals exact h
      | halt x w1 => cases x <;> simp only [Oper.upon] at h ⊢; exact h
    · exact .inr ⟨h.1, let ⟨a, w, hq⟩ := h.2; ⟨a, w, hq⟩⟩
  · rename_i hw
    simp only [hw] at h
    exact h
theorem nt_imp {bar : Nat → Bool} {i : Nat} {o : Oper} {r : NT} {a : Act} {w : World} (hi : ops[i]? = some o)
    (h : wpList P ops (behindT P ops Q S (bar i) bar r) [o] a w) : wpNT P ops Q S bar (.imp i r) a w := nt_op hi h
theorem nt_fork {bar : Nat → Bool} {i j : Nat} {o o' : Oper} {r t : NT} {a : Act} {w : World} (hi : ops[i]? = some o) (hj : ops[j]? = some o')
    (h : wpList P ops (behindT P ops Q S (bar i) bar r) [o] a w) (h' : wpList P ops (behindT P ops Q S (bar j) bar t) [o'] a w) : wpNT P ops Q S bar (.fork i r j t) a w := ⟨nt_op hi h, nt_op hj h'⟩
theorem nt_nil {bar : Nat → Bool} {a : Act} {w : World} (h : Q .normal a w) : wpNT P ops Q S bar .nil a w := h
end
end Go.Proofs.Ythpehdmffleobaa
