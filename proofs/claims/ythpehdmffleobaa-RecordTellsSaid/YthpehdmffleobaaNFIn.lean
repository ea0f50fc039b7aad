/- A region of a round (the body of a range over a function), at the wide fence: what holds of it outside holds of it inside. -/
import Derived.Test.YthpehdmffleobaaNF
import Derived.CallsIn
import Derived.OrdersIn
import Derived.RangeFuncCalls
import Derived.TacticsIn
namespace Go.Proofs.Ythpehdmffleobaa
open Go

section
variable {P : Program} {ops : Array Oper} {Q : Exit → Act → World → Prop}

def noDefer (ops : Array Oper) : Bool := ops.all fun o => match o.op with | .defer _ => false | _ => true
theorem noDefer_spec (h : noDefer ops = true) {i : Nat} {o : Oper} (hi : ops[i]? = some o) : ∀ c, o.op ≠ .defer c := by
  intro c hc
  have := Array.all_eq_true_iff_forall_mem.1 h o (Array.mem_of_getElem? hi)
  simp [hc] at this

theorem wpIn_of_wp_op {o : Oper} {a : Act} {w : World} {K : Act → World → Prop} {n : Nat} (r : Nat) (hd : ∀ c, o.op ≠ .defer c) (h : o.wp P a w K Q) : o.wpIn (Fence.wide.inRound r) n P a w K Q := by
  refine ⟨fun _ _ => trivial, ?_⟩
  unfold Oper.wp at h
  rw [show (Fence.wide.inRound r).round = some r from rfl, Oper.semAt_some r _ _ hd]
  generalize (execOp a.eval o).run P w = z at *
  cases z with
  | ok x w' =>
    cases x <;> simp only [Oper.upon, Oper.uponIn] at h ⊢
    case value v => exact h
    case skip => exact h
    case defer d => exact h
    case enter f args => exact ⟨fun h0 => by simp [Fence.wide, Fence.inRound] at h0, (callsIn_wide (n := n - 1)).2 h⟩
    case row row args =>
      refine ⟨fun h0 => by simp [Fence.wide, Fence.inRound] at h0, fun c cs _ => ?_⟩
      obtain ⟨v, w2, hR, hs⟩ := h c cs
      exact ⟨v, w2, hR, stepsIn_wide.2 hs⟩
  | halt x w' =>
    cases x <;> simp only [Oper.upon, Oper.uponIn] at h ⊢
    case panic u => exact h

theorem wpOpsIn_of_wpOps {n : Nat} (r : Nat) (hd : noDefer ops = true) (ho : ¬ LetsOut Q) : ∀ (l : List Nat) (a : Act) (w : World), wpOps P ops Q l a w → wpOpsIn (Fence.wide.inRound r) n P ops Q l a w
  | [], _, _, h => h
  | i :: l, a, w, h => by
    unfold wpOps at h
    unfold wpOpsIn
    cases hi : ops[i]? with
    | none => simp only [hi] at h ⊢; exact wpOpsIn_of_wpOps r hd ho l a w h
    | some o =>
      simp only [hi] at h ⊢
      split
      · rename_i hw
        simp only [hw, if_true] at h
        exact wpIn_of_wp_op r (noDefer_spec hd hi) (Oper.wp_mono (fun a w => wpOpsIn_of_wpOps r hd ho l a w) (h.resolve_right fun hh => ho hh.2))
      · rename_i hw
        simp only [hw] at h
        exact ⟨fun _ _ => trivial, wpOpsIn_of_wpOps r hd ho l _ w h⟩

/-- THE REGION OF A ROUND, BY ITS ONE ORDER π. -/
theorem wpIn_region_nf {id n : Nat} (r : Nat) {l : List Oper} {a : Act} {w : World} (S : World → Prop) (bar : Nat → Bool) (π : List (Nat × Bool)) (hm : P.follows .mixedOrders = true)
    (hn : π.length = l.length) (hs : Region.noSelect l.toArray = true) (hB : nfB .any l.toArray bar π (Array.replicate l.length false) = true)
    (hQ : ∀ d v c a w, Q (.panic c) (a.put d v) w → Q (.panic c) a w) (hd : noDefer l.toArray = true) (ho : ¬ LetsOut Q)
    (h : wpNF P l.toArray Q S bar π a w.drew) : (Code.region id l.toArray true).wpIn (Fence.wide.inRound r) n P Q a w := by
  refine wpIn_region_draw fun t => ?_
  simp only [Region.schedule, hm, Bool.true_or, if_true]
  refine wpOpsIn_of_wpOps r hd ho _ _ _ (wpAny_sound _ t _ a _ (wpAny_of_G _ _ _ _ (S := S) (bar := bar) ?_))
  have := wpAnyG_of_nf hs hQ π (Array.replicate l.length false) a w.drew hB h
  rw [hn] at this
  simpa using this
/-- .. a region that draws no order -/
theorem wpIn_region_plain {id n : Nat} (r : Nat) {a : Act} {w : World} (hd : noDefer ops = true) (ho : ¬ LetsOut Q) (h : (wpOps P ops Q (List.range ops.size) a w)) : (Code.region id ops false).wpIn (Fence.wide.inRound r) n P Q a w :=
  wpIn_region (wpOpsIn_of_wpOps r hd ho _ _ _ h)
/-- .. by any order, what 'go_region' shows -/
theorem wpIn_region_of_any {id n : Nat} (r : Nat) {a : Act} {w : World} (hm : P.follows .mixedOrders = true) (hd : noDefer ops = true) (ho : ¬ LetsOut Q)
    (h : wpAny P .any ops Q ops.size (Array.replicate ops.size false) a { w with drawn := w.drawn + 1 }) : (Code.region id ops true).wpIn (Fence.wide.inRound r) n P Q a w := by
  refine wpIn_region_draw fun t => ?_
  simp only [Region.schedule, hm, Bool.true_or, if_true]
  exact wpOpsIn_of_wpOps r hd ho _ _ _ (wpAny_sound _ t _ a _ h)
end
end Go.Proofs.Ythpehdmffleobaa
