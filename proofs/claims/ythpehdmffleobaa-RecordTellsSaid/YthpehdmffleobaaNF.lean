/- A region that draws its order, walked in ONE order: operations that do the same in whatever world meets S are taken as soon as they may come up; all others come up one at a time. -/
import Derived.Orders
import Derived.Tactics
namespace Go.Proofs.Ythpehdmffleobaa
open Go

section
variable {P : Program} {ops : Array Oper} {Q : Exit → Act → World → Prop} {md : Region.Mode} {S : World → Prop}

/-- The operation o, at a, puts v and leaves the world as it is, whatever world meets S, whatever comes behind. -/
def YG (P : Program) (ops : Array Oper) (S : World → Prop) (o : Oper) (v : Value) (a : Act) : Prop :=
  (Region.wanted o (yielded ops a.tmps) = true ∧ ∀ w, S w → (∀ d w', (execOp a.eval o).run P w ≠ .ok (.defer d) w') ∧ ∀ (K : Act → World → Prop) (Q : Exit → Act → World → Prop), K (a.put o.dst v) w → o.wp P a w K Q) ∨
  (Region.wanted o (yielded ops a.tmps) = false ∧ v = undef)

theorem wp_strict {o : Oper} {a : Act} {w : World} {K1 K : Act → World → Prop} {Q1 Q : Exit → Act → World → Prop} (h : o.wp P a w K1 Q1) (hK : ∀ a w, K1 a w → K a w)
    (hp : ∀ c a w, ¬ Q1 (.panic c) a w) (ho : ¬ LetsOut Q1) : o.wp P a w K Q := by
  unfold Oper.wp at *
  generalize (execOp a.eval o).run P w = r at *
  cases r with
  | ok n w' =>
    cases n <;> simp only [Oper.upon] at h ⊢
    case value v => exact hK _ _ h
    case skip => exact hK _ _ h
    case defer d => exact hK _ _ h
    case enter f args =>
      refine Calls.mono h fun e w'' he => ?_
      cases e with
      | returned u => exact hK _ _ he
      | panicked c => exact absurd he (hp _ _ _)
      | outgrown => exact absurd he ho
    case row row args => exact Rows.mono h fun u w'' he => hK _ _ he
    all_goals exact h
  | halt x w' =>
    cases x <;> simp only [Oper.upon] at h ⊢
    case panic u => exact absurd h (hp _ _ _)

theorem wp_put {o : Oper} {a : Act} {w : World} {dj : Option Tmp} {u : Value} {K : Act → World → Prop} (hs : ∀ cs b, o.op ≠ .select cs b)
    (h1 : ∀ d, dj = some d → d ∉ o.looksAt ops) (h2 : ∀ d, o.dst = some d → dj ≠ some d)
    (h : o.wp P a w (fun b w => K (b.put dj u) w) (fun e b w => Q e (b.put dj u) w)) : o.wp P (a.put dj u) w K Q := by
  unfold Oper.wp at *
  rw [execOp_put o hs a dj u h1]
  have hout : LetsOut (fun e b w => Q e (b.put dj u) w) → LetsOut Q := fun ⟨a, w, hq⟩ => ⟨_, w, hq⟩
  generalize (execOp a.eval o).run P w = r at *
  cases r with
  | ok n w' =>
    cases n <;> simp only [Oper.upon] at h ⊢
    case value v => rw [← Act.put_comm a v u h2]; exact h
    case skip => rw [← Act.put_comm a undef u h2]; exact h
    case defer d =>
      rw [Act.put_defers, ← Act.put_comm _ undef u h2]
      exact h
    case enter f args =>
      refine Calls.mono h fun e w'' he => ?_
      cases e with
      | returned v => simp only at he ⊢; rw [← Act.put_comm a v u h2]; exact he
      | panicked c => exact he
      | outgrown => exact hout he
    case row row args => exact Rows.mono h fun v w'' he => by rw [← Act.put_comm a v u h2]; exact he
    all_goals exact h
  | halt x w' =>
    cases x <;> simp only [Oper.upon] at h ⊢
    case panic v => exact h

theorem YG.wpOp {i : Nat} {o : Oper} {v : Value} {a : Act} (hi : ops[i]? = some o) (hy : YG P ops S o v a) {K : Act → World → Prop} {w : World} (hS : S w)
    (h : K (a.put o.dst v) w) : wpOp P ops Q i K a w := by
  unfold Go.wpOp
  simp only [hi]
  rcases hy with ⟨hw, hv⟩ | ⟨hw, rfl⟩
  · simp only [hw, if_true]; exact .inl ((hv w hS).2 K Q h)
  · simp only [hw, Bool.false_eq_true, if_false]; exact h

theorem YG.put {o : Oper} {v u : Value} {a : Act} {dj : Option Tmp} (hs : ∀ cs b, o.op ≠ .select cs b) (h1 : ∀ d, dj = some d → d ∉ o.looksAt ops) (h2 : ∀ d, o.dst = some d → dj ≠ some d)
    (hy : YG P ops S o v a) : YG P ops S o v (a.put dj u) := by
  unfold YG at *
  rw [wanted_put o a dj u h1]
  refine hy.imp (fun ⟨hw, hv⟩ => ⟨hw, fun w hS => ⟨by rw [execOp_put o hs a dj u h1]; exact (hv w hS).1, fun K Q h => ?_⟩⟩) id
  refine wp_put (ops := ops) hs h1 h2 ((hv w hS).2 _ _ ?_)
  rw [Act.put_comm a v u h2]
  exact h
theorem YG.defer {o : Oper} {v : Value} {a : Act} {d : Deferred} (hy : YG P ops S o v a) : YG P ops S o v { a with defers := d :: a.defers } := by
  refine hy.imp (fun ⟨hw, hv⟩ => ⟨hw, fun w hS => ⟨(hv w hS).1, fun K Q h => ?_⟩⟩) id
  have hnd := (hv w hS).1
  have h3 := (hv w hS).2 (fun b w => K { b with defers := d :: b.defers } w) (fun e b w => Q e { b with defers := d :: b.defers } w)
  have hp : ∀ (b : Act) (x : Option Tmp) (u : Value), ({ b.put x u with defers := d :: (b.put x u).defers } : Act) = ({ b with defers := d :: b.defers } : Act).put x u := fun b x u => Act.put_defers b x u d
  rw [hp] at h3
  have h4 := h3 h
  unfold Oper.wp at *
  have he : execOp ({ a with defers := d :: a.defers } : Act).eval o = execOp a.eval o := rfl
  rw [he]
  have hout : LetsOut (fun e b w => Q e { b with defers := d :: b.defers } w) → LetsOut Q := fun ⟨a, w, hq⟩ => ⟨_, w, hq⟩
  clear hv h3 h
  generalize (execOp a.eval o).run P w = r at *
  cases r with
  | ok n w' =>
    cases n <;> simp only [Oper.upon, hp] at h4 ⊢
    case value v => exact h4
    case skip => exact h4
    case defer e => exact absurd rfl (hnd e w')
    case enter f args =>
      refine Calls.mono h4 fun e w'' he => ?_
      cases e with
      | returned v => exact he
      | panicked c => exact he
      | outgrown => exact hout he
    case row row args => exact h4
    all_goals exact h4
  | halt x w' =>
    cases x <;> simp only [Oper.upon] at h4 ⊢
    case panic v => exact h4

theorem wpOp_putG {j : Nat} {oi oj : Oper} {v : Value} (hj : ops[j]? = some oj) (hap : oi.apart ops oj = true)
    (hsi : ∀ cs b, oi.op ≠ .select cs b) (hsj : ∀ cs b, oj.op ≠ .select cs b)
    (hQ : ∀ c a w, Q (.panic c) (a.put oi.dst v) w → Q (.panic c) a w) {K : Act → World → Prop} {a : Act} {w : World}
    (hy : YG P ops S oi v a) (h : wpOp P ops Q j K (a.put oi.dst v) w) :
    wpOp P ops Q j (fun a' w' => YG P ops S oi v a' ∧ K (a'.put oi.dst v) w') a w := by
  obtain ⟨h1, h2, h3⟩ := Oper.apart_spec hap
  have keep : ∀ (a : Act), YG P ops S oi v a → ∀ u, YG P ops S oi v (a.put oj.dst u) := fun a hy u => hy.put hsi h3 h2
  unfold wpOp at *
  simp only [hj] at *
  rw [wanted_put oj a oi.dst v h1] at h
  split
  · rename_i hw
    simp only [hw, if_true] at h
    rcases h with h | ⟨hasks, hlets⟩
    case inr => exact .inr ⟨by unfold Oper.asks at *; rw [execOp_put oj hsj a oi.dst v h1] at hasks; exact hasks, hlets⟩
    refine .inl ?_
    unfold Oper.wp at *
    rw [execOp_put oj hsj a oi.dst v h1] at h
    generalize (execOp a.eval oj).run P w = r at *
    cases r with
    | ok n w' =>
      cases n <;> simp only [Oper.upon] at h ⊢
      case value u => exact ⟨keep a hy u, by rw [← Act.put_comm a v u h2]; exact h⟩
      case skip => exact ⟨keep a hy _, by rw [← Act.put_comm a v undef h2]; exact h⟩
      case defer d =>
        refine ⟨(hy.defer).put hsi h3 h2, ?_⟩
        rw [← Act.put_comm _ v undef h2, ← Act.put_defers]
        exact h
      case enter f args =>
        refine Calls.mono h fun e w'' he => ?_
        cases e with
        | returned u => exact ⟨keep a hy u, by rw [← Act.put_comm a v u h2]; exact he⟩
        | panicked c => exact hQ _ _ _ he
        | outgrown => exact he
      case row row args => exact Rows.mono h fun u w'' he => ⟨keep a hy u, by rw [← Act.put_comm a v u h2]; exact he⟩
    | halt x w' =>
      cases x <;> simp only [Oper.upon] at h ⊢
      case panic u => exact hQ _ _ _ h
  · rename_i hw
    simp only [hw] at h
    exact ⟨keep a hy _, by rw [← Act.put_comm a v undef h2]; exact h⟩

/-- 'wpAny' that hands S on behind each operation that is no bar. -/
def wpAnyG (P : Program) (md : Region.Mode) (ops : Array Oper) (Q : Exit → Act → World → Prop) (S : World → Prop) (bar : Nat → Bool) : Nat → Array Bool → Act → World → Prop
  | 0, listed, a, w => Region.ready md ops listed = [] ∧ Q .normal a w
  | fuel + 1, listed, a, w =>
    (Region.ready md ops listed = [] → Q .normal a w) ∧
    ∀ i ∈ Region.ready md ops listed, wpOp P ops Q i (fun a' w' => (bar i = false → S w') ∧ wpAnyG P md ops Q S bar fuel (listed.setIfInBounds i true) a' w') a w
theorem wpAny_of_G {bar : Nat → Bool} : ∀ (fuel : Nat) (listed : Array Bool) (a : Act) (w : World), wpAnyG P md ops Q S bar fuel listed a w → wpAny P md ops Q fuel listed a w
  | 0, _, _, _, h => h
  | fuel + 1, _, _, _, h => ⟨h.1, fun i hi => wpOp_mono (fun a' w' h' => wpAny_of_G fuel _ a' w' h'.2) (h.2 i hi)⟩

theorem wpAnyG_first {bar : Nat → Bool} {i : Nat} {oi : Oper} {v : Value} (hi : ops[i]? = some oi) (hsel : ∀ (j : Nat) (o : Oper) cs b, ops[j]? = some o → o.op ≠ .select cs b)
    (hb : bar i = false)
    (hQ : ∀ c a w, Q (.panic c) (a.put oi.dst v) w → Q (.panic c) a w) :
    ∀ (fuel : Nat) (listed : Array Bool) (a : Act) (w : World), S w →
      (∀ j oj, ops[j]? = some oj → j ≠ i → listed.getD j true = false → (∀ e ∈ oj.after, Region.binds md e = true → e.on ≠ i) → oi.apart ops oj = true ∧ bar j = false) →
      i ∈ Region.ready md ops listed → YG P ops S oi v a →
      wpAnyG P md ops Q S bar fuel (listed.setIfInBounds i true) (a.put oi.dst v) w → wpAnyG P md ops Q S bar (fuel + 1) listed a w := by
  intro fuel
  induction fuel with
  | zero =>
    intro listed a w hS _ hr hy H
    refine ⟨fun h => (by rw [h] at hr; cases hr), fun j hj => ?_⟩
    by_cases hji : j = i
    · subst hji; exact hy.wpOp hi hS ⟨fun _ => hS, H⟩
    · have := ready_mono hj hji
      rw [H.1] at this
      cases this
  | succ fuel ih =>
    intro listed a w hS hfree hr hy H
    refine ⟨fun h => (by rw [h] at hr; cases hr), fun j hj => ?_⟩
    by_cases hji : j = i
    · subst hji; exact hy.wpOp hi hS ⟨fun _ => hS, H⟩
    · have h1 := H.2 j (ready_mono hj hji)
      obtain ⟨hjun, oj, hoj, hall⟩ := mem_ready.1 hj
      have hnot : ∀ e ∈ oj.after, Region.binds md e = true → e.on ≠ i := fun e he hb heq => by
        have h1 := hall e he hb
        have h0 := (mem_ready.1 hr).1
        rw [heq] at h1
        rcases Nat.lt_or_ge i listed.size with h' | h'
        · simp [h'] at h0 h1; rw [h0] at h1; cases h1
        · simp [Array.getElem?_eq_none h'] at h1
      have hfj := hfree j oj hoj hji hjun hnot
      have h2 := wpOp_putG hoj hfj.1 (fun cs b => hsel i oi cs b hi) (fun cs b => hsel j oj cs b hoj) hQ hy h1
      have hfree' : ∀ k ok, ops[k]? = some ok → k ≠ i → (listed.setIfInBounds j true).getD k true = false →
          (∀ e ∈ ok.after, Region.binds md e = true → e.on ≠ i) → oi.apart ops ok = true ∧ bar k = false := fun k ok hk hki hun hno => by
        refine hfree k ok hk hki ?_ hno
        by_cases hjk : j = k
        · subst hjk; exact hjun
        · rw [getD_set_ne true hjk] at hun; exact hun
      refine wpOp_mono (fun a' w' h3 => ⟨h3.2.1, ih (listed.setIfInBounds j true) a' w' (h3.2.1 hfj.2) hfree' (ready_mono hr (Ne.symm hji)) h3.1 ?_⟩) h2
      rw [Array.setIfInBounds_comm _ _ hji]
      exact h3.2.2

/-! ### the one order -/
def wpNF (P : Program) (ops : Array Oper) (Q : Exit → Act → World → Prop) (S : World → Prop) (bar : Nat → Bool) : List (Nat × Bool) → Act → World → Prop
  | [], a, w => Q .normal a w
  | (i, true) :: r, a, w => S w ∧ ∃ o v, ops[i]? = some o ∧ YG P ops S o v a ∧ wpNF P ops Q S bar r (a.put o.dst v) w
  | (i, false) :: r, a, w => wpOp P ops Q i (fun a' w' => (bar i = false → S w') ∧ wpNF P ops Q S bar r a' w') a w

def nfFree (md : Region.Mode) (ops : Array Oper) (bar : Nat → Bool) (listed : Array Bool) (i : Nat) : Bool :=
  match ops[i]? with
  | none => false
  | some oi => !bar i && (List.range ops.size).all fun j => j == i || listed.getD j true || match ops[j]? with
      | some oj => oj.after.any (fun e => Region.binds md e && e.on == i) || (oi.apart ops oj && !bar j)
      | none => true
theorem nfFree_spec {bar : Nat → Bool} {i : Nat} {oi : Oper} {listed : Array Bool} (hi : ops[i]? = some oi) (h : nfFree md ops bar listed i = true) :
    bar i = false ∧ ∀ (j : Nat) (oj : Oper), ops[j]? = some oj → j ≠ i → listed.getD j true = false → (∀ e ∈ oj.after, Region.binds md e = true → e.on ≠ i) → oi.apart ops oj = true ∧ bar j = false := by
  simp only [nfFree, hi, Bool.and_eq_true, Bool.not_eq_true', List.all_eq_true, List.mem_range] at h
  refine ⟨h.1, fun j oj hj hne hun hno => ?_⟩
  have h1 := h.2 j (Array.getElem?_eq_some_iff.1 hj).1
  simp only [hj, Bool.or_eq_true, beq_iff_eq, hne, false_or, hun, Bool.false_eq_true] at h1
  rcases h1 with h1 | h1
  · obtain ⟨e, he, hb⟩ := Array.any_eq_true'.1 h1
    simp only [Bool.and_eq_true, beq_iff_eq] at hb
    exact absurd hb.2 (hno e he hb.1)
  · simpa using h1

def nfB (md : Region.Mode) (ops : Array Oper) (bar : Nat → Bool) : List (Nat × Bool) → Array Bool → Bool
  | [], listed => (Region.ready md ops listed).isEmpty
  | (i, true) :: r, listed => (Region.ready md ops listed).contains i && nfFree md ops bar listed i && nfB md ops bar r (listed.setIfInBounds i true)
  | (i, false) :: r, listed => decide (Region.ready md ops listed = [i]) && nfB md ops bar r (listed.setIfInBounds i true)

theorem wpAnyG_of_nf {bar : Nat → Bool} (hs : Region.noSelect ops = true) (hQ : ∀ d v c a w, Q (.panic c) (a.put d v) w → Q (.panic c) a w) :
    ∀ (π : List (Nat × Bool)) (listed : Array Bool) (a : Act) (w : World), nfB md ops bar π listed = true → wpNF P ops Q S bar π a w → wpAnyG P md ops Q S bar π.length listed a w
  | [], _, _, _, hB, h => ⟨by simpa [nfB] using hB, h⟩
  | (i, true) :: r, listed, a, w, hB, h => by
    obtain ⟨hS, o, v, hi, hy, h⟩ := h
    simp only [nfB, Bool.and_eq_true] at hB
    obtain ⟨⟨hr, hf⟩, hB'⟩ := hB
    obtain ⟨hb, hfree⟩ := nfFree_spec hi hf
    exact wpAnyG_first hi (Region.noSelect_spec hs) hb (fun c a w => hQ o.dst v c a w) r.length listed a w hS hfree (by simpa using hr) hy (wpAnyG_of_nf hs hQ r _ _ _ hB' h)
  | (i, false) :: r, listed, a, w, hB, h => by
    simp only [nfB, Bool.and_eq_true, decide_eq_true_eq] at hB
    obtain ⟨hr, hB'⟩ := hB
    refine ⟨fun h0 => (by rw [hr] at h0; cases h0), fun j hj => ?_⟩
    rw [hr] at hj
    obtain rfl : j = i := by simpa using hj
    exact wpOp_mono (fun a' w' h' => ⟨h'.1, wpAnyG_of_nf hs hQ r _ _ _ hB' h'.2⟩) h

/-- THE REGION, BY ITS ONE ORDER π. -/
theorem wp_region_nf {id : Nat} {l : List Oper} {a : Act} {w : World} (S : World → Prop) (bar : Nat → Bool) (π : List (Nat × Bool)) (hm : P.follows .mixedOrders = true)
    (hn : π.length = l.length) (hs : Region.noSelect l.toArray = true) (hB : nfB .any l.toArray bar π (Array.replicate l.length false) = true)
    (hQ : ∀ d v c a w, Q (.panic c) (a.put d v) w → Q (.panic c) a w)
    (h : wpNF P l.toArray Q S bar π a w.drew) : (Code.region id l.toArray true).wp P Q a w := by
  refine wp_region_any hm (wpAny_of_G _ _ _ _ (S := S) (bar := bar) ?_)
  have := wpAnyG_of_nf hs hQ π (Array.replicate l.length false) a w.drew hB h
  rw [hn] at this
  simpa using this

theorem put_defers_eq (a : Act) (d : Option Tmp) (v : Value) : (a.put d v).defers = a.defers := by cases d <;> rfl
theorem put_val {a a1 : Act} {d : Option Tmp} {v : Value} (hsz : ∀ t, d = some t → t < a.tmps.size) (h : a.put d v = a1) (b : Act) :
    b.put d v = b.put d (match d with | some t => a1.tmps.getD t undef | none => undef) := by
  cases d with
  | none => rfl
  | some t =>
    subst h
    have := hsz t rfl
    simp [Act.put, this]
def only (a1 : Act) (w' : World) : Exit → Act → World → Prop := fun e a'' w'' => e = .normal ∧ a'' = a1 ∧ w'' = w'
theorem only_out {a1 : Act} {w' : World} : ¬ LetsOut (only a1 w') := fun ⟨_, _, h, _⟩ => by cases h
theorem wp_val {o : Oper} {a a1 : Act} {w w' : World} (hd : a1.defers = a.defers) (h : o.wp P a w (only a1 w' .normal) (only a1 w')) :
    (∃ v, a.put o.dst v = a1) ∧ ∀ d w'', (execOp a.eval o).run P w ≠ .ok (.defer d) w'' := by
  unfold Oper.wp at h
  generalize (execOp a.eval o).run P w = r at *
  cases r with
  | ok n w1 =>
    cases n <;> simp only [Oper.upon] at h
    case value v => exact ⟨⟨v, h.2.1⟩, fun d w'' e => by cases e⟩
    case skip => exact ⟨⟨undef, h.2.1⟩, fun d w'' e => by cases e⟩
    case defer d =>
      have h2 := congrArg (fun x : Act => x.defers.length) h.2.1
      simp only [put_defers_eq, hd, List.length_cons] at h2
      omega
    case enter f args =>
      obtain ⟨e, w2, fr, hR, _⟩ := h []
      cases e with
      | returned v => exact ⟨⟨v, hR.2.1⟩, fun d w'' e => by cases e⟩
      | panicked c => cases hR.1
      | outgrown => exact absurd hR only_out
    case row row args =>
      obtain ⟨v, w2, hR, _⟩ := h default []
      exact ⟨⟨v, hR.2.1⟩, fun d w'' e => by cases e⟩
  | halt x w1 =>
    cases x <;> simp only [Oper.upon] at h
    case panic u => cases h.1

def szB (o : Oper) (a : Act) : Bool := match o.dst with | some d => decide (d < a.tmps.size) | none => true
theorem szB_spec {o : Oper} {a : Act} (h : szB o a = true) : ∀ d, o.dst = some d → d < a.tmps.size := fun d hd => by simpa [szB, hd] using h
/-- AN OPERATION THAT IS TAKEN AS SOON AS IT MAY COME UP: walked alone, in whatever world meets S. -/
theorem nf_pure {bar : Nat → Bool} {i : Nat} {o : Oper} {r : List (Nat × Bool)} {a a1 : Act} {w : World} (hi : ops[i]? = some o) (hS : S w)
    (h1 : ∀ w', S w' → wpList P ops (only a1 w') [o] a w') (hz : szB o a = true) (hd : a1.defers = a.defers) (h2 : wpNF P ops Q S bar r a1 w) : wpNF P ops Q S bar ((i, true) :: r) a w := by
  have hsz := szB_spec hz
  by_cases hw : Region.wanted o (yielded ops a.tmps) = true
  · have h1' : ∀ w', S w' → o.wp P a w' (only a1 w' .normal) (only a1 w') := fun w' hS' => by
      have h := h1 w' hS'
      simp only [wpList, hw, if_true] at h
      exact h.resolve_right fun hh => only_out hh.2
    obtain ⟨⟨v, hv⟩, _⟩ := wp_val hd (h1' w hS)
    have hV := put_val hsz hv a
    refine ⟨hS, o, _, hi, .inl ⟨hw, fun w' hS' => ⟨(wp_val hd (h1' w' hS')).2, fun K Q hK => ?_⟩⟩, by rw [← hV, hv]; exact h2⟩
    rw [← hV, hv] at hK
    exact wp_strict (h1' w' hS') (fun a' w'' h => by rw [h.2.1, h.2.2]; exact hK) (fun c a' w'' h => by cases h.1) only_out
  · have h := h1 w hS
    simp only [wpList, hw] at h
    have h3 : a.put o.dst undef = a1 := h.2.1
    exact ⟨hS, o, undef, hi, .inr ⟨by simpa using hw, rfl⟩, by rw [h3]; exact h2⟩

/-- AN OPERATION THAT COMES UP ALONE. -/
def behind (P : Program) (ops : Array Oper) (Q : Exit → Act → World → Prop) (S : World → Prop) (b : Bool) (bar : Nat → Bool) (r : List (Nat × Bool)) : Exit → Act → World → Prop
  | .normal, a, w => (b = false → S w) ∧ wpNF P ops Q S bar r a w
  | e, a, w => Q e a w
theorem nf_imp {bar : Nat → Bool} {i : Nat} {o : Oper} {r : List (Nat × Bool)} {a : Act} {w : World} (hi : ops[i]? = some o)
    (h : wpList P ops (behind P ops Q S (bar i) bar r) [o] a w) : wpNF P ops Q S bar ((i, false) :: r) a w := by
  unfold wpNF wpOp
  simp only [hi]
  simp only [wpList] at h
  split
  · rename_i hw
    simp only [hw, if_true] at h
    rcases h with h | h
    · refine .inl ?_
      unfold Oper.wp at *
      have hout : LetsOut (behind P ops Q S (bar i) bar r) → LetsOut Q := fun ⟨a, w, hq⟩ => ⟨a, w, hq⟩
      generalize (execOp a.eval o).run P w = z at *
      cases z with
      | ok n w1 =>
        cases n <;> simp only [Oper.upon] at h ⊢
        case enter f args =>
          refine Calls.mono h fun e w'' he => ?_
          cases e with
          | returned v => exact he
          | panicked c => exact he
          | outgrown => exact hout he
        all_goals exact h
      | halt x w1 => cases x <;> simp only [Oper.upon] at h ⊢; exact h
    · exact .inr ⟨h.1, let ⟨a, w, hq⟩ := h.2; ⟨a, w, hq⟩⟩
  · rename_i hw
    simp only [hw] at h
    exact h
theorem nf_nil {bar : Nat → Bool} {a : Act} {w : World} (h : Q .normal a w) : wpNF P ops Q S bar [] a w := h
end
end Go.Proofs.Ythpehdmffleobaa
