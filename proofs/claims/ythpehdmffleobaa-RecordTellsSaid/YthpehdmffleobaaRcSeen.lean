/- A set of pairs of numbers: a map that the call makes. -/
import Derived.Test.YthpehdmffleobaaRc0
import Derived.WideKeyPair
import Derived.Maps.Own
import Derived.Maps.OwnOps
import Derived.Maps.Views
namespace Go.Proofs.Ythpehdmffleobaa
open Go.RowKit Go.OpenShut
open Go.WideMaps (ArrKey)

theorem arrPair : ArrKey Try.prog 77 3 2 := ⟨Try.underlying77, by kernel_rfl, by kernel_rfl, by kernel_rfl⟩
theorem lawPair : Maps.Keyed Try.prog 77 := Maps.Keyed.of_law arrPair.law
theorem zeroBool (w : World) : (zeroValue 4).run Try.prog w = .ok (.bool false) w := by kernel_rfl
theorem typesSize : ∃ m, Try.prog.types.size = m + 1 := ⟨Try.prog.types.size - 1, by
  have h : decide (0 < Try.prog.types.size) = true := by kernel_rfl
  have := of_decide_eq_true h
  omega⟩
def i64ok (c : Int) : Prop := (Lit.int .i64 c).wf = true
def pairKey (c o : Int) : Lit := .string (keyBytes [.int .i64 c, .int .i64 o])
theorem pairKey_of {c o : Int} (hc : i64ok c) (ho : i64ok o) : keyOf Try.prog 77 (.agg #[.int .i64 c, .int .i64 o]) = some (pairKey c o) :=
  WideMaps.keyOf_pair arrPair Try.underlying3 typesSize hc ho
theorem pairKey_inj {c o c' o' : Int} (hc : i64ok c) (ho : i64ok o) (hc' : i64ok c') (ho' : i64ok o') (h : pairKey c o = pairKey c' o') : c = c' ∧ o = o' := by
  have h1 := pairKey_of hc ho
  rw [h] at h1
  have h2 := lawPair.inj h1 (pairKey_of hc' ho')
  simp at h2
  exact h2
/-- block b is a set of pairs: those of l -/
def Seen (w : World) (b n : Nat) (l : List (Int × Int)) : Prop :=
  ∃ D : DataW Unit, w.ownsMap Try.prog 77 (plainElem Try.prog 4) b n D ∧ Maps.IsMap D ∧ ∀ c o, i64ok c → i64ok o → D.atKey (pairKey c o) (.lit (.bool false)) = .lit (.bool (decide ((c, o) ∈ l)))
theorem Seen.made (w : World) : Seen (w.alloc (.map #[] 0)) w.heap.size 0 [] :=
  ⟨.map [], World.ownsMap_made _ _ _ _, ⟨[], rfl⟩, fun c o _ _ => rfl⟩
theorem Seen.alloc {w : World} {b n : Nat} {l : List (Int × Int)} (h : Seen w b n l) (o : Obj) : Seen (w.alloc o) b n l := by
  obtain ⟨D, h1, h2, h3⟩ := h
  exact ⟨D, h1.alloc o, h2, h3⟩
theorem plainElem_bool_inv {H : Type} {P : Program} {e : TypeId} (he : P.underlying e = some .bool) {v : Value} {z : DataW H × List MemPlace} (h : plainElem P e v = some z) : ∃ x, v = .bool x ∧ z = (.lit (.bool x), []) := by
  unfold plainElem at h
  rw [he] at h
  cases v <;> simp at h
  exact ⟨_, rfl, h.symm⟩
theorem Seen.look {w : World} {b n : Nat} {l : List (Int × Int)} (h : Seen w b n l) {c o : Int} (hc : i64ok c) (ho : i64ok o) :
    (Instr.lookup 76 (.map (some b)) (.agg #[.int .i64 c, .int .i64 o]) false).run Try.prog w = .ok (.bool (decide ((c, o) ∈ l))) w := by
  obtain ⟨D, h1, h2, h3⟩ := h
  obtain ⟨v, ps, hrun, hv⟩ := h1.lookup lawPair Try.underlying76 (zeroBool w) (plainElem_bool Try.underlying4 false) (pairKey_of hc ho)
  obtain ⟨x, rfl, hz⟩ := plainElem_bool_inv Try.underlying4 hv
  rw [h3 c o hc ho] at hz
  simp only [Prod.mk.injEq, DataW.lit.injEq, Lit.bool.injEq] at hz
  rw [hrun, hz.1]
theorem Seen.put {w1 : World} {b n : Nat} {l : List (Int × Int)} {c o : Int} (hc : i64ok c) (ho : i64ok o) (D : DataW Unit) (h2 : Maps.IsMap D) (h3 : ∀ c o, i64ok c → i64ok o → D.atKey (pairKey c o) (.lit (.bool false)) = .lit (.bool (decide ((c, o) ∈ l))))
    (h1 : w1.ownsMap Try.prog 77 (plainElem Try.prog 4) b (n + 1) (D.put (pairKey c o) (.lit (.bool true)))) : Seen w1 b (n + 1) ((c, o) :: l) := by
  refine ⟨_, h1, h2.put _ _, fun c' o' hc' ho' => ?_⟩
  by_cases e : (c', o') = (c, o)
  · cases e
    rw [Maps.atKey_put_same h2 (lawPair.key (pairKey_of hc ho))]
    simp
  · have hne : pairKey c' o' ≠ pairKey c o := fun e' => e (by
      obtain ⟨r1, r2⟩ := pairKey_inj hc' ho' hc ho e'
      rw [r1, r2])
    rw [Maps.atKey_put_other hne, h3 c' o' hc' ho']
    have e2 : ((c', o') ∈ (c, o) :: l) ↔ (c', o') ∈ l := by rw [List.mem_cons]; exact ⟨fun h => h.resolve_left e, Or.inr⟩
    simp only [e2]
end Go.Proofs.Ythpehdmffleobaa
