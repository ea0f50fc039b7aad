/- What is read of an argument of a flat type (integers, bools, strings, structs and arrays of such) hangs on no memory. -/
import Derived.Test.YtfoflbbeckepoaaB0
import Derived.ChangeSame
namespace Go.Proofs.Ytfoflbbeckepoaa
open Go.RowKit Go.OpenShut Go.ChangeShapes Go.WideShapes

def flatT (P : Program) : Nat → TypeId → Bool
  | 0, _ => false
  | n + 1, t => match P.underlying t with
    | some .bool => true
    | some (.int _) => true
    | some .string => true
    | some (.struct fs) => fs.toList.all fun f => flatT P n f.type
    | some (.array _ e) => flatT P n e
    | _ => false
section
variable {H : Type} {enc : TypeId × Value → H} {P : Program}
theorem mapM_flat {α : Type} {f g : α → Option (DataW H × List MemPlace)} : ∀ {l : List α} {xs : List (DataW H × List MemPlace)}, l.mapM f = some xs → (∀ a ∈ l, ∀ y, f a = some y → y.2 = [] ∧ g a = some y) → l.mapM g = some xs ∧ xs.flatMap (·.2) = []
  | [], xs, h, _ => by
    simp at h
    subst h
    exact ⟨rfl, rfl⟩
  | a :: l, xs, h, hf => by
    simp only [List.mapM_cons, Option.bind_eq_bind, Option.bind_eq_some_iff, Option.pure_def, Option.some.injEq] at h
    obtain ⟨y, hy, ys, hys, rfl⟩ := h
    obtain ⟨h1, h2⟩ := hf a (by simp) y hy
    obtain ⟨h3, h4⟩ := mapM_flat hys (fun b hb => hf b (by simp [hb]))
    exact ⟨by simp [h2, h3], by simp [h1, h4]⟩
theorem trod_flat {w w' : World} {base base' : Nat} {sp sp' : Nat → Bool} {held held' : Bool} : ∀ (fuel n : Nat) (t : TypeId) (cs : List Value) (x : DataW H × List MemPlace), flatT P n t = true →
    DataW.trod enc P w base sp held fuel t cs = some x → x.2 = [] ∧ DataW.trod enc P w' base' sp' held' fuel t cs = some x
  | 0, _, _, _, _, _, h => by simp [DataW.trod] at h
  | fuel + 1, 0, _, _, _, hf, _ => by simp [flatT] at hf
  | fuel + 1, n + 1, t, cs, x, hf, h => by
    unfold flatT at hf
    unfold DataW.trod at h ⊢
    split at hf
    · rename_i hu
      rw [hu] at h ⊢
      split at h <;> simp_all
      subst h
      rfl
    · rename_i k hu
      rw [hu] at h ⊢
      split at h <;> simp_all
      obtain ⟨h1, h2⟩ := h
      subst h2
      rfl
    · rename_i hu
      rw [hu] at h ⊢
      split at h <;> simp_all
      obtain ⟨h1, h2⟩ := h
      subst h2
      rfl
    · rename_i fs hu
      rw [hu] at h ⊢
      simp only at h ⊢
      split at h
      · rename_i hl
        rw [if_pos hl]
        rw [Option.map_eq_some_iff] at h ⊢
        obtain ⟨xs, hx, rfl⟩ := h
        rw [List.all_eq_true] at hf
        obtain ⟨h1, h2⟩ := mapM_flat hx (fun f hfm y hy => trod_flat fuel n f.type _ y (hf f hfm) hy)
        exact ⟨h2, xs, h1, rfl⟩
      · cases h
    · rename_i m e hu
      rw [hu] at h ⊢
      simp only at h ⊢
      split at h
      · rename_i hl
        rw [if_pos hl]
        rw [Option.map_eq_some_iff] at h ⊢
        obtain ⟨xs, hx, rfl⟩ := h
        obtain ⟨h1, h2⟩ := mapM_flat hx (fun i _ y hy => trod_flat fuel n e _ y hf hy)
        exact ⟨h2, xs, h1, rfl⟩
      · cases h
    · cases hf
end
end Go.Proofs.Ytfoflbbeckepoaa
