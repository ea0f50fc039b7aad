/- Plain laws of places: of 'some' records, and of records with a part twice. -/
import Derived.Test.YthpehdmffleobaaRcSome
import Derived.Test.YthpehdmffleobaaRcHead
namespace Go.Proofs.Ythpehdmffleobaa
open Go.RowKit Go.OpenShut

def pkey (p : Prt) : Int × Int := (p.col, p.off)
theorem placedF_iff : ∀ (ps : List Prt) (l : List (Int × Int)), placedF l ps = true ↔ (∀ p ∈ ps, placeOk p = true) ∧ (ps.map pkey).Nodup ∧ ∀ p ∈ ps, pkey p ∉ l
  | [], l => by simp [placedF]
  | p :: ps, l => by
    rw [placedF, Bool.and_eq_true, Bool.and_eq_true, placedF_iff ps, Bool.not_eq_true', decide_eq_false_iff_not, List.map_cons, List.nodup_cons]
    rw [List.forall_mem_cons, List.forall_mem_cons]
    simp only [List.mem_map, not_exists, not_and]
    constructor
    · rintro ⟨⟨h1, h2⟩, h3, h4, h5⟩
      exact ⟨⟨h1, h3⟩, ⟨fun q hq e => h5 q hq (by rw [e]; exact List.mem_cons_self), h4⟩, h2, fun q hq e => h5 q hq (List.mem_cons_of_mem _ e)⟩
    · rintro ⟨⟨h1, h3⟩, ⟨h6, h4⟩, h2, h5⟩
      exact ⟨⟨h1, h2⟩, h3, h4, fun q hq e => by
        rcases List.mem_cons.1 e with e | e
        · exact h6 q hq e
        · exact h5 q hq e⟩
theorem some_placed (fr : Nat) (xs : List ByteArray) (N : Nat) (hN : N ≤ 40) : placedF [] (someL fr xs N) = true := by
  rw [placedF_iff]
  refine ⟨?_, ?_, fun p _ h => by cases h⟩
  · intro p hp
    obtain ⟨i, hi, rfl⟩ := List.mem_map.1 (show p ∈ (List.range N).map (someP fr xs) from hp)
    unfold placeOk someP
    simp only [Bool.and_eq_true, decide_eq_true_eq]
    omega
  · have e : (someL fr xs N).map pkey = (List.range N).map fun i => pkey (someP fr xs i) := by simp [someL, Function.comp_def]
    rw [e, List.Nodup, List.pairwise_map]
    have hp : (List.range N).Pairwise (· ≠ ·) := List.nodup_range
    refine List.Pairwise.imp_of_mem (fun {i j} hi hj hne h => ?_) hp
    rw [List.mem_range] at hi hj
    unfold pkey someP at h
    simp only [Prod.mk.injEq] at h
    omega
theorem some_loaded (fr : Nat) (xs : List ByteArray) (N : Nat) : loadedB (someL fr xs N) = true := by
  unfold loadedB
  rw [List.all_eq_true]
  intro p hp
  obtain ⟨i, hi, rfl⟩ := List.mem_map.1 (show p ∈ (List.range N).map (someP fr xs) from hp)
  unfold someP
  rw [decide_eq_true_eq]
  dsimp only
  rw [szMk, fullL_len]
theorem some_may (row fr : Nat) (hr : row < 256) (xs : List ByteArray) (N : Nat) (hN : N ≤ 40) : mayB (row : Int) (someL fr xs N) = decide (N ≠ 0) := by
  unfold mayB placedB
  rw [some_placed fr xs N hN, some_loaded, someL_len]
  rw [Bool.eq_iff_iff]
  simp only [Bool.and_eq_true, decide_eq_true_eq, and_true]
  omega
/-- a part that takes the first one's place -/
def twiceL (ps : List Prt) : List Prt := ps.set (ps.length - 1) ⟨(ps.getD 0 prt0).col, (ps.getD 0 prt0).off, (ps.getD (ps.length - 1) prt0).data⟩
theorem twice_may (row fr : Nat) (hr : row < 256) (xs : List ByteArray) (N : Nat) (hN : N ≤ 40) (h0 : N ≠ 0) : mayB (row : Int) (twiceL (someL fr xs N)) = decide (N = 1) := by
  have hl := someL_len fr xs N
  by_cases h1 : N = 1
  · subst h1
    have e : twiceL (someL fr xs 1) = someL fr xs 1 := rfl
    rw [e, some_may row fr hr xs 1 (by omega)]
    rfl
  · rw [decide_eq_false h1]
    unfold mayB
    rw [Bool.and_eq_false_iff]
    left
    rw [Bool.eq_false_iff]
    intro h
    have h2 := ((placedF_iff _ _).1 (placed_row h).2.2.2.2).2.1
    have e1 : (twiceL (someL fr xs N)).map pkey = ((someL fr xs N).map pkey).set (N - 1) (pkey ((someL fr xs N).getD 0 prt0)) := by
      unfold twiceL
      rw [List.map_set, hl]
      rfl
    rw [e1] at h2
    have h3 := List.pairwise_iff_getElem.1 h2 0 (N - 1) (by simp [hl]; omega) (by simp [hl]; omega) (by omega)
    refine h3 ?_
    rw [List.getElem_set_ne (by omega), List.getElem_set_self]
    simp [List.getD, hl, show 0 < N by omega]
theorem row_no (ps : List Prt) : mayB 256 ps = false := by
  unfold mayB placedB
  simp
end Go.Proofs.Ythpehdmffleobaa
