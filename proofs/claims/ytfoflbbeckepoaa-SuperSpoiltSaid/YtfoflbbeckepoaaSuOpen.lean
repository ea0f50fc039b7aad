/- A superblock, and an array of eight bytes, that come in as arguments. -/
import Derived.Test.YtfoflbbeckepoaaFlat
import Derived.Test.YtfoflbbeckepoaaSuEnc
namespace Go.Proofs.Ytfoflbbeckepoaa
open Go.RowKit Go.OpenShut Go.ChangeShapes Go.WideShapes

section
variable {H : Type} {enc : TypeId × Value → H} {w : World} {base : Nat} {sp : Nat → Bool} {held : Bool}
theorem flat_again {t : TypeId} {v : Value} {d : DataW H} {p : List MemPlace} {n : Nat} (hf : flatT Try.prog n t = true) (h : DataW.Trod enc Try.prog w base sp held t v d p) :
    p = [] ∧ ∀ (w' : World) (base' : Nat) (sp' : Nat → Bool) (held' : Bool), DataW.Trod enc Try.prog w' base' sp' held' t v d [] := by
  obtain ⟨fuel, h⟩ := h
  have h0 := (trod_flat (w' := w) (base' := base) (sp' := sp) (held' := held) fuel n t _ _ hf h).1
  dsimp only at h0
  subst h0
  exact ⟨rfl, fun w' base' sp' held' => ⟨fuel, (trod_flat fuel n t _ _ hf h).2⟩⟩
theorem cells1 : Try.prog.cellsOf 22 = 1 ∧ Try.prog.cellsOf 3 = 1 ∧ Try.prog.cellsOf 4 = 1 ∧ Try.prog.cellsOf 5 = 1 ∧ Try.prog.cellsOf 24 = 3 ∧ Try.prog.cellsOf 26 = 10 ∧ Try.prog.cellsOf 34 = 8 :=
  ⟨by kernel_rfl, by kernel_rfl, by kernel_rfl, by kernel_rfl, by kernel_rfl, by kernel_rfl, by kernel_rfl⟩
theorem open_sup {r : Reach} {b0 : Nat} {v : Value} {d : DataW H} {p : List MemPlace} (hv : Value.okWide Try.prog w r b0 26 v) (h : DataW.Trod enc Try.prog w base sp held 26 v d p) :
    ∃ s : Sup, v = s.v ∧ s.wf := by
  obtain ⟨c1, c2, c3, _, c5, c6, _⟩ := cells1
  obtain ⟨cs, rfl, hsz⟩ := okWide_struct Try.underlying26 hv
  obtain ⟨fuel, h⟩ := h
  obtain ⟨xs, n, _, _, _, hxl, hf⟩ := DataW.trod_struct Try.underlying26 h
  rw [c6] at hsz
  obtain ⟨l⟩ := cs
  match l, hsz with
  | [v0, v1, v2, v3, v4, v5, v6, v7, v8, v9], _ =>
    have some_ : ∀ j, j < 8 → ∃ y, xs[j]? = some y := fun j hj => ⟨xs[j]'(by rw [hxl]; exact hj), List.getElem?_eq_getElem _⟩
    obtain ⟨y0, e0⟩ := some_ 0 (by omega)
    obtain ⟨y1, e1⟩ := some_ 1 (by omega)
    obtain ⟨y2, e2⟩ := some_ 2 (by omega)
    obtain ⟨y3, e3⟩ := some_ 3 (by omega)
    obtain ⟨y4, e4⟩ := some_ 4 (by omega)
    obtain ⟨y5, e5⟩ := some_ 5 (by omega)
    obtain ⟨y6, e6⟩ := some_ 6 (by omega)
    obtain ⟨y7, e7⟩ := some_ 7 (by omega)
    have f0 : DataW.trod enc Try.prog w base sp held n 22 [v0] = some y0 := by rw [← e0]; simpa [c1, Value.cells] using hf 0 _ rfl
    have f1 : DataW.trod enc Try.prog w base sp held n 22 [v1] = some y1 := by rw [← e1]; simpa [c1, Value.cells] using hf 1 _ rfl
    have f2 : DataW.trod enc Try.prog w base sp held n 3 [v2] = some y2 := by rw [← e2]; simpa [c2, Value.cells] using hf 2 _ rfl
    have f3 : DataW.trod enc Try.prog w base sp held n 24 [v3, v4, v5] = some y3 := by rw [← e3]; simpa [c5, Value.cells] using hf 3 _ rfl
    have f4 : DataW.trod enc Try.prog w base sp held n 4 [v6] = some y4 := by rw [← e4]; simpa [c3, Value.cells] using hf 4 _ rfl
    have f5 : DataW.trod enc Try.prog w base sp held n 3 [v7] = some y5 := by rw [← e5]; simpa [c2, Value.cells] using hf 5 _ rfl
    have f6 : DataW.trod enc Try.prog w base sp held n 3 [v8] = some y6 := by rw [← e6]; simpa [c2, Value.cells] using hf 6 _ rfl
    have f7 : DataW.trod enc Try.prog w base sp held n 3 [v9] = some y7 := by rw [← e7]; simpa [c2, Value.cells] using hf 7 _ rfl
    obtain ⟨zs, m, _, _, _, hzl, hg⟩ := DataW.trod_struct Try.underlying24 f3
    have some' : ∀ j, j < 3 → ∃ y, zs[j]? = some y := fun j hj => ⟨zs[j]'(by rw [hzl]; exact hj), List.getElem?_eq_getElem _⟩
    obtain ⟨z0, g0⟩ := some' 0 (by omega)
    obtain ⟨z1, g1⟩ := some' 1 (by omega)
    obtain ⟨z2, g2⟩ := some' 2 (by omega)
    have k0 : DataW.trod enc Try.prog w base sp held m 3 [v3] = some z0 := by rw [← g0]; simpa [c2] using hg 0 _ rfl
    have k1 : DataW.trod enc Try.prog w base sp held m 3 [v4] = some z1 := by rw [← g1]; simpa [c2] using hg 1 _ rfl
    have k2 : DataW.trod enc Try.prog w base sp held m 3 [v5] = some z2 := by rw [← g2]; simpa [c2] using hg 2 _ rfl
    obtain ⟨a0, q0, _, w0⟩ := DataW.trod_int Try.underlying22 f0
    obtain ⟨a1, q1, _, w1⟩ := DataW.trod_int Try.underlying22 f1
    obtain ⟨a2, q2, _, w2⟩ := DataW.trod_int Try.underlying3 f2
    obtain ⟨a3, q3, _, w3⟩ := DataW.trod_int Try.underlying3 k0
    obtain ⟨a4, q4, _, w4⟩ := DataW.trod_int Try.underlying3 k1
    obtain ⟨a5, q5, _, w5⟩ := DataW.trod_int Try.underlying3 k2
    obtain ⟨a6, q6, _⟩ := DataW.trod_bool Try.underlying4 f4
    obtain ⟨a7, q7, _, w7⟩ := DataW.trod_int Try.underlying3 f5
    obtain ⟨a8, q8, _, w8⟩ := DataW.trod_int Try.underlying3 f6
    obtain ⟨a9, q9, _, w9⟩ := DataW.trod_int Try.underlying3 f7
    simp only [List.cons.injEq, and_true] at q0 q1 q2 q3 q4 q5 q6 q7 q8 q9
    subst q0 q1 q2 q3 q4 q5 q6 q7 q8 q9
    refine ⟨⟨a0, a1, a2, a3, a4, a5, a6, a7, a8, a9⟩, rfl, ?_⟩
    have b0 := bounds_u64 w0
    have b1 := bounds_u64 w1
    have b8 := bounds_i64 w8
    constructor <;> simp only <;> omega
theorem byte_of {fuel : Nat} {v : Value} {y : DataW H × List MemPlace} (h : DataW.trod enc Try.prog w base sp held fuel 5 [v] = some y) : ∃ n : Nat, n < 256 ∧ v = .int .u8 (n : Int) := by
  obtain ⟨a, q, _, hw⟩ := DataW.trod_int Try.underlying5 h
  have b := bounds_u8 hw
  obtain ⟨n, rfl⟩ := Int.eq_ofNat_of_zero_le b.1
  simp only [List.cons.injEq, and_true] at q
  exact ⟨n, by omega, q⟩
theorem open_arr8 {r : Reach} {b0 : Nat} {v : Value} {d : DataW H} {p : List MemPlace} (hv : Value.okWide Try.prog w r b0 34 v) (h : DataW.Trod enc Try.prog w base sp held 34 v d p) :
    ∃ l0 l1 l2 l3 l4 l5 l6 l7 : Nat, l0 < 256 ∧ l1 < 256 ∧ l2 < 256 ∧ l3 < 256 ∧ l4 < 256 ∧ l5 < 256 ∧ l6 < 256 ∧ l7 < 256 ∧ v = .agg #[.int .u8 l0, .int .u8 l1, .int .u8 l2, .int .u8 l3, .int .u8 l4, .int .u8 l5, .int .u8 l6, .int .u8 l7] := by
  obtain ⟨_, _, _, c4, _, _, c8⟩ := cells1
  simp only [Value.okWide, Try.underlying34] at hv
  obtain ⟨cs, rfl, hsz, _⟩ := hv
  obtain ⟨fuel, h⟩ := h
  obtain ⟨xs, n, _, _, _, hxl, hf⟩ := DataW.trod_array Try.underlying34 h
  rw [c8] at hsz
  obtain ⟨l⟩ := cs
  match l, hsz with
  | [v0, v1, v2, v3, v4, v5, v6, v7], _ =>
    have some_ : ∀ j, j < 8 → ∃ y, xs[j]? = some y := fun j hj => ⟨xs[j]'(by rw [hxl]; exact hj), List.getElem?_eq_getElem _⟩
    have g : ∀ j v, j < 8 → [v0, v1, v2, v3, v4, v5, v6, v7][j]? = some v → ∃ n : Nat, n < 256 ∧ v = .int .u8 (n : Int) := by
      intro j v hj hv
      obtain ⟨y, hy⟩ := some_ j hj
      have h1 := hf j hj
      rw [c4, hy, Nat.mul_one] at h1
      have h2 : List.take 1 (List.drop j (Value.agg ⟨[v0, v1, v2, v3, v4, v5, v6, v7]⟩).cells.toList) = [v] := by
        have h3 : j < ([v0, v1, v2, v3, v4, v5, v6, v7] : List Value).length := hj
        show List.take 1 (List.drop j [v0, v1, v2, v3, v4, v5, v6, v7]) = [v]
        rw [List.drop_eq_getElem_cons h3]
        rw [List.getElem?_eq_getElem h3] at hv
        simp only [Option.some.injEq] at hv
        rw [hv]
        rfl
      rw [h2] at h1
      exact byte_of h1
    obtain ⟨l0, b0, rfl⟩ := g 0 _ (by omega) rfl
    obtain ⟨l1, b1, rfl⟩ := g 1 _ (by omega) rfl
    obtain ⟨l2, b2, rfl⟩ := g 2 _ (by omega) rfl
    obtain ⟨l3, b3, rfl⟩ := g 3 _ (by omega) rfl
    obtain ⟨l4, b4, rfl⟩ := g 4 _ (by omega) rfl
    obtain ⟨l5, b5, rfl⟩ := g 5 _ (by omega) rfl
    obtain ⟨l6, b6, rfl⟩ := g 6 _ (by omega) rfl
    obtain ⟨l7, b7, rfl⟩ := g 7 _ (by omega) rfl
    exact ⟨l0, l1, l2, l3, l4, l5, l6, l7, b0, b1, b2, b3, b4, b5, b6, b7, rfl⟩
theorem flat_sup : flatT Try.prog 4 26 = true := by kernel_rfl
theorem flat_arr8 : flatT Try.prog 4 34 = true := by kernel_rfl
end
end Go.Proofs.Ytfoflbbeckepoaa
