/- A record that comes in as an argument. -/
import Derived.Test.YthpehdmffleobaaRcTells
import Derived.Lib.SmallJoins
import Derived.Deep.Slices
import Derived.Deep.Fields
import Derived.ChangeSame
import Derived.SizedLaws
namespace Go.Proofs.Ythpehdmffleobaa
open Go.RowKit Go.OpenShut Go.ChangeShapes Go.WideShapes Go.Deep Go.Joins

section
variable {H : Type} {enc : TypeId × Value → H} {P : Program} {w : World} {base : Nat} {spare : Nat → Bool} {held : Bool}
theorem open_slice_fields {t e : TypeId} {fs : Array Field} {fuel : Nat} {cs : List Value} {x : DataW H × List MemPlace} (ht : P.underlying t = some (.slice e)) (he : P.underlying e = some (.struct fs))
    (hone : oneCellFields P fs = true) (hC : P.cellsOf e = fs.size) (h : DataW.trod enc P w base spare held fuel t cs = some x) :
    (cs = [.slice none 0 0] ∧ x = (.nil, [])) ∨
    ∃ (a : Addr) (len cap m : Nat) (D : Nat → DataW H) (Pl : Nat → List MemPlace), cs = [.slice (some a) len cap] ∧ base ≤ a.block ∧ len ≤ cap ∧ cap ≤ maxLen ∧ m = (if spare a.block then cap else len) ∧
      x = (.slice ((List.range len).map D) ((List.range (m - len)).map fun j => D (len + j)), MemPlace.row a (m * fs.size) ++ (List.range m).flatMap Pl) ∧
      ∀ i, i < m → ∃ (ys : List (DataW H × List MemPlace)) (n : Nat), D i = .agg (ys.map (·.1)) ∧ Pl i = ys.flatMap (·.2) ∧ ys.length = fs.size ∧
        ∀ (j : Nat) (f : Field), fs[j]? = some f → ∃ (v : Value) (y : DataW H × List MemPlace), w.cell? (a.add (i * fs.size + j)) = some v ∧ ys[j]? = some y ∧ DataW.trod enc P w base spare held n f.type [v] = some y := by
  rcases open_slice ht h with h0 | ⟨a, len, cap, m, n, D, Pl, hcs, hb, hl, hm, hmm, hx, hi⟩
  · exact .inl h0
  · refine .inr ⟨a, len, cap, m, D, Pl, hcs, hb, hl, hm, hmm, by rw [hC] at hx; exact hx, fun i him => ?_⟩
    obtain ⟨cs', hc, ht'⟩ := hi i him
    rw [hC] at hc
    obtain ⟨ys, n', hn', hy, hlen, hyl, hf⟩ := DataW.trod_struct he ht'
    obtain ⟨_, hcl, hat⟩ := World.cells?_some hc
    simp only [Prod.mk.injEq] at hy
    refine ⟨ys, n', hy.1, hy.2, hyl, fun j f hj => ?_⟩
    obtain ⟨ho, hk⟩ := hone_of hone j f hj
    have hjl : j < fs.size := (Array.getElem?_eq_some_iff.1 hj).1
    have hcell := hat j hjl
    have hv : cs'[j]? = some (cs'[j]'(by omega)) := List.getElem?_eq_getElem (by omega)
    have h1 := hf j f hj
    rw [ho, hk] at h1
    have hone' : (cs'.drop j).take 1 = [cs'[j]'(by omega)] := by
      rw [List.drop_eq_getElem_cons (by omega)]
      rfl
    rw [hone'] at h1
    have hys : ys[j]? = some (ys[j]'(by omega)) := List.getElem?_eq_getElem (by omega)
    refine ⟨_, _, ?_, hys, h1.trans hys⟩
    rw [← Go.Deep.add_add, hcell, hv]
end
def RecIn (w : World) (A : Option Addr) (n c : Nat) (ps : List Prt) : Prop := PartsA w w.heap.size A n ps ∧ n ≤ c ∧ c * 32 ≤ 140737488355328
instance : Inhabited Prt := ⟨prt0⟩
theorem cell_lt {w : World} {x : Addr} {v : Value} (h : w.cell? x = some v) : x.block < w.heap.size ∧ x.spot = none := by
  unfold World.cell? at h
  split at h
  · rename_i heq
    refine ⟨(Array.getElem?_eq_some_iff.1 heq).1, ?_⟩
    cases hs : x.spot with
    | none => rfl
    | some _ => rw [hs] at h; simp at h
  · cases h
section
variable {H : Type} {enc : TypeId × Value → H} {w : World}
theorem open_rec {r : Reach} {b0 : Nat} {v : Value} {d : DataW H} {p : List MemPlace} (hv : Value.okWide Try.prog w r b0 26 v) (h : DataW.Trod enc Try.prog w 0 (fun _ => true) true 26 v d p)
    (hsz : ∀ n ∈ d.weights Try.prog 26, n ≤ reachBytes) :
    ∃ (seq row : Int) (A : Option Addr) (n c : Nat) (ps : List Prt), v = recV seq row A n c ∧ (Lit.int .u64 seq).wf = true ∧ RecIn w A n c ps := by
  obtain ⟨v0, v1, v2, y0, y1, y2, n, rfl, rfl, _, h0, h1, h2⟩ := open_agg3 Try.underlying26 (by kernel_rfl) (by kernel_rfl) hv h
  obtain ⟨seq, e0, _, w0⟩ := DataW.trod_int Try.underlying22 h0
  obtain ⟨row, e1, _, w1⟩ := DataW.trod_int Try.underlying3 h1
  cases e0
  cases e1
  have hb : Try.prog.bytesOf 31 = 32 := by kernel_rfl
  have hw : ∀ el sp : List (DataW H), y2.1 = .slice el sp → (el.length + sp.length) * 32 ≤ reachBytes := fun el sp e => by
    rw [← hb]
    refine hsz _ ?_
    simp only [DataW.weights, Try.underlying26]
    refine DataW.weights_mem_each (j := 2) (t := 24) (d := y2.1) rfl rfl _ ?_
    rw [e]
    simp [DataW.weights, Try.underlying24]
  rcases open_slice_fields Try.underlying24 Try.underlying31 (by kernel_rfl) (by kernel_rfl) h2 with ⟨hcs, _⟩ | ⟨a, len, cap, m, D, Pl, hcs, _, hl, _, hm, hx, hf⟩
  · cases hcs
    exact ⟨seq, row, none, 0, 0, [], rfl, w0, PartsA.none_, Nat.le_refl _, by omega⟩
  · cases hcs
    simp only [if_true] at hm
    subst hm
    have hlen := hw _ _ (by rw [hx])
    simp only [List.length_map, List.length_range] at hlen
    have hc32 : m * 32 ≤ 140737488355328 := by
      have := reachBytes_lt
      omega
    have hat : ∀ i, i < m → ∃ q : Prt, w.cell? (a.add (i * 3)) = some (.int .i64 q.col) ∧ w.cell? (a.add (i * 3 + 1)) = some (.int .i64 q.off) ∧ w.cell? (a.add (i * 3 + 2)) = some (.string q.data) := fun i hi => by
      obtain ⟨ys, n', _, _, _, hff⟩ := hf i hi
      obtain ⟨u0, z0, g0, _, t0⟩ := hff 0 _ rfl
      obtain ⟨u1, z1, g1, _, t1⟩ := hff 1 _ rfl
      obtain ⟨u2, z2, g2, _, t2⟩ := hff 2 _ rfl
      obtain ⟨c, e0, _, _⟩ := DataW.trod_int Try.underlying3 t0
      obtain ⟨o, e1, _, _⟩ := DataW.trod_int Try.underlying3 t1
      obtain ⟨s, e2, _, _⟩ := DataW.trod_string Try.underlying9 t2
      cases e0; cases e1; cases e2
      exact ⟨⟨c, o, s⟩, g0, g1, g2⟩
    obtain ⟨f, hfq⟩ := choose_lt hat
    refine ⟨seq, row, some a, len, m, (List.range len).map f, rfl, w0, ⟨by simp, fun hn => ?_⟩, hl, hc32⟩
    obtain ⟨b, o, sp⟩ := a
    have h00 := (hfq 0 (by omega)).1
    rw [Nat.zero_mul] at h00
    have hadd0 : (⟨b, o, sp⟩ : Addr).add 0 = ⟨b, o, sp⟩ := rfl
    rw [hadd0] at h00
    obtain ⟨hlt, hsp⟩ := cell_lt h00
    dsimp only at hlt hsp
    subst hsp
    refine ⟨b, o, rfl, hlt, fun j hj => ?_⟩
    obtain ⟨g0, g1, g2⟩ := hfq j (by omega)
    have e3 : ∀ i, (⟨b, o, none⟩ : Addr).add i = ⟨b, o + i, none⟩ := fun i => by unfold Addr.add; split <;> simp_all
    rw [e3] at g0 g1 g2
    have eg : ((List.range len).map f).getD j prt0 = f j := by simp [List.getD, hj]
    rw [eg]
    exact ⟨g0, g1, g2⟩
end
end Go.Proofs.Ythpehdmffleobaa
