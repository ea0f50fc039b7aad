/- Slices of strings of the call's own; what the frame tells of one that came in. -/
import Derived.Test.YthpehdmffleobaaStrs
import Derived.Laws.AppendOwnNone
namespace Go.Proofs.Ythpehdmffleobaa
open Go.RowKit Go.OpenShut

def svs (l : List ByteArray) : List Value := l.map Value.string
theorem svs_len (l : List ByteArray) : (svs l).length = l.length := by simp [svs]
theorem svs_get {l : List ByteArray} {i : Nat} (h : i < l.length) : (svs l)[i]? = some (.string l[i]) := by simp [svs, h]
theorem svs_one (l : List ByteArray) : ∀ u ∈ svs l, u.oneCell' = true := by
  intro u hu
  obtain ⟨b, _, rfl⟩ := List.mem_map.1 hu
  rfl
def OwnS (w : World) (base : Nat) (v : Value) (l : List ByteArray) : Prop := w.ownsRow base 9 1 v l.length (svs l)
section
variable {w w' : World} {base : Nat} {v : Value} {l : List ByteArray}
theorem OwnS.drew (h : OwnS w base v l) : OwnS w.drew base v l := h
theorem OwnS.alloc (h : OwnS w base v l) (o : Obj) : OwnS (w.alloc o) base v l := World.ownsRow.alloc h o
theorem OwnS.below (h : OwnS w base v l) (hb : Below w.heap.size w w') : OwnS w' base v l := by
  obtain ⟨h1, h2⟩ := h
  refine ⟨h1, ?_⟩
  rcases h2 with h2 | ⟨g, cap, cur, hv, hg, hh, r⟩
  · exact Or.inl h2
  · refine Or.inr ⟨g, cap, cur, hv, hg, ?_, r⟩
    have hlt : g < w.heap.size := by
      rcases Nat.lt_or_ge g w.heap.size with hlt | hge
      · exact hlt
      · rw [Array.getElem?_eq_none hge] at hh; cases hh
    rw [hb.block g hlt]; exact hh
theorem OwnS.shape (h : OwnS w base v l) : ∃ A c, v = .slice A l.length c ∧ l.length ≤ c := by
  rcases h.2 with ⟨rfl, h0⟩ | ⟨g, cap, cur, rfl, _, _, hl, _⟩
  · exact ⟨none, 0, by rw [h0], by omega⟩
  · exact ⟨_, _, rfl, hl⟩
theorem OwnS.strs {A : Option Addr} {n c : Nat} (h : OwnS w base (.slice A n c) l) : StrsA w w.heap.size A n l := by
  have hcl := fun g hg => World.ownsRow.cells (g := g) h hg
  obtain ⟨h1, h2⟩ := h
  rcases h2 with ⟨e, h0⟩ | ⟨g, cap, cur, e, hg, hh, r⟩
  · cases e
    exact ⟨h0, fun h => by omega⟩
  · cases e
    refine ⟨rfl, fun _ => ⟨g, 0, rfl, ?_, fun j hj => ?_⟩⟩
    · rcases Nat.lt_or_ge g w.heap.size with hlt | hge
      · exact hlt
      · rw [Array.getElem?_eq_none hge] at hh; cases hh
    · have h3 := hcl g rfl j _ (svs_get hj)
      have e : (⟨g, 0, none⟩ : Addr).add j = ⟨g, 0 + j, none⟩ := by unfold Addr.add; split <;> simp_all
      rw [e] at h3
      rw [h3]
      simp [List.getD, hj]
theorem OwnS.new (w : World) (base : Nat) (hb : base ≤ w.heap.size) : OwnS (w.alloc (.cells #[] 9)) base (.slice (some ⟨w.heap.size, 0, none⟩) 0 0) [] :=
  ⟨rfl, Or.inr ⟨w.heap.size, 0, #[], rfl, hb, heap_alloc_new w _, Nat.le_refl _, Nat.zero_le _, rfl, rfl⟩⟩
theorem OwnS.far (h : OwnS w base v l) {p : Addr} (hp : some p.block ≠ v.ownBlock) (u : Value) : OwnS (w.setCell p u) base v l := by
  obtain ⟨h1, h2⟩ := h
  refine ⟨h1, ?_⟩
  rcases h2 with h2 | ⟨g, cap, cur, rfl, hg, hh, r⟩
  · exact Or.inl h2
  · refine Or.inr ⟨g, cap, cur, rfl, hg, ?_, r⟩
    rw [Below.heap_setCell w p u g (fun e => hp (by rw [← e]; rfl))]
    exact hh
theorem OwnS.grown {row : Option Nat} (h : OwnS w base v l) (hg : w.grownBy w' row) (hn : v.ownBlock = none ∨ v.ownBlock ≠ row) : OwnS w' base v l :=
  World.ownsRow.kept h hg hn
end
theorem info_string : (Try.prog.info? 9).map (fun i => (i.zero, i.size, i.bytes)) = some (some (.string ⟨#[]⟩), 1, 16) := by kernel_rfl

theorem wp_appS {w : World} {ops : Array Oper} {rest : List Oper} {o : Oper} {a : Act} {Q : Exit → Act → World → Prop} (hgd : o.guard = none) (s x : Operand)
    (ho : o.op = .call { callee := .builtin .append, args := #[s, x], argTypes := #[23, 23] })
    (base : Nat) (v : Value) (l : List ByteArray) (hown : OwnS w base v l) (hs : a.eval s = v) (A : Option Addr) (m c : Nat) (b : List ByteArray) (hx : a.eval x = .slice A m c) (hb : StrsA w w.heap.size A m b) (hc0 : A = none → c = 0)
    (hlen : l.length + m < 4294967296) (hbase : base ≤ w.heap.size)
    (h : ∀ v' w', OwnS w' base v' (l ++ b) → w.grownBy w' v.ownBlock → Below base w w' → wpList Try.prog ops Q rest (a.put o.dst v') w') : wpList Try.prog ops Q (o :: rest) a w := by
  obtain ⟨i0, hi, hz0, hz1, hz2⟩ := info_parts info_string
  obtain ⟨hbl, hb2⟩ := hb
  cases A with
  | none =>
    obtain rfl := hc0 rfl
    have hm : m = 0 := by
      rcases Nat.eq_zero_or_pos m with e | e
      · exact e
      · obtain ⟨_, _, h0, _⟩ := hb2 e
        cases h0
    subst hm
    have hbn : b = [] := List.eq_nil_of_length_eq_zero hbl
    subst hbn
    refine wpList_append_own_none hgd s x 23 ho base 9 i0 1 Try.underlying23 hi v l.length (svs l) hs hown hx ?_
    refine h v w ?_ (World.grownBy.refl _ _) (Below.refl _ _)
    rw [List.append_nil]
    exact hown
  | some ad =>
    refine wpList_append_own _ hgd s x 23 ho base 9 i0 (.string ⟨#[]⟩) 1 16 Try.underlying23 hi hz0 hz1 hz2 rfl (by decide) v l.length (svs l) hs hown ad m c (svs b) hx (by rw [svs_len, hbl, Nat.mul_one]) ?_ (svs_one b) (by unfold maxLen; omega) (by omega) hbase ?_
    · intro j u hj
      have hj' : j < b.length := by
        rcases Nat.lt_or_ge j b.length with e | e
        · exact e
        · rw [List.getElem?_eq_none (by rw [svs_len]; exact e)] at hj; cases hj
      rw [svs_get hj'] at hj
      cases hj
      obtain ⟨g, off, e, _, hcc⟩ := hb2 (by omega)
      cases e
      have e : (⟨g, off, none⟩ : Addr).add j = ⟨g, off + j, none⟩ := by unfold Addr.add; split <;> simp_all
      rw [e, hcc j (by omega)]
      simp [List.getD, hj']
    · intro v' w' h1 h2 _
      refine h v' w' ?_ h2 ((Below.refl _ _).grown h2 hbase (fun k hk => (World.ownsRow.lt hown k hk).1))
      unfold OwnS
      have e : svs (l ++ b) = svs l ++ svs b := by simp [svs]
      rw [e, List.length_append, hbl]
      exact h1
theorem StrsA.one {w : World} {g : Nat} {t : TypeId} {x : ByteArray} (h : Blk w g t #[.string x]) : StrsA w w.heap.size (some ⟨g, 0, none⟩) 1 [x] := StrsA.blk (xs := [x]) h rfl h.lt

/-- what the rows' frames tell of a slice of strings that came in -/
def StrsIn (w : World) (a : Option Addr) (len cap : Nat) (xs : List ByteArray) : Prop :=
  StrsA w w.heap.size a len xs ∧ len ≤ cap ∧ cap ≤ maxLen ∧ (a = none → cap = 0) ∧ ∀ x ∈ xs, x.size ≤ maxLen
theorem StrsIn.nil_ (w : World) : StrsIn w none 0 0 [] := ⟨⟨rfl, fun h => by omega⟩, Nat.le_refl _, Nat.zero_le _, fun _ => rfl, fun x hx => by cases hx⟩
theorem StrsIn.row {w : World} {x : Addr} {len cap : Nat} {zs : List ByteArray} (h1 : len ≤ cap) (h2 : cap ≤ maxLen) (h3 : zs.length = cap) (h4 : ∀ i, i < zs.length → w.cell? (x.add i) = some (.string (zs.getD i ByteArray.empty))) (h5 : ∀ s ∈ zs, s.size ≤ maxLen) :
    StrsIn w (some x) len cap (zs.take len) := by
  refine ⟨⟨by simp; omega, fun h0 => ?_⟩, h1, h2, (fun h => by cases h), fun s hs => h5 s (List.mem_of_mem_take hs)⟩
  obtain ⟨b, off, sp⟩ := x
  have hb : b < w.heap.size ∧ sp = none := by
    have h6 := h4 0 (by omega)
    unfold Addr.add at h6
    rw [if_pos rfl] at h6
    unfold World.cell? at h6
    split at h6
    · rename_i heq
      refine ⟨(Array.getElem?_eq_some_iff.1 heq).1, ?_⟩
      cases sp with
      | none => rfl
      | some _ => simp at h6
    · cases h6
  obtain ⟨hb, rfl⟩ := hb
  refine ⟨b, off, rfl, hb, fun j hj => ?_⟩
  have h6 := h4 j (by omega)
  have e : (⟨b, off, none⟩ : Addr).add j = ⟨b, off + j, none⟩ := by unfold Addr.add; split <;> simp_all
  rw [e] at h6
  rw [h6]
  have h7 : j < zs.length := by omega
  simp [List.getD, h7, hj]
end Go.Proofs.Ythpehdmffleobaa
