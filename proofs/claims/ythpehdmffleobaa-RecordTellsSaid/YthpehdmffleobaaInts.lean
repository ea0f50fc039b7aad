/- Words for slices of integers of the call's own. -/
import Derived.Test.YthpehdmffleobaaPack0
namespace Go.Proofs.Ythpehdmffleobaa
open Go.RowKit Go.OpenShut

def ivs (k : IntKind) (l : List Int) : List Value := l.map (Value.int k)
theorem ivs_len (k : IntKind) (l : List Int) : (ivs k l).length = l.length := by simp [ivs]
theorem ivs_get {k : IntKind} {l : List Int} {i : Nat} (h : i < l.length) : (ivs k l)[i]? = some (.int k l[i]) := by simp [ivs, h]
theorem ivs_one (k : IntKind) (l : List Int) : ∀ u ∈ ivs k l, u.oneCell' = true := by
  intro u hu
  obtain ⟨b, _, rfl⟩ := List.mem_map.1 hu
  rfl
def OwnI (w : World) (base : Nat) (t : TypeId) (k : IntKind) (v : Value) (l : List Int) : Prop := w.ownsRow base t 1 v l.length (ivs k l)
section
variable {w w' : World} {base : Nat} {t : TypeId} {k : IntKind} {v : Value} {l : List Int}
theorem OwnI.nil_ (w : World) (base : Nat) (t : TypeId) (k : IntKind) : OwnI w base t k (.slice none 0 0) [] := World.ownsRow_nil w base _ _
theorem OwnI.drew (h : OwnI w base t k v l) : OwnI w.drew base t k v l := h
theorem OwnI.alloc (h : OwnI w base t k v l) (o : Obj) : OwnI (w.alloc o) base t k v l := World.ownsRow.alloc h o
theorem OwnI.below (h : OwnI w base t k v l) (hb : Below w.heap.size w w') : OwnI w' base t k v l := by
  obtain ⟨h1, h2⟩ := h
  refine ⟨h1, ?_⟩
  rcases h2 with h2 | ⟨g, cap, cur, hv, hg, hh, r⟩
  · exact Or.inl h2
  · refine Or.inr ⟨g, cap, cur, hv, hg, ?_, r⟩
    have hlt : g < w.heap.size := by
      rcases Nat.lt_or_ge g w.heap.size with hlt | hge
      · exact hlt
      · rw [Array.getElem?_eq_none hge] at hh; cases hh
    rw [hb.block g hlt]; exact hh
theorem OwnI.shape (h : OwnI w base t k v l) : ∃ A c, v = .slice A l.length c := by
  rcases h.2 with ⟨rfl, h0⟩ | ⟨g, cap, cur, rfl, _⟩
  · exact ⟨none, 0, by rw [h0]⟩
  · exact ⟨_, _, rfl⟩
theorem OwnI.ints {A : Option Addr} {n c : Nat} (h : OwnI w base t k (.slice A n c) l) : IntsA w w.heap.size k A n l := by
  have hcl := fun g hg => World.ownsRow.cells (g := g) h hg
  obtain ⟨h1, h2⟩ := h
  rcases h2 with ⟨e, h0⟩ | ⟨g, cap, cur, e, hg, hh, r⟩
  · cases e
    exact ⟨h0, fun h => by omega⟩
  · cases e
    refine ⟨rfl, fun _ => ⟨g, 0, rfl, ?_, fun j hj => ?_⟩⟩
    · rcases Nat.lt_or_ge g w.heap.size with hlt | hge
      · exact hlt
      · rw [Array.getElem?_eq_none hge] at hh; cases hh
    · have h3 := hcl g rfl j _ (ivs_get hj)
      have e : (⟨g, 0, none⟩ : Addr).add j = ⟨g, 0 + j, none⟩ := by unfold Addr.add; split <;> simp_all
      rw [e] at h3
      rw [h3]
      simp [List.getD, hj]
theorem OwnI.new (w : World) (base : Nat) (t : TypeId) (k : IntKind) (hb : base ≤ w.heap.size) : OwnI (w.alloc (.cells #[] t)) base t k (.slice (some ⟨w.heap.size, 0, none⟩) 0 0) [] :=
  ⟨rfl, Or.inr ⟨w.heap.size, 0, #[], rfl, hb, heap_alloc_new w _, Nat.le_refl _, Nat.zero_le _, rfl, rfl⟩⟩
theorem OwnI.far (h : OwnI w base t k v l) {p : Addr} (hp : some p.block ≠ v.ownBlock) (u : Value) : OwnI (w.setCell p u) base t k v l := by
  obtain ⟨h1, h2⟩ := h
  refine ⟨h1, ?_⟩
  rcases h2 with h2 | ⟨g, cap, cur, rfl, hg, hh, r⟩
  · exact Or.inl h2
  · refine Or.inr ⟨g, cap, cur, rfl, hg, ?_, r⟩
    rw [Below.heap_setCell w p u g (fun e => hp (by rw [← e]; rfl))]
    exact hh
/-- another row of the call's own, of another type, is not touched -/
theorem OwnI.ne {t' : TypeId} {k' : IntKind} {base' : Nat} {v' : Value} {l' : List Int} (h : OwnI w base t k v l) (h' : OwnI w base' t' k' v' l') (ht : t ≠ t') : v.ownBlock = none ∨ v.ownBlock ≠ v'.ownBlock := by
  rcases h.2 with ⟨rfl, _⟩ | ⟨g, cap, cur, rfl, _, hg, _⟩
  · exact Or.inl rfl
  · right
    intro e
    rcases h'.2 with ⟨rfl, _⟩ | ⟨g', cap', cur', rfl, _, hg', _⟩
    · simp [Value.ownBlock] at e
    · obtain rfl : g = g' := by simpa [Value.ownBlock] using e
      rw [hg] at hg'
      cases hg'
      exact ht rfl
theorem OwnI.grown {row : Option Nat} (h : OwnI w base t k v l) (hg : w.grownBy w' row) (hn : v.ownBlock = none ∨ v.ownBlock ≠ row) : OwnI w' base t k v l :=
  World.ownsRow.kept h hg hn
theorem IntsA.grown {B : Nat} {A : Option Addr} {n : Nat} (h : IntsA w B k A n l) (hb : Below B w w') : IntsA w' B k A n l := h.below hb
end

theorem wp_pushI {w : World} {ops : Array Oper} {rest : List Oper} {o : Oper} {a : Act} {Q : Exit → Act → World → Prop} (st t : TypeId) (k : IntKind) (hst : Try.prog.underlying st = some (.slice t))
    (hinfo : (Try.prog.info? t).map (fun i => (i.zero, i.size, i.bytes)) = some (some (.int k 0), 1, 8)) (hgd : o.guard = none) (s x : Operand)
    (ho : o.op = .call { callee := .builtin .append, args := #[s, x], argTypes := #[st, st] })
    (base : Nat) (v : Value) (l : List Int) (hown : OwnI w base t k v l) (hs : a.eval s = v) (ad : Addr) (c : Nat) (b : Int) (hx : a.eval x = .slice (some ad) 1 c) (hc : w.cell? ad = some (.int k b))
    (hlen : l.length < 4294967296) (hbase : base ≤ w.heap.size)
    (h : ∀ v' w', OwnI w' base t k v' (l ++ [b]) → w.grownBy w' v.ownBlock → Below base w w' → wpList Try.prog ops Q rest (a.put o.dst v') w') : wpList Try.prog ops Q (o :: rest) a w := by
  obtain ⟨i0, hi, hz0, hz1, hz2⟩ := info_parts hinfo
  refine wpList_append_own _ hgd s x st ho base t i0 (.int k 0) 1 8 hst hi hz0 hz1 hz2 rfl (by decide) v l.length (ivs k l) hs hown ad 1 c [.int k b] hx rfl ?_ ?_ (by unfold maxLen; omega) (by omega) hbase ?_
  · intro j u hj
    have : j = 0 := by
      rcases Nat.eq_zero_or_pos j with e | e
      · exact e
      · rw [List.getElem?_eq_none (by simp; omega)] at hj; cases hj
    subst this
    simp at hj
    subst hj
    simpa [Addr.add] using hc
  · intro u hu
    simp at hu
    subst hu
    rfl
  · intro v' w' h1 h2 _
    refine h v' w' ?_ h2 ((Below.refl _ _).grown h2 hbase (fun k hk => (World.ownsRow.lt hown k hk).1))
    unfold OwnI
    have e : ivs k (l ++ [b]) = ivs k l ++ [.int k b] := by simp [ivs]
    rw [e, List.length_append]
    exact h1
theorem info_int : (Try.prog.info? 3).map (fun i => (i.zero, i.size, i.bytes)) = some (some (.int .i64 0), 1, 8) := by kernel_rfl
theorem info_u64 : (Try.prog.info? 22).map (fun i => (i.zero, i.size, i.bytes)) = some (some (.int .u64 0), 1, 8) := by kernel_rfl

/-- what the rows' frames tell of a slice of integers that came in (the same words) -/
def RowIn (k : IntKind) (w : World) (a : Option Addr) (len cap : Nat) (zs : List Int) : Prop :=
  (a = none ∧ len = 0 ∧ cap = 0 ∧ zs = []) ∨
  ∃ x, a = some x ∧ len ≤ cap ∧ cap ≤ maxLen ∧ zs.length = cap ∧ (∀ i, i < zs.length → w.cell? (x.add i) = some (.int k (zs.getD i 0))) ∧ ∀ n ∈ zs, (Lit.int k n).wf = true
theorem RowIn.ints {k : IntKind} {w : World} {a : Option Addr} {len cap : Nat} {zs : List Int} (h : RowIn k w a len cap zs) :
    IntsA w w.heap.size k a len (zs.take len) ∧ (∀ x ∈ zs.take len, (Lit.int k x).wf = true) ∧ len ≤ maxLen := by
  rcases h with ⟨rfl, rfl, rfl, rfl⟩ | ⟨x, rfl, h1, h2, h3, h4, h5⟩
  · exact ⟨⟨rfl, fun h => by omega⟩, fun x hx => by simp at hx, by unfold maxLen; omega⟩
  · refine ⟨⟨by simp; omega, fun h0 => ?_⟩, fun x hx => h5 x (List.mem_of_mem_take hx), by omega⟩
    obtain ⟨b, off, sp⟩ := x
    have hb : b < w.heap.size ∧ sp = none := by
      have h6 := h4 0 (by omega)
      unfold Addr.add at h6
      rw [if_pos rfl] at h6
      unfold World.cell? at h6
      split at h6
      · rename_i heq
        refine ⟨(Array.getElem?_eq_some_iff.1 heq).1, ?_⟩
        cases sp with
        | none => rfl
        | some _ => simp at h6
      · cases h6
    obtain ⟨hb, rfl⟩ := hb
    refine ⟨b, off, rfl, hb, fun j hj => ?_⟩
    have h6 := h4 j (by omega)
    have e : (⟨b, off, none⟩ : Addr).add j = ⟨b, off + j, none⟩ := by unfold Addr.add; split <;> simp_all
    rw [e] at h6
    rw [h6]
    have h7 : j < zs.length := by omega
    simp [List.getD, h7, hj]
end Go.Proofs.Ythpehdmffleobaa
