/- Slices of parts of the call's own. -/
import Derived.Test.YthpehdmffleobaaRc0
import Derived.Laws.AppendOwnNone
import Derived.Maps.AppendAt
import Derived.Laws.OwnMore
namespace Go.Proofs.Ythpehdmffleobaa
open Go.RowKit Go.OpenShut

def pcs (l : List Prt) : List Value := l.flatMap Prt.cells
theorem pcs_cons (p : Prt) (l : List Prt) : pcs (p :: l) = p.cells ++ pcs l := rfl
theorem pcs_len : ∀ l : List Prt, (pcs l).length = l.length * 3
  | [] => rfl
  | p :: l => by rw [pcs_cons, List.length_append, pcs_len l, List.length_cons]; show 3 + _ = _; omega
theorem pcs_app (l m : List Prt) : pcs (l ++ m) = pcs l ++ pcs m := by simp [pcs]
theorem pcs_get : ∀ (l : List Prt) (j : Nat), j < l.length → (pcs l)[j * 3]? = some (.int .i64 (l.getD j prt0).col) ∧ (pcs l)[j * 3 + 1]? = some (.int .i64 (l.getD j prt0).off) ∧ (pcs l)[j * 3 + 2]? = some (.string (l.getD j prt0).data)
  | [], j, h => by simp at h
  | p :: l, 0, _ => ⟨rfl, rfl, rfl⟩
  | p :: l, j + 1, h => by
    have ih := pcs_get l j (by simpa using h)
    have e : ∀ r, (pcs (p :: l))[(j + 1) * 3 + r]? = (pcs l)[j * 3 + r]? := fun r => by
      rw [pcs_cons, List.getElem?_append_right (by show 3 ≤ _; omega)]
      congr 1
      show (j + 1) * 3 + r - 3 = _
      omega
    have e0 := e 0
    rw [Nat.add_zero, Nat.add_zero] at e0
    rw [e0, e 1, e 2]
    exact ih
theorem pcs_one (l : List Prt) : ∀ u ∈ pcs l, u.oneCell' = true := by
  intro u hu
  obtain ⟨p, _, h⟩ := List.mem_flatMap.1 hu
  simp only [Prt.cells, List.mem_cons, List.not_mem_nil, or_false] at h
  rcases h with rfl | rfl | rfl <;> rfl
def OwnP (e : TypeId) (w : World) (base : Nat) (v : Value) (l : List Prt) : Prop := w.ownsRow base e 3 v l.length (pcs l)
section
variable {e : TypeId} {w w' : World} {base : Nat} {v : Value} {l : List Prt}
theorem OwnP.drew (h : OwnP e w base v l) : OwnP e w.drew base v l := h
theorem OwnP.alloc (h : OwnP e w base v l) (o : Obj) : OwnP e (w.alloc o) base v l := World.ownsRow.alloc h o
theorem OwnP.below (h : OwnP e w base v l) (hb : Below w.heap.size w w') : OwnP e w' base v l := by
  obtain ⟨h1, h2⟩ := h
  refine ⟨h1, ?_⟩
  rcases h2 with h2 | ⟨g, cap, cur, hv, hg, hh, r⟩
  · exact Or.inl h2
  · refine Or.inr ⟨g, cap, cur, hv, hg, ?_, r⟩
    have hlt : g < w.heap.size := by
      rcases Nat.lt_or_ge g w.heap.size with hlt | hge
      · exact hlt
      · rw [Array.getElem?_eq_none hge] at hh; cases hh
    rw [hb.block g hlt]; exact hh
theorem OwnP.shape (h : OwnP e w base v l) : ∃ A c, v = .slice A l.length c ∧ l.length ≤ c ∧ c ≤ maxLen := by
  rcases h.2 with ⟨rfl, h0⟩ | ⟨g, cap, cur, rfl, _, _, hl, h3, _⟩
  · exact ⟨none, 0, by rw [h0], by omega, by omega⟩
  · exact ⟨_, _, rfl, hl, h3⟩
theorem OwnP.none_ (w : World) (base : Nat) : OwnP e w base (.slice none 0 0) [] := ⟨rfl, Or.inl ⟨rfl, rfl⟩⟩
theorem OwnP.grown {row : Option Nat} (h : OwnP e w base v l) (hg : w.grownBy w' row) (hn : v.ownBlock = none ∨ v.ownBlock ≠ row) : OwnP e w' base v l :=
  World.ownsRow.kept h hg hn
theorem OwnP.far (h : OwnP e w base v l) {p : Addr} (hp : some p.block ≠ v.ownBlock) (u : Value) : OwnP e (w.setCell p u) base v l := by
  obtain ⟨h1, h2⟩ := h
  refine ⟨h1, ?_⟩
  rcases h2 with h2 | ⟨g, cap, cur, rfl, hg, hh, r⟩
  · exact Or.inl h2
  · refine Or.inr ⟨g, cap, cur, rfl, hg, ?_, r⟩
    rw [Below.heap_setCell w p u g (fun e => hp (by rw [← e]; rfl))]
    exact hh
theorem OwnP.lt (h : OwnP e w base v l) : ∀ k, v.ownBlock = some k → base ≤ k ∧ k < w.heap.size := World.ownsRow.lt h
theorem OwnP.some_ {A : Option Addr} {n c : Nat} (h : OwnP e w base (.slice A n c) l) (hn : 0 < n) : ∃ g, A = some ⟨g, 0, none⟩ := by
  have h0 := h.1
  rcases h.2 with ⟨e', h1⟩ | ⟨g, cap, cur, e', _⟩
  · cases e'; omega
  · cases e'; exact ⟨g, rfl⟩
theorem OwnP.parts {A : Option Addr} {n c : Nat} (h : OwnP e w base (.slice A n c) l) : PartsA w w.heap.size A n l := by
  have hcl := fun g hg => World.ownsRow.cells (g := g) h hg
  have hlt := h.lt
  obtain ⟨h1, h2⟩ := h
  rcases h2 with ⟨e', h0⟩ | ⟨g, cap, cur, e', hg, hh, r⟩
  · cases e'
    exact ⟨h0, fun h => by omega⟩
  · cases e'
    refine ⟨rfl, fun _ => ⟨g, 0, rfl, (hlt g rfl).2, fun j hj => ?_⟩⟩
    obtain ⟨a0, a1, a2⟩ := pcs_get l j hj
    have e3 : ∀ i, (⟨g, 0, none⟩ : Addr).add i = ⟨g, 0 + i, none⟩ := fun i => by unfold Addr.add; split <;> simp_all
    have b0 := hcl g rfl _ _ a0
    have b1 := hcl g rfl _ _ a1
    have b2 := hcl g rfl _ _ a2
    rw [e3] at b0 b1 b2
    exact ⟨b0, b1, b2⟩
end
theorem info_part : (Try.prog.info? 31).map (fun i => (i.zero, i.size, i.bytes)) = some (some (.agg #[.int .i64 0, .int .i64 0, .string ⟨#[]⟩]), 3, 32) := by kernel_rfl
theorem info_part12 : (Try.prog.info? 65).map (fun i => (i.zero, i.size, i.bytes)) = some (some (.agg #[.int .i64 0, .int .i64 0, .string ⟨#[]⟩]), 3, 32) := by kernel_rfl
/-- parts appended to a slice of the call's own -/
theorem wp_appP (t e : TypeId) (hu : Try.prog.underlying t = some (.slice e)) (hinfo : (Try.prog.info? e).map (fun i => (i.zero, i.size, i.bytes)) = some (some (.agg #[.int .i64 0, .int .i64 0, .string ⟨#[]⟩]), 3, 32))
    {w : World} {ops : Array Oper} {rest : List Oper} {o : Oper} {a : Act} {Q : Exit → Act → World → Prop} (hgd : o.guard = none) (s x : Operand)
    (ho : o.op = .call { callee := .builtin .append, args := #[s, x], argTypes := #[t, t] })
    (base : Nat) (v : Value) (l : List Prt) (hown : OwnP e w base v l) (hs : a.eval s = v) (A : Option Addr) (m c : Nat) (b : List Prt) (hx : a.eval x = .slice A m c) (hb : PartsA w w.heap.size A m b) (hc0 : A = none → c = 0)
    (hlen : l.length + m < 4294967296) (hbase : base ≤ w.heap.size)
    (h : ∀ v' w', OwnP e w' base v' (l ++ b) → w.grownBy w' v.ownBlock → Below base w w' → (v'.ownBlock = v.ownBlock ∨ v'.ownBlock = some w.heap.size) → wpList Try.prog ops Q rest (a.put o.dst v') w') : wpList Try.prog ops Q (o :: rest) a w := by
  obtain ⟨i0, hi, hz0, hz1, hz2⟩ := info_parts hinfo
  obtain ⟨hbl, hb2⟩ := hb
  cases A with
  | none =>
    obtain rfl := hc0 rfl
    have hm : m = 0 := by
      rcases Nat.eq_zero_or_pos m with e | e
      · exact e
      · obtain ⟨_, _, h0, _⟩ := hb2 e
        cases h0
    subst hm
    have hbn : b = [] := List.eq_nil_of_length_eq_zero hbl
    subst hbn
    refine wpList_append_own_none hgd s x t ho base e i0 3 hu hi v l.length (pcs l) hs hown hx ?_
    refine h v w ?_ (World.grownBy.refl _ _) (Below.refl _ _) (Or.inl rfl)
    rw [List.append_nil]
    exact hown
  | some ad =>
    refine wpList_append_own_at _ hgd s x t ho base e i0 _ 3 32 hu hi hz0 hz1 hz2 rfl (by decide) v l.length (pcs l) hs hown ad m c (pcs b) hx (by rw [pcs_len, hbl]) ?_ (pcs_one b) (by unfold maxLen; omega) (by omega) hbase ?_
    · intro j u hj
      have hj' : j < b.length * 3 := by
        rcases Nat.lt_or_ge j (b.length * 3) with e | e
        · exact e
        · rw [List.getElem?_eq_none (by rw [pcs_len]; exact e)] at hj; cases hj
      obtain ⟨g, off, e, _, hcc⟩ := hb2 (by omega)
      cases e
      have e3 : ∀ i, (⟨g, off, none⟩ : Addr).add i = ⟨g, off + i, none⟩ := fun i => by unfold Addr.add; split <;> simp_all
      rw [e3]
      obtain ⟨a0, a1, a2⟩ := pcs_get b (j / 3) (by omega)
      obtain ⟨c0, c1, c2⟩ := hcc (j / 3) (by omega)
      rcases (show j = j / 3 * 3 ∨ j = j / 3 * 3 + 1 ∨ j = j / 3 * 3 + 2 by omega) with e | e | e
      · rw [← e] at a0 c0; rw [a0] at hj; cases hj; exact c0
      · rw [← e] at a1; rw [a1] at hj; cases hj; rw [show off + j = off + j / 3 * 3 + 1 by omega]; exact c1
      · rw [← e] at a2; rw [a2] at hj; cases hj; rw [show off + j = off + j / 3 * 3 + 2 by omega]; exact c2
    · intro v' w' h1 h2 _ h3
      refine h v' w' ?_ h2 ((Below.refl _ _).grown h2 hbase (fun k hk => (World.ownsRow.lt hown k hk).1)) h3
      unfold OwnP
      rw [pcs_app, List.length_append, hbl]
      exact h1
theorem pcs_set0 : ∀ (l : List Prt) (j : Nat) (x : Int), j < l.length → (pcs l).set (j * 3) (.int .i64 x) = pcs (l.set j ⟨x, (l.getD j prt0).off, (l.getD j prt0).data⟩)
  | [], j, _, h => by simp at h
  | p :: l, 0, x, _ => rfl
  | p :: l, j + 1, x, h => by
    have ih := pcs_set0 l j x (by simpa using h)
    rw [pcs_cons, show (j + 1) * 3 = p.cells.length + j * 3 by show _ = 3 + j * 3; omega, List.set_append_right _ _ (by omega), Nat.add_sub_cancel_left, ih]
    rfl
theorem pcs_set1 : ∀ (l : List Prt) (j : Nat) (x : Int), j < l.length → (pcs l).set (j * 3 + 1) (.int .i64 x) = pcs (l.set j ⟨(l.getD j prt0).col, x, (l.getD j prt0).data⟩)
  | [], j, _, h => by simp at h
  | p :: l, 0, x, _ => rfl
  | p :: l, j + 1, x, h => by
    have ih := pcs_set1 l j x (by simpa using h)
    rw [pcs_cons, show (j + 1) * 3 + 1 = p.cells.length + (j * 3 + 1) by show _ = 3 + (j * 3 + 1); omega, List.set_append_right _ _ (by omega), Nat.add_sub_cancel_left, ih]
    rfl
theorem pcs_set2 : ∀ (l : List Prt) (j : Nat) (s : ByteArray), j < l.length → (pcs l).set (j * 3 + 2) (.string s) = pcs (l.set j ⟨(l.getD j prt0).col, (l.getD j prt0).off, s⟩)
  | [], j, _, h => by simp at h
  | p :: l, 0, x, _ => rfl
  | p :: l, j + 1, x, h => by
    have ih := pcs_set2 l j x (by simpa using h)
    rw [pcs_cons, show (j + 1) * 3 + 2 = p.cells.length + (j * 3 + 2) by show _ = 3 + (j * 3 + 2); omega, List.set_append_right _ _ (by omega), Nat.add_sub_cancel_left, ih]
    rfl
theorem OwnP.set0 {e : TypeId} {w : World} {base g n c : Nat} {l : List Prt} (h : OwnP e w base (.slice (some ⟨g, 0, none⟩) n c) l) (hl : l.length = n) (j : Nat) (hj : j < n) (x : Int) :
    OwnP e (w.setCell ⟨g, j * 3, none⟩ (.int .i64 x)) base (.slice (some ⟨g, 0, none⟩) n c) (l.set j ⟨x, (l.getD j prt0).off, (l.getD j prt0).data⟩) := by
  subst hl
  have h1 := (World.ownsRow.stored h (j * 3) (.int .i64 x)).1
  rw [pcs_set0 l j x hj] at h1
  unfold OwnP
  rw [List.length_set]
  exact h1
theorem OwnP.set1 {e : TypeId} {w : World} {base g n c : Nat} {l : List Prt} (h : OwnP e w base (.slice (some ⟨g, 0, none⟩) n c) l) (hl : l.length = n) (j : Nat) (hj : j < n) (x : Int) :
    OwnP e (w.setCell ⟨g, j * 3 + 1, none⟩ (.int .i64 x)) base (.slice (some ⟨g, 0, none⟩) n c) (l.set j ⟨(l.getD j prt0).col, x, (l.getD j prt0).data⟩) := by
  subst hl
  have h1 := (World.ownsRow.stored h (j * 3 + 1) (.int .i64 x)).1
  rw [pcs_set1 l j x hj] at h1
  unfold OwnP
  rw [List.length_set]
  exact h1
theorem OwnP.set2 {e : TypeId} {w : World} {base g n c : Nat} {l : List Prt} (h : OwnP e w base (.slice (some ⟨g, 0, none⟩) n c) l) (hl : l.length = n) (j : Nat) (hj : j < n) (s : ByteArray) :
    OwnP e (w.setCell ⟨g, j * 3 + 2, none⟩ (.string s)) base (.slice (some ⟨g, 0, none⟩) n c) (l.set j ⟨(l.getD j prt0).col, (l.getD j prt0).off, s⟩) := by
  subst hl
  have h1 := (World.ownsRow.stored h (j * 3 + 2) (.string s)).1
  rw [pcs_set2 l j s hj] at h1
  unfold OwnP
  rw [List.length_set]
  exact h1
theorem OwnP.froz {e : TypeId} {w : World} {base g n c : Nat} {l : List Prt} (h : OwnP e w base (.slice (some ⟨g, 0, none⟩) n c) l) (hl : l.length = n) (i : Nat) : w.frozen? ⟨g, i, none⟩ = false := by
  subst hl
  exact World.ownsRow.frozenAt h i
theorem OwnP.at_ {e : TypeId} {w : World} {base g n c : Nat} {l : List Prt} (h : OwnP e w base (.slice (some ⟨g, 0, none⟩) n c) l) (hl : l.length = n) (j : Nat) (hj : j < n) : PAt w g 0 j (l.getD j prt0) := by
  subst hl
  obtain ⟨b, o, e', _, hc⟩ := h.parts.2 (by omega)
  cases e'
  exact hc j hj
/-- one part as a literal -/
theorem PartsA.lit {w0 : World} {g : Nat} {t : TypeId} {p : Prt} (hg : w0.heap.size = g) : PartsA (w0.alloc (.cells #[.int .i64 p.col, .int .i64 p.off, .string p.data] t)) (w0.alloc (.cells #[.int .i64 p.col, .int .i64 p.off, .string p.data] t)).heap.size (some ⟨g, 0, none⟩) 1 [p] := by
  subst hg
  have h := Blk.new w0 t #[.int .i64 p.col, .int .i64 p.off, .string p.data]
  refine ⟨rfl, fun _ => ⟨w0.heap.size, 0, rfl, h.lt, fun j hj => ?_⟩⟩
  obtain rfl : j = 0 := by omega
  exact ⟨h.cell 0, h.cell 1, h.cell 2⟩
end Go.Proofs.Ythpehdmffleobaa
