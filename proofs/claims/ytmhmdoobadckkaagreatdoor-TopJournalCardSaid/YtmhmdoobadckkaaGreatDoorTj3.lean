/- Own texts, joined: Ints, Keys, Dv1, DrvSet, DrvFl, Dops, Row0, Row1, Row2, Row3, NFIn, Range, RdI, Strs, OwnS, PackIt. -/
import Derived.Test.YtmhmdoobadckkaaGreatDoorTj1
import Derived.Test.YtmhmdoobadckkaaGreatDoorTj2
import Derived.CallsIn
import Derived.OrdersIn
import Derived.RangeFuncCalls
import Derived.TacticsIn
import Derived.RangeFuncBox
import Derived.RangeFuncNested
import Derived.RangeFuncLeaves
import Derived.OwnWalkIn
import Derived.TacticsInMore
import Derived.LoopNIn
import Derived.LoopIn
import Derived.Shelf.Abstract
import Derived.Laws.AppendOwnNone
/- Words for slices of integers of the call's own. -/
namespace Go.Proofs.YtmhmdoobadckkaaGreatDoor
set_option maxRecDepth 20000
open Go.RowKit Go.OpenShut

def ivs (k : IntKind) (l : List Int) : List Value := l.map (Value.int k)
theorem ivs_len (k : IntKind) (l : List Int) : (ivs k l).length = l.length := by simp [ivs]
theorem ivs_get {k : IntKind} {l : List Int} {i : Nat} (h : i < l.length) : (ivs k l)[i]? = some (.int k l[i]) := by simp [ivs, h]
theorem ivs_one (k : IntKind) (l : List Int) : ∀ u ∈ ivs k l, u.oneCell' = true := by
  intro u hu
  obtain ⟨b, _, rfl⟩ := List.mem_map.1 hu
  rfl
def OwnI (w : World) (base : Nat) (t : TypeId) (k : IntKind) (v : Value) (l : List Int) : Prop := w.ownsRow base t 1 v l.length (ivs k l)
section
variable {w w' : World} {base : Nat} {t : TypeId} {k : IntKind} {v : Value} {l : List Int}
theorem OwnI.nil_ (w : World) (base : Nat) (t : TypeId) (k : IntKind) : OwnI w base t k (.slice none 0 0) [] := World.ownsRow_nil w base _ _
theorem OwnI.drew (h : OwnI w base t k v l) : OwnI w.drew base t k v l := h
theorem OwnI.alloc (h : OwnI w base t k v l) (o : Obj) : OwnI (w.alloc o) base t k v l := World.ownsRow.alloc h o
theorem OwnI.below (h : OwnI w base t k v l) (hb : Below w.heap.size w w') : OwnI w' base t k v l := by
  obtain ⟨h1, h2⟩ := h
  refine ⟨h1, ?_⟩
  rcases h2 with h2 | ⟨g, cap, cur, hv, hg, hh, r⟩
  · exact Or.inl h2
  · refine Or.inr ⟨g, cap, cur, hv, hg, ?_, r⟩
    have hlt : g < w.heap.size := by
      rcases Nat.lt_or_ge g w.heap.size with hlt | hge
      · exact hlt
      · rw [Array.getElem?_eq_none hge] at hh; cases hh
    rw [hb.block g hlt]; exact hh
theorem OwnI.shape (h : OwnI w base t k v l) : ∃ A c, v = .slice A l.length c := by
  rcases h.2 with ⟨rfl, h0⟩ | ⟨g, cap, cur, rfl, _⟩
  · exact ⟨none, 0, by rw [h0]⟩
  · exact ⟨_, _, rfl⟩
theorem OwnI.ints {A : Option Addr} {n c : Nat} (h : OwnI w base t k (.slice A n c) l) : IntsA w w.heap.size k A n l := by
  have hcl := fun g hg => World.ownsRow.cells (g := g) h hg
  obtain ⟨h1, h2⟩ := h
  rcases h2 with ⟨e, h0⟩ | ⟨g, cap, cur, e, hg, hh, r⟩
  · cases e
    exact ⟨h0, fun h => by omega⟩
  · cases e
    refine ⟨rfl, fun _ => ⟨g, 0, rfl, ?_, fun j hj => ?_⟩⟩
    · rcases Nat.lt_or_ge g w.heap.size with hlt | hge
      · exact hlt
      · rw [Array.getElem?_eq_none hge] at hh; cases hh
    · have h3 := hcl g rfl j _ (ivs_get hj)
      have e : (⟨g, 0, none⟩ : Addr).add j = ⟨g, 0 + j, none⟩ := by unfold Addr.add; split <;> simp_all
      rw [e] at h3
      rw [h3]
      simp [List.getD, hj]
theorem OwnI.new (w : World) (base : Nat) (t : TypeId) (k : IntKind) (hb : base ≤ w.heap.size) : OwnI (w.alloc (.cells #[] t)) base t k (.slice (some ⟨w.heap.size, 0, none⟩) 0 0) [] :=
  ⟨rfl, Or.inr ⟨w.heap.size, 0, #[], rfl, hb, heap_alloc_new w _, Nat.le_refl _, Nat.zero_le _, rfl, rfl⟩⟩
theorem OwnI.far (h : OwnI w base t k v l) {p : Addr} (hp : some p.block ≠ v.ownBlock) (u : Value) : OwnI (w.setCell p u) base t k v l := by
  obtain ⟨h1, h2⟩ := h
  refine ⟨h1, ?_⟩
  rcases h2 with h2 | ⟨g, cap, cur, rfl, hg, hh, r⟩
  · exact Or.inl h2
  · refine Or.inr ⟨g, cap, cur, rfl, hg, ?_, r⟩
    rw [Below.heap_setCell w p u g (fun e => hp (by rw [← e]; rfl))]
    exact hh
/-- another row of the call's own, of another type, is not touched -/
theorem OwnI.ne {t' : TypeId} {k' : IntKind} {base' : Nat} {v' : Value} {l' : List Int} (h : OwnI w base t k v l) (h' : OwnI w base' t' k' v' l') (ht : t ≠ t') : v.ownBlock = none ∨ v.ownBlock ≠ v'.ownBlock := by
  rcases h.2 with ⟨rfl, _⟩ | ⟨g, cap, cur, rfl, _, hg, _⟩
  · exact Or.inl rfl
  · right
    intro e
    rcases h'.2 with ⟨rfl, _⟩ | ⟨g', cap', cur', rfl, _, hg', _⟩
    · simp [Value.ownBlock] at e
    · obtain rfl : g = g' := by simpa [Value.ownBlock] using e
      rw [hg] at hg'
      cases hg'
      exact ht rfl
theorem OwnI.grown {row : Option Nat} (h : OwnI w base t k v l) (hg : w.grownBy w' row) (hn : v.ownBlock = none ∨ v.ownBlock ≠ row) : OwnI w' base t k v l :=
  World.ownsRow.kept h hg hn
theorem IntsA.grown {B : Nat} {A : Option Addr} {n : Nat} (h : IntsA w B k A n l) (hb : Below B w w') : IntsA w' B k A n l := h.below hb
end

theorem wp_pushI {w : World} {ops : Array Oper} {rest : List Oper} {o : Oper} {a : Act} {Q : Exit → Act → World → Prop} (st t : TypeId) (k : IntKind) (hst : Tryz.prog.underlying st = some (.slice t))
    (hinfo : (Tryz.prog.info? t).map (fun i => (i.zero, i.size, i.bytes)) = some (some (.int k 0), 1, 8)) (hgd : o.guard = none) (s x : Operand)
    (ho : o.op = .call { callee := .builtin .append, args := #[s, x], argTypes := #[st, st] })
    (base : Nat) (v : Value) (l : List Int) (hown : OwnI w base t k v l) (hs : a.eval s = v) (ad : Addr) (c : Nat) (b : Int) (hx : a.eval x = .slice (some ad) 1 c) (hc : w.cell? ad = some (.int k b))
    (hlen : l.length < 4294967296) (hbase : base ≤ w.heap.size)
    (h : ∀ v' w', OwnI w' base t k v' (l ++ [b]) → w.grownBy w' v.ownBlock → Below base w w' → wpList Tryz.prog ops Q rest (a.put o.dst v') w') : wpList Tryz.prog ops Q (o :: rest) a w := by
  obtain ⟨i0, hi, hz0, hz1, hz2⟩ := info_parts hinfo
  refine wpList_append_own _ hgd s x st ho base t i0 (.int k 0) 1 8 hst hi hz0 hz1 hz2 rfl (by decide) v l.length (ivs k l) hs hown ad 1 c [.int k b] hx rfl ?_ ?_ (by unfold maxLen; omega) (by omega) hbase ?_
  · intro j u hj
    have : j = 0 := by
      rcases Nat.eq_zero_or_pos j with e | e
      · exact e
      · rw [List.getElem?_eq_none (by simp; omega)] at hj; cases hj
    subst this
    simp at hj
    subst hj
    simpa [Addr.add] using hc
  · intro u hu
    simp at hu
    subst hu
    rfl
  · intro v' w' h1 h2 _
    refine h v' w' ?_ h2 ((Below.refl _ _).grown h2 hbase (fun k hk => (World.ownsRow.lt hown k hk).1))
    unfold OwnI
    have e : ivs k (l ++ [b]) = ivs k l ++ [.int k b] := by simp [ivs]
    rw [e, List.length_append]
    exact h1
theorem info_int : (Tryz.prog.info? 3).map (fun i => (i.zero, i.size, i.bytes)) = some (some (.int .i64 0), 1, 8) := by kernel_rfl
theorem info_u64 : (Tryz.prog.info? 49).map (fun i => (i.zero, i.size, i.bytes)) = some (some (.int .u64 0), 1, 8) := by kernel_rfl

/-- what the rows' frames tell of a slice of integers that came in (the same words) -/
def RowIn (k : IntKind) (w : World) (a : Option Addr) (len cap : Nat) (zs : List Int) : Prop :=
  (a = none ∧ len = 0 ∧ cap = 0 ∧ zs = []) ∨
  ∃ x, a = some x ∧ len ≤ cap ∧ cap ≤ maxLen ∧ zs.length = cap ∧ (∀ i, i < zs.length → w.cell? (x.add i) = some (.int k (zs.getD i 0))) ∧ ∀ n ∈ zs, (Lit.int k n).wf = true
theorem RowIn.ints {k : IntKind} {w : World} {a : Option Addr} {len cap : Nat} {zs : List Int} (h : RowIn k w a len cap zs) :
    IntsA w w.heap.size k a len (zs.take len) ∧ (∀ x ∈ zs.take len, (Lit.int k x).wf = true) ∧ len ≤ maxLen := by
  rcases h with ⟨rfl, rfl, rfl, rfl⟩ | ⟨x, rfl, h1, h2, h3, h4, h5⟩
  · exact ⟨⟨rfl, fun h => by omega⟩, fun x hx => by simp at hx, by unfold maxLen; omega⟩
  · refine ⟨⟨by simp; omega, fun h0 => ?_⟩, fun x hx => h5 x (List.mem_of_mem_take hx), by omega⟩
    obtain ⟨b, off, sp⟩ := x
    have hb : b < w.heap.size ∧ sp = none := by
      have h6 := h4 0 (by omega)
      unfold Addr.add at h6
      rw [if_pos rfl] at h6
      unfold World.cell? at h6
      split at h6
      · rename_i heq
        refine ⟨(Array.getElem?_eq_some_iff.1 heq).1, ?_⟩
        cases sp with
        | none => rfl
        | some _ => simp at h6
      · cases h6
    obtain ⟨hb, rfl⟩ := hb
    refine ⟨b, off, rfl, hb, fun j hj => ?_⟩
    have h6 := h4 j (by omega)
    have e : (⟨b, off, none⟩ : Addr).add j = ⟨b, off + j, none⟩ := by unfold Addr.add; split <;> simp_all
    rw [e] at h6
    rw [h6]
    have h7 : j < zs.length := by omega
    simp [List.getD, h7, hj]
end Go.Proofs.YtmhmdoobadckkaaGreatDoor
/- slices.Sorted(maps.Keys(m)) at maps with keys of type int: after the kit's contracts. -/
namespace Go.Proofs.YtmhmdoobadckkaaGreatDoor
set_option maxRecDepth 20000
open Go.RowKit Go.OpenShut

/-- the keys of a map, sorted -/
def keysUp' {β : Type} (l : List (Int × β)) : List Int := (l.map (·.1)).mergeSort (fun a b => decide (a ≤ b))
theorem sortsI (m : Nat) : AnyZI.SortsIn Tryz.prog Tryz.sortedI_ren Fence.wide m :=
  ⟨fun blk off cap ss W hH hblk hsz => callsIn_wide.2 (AnyM.slices_Sort_int Tryz.sortI blk off cap ss W hH hblk hsz),
   fun p cap W => callsIn_wide.2 (AnyM.slices_Sort_int_none Tryz.sortI p cap W)⟩
/-- the sorted keys as an own slice -/
def SortedKeys (w : World) (ks : List Int) (e : Ending) (w' : World) : Prop := ∃ v, e = .returned v ∧ OwnI w' w.heap.size 3 .i64 v ks ∧ Below w.heap.size w w'
section
variable (w : World) (b : Nat) (l : List (Int × Value)) (h : MapB w b l) (hr : ∀ x ∈ l, -9223372036854775808 ≤ x.1 ∧ x.1 ≤ 9223372036854775807) (hn : l.length ≤ 1073741824)
include h hr hn
theorem sortedW : ∀ Bm, Bm < w.heap.size → w.cell? ⟨Bm, 0, none⟩ = some (.map (some b)) → Calls Tryz.prog 73 #[.func (.func 293) #[] #[.pointer (some ⟨Bm, 0, none⟩)]] w (SortedKeys w (keysUp' l)) := by
  intro Bm hBm hm
  obtain ⟨D, hown, hperm, hsz⟩ := h.own (P := Tryz.prog) Tryz.underlying3 hr (by unfold maxLen; omega)
  have hseq : SeqGives Fence.wide 2 Tryz.prog 293 #[.pointer (some ⟨Bm, 0, none⟩)] encZ (fun ss => ss.Perm (intKeys D)) (Maps.size D) w :=
    AnyZI.keys_gives (ρ := Tryz.keysW_ren) { Tryz.keysW with } Fence.wide _ trivial rfl (by omega) Bm b l.length D _ hBm hm hown
  have cS := AnyZI.sorted_in Tryz.sortedI Fence.wide 5 trivial trivial trivial trivial rfl (by omega) (sortsI _) (enters_of Tryz.func167 (by kernel_rfl) rfl) 293 #[.pointer (some ⟨Bm, 0, none⟩)] trivial (enters_of Tryz.func293 (by kernel_rfl) rfl) _ _ (by rw [hsz]; unfold maxLen; omega) (by rw [hsz]; omega) _ hseq
  change CallsIn _ _ Tryz.prog 73 _ _ _ at cS
  refine (callsIn_wide.1 cS).mono ?_
  rintro e w' ⟨v, ss, rfl, hS, hrow, _, hb⟩
  refine ⟨v, rfl, ?_, hb⟩
  have hms := mergeSort_of_perm_i (hS.trans hperm)
  have hlen : ss.length = (keysUp' l).length := by
    unfold keysUp'
    rw [(List.mergeSort_perm _ _).length_eq, (hS.trans hperm).length_eq]
  unfold OwnI
  rw [← hlen]
  unfold keysUp' ivs
  rw [← hms]
  exact hrow
theorem sortedM : ∀ Bm, Bm < w.heap.size → w.cell? ⟨Bm, 0, none⟩ = some (.map (some b)) → Calls Tryz.prog 73 #[.func (.func 168) #[] #[.pointer (some ⟨Bm, 0, none⟩)]] w (SortedKeys w (keysUp' l)) := by
  intro Bm hBm hm
  obtain ⟨D, hown, hperm, hsz⟩ := h.own (P := Tryz.prog) Tryz.underlying3 hr (by unfold maxLen; omega)
  have hseq : SeqGives Fence.wide 2 Tryz.prog 168 #[.pointer (some ⟨Bm, 0, none⟩)] encZ (fun ss => ss.Perm (intKeys D)) (Maps.size D) w :=
    AnyZI.keys_gives (ρ := Tryz.keysM_ren) { Tryz.keysM with } Fence.wide _ trivial rfl (by omega) Bm b l.length D _ hBm hm hown
  have cS := AnyZI.sorted_in Tryz.sortedI Fence.wide 5 trivial trivial trivial trivial rfl (by omega) (sortsI _) (enters_of Tryz.func167 (by kernel_rfl) rfl) 168 #[.pointer (some ⟨Bm, 0, none⟩)] trivial (enters_of Tryz.func168 (by kernel_rfl) rfl) _ _ (by rw [hsz]; unfold maxLen; omega) (by rw [hsz]; omega) _ hseq
  change CallsIn _ _ Tryz.prog 73 _ _ _ at cS
  refine (callsIn_wide.1 cS).mono ?_
  rintro e w' ⟨v, ss, rfl, hS, hrow, _, hb⟩
  refine ⟨v, rfl, ?_, hb⟩
  have hms := mergeSort_of_perm_i (hS.trans hperm)
  have hlen : ss.length = (keysUp' l).length := by
    unfold keysUp'
    rw [(List.mergeSort_perm _ _).length_eq, (hS.trans hperm).length_eq]
  unfold OwnI
  rw [← hlen]
  unfold keysUp' ivs
  rw [← hms]
  exact hrow
end
theorem keysW_any (mb : Option Nat) (w : World) : Calls Tryz.prog 215 #[.map mb] w fun e w' => e = .returned (.func (.func 293) #[] #[.pointer (some ⟨w.heap.size, 0, none⟩)]) ∧ w' = w.alloc (.cells #[.map mb] 111) :=
  callsIn_wide.1 (AnyZI.keys_in Tryz.keysW Fence.wide 5 trivial rfl mb w)
theorem keysM_any (mb : Option Nat) (w : World) : Calls Tryz.prog 74 #[.map mb] w fun e w' => e = .returned (.func (.func 168) #[] #[.pointer (some ⟨w.heap.size, 0, none⟩)]) ∧ w' = w.alloc (.cells #[.map mb] 131) :=
  callsIn_wide.1 (AnyZI.keys_in Tryz.keysM Fence.wide 5 trivial rfl mb w)
end Go.Proofs.YtmhmdoobadckkaaGreatDoor
/- What a drive's sectors are behind each step: plain laws. -/
namespace Go.Proofs.YtmhmdoobadckkaaGreatDoor
set_option maxRecDepth 20000

theorem Drv.cur_wrOK {D : Drv} (i j : Int) (s : Sec) : (D.wrOK i s).cur j = if j = i then s else D.cur j := by
  have e : (D.wrOK i s).pend j = if j = i then D.pend i ++ [s] else D.pend j := by
    show (mfind (mset D.writes i (D.pend i ++ [s])) j).getD [] = _
    rw [mfind_mset]
    split <;> rfl
  unfold Drv.cur
  rw [e]
  by_cases h : j = i
  · rw [if_pos h, if_pos h]
    simp
  · rw [if_neg h, if_neg h]
    rfl
theorem keysUp_perm (l : List (Int × List Sec)) : (keysUp l).Perm (l.map (·.1)) := List.mergeSort_perm _ _
theorem keysUp_nodup {l : List (Int × List Sec)} (h : (l.map (·.1)).Nodup) : (keysUp l).Nodup := (keysUp_perm l).nodup_iff.2 h
theorem mem_keysUp {l : List (Int × List Sec)} {i : Int} : i ∈ keysUp l ↔ i ∈ l.map (·.1) := (keysUp_perm l).mem_iff
/-- what settling makes of a sector, where all writes are kept -/
theorem settleF_all (ws : List (Int × List Sec)) (hp : ∀ x ∈ ws, x.2 ≠ []) (hk : ∀ x ∈ ws, 0 ≤ x.1) : ∀ (l : List Int) (k : Nat) (sf : List Sec), l.Nodup → (∀ i ∈ l, 0 ≤ i ∧ i.toNat < sf.length ∧ i ∈ ws.map (·.1)) → ∀ j : Int, 0 ≤ j →
    (settleF (fun _ m => m) ws k l sf).getD j.toNat ⟨#[]⟩ = if j ∈ l then (((mfind ws j).getD []).getLast?).getD ⟨#[]⟩ else sf.getD j.toNat ⟨#[]⟩
  | [], _, _, _, _, _, _ => by simp [settleF]
  | i :: r, k, sf, hn, h, j, hj => by
    obtain ⟨h1, h2, h3⟩ := h i (by simp)
    obtain ⟨l, hl, hne⟩ : ∃ l, mfind ws i = some l ∧ l ≠ [] := by
      cases e : mfind ws i with
      | none =>
        obtain ⟨x, hx, rfl⟩ := List.mem_map.1 h3
        exfalso
        have : ∀ (ws : List (Int × List Sec)), x ∈ ws → mfind ws x.1 ≠ none := by
          intro ws
          induction ws with
          | nil => intro h; cases h
          | cons y ws ih =>
            intro h
            obtain ⟨a, b⟩ := y
            by_cases e2 : x.1 = a
            · simp [mfind, e2]
            · rcases List.mem_cons.1 h with rfl | h
              · exact absurd rfl e2
              · simpa [mfind, e2] using ih h
        exact this ws hx e
      | some l => exact ⟨l, rfl, hp _ (mfind_mem e)⟩
    have hlen : 0 < l.length := List.length_pos_iff.2 hne
    unfold settleF
    simp only [hl, Option.getD_some]
    rw [if_neg (by omega)]
    obtain ⟨n1, n2⟩ := List.nodup_cons.1 hn
    rw [settleF_all ws hp hk r (k + 1) _ n2 (fun x hx => by rw [List.length_set]; exact h x (by simp [hx])) j hj]
    by_cases e : j = i
    · subst e
      rw [if_neg n1, if_pos (by simp), hl]
      simp only [Option.getD_some]
      rw [List.getLast?_eq_getElem?]
      have h4 : l.length - 1 < l.length := by omega
      simp [List.getD, h2, h4]
    · have h5 : i.toNat ≠ j.toNat := by omega
      by_cases e2 : j ∈ r
      · rw [if_pos e2, if_pos (by simp [e2])]
      · rw [if_neg e2, if_neg (by simp [e, e2])]
        simp [List.getD, h5]
theorem Drv.cur_flOK {D : Drv} (h : D.wf) {j : Int} (h0 : 0 ≤ j) : D.flOK.cur j = D.cur j := by
  have e : D.flOK.cur j = (settleF (fun _ m => m) D.writes 0 (keysUp D.writes) D.safe).getD j.toNat ⟨#[]⟩ := rfl
  rw [e, settleF_all D.writes (fun x hx => (h.pend x hx).1) (fun x hx => (h.keys x hx).1) _ _ _ (keysUp_nodup h.nodup) (fun i hi => by
    have h2 := mem_keysUp.1 hi
    obtain ⟨x, hx, rfl⟩ := List.mem_map.1 h2
    have := h.keys x hx
    exact ⟨this.1, by omega, h2⟩) j h0]
  unfold Drv.cur Drv.pend
  by_cases hk : j ∈ keysUp D.writes
  · rw [if_pos hk]
    obtain ⟨x, hx, hxj⟩ := List.mem_map.1 (mem_keysUp.1 hk)
    have hf : mfind D.writes j = some x.2 := mfind_some h.nodup (by rw [← hxj]; exact hx)
    rw [hf]
    simp only [Option.getD_some]
    cases e2 : x.2.getLast? with
    | none => exact absurd (List.getLast?_eq_none_iff.1 e2) (h.pend x hx).1
    | some y => rfl
  · rw [if_neg hk, mfind_none (fun h => hk (mem_keysUp.2 h))]
    rfl
theorem Drv.flOK_n {D : Drv} (h : D.wf) : D.flOK.n = D.n := (Drv.settle_wf h (fun _ m => m) (fun _ m => Nat.le_refl m)).2
/-- a drive that is not dead, and whose power is not limited -/
def Drv.up (D : Drv) : Prop := D.wf ∧ D.dead = false ∧ D.lim = none
theorem Drv.up.off {D : Drv} (h : D.up) : D.off = false := by unfold Drv.off; rw [h.2.2]
theorem Drv.up.may {D : Drv} (h : D.up) {i : Int} (h0 : 0 ≤ i) (h1 : i < D.n) : D.may i = 0 := by
  unfold Drv.may
  rw [h.off, h.2.1]
  simp
  omega
theorem Drv.up.wrE {D : Drv} (h : D.up) {i : Int} {s : Sec} (h0 : 0 ≤ i) (h1 : i < D.n) (hs : s.size = 64) : D.wrE i s = 0 := by
  unfold Drv.wrE
  rw [h.may h0 h1]
  simp [hs]
theorem Drv.up.wr {D : Drv} (h : D.up) {i : Int} {s : Sec} (h0 : 0 ≤ i) (h1 : i < D.n) (hs : s.size = 64) : D.wr i s = D.wrOK i s := by
  unfold Drv.wr
  rw [if_pos (h.wrE h0 h1 hs)]
theorem Drv.up.flE {D : Drv} (h : D.up) : D.flE = 0 := by
  unfold Drv.flE
  rw [h.off, h.2.1]
  rfl
theorem Drv.up.fl {D : Drv} (h : D.up) : D.fl = D.flOK := by
  unfold Drv.fl
  rw [if_pos h.flE]
theorem Drv.up.wrOK {D : Drv} (h : D.up) {i : Int} {s : Sec} (h0 : 0 ≤ i) (h1 : i < D.n) (hs : s.size = 64) : (D.wrOK i s).up ∧ (D.wrOK i s).n = D.n :=
  ⟨⟨Drv.wrOK_wf h.1 h0 h1 hs, h.2.1, by show D.lim.map _ = none; rw [h.2.2]; rfl⟩, rfl⟩
theorem Drv.up.flOK {D : Drv} (h : D.up) : D.flOK.up ∧ D.flOK.n = D.n :=
  ⟨⟨Drv.flOK_wf h.1, h.2.1, by show D.lim.map _ = none; rw [h.2.2]; rfl⟩, Drv.flOK_n h.1⟩
theorem Drv.new_up (n : Nat) (h : n ≤ 4096) : (Drv.new n).up ∧ (Drv.new n).n = n := ⟨⟨Drv.new_wf n h, rfl, rfl⟩, by simp [Drv.n, Drv.new]⟩
theorem Drv.new_cur (n : Nat) {j : Int} (h0 : 0 ≤ j) (h1 : j < n) : (Drv.new n).cur j = sec0 := by
  have : j.toNat < n := by omega
  show (List.replicate n sec0).getD j.toNat ⟨#[]⟩ = sec0
  simp [List.getD, this]
theorem Drv.up.readE {D : Drv} (h : D.up) {i : Int} (h0 : 0 ≤ i) (h1 : i < D.n) : D.readE i = if i ∈ D.spoilt then 41 else 0 := by
  unfold Drv.readE
  rw [h.may h0 h1]
  simp
end Go.Proofs.YtmhmdoobadckkaaGreatDoor
/- settle, Flush, Crash. -/
namespace Go.Proofs.YtmhmdoobadckkaaGreatDoor
set_option maxRecDepth 20000
open Go.RowKit Go.OpenShut

theorem OwnI.base_ {w : World} {base base' : Nat} {t : TypeId} {k : IntKind} {v : Value} {l : List Int} (h : OwnI w base t k v l) (hb : base' ≤ base) : OwnI w base' t k v l := by
  obtain ⟨h1, h2⟩ := h
  rcases h2 with h2 | ⟨g, cap, cur, hv, hg, r⟩
  · exact ⟨h1, Or.inl h2⟩
  · exact ⟨h1, Or.inr ⟨g, cap, cur, hv, Nat.le_trans hb hg, r⟩⟩
/-- a drive with other safe sectors -/
def Drv.ws (D : Drv) (sf : List Sec) : Drv := { D with safe := sf }
theorem Drv.ws_wf {D : Drv} (h : D.wf) {sf : List Sec} (hl : sf.length = D.safe.length) (hs : ∀ x ∈ sf, x.size = 64) : (D.ws sf).wf :=
  ⟨by show sf.length ≤ _; rw [hl]; exact h.le, hs, fun x hx => by show _ ∧ _ < ((sf.length : Nat) : Int); rw [hl]; exact h.keys x hx, h.pend, h.nodup, h.spN, fun x hx => by show _ ∧ _ < ((sf.length : Nat) : Int); rw [hl]; exact h.spK x hx, h.lim⟩
def stepF (many : Nat → Nat → Nat) (ws : List (Int × List Sec)) (k : Nat) (i : Int) (sf : List Sec) : List Sec :=
  let l := (mfind ws i).getD []
  if many k l.length = 0 then sf else sf.set i.toNat (l.getD (many k l.length - 1) ⟨#[]⟩)
theorem settleF_snoc (many : Nat → Nat → Nat) (ws : List (Int × List Sec)) : ∀ (l : List Int) (k : Nat) (i : Int) (sf : List Sec), settleF many ws k (l ++ [i]) sf = stepF many ws (k + l.length) i (settleF many ws k l sf)
  | [], _, _, _ => rfl
  | x :: l, k, i, sf => by
    show settleF many ws (k + 1) (l ++ [i]) _ = _
    rw [settleF_snoc many ws l (k + 1) i]
    have e : k + 1 + l.length = k + (x :: l).length := by simp; omega
    rw [e]
    rfl
theorem PendAt.range {w : World} {v : Value} {b : Nat} {l : List Sec} (h : PendAt w v b l) (hs : ∀ x ∈ l, x.size = 64) (k : Nat) (hk : k < l.length) : w.rangeAt b (k * 64) (bcs (l[k]).data.toList) := by
  obtain ⟨cap, cur, rfl, hh, _, _, _, ht⟩ := h.row
  intro j v hv
  have hj : j < 64 := by
    have h1 : j < (bcs (l[k]).data.toList).length := (List.getElem?_eq_some_iff.1 hv).1
    rw [bcs_len, sec_len, hs _ (List.getElem_mem hk)] at h1
    exact h1
  rw [cell_of_row w b _ cur _ _ hh]
  have e1 := scs_get l hs k j hk hj
  have e2 : (cur.toList.take (l.length * 64))[k * 64 + j]? = cur[k * 64 + j]? := by
    rw [List.getElem?_take_of_lt (by omega)]
    simp
  rw [← e2, ht, e1]
  exact hv
theorem DrvMem.below {w w' : World} {g : Nat} {D : Drv} {s m p : Nat} {wl : List (Int × Value)} {bl : List Nat} {lv : Int} (h : DrvMem w g D s m p wl bl lv) (hb : Below w.heap.size w w') : DrvMem w' g D s m p wl bl lv := h.old (fun b hb' => hb.block b (h.lt b hb'))
theorem keysUp_eq (l : List (Int × List Sec)) (wl : List (Int × Value)) (h : wl.map (·.1) = l.map (·.1)) : keysUp' wl = keysUp l := by
  unfold keysUp' keysUp
  rw [h]
theorem Drv.ws_pend (D : Drv) (sf : List Sec) (i : Int) : (D.ws sf).pend i = D.pend i := rfl
theorem nodup_len : ∀ (n : Nat) (l : List Nat), l.Nodup → (∀ x ∈ l, x < n) → l.length ≤ n
  | 0, [], _, _ => Nat.le_refl _
  | 0, x :: _, _, h => by have := h x (by simp); omega
  | n + 1, l, hn, h => by
    have h1 := nodup_len n (l.erase n) (hn.erase _) (fun x hx => by
      have h2 := h x (List.mem_of_mem_erase hx)
      have h3 := (List.Nodup.mem_erase_iff hn).1 hx
      omega)
    rw [List.length_erase] at h1
    split at h1 <;> omega
theorem Drv.writes_len {D : Drv} (h : D.wf) : D.writes.length ≤ 4096 := by
  have h2 : ((D.writes.map (·.1)).map Int.toNat).Nodup := by
    refine List.pairwise_map.2 (h.nodup.imp_of_mem (fun {a b} ha hb hne e => hne ?_))
    obtain ⟨x, hx, rfl⟩ := List.mem_map.1 ha
    obtain ⟨y, hy, rfl⟩ := List.mem_map.1 hb
    have := h.keys x hx
    have := h.keys y hy
    omega
  have h3 := nodup_len 4096 _ h2 (fun x hx => by
    obtain ⟨a, ha, rfl⟩ := List.mem_map.1 hx
    obtain ⟨y, hy, rfl⟩ := List.mem_map.1 ha
    have := h.keys y hy
    have := h.le
    omega)
  simpa using h3
set_option maxHeartbeats 2000000 in
theorem settle_any (w : World) (g : Nat) (D : Drv) (fp : List Nat) (h : DrvAt w g D fp) (F : Nat) (lb : Array Value) (hF : ∀ args w, (callFunc F args).run Tryz.prog w = .ok (.enter F args) w) (many : Nat → Nat → Nat) (hm : ∀ k m, many k m ≤ m)
    (hmany : ∀ W, Chg (· ∈ fp) w W → ∀ k m : Nat, k ≤ 4096 → 0 < m → m ≤ 65536 → Calls Tryz.prog F (#[.int .i64 k, .int .i64 m] ++ lb) W fun e w' => e = .returned (.int .i64 (many k m)) ∧ Below W.heap.size W w')
    (hlen : ∀ x ∈ D.writes, x.2.length ≤ 65536) :
    Calls Tryz.prog 126 #[.pointer (some ⟨g, 0, none⟩), .func (.func F) #[] lb] w fun e w' => e = .returned (.tuple #[]) ∧ DidAt w g (D.settle many) fp w' := by
  obtain ⟨s, m, p, wl, bl, lv, hfp, hd⟩ := h
  have hq := hd.head.cell 1
  have hkeys := hd.pends.keys
  have hnw : wl.length ≤ 4096 := by
    have h1 := congrArg List.length hkeys
    simp only [List.length_map] at h1
    have := Drv.writes_len hd.wf
    omega
  have hr : ∀ x ∈ wl, -9223372036854775808 ≤ x.1 ∧ x.1 ≤ 9223372036854775807 := fun x hx => by
    have h1 : x.1 ∈ D.writes.map (·.1) := hkeys ▸ List.mem_map.2 ⟨x, hx, rfl⟩
    obtain ⟨y, hy, e⟩ := List.mem_map.1 h1
    have := hd.wf.keys y hy
    have := hd.wf.le
    omega
  have hw1 := Below.alloc (Below.refl w.heap.size w) (Nat.le_refl _) (.cells #[.map (some m)] 111)
  have HS := Lib.hid (sortedW (w.alloc (.cells #[.map (some m)] 111)) m wl (hd.map.alloc _) hr (by omega) w.heap.size (by simp) ((Blk.new w 111 #[.map (some m)]).cell 0))
  rw [keysUp_eq _ _ hkeys] at HS
  have HW1 := Lib.hid hw1
  have HK := Lib.hid hkeys
  have HFP := Lib.hid hfp
  have HD := Lib.hid hd
  clear hkeys hfp hd hw1 hr
  go_enter Tryz.func126, Tryz.ntmps126
  go_wp2_with (first
    | (go_at_call 215; refine (keysW_any _ _).mono ?_; rintro e w' ⟨rfl, rfl⟩)
    | (go_at_call 73; refine HS.out.mono ?_; rintro e w1 ⟨v, rfl, hown, hb⟩; obtain ⟨A, c, rfl⟩ := hown.shape))
  have hlen' : ∀ i ∈ keysUp D.writes, ∃ l, mfind D.writes i = some l ∧ 0 < l.length ∧ l.length ≤ 65536 ∧ 0 ≤ i ∧ i < D.safe.length := fun i hi => by
    obtain ⟨x, hx, rfl⟩ := List.mem_map.1 (mem_keysUp.1 hi)
    have h1 := HD.out.wf.keys x hx
    exact ⟨x.2, mfind_some HD.out.wf.nodup hx, List.length_pos_iff.2 (HD.out.wf.pend x hx).1, hlen x hx, h1⟩
  have HL := Lib.hid hlen'
  have HSF := Lib.hid (fun l => settleF_spec many D.writes (fun x hx => (HD.out.wf.pend x hx).2) hm l 0 D.safe HD.out.wf.safe)
  have hc1 : Chg (· ∈ fp) w w1 := ((Chg.refl (· ∈ fp) w).alloc (.cells #[.map (some m)] 111)).then hb
  have hbw : Below w.heap.size w w1 := HW1.out.trans (hb.mono (by simp))
  have hd1 : DrvMem w1 g (D.ws (settleF many D.writes 0 ((keysUp D.writes).take 0) D.safe)) s m p wl bl lv := HD.out.old (fun b hb' => hbw.block b (HD.out.lt b hb'))
  have hown1 : OwnI w1 w.heap.size 3 .i64 (.slice A (keysUp D.writes).length c) (keysUp D.writes) := hown.base_ (by simp)
  have HMANY := Lib.hid hmany
  have hks : (keysUp D.writes).length ≤ 4096 := by
    have h1 : (keysUp D.writes).length = (D.writes.map (·.1)).length := (keysUp_perm _).length_eq
    rw [List.length_map] at h1
    have := Drv.writes_len HD.out.wf
    omega
  clear hlen' hlen hmany hown hb hbw hq hnw
  generalize hN : (keysUp D.writes).length = n at *
  have HN := Lib.hid hN
  clear hN
  go_loopw [15] (fun i wr => ∃ j : Nat, j ≤ n ∧ i = .int .i64 j ∧ DrvMem wr g (D.ws (settleF many D.writes 0 ((keysUp D.writes).take j) D.safe)) s m p wl bl lv ∧ Chg (· ∈ fp) w wr ∧ OwnI wr w.heap.size 3 .i64 (.slice A n c) (keysUp D.writes)) (fun i _ => n - (intOf i).toNat)
  case atStart => exact ⟨0, by omega, rfl, hd1, hc1, hown1⟩
  case round =>
    obtain ⟨j, hj, rfl, hdr, hcr, hor⟩ := hrel
    by_cases hlt : j < n
    · obtain ⟨_, hii⟩ := hor.ints
      obtain ⟨bk, ok, rfl, hbk, hck⟩ := hii (by omega)
      have hcj := hck j hlt
      have hmem : (keysUp D.writes).getD j 0 ∈ keysUp D.writes := by
        have : j < (keysUp D.writes).length := by rw [HN.out]; exact hlt
        simp [List.getD, this]
      have HSN := Lib.hid (show (keysUp D.writes).take (j + 1) = (keysUp D.writes).take j ++ [(keysUp D.writes).getD j 0] from take_snocI _ j (by rw [HN.out]; exact hlt))
      obtain ⟨l, hl, hl0, hl1, hi0, hi1⟩ := HL.out _ hmem
      have HST := Lib.hid (settleF_snoc many D.writes ((keysUp D.writes).take j) 0 ((keysUp D.writes).getD j 0) D.safe)
      have HTL := Lib.hid (show ((keysUp D.writes).take j).length = j by rw [List.length_take, HN.out]; omega)
      have hsf := HSF.out ((keysUp D.writes).take j)
      generalize settleF many D.writes 0 ((keysUp D.writes).take j) D.safe = sf at *
      generalize (keysUp D.writes).getD j 0 = i at *
      obtain ⟨v, hlk, how, hbl, hpe, _⟩ := hdr.look i
      have hpd : (D.ws sf).pend i = l := by unfold Drv.pend; show (mfind D.writes i).getD [] = l; rw [hl]; rfl
      rw [hpd] at how hpe
      obtain ⟨b, hpb⟩ := hpe (List.length_pos_iff.1 hl0)
      have HPB := Lib.hid hpb
      have HBL := Lib.hid (hbl b hpb.2)
      clear hbl
      obtain ⟨cap, cur, rfl, hh, _, _, _, ht⟩ := hpb.row
      have hqr := hdr.head.cell 1
      have HM := Lib.hid (HMANY.out wr hcr j l.length (by omega) hl0 hl1)
      have HDR := Lib.hid hdr
      have HOR := Lib.hid hor
      have HCR := Lib.hid hcr
      have HHL := Lib.hid hl
      have HSFL := Lib.hid hsf
      clear hdr hor hcr hl how hpe hmem hck hii hsf hpd ht hh
      go_wp2_with fail
      refine HM.out.mono ?_
      rintro e w2 ⟨rfl, hb2⟩
      have hd2 := HDR.out.below hb2
      have ho2 := HOR.out.below hb2
      have hc2 := HCR.out.then hb2
      have hp2 := HPB.out.old (hb2.block b HPB.out.lt)
      have HB2 := Lib.hid hb2
      have hmq := hm j l.length
      obtain ⟨q, hq⟩ : ∃ q, many j l.length = q := ⟨_, rfl⟩
      rw [hq] at hmq ⊢
      have HQ := Lib.hid hq
      clear hb2 hq hqr
      cases q with
      | zero =>
        have HD2 := Lib.hid hd2
        have HO2 := Lib.hid ho2
        have HC2 := Lib.hid hc2
        clear hd2 ho2 hc2 hp2 hlk
        go_wp2_with fail
        go_roundw
        case rel =>
          refine ⟨j + 1, by omega, by go_num, ?_, HC2.out, HO2.out⟩
          rw [HSN.out, HST.out, HTL.out, Nat.zero_add]
          have e : stepF many D.writes j i sf = sf := by
            unfold stepF
            rw [HHL.out]
            simp only [Option.getD_some]
            rw [HQ.out, if_pos rfl]
          rw [e]
          exact HD2.out
        case measure => simp [intOf]; omega
      | succ q =>
        have hql : q < l.length := by omega
        obtain ⟨k, rfl⟩ := Int.eq_ofNat_of_zero_le hi0
        have hsl : sf.length = D.safe.length := HSFL.out.1
        have hks' : k < sf.length := by omega
        have hrg := hp2.range (fun x hx => (HDR.out.wf.pend _ (mfind_mem HHL.out)).2 x hx) q hql
        have hxs : (l[q]).size = 64 := (HDR.out.wf.pend _ (mfind_mem HHL.out)).2 _ (List.getElem_mem hql)
        have HX := Lib.hid (show l.getD (q + 1 - 1) ⟨#[]⟩ = l[q] by simp [List.getD, hql])
        have hsz : (l[q]).data.toList.length = 64 := by rw [sec_len]; exact hxs
        obtain ⟨x, hx⟩ : ∃ x, l[q] = x := ⟨_, rfl⟩
        rw [hx] at hrg hxs HX hsz
        have hnod := HDR.out.nodup
        simp only [List.nodup_cons, List.mem_cons, not_or] at hnod
        obtain ⟨⟨gs, gm', gp, gb⟩, ⟨sm, sp, sb⟩, ⟨mp, mb⟩, pb, bn⟩ := hnod
        have hbs : b ≠ s := fun e => sb (e ▸ HBL.out)
        have hql' : (q : Int) < (l.length : Int) := by omega
        have hki : (k : Int) < (((D.ws sf).safe.length : Nat) : Int) := by show (k : Int) < ((sf.length : Nat) : Int); omega
        have hh2 := hd2.head
        have hs2 : Blk w2 s 183 (scs sf).toArray := hd2.secs
        have HS2 := Lib.hid hs2
        have HRG := Lib.hid hrg
        have HXS := Lib.hid hxs
        have HSZ := Lib.hid hsz
        have HCL := Lib.hid (fun (Y : World) (hY : ∀ b', b' < w2.heap.size → b' ≠ s → Y.heap[b']? = w2.heap[b']?) =>
          And.intro ((cell_same (p := ⟨g, 0, none⟩) (hY g hh2.lt gs)).trans (hh2.cell 0)) (show Y.rangeAt b (q * 64) (bcs x.data.toList) from fun jj v hv => (cell_same (p := ⟨b, q * 64 + jj, none⟩) (hY b hp2.lt hbs)).trans (hrg jj v hv)))
        have HD2 := Lib.hid hd2
        have HO2 := Lib.hid ho2
        have HC2 := Lib.hid hc2
        have HP2 := Lib.hid hp2
        clear hd2 ho2 hc2 hp2 hlk hs2 hrg hxs hsz hh2 hx HPB HDR HOR HCR
        go_wp2_with fail
        refine wp_region_nf (fun Y => ∀ b', b' < w2.heap.size → b' ≠ s → Y.heap[b']? = w2.heap[b']?) (fun _ => false) [(0, true), (1, true), (2, true), (3, true), (4, true), (5, true), (6, true), (7, true), (8, true), (9, true), (10, true), (11, false)] (by kernel_rfl) rfl (by kernel_rfl) (by kernel_rfl) (fun d _ _ _ _ h => by cases d <;> exact h) ?_
        repeat (refine nf_pure rfl (fun _ _ _ => rfl) (fun Y hY => by obtain ⟨g1, _⟩ := HCL.out Y hY; clear hY; go_wp2; exact ⟨rfl, rfl, rfl⟩) rfl ?_ ?_; rfl)
        refine nf_pure rfl (fun _ _ _ => rfl) (fun Y hY => by obtain ⟨_, g2⟩ := HCL.out Y hY; clear hY; refine wpList_load_mid rfl 183 (.tmp 41) rfl b (q * 64) rfl (bcs x.data.toList) _ g2 Tryz.underlying183 rfl (by rw [bcs_len, HSZ.out]; exact size_sec) ?_; go_wp2; exact ⟨rfl, rfl, rfl⟩) rfl ?_ ?_; rfl
        refine nf_pure rfl (fun _ _ _ => rfl) (fun Y hY => by clear hY; go_wp2; exact ⟨rfl, rfl, rfl⟩) rfl ?_ ?_; rfl
        refine nf_imp rfl ?_
        refine wp_storeSec rfl (.tmp 43) (.tmp 42) rfl s sf HS2.out.drew (HSFL.out.2) k hks' x HXS.out rfl rfl ?_
        intro W3 hs3 hg3
        have HG3 := Lib.hid (show ∀ b', b' < w2.heap.size → b' ≠ s → W3.heap[b']? = w2.heap[b']? from fun b' h1 h2 => hg3.block b' h1 (fun e => h2 (by cases e; rfl)))
        have HC3 := Lib.hid (show Chg (· ∈ fp) w W3 from HC2.out.trans (G := (· ∈ fp)) ⟨hg3.os, hg3.tape, hg3.output, hg3.size, fun b' h1 h2 => hg3.block b' h1 (fun e => h2 (by cases e; rw [HFP.out]; simp))⟩ (fun _ _ h => h))
        have HO3 := Lib.hid (show OwnI W3 w.heap.size 3 .i64 (.slice (some ⟨bk, ok, none⟩) n c) (keysUp D.writes) from OwnI.grown HO2.out.drew hg3 (Or.inr (fun e => by
          have h1 : bk = s := by simpa [Value.ownBlock] using e
          have h2 := (World.ownsRow.lt HO2.out bk rfl).1
          have h3 := HD.out.lt s (by simp)
          omega)))
        have HD3 := Lib.hid (show DrvMem W3 g (D.ws (sf.set k x)) s m p wl bl lv from by
          have hd2 := HD2.out
          have hne : ∀ c ∈ bl, c ≠ s := fun c hc e => sb (e ▸ hc)
          have e1 : (D.ws (sf.set k x)).safe.length = (D.ws sf).safe.length := by show (sf.set k x).length = sf.length; rw [List.length_set]
          refine ⟨?_, hd2.left, hs3, hd2.map.old (HG3.out m hd2.map.lt (Ne.symm sm)), hd2.pends.old (fun c hc => HG3.out c (hd2.pends.lt c hc) (hne c hc)), hd2.spoilt.old (HG3.out p hd2.spoilt.lt (Ne.symm sp)), hd2.nodup, ?_⟩
          · rw [e1]
            exact (HG3.out g hd2.head.lt gs).trans hd2.head
          · refine Drv.ws_wf HD.out.wf (by rw [List.length_set]; exact hsl) (fun y hy => ?_)
            rcases mem_setS hy with rfl | hy
            · exact HXS.out
            · exact HSFL.out.2 y hy)
        clear hs3 hg3
        go_wp2_with fail
        refine ⟨fun _ => HG3.out, ?_⟩
        refine nf_nil ?_
        go_wp2_with fail
        go_roundw
        case rel =>
          refine ⟨j + 1, by omega, by go_num, ?_, HC3.out, HO3.out⟩
          rw [HSN.out, HST.out, HTL.out, Nat.zero_add]
          have e : stepF many D.writes j k sf = sf.set k x := by
            unfold stepF
            rw [HHL.out]
            simp only [Option.getD_some]
            rw [HQ.out, if_neg (by omega), HX.out, Int.toNat_natCast]
          rw [e]
          exact HD3.out
        case measure => simp [intOf]; omega
    · obtain rfl : j = n := by omega
      have htk : (keysUp D.writes).take j = keysUp D.writes := List.take_of_length_le (by rw [HN.out]; omega)
      rw [htk] at hdr
      have hq1 := hdr.head.cell 1
      have hmp := hdr.map
      have HDR := Lib.hid hdr
      have HCR := Lib.hid hcr
      clear hdr hcr hor htk
      go_wp2_with (refine wp_clearI rfl (.tmp 48) 111 rfl _ _ Tryz.underlying111 m wl rfl hmp ?_; intro W3 hm3 hg3)
      go_end0
      refine ⟨rfl, ?_⟩
      have hd := HDR.out
      have hnod := hd.nodup
      simp only [List.nodup_cons, List.mem_cons, not_or] at hnod
      obtain ⟨⟨gs, gm', gp, gb⟩, ⟨sm, sp, sb⟩, ⟨mp, mb⟩, pb, bn⟩ := hnod
      have hk : ∀ b', b' < wr.heap.size → b' ≠ m → W3.heap[b']? = wr.heap[b']? := fun b' h1 h2 => hg3.block b' h1 (fun e => h2 (by cases e; rfl))
      refine ⟨[g, s, m, p], ⟨s, m, p, [], [], lv, rfl, ?_⟩, HCR.out.trans (G := (· ∈ fp)) ⟨hg3.os, hg3.tape, hg3.output, hg3.size, fun b' h1 h2 => hg3.block b' h1 (fun e => h2 (by cases e; rw [HFP.out]; simp))⟩ (fun _ _ h => h), fun b' hb' => ?_⟩
      · refine ⟨(hk g hd.head.lt gm').trans hd.head, hd.left, (hk s hd.secs.lt sm).trans hd.secs, hm3, .nil, hd.spoilt.old (hk p hd.spoilt.lt (Ne.symm mp)), ?_, (Drv.settle_wf HD.out.wf many hm).1⟩
        simp [gs, gm', gp, sm, sp, mp]
      · left
        rw [HFP.out]
        simp at hb'
        simp
        omega
end Go.Proofs.YtmhmdoobadckkaaGreatDoor
/- Flush, Crash, Spoil. -/
namespace Go.Proofs.YtmhmdoobadckkaaGreatDoor
set_option maxRecDepth 20000
open Go.RowKit Go.OpenShut

theorem flush1_any (w : World) (k m : Int) : Calls Tryz.prog 155 #[.int .i64 k, .int .i64 m] w fun e w' => e = .returned (.int .i64 m) ∧ w = w' := by
  go_enter Tryz.func155, Tryz.ntmps155
  go_wp2_with fail
  go_ret
  exact ⟨rfl, rfl⟩
set_option maxHeartbeats 1000000 in
theorem flush_any (w : World) (g : Nat) (D : Drv) (fp : List Nat) (h : DrvAt w g D fp) (hlen : ∀ x ∈ D.writes, x.2.length ≤ 65536) :
    Calls Tryz.prog 65 #[.pointer (some ⟨g, 0, none⟩)] w (WrPost w g D.fl fp D.flE) := by
  have HO := Lib.hid (off_any w g D fp h)
  have HH := Lib.hid h
  obtain ⟨s, m, p, wl, bl, lv, hfp, hd⟩ := h
  have hq := hd.head.cell
  by_cases h1 : D.dead = true
  · have e1 : D.flE = 40 := by unfold Drv.flE; rw [if_pos h1]
    have e2 : D.fl = D := by unfold Drv.fl; rw [e1]; rfl
    rw [e1, e2]
    rw [h1] at hq
    clear e1 e2 h1 hd hfp
    go_enter Tryz.func65, Tryz.ntmps65
    go_wp2_with fail
    go_ret
    exact ⟨rfl, DidAt.refl HH.out⟩
  · have h1' : D.dead = false := by simpa using h1
    rw [h1'] at hq
    by_cases h2 : D.off = true
    · have e1 : D.flE = 42 := by unfold Drv.flE; rw [h1', h2]; rfl
      have e2 : D.fl = D := by unfold Drv.fl; rw [e1]; rfl
      rw [e1, e2]
      rw [h2] at HO
      clear e1 e2 h1 h1' h2 hd hfp
      go_enter Tryz.func65, Tryz.ntmps65
      go_wp2_with (go_at_call 154; refine HO.out.mono ?_; rintro e w' ⟨rfl, rfl⟩)
      go_ret
      exact ⟨rfl, DidAt.refl HH.out⟩
    · have h2' : D.off = false := by simpa using h2
      have e1 : D.flE = 0 := by unfold Drv.flE; rw [h1', h2']; rfl
      have e2 : D.fl = D.flOK := by unfold Drv.fl; rw [e1]; rfl
      rw [e1, e2]
      rw [h2'] at HO
      have hf := hd.head.frozen 4
      have hnod := hd.nodup
      have HLV := Lib.hid (show ∀ k : Nat, D.lim.map (· - 1) = some k → wrap64 (lv - 1) = (k : Int) from fun k hk => by
        cases e : D.lim with
        | none => rw [e] at hk; cases hk
        | some j =>
          rw [e] at hk
          have h1 := hd.left j e
          have h2 := hd.wf.lim j e
          have h3 : j ≠ 0 := fun h0 => by
            unfold Drv.off at h2'
            rw [e, h0] at h2'
            cases h2'
          simp at hk
          rw [h1]
          have : wrap64 ((j : Int) - 1) = (j : Int) - 1 := by unfold wrap64; omega
          rw [this]
          omega)
      have HD := Lib.hid (show DrvAt (w.setCell ⟨g, 4, none⟩ (.int .i64 (wrap64 (lv - 1)))) g { D with lim := D.lim.map (· - 1) } fp from by
        have hne : ∀ c ∈ s :: m :: p :: bl, c ≠ g := fun c hc e => (List.nodup_cons.1 hnod).1 (e ▸ hc)
        have e : (D.lim.map (· - 1)).isSome = D.lim.isSome := by cases D.lim <;> rfl
        refine ⟨s, m, p, wl, bl, _, hfp, ⟨?_, HLV.out, hd.secs.far (hne s (by simp)) _, hd.map.old (Below.heap_setCell _ _ _ _ (hne m (by simp))), hd.pends.old (fun c hc => Below.heap_setCell _ _ _ _ (hne c (by simp [hc]))),
          hd.spoilt.old (Below.heap_setCell _ _ _ _ (hne p (by simp))), hd.nodup, ⟨hd.wf.le, hd.wf.safe, hd.wf.keys, hd.wf.pend, hd.wf.nodup, hd.wf.spN, hd.wf.spK, fun k hk => lim_pred hd.wf hk⟩⟩⟩
        have h7 := hd.head.set_ 4 (.int .i64 (wrap64 (lv - 1)))
        show Blk _ _ _ #[_, _, _, _, _, .bool (D.lim.map (· - 1)).isSome]
        rw [e]
        exact h7)
      have HG := Lib.hid (show g ∈ fp by rw [hfp]; simp)
      have HC := Lib.hid (show Chg (· ∈ fp) w (w.setCell ⟨g, 4, none⟩ (.int .i64 (wrap64 (lv - 1)))) from (Chg.refl _ _).setCell (Or.inl HG.out) _)
      have HST := Lib.hid (settle_any _ g _ fp HD.out 155 #[] (fun _ _ => rfl) (fun _ m => m) (fun _ m => Nat.le_refl m) (fun W _ k m _ _ _ => (flush1_any W k m).mono (fun e w' h => ⟨h.1, by rw [← h.2]; exact Below.refl _ _⟩)) hlen)
      have HSZ := Lib.hid (show (w.setCell ⟨g, 4, none⟩ (.int .i64 (wrap64 (lv - 1)))).heap.size = w.heap.size by simp)
      clear e1 e2 h1 h1' h2 h2' hd hfp hnod
      go_enter Tryz.func65, Tryz.ntmps65
      go_wp2_with (first
        | (go_at_call 154; refine HO.out.mono ?_; rintro e w' ⟨rfl, rfl⟩)
        | (go_at_call 126; refine HST.out.mono ?_; rintro e w' ⟨rfl, hdid⟩))
      go_ret
      obtain ⟨fp', d1, d2, d3⟩ := hdid
      exact ⟨rfl, fp', d1, HC.out.trans d2 (fun _ _ h => h), fun b hb => (d3 b hb).imp id (fun h => by rw [HSZ.out] at h; exact h)⟩
end Go.Proofs.YtmhmdoobadckkaaGreatDoor
/- The drives' methods, where all drives there are are told at once. -/
namespace Go.Proofs.YtmhmdoobadckkaaGreatDoor
set_option maxRecDepth 20000
open Go.RowKit Go.OpenShut

/-- no sector has more than k writes pending -/
def Drv.pl (D : Drv) (k : Nat) : Prop := ∀ x ∈ D.writes, x.2.length ≤ k
theorem Drv.pl.pend {D : Drv} {k : Nat} (h : D.pl k) (i : Int) : (D.pend i).length ≤ k := by
  unfold Drv.pend
  cases e : mfind D.writes i with
  | none => simp
  | some l => exact h _ (mfind_mem e)
theorem Drv.pl.mono {D : Drv} {k k' : Nat} (h : D.pl k) (hk : k ≤ k') : D.pl k' := fun x hx => Nat.le_trans (h x hx) hk
theorem Drv.pl.wr {D : Drv} {k : Nat} (h : D.pl k) (i : Int) (s : Sec) : (D.wr i s).pl (k + 1) := by
  unfold Drv.wr
  split
  · intro x hx
    rcases mem_mset hx with rfl | hx
    · show (D.pend i ++ [s]).length ≤ _
      have := h.pend i
      simp
      exact this
    · exact Nat.le_succ_of_le (h x hx)
  · exact h.mono (Nat.le_succ k)
theorem Drv.pl.fl {D : Drv} {k : Nat} (h : D.pl k) : D.fl.pl k := by
  unfold Drv.fl
  split
  · intro x hx; cases hx
  · exact h
theorem Drv.pl.ch {D : Drv} {k : Nat} (h : D.pl k) (i : Int) (s : Sec) : (D.ch i s).pl k := by
  unfold Drv.ch
  split
  · intro x hx
    exact h x (mem_mdel hx)
  · exact h
theorem Drv.new_pl (n : Nat) : (Drv.new n).pl 0 := fun x hx => by cases hx
/-- a call that writes the drives answers the number x -/
def Wrote (σ : Nat → Option Drv) (R : Nat → Prop) (w : World) (x : Int) (e : Ending) (w' : World) : Prop := e = .returned (.int .i64 x) ∧ Did σ R w w'
section
variable {w : World} {σ : Nat → Option Drv} {R : Nat → Prop} {g : Nat} {D : Drv}
theorem Dsk.dead (h : Dsk w σ R) (hg : σ g = some D) : Calls Tryz.prog 55 #[.pointer (some ⟨g, 0, none⟩)] w fun e w' => e = .returned (.bool D.dead) ∧ w = w' := by
  obtain ⟨fp, h1⟩ := h.at_ hg
  exact dead_any w g D fp h1
theorem Dsk.sectors (h : Dsk w σ R) (hg : σ g = some D) : Calls Tryz.prog 49 #[.pointer (some ⟨g, 0, none⟩)] w fun e w' => e = .returned (.int .i64 (D.n : Int)) ∧ w = w' := by
  obtain ⟨fp, h1⟩ := h.at_ hg
  exact sectors_any w g D fp h1
theorem Dsk.read (h : Dsk w σ R) (hg : σ g = some D) (i : Int) : Calls Tryz.prog 36 #[.pointer (some ⟨g, 0, none⟩), .int .i64 i] w fun e w' => e = .returned (.tuple #[.string (D.readS i), .int .i64 (D.readE i)]) ∧ w = w' := by
  obtain ⟨fp, h1⟩ := h.at_ hg
  exact read_any w g D fp h1 i
theorem Dsk.lift {P : Program} {f : FuncId} {args : Array Value} {D' : Drv} {x : Int} (h : Dsk w σ R) (hg : σ g = some D) (hc : ∀ fp, DrvAt w g D fp → Calls P f args w (WrPost w g D' fp x)) : Calls P f args w (Wrote (upd σ g D') R w x) := by
  obtain ⟨fp, h1, h2, h3⟩ := h
  refine (hc _ (h1 g D hg).1).mono fun e w' he => ⟨he.1, ?_⟩
  exact Dsk.put_ h1 h2 h3 hg he.2
theorem Dsk.write (h : Dsk w σ R) (hg : σ g = some D) (i : Int) (s : Sec) (hp : D.pl 65536) : Calls Tryz.prog 96 #[.pointer (some ⟨g, 0, none⟩), .int .i64 i, .string s] w (Wrote (upd σ g (D.wr i s)) R w (D.wrE i s)) :=
  h.lift hg fun fp hf => write_any w g D fp hf i s (hp.pend i)
theorem Dsk.change (h : Dsk w σ R) (hg : σ g = some D) (i : Int) (s : Sec) : Calls Tryz.prog 48 #[.pointer (some ⟨g, 0, none⟩), .int .i64 i, .string s] w (Wrote (upd σ g (D.ch i s)) R w (D.wrE i s)) :=
  h.lift hg fun fp hf => change_any w g D fp hf i s
theorem Dsk.flush (h : Dsk w σ R) (hg : σ g = some D) (hp : D.pl 65536) : Calls Tryz.prog 65 #[.pointer (some ⟨g, 0, none⟩)] w (Wrote (upd σ g D.fl) R w D.flE) :=
  h.lift hg fun fp hf => flush_any w g D fp hf hp
end
/-- a new drive among the others -/
def NewDrv (σ : Nat → Option Drv) (R : Nat → Prop) (w : World) (n : Nat) (e : Ending) (w' : World) : Prop := ∃ g, e = .returned (.pointer (some ⟨g, 0, none⟩)) ∧ w.heap.size ≤ g ∧ σ g = none ∧ Below w.heap.size w w' ∧ Did (upd σ g (Drv.new n)) R w w'
theorem Dsk.new_ {w : World} {σ : Nat → Option Drv} {R : Nat → Prop} (h : Dsk w σ R) (n : Nat) (h1 : 1 ≤ n) (h2 : n ≤ 4096) : Calls Tryz.prog 19 #[.int .i64 (n : Int)] w (NewDrv σ R w n) := by
  refine (new_drv w n h1 h2).mono ?_
  rintro e w' ⟨g, fp, rfl, hd, hb, hf⟩
  obtain ⟨a, b⟩ := h.add hb hd hf
  exact ⟨g, rfl, hf g hd.self, a, hb, b⟩
end Go.Proofs.YtmhmdoobadckkaaGreatDoor
/- A set of drives (package row): what it is in memory; May, at. -/
namespace Go.Proofs.YtmhmdoobadckkaaGreatDoor
set_option maxRecDepth 20000
open Go.RowKit Go.OpenShut

/-- a set: the geometry, the drives by their columns, how far each is built -/
structure RS where
  n : Nat
  k : Nat
  r : Nat
  ds : List (Option Nat)
  bs : List Int
/-- where its slices lie -/
structure SL where
  A : Option Addr
  ca : Nat
  B : Option Addr
  cb : Nat
def setCs (S : RS) (L : SL) : Array Value := #[.int .i64 (S.n : Int), .int .i64 (S.k : Int), .int .i64 (S.r : Int), .slice L.A S.n L.ca, .slice L.B S.n L.cb]
def setV (S : RS) (L : SL) : Value := .agg (setCs S L)
def RS.need (S : RS) : Nat := 4 + S.r * S.k
structure RS.ok (S : RS) (σ : Nat → Option Drv) : Prop where
  geo : geoOK S.n S.k S.r = true
  dl : S.ds.length = S.n
  bl : S.bs.length = S.n
  dr : ∀ g, some g ∈ S.ds → ∃ D, σ g = some D ∧ S.need ≤ D.n
  bb : ∀ b ∈ S.bs, 0 ≤ b ∧ b ≤ 256
structure SetIn (w : World) (σ : Nat → Option Drv) (R : Nat → Prop) (S : RS) (L : SL) : Prop where
  dsk : Dsk w σ R
  ds : VA w R L.A S.n (S.ds.map pv)
  bs : VA w R L.B S.n (S.bs.map (Value.int .i64))
  ok : S.ok σ
section
variable {w w' : World} {σ : Nat → Option Drv} {R : Nat → Prop} {S : RS} {L : SL}
theorem SetIn.below (h : SetIn w σ R S L) (hb : Below w.heap.size w w') : SetIn w' σ R S L := ⟨h.dsk.below hb, h.ds.below hb, h.bs.below hb, h.ok⟩
theorem VA.any_ {w : World} {R R' : Nat → Prop} {A : Option Addr} {n : Nat} {xs : List Value} (h : VA w R A n xs) (hR : ∀ b, R' b → R b) : VA w R' A n xs :=
  ⟨h.1, fun h0 => by obtain ⟨b, off, e, hb, hc⟩ := h.2 h0; exact ⟨b, off, e, fun hb' => hb (hR b hb'), hc⟩⟩
/-- a drive that is too small -/
def smallB (σ : Nat → Option Drv) (need : Nat) (p : Option Nat) : Bool := match p with | none => false | some g => match σ g with | none => false | some D => decide (D.n < need)
theorem RS.ok.not_small (h : S.ok σ) : S.ds.any (smallB σ S.need) = false := by
  rw [List.any_eq_false]
  intro p hp
  cases p with
  | none => simp [smallB]
  | some g =>
    obtain ⟨D, h1, h2⟩ := h.dr g hp
    simp [smallB, h1]
    exact h2
theorem RS.ok.pin (h : S.ok σ) : ∀ p ∈ S.ds, PIn σ p := fun p hp g e => by
  subst e
  obtain ⟨D, h1, _⟩ := h.dr g hp
  rw [h1]; rfl
end
set_option maxHeartbeats 1000000 in
theorem rowMay1_any (w : World) (σ : Nat → Option Drv) (R : Nat → Prop) (S : RS) (L : SL) (h : SetIn w σ R S L) (bx : Nat) (hbx : Blk w bx 32 (setCs S L)) (p : Option Nat) (hp : p ∈ S.ds) :
    Calls Tryz.prog 233 #[pv p, .pointer (some ⟨bx, 0, none⟩)] w fun e w' => e = .returned (.bool (smallB σ S.need p)) ∧ Below w.heap.size w w' := by
  have hq := hbx.cell
  unfold setCs at hq
  cases p with
  | none =>
    unfold pv smallB
    clear h hbx hp hq
    go_enter Tryz.func233, Tryz.ntmps233
    go_wp2_with fail
    go_quiet (fail)
    go_wp2_with fail
    go_ret
    exact ⟨rfl, below_drewN' (Below.refl _ _) _⟩
  | some g =>
    obtain ⟨D, hD, hn⟩ := h.ok.dr g hp
    have hg := h.ok.geo
    have HS := Lib.hid (h.dsk.sectors hD)
    have HS' := Lib.hid (fun W (hb : Below w.heap.size w W) => (h.dsk.below hb).sectors hD)
    have HN := Lib.hid (fun W => need_any W S.n S.k S.r hg)
    have hlt := hbx.lt
    have e1 : smallB σ S.need (some g) = false := by simp only [smallB, hD]; simp; exact hn
    rw [e1]
    have h3 : (4 + (S.r : Int) * S.k) ≤ (D.n : Int) := by unfold RS.need at hn; rw [← Int.natCast_mul]; omega
    have h3' : ¬ (D.n : Int) < 4 + (S.r : Int) * S.k := by omega
    generalize (4 + (S.r : Int) * S.k) = Z at *
    have hD' : (D.n : Int) < Z ↔ False := ⟨fun h => absurd h h3', False.elim⟩
    unfold gV at HN
    show Calls _ _ #[.pointer (some ⟨g, 0, none⟩), _] _ _
    clear h hbx hp e1 hg hn hD h3 h3'
    generalize (D.n : Int) = dn at *
    have hd2 : decide (dn < Z) = false := by simpa using hD'
    clear hD'
    go_enter Tryz.func233, Tryz.ntmps233
    go_wp2_with fail
    have hnf := (Below.refl w.heap.size w).drew
    refine wp_region_nf (fun Y => Below w.heap.size w Y) (fun _ => false) [(0, true), (1, true), (2, true), (3, true), (5, true), (6, true), (4, false), (7, false), (8, true), (9, true), (10, true)] (by kernel_rfl) rfl (by kernel_rfl) (by kernel_rfl) (fun d _ _ _ _ h => by cases d <;> exact h) ?_
    repeat (refine nf_pure rfl hnf (fun Y hY => by have hcY := ocell hY; clear hY; go_wp2; exact ⟨rfl, rfl, rfl⟩) rfl ?_ ?_; rfl)
    refine nf_imp rfl ?_
    go_wp2_with fail
    refine (HS'.out _ hnf).mono ?_; rintro e w2 ⟨rfl, rfl⟩
    go_wp2_with fail
    refine ⟨fun _ => hnf, ?_⟩
    refine nf_imp rfl ?_
    go_wp2_with fail
    refine (HN.out _).mono ?_; rintro e w3 ⟨rfl, hb⟩
    replace hnf := hnf.trans (hb.mono hnf.size)
    go_wp2_with fail
    refine ⟨fun _ => hnf, ?_⟩
    repeat (refine nf_pure rfl hnf (fun Y hY => by have hcY := ocell hY; clear hY; go_wp2; exact ⟨rfl, rfl, rfl⟩) rfl ?_ ?_; rfl)
    refine nf_nil ?_
    go_wp2_with fail
    go_ret
    exact ⟨rfl, hnf⟩
set_option maxHeartbeats 1000000 in
theorem may_row (w : World) (σ : Nat → Option Drv) (R : Nat → Prop) (S : RS) (L : SL) (h : SetIn w σ R S L) :
    Calls Tryz.prog 163 #[setV S L] w fun e w' => e = .returned (.bool true) ∧ Below w.heap.size w w' := by
  have hg := h.ok.geo
  have he : geoE S.n S.k S.r = 0 := by unfold geoE; rw [hg]; rfl
  have HE := Lib.hid he
  have hb0 := (Below.refl w.heap.size w).alloc (Nat.le_refl _) (.cells (setCs S L) 32)
  have hbx := Blk.new w 32 (setCs S L)
  obtain ⟨hn1, hn2, _⟩ := geo_bd hg
  have HF := Lib.hid (fun W (hb : Below (w.alloc (.cells (setCs S L) 32)).heap.size (w.alloc (.cells (setCs S L) 32)) W) =>
    containsFuncD W L.A S.n L.ca S.ds (((h.below hb0).below hb).ds.any_ (fun _ h => h.elim)) (by omega) 233 #[.pointer (some ⟨w.heap.size, 0, none⟩)] (fun _ _ => rfl) (smallB σ S.need) (fun W' hW' p hp =>
      rowMay1_any W' σ R S L (((h.below hb0).below hb).below hW') w.heap.size ((hbx.below hb (by simp)).below hW' (Nat.lt_of_lt_of_le (by simp) hb.size)) p hp))
  have HNS := Lib.hid h.ok.not_small
  have hq := hbx.cell
  unfold setV setCs at *
  clear h hg he hbx hn1 hn2
  go_enter Tryz.func163, Tryz.ntmps163
  go_wp2_with (first
    | (go_at_call 144; refine (check_any _ _ _ _).mono ?_; rintro e w1 ⟨rfl, hb1⟩; rw [HE.out]; have hc := ocell hb1)
    | (go_at_call 234; refine (HF.out _ hb1).mono ?_; rintro e w2 ⟨rfl, hb2⟩; rw [HNS.out]))
  go_ret
  exact ⟨rfl, (hb0.trans (hb1.mono (by simp))).trans (hb2.mono (by have := hb1.size; simp at this; omega))⟩
end Go.Proofs.YtmhmdoobadckkaaGreatDoor
/- A place in a row of a set: at, column, there, built, sector. -/
namespace Go.Proofs.YtmhmdoobadckkaaGreatDoor
set_option maxRecDepth 20000
open Go.RowKit Go.OpenShut

/-- two results, of which the first one lies in a block of its own -/
theorem results_cell_tmp {P : Program} {fn : Func} {p q : Tmp} {ty : TypeId} (h : fn.results = #[.cell p ty, .tmp q]) (tmps : Array Value) (w : World) (g : Nat) (t : TypeId) {cs : Array Value} (d : TypeDesc) {v : Value}
    (hp : tmps.getD p undef = .pointer (some ⟨g, 0, none⟩)) (hq : tmps.getD q undef = v) (hg : Blk w g t cs)
    (hu : P.underlying ty = some d) (hd : (match d with | .struct _ | .array _ _ => true | _ => false) = true) (hi : (P.info? ty).map (·.size) = some cs.size) :
    (results fn tmps).run P w = .ok (.tuple #[.agg cs, v]) w := by
  have hp' : tmps[p]?.getD undef = .pointer (some ⟨g, 0, none⟩) := by simpa using hp
  have hq' : tmps[q]?.getD undef = v := by simpa using hq
  simp [results, h, hp', hq', asAddr, run_loadVar_row w g t ty cs (0, 0) d hg hu hd hi]
def placeCs (S : RS) (L : SL) (row off : Nat) : Array Value := #[.int .i64 (S.n : Int), .int .i64 (S.k : Int), .int .i64 (S.r : Int), .slice L.A S.n L.ca, .slice L.B S.n L.cb, .int .i64 (row : Int), .int .i64 (off : Int)]
def placeV (S : RS) (L : SL) (row off : Nat) : Value := .agg (placeCs S L row off)
theorem boxed {w w1 : World} {o : Obj} (hb : Below (w.alloc o).heap.size (w.alloc o) w1) : Below w.heap.size w w1 := ((Below.refl w.heap.size w).alloc (Nat.le_refl _) o).trans (hb.mono (by simp))
set_option maxHeartbeats 1000000 in
theorem at_any (w : World) (σ : Nat → Option Drv) (R : Nat → Prop) (S : RS) (L : SL) (h : SetIn w σ R S L) (row off : Nat) (hr : row < S.r) (ho : off < S.k) :
    Calls Tryz.prog 84 #[setV S L, .int .i64 (row : Int), .int .i64 (off : Int)] w fun e w' => e = .returned (.tuple #[placeV S L row off, .int .i64 0]) ∧ Below w.heap.size w w' := by
  have HM := Lib.hid (fun W (hb : Below w.heap.size w W) => may_row W σ R S L (h.below hb))
  have b0 := ((((Below.refl w.heap.size w).alloc (Nat.le_refl _) (.cells (setCs S L) 32)).alloc (by simp) (.cells #[.int .i64 0, .int .i64 0, .int .i64 0, .slice none 0 0, .slice none 0 0, .int .i64 0, .int .i64 0] 147)))
  have h1 : ¬ (row : Int) < 0 := by omega
  have h2 : ¬ (row : Int) ≥ (S.r : Int) := by omega
  have h3 : ¬ (off : Int) < 0 := by omega
  have h4 : ¬ (off : Int) ≥ (S.k : Int) := by omega
  unfold placeV setV setCs placeCs at *
  clear h hr ho
  go_enter Tryz.func84, Tryz.ntmps84
  go_wp2_with fail
  refine (HM.out _ ?_).mono ?_
  · repeat (first | exact Below.refl _ _ | refine Below.alloc ?_ (by simp <;> omega) _)
  rintro e w1 ⟨rfl, hb1⟩
  have hc := ocell hb1
  have hf := fun b o h => hb1.frozen (p := ⟨b, o, none⟩) h
  go_wp2_with fail
  have hz1 : w.heap.size + 1 < w1.heap.size := by have := hb1.size; simp at this; omega
  have hb2 : Below w.heap.size w w1 := by
    refine Below.trans (?_ : Below w.heap.size w _) (hb1.mono (by simp; omega))
    repeat (first | exact Below.refl _ _ | refine Below.alloc ?_ (by simp <;> omega) _)
  have hB : Blk w1 (w.heap.size + 1) 147 #[.int .i64 0, .int .i64 0, .int .i64 0, .slice none 0 0, .slice none 0 0, .int .i64 0, .int .i64 0] := by
    refine Blk.below ?_ hb1 (by simp)
    refine Blk.alloc ?_ _
    exact Blk.newAt (by simp)
  have hB' : Blk _ (w.heap.size + 1) 147 (placeCs S L row off) := ((((((hB.set_ 0 (.int .i64 (S.n : Int))).set_ 1 (.int .i64 (S.k : Int))).set_ 2 (.int .i64 (S.r : Int))).set_ 3 (.slice L.A S.n L.ca)).set_ 4 (.slice L.B S.n L.cb)).set_ 5 (.int .i64 (row : Int))).set_ 6 (.int .i64 (off : Int))
  have hb3 : Below w.heap.size w _ := (((((((hb2.setCell (p := ⟨w.heap.size + 1, 0, none⟩) (by simp) (.int .i64 (S.n : Int))).setCell (p := ⟨w.heap.size + 1, 1, none⟩) (by simp) (.int .i64 (S.k : Int))).setCell (p := ⟨w.heap.size + 1, 2, none⟩) (by simp) (.int .i64 (S.r : Int))).setCell (p := ⟨w.heap.size + 1, 3, none⟩) (by simp) (.slice L.A S.n L.ca)).setCell (p := ⟨w.heap.size + 1, 4, none⟩) (by simp) (.slice L.B S.n L.cb)).setCell (p := ⟨w.heap.size + 1, 5, none⟩) (by simp) (.int .i64 (row : Int))).setCell (p := ⟨w.heap.size + 1, 6, none⟩) (by simp) (.int .i64 (off : Int)))
  have hi : (Tryz.prog.info? 147).map (·.size) = some 7 := by kernel_rfl
  generalize World.setCell _ _ _ = W at *
  exact bodyPost_ret (results_cell_tmp (cs := placeCs S L row off) (v := .int .i64 0) Tryz.results84 _ _ _ _ _ rfl rfl hB' Tryz.underlying147 rfl hi) rfl ⟨rfl, hb3⟩
end Go.Proofs.YtmhmdoobadckkaaGreatDoor
/- column, there, built, sector of a place. -/
namespace Go.Proofs.YtmhmdoobadckkaaGreatDoor
set_option maxRecDepth 20000
open Go.RowKit Go.OpenShut

theorem getD_mem_ {α : Type} {l : List α} {c : Nat} {d : α} (h : c < l.length) : l.getD c d ∈ l := by
  have e : l.getD c d = l[c] := by simp [List.getD, h]
  rw [e]
  exact List.getElem_mem h
/-- the drive of a column that is there: not nil, not dead -/
def RS.there (S : RS) (σ : Nat → Option Drv) (c : Nat) : Option Nat := match S.ds.getD c none with | none => none | some g => match σ g with | none => none | some D => if D.dead then none else some g
/-- the drive of a role, as far as it is built -/
def RS.blt (S : RS) (σ : Nat → Option Drv) (row role : Nat) : Option Nat := if S.bs.getD (lcol S.n row role) 0 ≤ (row : Int) then none else S.there σ (lcol S.n row role)
def RS.secE (S : RS) (σ : Nat → Option Drv) (row off role : Nat) : Int := match S.blt σ row role with | none => 41 | some g => match σ g with | none => 41 | some D => D.readE (lsec S.k row off : Int)
def RS.secS (S : RS) (σ : Nat → Option Drv) (row off role : Nat) : Sec := match S.blt σ row role with | none => ⟨#[]⟩ | some g => match σ g with | none => ⟨#[]⟩ | some D => D.readS (lsec S.k row off : Int)
theorem RS.there_some {S : RS} {σ : Nat → Option Drv} {c g : Nat} (h : S.there σ c = some g) : S.ds.getD c none = some g ∧ ∃ D, σ g = some D ∧ D.dead = false := by
  unfold RS.there at h
  split at h
  · cases h
  · rename_i g' hg
    split at h
    · cases h
    · rename_i D hD
      split at h
      · cases h
      · rename_i hd
        cases h
        exact ⟨hg, D, hD, by simpa using hd⟩
set_option maxHeartbeats 1000000 in
theorem there_any (w : World) (σ : Nat → Option Drv) (R : Nat → Prop) (S : RS) (L : SL) (h : SetIn w σ R S L) (c : Nat) (hc : c < S.n) :
    Calls Tryz.prog 236 #[setV S L, .int .i64 (c : Int)] w fun e w' => e = .returned (pv (S.there σ c)) ∧ Below w.heap.size w w' := by
  obtain ⟨A, ca, B, cb⟩ := L
  obtain ⟨b, off, hA, _⟩ := h.ds.some_ (show 0 < S.n by omega)
  dsimp only at hA
  subst hA
  have hb0 := (Below.refl w.heap.size w).alloc (Nat.le_refl _) (.cells (setCs S ⟨some ⟨b, off, none⟩, ca, B, cb⟩) 32)
  have hdl := h.ok.dl
  have hds := (h.below hb0).ds
  dsimp only at hds
  have hnn := (geo_bd h.ok.geo).2.1
  have hpin := h.ok.pin (S.ds.getD c none) (getD_mem_ (by omega))
  have hdr := h.ok.dr
  have hcell := hds.at_ hc
  rw [getD_map pv S.ds c none (by omega)] at hcell
  have hcn : (c : Int) < (S.n : Int) := by omega
  have hdk := (h.below hb0).dsk
  unfold setV setCs at *
  dsimp only at *
  unfold RS.there
  cases hp : S.ds.getD c none with
  | none =>
    rw [hp] at hcell
    unfold pv at *
    simp only [Option.map_none] at hcell
    clear h hdl hds hnn hpin hdr hdk hc hp
    go_enter Tryz.func236, Tryz.ntmps236
    go_wp2_with fail
    go_ret
    exact ⟨rfl, hb0⟩
  | some g =>
    rw [hp] at hcell
    obtain ⟨D, hD⟩ := Option.isSome_iff_exists.1 (hpin g hp)
    have HD := Lib.hid (hdk.dead hD)
    simp only [hD]
    unfold pv at *
    simp only [Option.map_some] at hcell
    clear h hdl hds hnn hpin hdr hdk hc hp hD
    obtain ⟨dd, hdd⟩ : ∃ dd, D.dead = dd := ⟨_, rfl⟩
    rw [hdd] at HD ⊢
    clear hdd
    cases dd
    all_goals
      go_enter Tryz.func236, Tryz.ntmps236
      go_wp2_with (go_at_call 55; refine HD.out.mono ?_; rintro e w1 ⟨rfl, rfl⟩)
      go_ret
      exact ⟨rfl, hb0⟩
set_option maxHeartbeats 1000000 in
theorem pcol_any (w : World) (S : RS) (L : SL) (hg : geoOK S.n S.k S.r = true) (row off role : Nat) (hr : row < S.r) (hro : role < S.n) :
    Calls Tryz.prog 255 #[placeV S L row off, .int .i64 (role : Int)] w fun e w' => e = .returned (.int .i64 (lcol S.n row role : Int)) ∧ Below w.heap.size w w' := by
  obtain ⟨hn1, hn2, _⟩ := geo_bd hg
  have hb0 := (Below.refl w.heap.size w).alloc (Nat.le_refl _) (.cells (placeCs S L row off) 147)
  have h1 : (4 : Int) ≤ S.n := by omega
  have h2 : (S.n : Int) ≤ 10 := by omega
  by_cases h3 : role < S.n - 2
  · have HC := Lib.hid (fun w => column_any w S.n S.k S.r hg row role hr h3)
    have h4 : (role : Int) < (S.n : Int) - 1 - 1 := by omega
    unfold placeV placeCs gV at *
    clear hg hr hro hn1 hn2 h3
    go_enter Tryz.func255, Tryz.ntmps255
    go_wp2_with (go_at_call 317; refine (HC.out _).mono ?_; rintro e w1 ⟨rfl, hb⟩)
    go_ret
    exact ⟨rfl, hb0.trans (hb.mono (by simp))⟩
  · have HC := Lib.hid (fun w => parity_any w S.n S.k S.r hg row hr)
    have h4 : ¬ (role : Int) < (S.n : Int) - 1 - 1 := by omega
    by_cases h5 : role = S.n - 2
    · have h6 : (role : Int) < (S.n : Int) - 1 := by omega
      rw [← h5] at HC
      unfold placeV placeCs gV at *
      clear hg hr hro hn1 hn2 h3 h5
      go_enter Tryz.func255, Tryz.ntmps255
      go_wp2_with (go_at_call 318; refine (HC.out _).mono ?_; rintro e w1 ⟨rfl, hb⟩)
      go_ret
      exact ⟨rfl, hb0.trans (hb.mono (by simp))⟩
    · have h6 : ¬ (role : Int) < (S.n : Int) - 1 := by omega
      have h7 : S.n - 1 = role := by omega
      rw [h7] at HC
      unfold placeV placeCs gV at *
      clear hg hr hro hn1 hn2 h3 h5 h7
      go_enter Tryz.func255, Tryz.ntmps255
      go_wp2_with (go_at_call 318; refine (HC.out _).mono ?_; rintro e w1 ⟨rfl, hb⟩)
      go_ret
      exact ⟨rfl, hb0.trans (hb.mono (by simp))⟩
end Go.Proofs.YtmhmdoobadckkaaGreatDoor
/- built, sector. -/
namespace Go.Proofs.YtmhmdoobadckkaaGreatDoor
set_option maxRecDepth 20000
open Go.RowKit Go.OpenShut

theorem RS.ok.bat {S : RS} {σ : Nat → Option Drv} (h : S.ok σ) {c : Nat} (hc : c < S.n) : 0 ≤ S.bs.getD c 0 ∧ S.bs.getD c 0 ≤ 256 := h.bb _ (getD_mem_ (by rw [h.bl]; exact hc))
set_option maxHeartbeats 1000000 in
theorem built_any (w : World) (σ : Nat → Option Drv) (R : Nat → Prop) (S : RS) (L : SL) (h : SetIn w σ R S L) (row off role : Nat) (hr : row < S.r) (hro : role < S.n) :
    Calls Tryz.prog 175 #[placeV S L row off, .int .i64 (role : Int)] w fun e w' => e = .returned (pv (S.blt σ row role)) ∧ Below w.heap.size w w' := by
  obtain ⟨A, ca, B, cb⟩ := L
  have hg := h.ok.geo
  obtain ⟨hn1, hn2, hk1, hk2, hr1, hr2⟩ := geo_bd hg
  obtain ⟨b, o, hB, _⟩ := h.bs.some_ (show 0 < S.n by omega)
  dsimp only at hB
  subst hB
  have hb0 := (Below.refl w.heap.size w).alloc (Nat.le_refl _) (.cells (placeCs S ⟨A, ca, some ⟨b, o, none⟩, cb⟩ row off) 147)
  have hq0 := (Blk.new w 147 (placeCs S ⟨A, ca, some ⟨b, o, none⟩, cb⟩ row off)).cell
  have hlt := lcol_lt row role (show 0 < S.n by omega)
  obtain ⟨hx0, hx1⟩ := h.ok.bat hlt
  have HC := Lib.hid (fun w => pcol_any w S ⟨A, ca, some ⟨b, o, none⟩, cb⟩ hg row off role hr hro)
  have HT := Lib.hid (fun W (hb : Below w.heap.size w W) => there_any W σ R S ⟨A, ca, some ⟨b, o, none⟩, cb⟩ (h.below hb) (lcol S.n row role) hlt)
  have HV := Lib.hid (fun W (hb : Below w.heap.size w W) => ((h.below hb).bs.at_ hlt).trans (congrArg some (getD_map (Value.int .i64) S.bs _ 0 (by rw [h.ok.bl]; exact hlt))))
  unfold RS.blt
  have hci : ((lcol S.n row role : Nat) : Int) < (S.n : Int) := by omega
  generalize lcol S.n row role = c at *
  generalize S.bs.getD c 0 = x at *
  unfold placeV placeCs setV setCs at *
  dsimp only at *
  clear h hg hn1 hn2 hk1 hk2 hr1 hr2 hro hlt hr
  have HB0 := Lib.hid hb0
  go_enter Tryz.func175, Tryz.ntmps175
  go_wp2_with (go_at_call 255; refine (HC.out _).mono ?_; rintro e w1 ⟨rfl, hb1⟩)
  have hz : w.heap.size < w1.heap.size := by have := hb1.size; simp at this; omega
  have hcW := fun j => (ocell hb1 w.heap.size j (by simp)).trans (hq0 j)
  have hbw := boxed hb1
  have hv1 := HV.out w1 hbw
  have HBW := Lib.hid hbw
  clear hq0 hb0 hbw hb1
  have hnf := (Below.refl w1.heap.size w1).drew
  refine wp_region_nf (fun Y => Below w1.heap.size w1 Y) (fun _ => false) [(0, true), (1, true), (2, true), (3, true), (4, true), (5, true), (6, true), (7, true), (8, true)] (by kernel_rfl) rfl (by kernel_rfl) (by kernel_rfl) (fun d _ _ _ _ h => by cases d <;> exact h) ?_
  have hcb := cellLt hv1
  repeat (refine nf_pure rfl hnf (fun Y hY => by have hcY := ocell hY; clear hY; go_wp2; exact ⟨rfl, rfl, rfl⟩) rfl ?_ ?_; rfl)
  refine nf_nil ?_
  by_cases hle : x ≤ (row : Int)
  · go_wp2_with fail
    go_ret
    exact ⟨rfl, HBW.out.trans (hnf.mono (Nat.le_of_lt hz))⟩
  · have HW2 := Lib.hid ((HBW.out.trans (hnf.mono (Nat.le_of_lt hz))))
    go_wp2_with (go_at_call 236; refine (HT.out _ HW2.out).mono ?_; rintro e w2 ⟨rfl, hb2⟩)
    go_ret
    exact ⟨rfl, HW2.out.trans (hb2.mono (by have := HW2.out.size; omega))⟩
theorem RS.blt_some {S : RS} {σ : Nat → Option Drv} {row role g : Nat} (h : S.blt σ row role = some g) : some g ∈ S.ds ∧ ∃ D, σ g = some D ∧ D.dead = false := by
  unfold RS.blt at h
  split at h
  · cases h
  · obtain ⟨h1, h2⟩ := RS.there_some h
    refine ⟨?_, h2⟩
    generalize lcol S.n row role = c at *
    rcases Nat.lt_or_ge c S.ds.length with e | e
    · rw [← h1]; exact getD_mem_ e
    · simp [List.getD, List.getElem?_eq_none e] at h1
set_option maxHeartbeats 1000000 in
theorem psec_any (w : World) (σ : Nat → Option Drv) (R : Nat → Prop) (S : RS) (L : SL) (h : SetIn w σ R S L) (row off role : Nat) (hr : row < S.r) (ho : off < S.k) (hro : role < S.n) :
    Calls Tryz.prog 85 #[placeV S L row off, .int .i64 (role : Int)] w fun e w' => e = .returned (.tuple #[.string (S.secS σ row off role), .int .i64 (S.secE σ row off role)]) ∧ Below w.heap.size w w' := by
  have hb0 := (Below.refl w.heap.size w).alloc (Nat.le_refl _) (.cells (placeCs S L row off) 147)
  have hq0 := (Blk.new w 147 (placeCs S L row off)).cell
  have HBt := Lib.hid (built_any (w.alloc (.cells (placeCs S L row off) 147)) σ R S L (h.below hb0) row off role hr hro)
  unfold RS.secS RS.secE
  cases hp : S.blt σ row role with
  | none =>
    rw [hp] at HBt
    unfold placeV placeCs pv at *
    simp only [Option.map_none] at HBt
    clear h hr ho hro hp
    go_enter Tryz.func85, Tryz.ntmps85
    go_wp2_with (go_at_call 175; refine HBt.out.mono ?_; rintro e w1 ⟨rfl, hb1⟩)
    go_ret2
    exact ⟨rfl, hb0.trans (hb1.mono (by simp))⟩
  | some g =>
    rw [hp] at HBt
    obtain ⟨_, D, hD, _⟩ := RS.blt_some hp
    simp only [hD]
    have HS := Lib.hid (fun w => sector_any w S.n S.k S.r h.ok.geo row off hr ho)
    have HR := Lib.hid (fun W (hb : Below w.heap.size w W) => (h.below hb).dsk.read hD (lsec S.k row off : Int))
    generalize D.readS (lsec S.k row off : Int) = y at *
    generalize D.readE (lsec S.k row off : Int) = z at *
    generalize ((lsec S.k row off : Nat) : Int) = q at *
    unfold placeV placeCs pv gV at *
    simp only [Option.map_some] at HBt
    clear h hr ho hro hp hD
    go_enter Tryz.func85, Tryz.ntmps85
    go_wp2_with (first
      | (go_at_call 175; refine HBt.out.mono ?_; rintro e w1 ⟨rfl, hb1⟩; have hc1 := ocell hb1)
      | (go_at_call 37; refine (HS.out _).mono ?_; rintro e w2 ⟨rfl, hb2⟩; have hbw := (boxed hb1).trans (hb2.mono (by have := hb1.size; simp at this; omega)))
      | (go_at_call 36; refine (HR.out _ hbw).mono ?_; rintro e w3 ⟨rfl, rfl⟩))
    go_ret2
    exact ⟨rfl, hbw⟩
set_option maxHeartbeats 1000000 in
/-- a data sector that its own drive gives -/
theorem rowSector_own (w : World) (σ : Nat → Option Drv) (R : Nat → Prop) (S : RS) (L : SL) (h : SetIn w σ R S L) (row off i : Nat) (hr : row < S.r) (ho : off < S.k) (hi : i < S.n - 2) (he : S.secE σ row off i = 0) :
    Calls Tryz.prog 28 #[setV S L, .int .i64 (row : Int), .int .i64 (off : Int), .int .i64 (i : Int)] w fun e w' => e = .returned (.tuple #[.string (S.secS σ row off i), .int .i64 0]) ∧ Below w.heap.size w w' := by
  obtain ⟨hn1, hn2, _⟩ := geo_bd h.ok.geo
  have hb0 := (Below.refl w.heap.size w).alloc (Nat.le_refl _) (.cells (setCs S L) 32)
  have hq0 := (Blk.new w 32 (setCs S L)).cell
  have HA := Lib.hid (at_any (w.alloc (.cells (setCs S L) 32)) σ R S L (h.below hb0) row off hr ho)
  have HP := Lib.hid (fun W (hb : Below w.heap.size w W) => psec_any W σ R S L (h.below hb) row off i hr ho (by omega))
  rw [he] at HP
  have h1 : ¬ (i : Int) < 0 := by omega
  have h2 : ¬ (i : Int) ≥ (S.n : Int) - 2 := by omega
  have h3 : (4 : Int) ≤ S.n := by omega
  have h4 : (S.n : Int) ≤ 10 := by omega
  generalize S.secS σ row off i = y at *
  unfold placeV placeCs setV setCs at *
  clear h hr ho hi he hn1 hn2
  go_enter Tryz.func28, Tryz.ntmps28
  go_wp2_with (go_at_call 84; refine HA.out.mono ?_; rintro e w1 ⟨rfl, hb1⟩; have hc1 := ocell hb1; have hz : w.heap.size < w1.heap.size := (by have := hb1.size; simp at this; omega))
  have hbw := boxed hb1
  refine (HP.out _ ?_).mono ?_
  · exact hbw.alloc (Nat.le_of_lt hz) _
  rintro e w2 ⟨rfl, hb2⟩
  go_wp2_with fail
  go_ret2
  exact ⟨rfl, hbw.trans ((boxed hb2).mono (Nat.le_of_lt hz))⟩
end Go.Proofs.YtmhmdoobadckkaaGreatDoor
/- A region of a round (the body of a range over a function), at the wide fence: what holds of it outside holds of it inside. -/
namespace Go.Proofs.YtmhmdoobadckkaaGreatDoor
set_option maxRecDepth 20000
open Go

section
variable {P : Program} {ops : Array Oper} {Q : Exit → Act → World → Prop}

def noDefer (ops : Array Oper) : Bool := ops.all fun o => match o.op with | .defer _ => false | _ => true
theorem noDefer_spec (h : noDefer ops = true) {i : Nat} {o : Oper} (hi : ops[i]? = some o) : ∀ c, o.op ≠ .defer c := by
  intro c hc
  have := Array.all_eq_true_iff_forall_mem.1 h o (Array.mem_of_getElem? hi)
  simp [hc] at this

theorem wpIn_of_wp_op {o : Oper} {a : Act} {w : World} {K : Act → World → Prop} {n : Nat} (r : Nat) (hd : ∀ c, o.op ≠ .defer c) (h : o.wp P a w K Q) : o.wpIn (Fence.wide.inRound r) n P a w K Q := by
  refine ⟨fun _ _ => trivial, ?_⟩
  unfold Oper.wp at h
  rw [show (Fence.wide.inRound r).round = some r from rfl, Oper.semAt_some r _ _ hd]
  generalize (execOp a.eval o).run P w = z at *
  cases z with
  | ok x w' =>
    cases x <;> simp only [Oper.upon, Oper.uponIn] at h ⊢
    case value v => exact h
    case skip => exact h
    case defer d => exact h
    case enter f args => exact ⟨fun h0 => by simp [Fence.wide, Fence.inRound] at h0, (callsIn_wide (n := n - 1)).2 h⟩
    case row row args =>
      refine ⟨fun h0 => by simp [Fence.wide, Fence.inRound] at h0, fun c cs _ => ?_⟩
      obtain ⟨v, w2, hR, hs⟩ := h c cs
      exact ⟨v, w2, hR, stepsIn_wide.2 hs⟩
  | halt x w' =>
    cases x <;> simp only [Oper.upon, Oper.uponIn] at h ⊢
    case panic u => exact h

theorem wpOpsIn_of_wpOps {n : Nat} (r : Nat) (hd : noDefer ops = true) (ho : ¬ LetsOut Q) : ∀ (l : List Nat) (a : Act) (w : World), wpOps P ops Q l a w → wpOpsIn (Fence.wide.inRound r) n P ops Q l a w
  | [], _, _, h => h
  | i :: l, a, w, h => by
    unfold wpOps at h
    unfold wpOpsIn
    cases hi : ops[i]? with
    | none => simp only [hi] at h ⊢; exact wpOpsIn_of_wpOps r hd ho l a w h
    | some o =>
      simp only [hi] at h ⊢
      split
      · rename_i hw
        simp only [hw, if_true] at h
        exact wpIn_of_wp_op r (noDefer_spec hd hi) (Oper.wp_mono (fun a w => wpOpsIn_of_wpOps r hd ho l a w) (h.resolve_right fun hh => ho hh.2))
      · rename_i hw
        simp only [hw] at h
        exact ⟨fun _ _ => trivial, wpOpsIn_of_wpOps r hd ho l _ w h⟩

/-- THE REGION OF A ROUND, BY ITS ONE ORDER π. -/
theorem wpIn_region_nf {id n : Nat} (r : Nat) {l : List Oper} {a : Act} {w : World} (S : World → Prop) (bar : Nat → Bool) (π : List (Nat × Bool)) (hm : P.follows .mixedOrders = true)
    (hn : π.length = l.length) (hs : Region.noSelect l.toArray = true) (hB : nfB .any l.toArray bar π (Array.replicate l.length false) = true)
    (hQ : ∀ d v c a w, Q (.panic c) (a.put d v) w → Q (.panic c) a w) (hd : noDefer l.toArray = true) (ho : ¬ LetsOut Q)
    (h : wpNF P l.toArray Q S bar π a w.drew) : (Code.region id l.toArray true).wpIn (Fence.wide.inRound r) n P Q a w := by
  refine wpIn_region_draw fun t => ?_
  simp only [Region.schedule, hm, Bool.true_or, if_true]
  refine wpOpsIn_of_wpOps r hd ho _ _ _ (wpAny_sound _ t _ a _ (wpAny_of_G _ _ _ _ (S := S) (bar := bar) ?_))
  have := wpAnyG_of_nf hs hQ π (Array.replicate l.length false) a w.drew hB h
  rw [hn] at this
  simpa using this
/-- .. a region that draws no order -/
theorem wpIn_region_plain {id n : Nat} (r : Nat) {a : Act} {w : World} (hd : noDefer ops = true) (ho : ¬ LetsOut Q) (h : (wpOps P ops Q (List.range ops.size) a w)) : (Code.region id ops false).wpIn (Fence.wide.inRound r) n P Q a w :=
  wpIn_region (wpOpsIn_of_wpOps r hd ho _ _ _ h)
/-- .. by any order, what 'go_region' shows -/
theorem wpIn_region_of_any {id n : Nat} (r : Nat) {a : Act} {w : World} (hm : P.follows .mixedOrders = true) (hd : noDefer ops = true) (ho : ¬ LetsOut Q)
    (h : wpAny P .any ops Q ops.size (Array.replicate ops.size false) a { w with drawn := w.drawn + 1 }) : (Code.region id ops true).wpIn (Fence.wide.inRound r) n P Q a w := by
  refine wpIn_region_draw fun t => ?_
  simp only [Region.schedule, hm, Bool.true_or, if_true]
  exact wpOpsIn_of_wpOps r hd ho _ _ _ (wpAny_sound _ t _ a _ h)
end
end Go.Proofs.YtmhmdoobadckkaaGreatDoor
/- Ranges over a function, at the wide fence, in plain words: the caller's law, the way out of the function. -/
namespace Go.Proofs.YtmhmdoobadckkaaGreatDoor
set_option maxRecDepth 20000
open Go.RowKit

/-! ### what abides the turn of a block that is no cells, at or beyond B -/
section
variable {W W' : World} {B : Nat} {row : Option Nat}
abbrev FarRow (B : Nat) (W : World) (row : Option Nat) : Prop := ∀ r, row = some r → B ≤ r ∧ ∃ o : Obj, W.heap[r]? = some o ∧ o.isCells = false
theorem Blk.turn {g : Nat} {t : TypeId} {cs : Array Value} (h : Blk W g t cs) (hg : W.grownBy W' row) (hr : FarRow B W row) : Blk W' g t cs :=
  h.grown hg (fun e => by
    obtain ⟨_, o, ho, hc⟩ := hr g e.symm
    unfold Blk at h
    rw [h] at ho
    cases ho
    cases hc)
theorem OwnB.turn {base : Nat} {v : Value} {l : List UInt8} (h : OwnB W base v l) (hg : W.grownBy W' row) (hr : FarRow B W row) : OwnB W' base v l := by
  refine World.ownsRow.kept h hg ?_
  rcases h.2 with ⟨rfl, _⟩ | ⟨g, cap, cur, rfl, _, hgb, _⟩
  · exact .inl rfl
  · refine .inr fun e => ?_
    obtain ⟨_, o, ho, hc⟩ := hr g (by simpa [Value.ownBlock] using e.symm)
    rw [hgb] at ho
    cases ho
    cases hc
theorem below_turn {n₀ : Nat} {w : World} (h : Below n₀ w W) (hn : n₀ ≤ w.heap.size) (hB : n₀ ≤ B) (hg : W.grownBy W' row) (hr : FarRow B W row) : Below n₀ w W' :=
  h.grown hg (Nat.le_trans hn h.size) (fun k e => Nat.le_trans hB (hr k e).1)
end

theorem keeps_app {W W' : World} {B base : Nat} {v : Value} {l : List UInt8} (h : OwnB W base v l) (hg : W.grownBy W' v.ownBlock) : KeepsFrom B W W' := by
  refine ⟨hg.size, fun k o _ hk ho => (hg.block k (Array.getElem?_eq_some_iff.1 hk).1 (fun e => ?_)).trans hk⟩
  rcases h.2 with ⟨rfl, _⟩ | ⟨g, cap, cur, rfl, _, hgb, _⟩
  · simp [Value.ownBlock] at e
  · obtain rfl : k = g := by simpa [Value.ownBlock] using e
    rw [hgb] at hk
    cases hk
    cases ho

/-- THE CALLER's LAW, outside of any round. -/
theorem wp_range {P : Program} {α : Type} {g : Operand} {ps : Array Tmp} {assign body : Code} {Q : Exit → Act → World → Prop} {a : Act} {w : World} (n₀ : Nat) (hn₀ : n₀ ≤ w.heap.size)
    {gf : Nat} {lb : Array Value} (hg : a.eval g = .func (.func gf) #[] lb) (eg : ∀ args w, (callFunc gf args).run P w = .ok (.enter gf args) w)
    {encs : α → Array Value} {S Sp : List α → Prop} {N : Nat} (hseq : SeqStopsK Fence.wide 4 P gf lb encs (Below n₀) S Sp N w) (hps : ∀ x, (encs x).size = ps.size)
    (I : List α → World → Prop) (Ix : Code → List α → World → Prop) (hI : OwnFrom w.heap.size I) (hIx : ∀ c, OwnFrom w.heap.size (Ix c)) (h0 : I [] w)
    (hround : ∃ a₁ : α → Act, (∀ (l : Nat) (x : α) (W : World) (K : Act → World → Prop), K (a₁ x) W →
        assign.wpIn (Fence.wide.inRound l) 3 P (Exit.then K (fun _ _ _ => False)) { tmps := (ps.zip (encs x)).foldl (fun t (p, v) => t.setIfInBounds p v) a.tmps, defers := [] } W) ∧
      (∀ (l : Nat) (pre : List α) (x : α) (W : World), I pre W → pre.length < N → body.wpIn (Fence.wide.inRound l) 3 P (ownPostG w.heap.size (Below n₀) I Ix (pre ++ [x]) W) (a₁ x) W))
    (hdone : ∀ (D : Nat) (xs : List α) (W : World), w.heap.size ≤ D → S xs → I xs W → W.heap[D]? = some (.deferred (some [])) → Q .normal { a with defers := { target := .collected D, args := #[] } :: a.defers } W)
    (hstop : ∀ (D : Nat) (c : Code) (pre : List α) (W : World), w.heap.size ≤ D → Sp pre → Ix c pre W → W.heap[D]? = some (.deferred (some [])) → c.wp P Q { a with defers := { target := .collected D, args := #[] } :: a.defers } W) :
    (Code.rangeFunc g ps assign body).wp P Q a w := by
  obtain ⟨a₁, hassign, hbody⟩ := hround
  refine (wpIn_wide (n := 5)).1 ?_
  exact wpIn_rangeFunc_ownG (F := Fence.wide) rfl (by omega) hg trivial eg hseq belowK_t (belowK_b hn₀) (Below.refl _ _) hps I Ix hI hIx h0 a₁ hassign hbody hdone
    (fun D c pre W h1 h2 h3 h4 => wpIn_wide.2 (hstop D c pre W h1 h2 h3 h4))

/-- THE FUNCTION's CONTRACT FROM ITS BODY. -/
theorem calls_marks {P : Program} {f : FuncId} {fn : Func} {c : Code} {args : Array Value} {w : World} {R : Ending → World → Prop} (hf : P.funcs[f]? = some fn) (hb : fn.body = some c)
    (h : c.wp P (bodyPostM Fence.wide 5 P fn R) { tmps := args ++ Array.replicate (fn.ntmps - args.size) undef, defers := [] } w) : Calls P f args w R :=
  (callsIn_wide (n := 5)).1 (callsIn_of_wp_marks hf hb trivial (wpIn_wide.2 h))

/-- THE WAY OUT with no mark. -/
theorem ret_plain {P : Program} {fn : Func} {R : Ending → World → Prop} {a : Act} {w : World} {v : Value} (hd : a.defers = []) (hv : (results fn a.tmps).run P w = .ok v w) (hR : R (.returned v) w) :
    bodyPostM Fence.wide 5 P fn R .ret a w := by
  show LeavesInM _ _ _ _ _ _ a.defers _ _
  rw [hd]
  exact ⟨v, hv, hR⟩
/-- THE WAY OUT behind one range. -/
theorem ret_mark {P : Program} {fn : Func} {R : Ending → World → Prop} {a : Act} {w : World} {D : Nat} {v : Value} (hd : a.defers = [{ target := .collected D, args := #[] }]) (hD : w.heap[D]? = some (.deferred (some [])))
    (hv : (results fn a.tmps).run P (w.putObj D (.deferred none)) = .ok v (w.putObj D (.deferred none))) (hR : R (.returned v) (w.putObj D (.deferred none))) :
    bodyPostM Fence.wide 5 P fn R .ret a w := by
  show LeavesInM _ _ _ _ _ _ a.defers _ _
  rw [hd]
  refine ⟨by simp, .inl ⟨D, _, rfl, run_takeDeferred hD, ?_⟩⟩
  exact ⟨v, hv, hR⟩
end Go.Proofs.YtmhmdoobadckkaaGreatDoor
/- The sectors of a place, as an iterator; ranges whose iterator has a box of its own. -/
namespace Go.Proofs.YtmhmdoobadckkaaGreatDoor
set_option maxRecDepth 20000
open Go.RowKit Go.OpenShut
attribute [local go_sem] Oper.semAt_some

theorem grown_of_below {W W' : World} (h : Below W.heap.size W W') : W.grownBy W' none := ⟨h.os, h.tape, h.output, h.size, fun i hi _ => h.block i hi⟩
/-- what a round keeps: all below n₀, and the iterator's box -/
def KBox (n₀ Bs : Nat) (A B : World) : Prop := Below n₀ A B ∧ B.heap[Bs]? = A.heap[Bs]?
theorem KBox.trans {n₀ Bs : Nat} {A B C : World} (h : KBox n₀ Bs A B) (k : KBox n₀ Bs B C) : KBox n₀ Bs A C := ⟨h.1.trans k.1, k.2.trans h.2⟩
/-- THE CALLER's LAW where the iterator keeps a box Bs. -/
theorem wp_rangeB {P : Program} {α : Type} {g : Operand} {ps : Array Tmp} {assign body : Code} {Q : Exit → Act → World → Prop} {a : Act} {w : World} (n₀ Bs : Nat) (hn₀ : n₀ ≤ w.heap.size) (hBs : Bs < w.heap.size)
    {gf : Nat} {lb : Array Value} (hg : a.eval g = .func (.func gf) #[] lb) (eg : ∀ args w, (callFunc gf args).run P w = .ok (.enter gf args) w)
    {encs : α → Array Value} {S Sp : List α → Prop} {N : Nat} (hseq : SeqStopsK Fence.wide 4 P gf lb encs (KBox n₀ Bs) S Sp N w) (hps : ∀ x, (encs x).size = ps.size)
    (I : List α → World → Prop) (Ix : Code → List α → World → Prop) (hI : OwnFrom w.heap.size I) (hIx : ∀ c, OwnFrom w.heap.size (Ix c)) (h0 : I [] w)
    (hround : ∃ a₁ : α → Act, (∀ (l : Nat) (x : α) (W : World) (K : Act → World → Prop), K (a₁ x) W →
        assign.wpIn (Fence.wide.inRound l) 3 P (Exit.then K (fun _ _ _ => False)) { tmps := (ps.zip (encs x)).foldl (fun t (p, v) => t.setIfInBounds p v) a.tmps, defers := [] } W) ∧
      (∀ (l : Nat) (pre : List α) (x : α) (W : World), I pre W → pre.length < N → body.wpIn (Fence.wide.inRound l) 3 P (ownPostG w.heap.size (KBox n₀ Bs) I Ix (pre ++ [x]) W) (a₁ x) W))
    (hdone : ∀ (D : Nat) (xs : List α) (W : World), w.heap.size ≤ D → S xs → I xs W → W.heap[D]? = some (.deferred (some [])) → Q .normal { a with defers := { target := .collected D, args := #[] } :: a.defers } W)
    (hstop : ∀ (D : Nat) (c : Code) (pre : List α) (W : World), w.heap.size ≤ D → Sp pre → Ix c pre W → W.heap[D]? = some (.deferred (some [])) → c.wp P Q { a with defers := { target := .collected D, args := #[] } :: a.defers } W) :
    (Code.rangeFunc g ps assign body).wp P Q a w := by
  obtain ⟨a₁, hassign, hbody⟩ := hround
  refine (wpIn_wide (n := 5)).1 ?_
  exact wpIn_rangeFunc_ownG (F := Fence.wide) rfl (by omega) hg trivial eg hseq KBox.trans
    (fun W l o o' hl h h1 h2 => ⟨belowK_b hn₀ W l o o' hl h h1 h2, (grownBy_putObj' W l o').block Bs (Nat.lt_of_lt_of_le hBs (Nat.le_trans hl (Nat.le_of_lt (Array.getElem?_eq_some_iff.1 h).1))) (by simp; omega)⟩) (Below.refl _ _) hps I Ix hI hIx h0 a₁ hassign hbody hdone
    (fun D c pre W h1 h2 h3 h4 => wpIn_wide.2 (hstop D c pre W h1 h2 h3 h4))
theorem psectors_any (w : World) (S : RS) (L : SL) (row off : Nat) :
    Calls Tryz.prog 86 #[placeV S L row off] w fun e w' => e = .returned (.func (.func 176) #[] #[.pointer (some ⟨w.heap.size, 0, none⟩)]) ∧ w' = w.alloc (.cells (placeCs S L row off) 147) := by
  unfold placeV placeCs
  go_enter Tryz.func86, Tryz.ntmps86
  go_wp2_with fail
  go_ret
  exact ⟨rfl, rfl⟩
def secEnc (S : RS) (σ : Nat → Option Drv) (row off : Nat) (x : Nat) : Array Value := #[.string (S.secS σ row off x), .int .i64 (S.secE σ row off x)]
set_option maxRecDepth 100000 in
set_option maxHeartbeats 4000000 in
theorem sectors1_in (l Bs n₀ : Nat) (w0 : World) (hn₀ : n₀ = w0.heap.size) (σ : Nat → Option Drv) (R : Nat → Prop) (S : RS) (L : SL) (h : SetIn w0 σ R S L) (row off : Nat) (hr : row < S.r) (ho : off < S.k) (_hBn : n₀ ≤ Bs) (J Jx : List Nat → World → Prop) (W : World) (hJA : AbidesFrom W.heap.size J)
    (hY : ∀ pre x W, J pre W → pre.length < S.n → YieldAt Fence.wide 3 Tryz.prog l (secEnc S σ row off x) W fun e W' =>
      (e = .returned (.bool true) ∧ J (pre ++ [x]) W' ∧ KBox n₀ Bs W W') ∨ (e = .returned (.bool false) ∧ Jx (pre ++ [x]) W'))
    (hw : Below n₀ w0 W) (hB : Blk W Bs 147 (placeCs S L row off)) (h0 : J [] W) :
    CallsIn Fence.wide 4 Tryz.prog 176 #[.func (.yield l) #[] #[], .pointer (some ⟨Bs, 0, none⟩)] W fun e W' => (∃ v, e = .returned v) ∧
      ((∃ ys : List Nat, ys = List.range S.n ∧ J ys W') ∨ (∃ pre : List Nat, True ∧ Jx pre W')) := by
  have hg := geo_bd h.ok.geo
  have HSE := Lib.hid (fun V (hb : Below n₀ w0 V) x (hx : x < S.n) => psec_any V σ R S L (h.below (hn₀ ▸ hb)) row off x hr ho hx)
  have HJA := Lib.hid hJA
  have HJ := Lib.hid h0
  have HW := Lib.hid hw
  have HB := Lib.hid hB
  have HY := Lib.hid hY
  have hn10 : (S.n : Int) ≤ 10 := by omega
  have hq := hB.cell
  unfold placeV at HSE
  clear h hr ho hJA h0 hw hB hY hg
  refine callsIn_of_wp Tryz.func176 rfl trivial ?_ rfl
  simp only [Tryz.ntmps176, List.size_toArray, List.length_cons, List.length_nil, Nat.reduceAdd, Nat.reduceSub, Array.replicate_succ, Array.replicate_zero, List.push_toArray, List.append_toArray, List.nil_append, List.cons_append]
  unfold placeCs at hq
  gi_wp2
  clear hq
  gi_loopw [8] (fun i wr => ∃ k : Nat, k ≤ S.n ∧ i = .int .i64 k ∧ J (List.range k) wr ∧ KBox n₀ Bs W wr) (fun i _ => S.n - (intOf i).toNat)
  case atStart => exact ⟨0, Nat.zero_le _, rfl, HJ.out, ⟨Below.refl _ _, rfl⟩⟩
  case round =>
    obtain ⟨k, hk, rfl, hJ, hK⟩ := hrel
    by_cases hlt : k < S.n
    · have hBr : Blk wr Bs 147 (placeCs S L row off) := hK.2.trans HB.out
      have hq := hBr.cell
      have HC := Lib.hid (HSE.out wr (HW.out.trans hK.1) k hlt)
      have HYY := Lib.hid (fun V (hV : J (List.range k) V) => HY.out (List.range k) k V hV (by rw [List.length_range]; exact hlt))
      have HK := Lib.hid hK
      have HJ2 := Lib.hid hJ
      have HSZ := Lib.hid (show W.heap.size ≤ wr.heap.size from hK.1.size)
      have HBL := Lib.hid hBr.lt
      clear hJ hK hBr
      unfold secEnc at HYY
      generalize S.secS σ row off k = s at *
      generalize S.secE σ row off k = E at *
      unfold placeCs at hq HC
      gi_wp2_with fail
      refine ⟨trivial, (callsIn_wide.2 HC.out).mono ?_⟩
      rintro e W2 ⟨rfl, hb2⟩
      have hJ2 : J (List.range k) W2 := HJA.out _ _ _ none HJ2.out (grown_of_below hb2) (fun r e => by cases e)
      obtain ⟨fn, tmps, assign, body, hy, hR⟩ := HYY.out W2 hJ2
      have HK2 := Lib.hid (show KBox n₀ Bs W W2 from HK.out.trans ⟨hb2.mono (by have := HSZ.out; have := HW.out.size; omega), hb2.block Bs HBL.out⟩)
      clear hq hb2
      gi_wp2
      refine hR.mono ?_
      rintro e W3 (⟨rfl, hJ3, hk3⟩ | ⟨rfl, hJx3⟩)
      · gi_wp2
        go_roundw
        case rel => exact ⟨k + 1, by omega, by go_num, by rw [List.range_succ]; exact hJ3, HK2.out.trans hk3⟩
        case measure => simp [intOf]; omega
      · gi_wp2
        refine bodyPost_ret (results_none rfl _ _ _) rfl ?_
        exact ⟨⟨_, rfl⟩, .inr ⟨_, trivial, hJx3⟩⟩
    · obtain rfl : k = S.n := by omega
      gi_wp2
      go_end0
      exact ⟨⟨_, rfl⟩, .inl ⟨_, rfl, hJ⟩⟩
end Go.Proofs.YtmhmdoobadckkaaGreatDoor
/- A slice of strings that can be read. -/
namespace Go.Proofs.YtmhmdoobadckkaaGreatDoor
set_option maxRecDepth 20000
open Go.RowKit Go.OpenShut

def StrsA (w : World) (B : Nat) (A : Option Addr) (n : Nat) (xs : List ByteArray) : Prop :=
  xs.length = n ∧ (0 < n → ∃ b off, A = some ⟨b, off, none⟩ ∧ b < B ∧ ∀ j, j < n → w.cell? ⟨b, off + j, none⟩ = some (.string (xs.getD j ⟨#[]⟩)))
section
variable {w w' : World} {B B' : Nat} {A : Option Addr} {n : Nat} {xs : List ByteArray}
theorem StrsA.below (h : StrsA w B A n xs) (hb : Below B w w') : StrsA w' B A n xs :=
  ⟨h.1, fun h0 => by
    obtain ⟨b, off, e, hlt, hc⟩ := h.2 h0
    exact ⟨b, off, e, hlt, fun j hj => (hb.cell (p := ⟨b, off + j, none⟩) hlt).trans (hc j hj)⟩⟩
theorem StrsA.mono (h : StrsA w B A n xs) (hB : B ≤ B') : StrsA w B' A n xs :=
  ⟨h.1, fun h0 => by
    obtain ⟨b, off, e, hlt, hc⟩ := h.2 h0
    exact ⟨b, off, e, Nat.lt_of_lt_of_le hlt hB, hc⟩⟩
theorem StrsA.drew (h : StrsA w B A n xs) : StrsA w.drew B A n xs := h
theorem StrsA.blk {g : Nat} {t : TypeId} (h : Blk w g t (xs.map Value.string).toArray) (hn : xs.length = n) (hB : g < B) : StrsA w B (some ⟨g, 0, none⟩) n xs := by
  refine ⟨hn, fun _ => ⟨g, 0, rfl, hB, fun j hj => ?_⟩⟩
  rw [h.cell, Nat.zero_add]
  simp [List.getD, hn ▸ hj]
theorem StrsA.take (h : StrsA w B A n xs) (k : Nat) (hk : k ≤ n) : StrsA w B A k (xs.take k) := by
  refine ⟨by rw [List.length_take, h.1]; omega, fun h0 => ?_⟩
  obtain ⟨b, off, e, hlt, hc⟩ := h.2 (by omega)
  refine ⟨b, off, e, hlt, fun j hj => ?_⟩
  rw [hc j (by omega)]
  simp [List.getD, hj]
theorem StrsA.drop {b off : Nat} (h : StrsA w B (some ⟨b, off, none⟩) n xs) (k : Nat) (_hk : k ≤ n) : StrsA w B (some ⟨b, off + k, none⟩) (n - k) (xs.drop k) := by
  refine ⟨by rw [List.length_drop, h.1], fun h0 => ?_⟩
  obtain ⟨b', off', e, hlt, hc⟩ := h.2 (by omega)
  cases e
  refine ⟨b, off + k, rfl, hlt, fun j hj => ?_⟩
  rw [Nat.add_assoc, hc (k + j) (by omega)]
  simp [List.getD]
end
theorem take_snocS (l : List ByteArray) (k : Nat) (h : k < l.length) : l.take (k + 1) = l.take k ++ [l.getD k ⟨#[]⟩] := by
  rw [List.take_succ_eq_append_getElem h]
  simp [List.getD, h]
end Go.Proofs.YtmhmdoobadckkaaGreatDoor
/- Slices of strings of the call's own; what the frame tells of one that came in. -/
namespace Go.Proofs.YtmhmdoobadckkaaGreatDoor
set_option maxRecDepth 20000
open Go.RowKit Go.OpenShut

def svs (l : List ByteArray) : List Value := l.map Value.string
theorem svs_len (l : List ByteArray) : (svs l).length = l.length := by simp [svs]
theorem svs_get {l : List ByteArray} {i : Nat} (h : i < l.length) : (svs l)[i]? = some (.string l[i]) := by simp [svs, h]
theorem svs_one (l : List ByteArray) : ∀ u ∈ svs l, u.oneCell' = true := by
  intro u hu
  obtain ⟨b, _, rfl⟩ := List.mem_map.1 hu
  rfl
def OwnS (w : World) (base : Nat) (v : Value) (l : List ByteArray) : Prop := w.ownsRow base 9 1 v l.length (svs l)
section
variable {w w' : World} {base : Nat} {v : Value} {l : List ByteArray}
theorem OwnS.drew (h : OwnS w base v l) : OwnS w.drew base v l := h
theorem OwnS.alloc (h : OwnS w base v l) (o : Obj) : OwnS (w.alloc o) base v l := World.ownsRow.alloc h o
theorem OwnS.below (h : OwnS w base v l) (hb : Below w.heap.size w w') : OwnS w' base v l := by
  obtain ⟨h1, h2⟩ := h
  refine ⟨h1, ?_⟩
  rcases h2 with h2 | ⟨g, cap, cur, hv, hg, hh, r⟩
  · exact Or.inl h2
  · refine Or.inr ⟨g, cap, cur, hv, hg, ?_, r⟩
    have hlt : g < w.heap.size := by
      rcases Nat.lt_or_ge g w.heap.size with hlt | hge
      · exact hlt
      · rw [Array.getElem?_eq_none hge] at hh; cases hh
    rw [hb.block g hlt]; exact hh
theorem OwnS.shape (h : OwnS w base v l) : ∃ A c, v = .slice A l.length c ∧ l.length ≤ c := by
  rcases h.2 with ⟨rfl, h0⟩ | ⟨g, cap, cur, rfl, _, _, hl, _⟩
  · exact ⟨none, 0, by rw [h0], by omega⟩
  · exact ⟨_, _, rfl, hl⟩
theorem OwnS.strs {A : Option Addr} {n c : Nat} (h : OwnS w base (.slice A n c) l) : StrsA w w.heap.size A n l := by
  have hcl := fun g hg => World.ownsRow.cells (g := g) h hg
  obtain ⟨h1, h2⟩ := h
  rcases h2 with ⟨e, h0⟩ | ⟨g, cap, cur, e, hg, hh, r⟩
  · cases e
    exact ⟨h0, fun h => by omega⟩
  · cases e
    refine ⟨rfl, fun _ => ⟨g, 0, rfl, ?_, fun j hj => ?_⟩⟩
    · rcases Nat.lt_or_ge g w.heap.size with hlt | hge
      · exact hlt
      · rw [Array.getElem?_eq_none hge] at hh; cases hh
    · have h3 := hcl g rfl j _ (svs_get hj)
      have e : (⟨g, 0, none⟩ : Addr).add j = ⟨g, 0 + j, none⟩ := by unfold Addr.add; split <;> simp_all
      rw [e] at h3
      rw [h3]
      simp [List.getD, hj]
theorem OwnS.new (w : World) (base : Nat) (hb : base ≤ w.heap.size) : OwnS (w.alloc (.cells #[] 9)) base (.slice (some ⟨w.heap.size, 0, none⟩) 0 0) [] :=
  ⟨rfl, Or.inr ⟨w.heap.size, 0, #[], rfl, hb, heap_alloc_new w _, Nat.le_refl _, Nat.zero_le _, rfl, rfl⟩⟩
theorem OwnS.far (h : OwnS w base v l) {p : Addr} (hp : some p.block ≠ v.ownBlock) (u : Value) : OwnS (w.setCell p u) base v l := by
  obtain ⟨h1, h2⟩ := h
  refine ⟨h1, ?_⟩
  rcases h2 with h2 | ⟨g, cap, cur, rfl, hg, hh, r⟩
  · exact Or.inl h2
  · refine Or.inr ⟨g, cap, cur, rfl, hg, ?_, r⟩
    rw [Below.heap_setCell w p u g (fun e => hp (by rw [← e]; rfl))]
    exact hh
theorem OwnS.grown {row : Option Nat} (h : OwnS w base v l) (hg : w.grownBy w' row) (hn : v.ownBlock = none ∨ v.ownBlock ≠ row) : OwnS w' base v l :=
  World.ownsRow.kept h hg hn
end
theorem info_string : (Tryz.prog.info? 9).map (fun i => (i.zero, i.size, i.bytes)) = some (some (.string ⟨#[]⟩), 1, 16) := by kernel_rfl

theorem wp_appS {w : World} {ops : Array Oper} {rest : List Oper} {o : Oper} {a : Act} {Q : Exit → Act → World → Prop} (hgd : o.guard = none) (s x : Operand)
    (ho : o.op = .call { callee := .builtin .append, args := #[s, x], argTypes := #[22, 22] })
    (base : Nat) (v : Value) (l : List ByteArray) (hown : OwnS w base v l) (hs : a.eval s = v) (A : Option Addr) (m c : Nat) (b : List ByteArray) (hx : a.eval x = .slice A m c) (hb : StrsA w w.heap.size A m b) (hc0 : A = none → c = 0)
    (hlen : l.length + m < 4294967296) (hbase : base ≤ w.heap.size)
    (h : ∀ v' w', OwnS w' base v' (l ++ b) → w.grownBy w' v.ownBlock → Below base w w' → wpList Tryz.prog ops Q rest (a.put o.dst v') w') : wpList Tryz.prog ops Q (o :: rest) a w := by
  obtain ⟨i0, hi, hz0, hz1, hz2⟩ := info_parts info_string
  obtain ⟨hbl, hb2⟩ := hb
  cases A with
  | none =>
    obtain rfl := hc0 rfl
    have hm : m = 0 := by
      rcases Nat.eq_zero_or_pos m with e | e
      · exact e
      · obtain ⟨_, _, h0, _⟩ := hb2 e
        cases h0
    subst hm
    have hbn : b = [] := List.eq_nil_of_length_eq_zero hbl
    subst hbn
    refine wpList_append_own_none hgd s x 22 ho base 9 i0 1 Tryz.underlying22 hi v l.length (svs l) hs hown hx ?_
    refine h v w ?_ (World.grownBy.refl _ _) (Below.refl _ _)
    rw [List.append_nil]
    exact hown
  | some ad =>
    refine wpList_append_own _ hgd s x 22 ho base 9 i0 (.string ⟨#[]⟩) 1 16 Tryz.underlying22 hi hz0 hz1 hz2 rfl (by decide) v l.length (svs l) hs hown ad m c (svs b) hx (by rw [svs_len, hbl, Nat.mul_one]) ?_ (svs_one b) (by unfold maxLen; omega) (by omega) hbase ?_
    · intro j u hj
      have hj' : j < b.length := by
        rcases Nat.lt_or_ge j b.length with e | e
        · exact e
        · rw [List.getElem?_eq_none (by rw [svs_len]; exact e)] at hj; cases hj
      rw [svs_get hj'] at hj
      cases hj
      obtain ⟨g, off, e, _, hcc⟩ := hb2 (by omega)
      cases e
      have e : (⟨g, off, none⟩ : Addr).add j = ⟨g, off + j, none⟩ := by unfold Addr.add; split <;> simp_all
      rw [e, hcc j (by omega)]
      simp [List.getD, hj']
    · intro v' w' h1 h2 _
      refine h v' w' ?_ h2 ((Below.refl _ _).grown h2 hbase (fun k hk => (World.ownsRow.lt hown k hk).1))
      unfold OwnS
      have e : svs (l ++ b) = svs l ++ svs b := by simp [svs]
      rw [e, List.length_append, hbl]
      exact h1
theorem StrsA.one {w : World} {g : Nat} {t : TypeId} {x : ByteArray} (h : Blk w g t #[.string x]) : StrsA w w.heap.size (some ⟨g, 0, none⟩) 1 [x] := StrsA.blk (xs := [x]) h rfl h.lt

/-- what the rows' frames tell of a slice of strings that came in -/
def StrsIn (w : World) (a : Option Addr) (len cap : Nat) (xs : List ByteArray) : Prop :=
  StrsA w w.heap.size a len xs ∧ len ≤ cap ∧ cap ≤ maxLen ∧ (a = none → cap = 0) ∧ ∀ x ∈ xs, x.size ≤ maxLen
theorem StrsIn.nil_ (w : World) : StrsIn w none 0 0 [] := ⟨⟨rfl, fun h => by omega⟩, Nat.le_refl _, Nat.zero_le _, fun _ => rfl, fun x hx => by cases hx⟩
theorem StrsIn.row {w : World} {x : Addr} {len cap : Nat} {zs : List ByteArray} (h1 : len ≤ cap) (h2 : cap ≤ maxLen) (h3 : zs.length = cap) (h4 : ∀ i, i < zs.length → w.cell? (x.add i) = some (.string (zs.getD i ByteArray.empty))) (h5 : ∀ s ∈ zs, s.size ≤ maxLen) :
    StrsIn w (some x) len cap (zs.take len) := by
  refine ⟨⟨by simp; omega, fun h0 => ?_⟩, h1, h2, (fun h => by cases h), fun s hs => h5 s (List.mem_of_mem_take hs)⟩
  obtain ⟨b, off, sp⟩ := x
  have hb : b < w.heap.size ∧ sp = none := by
    have h6 := h4 0 (by omega)
    unfold Addr.add at h6
    rw [if_pos rfl] at h6
    unfold World.cell? at h6
    split at h6
    · rename_i heq
      refine ⟨(Array.getElem?_eq_some_iff.1 heq).1, ?_⟩
      cases sp with
      | none => rfl
      | some _ => simp at h6
    · cases h6
  obtain ⟨hb, rfl⟩ := hb
  refine ⟨b, off, rfl, hb, fun j hj => ?_⟩
  have h6 := h4 j (by omega)
  have e : (⟨b, off, none⟩ : Addr).add j = ⟨b, off + j, none⟩ := by unfold Addr.add; split <;> simp_all
  rw [e] at h6
  rw [h6]
  have h7 : j < zs.length := by omega
  simp [List.getD, h7, hj]
end Go.Proofs.YtmhmdoobadckkaaGreatDoor
namespace Go.Proofs.YtmhmdoobadckkaaGreatDoor
set_option maxRecDepth 20000
open Go.RowKit Go.OpenShut
attribute [local go_sem] Oper.semAt_some

/-- places of bytes: whose number's, which one -/
def placesF : Nat → List Int → List (Nat × Nat)
  | _, [] => []
  | i, x :: r => ((List.range x.toNat).map fun k => (i, k)) ++ placesF (i + 1) r
theorem placesF_snoc (i : Nat) (l : List Int) (x : Int) : placesF i (l ++ [x]) = placesF i l ++ ((List.range x.toNat).map fun k => (i + l.length, k)) := by
  induction l generalizing i with
  | nil => simp [placesF]
  | cons y l ih =>
    simp only [List.cons_append, placesF, ih, List.append_assoc, List.length_cons]
    congr 3
    funext k
    congr 1
    omega
def placesP (ws : List Int) (i k : Nat) : List (Nat × Nat) := placesF 0 (ws.take i) ++ ((List.range k).map fun k => (i, k))
theorem placesP_next (ws : List Int) (i k : Nat) : placesP ws i (k + 1) = placesP ws i k ++ [(i, k)] := by simp [placesP, List.range_succ]
theorem placesP_zero (ws : List Int) (i : Nat) : placesP ws i 0 = placesF 0 (ws.take i) := by simp [placesP]
theorem placesP_over (ws : List Int) (i : Nat) (h : i < ws.length) : placesP ws i (ws.getD i 0).toNat = placesP ws (i + 1) 0 := by
  rw [placesP_zero, take_snocI ws i h, placesF_snoc]
  simp [placesP, Nat.min_eq_left (Nat.le_of_lt h)]
theorem placesF_length (i : Nat) (l : List Int) (h : ∀ x ∈ l, 1 ≤ x ∧ x ≤ 8) : ((placesF i l).length : Int) = sumW l := by
  induction l generalizing i with
  | nil => rfl
  | cons y l ih =>
    have h1 := h y (by simp)
    have h2 := ih (i + 1) (fun x hx => h x (by simp [hx]))
    simp only [placesF, List.length_append, List.length_map, List.length_range, sumW]
    omega
theorem sumW_append (l m : List Int) : sumW (l ++ m) = sumW l + sumW m := by
  induction l with
  | nil => simp [sumW]
  | cons y l ih => simp only [List.cons_append, sumW, ih]; omega
theorem placesP_lt (ws : List Int) (h : ∀ x ∈ ws, 1 ≤ x ∧ x ≤ 8) (i k : Nat) (hi : i < ws.length) (hk : (k : Int) < ws.getD i 0) : ((placesP ws i k).length : Int) < sumW ws := by
  have h1 := placesF_length 0 (ws.take i) (fun x hx => h x (List.mem_of_mem_take hx))
  have h2 : ws = ws.take (i + 1) ++ ws.drop (i + 1) := (List.take_append_drop _ _).symm
  have h3 : sumW ws = sumW (ws.take i) + ws.getD i 0 + sumW (ws.drop (i + 1)) := by
    conv => lhs; rw [h2]
    rw [sumW_append, take_snocI ws i hi, sumW_snoc]
  have h4 := (sumW_bd (ws.drop (i + 1)) (fun x hx => h x (List.mem_of_mem_drop hx))).1
  simp only [placesP, List.length_append, List.length_map, List.length_range]
  omega

abbrev Pl (n : Nat) := { p : Nat × Nat // p.1 < n ∧ p.2 < 8 }
def plEnc {n : Nat} (x : Pl n) : Array Value := #[.int .i64 (x.1.1 : Int), .int .i64 (8 * (x.1.2 : Int))]

theorem places_any (w : World) (A : Option Addr) (n c : Nat) :
    Calls Tryz.prog 159 #[.slice A n c] w fun e w' => e = .returned (.func (.func 232) #[] #[.pointer (some ⟨w.heap.size, 0, none⟩)]) ∧ w' = w.alloc (.cells #[.slice A n c] 30) := by
  go_enter Tryz.func159, Tryz.ntmps159
  go_wp2
  go_ret
  exact ⟨rfl, rfl⟩

set_option maxRecDepth 100000 in
set_option maxHeartbeats 2000000 in
theorem places1_in (m : Nat) (hm : 1 ≤ m) (l Bs n₀ : Nat) (A : Option Addr) (n c : Nat) (ws : List Int) (hws : ∀ x ∈ ws, 1 ≤ x ∧ x ≤ 8) (hn : n ≤ 4294967295) (J Jx : List (Pl n) → World → Prop)
    (hY : ∀ pre x W, J pre W → pre.length < (sumW ws).toNat → YieldAt Fence.wide (m - 1) Tryz.prog l (plEnc x) W fun e W' =>
      (e = .returned (.bool true) ∧ J (pre ++ [x]) W' ∧ Below n₀ W W') ∨ (e = .returned (.bool false) ∧ Jx (pre ++ [x]) W'))
    (W : World) (hBs : W.cell? ⟨Bs, 0, none⟩ = some (.slice A n c)) (hI : IntsA W n₀ .i64 A n ws) (h0 : J [] W) :
    CallsIn Fence.wide m Tryz.prog 232 #[.func (.yield l) #[] #[], .pointer (some ⟨Bs, 0, none⟩)] W fun e W' => (∃ v, e = .returned v) ∧
      ((∃ ys : List (Pl n), ys.map (·.1) = placesF 0 ws ∧ J ys W') ∨ (∃ pre : List (Pl n), True ∧ Jx pre W')) := by
  have HL := Lib.hid hI.1
  have HWS := Lib.hid hws
  clear hws
  refine callsIn_of_wp Tryz.func232 rfl trivial ?_ rfl
  simp only [Tryz.ntmps232, List.size_toArray, List.length_cons, List.length_nil, Nat.reduceAdd, Nat.reduceSub, Array.replicate_succ, Array.replicate_zero, List.push_toArray, List.append_toArray, List.nil_append, List.cons_append]
  gi_wp2
  gi_loopw [8] (fun i wr => ∃ (k : Nat) (pre : List (Pl n)), k ≤ n ∧ i = .int .i64 k ∧ pre.map (·.1) = placesP ws k 0 ∧ J pre wr ∧ Below n₀ W wr) (fun i _ => n - (intOf i).toNat)
  case atStart => exact ⟨0, [], Nat.zero_le _, rfl, by simp [placesP, placesF], h0, Below.refl _ _⟩
  case round =>
    obtain ⟨k, pre, hk, rfl, hpre, hJ, hnx⟩ := hrel
    have HP := Lib.hid hpre
    clear hpre
    by_cases hlt : k < n
    · have hI2 := hI.below hnx
      obtain ⟨b, off, rfl, hbn, hc⟩ := hI2.2 (by omega)
      have hck := hc k hlt
      have hkl : k < ws.length := by rw [HL.out]; exact hlt
      have hx : ws.getD k 0 ∈ ws := by simp [List.getD, hkl]
      have hxb := HWS.out _ hx
      obtain ⟨x, hxe⟩ : ∃ x, ws.getD k 0 = x := ⟨_, rfl⟩
      have HX := Lib.hid hxe
      rw [hxe] at hck hxb
      obtain ⟨hx1, hx2⟩ := hxb
      obtain ⟨y, rfl⟩ := Int.eq_ofNat_of_zero_le (show 0 ≤ x by omega)
      clear hc hI2 hx hxe
      gi_wp2
      gi_loopw [14] (fun i wr => ∃ (j : Nat) (pre : List (Pl n)), j ≤ y ∧ i = .int .i64 j ∧ pre.map (·.1) = placesP ws k j ∧ J pre wr ∧ Below n₀ W wr) (fun i _ => y - (intOf i).toNat)
      case atStart => exact ⟨0, pre, Nat.zero_le _, rfl, HP.out, hJ, hnx⟩
      case round =>
        obtain ⟨j, pre, hj, rfl, hpre, hJ, hnx⟩ := hrel
        have HP := Lib.hid hpre
        clear hpre
        by_cases hjlt : j < y
        · obtain ⟨fn, tmps, assign, body, hy, hR⟩ := hY pre ⟨(k, j), hlt, by omega⟩ wr hJ (by
            have h1 := congrArg List.length HP.out
            rw [List.length_map] at h1
            have h2 := placesP_lt ws HWS.out k j hkl (by rw [HX.out]; omega)
            omega)
          dsimp only [plEnc] at hy
          gi_wp2
          refine hR.mono ?_
          rintro e W3 (⟨rfl, hJ3, hk3⟩ | ⟨rfl, hJx3⟩)
          · gi_wp2
            go_roundw
            case rel => exact ⟨j + 1, _, by omega, by go_num, by rw [List.map_append, HP.out, placesP_next]; rfl, hJ3, hnx.trans hk3⟩
            case measure => simp [intOf]; omega
          · gi_wp2
            refine bodyPost_ret (results_none rfl _ _ _) rfl ?_
            exact ⟨⟨_, rfl⟩, .inr ⟨_, trivial, hJx3⟩⟩
        · obtain rfl : j = y := by omega
          gi_wp2
          go_roundw
          case rel => exact ⟨k + 1, pre, by omega, by go_num, by rw [HP.out, ← placesP_over ws k hkl, HX.out]; rfl, hJ, hnx⟩
          case measure => simp [intOf]; omega
    · obtain rfl : k = n := by omega
      gi_wp2
      go_end0
      refine ⟨⟨_, rfl⟩, .inl ⟨pre, ?_, hJ⟩⟩
      rw [HP.out, placesP_zero, List.take_of_length_le (by rw [HL.out]; exact Nat.le_refl _)]

theorem places_stops (Bs n₀ : Nat) (A : Option Addr) (n c : Nat) (ws : List Int) (hws : ∀ x ∈ ws, 1 ≤ x ∧ x ≤ 8) (hn : n ≤ 4294967295) (w : World) (hBs : Bs < w.heap.size) (hn₀ : n₀ ≤ w.heap.size)
    (hc : w.cell? ⟨Bs, 0, none⟩ = some (.slice A n c)) (hI : IntsA w n₀ .i64 A n ws) :
    SeqStopsK Fence.wide 4 Tryz.prog 232 #[.pointer (some ⟨Bs, 0, none⟩)] (plEnc (n := n)) (Below n₀) (fun ys => ys.map (·.1) = placesF 0 ws) (fun _ => True) (sumW ws).toNat w :=
  fun l J Jx W hW _ _ hY h0 => places1_in 4 (by omega) l Bs n₀ A n c ws hws hn J Jx hY W ((hW.cell (p := ⟨Bs, 0, none⟩) hBs).trans hc) (hI.below (hW.mono hn₀)) h0
end Go.Proofs.YtmhmdoobadckkaaGreatDoor
