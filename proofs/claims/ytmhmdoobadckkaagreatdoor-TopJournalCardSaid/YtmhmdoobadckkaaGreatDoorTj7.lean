/- Own texts, joined: RcPacked, RcSeen, RcPlaced, Bld, Shm, RcSh, RcHead, RcEnc, RcHd0, RcHd1, RcDec. -/
import Derived.Test.YtmhmdoobadckkaaGreatDoorTj1
import Derived.Test.YtmhmdoobadckkaaGreatDoorTj3
import Derived.Test.YtmhmdoobadckkaaGreatDoorTj4
import Derived.Test.YtmhmdoobadckkaaGreatDoorTj5
import Derived.Test.YtmhmdoobadckkaaGreatDoorTj6
import Derived.WideKeyPair
import Derived.Maps.Own
import Derived.Maps.OwnOps
import Derived.Maps.Views
import Derived.Lib.Strings
import Derived.Lib.Slices
import Derived.Lib.Walk
import Derived.Lib.Builder
import Derived.Lib.AppendStr
import Derived.Lib.UnsafeStr
import Derived.Laws.Externs
import Derived.Shelf.Strings.OnBuilder
import Derived.Shelf.Strings.Prefix
import Derived.Shelf.Strings.Builder1
import Derived.Ground.NamesProg
import Derived.Test.YtmhmdoobadckkaaGreatDoorProg
/- record's packed: numbers and widths, alternating. -/
namespace Go.Proofs.YtmhmdoobadckkaaGreatDoor
set_option maxRecDepth 20000
open Go.RowKit Go.OpenShut

def evL (L : List Int) (k : Nat) : List Int := (List.range k).map fun j => L.getD (2 * j) 0
def odL (L : List Int) (k : Nat) : List Int := (List.range k).map fun j => L.getD (2 * j + 1) 0
theorem evL_len (L : List Int) (k : Nat) : (evL L k).length = k := by simp [evL]
theorem odL_len (L : List Int) (k : Nat) : (odL L k).length = k := by simp [odL]
theorem evL_succ (L : List Int) (k : Nat) : evL L (k + 1) = evL L k ++ [L.getD (2 * k) 0] := by simp [evL, List.range_succ]
theorem odL_succ (L : List Int) (k : Nat) : odL L (k + 1) = odL L k ++ [L.getD (2 * k + 1) 0] := by simp [odL, List.range_succ]

theorem OwnI.lt_ {w : World} {base : Nat} {t : TypeId} {k : IntKind} {v : Value} {l : List Int} (h : OwnI w base t k v l) : ∀ g, v.ownBlock = some g → g < w.heap.size := fun g hg => (World.ownsRow.lt h g hg).2
theorem OwnI.sh {w : World} {base : Nat} {t : TypeId} {k : IntKind} {v : Value} {l : List Int} {n : Nat} (h : OwnI w base t k v l) (hn : l.length = n) : ∃ A c, v = .slice A n c := by subst hn; exact h.shape
set_option maxHeartbeats 4000000 in
theorem packed_any (w : World) (b o m c : Nat) (K : Nat) (L : List Int) (hm : m = 2 * K) (hK : K ≤ 64) (hLn : L.length = m) (hb : b < w.heap.size) (hc : ∀ j, j < m → w.cell? ⟨b, o + j, none⟩ = some (.int .u64 (L.getD j 0)))
    (hu : ∀ x ∈ L, 0 ≤ x ∧ x < 18446744073709551616) (ho : ∀ j, j < K → L.getD (2 * j + 1) 0 < 9223372036854775808) :
    Calls Tryz.prog 253 #[.slice (some ⟨b, o, none⟩) m c] w fun e w' => e = .returned (.string (encS (evL L K) (odL L K))) ∧ Below w.heap.size w w' := by
  have HM := Lib.hid hm
  clear hm
  go_enter Tryz.func253, Tryz.ntmps253
  go_wp2_with fail
  go_loopw [3, 4, 5] (fun n v i wr => ∃ k : Nat, k ≤ K ∧ i = .int .i64 (2 * k : Nat) ∧ OwnI wr w.heap.size 49 .u64 n (evL L k) ∧ OwnI wr w.heap.size 3 .i64 v (odL L k) ∧ Below w.heap.size w wr) (fun _ _ i _ => m - (intOf i).toNat)
  case atStart => exact ⟨0, by omega, rfl, OwnI.nil_ _ _ _ _, OwnI.nil_ _ _ _ _, Below.refl _ _⟩
  case round =>
    obtain ⟨k, hk, rfl, hp, hq, hbr⟩ := hrel
    by_cases hlt : k < K
    · have hm := HM.out
      have hx0 : 2 * k < m := by omega
      have hx1 : 2 * (k : Int) + 1 < (m : Int) := by omega
      have q1 := hc (2 * k) (by omega)
      have q2 := hc (2 * k + 1) (by omega)
      have HX := Lib.hid (hu (L.getD (2 * k) 0) (by simp [List.getD, show 2 * k < L.length by omega]))
      have hy := (⟨(hu (L.getD (2 * k + 1) 0) (by simp [List.getD, show 2 * k + 1 < L.length by omega])).1, ho k hlt⟩ : 0 ≤ L.getD (2 * k + 1) 0 ∧ L.getD (2 * k + 1) 0 < 9223372036854775808)
      have E1 := Lib.hid (evL_succ L k)
      have E2 := Lib.hid (odL_succ L k)
      generalize L.getD (2 * k) 0 = x at *
      generalize L.getD (2 * k + 1) 0 = y at *
      have HC := Lib.hid (fun (Y : World) (hY : Below w.heap.size w Y) => (⟨(hY.cell (p := ⟨b, o + 2 * k, none⟩) hb).trans q1, (hY.cell (p := ⟨b, o + (2 * k + 1), none⟩) hb).trans q2⟩ : Y.cell? ⟨b, o + 2 * k, none⟩ = some (.int .u64 x) ∧ Y.cell? ⟨b, o + (2 * k + 1), none⟩ = some (.int .u64 y)))
      clear q1 q2
      obtain ⟨y0, y1⟩ := hy
      clear hm
      obtain ⟨Ap, cp, rfl⟩ := hp.sh (evL_len L k)
      obtain ⟨Aq, cq, rfl⟩ := hq.sh (odL_len L k)
      go_wp2_with fail
      refine wp_region_nt (fun Y => Below w.heap.size w Y) (fun _ => false) (NT.pures [0, 1, 2, 3, 4, 7, 8, 9, 10, 11, 12, 13] (.fork 5 (.fork 6 (.imp 14 (.imp 15 (NT.pures [16, 17] .nil))) 14 (.imp 6 (.imp 15 (NT.pures [16, 17] .nil)))) 14 (.imp 5 (.imp 6 (.imp 15 (NT.pures [16, 17] .nil)))))) (by kernel_rfl) (by kernel_rfl) (by kernel_rfl) (fun d _ _ _ _ h => by cases d <;> exact h) ?_
      have hbd := hbr.drew
      replace hp := hp.drew
      replace hq := hq.drew
      clear hbr
      generalize wr.drew = V at *
      repeat (refine nt_pure rfl hbd (fun Y hY => by obtain ⟨g1, g2⟩ := HC.out Y hY; clear hY; go_wp2; exact ⟨rfl, rfl, rfl⟩) rfl ?_ ?_; rfl)
      have PL := Lib.hid hp.lt_
      generalize hG : V.heap.size = G at *
      have hGs : G ≤ V.heap.size := by omega
      clear hG
      refine nt_fork rfl rfl ?_ ?_
      · go_wp2_with fail
        have bu := Blk.new V 49 #[.int .u64 x]
        have hgeu : G ≤ V.heap.size := hGs
        replace hp := hp.alloc (.cells #[.int .u64 x] 49)
        replace hq := hq.alloc (.cells #[.int .u64 x] 49)
        replace hbd := hbd.alloc hbd.size (.cells #[.int .u64 x] 49)
        replace hGs : G ≤ (V.alloc (.cells #[.int .u64 x] 49)).heap.size := by simp; omega
        generalize hgu : V.heap.size = gu at *
        generalize V.alloc (.cells #[.int .u64 x] 49) = V1 at *
        refine ⟨fun _ => hbd, ?_⟩
        refine nt_fork rfl rfl ?_ ?_
        · skip
          refine wp_pushI 124 49 .u64 Tryz.underlying124 info_u64 rfl (.tmp 15) (.tmp 20) rfl w.heap.size _ _ hp rfl _ 1 x rfl (bu.cell 0) (by rw [evL_len]; omega) hbd.size ?_
          intro p2 V2 hp2 hgr hb2
          replace hq := hq.grown hgr (hq.ne hp (by decide))
          replace hbd := hbd.trans hb2
          replace hGs : G ≤ V2.heap.size := Nat.le_trans hGs hb2.size
          clear hp hgr hb2 bu
          go_wp2_with fail
          refine ⟨fun _ => hbd, ?_⟩
          refine nt_imp rfl ?_
          go_wp2_with fail
          have bi := Blk.new V2 3 #[.int .i64 y]
          have hgei : G ≤ V2.heap.size := hGs
          replace hp2 := hp2.alloc (.cells #[.int .i64 y] 3)
          replace hq := hq.alloc (.cells #[.int .i64 y] 3)
          replace hbd := hbd.alloc hbd.size (.cells #[.int .i64 y] 3)
          replace hGs : G ≤ (V2.alloc (.cells #[.int .i64 y] 3)).heap.size := by simp; omega
          generalize hgi : V2.heap.size = gi at *
          generalize V2.alloc (.cells #[.int .i64 y] 3) = V3 at *
          refine ⟨fun _ => hbd, ?_⟩
          refine nt_imp rfl ?_
          refine wp_pushI 30 3 .i64 Tryz.underlying30 info_int rfl (.tmp 22) (.tmp 29) rfl w.heap.size _ _ hq rfl _ 1 y rfl (bi.cell 0) (by rw [odL_len]; omega) hbd.size ?_
          intro q2 V4 hq2 hgr hb2
          replace hp2 := hp2.grown hgr (hp2.ne hq (by decide))
          replace hbd := hbd.trans hb2
          clear hq hgr hb2 bi
          go_wp2_with fail
          refine ⟨fun _ => hbd, ?_⟩
          repeat (refine nt_pure rfl hbd (fun Y hY => by clear hY; go_wp2; exact ⟨rfl, rfl, rfl⟩) rfl ?_ ?_; rfl)
          refine nt_nil ?_
          rw [← E1.out] at hp2
          rw [← E2.out] at hq2
          obtain ⟨A3, c3, rfl⟩ := hp2.sh (evL_len L (k + 1))
          obtain ⟨A4, c4, rfl⟩ := hq2.sh (odL_len L (k + 1))
          go_wp2_with fail
          go_roundw
          case rel => exact ⟨k + 1, by omega, by go_num, hp2, hq2, hbd⟩
          case measure => have := HM.out; simp [intOf]; go_num
        · go_wp2_with fail
          have bi := Blk.new V1 3 #[.int .i64 y]
          have hgei : G ≤ V1.heap.size := hGs
          replace hp := hp.alloc (.cells #[.int .i64 y] 3)
          replace hq := hq.alloc (.cells #[.int .i64 y] 3)
          replace bu := bu.alloc (.cells #[.int .i64 y] 3)
          replace hbd := hbd.alloc hbd.size (.cells #[.int .i64 y] 3)
          replace hGs : G ≤ (V1.alloc (.cells #[.int .i64 y] 3)).heap.size := by simp; omega
          generalize hgi : V1.heap.size = gi at *
          generalize V1.alloc (.cells #[.int .i64 y] 3) = V2 at *
          refine ⟨fun _ => hbd, ?_⟩
          refine nt_imp rfl ?_
          refine wp_pushI 124 49 .u64 Tryz.underlying124 info_u64 rfl (.tmp 15) (.tmp 20) rfl w.heap.size _ _ hp rfl _ 1 x rfl (bu.cell 0) (by rw [evL_len]; omega) hbd.size ?_
          intro p2 V3 hp2 hgr hb2
          replace hq := hq.grown hgr (hq.ne hp (by decide))
          replace bi := bi.grown hgr (fun e => absurd (PL.out _ e.symm) (by omega))
          replace hbd := hbd.trans hb2
          replace hGs : G ≤ V3.heap.size := Nat.le_trans hGs hb2.size
          clear hp hgr hb2 bu
          go_wp2_with fail
          refine ⟨fun _ => hbd, ?_⟩
          refine nt_imp rfl ?_
          refine wp_pushI 30 3 .i64 Tryz.underlying30 info_int rfl (.tmp 22) (.tmp 29) rfl w.heap.size _ _ hq rfl _ 1 y rfl (bi.cell 0) (by rw [odL_len]; omega) hbd.size ?_
          intro q2 V4 hq2 hgr hb2
          replace hp2 := hp2.grown hgr (hp2.ne hq (by decide))
          replace hbd := hbd.trans hb2
          clear hq hgr hb2 bi
          go_wp2_with fail
          refine ⟨fun _ => hbd, ?_⟩
          repeat (refine nt_pure rfl hbd (fun Y hY => by clear hY; go_wp2; exact ⟨rfl, rfl, rfl⟩) rfl ?_ ?_; rfl)
          refine nt_nil ?_
          rw [← E1.out] at hp2
          rw [← E2.out] at hq2
          obtain ⟨A3, c3, rfl⟩ := hp2.sh (evL_len L (k + 1))
          obtain ⟨A4, c4, rfl⟩ := hq2.sh (odL_len L (k + 1))
          go_wp2_with fail
          go_roundw
          case rel => exact ⟨k + 1, by omega, by go_num, hp2, hq2, hbd⟩
          case measure => have := HM.out; simp [intOf]; go_num
      · go_wp2_with fail
        have bi := Blk.new V 3 #[.int .i64 y]
        have hgei : G ≤ V.heap.size := hGs
        replace hp := hp.alloc (.cells #[.int .i64 y] 3)
        replace hq := hq.alloc (.cells #[.int .i64 y] 3)
        replace hbd := hbd.alloc hbd.size (.cells #[.int .i64 y] 3)
        replace hGs : G ≤ (V.alloc (.cells #[.int .i64 y] 3)).heap.size := by simp; omega
        generalize hgi : V.heap.size = gi at *
        generalize V.alloc (.cells #[.int .i64 y] 3) = V1 at *
        refine ⟨fun _ => hbd, ?_⟩
        refine nt_imp rfl ?_
        go_wp2_with fail
        have bu := Blk.new V1 49 #[.int .u64 x]
        have hgeu : G ≤ V1.heap.size := hGs
        replace hp := hp.alloc (.cells #[.int .u64 x] 49)
        replace hq := hq.alloc (.cells #[.int .u64 x] 49)
        replace bi := bi.alloc (.cells #[.int .u64 x] 49)
        replace hbd := hbd.alloc hbd.size (.cells #[.int .u64 x] 49)
        replace hGs : G ≤ (V1.alloc (.cells #[.int .u64 x] 49)).heap.size := by simp; omega
        generalize hgu : V1.heap.size = gu at *
        generalize V1.alloc (.cells #[.int .u64 x] 49) = V2 at *
        refine ⟨fun _ => hbd, ?_⟩
        refine nt_imp rfl ?_
        refine wp_pushI 124 49 .u64 Tryz.underlying124 info_u64 rfl (.tmp 15) (.tmp 20) rfl w.heap.size _ _ hp rfl _ 1 x rfl (bu.cell 0) (by rw [evL_len]; omega) hbd.size ?_
        intro p2 V3 hp2 hgr hb2
        replace hq := hq.grown hgr (hq.ne hp (by decide))
        replace bi := bi.grown hgr (fun e => absurd (PL.out _ e.symm) (by omega))
        replace hbd := hbd.trans hb2
        replace hGs : G ≤ V3.heap.size := Nat.le_trans hGs hb2.size
        clear hp hgr hb2 bu
        go_wp2_with fail
        refine ⟨fun _ => hbd, ?_⟩
        refine nt_imp rfl ?_
        refine wp_pushI 30 3 .i64 Tryz.underlying30 info_int rfl (.tmp 22) (.tmp 29) rfl w.heap.size _ _ hq rfl _ 1 y rfl (bi.cell 0) (by rw [odL_len]; omega) hbd.size ?_
        intro q2 V4 hq2 hgr hb2
        replace hp2 := hp2.grown hgr (hp2.ne hq (by decide))
        replace hbd := hbd.trans hb2
        clear hq hgr hb2 bi
        go_wp2_with fail
        refine ⟨fun _ => hbd, ?_⟩
        repeat (refine nt_pure rfl hbd (fun Y hY => by clear hY; go_wp2; exact ⟨rfl, rfl, rfl⟩) rfl ?_ ?_; rfl)
        refine nt_nil ?_
        rw [← E1.out] at hp2
        rw [← E2.out] at hq2
        obtain ⟨A3, c3, rfl⟩ := hp2.sh (evL_len L (k + 1))
        obtain ⟨A4, c4, rfl⟩ := hq2.sh (odL_len L (k + 1))
        go_wp2_with fail
        go_roundw
        case rel => exact ⟨k + 1, by omega, by go_num, hp2, hq2, hbd⟩
        case measure => have := HM.out; simp [intOf]; go_num
    · obtain rfl : k = K := by omega
      obtain ⟨Ap, cp, rfl⟩ := hp.sh (evL_len L k)
      obtain ⟨Aq, cq, rfl⟩ := hq.sh (odL_len L k)
      have i1 := hp.ints
      have i2 := hq.ints
      have hm := HM.out
      have hend : ¬ (2 * (k : Int) + 1 < (m : Int)) := by omega
      have hE : ∀ x ∈ evL L k, 0 ≤ x ∧ x < 18446744073709551616 := fun x hx => by
        unfold evL at hx
        obtain ⟨j, hj, rfl⟩ := List.mem_map.1 hx
        rw [List.mem_range] at hj
        have := hu (L.getD (2 * j) 0) (by simp [List.getD, show 2 * j < L.length by omega])
        omega
      have HE := Lib.hid (encode_any wr Ap Aq k cp k cq (evL L k) (odL L k) i1 i2 (by omega) hE)
      generalize hR : encS (evL L k) (odL L k) = R at *
      have HRR := Lib.hid hR
      clear hR
      clear hp hq i1 i2 hE hc hu hm ho
      go_wp2_with fail
      refine HE.out.mono ?_
      rintro e W1 ⟨rfl, hb3⟩
      go_wp2_with fail
      go_ret
      exact ⟨by rw [HRR.out]; rfl, hbr.trans (hb3.mono hbr.size)⟩
end Go.Proofs.YtmhmdoobadckkaaGreatDoor
/- A set of pairs of numbers: a map that the call makes. -/
namespace Go.Proofs.YtmhmdoobadckkaaGreatDoor
set_option maxRecDepth 20000
open Go.RowKit Go.OpenShut
open Go.WideMaps (ArrKey)

theorem arrPair : ArrKey Tryz.prog 241 3 2 := ⟨Tryz.underlying241, by kernel_rfl, by kernel_rfl, by kernel_rfl⟩
theorem lawPair : Maps.Keyed Tryz.prog 241 := Maps.Keyed.of_law arrPair.law
theorem zeroBool (w : World) : (zeroValue 4).run Tryz.prog w = .ok (.bool false) w := by kernel_rfl
theorem typesSize : ∃ m, Tryz.prog.types.size = m + 1 := ⟨Tryz.prog.types.size - 1, by
  have h : decide (0 < Tryz.prog.types.size) = true := by kernel_rfl
  have := of_decide_eq_true h
  omega⟩
def i64ok (c : Int) : Prop := (Lit.int .i64 c).wf = true
def pairKey (c o : Int) : Lit := .string (keyBytes [.int .i64 c, .int .i64 o])
theorem pairKey_of {c o : Int} (hc : i64ok c) (ho : i64ok o) : keyOf Tryz.prog 241 (.agg #[.int .i64 c, .int .i64 o]) = some (pairKey c o) :=
  WideMaps.keyOf_pair arrPair Tryz.underlying3 typesSize hc ho
theorem pairKey_inj {c o c' o' : Int} (hc : i64ok c) (ho : i64ok o) (hc' : i64ok c') (ho' : i64ok o') (h : pairKey c o = pairKey c' o') : c = c' ∧ o = o' := by
  have h1 := pairKey_of hc ho
  rw [h] at h1
  have h2 := lawPair.inj h1 (pairKey_of hc' ho')
  simp at h2
  exact h2
/-- block b is a set of pairs: those of l -/
def Seen (w : World) (b n : Nat) (l : List (Int × Int)) : Prop :=
  ∃ D : DataW Unit, w.ownsMap Tryz.prog 241 (plainElem Tryz.prog 4) b n D ∧ Maps.IsMap D ∧ ∀ c o, i64ok c → i64ok o → D.atKey (pairKey c o) (.lit (.bool false)) = .lit (.bool (decide ((c, o) ∈ l)))
theorem Seen.made (w : World) : Seen (w.alloc (.map #[] 0)) w.heap.size 0 [] :=
  ⟨.map [], World.ownsMap_made _ _ _ _, ⟨[], rfl⟩, fun _c _o _ _ => rfl⟩
theorem Seen.alloc {w : World} {b n : Nat} {l : List (Int × Int)} (h : Seen w b n l) (o : Obj) : Seen (w.alloc o) b n l := by
  obtain ⟨D, h1, h2, h3⟩ := h
  exact ⟨D, h1.alloc o, h2, h3⟩
theorem plainElem_bool_inv {H : Type} {P : Program} {e : TypeId} (he : P.underlying e = some .bool) {v : Value} {z : DataW H × List MemPlace} (h : plainElem P e v = some z) : ∃ x, v = .bool x ∧ z = (.lit (.bool x), []) := by
  unfold plainElem at h
  rw [he] at h
  cases v <;> simp at h
  exact ⟨_, rfl, h.symm⟩
theorem Seen.look {w : World} {b n : Nat} {l : List (Int × Int)} (h : Seen w b n l) {c o : Int} (hc : i64ok c) (ho : i64ok o) :
    (Instr.lookup 240 (.map (some b)) (.agg #[.int .i64 c, .int .i64 o]) false).run Tryz.prog w = .ok (.bool (decide ((c, o) ∈ l))) w := by
  obtain ⟨D, h1, h2, h3⟩ := h
  obtain ⟨v, ps, hrun, hv⟩ := h1.lookup lawPair Tryz.underlying240 (zeroBool w) (plainElem_bool Tryz.underlying4 false) (pairKey_of hc ho)
  obtain ⟨x, rfl, hz⟩ := plainElem_bool_inv Tryz.underlying4 hv
  rw [h3 c o hc ho] at hz
  simp only [Prod.mk.injEq, DataW.lit.injEq, Lit.bool.injEq] at hz
  rw [hrun, hz.1]
theorem Seen.put {w1 : World} {b n : Nat} {l : List (Int × Int)} {c o : Int} (hc : i64ok c) (ho : i64ok o) (D : DataW Unit) (h2 : Maps.IsMap D) (h3 : ∀ c o, i64ok c → i64ok o → D.atKey (pairKey c o) (.lit (.bool false)) = .lit (.bool (decide ((c, o) ∈ l))))
    (h1 : w1.ownsMap Tryz.prog 241 (plainElem Tryz.prog 4) b (n + 1) (D.put (pairKey c o) (.lit (.bool true)))) : Seen w1 b (n + 1) ((c, o) :: l) := by
  refine ⟨_, h1, h2.put _ _, fun c' o' hc' ho' => ?_⟩
  by_cases e : (c', o') = (c, o)
  · cases e
    rw [Maps.atKey_put_same h2 (lawPair.key (pairKey_of hc ho))]
    simp
  · have hne : pairKey c' o' ≠ pairKey c o := fun e' => e (by
      obtain ⟨r1, r2⟩ := pairKey_inj hc' ho' hc ho e'
      rw [r1, r2])
    rw [Maps.atKey_put_other hne, h3 c' o' hc' ho']
    have e2 : ((c', o') ∈ (c, o) :: l) ↔ (c', o') ∈ l := by rw [List.mem_cons]; exact ⟨fun h => h.resolve_left e, Or.inr⟩
    simp only [e2]
end Go.Proofs.YtmhmdoobadckkaaGreatDoor
/- record's placed and May. -/
namespace Go.Proofs.YtmhmdoobadckkaaGreatDoor
set_option maxRecDepth 20000
open Go.RowKit Go.OpenShut

def placeOk (p : Prt) : Bool := decide (0 ≤ p.col) && decide (p.col < 10) && decide (0 ≤ p.off) && decide (p.off < 4)
def placedF : List (Int × Int) → List Prt → Bool
  | _, [] => true
  | l, p :: ps => placeOk p && !decide ((p.col, p.off) ∈ l) && placedF ((p.col, p.off) :: l) ps
def placedB (row : Int) (ps : List Prt) : Bool := decide (0 ≤ row) && decide (row < 256) && decide (1 ≤ ps.length) && decide (ps.length ≤ 40) && placedF [] ps
/-- the pairs of the first k parts, the last one first -/
def seenL (ps : List Prt) (k : Nat) : List (Int × Int) := ((ps.take k).map fun p => (p.col, p.off)).reverse
theorem seenL_succ (ps : List Prt) (k : Nat) (h : k < ps.length) : seenL ps (k + 1) = ((ps.getD k prt0).col, (ps.getD k prt0).off) :: seenL ps k := by
  unfold seenL
  rw [List.take_add_one]
  have e : ps[k]? = some (ps.getD k prt0) := by simp [List.getD, h]
  rw [e]
  simp
theorem drop_getP (ps : List Prt) (k : Nat) (h : k < ps.length) : ps.drop k = ps.getD k prt0 :: ps.drop (k + 1) := by
  rw [List.drop_eq_getElem_cons h]
  simp [List.getD, h]
theorem i64ok_small {c : Int} (h0 : 0 ≤ c) (h1 : c < 10) : i64ok c := WalkArith.wf_i64 (by omega)

set_option maxHeartbeats 2000000 in
theorem placed_any (w : World) (seq row : Int) (A : Option Addr) (n c : Nat) (ps : List Prt) (h : PartsA w w.heap.size A n ps) (hn : n ≤ maxLen) :
    Calls Tryz.prog 82 #[recV seq row A n c] w fun e w' => e = .returned (.bool (placedB row ps)) ∧ Below w.heap.size w w' := by
  unfold recV
  have HL := Lib.hid h.1
  have hb0 := (Below.refl w.heap.size w).alloc (Nat.le_refl _) (.cells #[.int .u64 seq, .int .i64 row, .slice A n c] 54)
  have hbad : (row < 0 ∨ row ≥ 256 ∨ n = 0 ∨ n > 40) ∨ (0 ≤ row ∧ row < 256 ∧ 1 ≤ n ∧ n ≤ 40) := by omega
  rcases hbad with hbad | ⟨r1, r2, r3, r4⟩
  · have e : placedB row ps = false := by
      unfold placedB
      rw [Bool.eq_false_iff]
      intro e
      simp only [Bool.and_eq_true, decide_eq_true_eq, HL.out] at e
      omega
    rw [e]
    clear e
    rcases hbad with h1 | h1 | h1 | h1
    · go_enter Tryz.func82, Tryz.ntmps82
      go_wp2_with fail
      go_ret
      exact ⟨rfl, hb0⟩
    · have h2 : ¬ row < 0 := by omega
      go_enter Tryz.func82, Tryz.ntmps82
      go_wp2_with fail
      go_ret
      exact ⟨rfl, hb0⟩
    · subst h1
      by_cases h2 : row < 0
      · go_enter Tryz.func82, Tryz.ntmps82
        go_wp2_with fail
        go_ret
        exact ⟨rfl, hb0⟩
      · by_cases h3 : row ≥ 256
        · go_enter Tryz.func82, Tryz.ntmps82
          go_wp2_with fail
          go_ret
          exact ⟨rfl, hb0⟩
        · go_enter Tryz.func82, Tryz.ntmps82
          go_wp2_with fail
          go_ret
          exact ⟨rfl, hb0⟩
    · have h5 : (n : Int) > 40 := by omega
      have h6 : ((n : Int) == 0) = false := by rw [beq_eq_false_iff_ne]; omega
      by_cases h2 : row < 0
      · go_enter Tryz.func82, Tryz.ntmps82
        go_wp2_with fail
        go_ret
        exact ⟨rfl, hb0⟩
      · by_cases h3 : row ≥ 256
        · go_enter Tryz.func82, Tryz.ntmps82
          go_wp2_with fail
          go_ret
          exact ⟨rfl, hb0⟩
        · go_enter Tryz.func82, Tryz.ntmps82
          go_wp2_with fail
          go_ret
          exact ⟨rfl, hb0⟩
  · have e : placedB row ps = placedF [] ps := by
      unfold placedB
      rw [HL.out, decide_eq_true r1, decide_eq_true r2, decide_eq_true r3, decide_eq_true r4]
      rfl
    rw [e]
    clear e
    have h1 : ¬ row < 0 := by omega
    have h2 : ¬ row ≥ 256 := by omega
    have h5 : ¬ (n : Int) > 40 := by omega
    have h6 : ((n : Int) == 0) = false := by rw [beq_eq_false_iff_ne]; omega
    have hmm := @run_makeMap Tryz.prog
    go_enter Tryz.func82, Tryz.ntmps82
    go_wp2_with fail
    have hS := Seen.made (w.alloc (.cells #[.int .u64 seq, .int .i64 row, .slice A n c] 54))
    have hz : (w.alloc (.cells #[.int .u64 seq, .int .i64 row, .slice A n c] 54)).heap.size = w.heap.size + 1 := by simp
    replace hb0 := hb0.alloc hb0.size (.map #[] 0)
    rw [hz] at hS
    generalize (w.alloc (.cells #[.int .u64 seq, .int .i64 row, .slice A n c] 54)).alloc (.map #[] 0) = w1 at *
    clear hz hmm
    go_loopw [31] (fun i wr => ∃ k : Nat, k ≤ n ∧ i = .int .i64 k ∧ placedF [] ps = placedF (seenL ps k) (ps.drop k) ∧ Seen wr (w.heap.size + 1) k (seenL ps k) ∧ Below w.heap.size w wr) (fun i _ => n - (intOf i).toNat)
    case atStart => exact ⟨0, by omega, rfl, rfl, hS, hb0⟩
    case round =>
      obtain ⟨k, hk, rfl, hpl, hse, hbr⟩ := hrel
      clear hS hb0
      by_cases hlt : k < n
      · obtain ⟨b, o, rfl, hb, hc⟩ := h.2 (by omega)
        obtain ⟨c0, c1, c2⟩ := (hc k hlt).below hbr hb
        have HSN := Lib.hid (seenL_succ ps k (by rw [HL.out]; exact hlt))
        rw [drop_getP ps k (by rw [HL.out]; exact hlt)] at hpl
        generalize ps.getD k prt0 = p at *
        obtain ⟨pc, po, pd⟩ := p
        dsimp only at c0 c1 c2 HSN
        rw [placedF] at hpl
        dsimp only [placeOk] at hpl
        have HF : Hid (((¬ (0 ≤ pc ∧ pc < 10 ∧ 0 ≤ po ∧ po < 4)) ∨ (pc, po) ∈ seenL ps k) → placedF [] ps = false) := Lib.hid (fun h0 => by
          rw [hpl]
          rcases h0 with h0 | h0
          · have : (decide (0 ≤ pc) && decide (pc < 10) && decide (0 ≤ po) && decide (po < 4)) = false := by
              rw [Bool.eq_false_iff]
              intro e
              simp only [Bool.and_eq_true, decide_eq_true_eq] at e
              exact h0 ⟨e.1.1.1, e.1.1.2, e.1.2, e.2⟩
            rw [this]; rfl
          · rw [decide_eq_true h0]; simp)
        have HG : Hid (0 ≤ pc ∧ pc < 10 ∧ 0 ≤ po ∧ po < 4 → (pc, po) ∉ seenL ps k → placedF [] ps = placedF (seenL ps (k + 1)) (ps.drop (k + 1))) := Lib.hid (fun h0 h9 => by
          rw [hpl, decide_eq_true h0.1, decide_eq_true h0.2.1, decide_eq_true h0.2.2.1, decide_eq_true h0.2.2.2, decide_eq_false h9, HSN.out]; rfl)
        clear hpl hc
        have hbb := (hbr.alloc hbr.size (.cells #[.int .i64 pc, .int .i64 po, .string pd] 142)).alloc (by have := hbr.size; simp; omega) (.cells #[.int .i64 pc, .int .i64 po] 241)
        by_cases g1 : pc < 0
        · go_wp2_with fail
          go_ret
          exact ⟨by rw [HF.out (Or.inl (by omega))]; rfl, hbb⟩
        · by_cases g2 : pc ≥ 10
          · go_wp2_with fail
            go_ret
            exact ⟨by rw [HF.out (Or.inl (by omega))]; rfl, hbb⟩
          · by_cases g3 : po < 0
            · go_wp2_with fail
              go_ret
              exact ⟨by rw [HF.out (Or.inl (by omega))]; rfl, hbb⟩
            · by_cases g4 : po ≥ 4
              · go_wp2_with fail
                go_ret
                exact ⟨by rw [HF.out (Or.inl (by omega))]; rfl, hbb⟩
              · have wc := i64ok_small (c := pc) (by omega) (by omega)
                have wo := i64ok_small (c := po) (by omega) (by omega)
                have hlk := ((hse.alloc (.cells #[.int .i64 pc, .int .i64 po, .string pd] 142)).alloc (.cells #[.int .i64 pc, .int .i64 po] 241)).look wc wo
                by_cases g5 : (pc, po) ∈ seenL ps k
                · rw [decide_eq_true g5] at hlk
                  go_wp2_with fail
                  go_ret
                  exact ⟨by rw [HF.out (Or.inr g5)]; rfl, hbb⟩
                · rw [decide_eq_false g5] at hlk
                  have hse2 := (hse.alloc (.cells #[.int .i64 pc, .int .i64 po, .string pd] 142)).alloc (.cells #[.int .i64 pc, .int .i64 po] 241)
                  obtain ⟨D, d1, d2, d3⟩ := hse2
                  have D3 := Lib.hid d3
                  clear d3
                  go_wp2_with (at_mapUpdate; refine wpList_mapUpdate_own _ rfl _ _ _ 240 rfl 241 4 lawPair Tryz.underlying240 _ (w.heap.size + 1) k D rfl d1 (by unfold maxLen; omega) _ _ _ rfl rfl (pairKey_of wc wo) _ [] (plainElem_bool Tryz.underlying4 true) ?_; intro w9 hown9 hgrow9)
                  have hse3 := Seen.put wc wo D d2 D3.out hown9
                  have hbe3 := hbb.grown hgrow9 hbb.size (fun j hj => by cases hj; omega)
                  go_roundw
                  case rel => exact ⟨k + 1, by omega, by go_num, HG.out ⟨by omega, by omega, by omega, by omega⟩ g5, by rw [HSN.out]; exact hse3, hbe3⟩
                  case measure => simp [intOf]; go_num
      · obtain rfl : k = n := by omega
        have e : placedF [] ps = true := by rw [hpl, List.drop_of_length_le (by rw [HL.out]; exact Nat.le_refl _)]; rfl
        have HE := Lib.hid e
        clear e hpl
        go_wp2_with fail
        go_ret
        exact ⟨by rw [HE.out]; rfl, hbr⟩
def mayB (row : Int) (ps : List Prt) : Bool := placedB row ps && loadedB ps
set_option maxHeartbeats 1000000 in
theorem rcMay_any (w : World) (seq row : Int) (A : Option Addr) (n c : Nat) (ps : List Prt) (h : PartsA w w.heap.size A n ps) (hn : n ≤ maxLen) :
    Calls Tryz.prog 26 #[recV seq row A n c] w fun e w' => e = .returned (.bool (mayB row ps)) ∧ Below w.heap.size w w' := by
  have HP := Lib.hid (fun V (h : PartsA V V.heap.size A n ps) => placed_any V seq row A n c ps h hn)
  have HD := Lib.hid (fun V (h : PartsA V V.heap.size A n ps) => loaded_any V seq row A n c ps h hn)
  unfold mayB
  unfold recV at *
  have hb0 := (Below.refl w.heap.size w).alloc (Nat.le_refl _) (.cells #[.int .u64 seq, .int .i64 row, .slice A n c] 54)
  have hB := Blk.new w 54 #[.int .u64 seq, .int .i64 row, .slice A n c]
  have h1 := (h.below hb0).mono hb0.size
  generalize placedB row ps = p at *
  generalize loadedB ps = q at *
  clear h
  cases p
  · go_enter Tryz.func26, Tryz.ntmps26
    go_wp2_with fail
    refine (HP.out _ h1).mono ?_
    rintro e W1 ⟨rfl, hb3⟩
    go_wp2_with fail
    go_ret
    exact ⟨rfl, hb0.trans (hb3.mono hb0.size)⟩
  · go_enter Tryz.func26, Tryz.ntmps26
    go_wp2_with fail
    refine (HP.out _ h1).mono ?_
    rintro e W1 ⟨rfl, hb3⟩
    have h2 := (h1.below hb3).mono hb3.size
    have hB2 := hB.below hb3 hB.lt
    have hq := hB2.cell
    have hbe := hb0.trans (hb3.mono hb0.size)
    clear hb3 h1 hb0
    go_wp2_with fail
    refine (HD.out _ h2).mono ?_
    rintro e W2 ⟨rfl, hb3⟩
    go_wp2_with fail
    go_ret
    exact ⟨rfl, hbe.trans (hb3.mono hbe.size)⟩
end Go.Proofs.YtmhmdoobadckkaaGreatDoor
/- strings.Builder's writing methods, at a builder of the call's own (after the kit's shelf, whose laying does not fit here: the one branch of copyCheck that ends the program is cut otherwise). -/
namespace Go.Proofs.YtmhmdoobadckkaaGreatDoor
set_option maxRecDepth 20000
open Go.RowKit Go.OpenShut

theorem bld_size : (Tryz.prog.info? 207).map (·.size) = some 2 := by kernel_rfl
theorem bld_lies : liesAt Tryz.prog Tryz.prog.depth 207 (2 / Tryz.prog.cellsOf 207) 0 207 1 = true := by kernel_rfl
set_option maxRecDepth 100000 in
theorem bld_used (b : Nat) (w : World) (h0 : w.cell? ⟨b, 0, none⟩ = some (.pointer (some ⟨b, 0, none⟩))) :
    Calls Tryz.prog 228 #[.pointer (some ⟨b, 0, none⟩)] w fun e w' => e = .returned (.tuple #[]) ∧ w' = w := by
  obtain ⟨j, hj, _⟩ := Option.map_eq_some_iff.1 bld_size
  go_enter Tryz.func228, Tryz.ntmps228
  go_wp2
  rw [Lib.run_neq_ptr_same w _ Tryz.underlying205 hj]
  go_wp2
  go_end0
  exact ⟨rfl, rfl⟩
set_option maxRecDepth 100000 in
set_option maxHeartbeats 1000000 in
theorem bld_fresh (b : Nat) (w : World) (h0 : w.cell? ⟨b, 0, none⟩ = some (.pointer none)) (hsh : w.shape? b = some (207, 2)) (hfz : w.frozen? ⟨b, 0, none⟩ = false) :
    Calls Tryz.prog 228 #[.pointer (some ⟨b, 0, none⟩)] w fun e w' => e = .returned (.tuple #[]) ∧ w' = w.setCell ⟨b, 0, none⟩ (.pointer (some ⟨b, 0, none⟩)) := by
  obtain ⟨j, hj, hjs⟩ := Option.map_eq_some_iff.1 bld_size
  go_enter Tryz.func228, Tryz.ntmps228
  go_wp2
  rw [Lib.run_to_unsafe w ⟨b, 0, none⟩ Tryz.underlying205 Tryz.underlying346 hj (by rw [hjs]; decide) hsh (Nat.zero_lt_succ 1)]
  simp only [Result.andThen]
  rw [Oper.upon_value]
  go_wp2
  rw [run_callFunc_extern Tryz.func298 (by kernel_rfl) (by kernel_rfl) (by kernel_rfl) (e := Extern.AbiNoEscape.same) (by kernel_rfl)]
  rw [Lib.run_noEscape]
  simp only [Result.andThen]
  rw [Oper.upon_value]
  go_wp2
  rw [Lib.run_from_unsafe w ⟨b, 0, none⟩ Tryz.underlying346 Tryz.underlying205 hj hsh bld_lies]
  simp only [Result.andThen]
  rw [Oper.upon_value]
  go_wp2
  go_end0
  exact ⟨rfl, rfl⟩
/-- a builder of the call's own that holds the bytes l -/
def Bld (w : World) (B b : Nat) (l : List UInt8) : Prop := Lib.IsBuilder 207 5 B b (Lib.byteCells l) w
theorem copyCheck_any (B b : Nat) (bs : List Value) (w : World) (h : Lib.IsBuilder 207 5 B b bs w) :
    Calls Tryz.prog 228 #[.pointer (some ⟨b, 0, none⟩)] w fun e w' => e = .returned (.tuple #[]) ∧ (Lib.BuilderAt 207 5 B b (.pointer (some ⟨b, 0, none⟩)) bs w' ∧ Below B w w') := by
  rcases h with h | h
  · refine (bld_fresh b w h.cell0 h.shape h.frozen0).mono ?_
    rintro e w' ⟨rfl, rfl⟩
    exact ⟨rfl, h.used _, (Below.refl B w).setCell (p := ⟨b, 0, none⟩) h.1 _⟩
  · refine (bld_used b w h.cell0).mono ?_
    rintro e w' ⟨rfl, rfl⟩
    exact ⟨rfl, h, Below.refl B _⟩
set_option maxHeartbeats 2000000 in
theorem writeByte_any (B b : Nat) (bs : List Value) (c : Int) (w : World) (h : Lib.IsBuilder 207 5 B b bs w) (hlen : bs.length + 1 ≤ 140737488355328) (hBw : B ≤ w.heap.size) :
    Calls Tryz.prog 254 #[.pointer (some ⟨b, 0, none⟩), .int .u8 c] w fun e w' => e = .returned .nilIface ∧ (Lib.BuilderAt 207 5 B b (.pointer (some ⟨b, 0, none⟩)) (bs ++ [.int .u8 c]) w' ∧ Below B w w') := by
  obtain ⟨i0, hi, hz0, hz1, hz2⟩ := info_parts info_u8
  go_enter Tryz.func254, Tryz.ntmps254
  go_wp2_with fail
  refine (copyCheck_any B b bs _ h).mono ?_
  rintro e w1 ⟨rfl, h1, hb1⟩
  obtain ⟨hB, v, hbk, hown, hne⟩ := h1
  have c0 : w1.cell? ⟨b, 0, none⟩ = some (.pointer (some ⟨b, 0, none⟩)) := by rw [Lib.cell_of_heap hbk]; rfl
  have c1 : w1.cell? ⟨b, 1, none⟩ = some v := by rw [Lib.cell_of_heap hbk]; rfl
  go_wp2_with (at_builtin; refine wpList_append_own _ rfl _ _ 62 rfl B 5 i0 (.int .u8 0) 1 1 Tryz.underlying62 hi hz0 hz1 hz2 rfl (by decide) _ _ _ rfl (hown.alloc _) ⟨w1.heap.size, 0, none⟩ 1 1 [.int .u8 c] rfl rfl ?c1 ?c2 ?c3 ?c4 ?c5 ?_)
  case c1 =>
    intro j u hj
    match j, hj with
    | 0, hj => simp at hj; subst hj; simp [Addr.add]
  case c2 => intro u hu; simp at hu; subst hu; rfl
  case c3 => unfold maxLen; omega
  case c4 => omega
  case c5 => have := hb1.size; simp; omega
  intro v' w2 hown' hgrow _
  have hlt : b < w1.heap.size := by
    rcases Nat.lt_or_ge b w1.heap.size with h' | h'
    · exact h'
    · simp [Array.getElem?_eq_none h'] at hbk
  have hb2 : w2.heap[b]? = some (.cells #[.pointer (some ⟨b, 0, none⟩), v] 207 (0, 0)) := by
    rw [hgrow.block b (by simp; omega) (fun e => hne e.symm), Lib.alloc_old w1 _ b hlt]
    exact hbk
  have d0 : w2.cell? ⟨b, 0, none⟩ = some (.pointer (some ⟨b, 0, none⟩)) := by rw [Lib.cell_of_heap hb2]; rfl
  have d1 : w2.cell? ⟨b, 1, none⟩ = some v := by rw [Lib.cell_of_heap hb2]; rfl
  have f1 : w2.frozen? ⟨b, 1, none⟩ = false := Lib.frozen_of_heap hb2 1
  obtain ⟨g, cap, rfl⟩ : ∃ g cap, v' = .slice (some ⟨g, 0, none⟩) (bs.length + 1) cap := by
    rcases hown'.2 with ⟨_, h0⟩ | ⟨g, cap, cur, hv, _⟩
    · omega
    · exact ⟨g, cap, hv⟩
  go_wp2
  go_ret
  refine ⟨rfl, ?_, ?_⟩
  · exact Lib.BuilderAt.put (T := 207) (e := 5) hB hb2 (bs' := bs ++ [.int .u8 c]) (by simpa using hown') (by decide)
  · exact ((hb1.alloc (by have := hb1.size; omega) _).grown hgrow (by have := hb1.size; simp; omega) (fun k hk => (hown.lt k hk).1)).setCell (p := ⟨b, 1, none⟩) hB _
set_option maxHeartbeats 2000000 in
theorem writeString_any (B b : Nat) (bs : List Value) (s : ByteArray) (w : World) (h : Lib.IsBuilder 207 5 B b bs w) (hlen : bs.length + s.size ≤ 140737488355328) (hBw : B ≤ w.heap.size) :
    Calls Tryz.prog 149 #[.pointer (some ⟨b, 0, none⟩), .string s] w fun e w' => e = .returned (.tuple #[.int .i64 s.size, .nilIface]) ∧ (Lib.BuilderAt 207 5 B b (.pointer (some ⟨b, 0, none⟩)) (bs ++ Lib.strCells s) w' ∧ Below B w w') := by
  obtain ⟨i0, hi, hz0, hz1, hz2⟩ := info_parts info_u8
  go_enter Tryz.func149, Tryz.ntmps149
  go_wp2_with fail
  refine (copyCheck_any B b bs _ h).mono ?_
  rintro e w1 ⟨rfl, h1, hb1⟩
  obtain ⟨hB, v, hbk, hown, hne⟩ := h1
  have c0 : w1.cell? ⟨b, 0, none⟩ = some (.pointer (some ⟨b, 0, none⟩)) := by rw [Lib.cell_of_heap hbk]; rfl
  have c1 : w1.cell? ⟨b, 1, none⟩ = some v := by rw [Lib.cell_of_heap hbk]; rfl
  go_wp2_with (at_builtin; refine Lib.wpList_append_own_string _ rfl _ _ 62 9 rfl B 5 i0 Tryz.underlying62 Tryz.underlying9 hi hz0 hz1 hz2 _ _ _ rfl hown s rfl ?c3 ?c4 ?c5 ?_)
  case c3 => unfold maxLen; omega
  case c4 => omega
  case c5 => have := hb1.size; omega
  intro v' w2 hown' hgrow _
  have hlt : b < w1.heap.size := by
    rcases Nat.lt_or_ge b w1.heap.size with h' | h'
    · exact h'
    · simp [Array.getElem?_eq_none h'] at hbk
  have hb2 : w2.heap[b]? = some (.cells #[.pointer (some ⟨b, 0, none⟩), v] 207 (0, 0)) := by
    rw [hgrow.block b hlt (fun e => hne e.symm)]
    exact hbk
  have d0 : w2.cell? ⟨b, 0, none⟩ = some (.pointer (some ⟨b, 0, none⟩)) := by rw [Lib.cell_of_heap hb2]; rfl
  have d1 : w2.cell? ⟨b, 1, none⟩ = some v := by rw [Lib.cell_of_heap hb2]; rfl
  have f1 : w2.frozen? ⟨b, 1, none⟩ = false := Lib.frozen_of_heap hb2 1
  obtain ⟨ao, n', cap, rfl⟩ : ∃ ao n' cap, v' = .slice ao n' cap := by
    rcases hown'.2 with ⟨hv, _⟩ | ⟨g, cap, cur, hv, _⟩
    · exact ⟨_, _, _, hv⟩
    · exact ⟨_, _, _, hv⟩
  go_wp2
  go_ret2
  refine ⟨rfl, ?_, ?_⟩
  · exact Lib.BuilderAt.put (T := 207) (e := 5) hB hb2 (bs' := bs ++ Lib.strCells s) (by simpa [Lib.strCells_length] using hown') (by decide)
  · exact (hb1.grown hgrow (by have := hb1.size; omega) (fun k hk => (hown.lt k hk).1)).setCell (p := ⟨b, 1, none⟩) hB _
end Go.Proofs.YtmhmdoobadckkaaGreatDoor
/-
  DERIVED: THE SHELF's CONTRACTS AT THIS DUMP, IN PLAIN WORDS (tools/lay-plain.mjs out of 'YtmhmdoobadckkaaGreatDoorShm0.lean', which tools/lay-shelf.mjs wrote): THE SAME DECLARATIONS UNDER THE SAME NAMES: 'import', 'namespace', 'open', 'def', 'theorem' AND NOTHING ELSE: no command of the shelf's: FOR A HAND-IN. Each laying: the table of numbers ('.._ren') and one theorem, a field a fact of the dump's own or the kernel's comparison; each contract: ONE APPLICATION.
-/
namespace Go.Proofs
open Go.Shelf
def Tryz.laysJoin_ren : Go.Shelf.Ren := ⟨fun | 156 => 174 | 165 => 148 | 166 => 149 | 169 => 151 | 240 => 228 | 241 => 229 | 276 => 298 | 277 => 299 | n => n, fun | 31 => 22 | 9 => 9 | 3 => 3 | 4 => 4 | 0 => 0 | 20 => 20 | 72 => 207 | 76 => 211 | 70 => 205 | 37 => 62 | 75 => 210 | 127 => 291 | 164 => 346 | 5 => 5 | 80 => 130 | n => n, fun | n => n⟩
theorem Tryz.laysJoin : Go.Proofs.Lays.n156 Tryz.prog Tryz.laysJoin_ren := {
  mixed := by kernel_rfl
  f156 := Tryz.func174.trans (congrArg some (by kernel_rfl))
  f165 := Tryz.func148.trans (congrArg some (by kernel_rfl))
  f166 := Tryz.func149.trans (congrArg some (by kernel_rfl))
  f169 := Tryz.func151.trans (congrArg some (by kernel_rfl))
  f240 := Tryz.func228.trans (congrArg some (by kernel_rfl))
  f241 := Tryz.func229.trans (congrArg some (by kernel_rfl))
  f276 := Tryz.func298.trans (congrArg some (by kernel_rfl))
  f277 := Tryz.func299.trans (congrArg some (by kernel_rfl))
  t0 := Tryz.underlying0
  a0 := Tryz.isAgg0
  z0 := Tryz.sizeOf0
  v0 := Tryz.zeroValue0
  t3 := Tryz.underlying3
  a3 := Tryz.isAgg3
  z3 := Tryz.sizeOf3
  v3 := Tryz.zeroValue3
  t4 := Tryz.underlying4
  a4 := Tryz.isAgg4
  z4 := Tryz.sizeOf4
  v4 := Tryz.zeroValue4
  t9 := Tryz.underlying9
  a9 := Tryz.isAgg9
  z9 := Tryz.sizeOf9
  v9 := Tryz.zeroValue9
  t20 := Tryz.underlying20
  a20 := Tryz.isAgg20
  z20 := Tryz.sizeOf20
  v20 := Tryz.zeroValue20
  t31 := Tryz.underlying22
  a31 := Tryz.isAgg22
  z31 := Tryz.sizeOf22
  v31 := Tryz.zeroValue22
  t37 := Tryz.underlying62
  a37 := Tryz.isAgg62
  z37 := Tryz.sizeOf62
  v37 := Tryz.zeroValue62
  t70 := Tryz.underlying205
  a70 := Tryz.isAgg205
  z70 := Tryz.sizeOf205
  v70 := Tryz.zeroValue205
  t72 := Tryz.underlying207
  a72 := Tryz.isAgg207
  z72 := Tryz.sizeOf207
  v72 := Tryz.zeroValue207
  t75 := Tryz.underlying210
  a75 := Tryz.isAgg210
  z75 := Tryz.sizeOf210
  v75 := Tryz.zeroValue210
  t76 := Tryz.underlying211
  a76 := Tryz.isAgg211
  z76 := Tryz.sizeOf211
  v76 := Tryz.zeroValue211
  t127 := Tryz.underlying291
  a127 := Tryz.isAgg291
  z127 := Tryz.sizeOf291
  v127 := Tryz.zeroValue291
  t164 := Tryz.underlying346
  a164 := Tryz.isAgg346
  z164 := Tryz.sizeOf346
  v164 := Tryz.zeroValue346 }
def Tryz.laysBS_ren : Go.Shelf.Ren := ⟨fun | 169 => 151 | n => n, fun | 70 => 205 | 9 => 9 | 0 => 0 | 72 => 207 | 37 => 62 | 127 => 291 | 3 => 3 | 5 => 5 | n => n, fun | n => n⟩
theorem Tryz.laysBS : Go.Proofs.Lays.n169 Tryz.prog Tryz.laysBS_ren := {
  mixed := by kernel_rfl
  f169 := Tryz.func151.trans (congrArg some (by kernel_rfl))
  t0 := Tryz.underlying0
  a0 := Tryz.isAgg0
  z0 := Tryz.sizeOf0
  v0 := Tryz.zeroValue0
  t3 := Tryz.underlying3
  a3 := Tryz.isAgg3
  z3 := Tryz.sizeOf3
  v3 := Tryz.zeroValue3
  t9 := Tryz.underlying9
  a9 := Tryz.isAgg9
  z9 := Tryz.sizeOf9
  v9 := Tryz.zeroValue9
  t37 := Tryz.underlying62
  a37 := Tryz.isAgg62
  z37 := Tryz.sizeOf62
  v37 := Tryz.zeroValue62
  t70 := Tryz.underlying205
  a70 := Tryz.isAgg205
  z70 := Tryz.sizeOf205
  v70 := Tryz.zeroValue205
  t72 := Tryz.underlying207
  a72 := Tryz.isAgg207
  z72 := Tryz.sizeOf207
  v72 := Tryz.zeroValue207
  t127 := Tryz.underlying291
  a127 := Tryz.isAgg291
  z127 := Tryz.sizeOf291
  v127 := Tryz.zeroValue291 }
def Tryz.laysHP_ren : Go.Shelf.Ren := ⟨fun | 99 => 147 | 206 => 227 | n => n, fun | 9 => 9 | 4 => 4 | 3 => 3 | n => n, fun | n => n⟩
theorem Tryz.laysHP : Go.Proofs.Lays.n99 Tryz.prog Tryz.laysHP_ren := {
  mixed := by kernel_rfl
  f99 := Tryz.func147.trans (congrArg some (by kernel_rfl))
  f206 := Tryz.func227.trans (congrArg some (by kernel_rfl))
  t3 := Tryz.underlying3
  a3 := Tryz.isAgg3
  z3 := Tryz.sizeOf3
  v3 := Tryz.zeroValue3
  t4 := Tryz.underlying4
  a4 := Tryz.isAgg4
  z4 := Tryz.sizeOf4
  v4 := Tryz.zeroValue4
  t9 := Tryz.underlying9
  a9 := Tryz.isAgg9
  z9 := Tryz.sizeOf9
  v9 := Tryz.zeroValue9 }
end Go.Proofs
/- strings.Join, strings.HasPrefix, (*strings.Builder).String, by the shelf. -/
namespace Go.Proofs
set_option maxRecDepth 20000
open Go.RowKit Go.Shelf

theorem Tryz.extraJoin : Builder.Extra Tryz.prog Tryz.laysJoin_ren := {
  sizeBuilder := by kernel_rfl
  liesBuilder := by kernel_rfl
  t5 := Tryz.underlying5
  a5 := Tryz.isAgg5
  z5 := Tryz.sizeOf5
  v5 := Tryz.zeroValue5
  infoByte := by kernel_rfl
  cellsByte := by kernel_rfl
  sizeByte := by kernel_rfl
  neB5 := by decide }
theorem Tryz.extraBS : Builder.Extra Tryz.prog Tryz.laysBS_ren := {
  sizeBuilder := by kernel_rfl
  liesBuilder := by kernel_rfl
  t5 := Tryz.underlying5
  a5 := Tryz.isAgg5
  z5 := Tryz.sizeOf5
  v5 := Tryz.zeroValue5
  infoByte := by kernel_rfl
  cellsByte := by kernel_rfl
  sizeByte := by kernel_rfl
  neB5 := by decide }
theorem Tryz.strings_Join (bk o c : Nat) (xs : List ByteArray) (sep : ByteArray) (w : World)
    (hcells : ∀ (j : Nat) x, xs[j]? = some x → w.cell? ⟨bk, o + j, none⟩ = some (.string x))
    (hbk : bk < w.heap.size) (hN : xs.length ≤ 140737488355328) (hcap : xs.length ≤ c)
    (hlen : (Lib.join (xs.map (·.data.toList)) sep.data.toList).length ≤ 140737488355328) :
    Calls Tryz.prog 174 #[.slice (some ⟨bk, o, none⟩) xs.length c, .string sep] w fun e w' => e = .returned (.string ⟨(Lib.join (xs.map (·.data.toList)) sep.data.toList).toArray⟩) ∧ Below w.heap.size w w' :=
  Any.strings_Join Tryz.laysJoin Tryz.extraJoin bk o c xs sep w hcells hbk hN hcap hlen
theorem Tryz.strings_HasPrefix (s p : ByteArray) (w : World) :
    Calls Tryz.prog 147 #[.string s, .string p] w fun e w' => e = .returned (.bool (Lib.hasPrefix s.data.toList p.data.toList)) ∧ w' = w := Any.strings_HasPrefix Tryz.laysHP s p w
theorem Tryz.Builder_String_any (B b : Nat) (l : List UInt8) (w : World) (h : Lib.IsBuilder 207 5 B b (Lib.byteCells l) w) (hBw : B ≤ w.heap.size) :
    Calls Tryz.prog 151 #[.pointer (some ⟨b, 0, none⟩)] w fun e w' => e = .returned (.string ⟨l.toArray⟩) ∧ Below B w w' := Any.Builder_String_any Tryz.laysBS Tryz.extraBS B b l w h hBw
end Go.Proofs
/- a record's head. -/
namespace Go.Proofs.YtmhmdoobadckkaaGreatDoor
set_option maxRecDepth 20000
open Go.RowKit Go.OpenShut

def pByte (p : Prt) : UInt8 := UInt8.ofNat (4 * p.col + p.off).toNat
def headF (seq row : Int) (n sum : Nat) : List UInt8 := [82, 86, 84, 74] ++ encL [seq, row, (n : Int), (sum : Int)] [8, 2, 1, 4]
def headL (seq row : Int) (sum : Nat) (ps : List Prt) : List UInt8 := headF seq row ps.length sum ++ ps.map pByte
def headB (seq row : Int) (sum : Nat) (ps : List Prt) : List UInt8 := sealL (headL seq row sum ps) 60
theorem enc4 (seq row : Int) (n sum : Nat) (h1 : 0 ≤ seq ∧ seq < 18446744073709551616) (h2 : 0 ≤ row ∧ row < 256) (h3 : n ≤ 40) (h4 : sum < 4294967296) :
    encS [seq, row, (n : Int), (sum : Int)] [8, 2, 1, 4] = ⟨(encL [seq, row, (n : Int), (sum : Int)] [8, 2, 1, 4]).toArray⟩ ∧ (encL [seq, row, (n : Int), (sum : Int)] [8, 2, 1, 4]).length = 15 := by
  have hw : wOK [8, 2, 1, 4] = true := by decide
  have hf : allFit [seq, row, (n : Int), (sum : Int)] [8, 2, 1, 4] = true := by
    unfold allFit
    simp only [List.length_cons, List.length_nil, List.range_succ, List.range_zero, List.nil_append, List.cons_append, List.all_cons, List.all_nil, Bool.and_true, Bool.and_eq_true, List.getD_cons_zero, List.getD_cons_succ]
    refine ⟨?_, ?_, ?_, ?_⟩ <;> (unfold fitsB; simp only [Bool.and_eq_true, decide_eq_true_eq]; refine ⟨by decide, ?_⟩)
    · show seq.toNat < 256 ^ 8; omega
    · show row.toNat < 256 ^ 2; omega
    · show n < 256 ^ 1; omega
    · show sum < 256 ^ 4; omega
  obtain ⟨h5, h6⟩ := enc_ok (ls := [seq, row, (n : Int), (sum : Int)]) hw rfl hf
  have h7 := encS_size (ls := [seq, row, (n : Int), (sum : Int)]) hw rfl hf
  rw [h6] at h7
  refine ⟨h6, ?_⟩
  have h8 : (ByteArray.mk (encL [seq, row, (n : Int), (sum : Int)] [8, 2, 1, 4]).toArray).size = (encL [seq, row, (n : Int), (sum : Int)] [8, 2, 1, 4]).length := by show Array.size _ = _; simp
  rw [h8] at h7
  have h9 : sumW [8, 2, 1, 4] = 15 := by decide
  omega
theorem headF_len (seq row : Int) (n sum : Nat) (h1 : 0 ≤ seq ∧ seq < 18446744073709551616) (h2 : 0 ≤ row ∧ row < 256) (h3 : n ≤ 40) (h4 : sum < 4294967296) : (headF seq row n sum).length = 19 := by
  unfold headF
  rw [List.length_append, (enc4 seq row n sum h1 h2 h3 h4).2]
  rfl
theorem placed_row {row : Int} {ps : List Prt} (h : placedB row ps = true) : 0 ≤ row ∧ row < 256 ∧ 1 ≤ ps.length ∧ ps.length ≤ 40 ∧ placedF [] ps = true := by
  unfold placedB at h
  simp only [Bool.and_eq_true, decide_eq_true_eq] at h
  exact ⟨h.1.1.1.1, h.1.1.1.2, h.1.1.2, h.1.2, h.2⟩
theorem placedF_all : ∀ (ps : List Prt) (l : List (Int × Int)), placedF l ps = true → ∀ p ∈ ps, 0 ≤ p.col ∧ p.col < 10 ∧ 0 ≤ p.off ∧ p.off < 4
  | [], _, _, p, hp => by cases hp
  | q :: ps, l, h, p, hp => by
    rw [placedF] at h
    simp only [Bool.and_eq_true, placeOk, decide_eq_true_eq] at h
    rcases List.mem_cons.1 hp with rfl | hp
    · exact ⟨h.1.1.1.1.1, h.1.1.1.1.2, h.1.1.1.2, h.1.1.2⟩
    · exact placedF_all ps _ h.2 p hp
theorem bld_alloc {T e : TypeId} {B b : Nat} {p : Value} {bs : List Value} {w : World} (h : Lib.BuilderAt T e B b p bs w) (o : Obj) : Lib.BuilderAt T e B b p bs (w.alloc o) := by
  have hlt := h.lt
  obtain ⟨hB, v, hb, hown, hne⟩ := h
  exact ⟨hB, v, (Below.heap_alloc w o b hlt).trans hb, hown.alloc o, hne⟩
theorem bld_below {T e : TypeId} {B b : Nat} {p : Value} {bs : List Value} {w w' : World} (h : Lib.BuilderAt T e B b p bs w) (hb' : Below w.heap.size w w') : Lib.BuilderAt T e B b p bs w' := by
  have hlt := h.lt
  obtain ⟨hB, v, hb, hown, hne⟩ := h
  refine ⟨hB, v, (hb'.block b hlt).trans hb, ?_, hne⟩
  obtain ⟨h1, h2⟩ := hown
  refine ⟨h1, ?_⟩
  rcases h2 with h2 | ⟨g, cap, cur, hv, hg, hh, r⟩
  · exact Or.inl h2
  · refine Or.inr ⟨g, cap, cur, hv, hg, ?_, r⟩
    have hgl : g < w.heap.size := by
      rcases Nat.lt_or_ge g w.heap.size with hlt | hge
      · exact hlt
      · rw [Array.getElem?_eq_none hge] at hh; cases hh
    rw [hb'.block g hgl]; exact hh
theorem bld_new (w : World) (B : Nat) (hB : B ≤ w.heap.size) : Lib.IsBuilder 207 5 B w.heap.size [] (w.alloc (.cells #[.pointer none, .slice none 0 0] 207)) :=
  Or.inl ⟨hB, .slice none 0 0, heap_alloc_new w _, World.ownsRow_nil _ _ _ _, by simp [Value.ownBlock]⟩
theorem byteCells_app (l m : List UInt8) : Lib.byteCells (l ++ m) = Lib.byteCells l ++ Lib.byteCells m := by simp [Lib.byteCells]

theorem or_small : ∀ a, a < 10 → ∀ b, b < 4 → bits BinOp.or IntKind.i64 (((a : Nat) : Int) * 4) ((b : Nat) : Int) = (((4 * a + b : Nat)) : Int) := by decide +kernel
theorem pByte_nat (a b : Nat) (ha : a < 10) (hb : b < 4) (d : ByteArray) : (((4 * a + b : Nat)) : Int) % 256 = ((pByte ⟨(a : Int), (b : Int), d⟩).toNat : Int) := by
  unfold pByte
  dsimp only
  have e : (4 * (a : Int) + (b : Int)).toNat = 4 * a + b := by omega
  rw [e, UInt8.toNat_ofNat']
  omega
set_option maxHeartbeats 4000000 in
theorem head_any (w : World) (seq row : Int) (A : Option Addr) (n c : Nat) (ps : List Prt) (sum : Nat) (h : PartsA w w.heap.size A n ps) (hp : placedB row ps = true) (hs : 0 ≤ seq ∧ seq < 18446744073709551616) (hsum : sum < 4294967296) :
    Calls Tryz.prog 173 #[recV seq row A n c, .int .u32 sum] w fun e w' => e = .returned (.string ⟨(headB seq row sum ps).toArray⟩) ∧ Below w.heap.size w w' := by
  unfold recV
  obtain ⟨r0, r1, n1, n40, hpf⟩ := placed_row hp
  have HL := Lib.hid h.1
  have HALL := Lib.hid (placedF_all ps [] hpf)
  rw [HL.out] at n1 n40
  obtain ⟨hE, hEl⟩ := enc4 seq row n sum hs ⟨r0, r1⟩ n40 hsum
  have HFL := Lib.hid (headF_len seq row n sum hs ⟨r0, r1⟩ n40 hsum)
  have HE := Lib.hid hE
  clear hp hpf hE hEl
  go_enter Tryz.func173, Tryz.ntmps173
  go_wp2_with fail
  have hR := (Blk.new w 54 #[.int .u64 seq, .int .i64 row, .slice A n c]).alloc (.cells #[.pointer none, .slice none 0 0] 207)
  have hbe := ((Below.refl w.heap.size w).alloc (Nat.le_refl _) (.cells #[.int .u64 seq, .int .i64 row, .slice A n c] 54)).alloc (by simp) (.cells #[.pointer none, .slice none 0 0] 207)
  have hB := bld_new (w.alloc (.cells #[.int .u64 seq, .int .i64 row, .slice A n c] 54)) (w.heap.size + 1) (by simp)
  have hz : (w.alloc (.cells #[.int .u64 seq, .int .i64 row, .slice A n c] 54)).heap.size = w.heap.size + 1 := by simp
  have hws : w.heap.size + 1 ≤ ((w.alloc (.cells #[.int .u64 seq, .int .i64 row, .slice A n c] 54)).alloc (.cells #[.pointer none, .slice none 0 0] 207)).heap.size := by simp
  rw [hz] at hB
  generalize (w.alloc (.cells #[.int .u64 seq, .int .i64 row, .slice A n c] 54)).alloc (.cells #[.pointer none, .slice none 0 0] 207) = W0 at *
  clear hz
  refine (writeString_any (w.heap.size + 1) (w.heap.size + 1) [] ⟨#[82, 86, 84, 74]⟩ W0 hB (by decide) hws).mono ?_
  rintro e W1 ⟨rfl, hB1, hb1⟩
  replace hR := hR.below hb1 (by omega)
  replace hbe := hbe.trans (hb1.mono (by omega))
  replace hws := Nat.le_trans hws hb1.size
  clear hB hb1
  have q0 := hR.cell 0
  have q1 := hR.cell 1
  have q2 := hR.cell 2
  go_wp2_with fail
  have hN := Blk.new W1 49 #[.int .u64 seq, .int .u64 8, .int .u64 row, .int .u64 2, .int .u64 n, .int .u64 1, .int .u64 sum, .int .u64 4]
  have hal := (Below.refl W1.heap.size W1).alloc (Nat.le_refl _) (.cells #[.int .u64 seq, .int .u64 8, .int .u64 row, .int .u64 2, .int .u64 n, .int .u64 1, .int .u64 sum, .int .u64 4] 49)
  replace hR := hR.below hal hR.lt
  replace hB1 := bld_below hB1 hal
  replace hbe := hbe.trans (hal.mono hbe.size)
  replace hws := Nat.le_trans hws hal.size
  clear hal q0 q1 q2
  have hNl := hN.lt
  generalize hg8 : W1.heap.size = g8 at *
  generalize W1.alloc (.cells #[.int .u64 seq, .int .u64 8, .int .u64 row, .int .u64 2, .int .u64 n, .int .u64 1, .int .u64 sum, .int .u64 4] 49) = W2 at *
  refine (packed_any W2 g8 0 8 8 4 [seq, 8, row, 2, (n : Int), 1, (sum : Int), 4] rfl (by omega) rfl hNl (fun j hj => by
    rw [Nat.zero_add, hN.cell j]
    match j, hj with
    | 0, _ => rfl
    | 1, _ => rfl
    | 2, _ => rfl
    | 3, _ => rfl
    | 4, _ => rfl
    | 5, _ => rfl
    | 6, _ => rfl
    | 7, _ => rfl) (by simp only [List.mem_cons, List.not_mem_nil, or_false]; rintro x (rfl | rfl | rfl | rfl | rfl | rfl | rfl | rfl) <;> omega)
    (fun j hj => by
    match j, hj with
    | 0, _ => show (8 : Int) < _; omega
    | 1, _ => show (2 : Int) < _; omega
    | 2, _ => show (1 : Int) < _; omega
    | 3, _ => show (4 : Int) < _; omega)).mono ?_
  rintro e W3 ⟨rfl, hb3⟩
  rw [show evL [seq, 8, row, 2, (n : Int), 1, (sum : Int), 4] 4 = [seq, row, (n : Int), (sum : Int)] from rfl, show odL [seq, 8, row, 2, (n : Int), 1, (sum : Int), 4] 4 = [8, 2, 1, 4] from rfl, HE.out]
  replace hR := hR.below hb3 hR.lt
  replace hB1 := bld_below hB1 hb3
  replace hbe := hbe.trans (hb3.mono hbe.size)
  replace hws := Nat.le_trans hws hb3.size
  clear hb3 hN hNl hg8
  go_wp2_with fail
  have hEL := (enc4 seq row n sum hs ⟨r0, r1⟩ n40 hsum).2
  have hF : headF seq row n sum = [82, 86, 84, 74] ++ encL [seq, row, (n : Int), (sum : Int)] [8, 2, 1, 4] := rfl
  generalize encL [seq, row, (n : Int), (sum : Int)] [8, 2, 1, 4] = EL at *
  clear HE
  refine (writeString_any (w.heap.size + 1) (w.heap.size + 1) _ ⟨EL.toArray⟩ W3 (Or.inr hB1) (by have e : (ByteArray.mk EL.toArray).size = EL.length := by show Array.size _ = _; simp
                                                                                                 rw [e, hEL]; simp [Lib.strCells]) hws).mono ?_
  rintro e W4 ⟨rfl, hB4, hb4⟩
  replace hR := hR.below hb4 (by omega)
  replace hbe := hbe.trans (hb4.mono (by omega))
  replace hws := Nat.le_trans hws hb4.size
  have hcl : [] ++ Lib.strCells ⟨#[82, 86, 84, 74]⟩ ++ Lib.strCells ⟨EL.toArray⟩ = Lib.byteCells (headF seq row n sum) := by
    rw [hF, byteCells_app]
    simp [Lib.strCells, Lib.byteCells]
  rw [hcl] at hB4
  have HFF := Lib.hid (show headL seq row sum ps = headF seq row n sum ++ ps.map pByte by unfold headL; rw [HL.out])
  clear hB1 hb4 hcl hF hEL
  generalize headF seq row n sum = HF at *
  have q0 := hR.cell 2
  go_wp2_with fail
  have h4 := h.below hbe
  clear h
  go_loopw [28] (fun i wr => ∃ k : Nat, k ≤ n ∧ i = .int .i64 k ∧ Lib.BuilderAt 207 5 (w.heap.size + 1) (w.heap.size + 1) (.pointer (some ⟨w.heap.size + 1, 0, none⟩)) (Lib.byteCells (HF ++ (ps.take k).map pByte)) wr ∧ w.heap.size + 1 ≤ wr.heap.size ∧ PartsA wr w.heap.size A n ps ∧ Below w.heap.size w wr) (fun i _ => n - (intOf i).toNat)
  case atStart => exact ⟨0, by omega, rfl, by simpa using hB4, hws, h4, hbe⟩
  case round =>
    obtain ⟨k, hk, rfl, hBr, hwr, hpr, hbr⟩ := hrel
    clear hB4 hR q0 h4 hws hbe
    by_cases hlt : k < n
    · obtain ⟨b, o, rfl, hb, hc⟩ := hpr.2 (by omega)
      obtain ⟨c0, c1, c2⟩ := hc k hlt
      have hall := HALL.out (ps.getD k prt0) (by simp [List.getD, show k < ps.length by rw [HL.out]; exact hlt])
      have HT := Lib.hid (show (ps.take (k + 1)).map pByte = (ps.take k).map pByte ++ [pByte (ps.getD k prt0)] by
        rw [List.take_add_one]
        have e : ps[k]? = some (ps.getD k prt0) := by simp [List.getD, show k < ps.length by rw [HL.out]; exact hlt]
        rw [e]; simp)
      generalize ps.getD k prt0 = p at *
      obtain ⟨pc, po, pd⟩ := p
      dsimp only at c0 c1 c2 hall
      obtain ⟨a0, a1, a2, a3⟩ := hall
      obtain ⟨pc, rfl⟩ := Int.eq_ofNat_of_zero_le a0
      obtain ⟨po, rfl⟩ := Int.eq_ofNat_of_zero_le a2
      clear hc
      have hBx := bld_alloc hBr (.cells #[.int .i64 pc, .int .i64 po, .string pd] 142)
      have hbx := hbr.alloc hbr.size (.cells #[.int .i64 pc, .int .i64 po, .string pd] 142)
      have hpx := hpr.below (Below.refl w.heap.size wr |>.alloc hbr.size (.cells #[.int .i64 pc, .int .i64 po, .string pd] 142))
      have hor := or_small pc (by omega) po (by omega)
      have HBY := Lib.hid (pByte_nat pc po (by omega) (by omega) pd)
      generalize pByte ⟨(pc : Int), (po : Int), pd⟩ = y at *
      obtain ⟨z, hz⟩ : ∃ z : Nat, 4 * pc + po = z := ⟨_, rfl⟩
      rw [hz] at hor HBY
      clear hz
      have hlen : (Lib.byteCells (HF ++ (ps.take k).map pByte)).length ≤ 60 := by
        simp [Lib.byteCells]
        have := HFL.out
        omega
      go_wp2_with fail
      refine (writeByte_any (w.heap.size + 1) (w.heap.size + 1) _ _ _ (Or.inr hBx) (by omega) (by simp; omega)).mono ?_
      rintro e W5 ⟨rfl, hB5, hb5⟩
      rw [HBY.out] at hB5
      rw [show [Value.int IntKind.u8 (y.toNat : Int)] = Lib.byteCells [y] from rfl, ← byteCells_app, List.append_assoc, ← HT.out] at hB5
      have hbe5 := hbx.trans (hb5.mono (by omega))
      have hp5 := hpx.below (hb5.mono (by omega))
      have hw5 : w.heap.size + 1 ≤ W5.heap.size := Nat.le_trans (by simp; omega) hb5.size
      clear hBx hbx hpx hBr hb5
      go_wp2_with fail
      go_roundw
      case rel => exact ⟨k + 1, by omega, by go_num, hB5, hw5, hp5, hbe5⟩
      case measure => simp [intOf]; go_num
    · obtain rfl : k = n := by omega
      rw [List.take_of_length_le (by rw [HL.out]; exact Nat.le_refl _), ← HFF.out] at hBr
      have HLL : Hid ((headL seq row sum ps).length ≤ 60) := Lib.hid (by rw [HFF.out, List.length_append, HFL.out, List.length_map, HL.out]; omega)
      generalize hH : headL seq row sum ps = H at *
      have HHH := Lib.hid hH
      clear hH
      go_wp2_with fail
      refine (Tryz.Builder_String_any (w.heap.size + 1) (w.heap.size + 1) H _ (Or.inr hBr) hwr).mono ?_
      rintro e W6 ⟨rfl, hb6⟩
      have hbe6 := hbr.trans (hb6.mono (by omega))
      have hsz : (ByteArray.mk H.toArray).size = H.length := by show Array.size _ = _; simp
      have hsl := HLL.out
      go_wp2_with fail
      refine (seal_yes _ ⟨H.toArray⟩ 64 60 rfl (by omega) (by omega) (by omega)).mono ?_
      rintro e W7 ⟨rfl, hb7⟩
      go_wp2_with fail
      go_ret
      exact ⟨by unfold headB; rw [HHH.out]; rfl, hbe6.trans (hb7.mono hbe6.size)⟩
end Go.Proofs.YtmhmdoobadckkaaGreatDoor
/- record.Encode. -/
namespace Go.Proofs.YtmhmdoobadckkaaGreatDoor
set_option maxRecDepth 20000
open Go.RowKit Go.OpenShut

def loadS (ps : List Prt) : List ByteArray := ps.map (·.data)
def flatL (ps : List Prt) : List UInt8 := (ps.map fun p => p.data.data.toList).flatten
def recSum (ps : List Prt) : Nat := cmore 0 (flatL ps)
theorem loadS_len (ps : List Prt) : (loadS ps).length = ps.length := by simp [loadS]
theorem loadS_take (ps : List Prt) (k : Nat) (h : k < ps.length) : loadS (ps.take (k + 1)) = loadS (ps.take k) ++ [(ps.getD k prt0).data] := by
  unfold loadS
  rw [List.take_add_one]
  have e : ps[k]? = some (ps.getD k prt0) := by simp [List.getD, h]
  rw [e]; simp
theorem join_none (xs : List (List UInt8)) : Lib.join xs [] = xs.flatten := by
  cases xs with
  | nil => rfl
  | cons x r => rw [Lib.join_cons]; simp [Lib.joinTail]
theorem flat_len (ps : List Prt) (h : loadedB ps = true) : (flatL ps).length = ps.length * 64 := by
  unfold flatL
  induction ps with
  | nil => rfl
  | cons p ps ih =>
    unfold loadedB at *
    rw [List.all_cons, Bool.and_eq_true, decide_eq_true_eq] at h
    rw [List.map_cons, List.flatten_cons, List.length_append, ih h.2, List.length_cons]
    have : p.data.data.toList.length = p.data.size := by simp
    omega
theorem StrsA.lit1 {w0 : World} {g : Nat} {t : TypeId} {x : ByteArray} (hg : w0.heap.size = g) : StrsA (w0.alloc (.cells #[.string x] t)) (w0.alloc (.cells #[.string x] t)).heap.size (some ⟨g, 0, none⟩) 1 [x] := by
  subst hg
  exact StrsA.one (Blk.new w0 t #[.string x])

theorem OwnS.base {w : World} {B B' : Nat} {v : Value} {l : List ByteArray} (h : OwnS w B v l) (hB : B' ≤ B) : OwnS w B' v l := by
  obtain ⟨h1, h2⟩ := h
  refine ⟨h1, ?_⟩
  rcases h2 with h2 | ⟨g, cap, cur, hv, hg, r⟩
  · exact Or.inl h2
  · exact Or.inr ⟨g, cap, cur, hv, Nat.le_trans hB hg, r⟩
set_option maxHeartbeats 1000000 in
theorem encode12_no (w : World) (seq row : Int) (A : Option Addr) (n c : Nat) (ps : List Prt) (h : PartsA w w.heap.size A n ps) (hn : n ≤ maxLen) (hm : mayB row ps = false) :
    Calls Tryz.prog 80 #[recV seq row A n c] w fun e w' => e = .returned (.tuple #[.string ⟨#[]⟩, .slice none 0 0, .int .i64 1]) ∧ Below w.heap.size w w' := by
  have HM := Lib.hid (fun V (h : PartsA V V.heap.size A n ps) => rcMay_any V seq row A n c ps h hn)
  rw [hm] at HM
  unfold recV at *
  have hb0 := (Below.refl w.heap.size w).alloc (Nat.le_refl _) (.cells #[.int .u64 seq, .int .i64 row, .slice A n c] 54)
  have h1 := (h.below hb0).mono hb0.size
  clear h hm
  go_enter Tryz.func80, Tryz.ntmps80
  go_wp2_with fail
  refine (HM.out _ h1).mono ?_
  rintro e W1 ⟨rfl, hb3⟩
  go_wp2_with fail
  refine bodyPost_ret (results_tmp3 rfl _ _ _) rfl ?_
  exact ⟨rfl, hb0.trans (hb3.mono hb0.size)⟩

set_option maxHeartbeats 4000000 in
theorem encode12_own (w : World) (seq row : Int) (A : Option Addr) (n c : Nat) (ps : List Prt) (h : PartsA w w.heap.size A n ps) (hn : n ≤ maxLen) (hm : mayB row ps = true) (hs : 0 ≤ seq ∧ seq < 18446744073709551616) :
    Calls Tryz.prog 80 #[recV seq row A n c] w fun e w' => ∃ A' c', e = .returned (.tuple #[.string ⟨(headB seq row (recSum ps) ps).toArray⟩, .slice A' n c', .int .i64 0]) ∧ n ≤ c' ∧ c' ≤ maxLen ∧ (A' = none → c' = 0) ∧ StrsA w' w'.heap.size A' n (loadS ps) ∧ OwnS w' w.heap.size (.slice A' n c') (loadS ps) ∧ Below w.heap.size w w' := by
  have HM := Lib.hid (fun V (h : PartsA V V.heap.size A n ps) => rcMay_any V seq row A n c ps h hn)
  rw [hm] at HM
  unfold mayB at hm
  rw [Bool.and_eq_true] at hm
  obtain ⟨hpl, hld⟩ := hm
  obtain ⟨_, _, n1, n40, _⟩ := placed_row hpl
  have HL := Lib.hid h.1
  rw [HL.out] at n1 n40
  have HFL := Lib.hid (flat_len ps hld)
  have HHD := Lib.hid (fun V (h : PartsA V V.heap.size A n ps) sum (hsum : sum < 4294967296) => head_any V seq row A n c ps sum h hpl hs hsum)
  unfold recV at *
  have hb0 := (Below.refl w.heap.size w).alloc (Nat.le_refl _) (.cells #[.int .u64 seq, .int .i64 row, .slice A n c] 54)
  have hR := Blk.new w 54 #[.int .u64 seq, .int .i64 row, .slice A n c]
  have h1 := (h.below hb0).mono hb0.size
  clear hpl hld
  go_enter Tryz.func80, Tryz.ntmps80
  go_wp2_with fail
  refine (HM.out _ h1).mono ?_
  rintro e W1 ⟨rfl, hb3⟩
  have hbe := hb0.trans (hb3.mono hb0.size)
  replace hR := hR.below hb3 hR.lt
  have hws : w.heap.size + 1 ≤ W1.heap.size := Nat.le_trans (by simp) hb3.size
  clear hb0 hb3 h1
  have q2 := hR.cell 2
  go_wp2_with fail
  have hv : OwnS W1 (w.heap.size + 1) (.slice none 0 0) [] := ⟨rfl, Or.inl ⟨rfl, rfl⟩⟩
  go_loopw [5, 14] (fun v i wr => ∃ k : Nat, k ≤ n ∧ i = .int .i64 k ∧ OwnS wr (w.heap.size + 1) v (loadS (ps.take k)) ∧ Blk wr w.heap.size 54 #[.int .u64 seq, .int .i64 row, .slice A n c] ∧ w.heap.size + 1 ≤ wr.heap.size ∧ Below w.heap.size w wr) (fun _ i _ => n - (intOf i).toNat)
  case atStart => exact ⟨0, by omega, rfl, by simpa [loadS] using hv, hR, hws, hbe⟩
  case round =>
    obtain ⟨k, hk, rfl, hw, hR1, hw1, hbr⟩ := hrel
    clear hv hR hws hbe q2
    by_cases hlt : k < n
    · obtain ⟨b, o, rfl, hb, hc⟩ := h.2 (by omega)
      obtain ⟨c0, c1, c2⟩ := (hc k hlt).below hbr hb
      have HT := Lib.hid (loadS_take ps k (by rw [HL.out]; exact hlt))
      have HTL := Lib.hid (show (loadS (ps.take k)).length = k by rw [loadS_len, List.length_take, HL.out]; omega)
      generalize ps.getD k prt0 = p at *
      obtain ⟨pc, po, pd⟩ := p
      dsimp only at c0 c1 c2 HT
      clear hc
      go_wp2_with (at_builtin; refine wp_appS rfl (.tmp 18) (.tmp 21) rfl (w.heap.size + 1) _ _ ((hw.alloc _).alloc _) rfl _ _ _ _ rfl (StrsA.lit1 (by simp)) (fun h => by cases h) ?c1 ?c2 ?_; (case c1 => rw [HTL.out]; omega); (case c2 => simp; omega); intro v7 w7 hv7 hg7 hb7)
      have hR7 := ((hR1.alloc (.cells #[.int .i64 pc, .int .i64 po, .string pd] 142)).alloc (.cells #[.string pd] 9)).below hb7 (by omega)
      have hbe7 := ((hbr.alloc hbr.size (.cells #[.int .i64 pc, .int .i64 po, .string pd] 142)).alloc (by have := hbr.size; simp; omega) (.cells #[.string pd] 9)).trans (hb7.mono (by omega))
      have hw7 : w.heap.size + 1 ≤ w7.heap.size := Nat.le_trans (by simp; omega) hb7.size
      rw [← HT.out] at hv7
      go_roundw
      case rel => exact ⟨k + 1, by omega, by go_num, hv7, hR7, hw7, hbe7⟩
      case measure => simp [intOf]; go_num
    · obtain rfl : k = n := by omega
      rw [List.take_of_length_le (by rw [HL.out]; exact Nat.le_refl _)] at hw
      have HSL := Lib.hid ((loadS_len ps).trans HL.out)
      have hcm : ∃ A5 c5, u5 = .slice A5 k c5 ∧ k ≤ c5 ∧ c5 ≤ maxLen ∧ (A5 = none → c5 = 0) := by
        rcases hw.2 with ⟨e, h0⟩ | ⟨g, cap, cur, e, _, _, hl, h3, _⟩
        · exact ⟨none, 0, by rw [HSL.out] at h0; rw [e, h0], by rw [HSL.out] at h0; omega, by unfold maxLen; omega, fun _ => rfl⟩
        · rw [HSL.out] at e hl; exact ⟨_, _, e, hl, h3, fun e => by cases e⟩
      obtain ⟨A5, c5, rfl, hc5, hcm5, hA5⟩ := hcm
      have hst := hw.strs
      obtain ⟨b, o, rfl, hb, hcs⟩ := hst.2 (by omega)
      have hp1 := (h.below hbr).mono hbr.size
      have HJ := Lib.hid (join_none ((loadS ps).map (·.data.toList)))
      have hfl : ((loadS ps).map (·.data.toList)).flatten = flatL ps := by simp [loadS, flatL, Function.comp_def]
      rw [hfl] at HJ
      clear hfl
      have HJC : Hid (∀ V, Below wr.heap.size wr V → Calls Tryz.prog 174 #[.slice (some ⟨b, o, none⟩) k c5, .string ⟨#[]⟩] V fun e w' => e = .returned (.string ⟨(flatL ps).toArray⟩) ∧ Below V.heap.size V w') := Lib.hid (fun V hV => by
        have h := Tryz.strings_Join b o c5 (loadS ps) ⟨#[]⟩ V (fun j x hj => by
          obtain ⟨hjl, hje⟩ := List.getElem?_eq_some_iff.1 hj
          have h2 := hcs j (by rw [HSL.out] at hjl; exact hjl)
          rw [(hV.cell (p := ⟨b, o + j, none⟩) hb), h2, ← hje]
          simp [List.getD, hjl]) (Nat.lt_of_lt_of_le hb hV.size) (by rw [HSL.out]; omega) (by rw [HSL.out]; exact hc5) (by rw [show (⟨#[]⟩ : ByteArray).data.toList = [] from rfl, HJ.out, HFL.out, HL.out]; omega)
        rw [HSL.out, show (⟨#[]⟩ : ByteArray).data.toList = [] from rfl, HJ.out] at h
        exact h)
      have HSM : Hid (∀ V, Calls Tryz.prog 157 #[.string ⟨(flatL ps).toArray⟩] V fun e w' => e = .returned (.int .u32 (recSum ps : Nat)) ∧ Below V.heap.size V w') := Lib.hid (fun V => by
        have h := sum_any V ⟨(flatL ps).toArray⟩ (by
          have e : (ByteArray.mk (flatL ps).toArray).size = (flatL ps).length := by show Array.size _ = _; simp
          rw [e, HFL.out, HL.out]
          unfold maxLen
          omega)
        rw [show (⟨(flatL ps).toArray⟩ : ByteArray).data.toList = flatL ps by simp] at h
        exact h)
      have hsl : recSum ps < 4294967296 := cmore_lt _ _
      have hq := hR1.cell
      go_wp2_with fail
      refine wp_region_nf (fun Y => Below wr.heap.size wr Y) (fun _ => false) [(0, true), (1, true), (5, true), (2, false), (3, false), (4, false), (6, true), (7, true), (8, true)] (by kernel_rfl) rfl (by kernel_rfl) (by kernel_rfl) (fun d _ _ _ _ h => by cases d <;> exact h) ?_
      have hbd := (Below.refl wr.heap.size wr).drew
      have HRQ := Lib.hid (fun (Y : World) (hY : Below wr.heap.size wr Y) => (hR1.below hY hR1.lt).cell)
      repeat (refine nf_pure rfl hbd (fun Y hY => by have q := HRQ.out Y hY; clear hY; go_wp2; exact ⟨rfl, rfl, rfl⟩) rfl ?_ ?_; rfl)
      refine nf_imp rfl ?_
      go_wp2_with fail
      refine (HJC.out _ hbd).mono ?_
      rintro e W2 ⟨rfl, hb2⟩
      replace hbd := hbd.trans (hb2.mono hbd.size)
      clear hb2
      go_wp2_with fail
      refine ⟨fun _ => hbd, ?_⟩
      refine nf_imp rfl ?_
      go_wp2_with fail
      refine (HSM.out _).mono ?_
      rintro e W3 ⟨rfl, hb2⟩
      replace hbd := hbd.trans (hb2.mono hbd.size)
      clear hb2
      go_wp2_with fail
      refine ⟨fun _ => hbd, ?_⟩
      refine nf_imp rfl ?_
      go_wp2_with fail
      refine (HHD.out _ ((hp1.below hbd).mono hbd.size) (recSum ps) hsl).mono ?_
      rintro e W4 ⟨rfl, hb2⟩
      replace hbd := hbd.trans (hb2.mono hbd.size)
      clear hb2
      go_wp2_with fail
      refine ⟨fun _ => hbd, ?_⟩
      repeat (refine nf_pure rfl hbd (fun Y hY => by clear hY; go_wp2; exact ⟨rfl, rfl, rfl⟩) rfl ?_ ?_; rfl)
      refine nf_nil ?_
      go_wp2_with fail
      refine bodyPost_ret (results_tmp3 rfl _ _ _) rfl ?_
      exact ⟨some ⟨b, o, none⟩, c5, rfl, hc5, hcm5, hA5, (hst.below hbd).mono hbd.size, (hw.below hbd).base (by omega), hbr.trans (hbd.mono hbr.size)⟩
theorem encode12_yes (w : World) (seq row : Int) (A : Option Addr) (n c : Nat) (ps : List Prt) (h : PartsA w w.heap.size A n ps) (hn : n ≤ maxLen) (hm : mayB row ps = true) (hs : 0 ≤ seq ∧ seq < 18446744073709551616) :
    Calls Tryz.prog 80 #[recV seq row A n c] w fun e w' => ∃ A' c', e = .returned (.tuple #[.string ⟨(headB seq row (recSum ps) ps).toArray⟩, .slice A' n c', .int .i64 0]) ∧ n ≤ c' ∧ c' ≤ maxLen ∧ (A' = none → c' = 0) ∧ StrsA w' w'.heap.size A' n (loadS ps) ∧ Below w.heap.size w w' :=
  (encode12_own w seq row A n c ps h hn hm hs).mono fun _ _ ⟨A', c', h1, h2, h3, h4, h5, _, h7⟩ => ⟨A', c', h1, h2, h3, h4, h5, h7⟩
end Go.Proofs.YtmhmdoobadckkaaGreatDoor
/- record.Head: what it comes to, and the walks that end early. -/
namespace Go.Proofs.YtmhmdoobadckkaaGreatDoor
set_option maxRecDepth 20000
open Go.RowKit Go.OpenShut

def partB (c : UInt8) : Prt := ⟨((c.toNat / 4 : Nat) : Int), ((c.toNat % 4 : Nat) : Int), ⟨#[]⟩⟩
def ws4 : List Int := [8, 2, 1, 4]
def headNs (b : ByteArray) : List Nat := decL ws4 ((b.data.toList.take 19).drop 4)
def headPs (b : ByteArray) : List Prt := (((b.data.toList.take 60).drop 19).take ((headNs b).getD 2 0)).map partB
def headOK (b : ByteArray) : Bool := placedB (((headNs b).getD 1 0 : Nat) : Int) (headPs b) && decide (headB (((headNs b).getD 0 0 : Nat) : Int) (((headNs b).getD 1 0 : Nat) : Int) ((headNs b).getD 3 0) (headPs b) = b.data.toList)
def headM (b : ByteArray) : Bool := decide (b.data.toList.take 4 = [82, 86, 84, 74])
def headE (b : ByteArray) : Int := if b.size = 64 then if openB b.data.toList then if headM b then if headOK b then 0 else 1 else 81 else 80 else 31
structure Hd where
  seq : Nat
  row : Nat
  sum : Nat
  ps : List Prt
def headR (b : ByteArray) : Hd := if headE b = 0 then ⟨(headNs b).getD 0 0, (headNs b).getD 1 0, (headNs b).getD 3 0, headPs b⟩ else ⟨0, 0, 0, []⟩
theorem ws4_ok : wOK ws4 = true := by decide
theorem headNs_len (b : ByteArray) : (headNs b).length = 4 := decL_len _ _
theorem headNs_bd (b : ByteArray) (i : Nat) (hi : i < 4) : (headNs b).getD i 0 < 256 ^ (ws4.getD i 0).toNat := decL_fits ws4 _ i hi
theorem headNs_0 (b : ByteArray) : (headNs b).getD 0 0 < 18446744073709551616 := headNs_bd b 0 (by omega)
theorem headNs_1 (b : ByteArray) : (headNs b).getD 1 0 < 65536 := headNs_bd b 1 (by omega)
theorem headNs_2 (b : ByteArray) : (headNs b).getD 2 0 < 256 := headNs_bd b 2 (by omega)
theorem headNs_3 (b : ByteArray) : (headNs b).getD 3 0 < 4294967296 := headNs_bd b 3 (by omega)
theorem hdRet {W : World} {g : Nat} (seq row : Int) (v : Value) (S : Int) (E : Int) (fn : Func) (t0 t1 : Value) (rest : List Value) (h : Blk W g 54 #[.int .u64 seq, .int .i64 row, v]) (hr : fn.results = #[ResultVar.cell 2 54, ResultVar.tmp 3, ResultVar.tmp 4]) :
    (results fn (t0 :: t1 :: .pointer (some ⟨g, 0, none⟩) :: .int .u32 S :: .int .i64 E :: rest).toArray).run Tryz.prog W = .ok (.tuple #[.agg #[.int .u64 seq, .int .i64 row, v], .int .u32 S, .int .i64 E]) W := by
  have hq := h.cell
  simp [results, hr, go_sem, hq]
def set3 (w : World) (g : Nat) (x y z : Value) : World := ((w.setCell ⟨g, 0, none⟩ x).setCell ⟨g, 1, none⟩ y).setCell ⟨g, 2, none⟩ z
theorem Blk.set3 {w : World} {g : Nat} {t : TypeId} {a b c : Value} (h : Blk w g t #[a, b, c]) (x y z : Value) : Blk (set3 w g x y z) g t #[x, y, z] := ((h.set_ 0 x).set_ 1 y).set_ 2 z
theorem below_set3 {B : Nat} {w w' : World} {g : Nat} (h : Below B w w') (hg : B ≤ g) (x y z : Value) : Below B w (set3 w' g x y z) :=
  ((h.setCell (p := ⟨g, 0, none⟩) hg x).setCell (p := ⟨g, 1, none⟩) hg y).setCell (p := ⟨g, 2, none⟩) hg z
theorem cell_set3 {w : World} {g : Nat} {x y z : Value} {p : Addr} (h : p.block ≠ g) : (set3 w g x y z).cell? p = w.cell? p := by
  unfold set3
  have q : ∀ i, ({ block := g, off := i } : Addr) ≠ p := fun i e => h (by rw [← e])
  rw [World.cell?_setCell_other _ _ _ _ (q 2), World.cell?_setCell_other _ _ _ _ (q 1), World.cell?_setCell_other _ _ _ _ (q 0)]
/-- what a call of record.Head gives -/
def HdPost (w : World) (E : Int) (r : Hd) (e : Ending) (w' : World) : Prop :=
  ∃ A c, e = .returned (.tuple #[recV (r.seq : Int) (r.row : Int) A r.ps.length c, .int .u32 (r.sum : Int), .int .i64 E]) ∧ OwnP 142 w' w.heap.size (.slice A (r.ps.length : Nat) c) r.ps ∧ Below w.heap.size w w'

theorem open_60 (b : ByteArray) (h : b.size = 64) (ho : openB b.data.toList = true) : openS b = b.extract 0 60 := by
  unfold openS; rw [ho, h]; rfl
theorem prefix_magic (b : ByteArray) (h : b.size = 64) (ho : openB b.data.toList = true) : Lib.hasPrefix (openS b).data.toList (⟨#[82, 86, 84, 74]⟩ : ByteArray).data.toList = headM b := by
  rw [open_60 b h ho]
  unfold Lib.hasPrefix headM
  simp only [ByteArray.data_extract, Array.toList_extract, List.extract_eq_take_drop, List.drop_zero, Nat.sub_zero]
  generalize b.data.toList = l
  rw [Bool.eq_iff_iff, List.isPrefixOf_iff_prefix, List.prefix_iff_eq_take, decide_eq_true_eq, List.take_take]
  exact ⟨fun h => h.symm, fun h => h.symm⟩
theorem head12_short (w : World) (b : ByteArray) (h : b.size ≠ 64) :
    Calls Tryz.prog 160 #[.string b] w (HdPost w 31 ⟨0, 0, 0, []⟩) := by
  have hn : ((b.size : Int) != 64) = true := by rw [bne_iff_ne]; omega
  have hR := Blk.new w 54 #[.int .u64 0, .int .i64 0, .slice none 0 0]
  have hbe := (Below.refl w.heap.size w).alloc (Nat.le_refl _) (.cells #[.int .u64 0, .int .i64 0, .slice none 0 0] 54)
  go_enter Tryz.func160, Tryz.ntmps160
  go_wp2_with fail
  exact bodyPost_ret (hdRet 0 0 _ 0 31 _ _ _ _ hR Tryz.results160) rfl ⟨none, 0, rfl, ⟨rfl, Or.inl ⟨rfl, rfl⟩⟩, hbe⟩

set_option maxHeartbeats 2000000 in
theorem head12_sum (w : World) (b : ByteArray) (h : b.size = 64) (ho : openB b.data.toList = false) :
    Calls Tryz.prog 160 #[.string b] w (HdPost w 80 ⟨0, 0, 0, []⟩) := by
  have hn : ((b.size : Int) != 64) = false := by rw [h]; rfl
  have HO := Lib.hid (fun w => open_any w b (by rw [h]; unfold maxLen; omega))
  rw [ho] at HO
  clear h ho
  go_enter Tryz.func160, Tryz.ntmps160
  go_wp2_with fail
  refine (HO.out _).mono ?_
  rintro e w1 ⟨rfl, hb1⟩
  have hR := (Blk.new w 54 #[.int .u64 0, .int .i64 0, .slice none 0 0]).below hb1 (by simp)
  have hbe := ((Below.refl w.heap.size w).alloc (Nat.le_refl _) (.cells #[.int .u64 0, .int .i64 0, .slice none 0 0] 54)).trans (hb1.mono (by simp))
  have hq := hR.cell
  have hf := hR.frozen
  go_wp2_with fail
  show bodyPost _ _ _ _ _ (set3 _ w.heap.size _ _ _)
  exact bodyPost_ret (hdRet 0 0 _ 0 80 _ _ _ _ (hR.set3 _ _ _) Tryz.results160) rfl ⟨none, 0, rfl, ⟨rfl, Or.inl ⟨rfl, rfl⟩⟩, below_set3 hbe (Nat.le_refl _) _ _ _⟩
set_option maxHeartbeats 2000000 in
theorem head12_magic (w : World) (b : ByteArray) (h : b.size = 64) (ho : openB b.data.toList = true) (hm : headM b = false) :
    Calls Tryz.prog 160 #[.string b] w (HdPost w 81 ⟨0, 0, 0, []⟩) := by
  have HP := Lib.hid (prefix_magic b h ho)
  rw [hm] at HP
  have hn : ((b.size : Int) != 64) = false := by rw [h]; rfl
  have HO := Lib.hid (fun w => open_any w b (by rw [h]; unfold maxLen; omega))
  rw [ho] at HO
  clear h ho
  go_enter Tryz.func160, Tryz.ntmps160
  go_wp2_with fail
  refine (HO.out _).mono ?_
  rintro e w1 ⟨rfl, hb1⟩
  have hR := (Blk.new w 54 #[.int .u64 0, .int .i64 0, .slice none 0 0]).below hb1 (by simp)
  have hbe := ((Below.refl w.heap.size w).alloc (Nat.le_refl _) (.cells #[.int .u64 0, .int .i64 0, .slice none 0 0] 54)).trans (hb1.mono (by simp))
  have hq := hR.cell
  have hf := hR.frozen
  go_wp2_with fail
  refine (Tryz.strings_HasPrefix (openS b) ⟨#[82, 86, 84, 74]⟩ _).mono ?_
  rintro e W2 ⟨rfl, rfl⟩
  rw [HP.out]
  go_wp2_with fail
  show bodyPost _ _ _ _ _ (set3 _ w.heap.size _ _ _)
  exact bodyPost_ret (hdRet 0 0 _ 0 81 _ _ _ _ (hR.set3 _ _ _) Tryz.results160) rfl ⟨none, 0, rfl, ⟨rfl, Or.inl ⟨rfl, rfl⟩⟩, below_set3 hbe (Nat.le_refl _) _ _ _⟩
end Go.Proofs.YtmhmdoobadckkaaGreatDoor
/- record.Head: the walk, of what is sealed and has the magic. -/
namespace Go.Proofs.YtmhmdoobadckkaaGreatDoor
set_option maxRecDepth 20000
open Go.RowKit Go.OpenShut

theorem and_3 : ∀ c, c < 256 → bits BinOp.and IntKind.u8 ((c : Nat) : Int) 3 = ((c % 4 : Nat) : Int) := by decide +kernel
theorem take_drop_15 (l : List UInt8) : ((l.take 60).drop 4).take (19 - 4) = (l.take 19).drop 4 := by
  rw [List.drop_take, List.take_take, List.drop_take]
  rfl
theorem open_60s (b : ByteArray) (h : b.size = 64) (ho : openB b.data.toList = true) : (openS b).size = 60 ∧ ((openS b).extract 4 19).size = 15 ∧ decL ws4 ((openS b).extract 4 19).data.toList = headNs b ∧ ∀ m k, m = min (19 + k) 60 → ((openS b).extract 19 m).data.toList = ((b.data.toList.take 60).drop 19).take k := by
  rw [open_60 b h ho]
  have hz : b.data.toList.length = 64 := by simpa using h
  refine ⟨by simp; omega, by simp; omega, ?_, ?_⟩
  · have q : ((b.extract 0 60).extract 4 19).data.toList = (b.data.toList.take 19).drop 4 := by
      simp only [ByteArray.data_extract, Array.toList_extract, List.extract_eq_take_drop, List.drop_zero, Nat.sub_zero]
      exact take_drop_15 _
    unfold headNs
    rw [q]
  · intro m k hm
    have q : ((b.extract 0 60).extract 19 m).data.toList = ((b.data.toList.take 60).drop 19).take (m - 19) := by
      simp only [ByteArray.data_extract, Array.toList_extract, List.extract_eq_take_drop, List.drop_zero, Nat.sub_zero]
    rw [q]
    have hl : (List.drop 19 (List.take 60 b.data.toList)).length = 41 := by simp; omega
    generalize List.drop 19 (List.take 60 b.data.toList) = l at *
    rcases Nat.lt_or_ge k 41 with e | e
    · rw [show m - 19 = k by omega]
    · rw [List.take_of_length_le (by omega), List.take_of_length_le (by omega)]
theorem BRow.below' {w w' : World} {g B : Nat} {l : List UInt8} (h : BRow w g l) (hb : Below B w w') (hg : g < B) : BRow w' g l :=
  ⟨fun i hi => (hb.cell (p := ⟨g, i, none⟩) hg).trans (h.1 i hi), fun i hi => (hb.frozen (p := ⟨g, i, none⟩) hg).trans (h.2 i hi)⟩
theorem BRow.far {w : World} {g : Nat} {l : List UInt8} (h : BRow w g l) {p : Addr} (hp : p.block ≠ g) (u : Value) : BRow (w.setCell p u) g l :=
  ⟨fun i hi => (World.cell?_setCell_other _ _ _ _ (fun e => hp (by rw [e]))).trans (h.1 i hi), fun i hi => by simpa using h.2 i hi⟩
theorem OwnP.base {e : TypeId} {w : World} {B B' : Nat} {v : Value} {l : List Prt} (h : OwnP e w B v l) (hB : B' ≤ B) : OwnP e w B' v l := by
  obtain ⟨h1, h2⟩ := h
  refine ⟨h1, ?_⟩
  rcases h2 with h2 | ⟨g, cap, cur, hv, hg, r⟩
  · exact Or.inl h2
  · exact Or.inr ⟨g, cap, cur, hv, Nat.le_trans hB hg, r⟩
set_option maxRecDepth 8000 in
set_option maxHeartbeats 4000000 in
theorem head12_open (w : World) (b : ByteArray) (h : b.size = 64) (ho : openB b.data.toList = true) (hm : headM b = true) :
    Calls Tryz.prog 160 #[.string b] w (HdPost w (headE b) (headR b)) := by
  have HP := Lib.hid (prefix_magic b h ho)
  rw [hm] at HP
  have hn : ((b.size : Int) != 64) = false := by rw [h]; rfl
  have HO := Lib.hid (fun w => open_any w b (by rw [h]; unfold maxLen; omega))
  rw [ho] at HO
  obtain ⟨ht1, ht2, ht3, ht4⟩ := open_60s b h ho
  have HE : Hid (headE b = if headOK b then 0 else 1) := Lib.hid (by unfold headE; rw [if_pos h, ho, if_pos rfl, hm, if_pos rfl])
  obtain ⟨t, htt⟩ : ∃ t, openS b = t := ⟨_, rfl⟩
  rw [htt] at HO HP ht1 ht2 ht3 ht4
  have HT1 := Lib.hid ht1
  have HT2 := Lib.hid ht2
  have HT3 := Lib.hid ht3
  have HT4 := Lib.hid ht4
  have g1 : ¬ t.size < 19 := by omega
  have g2 : 19 ≤ t.size := by omega
  have g3 : (19 : Int) ≤ (t.size : Int) := by omega
  clear h ho ht1 ht2 ht3 ht4 htt hm
  go_enter Tryz.func160, Tryz.ntmps160
  go_wp2_with fail
  refine (HO.out _).mono ?_
  rintro e w1 ⟨rfl, hb1⟩
  have hR := (Blk.new w 54 #[.int .u64 0, .int .i64 0, .slice none 0 0]).below hb1 (by simp)
  have hbe := ((Below.refl w.heap.size w).alloc (Nat.le_refl _) (.cells #[.int .u64 0, .int .i64 0, .slice none 0 0] 54)).trans (hb1.mono (by simp))
  have hlt := hR.lt
  clear hb1
  go_wp2_with fail
  refine (Tryz.strings_HasPrefix t ⟨#[82, 86, 84, 74]⟩ _).mono ?_
  rintro e W2 ⟨rfl, rfl⟩
  rw [HP.out]
  go_wp2_with fail
  have hN := Blk.new W2 3 #[.int .i64 8, .int .i64 2, .int .i64 1, .int .i64 4]
  have hal := (Below.refl W2.heap.size W2).alloc (Nat.le_refl _) (.cells #[.int .i64 8, .int .i64 2, .int .i64 1, .int .i64 4] 3)
  replace hR := hR.below hal hlt
  replace hbe := hbe.trans (hal.mono hbe.size)
  have hi := IntsA.blk (k := .i64) (xs := [8, 2, 1, 4]) hN rfl hN.lt
  refine (decode_any _ _ _ _ _ [8, 2, 1, 4] hi (by simp)).mono ?_
  rintro e5 w5 ⟨A, n, c, rfl, hi5, hb5⟩
  replace hR := hR.below hb5 hR.lt
  replace hbe := hbe.trans (hb5.mono hbe.size)
  clear hb5 hi hN hal hlt
  rw [show decX [8, 2, 1, 4] (t.extract 4 19) = _ from (dec_ok ws4_ok (by rw [HT2.out]; rfl)).2, HT3.out] at hi5
  rw [show decE [8, 2, 1, 4] (t.extract 4 19) = 0 from (dec_ok ws4_ok (by rw [HT2.out]; rfl)).1]
  have hn4 : n = 4 := by rw [← hi5.1, List.length_map, headNs_len]
  subst hn4
  obtain ⟨L, off, rfl, hL, hcl⟩ := hi5.2 (by omega)
  have hcl' : ∀ j, j < 4 → w5.cell? ⟨L, off + j, none⟩ = some (.int .u64 (((headNs b).getD j 0 : Nat) : Int)) := fun j hj => by
    rw [hcl j hj]
    have : j < (headNs b).length := by rw [headNs_len]; exact hj
    simp [List.getD, this]
  have c0 : w5.cell? ⟨L, off, none⟩ = some (.int .u64 (((headNs b).getD 0 0 : Nat) : Int)) := hcl' 0 (by omega)
  have c1 := hcl' 1 (by omega)
  have c2 := hcl' 2 (by omega)
  have c3 := hcl' 3 (by omega)
  clear hi5 hcl hcl'
  have HR : Hid (headR b = if headE b = 0 then ⟨(headNs b).getD 0 0, (headNs b).getD 1 0, (headNs b).getD 3 0, headPs b⟩ else ⟨0, 0, 0, []⟩) := Lib.hid rfl
  have HPS : Hid (headPs b = (((b.data.toList.take 60).drop 19).take ((headNs b).getD 2 0)).map partB) := Lib.hid rfl
  have HOK : Hid (headOK b = (placedB (((headNs b).getD 1 0 : Nat) : Int) (headPs b) && decide (headB (((headNs b).getD 0 0 : Nat) : Int) (((headNs b).getD 1 0 : Nat) : Int) ((headNs b).getD 3 0) (headPs b) = b.data.toList))) := Lib.hid rfl
  have hb0 := headNs_0 b
  have hb1 := headNs_1 b
  have hb2 := headNs_2 b
  have hb3 := headNs_3 b
  generalize (headNs b).getD 0 0 = n0 at *
  generalize (headNs b).getD 1 0 = n1 at *
  generalize (headNs b).getD 2 0 = n2 at *
  generalize (headNs b).getD 3 0 = n3 at *
  clear HT2 HT3
  go_wp2_with fail
  refine wp_region_nf (fun x => x.cell? ⟨L, off, none⟩ = some (.int .u64 (n0 : Int)) ∧ x.cell? ⟨L, off + 1, none⟩ = some (.int .u64 (n1 : Int))) (fun _ => false) [(0, true), (1, true), (2, true), (3, true), (4, true), (5, true), (6, true), (7, true), (8, false), (9, false)] (by kernel_rfl) rfl (by kernel_rfl) (by kernel_rfl) (fun d _ _ _ _ h => by cases d <;> exact h) ?_
  have c0d : w5.drew.cell? ⟨L, off, none⟩ = some (.int .u64 (n0 : Int)) := c0
  have c1d : w5.drew.cell? ⟨L, off + 1, none⟩ = some (.int .u64 (n1 : Int)) := c1
  have c2d : w5.drew.cell? ⟨L, off + 2, none⟩ = some (.int .u64 (n2 : Int)) := c2
  have c3d : w5.drew.cell? ⟨L, off + 3, none⟩ = some (.int .u64 (n3 : Int)) := c3
  have hLd : L < w5.drew.heap.size := hL
  replace hR : Blk w5.drew w.heap.size 54 #[.int .u64 0, .int .i64 0, .slice none 0 0] := hR
  replace hbe := hbe.drew
  clear c0 c1 c2 c3 hL
  generalize w5.drew = V at *
  repeat (refine nf_pure rfl ⟨c0d, c1d⟩ (fun Y hY => by obtain ⟨e1, e2⟩ := hY; go_wp2; exact ⟨rfl, rfl, rfl⟩) rfl ?_ ?_; rfl)
  refine nf_imp rfl ?_
  go_wp2_with fail
  have hB := Blk.new V 54 #[.int .u64 0, .int .i64 0, .slice none 0 0]
  have hbV := (Below.refl V.heap.size V).alloc (Nat.le_refl _) (.cells #[.int .u64 0, .int .i64 0, .slice none 0 0] 54)
  have e0 := (hbV.cell (p := ⟨L, off, none⟩) hLd).trans c0d
  have e1 := (hbV.cell (p := ⟨L, off + 1, none⟩) hLd).trans c1d
  have e2 := (hbV.cell (p := ⟨L, off + 2, none⟩) hLd).trans c2d
  have e3 := (hbV.cell (p := ⟨L, off + 3, none⟩) hLd).trans c3d
  have hRl := hR.lt
  replace hR := hR.below hbV hRl
  replace hbe := hbe.trans (hbV.mono hbe.size)
  have hLn : L ≠ V.heap.size := by omega
  have hsz : V.heap.size < (V.alloc (.cells #[.int .u64 0, .int .i64 0, .slice none 0 0] 54)).heap.size := by simp
  clear c0d c1d c2d c3d hbV
  generalize V.alloc (.cells #[.int .u64 0, .int .i64 0, .slice none 0 0] 54) = V1 at *
  generalize V.heap.size = v1 at *
  refine ⟨fun _ => ⟨e0, e1⟩, ?_⟩
  refine nf_imp rfl ?_
  have hq := hB.cell
  have hf := hB.frozen
  go_wp2_with fail
  have hB2 := hB.set3 (.int .u64 (n0 : Int)) (.int .i64 (n1 : Int)) (.slice none 0 0)
  have hR2 : Blk (set3 V1 v1 (.int .u64 (n0 : Int)) (.int .i64 (n1 : Int)) (.slice none 0 0)) w.heap.size 54 #[.int .u64 0, .int .i64 0, .slice none 0 0] := ((hR.far (p := ⟨v1, 0, none⟩) (by dsimp only; omega) _).far (p := ⟨v1, 1, none⟩) (by dsimp only; omega) _).far (p := ⟨v1, 2, none⟩) (by dsimp only; omega) _
  have hbe2 := below_set3 hbe (Nat.le_of_lt hRl) (.int .u64 (n0 : Int)) (.int .i64 (n1 : Int)) (.slice none 0 0)
  replace e0 := (cell_set3 (g := v1) (x := .int .u64 (n0 : Int)) (y := .int .i64 (n1 : Int)) (z := .slice none 0 0) (p := ⟨L, off, none⟩) hLn).trans e0
  replace e1 := (cell_set3 (g := v1) (x := .int .u64 (n0 : Int)) (y := .int .i64 (n1 : Int)) (z := .slice none 0 0) (p := ⟨L, off + 1, none⟩) hLn).trans e1
  replace e2 := (cell_set3 (g := v1) (x := .int .u64 (n0 : Int)) (y := .int .i64 (n1 : Int)) (z := .slice none 0 0) (p := ⟨L, off + 2, none⟩) hLn).trans e2
  replace e3 := (cell_set3 (g := v1) (x := .int .u64 (n0 : Int)) (y := .int .i64 (n1 : Int)) (z := .slice none 0 0) (p := ⟨L, off + 3, none⟩) hLn).trans e3
  have hsz2 : v1 < (set3 V1 v1 (.int .u64 (n0 : Int)) (.int .i64 (n1 : Int)) (.slice none 0 0)).heap.size := by simpa [set3] using hsz
  clear hB hR hbe hq hf hsz
  unfold set3 at *
  generalize ((V1.setCell ⟨v1, 0, none⟩ (.int .u64 (n0 : Int))).setCell ⟨v1, 1, none⟩ (.int .i64 (n1 : Int))).setCell ⟨v1, 2, none⟩ (.slice none 0 0) = V2 at *
  refine ⟨fun _ => ⟨e0, e1⟩, ?_⟩
  refine nf_nil ?_
  obtain ⟨m, hm⟩ : ∃ m : Nat, min (19 + n2) 60 = m := ⟨_, rfl⟩
  have hm19 : 19 ≤ m := by omega
  have hm60 : m ≤ 60 := by omega
  have HX := Lib.hid (HT4.out m n2 hm.symm)
  have HM := Lib.hid hm
  have hmi : min (19 + (n2 : Int)) (t.size : Int) = (m : Int) := by rw [HT1.out]; omega
  have hmt : m ≤ t.size := by rw [HT1.out]; omega
  clear hm HT4
  go_wp2_with fail
  have hcs := Lib.run_convert_string_bytes (P := Tryz.prog) V2 9 62 5 (t.extract 19 m) Tryz.underlying9 Tryz.underlying62 Tryz.underlying5
  have hxl : (t.extract 19 m).size = m - 19 := by
    rw [ByteArray.size_extract, HT1.out]
    omega
  have hxl2 : (t.extract 19 m).data.toList.length = (t.extract 19 m).size := by simp; omega
  generalize t.extract 19 m = bs at *
  rw [hcs]
  have hrow := BRow.of_string V2 bs
  have hb6 := below_bytes V2 bs
  have hw6 : V2.heap.size < (Lib.bytesWorld V2 5 bs).heap.size := by rw [Lib.bytesWorld_size]; omega
  replace hR2 := hR2.below hb6 hR2.lt
  replace hB2 := hB2.below hb6 hB2.lt
  replace hbe2 := hbe2.trans (hb6.mono hbe2.size)
  replace e3 := (hb6.cell (p := ⟨L, off + 3, none⟩) (by dsimp only; omega)).trans e3
  generalize Lib.bytesWorld V2 5 bs = W6 at *
  generalize V2.heap.size = r at *
  rw [HX.out] at hrow hxl2
  clear hcs hb6 e0 e1 e2
  have HX2 := Lib.hid HPS.out
  generalize List.take n2 (List.drop 19 (List.take 60 b.data.toList)) = X at *
  generalize bs.size = q at *
  have hv := OwnP.none_ (e := 142) W6 (r + 1)
  go_wp2_with fail
  go_loopw [62] (fun i wr => ∃ (k : Nat) (v : Value), k ≤ q ∧ i = .int .i64 k ∧ Blk wr w.heap.size 54 #[.int .u64 0, .int .i64 0, .slice none 0 0] ∧ Blk wr v1 54 #[.int .u64 n0, .int .i64 n1, v] ∧ OwnP 142 wr (r + 1) v ((X.take k).map partB) ∧ BRow wr r X ∧ r < wr.heap.size ∧ wr.cell? ⟨L, off + 3, none⟩ = some (.int .u64 (n3 : Int)) ∧ Below w.heap.size w wr) (fun i _ => q - (intOf i).toNat)
  case atStart => exact ⟨0, .slice none 0 0, by omega, rfl, hR2, hB2, hv, hrow, hw6, e3, hbe2⟩
  case round =>
    obtain ⟨k, v, hk, rfl, hR3, hB3, hw, hrw, hws, e3, hbr⟩ := hrel
    clear hR2 hB2 hv hrow hw6 hbe2
    by_cases hlt : k < q
    · have hx := hrw.1 k (by rw [hxl2]; exact hlt)
      generalize hc : X[k]'(by rw [hxl2]; exact hlt) = c1 at *
      have q2 := hB3.cell 2
      have HKL := Lib.hid (show ((X.take k).map partB).length = k by rw [List.length_map, List.length_take, hxl2]; omega)
      have HKS := Lib.hid (show (X.take (k + 1)).map partB = (X.take k).map partB ++ [partB c1] by
        rw [List.take_add_one]
        have e : X[k]? = some c1 := by rw [List.getElem?_eq_getElem (by rw [hxl2]; exact hlt), hc]
        rw [e]; simp)
      obtain ⟨A', c', rfl, hc', hcm'⟩ := hw.shape
      rw [HKL.out] at hc' hw hB3 q2
      unfold bc at hx
      have HPB : Hid (partB c1 = ⟨((c1.toNat / 4 : Nat) : Int), ((c1.toNat % 4 : Nat) : Int), ⟨#[]⟩⟩) := Lib.hid rfl
      rw [HPB.out] at HKS
      clear HPB
      have hcl : c1.toNat < 256 := c1.toNat_lt
      generalize c1.toNat = c2 at *
      have hm1 := and_3 c2 hcl
      obtain ⟨d, hd⟩ : ∃ d : Nat, c2 / 4 = d := ⟨_, rfl⟩
      obtain ⟨md, hmd⟩ : ∃ md : Nat, c2 % 4 = md := ⟨_, rfl⟩
      have hd1 : (c2 : Int) / 4 = (d : Int) := by omega
      have hd64 : d < 64 := by omega
      have hm4 : md < 4 := by omega
      rw [hd, hmd] at HKS
      rw [hmd] at hm1
      clear hd hmd
      have hPL := PartsA.lit (w0 := wr) (g := wr.heap.size) (t := 142) (p := ⟨(d : Int), (md : Int), ⟨#[]⟩⟩) rfl
      dsimp only at hPL
      have HLK := Lib.hid (show ((X.take (k + 1)).map partB).length = k + 1 by rw [List.length_map, List.length_take, hxl2]; omega)
      have HB5 := Lib.hid (fun (W Y : World) (hg : W.grownBy Y (Value.slice A' k c').ownBlock) (hW : Blk W v1 54 #[.int .u64 n0, .int .i64 n1, .slice A' k c']) => (show Blk Y v1 54 #[.int .u64 n0, .int .i64 n1, .slice A' k c'] from (hg.block _ hW.lt (fun e => by
        have := (hw.lt v1 e.symm).1
        omega)).trans hW))
      go_wp2_with (at_builtin; refine wp_appP 46 142 Tryz.underlying46 info_part rfl (.tmp 67) (.tmp 75) rfl (r + 1) _ _ (hw.alloc _) rfl _ 1 1 _ rfl hPL (fun h => by cases h) ?c1 ?c2 ?_; (case c1 => rw [HKL.out]; omega); (case c2 => simp; omega); intro v5 w5' hv5 hg5 hb5 ha5; rw [← HKS.out] at hv5; obtain ⟨A5, c5, rfl, hc5, hcm5⟩ := hv5.shape; rw [HLK.out] at hv5 hc5 ⊢; have hB5 := HB5.out _ _ hg5 (hB3.alloc _); have q5 := hB5.cell; have f5 := hB5.frozen)
      have hbl5 := ((Below.refl (r + 1) wr).alloc (by omega) (.cells #[.int .i64 (d : Int), .int .i64 (md : Int), .string ⟨#[]⟩] 142)).trans hb5
      have hR6 := (hR3.below hbl5 (by omega)).far (p := ⟨v1, 2, none⟩) (by dsimp only; omega) (.slice A5 (k + 1 : Nat) c5)
      have hB6 := hB5.set_ 2 (.slice A5 (k + 1 : Nat) c5)
      have hrw6 := (hrw.below' hbl5 (by omega)).far (p := ⟨v1, 2, none⟩) (by dsimp only; omega) (.slice A5 (k + 1 : Nat) c5)
      have hv6 := hv5.far (p := ⟨v1, 2, none⟩) (fun e => by have := (hv5.lt _ e.symm).1; dsimp only at this; omega) (.slice A5 (k + 1 : Nat) c5)
      have hbe6 := (hbr.trans (hbl5.mono (by omega))).setCell (p := ⟨v1, 2, none⟩) (by dsimp only; omega) (.slice A5 (k + 1 : Nat) c5)
      have e36 := (World.cell?_setCell_other w5' ⟨v1, 2, none⟩ ⟨L, off + 3, none⟩ (.slice A5 (k + 1 : Nat) c5) (fun e => by cases e)).trans ((hbl5.cell (p := ⟨L, off + 3, none⟩) (by dsimp only; omega)).trans e3)
      have hws6 : r < (w5'.setCell ⟨v1, 2, none⟩ (.slice A5 (k + 1 : Nat) c5)).heap.size := by
        have := hbl5.size
        simp
        omega
      go_roundw
      case rel => exact ⟨k + 1, .slice A5 (k + 1 : Nat) c5, by omega, by go_num, hR6, hB6, hv6, hrw6, hws6, e36, hbe6⟩
      case measure => simp [intOf]; go_num
    · obtain rfl : k = q := by omega
      rw [List.take_of_length_le (by omega), ← HPS.out] at hw
      obtain ⟨A', c', rfl, hc', hcm'⟩ := hw.shape
      have HPL := Lib.hid (show (headPs b).length = k by rw [HPS.out, List.length_map, hxl2])
      rw [HPL.out] at hw hc' hB3
      have hq := hB3.cell
      have hk41 : k ≤ 41 := by omega
      have hge : ¬ k < m - 19 := by omega
      clear hxl hmi hmt hm60 hm19
      have hp : PartsA wr wr.heap.size A' k (headPs b) := hw.parts
      have HW := Lib.hid (hw.base (show w.heap.size ≤ r + 1 by omega))
      have HPC := Lib.hid (fun V (h : PartsA V V.heap.size A' k (headPs b)) => placed_any V n0 n1 A' k c' (headPs b) h (by unfold maxLen; omega))
      go_wp2_with fail
      refine (HPC.out _ hp).mono ?_
      rintro e W7 ⟨rfl, hb7⟩
      by_cases hpl : placedB (n1 : Int) (headPs b) = true
      · rw [hpl]
        have hp7 := (hp.below hb7).mono hb7.size
        have hB7 := hB3.below hb7 hB3.lt
        have hR7 := hR3.below hb7 hR3.lt
        have hq7 := hB7.cell
        have hbe7 := hbr.trans (hb7.mono hbr.size)
        go_wp2_with fail
        refine (head_any _ n0 n1 A' k c' (headPs b) n3 hp7 hpl (by omega) (by omega)).mono ?_
        rintro e W8 ⟨rfl, hb8⟩
        replace hbe7 := hbe7.trans (hb8.mono hbe7.size)
        have hB8 := hB7.below hb8 hB7.lt
        have hR8 := hR7.below hb8 hR7.lt
        have hw8 := ((hw.below hb7).below hb8).base (show w.heap.size ≤ r + 1 by omega)
        have HNB := Lib.hid (fun (e : some w.heap.size = (Value.slice A' (k : Nat) c').ownBlock) => show False by
          have := (hw.lt _ e.symm).1
          omega)
        have hqb := hB8.cell
        have hqr := hR8.cell
        have hfr := hR8.frozen
        by_cases heq : headB (n0 : Int) (n1 : Int) n3 (headPs b) = b.data.toList
        · have hok : headE b = 0 := by rw [HE.out, HOK.out, hpl, heq]; simp
          have HZ := Lib.hid hok
          have hbb : (⟨(headB (n0 : Int) (n1 : Int) n3 (headPs b)).toArray⟩ : ByteArray) = b := by rw [heq]
          rw [hbb]
          have HRR : Hid (headR b = ⟨n0, n1, n3, headPs b⟩) := Lib.hid (by rw [HR.out, if_pos HZ.out])
          clear hok heq hbb hb7 hb8 hp hp7 hq hq7
          go_wp2_with fail
          refine bodyPost_ret (hdRet _ _ _ _ 0 _ _ _ _ (hR8.set3 _ _ _) Tryz.results160) rfl ⟨A', c', ?_, ?_, below_set3 hbe7 (Nat.le_refl _) _ _ _⟩
          · rw [HZ.out, HRR.out]; dsimp only; rw [HPL.out]; rfl
          · rw [HRR.out]; dsimp only; rw [HPL.out]
            exact ((hw8.far (fun e => HNB.out e) _).far (fun e => HNB.out e) _).far (fun e => HNB.out e) _
        · have HZ : Hid (headE b = 1) := Lib.hid (by rw [HE.out, HOK.out, hpl, decide_eq_false heq]; rfl)
          have hbb : ((⟨(headB (n0 : Int) (n1 : Int) n3 (headPs b)).toArray⟩ : ByteArray).toList == b.toList) = false := by
            rw [beq_eq_false_iff_ne, Lib.toList_data, Lib.toList_data]
            simpa using heq
          have HRR : Hid (headR b = ⟨0, 0, 0, []⟩) := Lib.hid (by rw [HR.out, HZ.out]; rfl)
          clear heq hb7 hb8 hp hp7 hq hq7
          generalize (⟨(headB (n0 : Int) (n1 : Int) n3 (headPs b)).toArray⟩ : ByteArray) = H at *
          go_wp2_with fail
          rw [HZ.out, HRR.out]
          exact bodyPost_ret (hdRet 0 0 _ 0 1 _ _ _ _ (hR8.set3 _ _ _) Tryz.results160) rfl ⟨none, 0, rfl, ⟨rfl, Or.inl ⟨rfl, rfl⟩⟩, below_set3 hbe7 (Nat.le_refl _) _ _ _⟩
      · rw [Bool.not_eq_true] at hpl
        rw [hpl]
        have hR7 := hR3.below hb7 hR3.lt
        have hbe7 := hbr.trans (hb7.mono hbr.size)
        have hq7 := hR7.cell
        have hf7 := hR7.frozen
        have hok : headE b = 1 := by rw [HE.out, HOK.out, hpl]; rfl
        have HZ := Lib.hid hok
        have HRR : Hid (headR b = ⟨0, 0, 0, []⟩) := Lib.hid (by rw [HR.out, hok]; rfl)
        clear hok hb7 hp hq
        go_wp2_with fail
        rw [HZ.out, HRR.out]
        exact bodyPost_ret (hdRet 0 0 _ 0 1 _ _ _ _ (hR7.set3 _ _ _) Tryz.results160) rfl ⟨none, 0, rfl, ⟨rfl, Or.inl ⟨rfl, rfl⟩⟩, below_set3 hbe7 (Nat.le_refl _) _ _ _⟩
theorem head12_any (w : World) (b : ByteArray) :
    Calls Tryz.prog 160 #[.string b] w (HdPost w (headE b) (headR b)) := by
  have hr : headE b ≠ 0 → headR b = ⟨0, 0, 0, []⟩ := fun h => by unfold headR; rw [if_neg h]
  by_cases h : b.size = 64
  · by_cases ho : openB b.data.toList = true
    · by_cases hm : headM b = true
      · exact head12_open w b h ho hm
      · rw [Bool.not_eq_true] at hm
        have he : headE b = 81 := by unfold headE; rw [if_pos h, ho, if_pos rfl, hm]; rfl
        rw [hr (by rw [he]; decide), he]
        exact head12_magic w b h ho hm
    · rw [Bool.not_eq_true] at ho
      have he : headE b = 80 := by unfold headE; rw [if_pos h, ho]; rfl
      rw [hr (by rw [he]; decide), he]
      exact head12_sum w b h ho
  · have he : headE b = 31 := by unfold headE; rw [if_neg h]
    rw [hr (by rw [he]; decide), he]
    exact head12_short w b h
end Go.Proofs.YtmhmdoobadckkaaGreatDoor
/- record.Decode. -/
namespace Go.Proofs.YtmhmdoobadckkaaGreatDoor
set_option maxRecDepth 20000
open Go.RowKit Go.OpenShut

def setD (n : Nat) (ps : List Prt) (xs : List ByteArray) (k : Nat) : List Prt := (List.range n).map fun j => if j < k then ⟨(ps.getD j prt0).col, (ps.getD j prt0).off, xs.getD j ⟨#[]⟩⟩ else ps.getD j prt0
def zipD (ps : List Prt) (xs : List ByteArray) : List Prt := setD ps.length ps xs ps.length
theorem setD_len (n : Nat) (ps : List Prt) (xs : List ByteArray) (k : Nat) : (setD n ps xs k).length = n := by simp [setD]
theorem setD_zero (n : Nat) (ps : List Prt) (xs : List ByteArray) (h : ps.length = n) : setD n ps xs 0 = ps := by
  subst h
  apply List.ext_getElem (by simp [setD])
  intro i h1 h2
  simp [setD, List.getD, h2]
theorem setD_getD (n : Nat) (ps : List Prt) (xs : List ByteArray) (k : Nat) (hk : k < n) : (setD n ps xs k).getD k prt0 = ps.getD k prt0 := by
  have : k < (setD n ps xs k).length := by rw [setD_len]; exact hk
  simp [setD, List.getD, hk]
theorem setD_succ (n : Nat) (ps : List Prt) (xs : List ByteArray) (k : Nat) (hk : k < n) :
    (setD n ps xs k).set k ⟨((setD n ps xs k).getD k prt0).col, ((setD n ps xs k).getD k prt0).off, xs.getD k ⟨#[]⟩⟩ = setD n ps xs (k + 1) := by
  rw [setD_getD n ps xs k hk]
  apply List.ext_getElem (by simp [setD])
  intro i h1 h2
  rw [List.getElem_set]
  by_cases e : k = i
  · subst e
    simp [setD]
  · rw [if_neg e]
    simp only [setD, List.getElem_map, List.getElem_range]
    by_cases e2 : i < k
    · rw [if_pos e2, if_pos (by omega)]
    · rw [if_neg e2, if_neg (by omega)]
theorem zipD_len (ps : List Prt) (xs : List ByteArray) : (zipD ps xs).length = ps.length := setD_len _ _ _ _
theorem loadS_zip (ps : List Prt) (xs : List ByteArray) (h : xs.length = ps.length) : loadS (zipD ps xs) = xs := by
  apply List.ext_getElem (by rw [loadS_len, zipD_len, h])
  intro i h1 h2
  simp only [loadS, zipD, setD, List.getElem_map, List.getElem_range]
  rw [if_pos (by omega)]
  simp [List.getD, h2]
def decE12 (b : ByteArray) (xs : List ByteArray) : Int :=
  if headE b ≠ 0 then headE b else if xs.length ≠ (headR b).ps.length then 31 else if loadedB (zipD (headR b).ps xs) then if recSum (zipD (headR b).ps xs) = (headR b).sum then 0 else 80 else 31
def decR12 (b : ByteArray) (xs : List ByteArray) : Hd := if decE12 b xs = 0 then ⟨(headR b).seq, (headR b).row, (headR b).sum, zipD (headR b).ps xs⟩ else ⟨0, 0, 0, []⟩
def DcPost (w : World) (E : Int) (r : Hd) (e : Ending) (w' : World) : Prop :=
  ∃ A c, e = .returned (.tuple #[recV (r.seq : Int) (r.row : Int) A r.ps.length c, .int .i64 E]) ∧ OwnP 142 w' w.heap.size (.slice A (r.ps.length : Nat) c) r.ps ∧ Below w.heap.size w w'
theorem dcRet {W : World} {g : Nat} (seq row : Int) (v : Value) (E : Int) (fn : Func) (t0 t1 t2 t3 : Value) (rest : List Value) (h : Blk W g 54 #[.int .u64 seq, .int .i64 row, v]) (hr : fn.results = #[ResultVar.cell 4 54, ResultVar.tmp 5]) :
    (results fn (t0 :: t1 :: t2 :: t3 :: .pointer (some ⟨g, 0, none⟩) :: .int .i64 E :: rest).toArray).run Tryz.prog W = .ok (.tuple #[.agg #[.int .u64 seq, .int .i64 row, v], .int .i64 E]) W := by
  have hq := h.cell
  simp [results, hr, go_sem, hq]
theorem headR_bd (b : ByteArray) : (headR b).ps.length ≤ 41 ∧ (headR b).seq < 18446744073709551616 ∧ (headR b).row < 65536 ∧ (headR b).sum < 4294967296 := by
  unfold headR
  split
  · refine ⟨?_, headNs_0 b, headNs_1 b, headNs_3 b⟩
    unfold headPs
    simp
    omega
  · exact ⟨by simp, by decide, by decide, by decide⟩

theorem headR_ok (b : ByteArray) (h : headE b = 0) : 1 ≤ (headR b).ps.length := by
  have h2 : headOK b = true := by
    generalize ho : headOK b = x at *
    cases x with
    | true => rfl
    | false =>
      exfalso
      unfold headE at h
      rw [ho] at h
      revert h
      by_cases h1 : b.size = 64
      · rw [if_pos h1]
        cases openB b.data.toList <;> cases headM b <;> decide
      · rw [if_neg h1]
        decide
  unfold headOK at h2
  rw [Bool.and_eq_true] at h2
  have h3 := (placed_row h2.1).2.2.1
  unfold headR
  rw [if_pos h]
  exact h3
set_option maxRecDepth 8000 in
set_option maxHeartbeats 4000000 in
theorem decode12_any (w : World) (b : ByteArray) (A : Option Addr) (m c : Nat) (xs : List ByteArray) (hx : StrsA w w.heap.size A m xs) (hm : m ≤ c) (_hcm : c ≤ maxLen) (hA : A = none → c = 0) :
    Calls Tryz.prog 161 #[.string b, .slice A m c] w (DcPost w (decE12 b xs) (decR12 b xs)) := by
  have HXL := Lib.hid hx.1
  have HH := Lib.hid (fun V => head12_any V b)
  have HE : Hid (decE12 b xs = if headE b ≠ 0 then headE b else if xs.length ≠ (headR b).ps.length then 31 else if loadedB (zipD (headR b).ps xs) then if recSum (zipD (headR b).ps xs) = (headR b).sum then 0 else 80 else 31) := Lib.hid rfl
  have HR : Hid (decR12 b xs = if decE12 b xs = 0 then ⟨(headR b).seq, (headR b).row, (headR b).sum, zipD (headR b).ps xs⟩ else ⟨0, 0, 0, []⟩) := Lib.hid rfl
  obtain ⟨hbl, hb1, hb2, hb3⟩ := headR_bd b
  have hn1 := headR_ok b
  generalize headR b = r at *
  obtain ⟨seq, row, sum, ps⟩ := r
  dsimp only at HR HE hbl hb1 hb2 hb3 hn1
  generalize headE b = E at *
  go_enter Tryz.func161, Tryz.ntmps161
  go_wp2_with fail
  refine (HH.out _).mono ?_
  rintro e w1 ⟨A1, c1, rfl, hv, hb⟩
  dsimp only at hv ⊢
  have hz : (w.alloc (.cells #[.int .u64 0, .int .i64 0, .slice none 0 0] 54)).heap.size = w.heap.size + 1 := by simp
  have hR := (Blk.new w 54 #[.int .u64 0, .int .i64 0, .slice none 0 0]).below hb (by simp)
  have hbe := ((Below.refl w.heap.size w).alloc (Nat.le_refl _) (.cells #[.int .u64 0, .int .i64 0, .slice none 0 0] 54)).trans (hb.mono (by simp))
  have hw1 := hb.size
  rw [hz] at hv hw1
  clear hb hz
  generalize hpn : ps.length = n at *
  have HPN := Lib.hid hpn
  clear hpn
  unfold recV
  have hR0 := hR.alloc (.cells #[.int .u64 seq, .int .i64 row, .slice A1 n c1] 54)
  have hB0 := Blk.new w1 54 #[.int .u64 seq, .int .i64 row, .slice A1 n c1]
  have hv0 := hv.alloc (.cells #[.int .u64 seq, .int .i64 row, .slice A1 n c1] 54)
  have hbe0 := hbe.alloc hbe.size (.cells #[.int .u64 seq, .int .i64 row, .slice A1 n c1] 54)
  by_cases hE : E = 0
  · by_cases hmn : m = n
    · subst hE
      subst hmn
      have hne : ((m : Int) != (m : Int)) = false := by simp
      have HE2 : Hid (decE12 b xs = if loadedB (zipD ps xs) = true then if recSum (zipD ps xs) = sum then 0 else 80 else 31) := Lib.hid (by rw [HE.out, if_neg (by omega), if_neg (by rw [HXL.out]; simp)])
      have HLD := Lib.hid (fun V A1 c1 (h : PartsA V V.heap.size A1 m (zipD ps xs)) => loaded_any V seq row A1 m c1 (zipD ps xs) h (by unfold maxLen; omega))
      have hn1' : 1 ≤ m := hn1 rfl
      obtain ⟨g, rfl⟩ := hv.some_ (by omega)
      obtain ⟨hg1, hg2⟩ := hv.lt g rfl
      have HNB : w.heap.size ≠ g := by omega
      obtain ⟨bb, o, rfl, hbB, hc⟩ := hx.2 (by omega)
      have hlt1 := hB0.lt
      have hqb := hB0.cell
      rw [← setD_zero m ps xs HPN.out] at hv0
      clear HE hn1 hv hbe hR
      go_wp2_with fail
      generalize w1.alloc (.cells #[.int .u64 seq, .int .i64 row, .slice (some ⟨g, 0, none⟩) m c1] 54) = W0 at *
      generalize w1.heap.size = v1 at *
      go_loopw [32] (fun i wr => ∃ k : Nat, k ≤ m ∧ i = .int .i64 k ∧ Blk wr w.heap.size 54 #[.int .u64 0, .int .i64 0, .slice none 0 0] ∧ Blk wr v1 54 #[.int .u64 seq, .int .i64 row, .slice (some ⟨g, 0, none⟩) m c1] ∧ OwnP 142 wr (w.heap.size + 1) (.slice (some ⟨g, 0, none⟩) (m : Nat) c1) (setD m ps xs k) ∧ Below w.heap.size w wr) (fun i _ => m - (intOf i).toNat)
      case atStart => exact ⟨0, by omega, rfl, hR0, hB0, hv0, hbe0⟩
      case round =>
        obtain ⟨k, hk, rfl, hRr, hBr, hvr, hbr⟩ := hrel
        clear hR0 hB0 hv0 hbe0 hqb
        by_cases hlt : k < m
        · have q0 := (hbr.cell (p := ⟨bb, o + k, none⟩) hbB).trans (hc k hlt)
          have HSS := Lib.hid (setD_succ m ps xs k hlt)
          have HSL := Lib.hid (setD_len m ps xs k)
          obtain ⟨a0, a1, a2⟩ := hvr.at_ HSL.out k hlt
          have hfz := hvr.froz HSL.out
          have hqb := hBr.cell
          generalize xs.getD k ⟨#[]⟩ = x at *
          simp only [Nat.zero_add] at a2
          have hv7 := hvr.set2 HSL.out k hlt x
          rw [HSS.out] at hv7
          clear a0 a1 hc
          go_wp2_with fail
          have hR7 := hRr.far (p := ⟨g, k * 3 + 2, none⟩) (by dsimp only; omega) (.string x)
          have hB7 := hBr.far (p := ⟨g, k * 3 + 2, none⟩) (by dsimp only; omega) (.string x)
          have hb7 := hbr.setCell (p := ⟨g, k * 3 + 2, none⟩) (by dsimp only; omega) (.string x)
          go_roundw
          case rel => exact ⟨k + 1, by omega, by go_num, hR7, hB7, hv7, hb7⟩
          case measure => simp [intOf]; go_num
        · obtain rfl : k = m := by omega
          have HZP : Hid (setD k ps xs k = zipD ps xs) := Lib.hid (by unfold zipD; rw [HPN.out])
          rw [HZP.out] at hvr
          have hp := hvr.parts
          have hqb := hBr.cell
          go_wp2_with fail
          refine (HLD.out _ _ _ hp).mono ?_
          rintro e W2 ⟨rfl, hb2⟩
          have hbe2 := hbr.trans (hb2.mono hbr.size)
          have hR2 := hRr.below hb2 hRr.lt
          have hq2 := hR2.cell
          have hf2 := hR2.frozen
          by_cases hld : loadedB (zipD ps xs) = true
          · rw [hld]
            have HRS := Lib.hid (show decE12 b xs = if recSum (zipD ps xs) = sum then 0 else 80 by rw [HE2.out, hld]; rfl)
            have HFL := Lib.hid (flat_len _ hld)
            have HZL := Lib.hid ((zipD_len ps xs).trans HPN.out)
            have HLS := Lib.hid (loadS_zip ps xs (by rw [HXL.out, HPN.out]))
            have HJ := Lib.hid (join_none (xs.map (·.data.toList)))
            have hfl : (xs.map (·.data.toList)).flatten = flatL (zipD ps xs) := by
              have e : flatL (zipD ps xs) = ((loadS (zipD ps xs)).map (·.data.toList)).flatten := by simp [loadS, flatL, Function.comp_def]
              rw [e, HLS.out]
            rw [hfl] at HJ
            clear hfl
            have HJC : Hid (∀ V, Below w.heap.size w V → Calls Tryz.prog 174 #[.slice (some ⟨bb, o, none⟩) k c, .string ⟨#[]⟩] V fun e w' => e = .returned (.string ⟨(flatL (zipD ps xs)).toArray⟩) ∧ Below V.heap.size V w') := Lib.hid (fun V hV => by
              have h := Tryz.strings_Join bb o c xs ⟨#[]⟩ V (fun j x hj => by
                obtain ⟨hjl, hje⟩ := List.getElem?_eq_some_iff.1 hj
                have h2 := hc j (by rw [HXL.out] at hjl; exact hjl)
                rw [(hV.cell (p := ⟨bb, o + j, none⟩) hbB), h2, ← hje]
                simp [List.getD, hjl]) (Nat.lt_of_lt_of_le hbB hV.size) (by rw [HXL.out]; omega) (by rw [HXL.out]; exact hm) (by rw [show (⟨#[]⟩ : ByteArray).data.toList = [] from rfl, HJ.out, HFL.out, HZL.out]; omega)
              rw [HXL.out, show (⟨#[]⟩ : ByteArray).data.toList = [] from rfl, HJ.out] at h
              exact h)
            have HSM : Hid (∀ V, Calls Tryz.prog 157 #[.string ⟨(flatL (zipD ps xs)).toArray⟩] V fun e w' => e = .returned (.int .u32 (recSum (zipD ps xs) : Nat)) ∧ Below V.heap.size V w') := Lib.hid (fun V => by
              have h := sum_any V ⟨(flatL (zipD ps xs)).toArray⟩ (by
                have e : (ByteArray.mk (flatL (zipD ps xs)).toArray).size = (flatL (zipD ps xs)).length := by show Array.size _ = _; simp
                rw [e, HFL.out, HZL.out]
                unfold maxLen
                omega)
              rw [show (⟨(flatL (zipD ps xs)).toArray⟩ : ByteArray).data.toList = flatL (zipD ps xs) by simp] at h
              exact h)
            have hv2 := (hvr.below hb2).base (show w.heap.size ≤ w.heap.size + 1 by omega)
            have hB2 := hBr.below hb2 hBr.lt
            generalize recSum (zipD ps xs) = S at *
            clear hp hqb hb2 hq2 hf2 hvr hBr
            go_wp2_with fail
            refine (HJC.out _ hbe2).mono ?_
            rintro e W3 ⟨rfl, hb3'⟩
            go_wp2_with fail
            refine (HSM.out _).mono ?_
            rintro e W4 ⟨rfl, hb4'⟩
            have hbb := hb3'.trans (hb4'.mono hb3'.size)
            have hbe4 := hbe2.trans (hbb.mono hbe2.size)
            have hR4 := hR2.below hbb hR2.lt
            have hB4 := hB2.below hbb hB2.lt
            have hv4 := hv2.below hbb
            have hq4 := hR4.cell
            have hf4 := hR4.frozen
            have hqb := hB4.cell
            by_cases hS : S = sum
            · subst hS
              have hne : ((S : Int) != (S : Int)) = false := by simp
              have HZ : Hid (decE12 b xs = 0) := Lib.hid (by rw [HRS.out, if_pos rfl])
              have HRR : Hid (decR12 b xs = ⟨seq, row, S, zipD ps xs⟩) := Lib.hid (by rw [HR.out, if_pos HZ.out])
              clear hbb hb3' hb4'
              go_wp2_with fail
              refine bodyPost_ret (dcRet _ _ _ 0 _ _ _ _ _ _ (hR4.set3 _ _ _) Tryz.results161) rfl ⟨some ⟨g, 0, none⟩, c1, ?_, ?_, below_set3 hbe4 (Nat.le_refl _) _ _ _⟩
              · rw [HZ.out, HRR.out]; dsimp only; rw [HZL.out]; rfl
              · rw [HRR.out]; dsimp only; rw [HZL.out]
                exact ((hv4.far (fun e => HNB (Option.some.inj e)) _).far (fun e => HNB (Option.some.inj e)) _).far (fun e => HNB (Option.some.inj e)) _
            · have hne : ((S : Int) != (sum : Int)) = true := by rw [bne_iff_ne]; omega
              have HZ : Hid (decE12 b xs = 80) := Lib.hid (by rw [HRS.out, if_neg hS])
              have HRR : Hid (decR12 b xs = ⟨0, 0, 0, []⟩) := Lib.hid (by rw [HR.out, HZ.out]; rfl)
              clear hbb hb3' hb4'
              go_wp2_with fail
              rw [HZ.out, HRR.out]
              exact bodyPost_ret (dcRet 0 0 _ 80 _ _ _ _ _ _ (hR4.set3 _ _ _) Tryz.results161) rfl ⟨none, 0, rfl, ⟨rfl, Or.inl ⟨rfl, rfl⟩⟩, below_set3 hbe4 (Nat.le_refl _) _ _ _⟩
          · rw [Bool.not_eq_true] at hld
            rw [hld]
            have HZ : Hid (decE12 b xs = 31) := Lib.hid (by rw [HE2.out, hld]; rfl)
            have HRR : Hid (decR12 b xs = ⟨0, 0, 0, []⟩) := Lib.hid (by rw [HR.out, HZ.out]; rfl)
            clear hp hqb hb2 hc
            go_wp2_with fail
            rw [HZ.out, HRR.out]
            exact bodyPost_ret (dcRet 0 0 _ 31 _ _ _ _ _ _ (hR2.set3 _ _ _) Tryz.results161) rfl ⟨none, 0, rfl, ⟨rfl, Or.inl ⟨rfl, rfl⟩⟩, below_set3 hbe2 (Nat.le_refl _) _ _ _⟩
    · have hne : ((m : Int) != (n : Int)) = true := by rw [bne_iff_ne]; omega
      have hq := hR0.cell
      have hf := hR0.frozen
      have HZ : Hid (decE12 b xs = 31) := Lib.hid (by rw [HE.out, if_neg (by omega), if_pos (by rw [HXL.out]; exact hmn)])
      have HRR : Hid (decR12 b xs = ⟨0, 0, 0, []⟩) := Lib.hid (by rw [HR.out, HZ.out]; rfl)
      subst hE
      clear hR hv hbe hB0
      go_wp2_with fail
      rw [HZ.out, HRR.out]
      exact bodyPost_ret (dcRet 0 0 _ 31 _ _ _ _ _ _ (hR0.set3 _ _ _) Tryz.results161) rfl ⟨none, 0, rfl, ⟨rfl, Or.inl ⟨rfl, rfl⟩⟩, below_set3 hbe0 (Nat.le_refl _) _ _ _⟩
  · have hne : (E != 0) = true := by rw [bne_iff_ne]; exact hE
    have hq := hR0.cell
    have hf := hR0.frozen
    have HZ : Hid (decE12 b xs = E) := Lib.hid (by rw [HE.out, if_pos hE])
    have HRR : Hid (decR12 b xs = ⟨0, 0, 0, []⟩) := Lib.hid (by rw [HR.out, HZ.out, if_neg hE])
    clear hR hv hbe hB0
    go_wp2_with fail
    rw [HZ.out, HRR.out]
    exact bodyPost_ret (dcRet 0 0 _ E _ _ _ _ _ _ (hR0.set3 _ _ _) Tryz.results161) rfl ⟨none, 0, rfl, ⟨rfl, Or.inl ⟨rfl, rfl⟩⟩, below_set3 hbe0 (Nat.le_refl _) _ _ _⟩
end Go.Proofs.YtmhmdoobadckkaaGreatDoor
