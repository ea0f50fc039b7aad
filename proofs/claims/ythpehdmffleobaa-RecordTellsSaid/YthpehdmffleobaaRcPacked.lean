/- record's packed: numbers and widths, alternating. -/
import Derived.Test.YthpehdmffleobaaPDec
import Derived.Test.YthpehdmffleobaaNT
namespace Go.Proofs.Ythpehdmffleobaa
open Go.RowKit Go.OpenShut

def evL (L : List Int) (k : Nat) : List Int := (List.range k).map fun j => L.getD (2 * j) 0
def odL (L : List Int) (k : Nat) : List Int := (List.range k).map fun j => L.getD (2 * j + 1) 0
theorem evL_len (L : List Int) (k : Nat) : (evL L k).length = k := by simp [evL]
theorem odL_len (L : List Int) (k : Nat) : (odL L k).length = k := by simp [odL]
theorem evL_succ (L : List Int) (k : Nat) : evL L (k + 1) = evL L k ++ [L.getD (2 * k) 0] := by simp [evL, List.range_succ]
theorem odL_succ (L : List Int) (k : Nat) : odL L (k + 1) = odL L k ++ [L.getD (2 * k + 1) 0] := by simp [odL, List.range_succ]

theorem OwnI.lt_ {w : World} {base : Nat} {t : TypeId} {k : IntKind} {v : Value} {l : List Int} (h : OwnI w base t k v l) : ∀ g, v.ownBlock = some g → g < w.heap.size := fun g hg => (World.ownsRow.lt h g hg).2
theorem OwnI.sh {w : World} {base : Nat} {t : TypeId} {k : IntKind} {v : Value} {l : List Int} {n : Nat} (h : OwnI w base t k v l) (hn : l.length = n) : ∃ A c, v = .slice A n c := by subst hn; exact h.shape
set_option maxHeartbeats 4000000 in
theorem packed_any (w : World) (b o m c : Nat) (K : Nat) (L : List Int) (hm : m = 2 * K) (hK : K ≤ 64) (hLn : L.length = m) (hb : b < w.heap.size) (hc : ∀ j, j < m → w.cell? ⟨b, o + j, none⟩ = some (.int .u64 (L.getD j 0)))
    (hu : ∀ x ∈ L, 0 ≤ x ∧ x < 18446744073709551616) (ho : ∀ j, j < K → L.getD (2 * j + 1) 0 < 9223372036854775808) :
    Calls Try.prog 39 #[.slice (some ⟨b, o, none⟩) m c] w fun e w' => e = .returned (.string (encS (evL L K) (odL L K))) ∧ Below w.heap.size w w' := by
  have HM := Lib.hid hm
  clear hm
  go_enter Try.func39, Try.ntmps39
  go_wp2_with fail
  go_loopw [3, 4, 5] (fun n v i wr => ∃ k : Nat, k ≤ K ∧ i = .int .i64 (2 * k : Nat) ∧ OwnI wr w.heap.size 22 .u64 n (evL L k) ∧ OwnI wr w.heap.size 3 .i64 v (odL L k) ∧ Below w.heap.size w wr) (fun _ _ i _ => m - (intOf i).toNat)
  case atStart => exact ⟨0, by omega, rfl, OwnI.nil_ _ _ _ _, OwnI.nil_ _ _ _ _, Below.refl _ _⟩
  case round =>
    obtain ⟨k, hk, rfl, hp, hq, hbr⟩ := hrel
    by_cases hlt : k < K
    · have hm := HM.out
      have hx0 : 2 * k < m := by omega
      have hx1 : 2 * (k : Int) + 1 < (m : Int) := by omega
      have q1 := hc (2 * k) (by omega)
      have q2 := hc (2 * k + 1) (by omega)
      have HX := Lib.hid (hu (L.getD (2 * k) 0) (by simp [List.getD, show 2 * k < L.length by omega]))
      have hy := (⟨(hu (L.getD (2 * k + 1) 0) (by simp [List.getD, show 2 * k + 1 < L.length by omega])).1, ho k hlt⟩ : 0 ≤ L.getD (2 * k + 1) 0 ∧ L.getD (2 * k + 1) 0 < 9223372036854775808)
      have E1 := Lib.hid (evL_succ L k)
      have E2 := Lib.hid (odL_succ L k)
      generalize L.getD (2 * k) 0 = x at *
      generalize L.getD (2 * k + 1) 0 = y at *
      have HC := Lib.hid (fun (Y : World) (hY : Below w.heap.size w Y) => (⟨(hY.cell (p := ⟨b, o + 2 * k, none⟩) hb).trans q1, (hY.cell (p := ⟨b, o + (2 * k + 1), none⟩) hb).trans q2⟩ : Y.cell? ⟨b, o + 2 * k, none⟩ = some (.int .u64 x) ∧ Y.cell? ⟨b, o + (2 * k + 1), none⟩ = some (.int .u64 y)))
      clear q1 q2
      obtain ⟨y0, y1⟩ := hy
      clear hm
      obtain ⟨Ap, cp, rfl⟩ := hp.sh (evL_len L k)
      obtain ⟨Aq, cq, rfl⟩ := hq.sh (odL_len L k)
      go_wp2_with fail
      refine wp_region_nt (fun Y => Below w.heap.size w Y) (fun _ => false) (NT.pures [0, 1, 2, 3, 4, 7, 8, 9, 10, 11, 12, 13] (.fork 5 (.fork 6 (.imp 14 (.imp 15 (NT.pures [16, 17] .nil))) 14 (.imp 6 (.imp 15 (NT.pures [16, 17] .nil)))) 14 (.imp 5 (.imp 6 (.imp 15 (NT.pures [16, 17] .nil)))))) (by kernel_rfl) (by kernel_rfl) (by kernel_rfl) (fun d _ _ _ _ h => by cases d <;> exact h) ?_
      have hbd := hbr.drew
      replace hp := hp.drew
      replace hq := hq.drew
      clear hbr
      generalize wr.drew = V at *
      repeat (refine nt_pure rfl hbd (fun Y hY => by obtain ⟨g1, g2⟩ := HC.out Y hY; clear hY; go_wp2; exact ⟨rfl, rfl, rfl⟩) rfl ?_ ?_; rfl)
      have PL := Lib.hid hp.lt_
      generalize hG : V.heap.size = G at *
      have hGs : G ≤ V.heap.size := by omega
      clear hG
      refine nt_fork rfl rfl ?_ ?_
      · go_wp2_with fail
        have bu := Blk.new V 22 #[.int .u64 x]
        have hgeu : G ≤ V.heap.size := hGs
        replace hp := hp.alloc (.cells #[.int .u64 x] 22)
        replace hq := hq.alloc (.cells #[.int .u64 x] 22)
        replace hbd := hbd.alloc hbd.size (.cells #[.int .u64 x] 22)
        replace hGs : G ≤ (V.alloc (.cells #[.int .u64 x] 22)).heap.size := by simp; omega
        generalize hgu : V.heap.size = gu at *
        generalize V.alloc (.cells #[.int .u64 x] 22) = V1 at *
        refine ⟨fun _ => hbd, ?_⟩
        refine nt_fork rfl rfl ?_ ?_
        · skip
          refine wp_pushI 70 22 .u64 Try.underlying70 info_u64 rfl (.tmp 15) (.tmp 20) rfl w.heap.size _ _ hp rfl _ 1 x rfl (bu.cell 0) (by rw [evL_len]; omega) hbd.size ?_
          intro p2 V2 hp2 hgr hb2
          replace hq := hq.grown hgr (hq.ne hp (by decide))
          replace hbd := hbd.trans hb2
          replace hGs : G ≤ V2.heap.size := Nat.le_trans hGs hb2.size
          clear hp hgr hb2 bu
          go_wp2_with fail
          refine ⟨fun _ => hbd, ?_⟩
          refine nt_imp rfl ?_
          go_wp2_with fail
          have bi := Blk.new V2 3 #[.int .i64 y]
          have hgei : G ≤ V2.heap.size := hGs
          replace hp2 := hp2.alloc (.cells #[.int .i64 y] 3)
          replace hq := hq.alloc (.cells #[.int .i64 y] 3)
          replace hbd := hbd.alloc hbd.size (.cells #[.int .i64 y] 3)
          replace hGs : G ≤ (V2.alloc (.cells #[.int .i64 y] 3)).heap.size := by simp; omega
          generalize hgi : V2.heap.size = gi at *
          generalize V2.alloc (.cells #[.int .i64 y] 3) = V3 at *
          refine ⟨fun _ => hbd, ?_⟩
          refine nt_imp rfl ?_
          refine wp_pushI 73 3 .i64 Try.underlying73 info_int rfl (.tmp 22) (.tmp 29) rfl w.heap.size _ _ hq rfl _ 1 y rfl (bi.cell 0) (by rw [odL_len]; omega) hbd.size ?_
          intro q2 V4 hq2 hgr hb2
          replace hp2 := hp2.grown hgr (hp2.ne hq (by decide))
          replace hbd := hbd.trans hb2
          clear hq hgr hb2 bi
          go_wp2_with fail
          refine ⟨fun _ => hbd, ?_⟩
          repeat (refine nt_pure rfl hbd (fun Y hY => by clear hY; go_wp2; exact ⟨rfl, rfl, rfl⟩) rfl ?_ ?_; rfl)
          refine nt_nil ?_
          rw [← E1.out] at hp2
          rw [← E2.out] at hq2
          obtain ⟨A3, c3, rfl⟩ := hp2.sh (evL_len L (k + 1))
          obtain ⟨A4, c4, rfl⟩ := hq2.sh (odL_len L (k + 1))
          go_wp2_with fail
          go_roundw
          case rel => exact ⟨k + 1, by omega, by go_num, hp2, hq2, hbd⟩
          case measure => have := HM.out; simp [intOf]; go_num
        · go_wp2_with fail
          have bi := Blk.new V1 3 #[.int .i64 y]
          have hgei : G ≤ V1.heap.size := hGs
          replace hp := hp.alloc (.cells #[.int .i64 y] 3)
          replace hq := hq.alloc (.cells #[.int .i64 y] 3)
          replace bu := bu.alloc (.cells #[.int .i64 y] 3)
          replace hbd := hbd.alloc hbd.size (.cells #[.int .i64 y] 3)
          replace hGs : G ≤ (V1.alloc (.cells #[.int .i64 y] 3)).heap.size := by simp; omega
          generalize hgi : V1.heap.size = gi at *
          generalize V1.alloc (.cells #[.int .i64 y] 3) = V2 at *
          refine ⟨fun _ => hbd, ?_⟩
          refine nt_imp rfl ?_
          refine wp_pushI 70 22 .u64 Try.underlying70 info_u64 rfl (.tmp 15) (.tmp 20) rfl w.heap.size _ _ hp rfl _ 1 x rfl (bu.cell 0) (by rw [evL_len]; omega) hbd.size ?_
          intro p2 V3 hp2 hgr hb2
          replace hq := hq.grown hgr (hq.ne hp (by decide))
          replace bi := bi.grown hgr (fun e => absurd (PL.out _ e.symm) (by omega))
          replace hbd := hbd.trans hb2
          replace hGs : G ≤ V3.heap.size := Nat.le_trans hGs hb2.size
          clear hp hgr hb2 bu
          go_wp2_with fail
          refine ⟨fun _ => hbd, ?_⟩
          refine nt_imp rfl ?_
          refine wp_pushI 73 3 .i64 Try.underlying73 info_int rfl (.tmp 22) (.tmp 29) rfl w.heap.size _ _ hq rfl _ 1 y rfl (bi.cell 0) (by rw [odL_len]; omega) hbd.size ?_
          intro q2 V4 hq2 hgr hb2
          replace hp2 := hp2.grown hgr (hp2.ne hq (by decide))
          replace hbd := hbd.trans hb2
          clear hq hgr hb2 bi
          go_wp2_with fail
          refine ⟨fun _ => hbd, ?_⟩
          repeat (refine nt_pure rfl hbd (fun Y hY => by clear hY; go_wp2; exact ⟨rfl, rfl, rfl⟩) rfl ?_ ?_; rfl)
          refine nt_nil ?_
          rw [← E1.out] at hp2
          rw [← E2.out] at hq2
          obtain ⟨A3, c3, rfl⟩ := hp2.sh (evL_len L (k + 1))
          obtain ⟨A4, c4, rfl⟩ := hq2.sh (odL_len L (k + 1))
          go_wp2_with fail
          go_roundw
          case rel => exact ⟨k + 1, by omega, by go_num, hp2, hq2, hbd⟩
          case measure => have := HM.out; simp [intOf]; go_num
      · go_wp2_with fail
        have bi := Blk.new V 3 #[.int .i64 y]
        have hgei : G ≤ V.heap.size := hGs
        replace hp := hp.alloc (.cells #[.int .i64 y] 3)
        replace hq := hq.alloc (.cells #[.int .i64 y] 3)
        replace hbd := hbd.alloc hbd.size (.cells #[.int .i64 y] 3)
        replace hGs : G ≤ (V.alloc (.cells #[.int .i64 y] 3)).heap.size := by simp; omega
        generalize hgi : V.heap.size = gi at *
        generalize V.alloc (.cells #[.int .i64 y] 3) = V1 at *
        refine ⟨fun _ => hbd, ?_⟩
        refine nt_imp rfl ?_
        go_wp2_with fail
        have bu := Blk.new V1 22 #[.int .u64 x]
        have hgeu : G ≤ V1.heap.size := hGs
        replace hp := hp.alloc (.cells #[.int .u64 x] 22)
        replace hq := hq.alloc (.cells #[.int .u64 x] 22)
        replace bi := bi.alloc (.cells #[.int .u64 x] 22)
        replace hbd := hbd.alloc hbd.size (.cells #[.int .u64 x] 22)
        replace hGs : G ≤ (V1.alloc (.cells #[.int .u64 x] 22)).heap.size := by simp; omega
        generalize hgu : V1.heap.size = gu at *
        generalize V1.alloc (.cells #[.int .u64 x] 22) = V2 at *
        refine ⟨fun _ => hbd, ?_⟩
        refine nt_imp rfl ?_
        refine wp_pushI 70 22 .u64 Try.underlying70 info_u64 rfl (.tmp 15) (.tmp 20) rfl w.heap.size _ _ hp rfl _ 1 x rfl (bu.cell 0) (by rw [evL_len]; omega) hbd.size ?_
        intro p2 V3 hp2 hgr hb2
        replace hq := hq.grown hgr (hq.ne hp (by decide))
        replace bi := bi.grown hgr (fun e => absurd (PL.out _ e.symm) (by omega))
        replace hbd := hbd.trans hb2
        replace hGs : G ≤ V3.heap.size := Nat.le_trans hGs hb2.size
        clear hp hgr hb2 bu
        go_wp2_with fail
        refine ⟨fun _ => hbd, ?_⟩
        refine nt_imp rfl ?_
        refine wp_pushI 73 3 .i64 Try.underlying73 info_int rfl (.tmp 22) (.tmp 29) rfl w.heap.size _ _ hq rfl _ 1 y rfl (bi.cell 0) (by rw [odL_len]; omega) hbd.size ?_
        intro q2 V4 hq2 hgr hb2
        replace hp2 := hp2.grown hgr (hp2.ne hq (by decide))
        replace hbd := hbd.trans hb2
        clear hq hgr hb2 bi
        go_wp2_with fail
        refine ⟨fun _ => hbd, ?_⟩
        repeat (refine nt_pure rfl hbd (fun Y hY => by clear hY; go_wp2; exact ⟨rfl, rfl, rfl⟩) rfl ?_ ?_; rfl)
        refine nt_nil ?_
        rw [← E1.out] at hp2
        rw [← E2.out] at hq2
        obtain ⟨A3, c3, rfl⟩ := hp2.sh (evL_len L (k + 1))
        obtain ⟨A4, c4, rfl⟩ := hq2.sh (odL_len L (k + 1))
        go_wp2_with fail
        go_roundw
        case rel => exact ⟨k + 1, by omega, by go_num, hp2, hq2, hbd⟩
        case measure => have := HM.out; simp [intOf]; go_num
    · obtain rfl : k = K := by omega
      obtain ⟨Ap, cp, rfl⟩ := hp.sh (evL_len L k)
      obtain ⟨Aq, cq, rfl⟩ := hq.sh (odL_len L k)
      have i1 := hp.ints
      have i2 := hq.ints
      have hm := HM.out
      have hend : ¬ (2 * (k : Int) + 1 < (m : Int)) := by omega
      have hE : ∀ x ∈ evL L k, 0 ≤ x ∧ x < 18446744073709551616 := fun x hx => by
        unfold evL at hx
        obtain ⟨j, hj, rfl⟩ := List.mem_map.1 hx
        rw [List.mem_range] at hj
        have := hu (L.getD (2 * j) 0) (by simp [List.getD, show 2 * j < L.length by omega])
        omega
      have HE := Lib.hid (encode_any wr Ap Aq k cp k cq (evL L k) (odL L k) i1 i2 (by omega) hE)
      generalize hR : encS (evL L k) (odL L k) = R at *
      have HRR := Lib.hid hR
      clear hR
      clear hp hq i1 i2 hE hc hu hm ho
      go_wp2_with fail
      refine HE.out.mono ?_
      rintro e W1 ⟨rfl, hb3⟩
      go_wp2_with fail
      go_ret
      exact ⟨by rw [HRR.out]; rfl, hbr.trans (hb3.mono hbr.size)⟩
end Go.Proofs.Ythpehdmffleobaa
