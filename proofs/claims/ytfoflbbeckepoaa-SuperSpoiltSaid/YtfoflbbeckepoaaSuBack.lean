/- revetmentlaw08.SuperBack: its walk. -/
import Derived.Test.YtfoflbbeckepoaaSuPlain
namespace Go.Proofs.Ytfoflbbeckepoaa
open Go.RowKit Go.OpenShut

theorem enc_may (w : World) (s : Sup) (h : s.wf) (hm : s.may = true) (S : ByteArray) (hS : s.str = S) :
    Calls Try.prog 9 #[s.v] w fun e w' => e = .returned (.tuple #[.string S, .int .i64 0]) ∧ Below w.heap.size w w' := by
  have h1 := supEnc_any w s h
  rw [hS] at h1
  unfold Sup.err at h1
  rw [hm] at h1
  exact h1
theorem may_yes (w : World) (s : Sup) (h : s.wf) (hm : s.may = true) :
    Calls Try.prog 10 #[s.v] w fun e w' => e = .returned (.bool true) ∧ Below w.heap.size w w' := by
  have h1 := may_any w s h
  rw [hm] at h1
  exact h1
theorem dec_may (w : World) (s : Sup) (h : s.wf) (hm : s.may = true) (S : ByteArray) (hS : s.str = S) :
    Calls Try.prog 14 #[.string S] w fun e w' => e = .returned (.tuple #[s.v, .int .i64 0]) ∧ Below w.heap.size w w' := by
  have h1 := supDec_any w S
  rw [← hS, sup_back s h hm, hS] at h1
  exact h1
set_option maxHeartbeats 4000000 in
theorem superBack_walk (u v e f : Int) (l0 l1 l2 l3 l4 l5 l6 l7 m0 m1 m2 m3 m4 m5 m6 m7 : Nat)
    (hu : (Lit.int .u64 u).wf = true) (hv : (Lit.int .u64 v).wf = true) (he : (Lit.int .u64 e).wf = true) (hf : (Lit.int .u64 f).wf = true)
    (h0 : l0 < 256) (h1 : l1 < 256) (h2 : l2 < 256) (h3 : l3 < 256) (h4 : l4 < 256) (h5 : l5 < 256) (h6 : l6 < 256) (h7 : l7 < 256)
    (g0 : m0 < 256) (g1 : m1 < 256) (g2 : m2 < 256) (g3 : m3 < 256) (g4 : m4 < 256) (g5 : m5 < 256) (g6 : m6 < 256) (g7 : m7 < 256) (w : World) :
    Calls Try.prog 6 #[.int .u64 u, .int .u64 v, .int .u64 e, .int .u64 f, .agg #[.int .u8 l0, .int .u8 l1, .int .u8 l2, .int .u8 l3, .int .u8 l4, .int .u8 l5, .int .u8 l6, .int .u8 l7], .agg #[.int .u8 m0, .int .u8 m1, .int .u8 m2, .int .u8 m3, .int .u8 m4, .int .u8 m5, .int .u8 m6, .int .u8 m7]] w fun e w' => e = .returned (.bool true) ∧ Below w.heap.size w w' := by
  have b1 := bounds_u64 hu
  have b2 := bounds_u64 hv
  have b3 := bounds_u64 he
  have b4 := bounds_u64 hf
  have HS := fun w => some_any w u e l0 l1 l2 l3 l4 l5 l6 l7 h0 h1 h2 h3 h4 h5 h6 h7
  have HT := fun w => some_any w v f m0 m1 m2 m3 m4 m5 m6 m7 g0 g1 g2 g3 g4 g5 g6 g7
  have WS := someS_wf u e l0 l1 l2 l3 l4 l5 l6 l7 b1.1 (by omega) b3.1 (by omega)
  have WT := someS_wf v f m0 m1 m2 m3 m4 m5 m6 m7 b2.1 (by omega) b4.1 (by omega)
  have MS := someS_may u e l0 l1 l2 l3 l4 l5 l6 l7 h2
  have MT := someS_may v f m0 m1 m2 m3 m4 m5 m6 m7 g2
  clear h0 h1 h2 h3 h4 h5 h6 h7 g0 g1 g2 g3 g4 g5 g6 g7 hu hv he hf b1 b2 b3 b4
  generalize someS u e l0 l1 l2 l3 l4 l5 l6 l7 = s at *
  generalize someS v f m0 m1 m2 m3 m4 m5 m6 m7 = t at *
  have HI := sup_inj s t WS WT MS MT
  obtain ⟨S, hS⟩ : ∃ S, s.str = S := ⟨_, rfl⟩
  obtain ⟨T, hT⟩ : ∃ T, t.str = T := ⟨_, rfl⟩
  have HES := fun w => enc_may w s WS MS S hS
  have HET := fun w => enc_may w t WT MT T hT
  have HMS := fun w => may_yes w s WS MS
  have HD := fun w => dec_may w s WS MS S hS
  have hss := fun w => eq_sup w s s
  have hst := fun w => eq_sup w s t
  rw [(Sup.same_iff s s).2 rfl] at hss
  rw [hS, hT] at HI
  have heq : (S.toList == T.toList) = s.same t := by rw [str_eq, HI]
  clear HI hS hT WS WT MS MT
  generalize s.same t = q at *
  obtain ⟨su, se, sr, sc, sk, sn, scl, sb, snw, sgr⟩ := s
  obtain ⟨tu, te, tr, tc, tk, tn, tcl, tb, tnw, tgr⟩ := t
  dsimp only [Sup.v] at *
  replace HS := Lib.hid HS
  replace HT := Lib.hid HT
  replace HES := Lib.hid HES
  replace HET := Lib.hid HET
  replace HMS := Lib.hid HMS
  replace HD := Lib.hid HD
  have HSS := Lib.hid hss
  have HST := Lib.hid hst
  have HEQ := Lib.hid heq
  clear hss hst heq
  go_enter Try.func6, Try.ntmps6
  go_wp2_with fail
  refine (HS.out _).mono ?_
  rintro e1 w1 ⟨rfl, hb⟩
  have hbe := (((Below.refl w.heap.size w).alloc (Nat.le_refl _) _).alloc (by simp) _).trans (hb.mono (by simp; omega))
  have hz1 : w.heap.size + 1 < w1.heap.size := by have := hb.size; simp at this; omega
  have hM := (Blk.new (w.alloc (.cells #[.int .u8 l0, .int .u8 l1, .int .u8 l2, .int .u8 l3, .int .u8 l4, .int .u8 l5, .int .u8 l6, .int .u8 l7] 34)) 34 #[.int .u8 m0, .int .u8 m1, .int .u8 m2, .int .u8 m3, .int .u8 m4, .int .u8 m5, .int .u8 m6, .int .u8 m7]).below hb (by simp)
  rw [show (w.alloc (.cells #[.int .u8 l0, .int .u8 l1, .int .u8 l2, .int .u8 l3, .int .u8 l4, .int .u8 l5, .int .u8 l6, .int .u8 l7] 34)).heap.size = w.heap.size + 1 by simp] at hM
  clear hb
  have hq := hM.cell
  have hf := hM.frozen
  go_wp2_with fail
  have hA := Blk.new w1 26 #[.int .u64 su, .int .u64 se, .int .i64 sr, .int .i64 sc, .int .i64 sk, .int .i64 sn, .bool scl, .int .i64 sb, .int .i64 snw, .int .i64 sgr]
  replace hM := hM.alloc (.cells #[.int .u64 su, .int .u64 se, .int .i64 sr, .int .i64 sc, .int .i64 sk, .int .i64 sn, .bool scl, .int .i64 sb, .int .i64 snw, .int .i64 sgr] 26)
  replace hbe := hbe.alloc hbe.size (.cells #[.int .u64 su, .int .u64 se, .int .i64 sr, .int .i64 sc, .int .i64 sk, .int .i64 sn, .bool scl, .int .i64 sb, .int .i64 snw, .int .i64 sgr] 26)
  clear hq hf
  generalize w1.alloc (.cells #[.int .u64 su, .int .u64 se, .int .i64 sr, .int .i64 sc, .int .i64 sk, .int .i64 sn, .bool scl, .int .i64 sb, .int .i64 snw, .int .i64 sgr] 26) = w2 at *
  refine (HT.out _).mono ?_
  rintro e1 w3 ⟨rfl, hb⟩
  replace hA := hA.below hb hA.lt
  replace hbe := hbe.trans (hb.mono hbe.size)
  have hz2 : w1.heap.size < w3.heap.size := hA.lt
  clear hb hM
  have hq := hA.cell
  have hf := hA.frozen
  go_wp2_with fail
  have hB := Blk.new w3 26 #[.int .u64 tu, .int .u64 te, .int .i64 tr, .int .i64 tc, .int .i64 tk, .int .i64 tn, .bool tcl, .int .i64 tb, .int .i64 tnw, .int .i64 tgr]
  replace hA := hA.alloc (.cells #[.int .u64 tu, .int .u64 te, .int .i64 tr, .int .i64 tc, .int .i64 tk, .int .i64 tn, .bool tcl, .int .i64 tb, .int .i64 tnw, .int .i64 tgr] 26)
  replace hbe := hbe.alloc hbe.size (.cells #[.int .u64 tu, .int .u64 te, .int .i64 tr, .int .i64 tc, .int .i64 tk, .int .i64 tn, .bool tcl, .int .i64 tb, .int .i64 tnw, .int .i64 tgr] 26)
  generalize w3.alloc (.cells #[.int .u64 tu, .int .u64 te, .int .i64 tr, .int .i64 tc, .int .i64 tk, .int .i64 tn, .bool tcl, .int .i64 tb, .int .i64 tnw, .int .i64 tgr] 26) = w4 at *
  clear hq hf
  refine (HES.out _).mono ?_
  rintro e1 w5 ⟨rfl, hb⟩
  replace hA := hA.below hb hA.lt
  replace hB := hB.below hb hB.lt
  replace hbe := hbe.trans (hb.mono hbe.size)
  clear hb
  have hq := hB.cell
  have hf := hB.frozen
  go_wp2_with fail
  refine (HET.out _).mono ?_
  rintro e1 w6 ⟨rfl, hb⟩
  replace hA := hA.below hb hA.lt
  replace hB := hB.below hb hB.lt
  replace hbe := hbe.trans (hb.mono hbe.size)
  clear hb hq hf
  go_wp2_with fail
  refine (HD.out _).mono ?_
  rintro e1 w7 ⟨rfl, hb⟩
  replace hA := hA.below hb hA.lt
  replace hB := hB.below hb hB.lt
  replace hbe := hbe.trans (hb.mono hbe.size)
  clear hb
  have hq := hA.cell
  have hf := hA.frozen
  have hz3 : w1.heap.size < w7.heap.size := hA.lt
  have hss := HSS.out
  go_wp2_with fail
  clear hss hq hf
  replace hA := hA.alloc (.cells #[.int .u64 su, .int .u64 se, .int .i64 sr, .int .i64 sc, .int .i64 sk, .int .i64 sn, .bool scl, .int .i64 sb, .int .i64 snw, .int .i64 sgr] 26)
  replace hB := hB.alloc (.cells #[.int .u64 su, .int .u64 se, .int .i64 sr, .int .i64 sc, .int .i64 sk, .int .i64 sn, .bool scl, .int .i64 sb, .int .i64 snw, .int .i64 sgr] 26)
  replace hbe := hbe.alloc hbe.size (.cells #[.int .u64 su, .int .u64 se, .int .i64 sr, .int .i64 sc, .int .i64 sk, .int .i64 sn, .bool scl, .int .i64 sb, .int .i64 snw, .int .i64 sgr] 26)
  generalize w7.alloc (.cells #[.int .u64 su, .int .u64 se, .int .i64 sr, .int .i64 sc, .int .i64 sk, .int .i64 sn, .bool scl, .int .i64 sb, .int .i64 snw, .int .i64 sgr] 26) = w8 at *
  refine (HMS.out _).mono ?_
  rintro e1 w9 ⟨rfl, hb⟩
  replace hA := hA.below hb hA.lt
  replace hB := hB.below hb hB.lt
  replace hbe := hbe.trans (hb.mono hbe.size)
  clear hb
  have hq := hA.cell
  have hf := hA.frozen
  have hq' := hB.cell
  have hf' := hB.frozen
  have hst := HST.out
  have heq := HEQ.out
  go_wp2_with fail
  clear hq hf hq' hf' hst heq
  refine (shown8_any _).mono ?_
  rintro e1 w10 ⟨rfl, hb⟩
  go_wp2_with fail
  go_ret
  exact ⟨rfl, hbe.trans (hb.mono hbe.size)⟩
end Go.Proofs.Ytfoflbbeckepoaa
