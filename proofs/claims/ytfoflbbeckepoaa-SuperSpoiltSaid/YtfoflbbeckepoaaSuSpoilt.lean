/- revetmentlaw08.SuperSpoilt: its walk. -/
import Derived.Test.YtfoflbbeckepoaaSuBack
import Derived.Test.YtfoflbbeckepoaaNT
import Derived.Test.YtfoflbbeckepoaaXor0
namespace Go.Proofs.Ytfoflbbeckepoaa
open Go.RowKit Go.OpenShut

theorem dec_zero (w : World) (b : ByteArray) (h : supDec b = (Sup.zero, 80)) :
    Calls Try.prog 14 #[.string b] w fun e w' => e = .returned (.tuple #[.agg #[.int .u64 0, .int .u64 0, .int .i64 0, .int .i64 0, .int .i64 0, .int .i64 0, .bool false, .int .i64 0, .int .i64 0, .int .i64 0], .int .i64 80]) ∧ Below w.heap.size w w' := by
  have h1 := supDec_any w b
  rw [h] at h1
  exact h1
theorem changed_same (s : ByteArray) (k : Nat) (h : k < s.size) : s.extract 0 k ++ ByteArray.mk #[s[k]] ++ s.extract (k + 1) s.size = s := by
  apply ByteArray.ext
  apply Array.toList_inj.1
  rw [list_changed s k s[k] h]
  exact (list_at s k h).symm
set_option maxHeartbeats 1000000 in
theorem superSpoilt_walk (u e : Int) (l0 l1 l2 l3 l4 l5 l6 l7 : Nat) (at_ by_ : Int)
    (hu : (Lit.int .u64 u).wf = true) (he : (Lit.int .u64 e).wf = true)
    (h0 : l0 < 256) (h1 : l1 < 256) (h2 : l2 < 256) (h3 : l3 < 256) (h4 : l4 < 256) (h5 : l5 < 256) (h6 : l6 < 256) (h7 : l7 < 256)
    (ha : (Lit.int .u8 at_).wf = true) (hb : (Lit.int .u8 by_).wf = true) (w : World) :
    Calls Try.prog 7 #[.int .u64 u, .int .u64 e, .agg #[.int .u8 l0, .int .u8 l1, .int .u8 l2, .int .u8 l3, .int .u8 l4, .int .u8 l5, .int .u8 l6, .int .u8 l7], .int .u8 at_, .int .u8 by_] w fun e w' => e = .returned (.bool true) ∧ Below w.heap.size w w' := by
  have b1 := bounds_u64 hu
  have b3 := bounds_u64 he
  have b4 := bounds_u8 ha
  have b5 := bounds_u8 hb
  obtain ⟨a', rfl⟩ := Int.eq_ofNat_of_zero_le b4.1
  obtain ⟨b', rfl⟩ := Int.eq_ofNat_of_zero_le b5.1
  obtain ⟨by_, hby⟩ : ∃ x : UInt8, x.toNat = b' := ⟨UInt8.ofNat b', by simp; omega⟩
  subst hby
  have HS := fun w => some_any w u e l0 l1 l2 l3 l4 l5 l6 l7 h0 h1 h2 h3 h4 h5 h6 h7
  have WS := someS_wf u e l0 l1 l2 l3 l4 l5 l6 l7 b1.1 (by omega) b3.1 (by omega)
  have MS := someS_may u e l0 l1 l2 l3 l4 l5 l6 l7 h2
  clear h0 h1 h2 h3 h4 h5 h6 h7 hu he b1 b3 b5 ha hb
  generalize someS u e l0 l1 l2 l3 l4 l5 l6 l7 = s at *
  obtain ⟨S, hS⟩ : ∃ S, s.str = S := ⟨_, rfl⟩
  have HES := fun w => enc_may w s WS MS S hS
  have hD0 : supDec S = (s, 0) := by rw [← hS]; exact sup_back s WS MS
  have hsz : S.size = 64 := by rw [← hS]; exact sup_size s WS MS
  have HSP := fun k x hk hx b hb => sup_spoilt s WS MS k x hk hx b hb
  rw [hS] at HSP
  clear hS WS MS
  obtain ⟨i, hi, hlt⟩ : ∃ i : Nat, (a' : Int) % 64 = (i : Int) ∧ i < 64 := ⟨a' % 64, by simp, Nat.mod_lt _ (by omega)⟩
  have hlt' : i < S.size := by omega
  obtain ⟨b, hx, hbb⟩ : ∃ b : UInt8, bits BinOp.xor IntKind.u8 (S[i].toNat : Int) (by_.toNat : Int) = (b.toNat : Int) ∧ S[i] ^^^ by_ = b := ⟨_, xor_u8 _ _, rfl⟩
  have HB := Lib.hid hbb
  clear hbb
  have HCV : Hid (∀ (V : World) (g : Nat) (t : TypeId) (_ : Blk V g t #[.int .u8 (b.toNat : Int)]), (convert 40 9 (.slice (some ⟨g, 0, none⟩) 1 1)).run Try.prog V = .ok (.string ⟨#[b]⟩) V) :=
    Lib.hid (fun V g t h => (conv_cells (l := [b]) (w := V) (b := g) (off := 0) (fun i hi => by
      have : i = 0 := by simpa using hi
      subst this
      exact h.cell 0)))
  obtain ⟨T, hT⟩ : ∃ T, S.extract 0 i ++ ByteArray.mk #[b] ++ S.extract (i + 1) S.size = T := ⟨_, rfl⟩
  have hRE : ∃ R : Sup, ∃ E : Int, supDec T = (R, E) ∧ (((by_.toNat : Int) == 0) = true ∧ E = 0 ∨ ((by_.toNat : Int) == 0) = false ∧ E = 80 ∧ R = Sup.zero) := by
    rcases Decidable.em (by_ = 0) with h0 | h0
    · have hbS : b = S[i] := by rw [← HB.out, h0]; simp
      refine ⟨s, 0, ?_, Or.inl ⟨by rw [h0]; rfl, rfl⟩⟩
      rw [← hT, hbS, changed_same S i hlt']
      exact hD0
    · refine ⟨Sup.zero, 80, ?_, Or.inr ⟨beq_eq_false_iff_ne.2 (fun h => h0 (UInt8.toNat_inj.1 (by simpa using h))), rfl, rfl⟩⟩
      refine HSP i b hlt' ?_ T ?_
      · rw [← HB.out]
        intro h
        apply h0
        have h6 : S[i] ^^^ S[i] = S[i] ^^^ (S[i] ^^^ by_) := by rw [← h]
        rw [← UInt8.xor_assoc, UInt8.xor_self, UInt8.zero_xor] at h6
        exact h6.symm
      · rw [← hT]
        exact list_changed S i b hlt'
  obtain ⟨R, E, hdT, hRE⟩ := hRE
  have HDT := fun w => supDec_any w T
  rw [hdT] at HDT
  rw [← hT] at HDT
  clear hdT hT hD0 HSP
  obtain ⟨su, se, sr, sc, sk, sn, scl, sb, snw, sgr⟩ := s
  obtain ⟨ru, re, rr, rc, rk, rn, rcl, rb, rnw, rgr⟩ := R
  dsimp only [Sup.v] at *
  replace HS := Lib.hid HS
  replace HES := Lib.hid HES
  replace HDT := Lib.hid HDT
  have HRE := Lib.hid hRE
  have hse : (i : Int) ≤ (S.size : Int) := by omega
  have hse2 : (i : Int) + 1 ≤ (S.size : Int) := by omega
  clear hRE
  go_enter Try.func7, Try.ntmps7
  go_wp2_with fail
  refine (HS.out _).mono ?_
  rintro e1 w1 ⟨rfl, hb⟩
  have hbe := ((Below.refl w.heap.size w).alloc (Nat.le_refl _) _).trans (hb.mono (by simp))
  clear hb
  go_wp2_with fail
  refine (HES.out _).mono ?_
  rintro e1 w2 ⟨rfl, hb⟩
  replace hbe := hbe.trans (hb.mono hbe.size)
  clear hb
  go_wp2_with fail
  refine (shown8_any _).mono ?_
  rintro e1 w3 ⟨rfl, hb⟩
  replace hbe := hbe.trans (hb.mono hbe.size)
  clear hb
  go_wp2_with fail
  rw [hi]
  have hsz' : S.size ≤ 64 := by omega
  clear hi hsz
  obtain ⟨c, hc⟩ : ∃ c, S[i] = c := ⟨_, rfl⟩
  rw [hc] at hx
  refine wp_region_nt (fun _ => True) (fun _ => false) (NT.pures [0, 1, 2, 3, 4, 5, 6, 7, 11, 12, 13, 14] (.fork 8 (.fork 9 (NT.pures [10, 15] (.fork 16 (NT.pures [17, 18, 19] (.imp 20 (.imp 21 (NT.pures [22] .nil)))) 20 (.imp 16 (NT.pures [17, 18, 19] (.imp 21 (NT.pures [22] .nil)))))) 20 (.imp 9 (NT.pures [10, 15] (.imp 16 (NT.pures [17, 18, 19] (.imp 21 (NT.pures [22] .nil))))))) 20 (.imp 8 (.imp 9 (NT.pures [10, 15] (.imp 16 (NT.pures [17, 18, 19] (.imp 21 (NT.pures [22] .nil))))))))) (by kernel_rfl) (by kernel_rfl) (by kernel_rfl) (fun d _ _ _ _ h => by cases d <;> exact h) ?_
  repeat (refine nt_pure rfl trivial (fun w1 _ => by go_wp2; exact ⟨rfl, rfl, rfl⟩) rfl ?_ ?_; rfl)
  have hbd := hbe.drew
  generalize World.drew w3 = V at *
  refine nt_fork rfl rfl ?_ ?_
  · go_wp2_with fail
    have hN := Blk.new V 5 #[.int .u8 (b.toNat : Int)]
    replace hbd := hbd.alloc hbd.size (.cells #[.int .u8 (b.toNat : Int)] 5)
    generalize V.alloc (.cells #[.int .u8 (b.toNat : Int)] 5) = V1 at *
    refine ⟨fun _ => trivial, ?_⟩
    refine nt_fork rfl rfl ?_ ?_
    · have hcv := HCV.out _ _ _ hN
      go_wp2_with fail
      clear hcv
      refine ⟨fun _ => trivial, ?_⟩
      repeat (refine nt_pure rfl trivial (fun w1 _ => by go_wp2; exact ⟨rfl, rfl, rfl⟩) rfl ?_ ?_; rfl)
      refine nt_fork rfl rfl ?_ ?_
      · go_wp2_with fail
        refine (HDT.out _).mono ?_
        rintro e1 V4 ⟨rfl, hb⟩
        replace hbd := hbd.trans (hb.mono hbd.size)
        clear hb
        go_wp2_with fail
        refine ⟨fun _ => trivial, ?_⟩
        repeat (refine nt_pure rfl trivial (fun w1 _ => by go_wp2; exact ⟨rfl, rfl, rfl⟩) rfl ?_ ?_; rfl)
        refine nt_imp rfl ?_
        go_wp2_with fail
        have hR := Blk.new V4 26 #[.int .u64 0, .int .u64 0, .int .i64 0, .int .i64 0, .int .i64 0, .int .i64 0, .bool false, .int .i64 0, .int .i64 0, .int .i64 0]
        have hRp := hbd.size
        replace hbd := hbd.alloc hbd.size (.cells #[.int .u64 0, .int .u64 0, .int .i64 0, .int .i64 0, .int .i64 0, .int .i64 0, .bool false, .int .i64 0, .int .i64 0, .int .i64 0] 26)
        generalize V4.alloc (.cells #[.int .u64 0, .int .u64 0, .int .i64 0, .int .i64 0, .int .i64 0, .int .i64 0, .bool false, .int .i64 0, .int .i64 0, .int .i64 0] 26) = V5 at *
        refine ⟨fun _ => trivial, ?_⟩
        refine nt_imp rfl ?_
        have hq := hR.cell
        have hf := hR.frozen
        go_wp2_with fail
        clear hq hf
        have hB := hR.set10 Sup.zero ⟨ru, re, rr, rc, rk, rn, rcl, rb, rnw, rgr⟩
        replace hbd := below_set10 hbd hRp ⟨ru, re, rr, rc, rk, rn, rcl, rb, rnw, rgr⟩
        refine ⟨fun _ => trivial, ?_⟩
        show wpNT _ _ _ _ _ _ _ (set10 V5 V4.heap.size ⟨ru, re, rr, rc, rk, rn, rcl, rb, rnw, rgr⟩)
        generalize set10 V5 V4.heap.size ⟨ru, re, rr, rc, rk, rn, rcl, rb, rnw, rgr⟩ = V6 at *
        repeat (refine nt_pure rfl trivial (fun w1 _ => by go_wp2; exact ⟨rfl, rfl, rfl⟩) rfl ?_ ?_; rfl)
        refine nt_nil ?_
        have hre := HRE.out
        rcases hre with ⟨h4, rfl⟩ | ⟨h4, rfl, hre⟩
        · go_wp2_with fail
          go_ret
          exact ⟨rfl, hbd⟩
        · cases hre
          have hq := hB.cell
          have hf := hB.frozen
          have hee := fun w => eq_sup w Sup.zero Sup.zero
          rw [(Sup.same_iff Sup.zero Sup.zero).2 rfl] at hee
          unfold Sup.v Sup.zero at *
          dsimp only [Value.cells] at hq
          go_wp2_with fail
          go_ret
          exact ⟨rfl, hbd⟩
      · go_wp2_with fail
        have hR := Blk.new V1 26 #[.int .u64 0, .int .u64 0, .int .i64 0, .int .i64 0, .int .i64 0, .int .i64 0, .bool false, .int .i64 0, .int .i64 0, .int .i64 0]
        have hRp := hbd.size
        replace hN := hN.alloc (.cells #[.int .u64 0, .int .u64 0, .int .i64 0, .int .i64 0, .int .i64 0, .int .i64 0, .bool false, .int .i64 0, .int .i64 0, .int .i64 0] 26)
        replace hbd := hbd.alloc hbd.size (.cells #[.int .u64 0, .int .u64 0, .int .i64 0, .int .i64 0, .int .i64 0, .int .i64 0, .bool false, .int .i64 0, .int .i64 0, .int .i64 0] 26)
        generalize V1.alloc (.cells #[.int .u64 0, .int .u64 0, .int .i64 0, .int .i64 0, .int .i64 0, .int .i64 0, .bool false, .int .i64 0, .int .i64 0, .int .i64 0] 26) = V2 at *
        refine ⟨fun _ => trivial, ?_⟩
        refine nt_imp rfl ?_
        go_wp2_with fail
        refine (HDT.out _).mono ?_
        rintro e1 V4 ⟨rfl, hb⟩
        replace hR := hR.below hb hR.lt
        replace hbd := hbd.trans (hb.mono hbd.size)
        clear hb
        go_wp2_with fail
        refine ⟨fun _ => trivial, ?_⟩
        repeat (refine nt_pure rfl trivial (fun w1 _ => by go_wp2; exact ⟨rfl, rfl, rfl⟩) rfl ?_ ?_; rfl)
        refine nt_imp rfl ?_
        have hq := hR.cell
        have hf := hR.frozen
        go_wp2_with fail
        clear hq hf
        have hB := hR.set10 Sup.zero ⟨ru, re, rr, rc, rk, rn, rcl, rb, rnw, rgr⟩
        replace hbd := below_set10 hbd hRp ⟨ru, re, rr, rc, rk, rn, rcl, rb, rnw, rgr⟩
        refine ⟨fun _ => trivial, ?_⟩
        show wpNT _ _ _ _ _ _ _ (set10 V4 V1.heap.size ⟨ru, re, rr, rc, rk, rn, rcl, rb, rnw, rgr⟩)
        generalize set10 V4 V1.heap.size ⟨ru, re, rr, rc, rk, rn, rcl, rb, rnw, rgr⟩ = V6 at *
        repeat (refine nt_pure rfl trivial (fun w1 _ => by go_wp2; exact ⟨rfl, rfl, rfl⟩) rfl ?_ ?_; rfl)
        refine nt_nil ?_
        have hre := HRE.out
        rcases hre with ⟨h4, rfl⟩ | ⟨h4, rfl, hre⟩
        · go_wp2_with fail
          go_ret
          exact ⟨rfl, hbd⟩
        · cases hre
          have hq := hB.cell
          have hf := hB.frozen
          have hee := fun w => eq_sup w Sup.zero Sup.zero
          rw [(Sup.same_iff Sup.zero Sup.zero).2 rfl] at hee
          unfold Sup.v Sup.zero at *
          dsimp only [Value.cells] at hq
          go_wp2_with fail
          go_ret
          exact ⟨rfl, hbd⟩
    · go_wp2_with fail
      have hR := Blk.new V1 26 #[.int .u64 0, .int .u64 0, .int .i64 0, .int .i64 0, .int .i64 0, .int .i64 0, .bool false, .int .i64 0, .int .i64 0, .int .i64 0]
      have hRp := hbd.size
      replace hN := hN.alloc (.cells #[.int .u64 0, .int .u64 0, .int .i64 0, .int .i64 0, .int .i64 0, .int .i64 0, .bool false, .int .i64 0, .int .i64 0, .int .i64 0] 26)
      replace hbd := hbd.alloc hbd.size (.cells #[.int .u64 0, .int .u64 0, .int .i64 0, .int .i64 0, .int .i64 0, .int .i64 0, .bool false, .int .i64 0, .int .i64 0, .int .i64 0] 26)
      generalize V1.alloc (.cells #[.int .u64 0, .int .u64 0, .int .i64 0, .int .i64 0, .int .i64 0, .int .i64 0, .bool false, .int .i64 0, .int .i64 0, .int .i64 0] 26) = V2 at *
      refine ⟨fun _ => trivial, ?_⟩
      refine nt_imp rfl ?_
      have hcv := HCV.out _ _ _ hN
      go_wp2_with fail
      clear hcv
      refine ⟨fun _ => trivial, ?_⟩
      repeat (refine nt_pure rfl trivial (fun w1 _ => by go_wp2; exact ⟨rfl, rfl, rfl⟩) rfl ?_ ?_; rfl)
      refine nt_imp rfl ?_
      go_wp2_with fail
      refine (HDT.out _).mono ?_
      rintro e1 V4 ⟨rfl, hb⟩
      replace hR := hR.below hb hR.lt
      replace hbd := hbd.trans (hb.mono hbd.size)
      clear hb
      go_wp2_with fail
      refine ⟨fun _ => trivial, ?_⟩
      repeat (refine nt_pure rfl trivial (fun w1 _ => by go_wp2; exact ⟨rfl, rfl, rfl⟩) rfl ?_ ?_; rfl)
      refine nt_imp rfl ?_
      have hq := hR.cell
      have hf := hR.frozen
      go_wp2_with fail
      clear hq hf
      have hB := hR.set10 Sup.zero ⟨ru, re, rr, rc, rk, rn, rcl, rb, rnw, rgr⟩
      replace hbd := below_set10 hbd hRp ⟨ru, re, rr, rc, rk, rn, rcl, rb, rnw, rgr⟩
      refine ⟨fun _ => trivial, ?_⟩
      show wpNT _ _ _ _ _ _ _ (set10 V4 V1.heap.size ⟨ru, re, rr, rc, rk, rn, rcl, rb, rnw, rgr⟩)
      generalize set10 V4 V1.heap.size ⟨ru, re, rr, rc, rk, rn, rcl, rb, rnw, rgr⟩ = V6 at *
      repeat (refine nt_pure rfl trivial (fun w1 _ => by go_wp2; exact ⟨rfl, rfl, rfl⟩) rfl ?_ ?_; rfl)
      refine nt_nil ?_
      have hre := HRE.out
      rcases hre with ⟨h4, rfl⟩ | ⟨h4, rfl, hre⟩
      · go_wp2_with fail
        go_ret
        exact ⟨rfl, hbd⟩
      · cases hre
        have hq := hB.cell
        have hf := hB.frozen
        have hee := fun w => eq_sup w Sup.zero Sup.zero
        rw [(Sup.same_iff Sup.zero Sup.zero).2 rfl] at hee
        unfold Sup.v Sup.zero at *
        dsimp only [Value.cells] at hq
        go_wp2_with fail
        go_ret
        exact ⟨rfl, hbd⟩
  · go_wp2_with fail
    have hR := Blk.new V 26 #[.int .u64 0, .int .u64 0, .int .i64 0, .int .i64 0, .int .i64 0, .int .i64 0, .bool false, .int .i64 0, .int .i64 0, .int .i64 0]
    have hRp := hbd.size
    replace hbd := hbd.alloc hbd.size (.cells #[.int .u64 0, .int .u64 0, .int .i64 0, .int .i64 0, .int .i64 0, .int .i64 0, .bool false, .int .i64 0, .int .i64 0, .int .i64 0] 26)
    generalize V.alloc (.cells #[.int .u64 0, .int .u64 0, .int .i64 0, .int .i64 0, .int .i64 0, .int .i64 0, .bool false, .int .i64 0, .int .i64 0, .int .i64 0] 26) = V1 at *
    refine ⟨fun _ => trivial, ?_⟩
    refine nt_imp rfl ?_
    go_wp2_with fail
    have hN := Blk.new V1 5 #[.int .u8 (b.toNat : Int)]
    replace hR := hR.alloc (.cells #[.int .u8 (b.toNat : Int)] 5)
    replace hbd := hbd.alloc hbd.size (.cells #[.int .u8 (b.toNat : Int)] 5)
    generalize V1.alloc (.cells #[.int .u8 (b.toNat : Int)] 5) = V2 at *
    refine ⟨fun _ => trivial, ?_⟩
    refine nt_imp rfl ?_
    have hcv := HCV.out _ _ _ hN
    go_wp2_with fail
    clear hcv
    refine ⟨fun _ => trivial, ?_⟩
    repeat (refine nt_pure rfl trivial (fun w1 _ => by go_wp2; exact ⟨rfl, rfl, rfl⟩) rfl ?_ ?_; rfl)
    refine nt_imp rfl ?_
    go_wp2_with fail
    refine (HDT.out _).mono ?_
    rintro e1 V4 ⟨rfl, hb⟩
    replace hR := hR.below hb hR.lt
    replace hbd := hbd.trans (hb.mono hbd.size)
    clear hb
    go_wp2_with fail
    refine ⟨fun _ => trivial, ?_⟩
    repeat (refine nt_pure rfl trivial (fun w1 _ => by go_wp2; exact ⟨rfl, rfl, rfl⟩) rfl ?_ ?_; rfl)
    refine nt_imp rfl ?_
    have hq := hR.cell
    have hf := hR.frozen
    go_wp2_with fail
    clear hq hf
    have hB := hR.set10 Sup.zero ⟨ru, re, rr, rc, rk, rn, rcl, rb, rnw, rgr⟩
    replace hbd := below_set10 hbd hRp ⟨ru, re, rr, rc, rk, rn, rcl, rb, rnw, rgr⟩
    refine ⟨fun _ => trivial, ?_⟩
    show wpNT _ _ _ _ _ _ _ (set10 V4 V.heap.size ⟨ru, re, rr, rc, rk, rn, rcl, rb, rnw, rgr⟩)
    generalize set10 V4 V.heap.size ⟨ru, re, rr, rc, rk, rn, rcl, rb, rnw, rgr⟩ = V6 at *
    repeat (refine nt_pure rfl trivial (fun w1 _ => by go_wp2; exact ⟨rfl, rfl, rfl⟩) rfl ?_ ?_; rfl)
    refine nt_nil ?_
    have hre := HRE.out
    rcases hre with ⟨h4, rfl⟩ | ⟨h4, rfl, hre⟩
    · go_wp2_with fail
      go_ret
      exact ⟨rfl, hbd⟩
    · cases hre
      have hq := hB.cell
      have hf := hB.frozen
      have hee := fun w => eq_sup w Sup.zero Sup.zero
      rw [(Sup.same_iff Sup.zero Sup.zero).2 rfl] at hee
      unfold Sup.v Sup.zero at *
      dsimp only [Value.cells] at hq
      go_wp2_with fail
      go_ret
      exact ⟨rfl, hbd⟩
end Go.Proofs.Ytfoflbbeckepoaa
