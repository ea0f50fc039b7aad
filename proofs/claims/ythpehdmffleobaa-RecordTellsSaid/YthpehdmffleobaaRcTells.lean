/- revetmentlaw12.RecordTells: its walk. -/
import Derived.Test.YthpehdmffleobaaRcBig
import Derived.Test.YthpehdmffleobaaRcRf5
import Derived.Deep.DeepCutAuto
namespace Go.Proofs.Ythpehdmffleobaa
open Go.RowKit Go.OpenShut

def encStr (seq row : Int) (ps : List Prt) : ByteArray := if mayB row ps then ⟨(headB seq row (recSum ps) ps).toArray⟩ else ⟨#[]⟩
def encLd (row : Int) (ps : List Prt) : List ByteArray := if mayB row ps then loadS ps else []
def encEr (row : Int) (ps : List Prt) : Int := if mayB row ps then 0 else 1
def EncPost (w : World) (seq row : Int) (ps : List Prt) (e : Ending) (w' : World) : Prop :=
  ∃ A' c', e = .returned (.tuple #[.string (encStr seq row ps), .slice A' (encLd row ps).length c', .int .i64 (encEr row ps)]) ∧ StrsA w' w'.heap.size A' (encLd row ps).length (encLd row ps) ∧ Below w.heap.size w w'
theorem enc_any (w : World) (seq row : Int) (A : Option Addr) (n c : Nat) (ps : List Prt) (h : PartsA w w.heap.size A n ps) (hn : n ≤ maxLen) (hs : 0 ≤ seq ∧ seq < 18446744073709551616) :
    Calls Try.prog 13 #[recV seq row A n c] w (EncPost w seq row ps) := by
  unfold EncPost encStr encLd encEr
  by_cases hm : mayB row ps = true
  · simp only [hm, if_true]
    refine (encode12_yes w seq row A n c ps h hn hm hs).mono fun e w' ⟨A', c', h1, _, _, _, h5, h6⟩ => ?_
    rw [loadS_len, h.1]
    exact ⟨A', c', h1, h5, h6⟩
  · rw [Bool.not_eq_true] at hm
    simp only [hm]
    exact (encode12_no w seq row A n c ps h hn hm).mono fun e w' ⟨h1, h2⟩ => ⟨none, 0, h1, ⟨rfl, fun h => by cases h⟩, h2⟩
theorem refEnc_any (w : World) (seq row : Int) (A : Option Addr) (n c : Nat) (ps : List Prt) (h : PartsA w w.heap.size A n ps) (hn : n ≤ maxLen) (hs : 0 ≤ seq ∧ seq < 18446744073709551616) :
    Calls Try.prog 14 #[recV seq row A n c] w (EncPost w seq row ps) := by
  unfold EncPost encStr encLd encEr
  by_cases hm : mayB row ps = true
  · simp only [hm, if_true]
    refine (refEnc12_yes w seq row A n c ps h hn hm hs).mono fun e w' ⟨A', c', h1, _, _, _, h5, h6⟩ => ?_
    rw [loadS_len, h.1]
    exact ⟨A', c', h1, h5, h6⟩
  · rw [Bool.not_eq_true] at hm
    simp only [hm]
    exact (refEnc12_no w seq row A n c ps h hn hm).mono fun e w' ⟨h1, h2⟩ => ⟨none, 0, h1, ⟨rfl, fun h => by cases h⟩, h2⟩
theorem enc_end (seq row : Int) (ps : List Prt) : encEr row ps = 0 ∨ encStr seq row ps = ⟨#[]⟩ ∧ (encLd row ps).length = 0 ∧ encEr row ps = 1 := by
  unfold encStr encLd encEr
  by_cases hm : mayB row ps = true
  · rw [if_pos hm]; exact Or.inl rfl
  · rw [if_neg hm, if_neg hm, if_neg hm]; exact Or.inr ⟨rfl, rfl, rfl⟩
set_option maxRecDepth 8000 in
set_option maxHeartbeats 4000000 in
theorem tells_no (w : World) (seq row : Int) (A : Option Addr) (n c : Nat) (ps : List Prt) (b : ByteArray) (B : Option Addr) (m d : Nat) (ys : List ByteArray) (h : PartsA w w.heap.size A n ps) (hn : n * 32 ≤ 140737488355328) (hy : StrsA w w.heap.size B m ys) (hm : m ≤ maxLen) (hb : heavyB (loadS ps) = true ∨ heavyB ys = true ∨ 100 < b.size) :
    Calls Try.prog 4 #[recV seq row A n c, .string b, .slice B m d] w fun e w' => e = .returned (.bool true) ∧ Below w.heap.size w w' := by
  have HPT := Lib.hid (fun V (h : PartsA V V.heap.size A n ps) => parts2_any V seq row A n c ps h hn)
  have HL := Lib.hid h.1
  have HV1 := Lib.hid (fun V A' c' (h : StrsA V V.heap.size A' n (loadS ps)) => heavy_any V A' n c' (loadS ps) h (by unfold maxLen; omega))
  have HV2 := Lib.hid (fun V (h : StrsA V V.heap.size B m ys) => heavy_any V B m d ys h hm)
  unfold recV at *
  have hb0 := (Below.refl w.heap.size w).alloc (Nat.le_refl _) (.cells #[.int .u64 seq, .int .i64 row, .slice A n c] 26)
  have h1 := (h.below hb0).mono hb0.size
  have hy1 := (hy.below hb0).mono hb0.size
  clear h hy
  by_cases e1 : heavyB (loadS ps) = true
  · rw [e1] at HV1
    clear hb e1
    go_enter Try.func4, Try.ntmps4
    go_wp2_with fail
    refine (HPT.out _ h1).mono ?_
    rintro e w1 ⟨A1, c1, rfl, hc1, hc1m, hS1, hb1⟩
    replace hb0 := hb0.trans (hb1.mono hb0.size)
    go_wp2_with fail
    refine (HV1.out _ _ _ hS1).mono ?_
    rintro e w2 ⟨rfl, rfl⟩
    go_wp2_with fail
    refine (shown12_any _).mono ?_
    rintro e w3 ⟨rfl, hb3⟩
    go_wp2_with fail
    go_ret
    exact ⟨rfl, hb0.trans (hb3.mono hb0.size)⟩
  · rw [Bool.not_eq_true] at e1
    rw [e1] at HV1
    by_cases e2 : heavyB ys = true
    · rw [e2] at HV2
      clear hb e1 e2
      go_enter Try.func4, Try.ntmps4
      go_wp2_with fail
      refine (HPT.out _ h1).mono ?_
      rintro e w1 ⟨A1, c1, rfl, hc1, hc1m, hS1, hb1⟩
      replace hb0 := hb0.trans (hb1.mono hb0.size)
      have hy2 := (hy1.below hb1).mono hb1.size
      go_wp2_with fail
      refine (HV1.out _ _ _ hS1).mono ?_
      rintro e w2 ⟨rfl, rfl⟩
      go_wp2_with fail
      refine (HV2.out _ hy2).mono ?_
      rintro e w2 ⟨rfl, rfl⟩
      go_wp2_with fail
      refine (shown12_any _).mono ?_
      rintro e w3 ⟨rfl, hb3⟩
      go_wp2_with fail
      go_ret
      exact ⟨rfl, hb0.trans (hb3.mono hb0.size)⟩
    · rw [Bool.not_eq_true] at e2
      rw [e2] at HV2
      have h3 : (b.size : Int) > 100 := by
        rcases hb with e | e | e
        · rw [e1] at e; cases e
        · rw [e2] at e; cases e
        · omega
      clear hb e1 e2
      go_enter Try.func4, Try.ntmps4
      go_wp2_with fail
      refine (HPT.out _ h1).mono ?_
      rintro e w1 ⟨A1, c1, rfl, hc1, hc1m, hS1, hb1⟩
      replace hb0 := hb0.trans (hb1.mono hb0.size)
      have hy2 := (hy1.below hb1).mono hb1.size
      go_wp2_with fail
      refine (HV1.out _ _ _ hS1).mono ?_
      rintro e w2 ⟨rfl, rfl⟩
      go_wp2_with fail
      refine (HV2.out _ hy2).mono ?_
      rintro e w2 ⟨rfl, rfl⟩
      go_wp2_with fail
      refine (shown12_any _).mono ?_
      rintro e w3 ⟨rfl, hb3⟩
      go_wp2_with fail
      go_ret
      exact ⟨rfl, hb0.trans (hb3.mono hb0.size)⟩
theorem decR_bd (b : ByteArray) (ys : List ByteArray) : (decR12 b ys).ps.length ≤ 41 := by
  unfold decR12
  split
  · dsimp only
    rw [zipD_len]
    exact (headR_bd b).1
  · simp
set_option maxRecDepth 8000 in
set_option maxHeartbeats 8000000 in
theorem tells_yes (w : World) (seq row : Int) (A : Option Addr) (n c : Nat) (ps : List Prt) (b : ByteArray) (B : Option Addr) (m d : Nat) (ys : List ByteArray) (h : PartsA w w.heap.size A n ps) (hs : 0 ≤ seq ∧ seq < 18446744073709551616) (hy : StrsA w w.heap.size B m ys) (hmd : m ≤ d) (hd : d ≤ maxLen) (hB0 : B = none → d = 0) (e1 : heavyB (loadS ps) = false) (e2 : heavyB ys = false) (hb100 : b.size ≤ 100) :
    Calls Try.prog 4 #[recV seq row A n c, .string b, .slice B m d] w fun e w' => e = .returned (.bool true) ∧ Below w.heap.size w w' := by
  have hn50 : n ≤ 50 := by
    have := ((heavyB_no _).1 e1).1
    rw [loadS_len, h.1] at this
    exact this
  have HPT := Lib.hid (fun V (h : PartsA V V.heap.size A n ps) => parts2_any V seq row A n c ps h (by omega))
  have HV1 := Lib.hid (fun V A' c' (h : StrsA V V.heap.size A' n (loadS ps)) => heavy_any V A' n c' (loadS ps) h (by unfold maxLen; omega))
  have HV2 := Lib.hid (fun V (h : StrsA V V.heap.size B m ys) => heavy_any V B m d ys h (by omega))
  rw [e1] at HV1
  rw [e2] at HV2
  have HEN := Lib.hid (fun V (h : PartsA V V.heap.size A n ps) => enc_any V seq row A n c ps h (by unfold maxLen; omega) hs)
  have HTH := Lib.hid (fun V (h : PartsA V V.heap.size A n ps) => theirs_any V seq row A n c ps h (by omega))
  have HREN := Lib.hid (fun V A1 c1 (h : PartsA V V.heap.size A1 n ps) => refEnc_any V seq row A1 n c1 ps h (by unfold maxLen; omega) hs)
  have HHD := Lib.hid (fun V => head12_any V b)
  have HRHD := Lib.hid (fun V => rHead_any V b)
  have HDC := Lib.hid (fun V (h : StrsA V V.heap.size B m ys) => decode12_any V b B m d ys h hmd hd hB0)
  have HRDC := Lib.hid (fun V (h : StrsA V V.heap.size B m ys) => rDec_any V b B m d ys h hmd hd)
  have HMY := Lib.hid (fun V (h : PartsA V V.heap.size A n ps) => may_any V seq row A n c ps h (by unfold maxLen; omega))
  have HRMY := Lib.hid (fun V A1 c1 (h : PartsA V V.heap.size A1 n ps) => refMay_any V seq row A1 n c1 ps h (by unfold maxLen; omega))
  have hEnd := Lib.hid (enc_end seq row ps)
  have hLL : (encLd row ps).length ≤ 50 := by
    unfold encLd
    split
    · rw [loadS_len, h.1]; exact hn50
    · simp
  unfold EncPost at HEN HREN
  have hbd1 := (headR_bd b).1
  have hbd2 := decR_bd b ys
  generalize mayB row ps = my at *
  generalize encEr row ps = E0 at *
  generalize encStr seq row ps = S0 at *
  generalize encLd row ps = L0 at *
  generalize headE b = E1 at *
  generalize headR b = r1 at *
  generalize decE12 b ys = E2 at *
  generalize decR12 b ys = r2 at *
  have h3 : ¬ (b.size : Int) > 100 := by omega
  unfold recV at *
  have hb0 := (Below.refl w.heap.size w).alloc (Nat.le_refl _) (.cells #[.int .u64 seq, .int .i64 row, .slice A n c] 26)
  have hR := Blk.new w 26 #[.int .u64 seq, .int .i64 row, .slice A n c]
  have hP := (h.below hb0).mono hb0.size
  have hY := (hy.below hb0).mono hb0.size
  clear h hy e1 e2 hs
  go_enter Try.func4, Try.ntmps4
  go_wp2_with fail
  refine (HPT.out _ hP).mono ?_
  rintro e w1 ⟨A1, c1, rfl, hc1, hc1m, hS1, hb1⟩
  replace hP := (hP.below hb1).mono hb1.size
  replace hY := (hY.below hb1).mono hb1.size
  replace hR := hR.below hb1 hR.lt
  replace hb0 := hb0.trans (hb1.mono hb0.size)
  clear hb1
  go_wp2_with fail
  refine (HV1.out _ _ _ hS1).mono ?_
  rintro e w2 ⟨rfl, rfl⟩
  clear hS1
  go_wp2_with fail
  refine (HV2.out _ hY).mono ?_
  rintro e w2 ⟨rfl, rfl⟩
  go_wp2_with fail
  refine (shown12_any _).mono ?_
  rintro e w3 ⟨rfl, hb1⟩
  replace hP := (hP.below hb1).mono hb1.size
  replace hY := (hY.below hb1).mono hb1.size
  replace hR := hR.below hb1 hR.lt
  replace hb0 := hb0.trans (hb1.mono hb0.size)
  clear hb1 HPT HV1 HV2
  have hqR := hR.cell
  go_wp2_with fail
  refine (HEN.out _ hP).mono ?_
  rintro e w4 ⟨A2, c2, rfl, hL2, hb1⟩
  replace hP := (hP.below hb1).mono hb1.size
  replace hY := (hY.below hb1).mono hb1.size
  replace hR := hR.below hb1 hR.lt
  replace hb0 := hb0.trans (hb1.mono hb0.size)
  clear hb1 HEN hqR
  have hqR := hR.cell
  go_wp2_with fail
  refine (HTH.out _ hP).mono ?_
  rintro e w5 ⟨A3, c3, rfl, hc3, hc3m, hT3, hb1⟩
  replace hP := (hP.below hb1).mono hb1.size
  replace hY := (hY.below hb1).mono hb1.size
  replace hL2 := (hL2.below hb1).mono hb1.size
  replace hR := hR.below hb1 hR.lt
  replace hb0 := hb0.trans (hb1.mono hb0.size)
  clear hb1 hqR
  go_wp2_with fail
  refine (HREN.out _ _ _ hT3).mono ?_
  rintro e w6 ⟨A4, c4, rfl, hL4, hb1⟩
  replace hP := (hP.below hb1).mono hb1.size
  replace hY := (hY.below hb1).mono hb1.size
  replace hL2 := (hL2.below hb1).mono hb1.size
  replace hR := hR.below hb1 hR.lt
  replace hb0 := hb0.trans (hb1.mono hb0.size)
  clear hb1 hT3
  go_wp2_with fail
  refine (HHD.out _).mono ?_
  rintro e w7 ⟨A5, c5, rfl, hv5, hb1⟩
  have hX5 := hv5.parts
  replace hP := (hP.below hb1).mono hb1.size
  replace hY := (hY.below hb1).mono hb1.size
  replace hL2 := (hL2.below hb1).mono hb1.size
  replace hL4 := (hL4.below hb1).mono hb1.size
  replace hR := hR.below hb1 hR.lt
  replace hb0 := hb0.trans (hb1.mono hb0.size)
  clear hb1 hv5
  unfold recV
  go_wp2_with fail
  have hR5 := Blk.new w7 26 #[.int .u64 r1.seq, .int .i64 r1.row, .slice A5 r1.ps.length c5]
  have hb1 := (Below.refl w7.heap.size w7).alloc (Nat.le_refl _) (.cells #[.int .u64 r1.seq, .int .i64 r1.row, .slice A5 r1.ps.length c5] 26)
  replace hP := (hP.below hb1).mono hb1.size
  replace hY := (hY.below hb1).mono hb1.size
  replace hL2 := (hL2.below hb1).mono hb1.size
  replace hL4 := (hL4.below hb1).mono hb1.size
  replace hX5 := (hX5.below hb1).mono hb1.size
  replace hR := hR.below hb1 hR.lt
  replace hb0 := hb0.trans (hb1.mono hb0.size)
  clear hb1
  generalize w7.alloc (.cells #[.int .u64 r1.seq, .int .i64 r1.row, .slice A5 r1.ps.length c5] 26) = w8 at *
  generalize w7.heap.size = g5 at *
  refine (HRHD.out _).mono ?_
  rintro e w9 ⟨A6, c6, rfl, hv6, hb1⟩
  have hX6 := hv6.parts
  replace hP := (hP.below hb1).mono hb1.size
  replace hY := (hY.below hb1).mono hb1.size
  replace hL2 := (hL2.below hb1).mono hb1.size
  replace hL4 := (hL4.below hb1).mono hb1.size
  replace hX5 := (hX5.below hb1).mono hb1.size
  replace hR := hR.below hb1 hR.lt
  replace hR5 := hR5.below hb1 hR5.lt
  replace hb0 := hb0.trans (hb1.mono hb0.size)
  clear hb1 hv6
  unfold recV
  go_wp2_with fail
  have hR6 := Blk.new w9 41 #[.int .u64 r1.seq, .int .i64 r1.row, .slice A6 r1.ps.length c6]
  have hb1 := (Below.refl w9.heap.size w9).alloc (Nat.le_refl _) (.cells #[.int .u64 r1.seq, .int .i64 r1.row, .slice A6 r1.ps.length c6] 41)
  replace hP := (hP.below hb1).mono hb1.size
  replace hY := (hY.below hb1).mono hb1.size
  replace hL2 := (hL2.below hb1).mono hb1.size
  replace hL4 := (hL4.below hb1).mono hb1.size
  replace hX5 := (hX5.below hb1).mono hb1.size
  replace hX6 := (hX6.below hb1).mono hb1.size
  replace hR := hR.below hb1 hR.lt
  replace hR5 := hR5.below hb1 hR5.lt
  replace hb0 := hb0.trans (hb1.mono hb0.size)
  clear hb1
  generalize w9.alloc (.cells #[.int .u64 r1.seq, .int .i64 r1.row, .slice A6 r1.ps.length c6] 41) = w10 at *
  generalize w9.heap.size = g6 at *
  refine (HDC.out _ hY).mono ?_
  rintro e w11 ⟨A7, c7, rfl, hv7, hb1⟩
  have hX7 := hv7.parts
  replace hP := (hP.below hb1).mono hb1.size
  replace hY := (hY.below hb1).mono hb1.size
  replace hL2 := (hL2.below hb1).mono hb1.size
  replace hL4 := (hL4.below hb1).mono hb1.size
  replace hX5 := (hX5.below hb1).mono hb1.size
  replace hX6 := (hX6.below hb1).mono hb1.size
  replace hR := hR.below hb1 hR.lt
  replace hR5 := hR5.below hb1 hR5.lt
  replace hR6 := hR6.below hb1 hR6.lt
  replace hb0 := hb0.trans (hb1.mono hb0.size)
  clear hb1 hv7
  unfold recV
  go_wp2_with fail
  have hR7 := Blk.new w11 26 #[.int .u64 r2.seq, .int .i64 r2.row, .slice A7 r2.ps.length c7]
  have hb1 := (Below.refl w11.heap.size w11).alloc (Nat.le_refl _) (.cells #[.int .u64 r2.seq, .int .i64 r2.row, .slice A7 r2.ps.length c7] 26)
  replace hP := (hP.below hb1).mono hb1.size
  replace hY := (hY.below hb1).mono hb1.size
  replace hL2 := (hL2.below hb1).mono hb1.size
  replace hL4 := (hL4.below hb1).mono hb1.size
  replace hX5 := (hX5.below hb1).mono hb1.size
  replace hX6 := (hX6.below hb1).mono hb1.size
  replace hX7 := (hX7.below hb1).mono hb1.size
  replace hR := hR.below hb1 hR.lt
  replace hR5 := hR5.below hb1 hR5.lt
  replace hR6 := hR6.below hb1 hR6.lt
  replace hb0 := hb0.trans (hb1.mono hb0.size)
  clear hb1
  generalize w11.alloc (.cells #[.int .u64 r2.seq, .int .i64 r2.row, .slice A7 r2.ps.length c7] 26) = w12 at *
  generalize w11.heap.size = g7 at *
  refine (HRDC.out _ hY).mono ?_
  rintro e w13 ⟨A8, c8, rfl, hv8, hb1⟩
  have hX8 := hv8.parts
  replace hP := (hP.below hb1).mono hb1.size
  replace hL2 := (hL2.below hb1).mono hb1.size
  replace hL4 := (hL4.below hb1).mono hb1.size
  replace hX5 := (hX5.below hb1).mono hb1.size
  replace hX6 := (hX6.below hb1).mono hb1.size
  replace hX7 := (hX7.below hb1).mono hb1.size
  replace hR := hR.below hb1 hR.lt
  replace hR5 := hR5.below hb1 hR5.lt
  replace hR6 := hR6.below hb1 hR6.lt
  replace hR7 := hR7.below hb1 hR7.lt
  replace hb0 := hb0.trans (hb1.mono hb0.size)
  clear hb1 hv8 hY
  unfold recV
  go_wp2_with fail
  have hR8 := Blk.new w13 41 #[.int .u64 r2.seq, .int .i64 r2.row, .slice A8 r2.ps.length c8]
  have hb1 := (Below.refl w13.heap.size w13).alloc (Nat.le_refl _) (.cells #[.int .u64 r2.seq, .int .i64 r2.row, .slice A8 r2.ps.length c8] 41)
  replace hP := (hP.below hb1).mono hb1.size
  replace hL2 := (hL2.below hb1).mono hb1.size
  replace hL4 := (hL4.below hb1).mono hb1.size
  replace hX5 := (hX5.below hb1).mono hb1.size
  replace hX6 := (hX6.below hb1).mono hb1.size
  replace hX7 := (hX7.below hb1).mono hb1.size
  replace hX8 := (hX8.below hb1).mono hb1.size
  replace hR := hR.below hb1 hR.lt
  replace hR5 := hR5.below hb1 hR5.lt
  replace hR6 := hR6.below hb1 hR6.lt
  replace hR7 := hR7.below hb1 hR7.lt
  replace hb0 := (hb0.trans (hb1.mono hb0.size)).drew
  clear hb1 HHD HRHD HDC HRDC HREN
  generalize w13.alloc (.cells #[.int .u64 r2.seq, .int .i64 r2.row, .slice A8 r2.ps.length c8] 41) = w14 at *
  generalize w13.heap.size = g8 at *
  have k0 : Blk w14.drew w.heap.size 26 _ := hR
  have k5 : Blk w14.drew g5 26 _ := hR5
  have k6 : Blk w14.drew g6 41 _ := hR6
  have k7 : Blk w14.drew g7 26 _ := hR7
  have k8 : Blk w14.drew g8 41 _ := hR8
  have p0 : PartsA w14.drew w14.drew.heap.size A n ps := hP
  have p5 : PartsA w14.drew w14.drew.heap.size A5 r1.ps.length r1.ps := hX5
  have p6 : PartsA w14.drew w14.drew.heap.size A6 r1.ps.length r1.ps := hX6
  have p7 : PartsA w14.drew w14.drew.heap.size A7 r2.ps.length r2.ps := hX7
  have p8 : PartsA w14.drew w14.drew.heap.size A8 r2.ps.length r2.ps := hX8
  have l2 : StrsA w14.drew w14.drew.heap.size A2 L0.length L0 := hL2
  have l4 : StrsA w14.drew w14.drew.heap.size A4 L0.length L0 := hL4
  clear hR hR5 hR6 hR7 hR8 hP hX5 hX6 hX7 hX8 hL2 hL4
  have hss : (S0.toList == S0.toList) = true := by simp
  have hne : ∀ x : Int, (x != x) = false := fun x => by simp
  have q1 := hne E0
  have q2 := hne E1
  have q3 := hne E2
  have q4 := hne (r1.sum : Int)
  clear hne
  refine wp_region_nf (fun Y => Below w14.drew.heap.size w14.drew Y) (fun _ => false) [(0, true), (1, true), (2, true), (3, true), (4, true), (5, true), (6, false), (7, true), (8, true), (9, true), (10, true), (11, true), (12, true), (13, true), (14, true), (15, true), (17, true), (16, false), (18, false), (19, true), (20, true), (21, true), (22, true), (23, true), (24, true), (25, true), (26, true), (27, true), (28, true), (29, true), (30, true), (31, true), (32, true), (34, true), (33, false), (35, false), (36, true), (37, true), (38, true), (39, true), (40, true), (41, true), (42, true), (43, true), (44, true), (46, true), (45, false), (47, false), (48, false), (49, true), (50, true)] (by kernel_rfl) rfl (by kernel_rfl) (by kernel_rfl) (fun d _ _ _ _ h => by cases d <;> exact h) ?_
  generalize w14.drew = V at *
  have HCL := Lib.hid (fun (Y : World) (hY : Below V.heap.size V Y) => And.intro (k0.below hY k0.lt).cell (And.intro (k5.below hY k5.lt).cell (And.intro (k6.below hY k6.lt).cell (And.intro (k7.below hY k7.lt).cell (k8.below hY k8.lt).cell))))
  have hbd := Below.refl V.heap.size V
  repeat (refine nf_pure rfl hbd (fun Y hY => by clear hY; go_wp2; exact ⟨rfl, rfl, rfl⟩) rfl ?_ ?_; rfl)
  refine nf_imp rfl ?_
  go_wp2_with fail
  refine (texts_any _ A2 A4 L0.length c2 L0.length c4 L0 L0 l2 l4 (by unfold maxLen; omega)).mono ?_
  rintro e W1 ⟨rfl, hb2⟩
  rw [decide_eq_true rfl]
  replace hbd := hbd.trans (hb2.mono hbd.size)
  clear hb2
  go_wp2_with fail
  refine ⟨fun _ => hbd, ?_⟩
  repeat (refine nf_pure rfl hbd (fun Y hY => by obtain ⟨z0, z5, z6, z7, z8⟩ := HCL.out Y hY; clear hY; go_wp2; exact ⟨rfl, rfl, rfl⟩) rfl ?_ ?_; rfl)
  refine nf_imp rfl ?_
  go_wp2_with fail
  refine (theirs_any _ r1.seq r1.row A5 r1.ps.length c5 r1.ps ((p5.below hbd).mono hbd.size) (by omega)).mono ?_
  rintro e W2 ⟨A9, c9, rfl, hc9, hc9m, t5, hb2⟩
  replace hbd := hbd.trans (hb2.mono hbd.size)
  unfold recV
  clear hb2
  go_wp2_with fail
  refine ⟨fun _ => hbd, ?_⟩
  refine nf_imp rfl ?_
  go_wp2_with fail
  refine (refSame_any _ r1.seq r1.row r1.seq r1.row A9 A6 r1.ps.length c9 r1.ps.length c6 r1.ps r1.ps t5 ((p6.below hbd).mono hbd.size) (by unfold maxLen; omega)).mono ?_
  rintro e W3 ⟨rfl, hb2⟩
  replace hbd := hbd.trans (hb2.mono hbd.size)
  rw [sameR_self]
  clear hb2
  go_wp2_with fail
  refine ⟨fun _ => hbd, ?_⟩
  repeat (refine nf_pure rfl hbd (fun Y hY => by obtain ⟨z0, z5, z6, z7, z8⟩ := HCL.out Y hY; clear hY; go_wp2; exact ⟨rfl, rfl, rfl⟩) rfl ?_ ?_; rfl)
  refine nf_imp rfl ?_
  go_wp2_with fail
  refine (theirs_any _ r2.seq r2.row A7 r2.ps.length c7 r2.ps ((p7.below hbd).mono hbd.size) (by omega)).mono ?_
  rintro e W4 ⟨A10, c10, rfl, hc10, hc10m, t7, hb2⟩
  replace hbd := hbd.trans (hb2.mono hbd.size)
  unfold recV
  clear hb2
  go_wp2_with fail
  refine ⟨fun _ => hbd, ?_⟩
  refine nf_imp rfl ?_
  go_wp2_with fail
  refine (refSame_any _ r2.seq r2.row r2.seq r2.row A10 A8 r2.ps.length c10 r2.ps.length c8 r2.ps r2.ps t7 ((p8.below hbd).mono hbd.size) (by unfold maxLen; omega)).mono ?_
  rintro e W5 ⟨rfl, hb2⟩
  replace hbd := hbd.trans (hb2.mono hbd.size)
  rw [sameR_self]
  clear hb2
  go_wp2_with fail
  refine ⟨fun _ => hbd, ?_⟩
  repeat (refine nf_pure rfl hbd (fun Y hY => by obtain ⟨z0, z5, z6, z7, z8⟩ := HCL.out Y hY; clear hY; go_wp2; exact ⟨rfl, rfl, rfl⟩) rfl ?_ ?_; rfl)
  refine nf_imp rfl ?_
  go_wp2_with fail
  refine (HMY.out _ ((p0.below hbd).mono hbd.size)).mono ?_
  rintro e W6 ⟨rfl, hb2⟩
  replace hbd := hbd.trans (hb2.mono hbd.size)
  clear hb2
  go_wp2_with fail
  refine ⟨fun _ => hbd, ?_⟩
  refine nf_imp rfl ?_
  go_wp2_with fail
  refine (HTH.out _ ((p0.below hbd).mono hbd.size)).mono ?_
  rintro e W7 ⟨A11, c11, rfl, hc11, hc11m, t0, hb2⟩
  replace hbd := hbd.trans (hb2.mono hbd.size)
  clear hb2
  go_wp2_with fail
  refine ⟨fun _ => hbd, ?_⟩
  refine nf_imp rfl ?_
  go_wp2_with fail
  refine (HRMY.out _ _ _ t0).mono ?_
  rintro e W8 ⟨rfl, hb2⟩
  replace hbd := hbd.trans (hb2.mono hbd.size)
  clear hb2
  go_wp2_with fail
  refine ⟨fun _ => hbd, ?_⟩
  have hmm : (my != my) = false := by simp
  repeat (refine nf_pure rfl hbd (fun Y hY => by obtain ⟨z0, z5, z6, z7, z8⟩ := HCL.out Y hY; clear hY; go_wp2; exact ⟨rfl, rfl, rfl⟩) rfl ?_ ?_; rfl)
  refine nf_nil ?_
  have hbe := hb0.trans (hbd.mono hb0.size)
  clear HCL
  rcases hEnd.out with rfl | ⟨rfl, hl0, rfl⟩
  · go_wp2_with fail
    go_ret
    exact ⟨rfl, hbe⟩
  · have hl1 : ((L0.length : Int) == 0) = true := by rw [hl0]; rfl
    go_wp2_with fail
    go_ret
    exact ⟨rfl, hbe⟩
theorem tells_all (seq row : Int) (A : Option Addr) (n c : Nat) (ps : List Prt) (b : ByteArray) (B : Option Addr) (m d : Nat) (ys : List ByteArray) (w : World) (hs : (Lit.int .u64 seq).wf = true) (hr : PartsA w w.heap.size A n ps ∧ n ≤ c ∧ c * 32 ≤ 140737488355328) (_hbb : b.size ≤ maxLen) (hy : StrsIn w B m d ys) :
    Calls Try.prog 4 #[recV seq row A n c, .string b, .slice B m d] w fun e w' => e = .returned (.bool true) ∧ Below w.heap.size w w' := by
  have b1 := bounds_u64 hs
  obtain ⟨h1, h2, h3⟩ := hr
  obtain ⟨g1, g2, g3, g4, _⟩ := hy
  by_cases h : heavyB (loadS ps) = true ∨ heavyB ys = true ∨ 100 < b.size
  · exact tells_no w seq row A n c ps b B m d ys h1 (by omega) g1 (by omega) h
  · simp only [not_or, Bool.not_eq_true] at h
    exact tells_yes w seq row A n c ps b B m d ys h1 (by omega) g1 g2 g3 g4 h.1 h.2.1 (by omega)
end Go.Proofs.Ythpehdmffleobaa
