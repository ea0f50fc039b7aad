/- record.Decode. -/
import Derived.Test.YthpehdmffleobaaRcHd1
namespace Go.Proofs.Ythpehdmffleobaa
open Go.RowKit Go.OpenShut

def setD (n : Nat) (ps : List Prt) (xs : List ByteArray) (k : Nat) : List Prt := (List.range n).map fun j => if j < k then ⟨(ps.getD j prt0).col, (ps.getD j prt0).off, xs.getD j ⟨#[]⟩⟩ else ps.getD j prt0
def zipD (ps : List Prt) (xs : List ByteArray) : List Prt := setD ps.length ps xs ps.length
theorem setD_len (n : Nat) (ps : List Prt) (xs : List ByteArray) (k : Nat) : (setD n ps xs k).length = n := by simp [setD]
theorem setD_zero (n : Nat) (ps : List Prt) (xs : List ByteArray) (h : ps.length = n) : setD n ps xs 0 = ps := by
  subst h
  apply List.ext_getElem (by simp [setD])
  intro i h1 h2
  simp [setD, List.getD, h2]
theorem setD_getD (n : Nat) (ps : List Prt) (xs : List ByteArray) (k : Nat) (hk : k < n) : (setD n ps xs k).getD k prt0 = ps.getD k prt0 := by
  have : k < (setD n ps xs k).length := by rw [setD_len]; exact hk
  simp [setD, List.getD, hk]
theorem setD_succ (n : Nat) (ps : List Prt) (xs : List ByteArray) (k : Nat) (hk : k < n) :
    (setD n ps xs k).set k ⟨((setD n ps xs k).getD k prt0).col, ((setD n ps xs k).getD k prt0).off, xs.getD k ⟨#[]⟩⟩ = setD n ps xs (k + 1) := by
  rw [setD_getD n ps xs k hk]
  apply List.ext_getElem (by simp [setD])
  intro i h1 h2
  rw [List.getElem_set]
  by_cases e : k = i
  · subst e
    simp [setD]
  · rw [if_neg e]
    simp only [setD, List.getElem_map, List.getElem_range]
    by_cases e2 : i < k
    · rw [if_pos e2, if_pos (by omega)]
    · rw [if_neg e2, if_neg (by omega)]
theorem zipD_len (ps : List Prt) (xs : List ByteArray) : (zipD ps xs).length = ps.length := setD_len _ _ _ _
theorem loadS_zip (ps : List Prt) (xs : List ByteArray) (h : xs.length = ps.length) : loadS (zipD ps xs) = xs := by
  apply List.ext_getElem (by rw [loadS_len, zipD_len, h])
  intro i h1 h2
  simp only [loadS, zipD, setD, List.getElem_map, List.getElem_range]
  rw [if_pos (by omega)]
  simp [List.getD, h2]
def decE12 (b : ByteArray) (xs : List ByteArray) : Int :=
  if headE b ≠ 0 then headE b else if xs.length ≠ (headR b).ps.length then 31 else if loadedB (zipD (headR b).ps xs) then if recSum (zipD (headR b).ps xs) = (headR b).sum then 0 else 80 else 31
def decR12 (b : ByteArray) (xs : List ByteArray) : Hd := if decE12 b xs = 0 then ⟨(headR b).seq, (headR b).row, (headR b).sum, zipD (headR b).ps xs⟩ else ⟨0, 0, 0, []⟩
def DcPost (w : World) (E : Int) (r : Hd) (e : Ending) (w' : World) : Prop :=
  ∃ A c, e = .returned (.tuple #[recV (r.seq : Int) (r.row : Int) A r.ps.length c, .int .i64 E]) ∧ OwnP 31 w' w.heap.size (.slice A (r.ps.length : Nat) c) r.ps ∧ Below w.heap.size w w'
theorem dcRet {W : World} {g : Nat} (seq row : Int) (v : Value) (E : Int) (fn : Func) (t0 t1 t2 t3 : Value) (rest : List Value) (h : Blk W g 26 #[.int .u64 seq, .int .i64 row, v]) (hr : fn.results = #[ResultVar.cell 4 26, ResultVar.tmp 5]) :
    (results fn (t0 :: t1 :: t2 :: t3 :: .pointer (some ⟨g, 0, none⟩) :: .int .i64 E :: rest).toArray).run Try.prog W = .ok (.tuple #[.agg #[.int .u64 seq, .int .i64 row, v], .int .i64 E]) W := by
  have hq := h.cell
  simp [results, hr, go_sem, hq]
theorem headR_bd (b : ByteArray) : (headR b).ps.length ≤ 41 ∧ (headR b).seq < 18446744073709551616 ∧ (headR b).row < 65536 ∧ (headR b).sum < 4294967296 := by
  unfold headR
  split
  · refine ⟨?_, headNs_0 b, headNs_1 b, headNs_3 b⟩
    unfold headPs
    simp
    omega
  · exact ⟨by simp, by decide, by decide, by decide⟩

theorem headR_ok (b : ByteArray) (h : headE b = 0) : 1 ≤ (headR b).ps.length := by
  have h2 : headOK b = true := by
    generalize ho : headOK b = x at *
    cases x with
    | true => rfl
    | false =>
      exfalso
      unfold headE at h
      rw [ho] at h
      revert h
      by_cases h1 : b.size = 64
      · rw [if_pos h1]
        cases openB b.data.toList <;> cases headM b <;> decide
      · rw [if_neg h1]
        decide
  unfold headOK at h2
  rw [Bool.and_eq_true] at h2
  have h3 := (placed_row h2.1).2.2.1
  unfold headR
  rw [if_pos h]
  exact h3
set_option maxRecDepth 8000 in
set_option maxHeartbeats 4000000 in
theorem decode12_any (w : World) (b : ByteArray) (A : Option Addr) (m c : Nat) (xs : List ByteArray) (hx : StrsA w w.heap.size A m xs) (hm : m ≤ c) (hcm : c ≤ maxLen) (hA : A = none → c = 0) :
    Calls Try.prog 18 #[.string b, .slice A m c] w (DcPost w (decE12 b xs) (decR12 b xs)) := by
  have HXL := Lib.hid hx.1
  have HH := Lib.hid (fun V => head12_any V b)
  have HE : Hid (decE12 b xs = if headE b ≠ 0 then headE b else if xs.length ≠ (headR b).ps.length then 31 else if loadedB (zipD (headR b).ps xs) then if recSum (zipD (headR b).ps xs) = (headR b).sum then 0 else 80 else 31) := Lib.hid rfl
  have HR : Hid (decR12 b xs = if decE12 b xs = 0 then ⟨(headR b).seq, (headR b).row, (headR b).sum, zipD (headR b).ps xs⟩ else ⟨0, 0, 0, []⟩) := Lib.hid rfl
  obtain ⟨hbl, hb1, hb2, hb3⟩ := headR_bd b
  have hn1 := headR_ok b
  generalize headR b = r at *
  obtain ⟨seq, row, sum, ps⟩ := r
  dsimp only at HR HE hbl hb1 hb2 hb3 hn1
  generalize headE b = E at *
  go_enter Try.func18, Try.ntmps18
  go_wp2_with fail
  refine (HH.out _).mono ?_
  rintro e w1 ⟨A1, c1, rfl, hv, hb⟩
  dsimp only at hv ⊢
  have hz : (w.alloc (.cells #[.int .u64 0, .int .i64 0, .slice none 0 0] 26)).heap.size = w.heap.size + 1 := by simp
  have hR := (Blk.new w 26 #[.int .u64 0, .int .i64 0, .slice none 0 0]).below hb (by simp)
  have hbe := ((Below.refl w.heap.size w).alloc (Nat.le_refl _) (.cells #[.int .u64 0, .int .i64 0, .slice none 0 0] 26)).trans (hb.mono (by simp))
  have hw1 := hb.size
  rw [hz] at hv hw1
  clear hb hz
  generalize hpn : ps.length = n at *
  have HPN := Lib.hid hpn
  clear hpn
  unfold recV
  have hR0 := hR.alloc (.cells #[.int .u64 seq, .int .i64 row, .slice A1 n c1] 26)
  have hB0 := Blk.new w1 26 #[.int .u64 seq, .int .i64 row, .slice A1 n c1]
  have hv0 := hv.alloc (.cells #[.int .u64 seq, .int .i64 row, .slice A1 n c1] 26)
  have hbe0 := hbe.alloc hbe.size (.cells #[.int .u64 seq, .int .i64 row, .slice A1 n c1] 26)
  by_cases hE : E = 0
  · by_cases hmn : m = n
    · subst hE
      subst hmn
      have hne : ((m : Int) != (m : Int)) = false := by simp
      have HE2 : Hid (decE12 b xs = if loadedB (zipD ps xs) = true then if recSum (zipD ps xs) = sum then 0 else 80 else 31) := Lib.hid (by rw [HE.out, if_neg (by omega), if_neg (by rw [HXL.out]; simp)])
      have HLD := Lib.hid (fun V A1 c1 (h : PartsA V V.heap.size A1 m (zipD ps xs)) => loaded_any V seq row A1 m c1 (zipD ps xs) h (by unfold maxLen; omega))
      have hn1' : 1 ≤ m := hn1 rfl
      obtain ⟨g, rfl⟩ := hv.some_ (by omega)
      obtain ⟨hg1, hg2⟩ := hv.lt g rfl
      have HNB : w.heap.size ≠ g := by omega
      obtain ⟨bb, o, rfl, hbB, hc⟩ := hx.2 (by omega)
      have hlt1 := hB0.lt
      have hqb := hB0.cell
      rw [← setD_zero m ps xs HPN.out] at hv0
      clear HE hn1 hv hbe hR
      go_wp2_with fail
      generalize w1.alloc (.cells #[.int .u64 seq, .int .i64 row, .slice (some ⟨g, 0, none⟩) m c1] 26) = W0 at *
      generalize w1.heap.size = v1 at *
      go_loopw [32] (fun i wr => ∃ k : Nat, k ≤ m ∧ i = .int .i64 k ∧ Blk wr w.heap.size 26 #[.int .u64 0, .int .i64 0, .slice none 0 0] ∧ Blk wr v1 26 #[.int .u64 seq, .int .i64 row, .slice (some ⟨g, 0, none⟩) m c1] ∧ OwnP 31 wr (w.heap.size + 1) (.slice (some ⟨g, 0, none⟩) (m : Nat) c1) (setD m ps xs k) ∧ Below w.heap.size w wr) (fun i _ => m - (intOf i).toNat)
      case atStart => exact ⟨0, by omega, rfl, hR0, hB0, hv0, hbe0⟩
      case round =>
        obtain ⟨k, hk, rfl, hRr, hBr, hvr, hbr⟩ := hrel
        clear hR0 hB0 hv0 hbe0 hqb
        by_cases hlt : k < m
        · have q0 := (hbr.cell (p := ⟨bb, o + k, none⟩) hbB).trans (hc k hlt)
          have HSS := Lib.hid (setD_succ m ps xs k hlt)
          have HSL := Lib.hid (setD_len m ps xs k)
          obtain ⟨a0, a1, a2⟩ := hvr.at_ HSL.out k hlt
          have hfz := hvr.froz HSL.out
          have hqb := hBr.cell
          generalize xs.getD k ⟨#[]⟩ = x at *
          simp only [Nat.zero_add] at a2
          have hv7 := hvr.set2 HSL.out k hlt x
          rw [HSS.out] at hv7
          clear a0 a1 hc
          go_wp2_with fail
          have hR7 := hRr.far (p := ⟨g, k * 3 + 2, none⟩) (by dsimp only; omega) (.string x)
          have hB7 := hBr.far (p := ⟨g, k * 3 + 2, none⟩) (by dsimp only; omega) (.string x)
          have hb7 := hbr.setCell (p := ⟨g, k * 3 + 2, none⟩) (by dsimp only; omega) (.string x)
          go_roundw
          case rel => exact ⟨k + 1, by omega, by go_num, hR7, hB7, hv7, hb7⟩
          case measure => simp [intOf]; go_num
        · obtain rfl : k = m := by omega
          have HZP : Hid (setD k ps xs k = zipD ps xs) := Lib.hid (by unfold zipD; rw [HPN.out])
          rw [HZP.out] at hvr
          have hp := hvr.parts
          have hqb := hBr.cell
          go_wp2_with fail
          refine (HLD.out _ _ _ hp).mono ?_
          rintro e W2 ⟨rfl, hb2⟩
          have hbe2 := hbr.trans (hb2.mono hbr.size)
          have hR2 := hRr.below hb2 hRr.lt
          have hq2 := hR2.cell
          have hf2 := hR2.frozen
          by_cases hld : loadedB (zipD ps xs) = true
          · rw [hld]
            have HRS := Lib.hid (show decE12 b xs = if recSum (zipD ps xs) = sum then 0 else 80 by rw [HE2.out, hld]; rfl)
            have HFL := Lib.hid (flat_len _ hld)
            have HZL := Lib.hid ((zipD_len ps xs).trans HPN.out)
            have HLS := Lib.hid (loadS_zip ps xs (by rw [HXL.out, HPN.out]))
            have HJ := Lib.hid (join_none (xs.map (·.data.toList)))
            have hfl : (xs.map (·.data.toList)).flatten = flatL (zipD ps xs) := by
              have e : flatL (zipD ps xs) = ((loadS (zipD ps xs)).map (·.data.toList)).flatten := by simp [loadS, flatL, Function.comp_def]
              rw [e, HLS.out]
            rw [hfl] at HJ
            clear hfl
            have HJC : Hid (∀ V, Below w.heap.size w V → Calls Try.prog 28 #[.slice (some ⟨bb, o, none⟩) k c, .string ⟨#[]⟩] V fun e w' => e = .returned (.string ⟨(flatL (zipD ps xs)).toArray⟩) ∧ Below V.heap.size V w') := Lib.hid (fun V hV => by
              have h := Try.strings_Join bb o c xs ⟨#[]⟩ V (fun j x hj => by
                obtain ⟨hjl, hje⟩ := List.getElem?_eq_some_iff.1 hj
                have h2 := hc j (by rw [HXL.out] at hjl; exact hjl)
                rw [(hV.cell (p := ⟨bb, o + j, none⟩) hbB), h2, ← hje]
                simp [List.getD, hjl]) (Nat.lt_of_lt_of_le hbB hV.size) (by rw [HXL.out]; omega) (by rw [HXL.out]; exact hm) (by rw [show (⟨#[]⟩ : ByteArray).data.toList = [] from rfl, HJ.out, HFL.out, HZL.out]; omega)
              rw [HXL.out, show (⟨#[]⟩ : ByteArray).data.toList = [] from rfl, HJ.out] at h
              exact h)
            have HSM : Hid (∀ V, Calls Try.prog 27 #[.string ⟨(flatL (zipD ps xs)).toArray⟩] V fun e w' => e = .returned (.int .u32 (recSum (zipD ps xs) : Nat)) ∧ Below V.heap.size V w') := Lib.hid (fun V => by
              have h := sum_any V ⟨(flatL (zipD ps xs)).toArray⟩ (by
                have e : (ByteArray.mk (flatL (zipD ps xs)).toArray).size = (flatL (zipD ps xs)).length := by show Array.size _ = _; simp
                rw [e, HFL.out, HZL.out]
                unfold maxLen
                omega)
              rw [show (⟨(flatL (zipD ps xs)).toArray⟩ : ByteArray).data.toList = flatL (zipD ps xs) by simp] at h
              exact h)
            have hv2 := (hvr.below hb2).base (show w.heap.size ≤ w.heap.size + 1 by omega)
            have hB2 := hBr.below hb2 hBr.lt
            generalize recSum (zipD ps xs) = S at *
            clear hp hqb hb2 hq2 hf2 hvr hBr
            go_wp2_with fail
            refine (HJC.out _ hbe2).mono ?_
            rintro e W3 ⟨rfl, hb3'⟩
            go_wp2_with fail
            refine (HSM.out _).mono ?_
            rintro e W4 ⟨rfl, hb4'⟩
            have hbb := hb3'.trans (hb4'.mono hb3'.size)
            have hbe4 := hbe2.trans (hbb.mono hbe2.size)
            have hR4 := hR2.below hbb hR2.lt
            have hB4 := hB2.below hbb hB2.lt
            have hv4 := hv2.below hbb
            have hq4 := hR4.cell
            have hf4 := hR4.frozen
            have hqb := hB4.cell
            by_cases hS : S = sum
            · subst hS
              have hne : ((S : Int) != (S : Int)) = false := by simp
              have HZ : Hid (decE12 b xs = 0) := Lib.hid (by rw [HRS.out, if_pos rfl])
              have HRR : Hid (decR12 b xs = ⟨seq, row, S, zipD ps xs⟩) := Lib.hid (by rw [HR.out, if_pos HZ.out])
              clear hbb hb3' hb4'
              go_wp2_with fail
              refine bodyPost_ret (dcRet _ _ _ 0 _ _ _ _ _ _ (hR4.set3 _ _ _) Try.results18) rfl ⟨some ⟨g, 0, none⟩, c1, ?_, ?_, below_set3 hbe4 (Nat.le_refl _) _ _ _⟩
              · rw [HZ.out, HRR.out]; dsimp only; rw [HZL.out]; rfl
              · rw [HRR.out]; dsimp only; rw [HZL.out]
                exact ((hv4.far (fun e => HNB (Option.some.inj e)) _).far (fun e => HNB (Option.some.inj e)) _).far (fun e => HNB (Option.some.inj e)) _
            · have hne : ((S : Int) != (sum : Int)) = true := by rw [bne_iff_ne]; omega
              have HZ : Hid (decE12 b xs = 80) := Lib.hid (by rw [HRS.out, if_neg hS])
              have HRR : Hid (decR12 b xs = ⟨0, 0, 0, []⟩) := Lib.hid (by rw [HR.out, HZ.out]; rfl)
              clear hbb hb3' hb4'
              go_wp2_with fail
              rw [HZ.out, HRR.out]
              exact bodyPost_ret (dcRet 0 0 _ 80 _ _ _ _ _ _ (hR4.set3 _ _ _) Try.results18) rfl ⟨none, 0, rfl, ⟨rfl, Or.inl ⟨rfl, rfl⟩⟩, below_set3 hbe4 (Nat.le_refl _) _ _ _⟩
          · rw [Bool.not_eq_true] at hld
            rw [hld]
            have HZ : Hid (decE12 b xs = 31) := Lib.hid (by rw [HE2.out, hld]; rfl)
            have HRR : Hid (decR12 b xs = ⟨0, 0, 0, []⟩) := Lib.hid (by rw [HR.out, HZ.out]; rfl)
            clear hp hqb hb2 hc
            go_wp2_with fail
            rw [HZ.out, HRR.out]
            exact bodyPost_ret (dcRet 0 0 _ 31 _ _ _ _ _ _ (hR2.set3 _ _ _) Try.results18) rfl ⟨none, 0, rfl, ⟨rfl, Or.inl ⟨rfl, rfl⟩⟩, below_set3 hbe2 (Nat.le_refl _) _ _ _⟩
    · have hne : ((m : Int) != (n : Int)) = true := by rw [bne_iff_ne]; omega
      have hq := hR0.cell
      have hf := hR0.frozen
      have HZ : Hid (decE12 b xs = 31) := Lib.hid (by rw [HE.out, if_neg (by omega), if_pos (by rw [HXL.out]; exact hmn)])
      have HRR : Hid (decR12 b xs = ⟨0, 0, 0, []⟩) := Lib.hid (by rw [HR.out, HZ.out]; rfl)
      subst hE
      clear hR hv hbe hB0
      go_wp2_with fail
      rw [HZ.out, HRR.out]
      exact bodyPost_ret (dcRet 0 0 _ 31 _ _ _ _ _ _ (hR0.set3 _ _ _) Try.results18) rfl ⟨none, 0, rfl, ⟨rfl, Or.inl ⟨rfl, rfl⟩⟩, below_set3 hbe0 (Nat.le_refl _) _ _ _⟩
  · have hne : (E != 0) = true := by rw [bne_iff_ne]; exact hE
    have hq := hR0.cell
    have hf := hR0.frozen
    have HZ : Hid (decE12 b xs = E) := Lib.hid (by rw [HE.out, if_pos hE])
    have HRR : Hid (decR12 b xs = ⟨0, 0, 0, []⟩) := Lib.hid (by rw [HR.out, HZ.out, if_neg hE])
    clear hR hv hbe hB0
    go_wp2_with fail
    rw [HZ.out, HRR.out]
    exact bodyPost_ret (dcRet 0 0 _ E _ _ _ _ _ _ (hR0.set3 _ _ _) Try.results18) rfl ⟨none, 0, rfl, ⟨rfl, Or.inl ⟨rfl, rfl⟩⟩, below_set3 hbe0 (Nat.le_refl _) _ _ _⟩
end Go.Proofs.Ythpehdmffleobaa
