/- The document's Decode of a record. -/
import Derived.Test.YthpehdmffleobaaRcRf4
import Derived.Test.YthpehdmffleobaaRcSpPlain
namespace Go.Proofs.Ythpehdmffleobaa
open Go.RowKit Go.OpenShut

def DcPostR (w : World) (E : Int) (r : Hd) (e : Ending) (w' : World) : Prop :=
  ∃ A c, e = .returned (.tuple #[recV (r.seq : Int) (r.row : Int) A r.ps.length c, .int .i64 E]) ∧ OwnP 65 w' w.heap.size (.slice A (r.ps.length : Nat) c) r.ps ∧ Below w.heap.size w w'
theorem dcRetR {W : World} {g : Nat} (seq row : Int) (v : Value) (E : Int) (fn : Func) (t0 t1 t2 t3 : Value) (rest : List Value) (h : Blk W g 41 #[.int .u64 seq, .int .i64 row, v]) (hr : fn.results = #[ResultVar.cell 4 41, ResultVar.tmp 5]) :
    (results fn (t0 :: t1 :: t2 :: t3 :: .pointer (some ⟨g, 0, none⟩) :: .int .i64 E :: rest).toArray).run Try.prog W = .ok (.tuple #[.agg #[.int .u64 seq, .int .i64 row, v], .int .i64 E]) W := by
  have hq := h.cell
  simp [results, hr, go_sem, hq]
def outL (ps : List Prt) (xs : List ByteArray) (k : Nat) : List Prt := (List.range k).map fun j => ⟨(ps.getD j prt0).col, (ps.getD j prt0).off, xs.getD j ⟨#[]⟩⟩
theorem outL_len (ps : List Prt) (xs : List ByteArray) (k : Nat) : (outL ps xs k).length = k := by simp [outL]
theorem outL_succ (ps : List Prt) (xs : List ByteArray) (k : Nat) : outL ps xs (k + 1) = outL ps xs k ++ [⟨(ps.getD k prt0).col, (ps.getD k prt0).off, xs.getD k ⟨#[]⟩⟩] := by simp [outL, List.range_succ]
theorem outL_all (ps : List Prt) (xs : List ByteArray) (k : Nat) (h : ps.length = k) : outL ps xs k = zipD ps xs := by
  subst h
  unfold outL zipD setD
  refine List.map_congr_left fun j hj => ?_
  rw [if_pos (List.mem_range.1 hj)]
def FX (xs : List ByteArray) (k : Nat) : List UInt8 := ((xs.take k).map (·.data.toList)).flatten
theorem FX_succ (xs : List ByteArray) (k : Nat) (h : k < xs.length) : FX xs (k + 1) = FX xs k ++ (xs.getD k ⟨#[]⟩).data.toList := by
  unfold FX
  rw [List.take_add_one]
  have e : xs[k]? = some (xs.getD k ⟨#[]⟩) := by simp [List.getD, h]
  rw [e]
  simp
theorem FX_len (xs : List ByteArray) (k : Nat) (hk : k ≤ xs.length) (h : ∀ j, j < k → (xs.getD j ⟨#[]⟩).size = 64) : (FX xs k).length = k * 64 := by
  induction k with
  | zero => simp [FX]
  | succ k ih =>
    rw [FX_succ xs k (by omega), List.length_append, ih (by omega) (fun j hj => h j (by omega))]
    have h2 := h k (by omega)
    have h3 : (xs.getD k ⟨#[]⟩).data.toList.length = (xs.getD k ⟨#[]⟩).size := by simp
    omega
theorem OwnP.new (w : World) (base : Nat) (e : TypeId) (hb : base ≤ w.heap.size) : OwnP e (w.alloc (.cells #[] e)) base (.slice (some ⟨w.heap.size, 0, none⟩) 0 0) [] :=
  ⟨rfl, Or.inr ⟨w.heap.size, 0, #[], rfl, hb, Blk.new w e #[], Nat.le_refl _, Nat.zero_le _, rfl, rfl⟩⟩
set_option maxRecDepth 8000 in
set_option maxHeartbeats 8000000 in
theorem rDec_any (w : World) (b : ByteArray) (A : Option Addr) (m c : Nat) (xs : List ByteArray) (hx : StrsA w w.heap.size A m xs) (hm : m ≤ c) (hcm : c ≤ maxLen) :
    Calls Try.prog 19 #[.string b, .slice A m c] w (DcPostR w (decE12 b xs) (decR12 b xs)) := by
  have HXL := Lib.hid hx.1
  have HH := Lib.hid (fun V => rHead_any V b)
  have HE : Hid (decE12 b xs = if headE b ≠ 0 then headE b else if xs.length ≠ (headR b).ps.length then 31 else if loadedB (zipD (headR b).ps xs) then if recSum (zipD (headR b).ps xs) = (headR b).sum then 0 else 80 else 31) := Lib.hid rfl
  have HR : Hid (decR12 b xs = if decE12 b xs = 0 then ⟨(headR b).seq, (headR b).row, (headR b).sum, zipD (headR b).ps xs⟩ else ⟨0, 0, 0, []⟩) := Lib.hid rfl
  obtain ⟨hbl, hb1, hb2, hb3⟩ := headR_bd b
  have hn1 := headR_ok b
  generalize headR b = r at *
  obtain ⟨seq, row, sum, ps⟩ := r
  dsimp only at HR HE hbl hb1 hb2 hb3 hn1
  generalize headE b = E at *
  go_enter Try.func19, Try.ntmps19
  go_wp2_with fail
  refine (HH.out _).mono ?_
  rintro e w1 ⟨A1, c1, rfl, hv, hb⟩
  dsimp only at hv ⊢
  have hz : (w.alloc (.cells #[.int .u64 0, .int .i64 0, .slice none 0 0] 41)).heap.size = w.heap.size + 1 := by simp
  have hR := (Blk.new w 41 #[.int .u64 0, .int .i64 0, .slice none 0 0]).below hb (by simp)
  have hbe := ((Below.refl w.heap.size w).alloc (Nat.le_refl _) (.cells #[.int .u64 0, .int .i64 0, .slice none 0 0] 41)).trans (hb.mono (by simp))
  have hw1 := hb.size
  rw [hz] at hv hw1
  clear hb hz
  generalize hpn : ps.length = n at *
  have HPN := Lib.hid hpn
  clear hpn
  unfold recV
  have hR0 := hR.alloc (.cells #[.int .u64 seq, .int .i64 row, .slice A1 n c1] 41)
  have hB0 := Blk.new w1 41 #[.int .u64 seq, .int .i64 row, .slice A1 n c1]
  have hv0 := hv.alloc (.cells #[.int .u64 seq, .int .i64 row, .slice A1 n c1] 41)
  have hbe0 := hbe.alloc hbe.size (.cells #[.int .u64 seq, .int .i64 row, .slice A1 n c1] 41)
  by_cases hE : E = 0
  · by_cases hmn : m = n
    · subst hE
      subst hmn
      have hne : ((m : Int) != (m : Int)) = false := by simp
      have HE2 : Hid (decE12 b xs = if loadedB (zipD ps xs) = true then if recSum (zipD ps xs) = sum then 0 else 80 else 31) := Lib.hid (by rw [HE.out, if_neg (by omega), if_neg (by rw [HXL.out]; simp)])
      have HLZ := Lib.hid (loadedB_zip ps xs (by rw [HXL.out, HPN.out]))
      have hn1' : 1 ≤ m := hn1 rfl
      obtain ⟨bb, o, rfl, hbB, hc⟩ := hx.2 (by omega)
      obtain ⟨bp, op, hA1, hbp, hcp⟩ := hv0.parts.2 (by omega)
      subst hA1
      have hqb := hB0.cell
      have hlt1 : w.heap.size < w1.heap.size := by omega
      clear HE hn1 hv hbe hR hv0
      go_wp2_with fail
      have hz1 : (w1.alloc (.cells #[.int .u64 seq, .int .i64 row, .slice (some ⟨bp, op, none⟩) m c1] 41)).heap.size = w1.heap.size + 1 := by simp
      generalize w1.alloc (.cells #[.int .u64 seq, .int .i64 row, .slice (some ⟨bp, op, none⟩) m c1] 41) = W0 at *
      rw [hz1] at hbp
      have hvO := OwnP.new W0 (w1.heap.size + 1) 65 (by omega)
      have al := (Below.refl W0.heap.size W0).alloc (Nat.le_refl _) (.cells #[] 65)
      rw [hz1] at al hvO
      have hR1 := hR0.below al (by omega)
      have hB1 := hB0.below al (by omega)
      have hbe1 := hbe0.trans (al.mono (by omega))
      have hcp1 := fun j hj => (hcp j hj).below al hbp
      have hws1 : w1.heap.size + 1 ≤ (W0.alloc (.cells #[] 65)).heap.size := by simp; omega
      generalize W0.alloc (.cells #[] 65) = W1 at *
      generalize w1.heap.size = v1 at *
      clear hR0 hB0 hbe0 hcp al hqb hz1
      have H0 : Hid ((⟨#[]⟩ : ByteArray) = ⟨(FX xs 0).toArray⟩) := Lib.hid (by simp [FX])
      have hbv0 := Below.refl (v1 + 1) W1
      go_loopw [9, 10, 11] (fun s v i wr => ∃ k : Nat, k ≤ m ∧ i = .int .i64 k ∧ s = .string ⟨(FX xs k).toArray⟩ ∧ (∀ j, j < k → (xs.getD j ⟨#[]⟩).size = 64) ∧ OwnP 65 wr (v1 + 1) v (outL ps xs k) ∧ v1 + 1 ≤ wr.heap.size ∧ Below (v1 + 1) W1 wr) (fun _ _ i _ => m - (intOf i).toNat)
      case atStart => exact ⟨0, by omega, rfl, congrArg Value.string H0.out, fun j hj => by omega, hvO, hws1, hbv0⟩
      case round =>
        obtain ⟨k, hk, rfl, rfl, hall, hw, hws, hbv⟩ := hrel
        clear hvO hws1 hbv0
        have HA := Lib.hid hall
        clear hall
        have hbr := hbe1.trans (hbv.mono (by omega))
        by_cases hlt : k < m
        · have q0 := (hbr.cell (p := ⟨bb, o + k, none⟩) hbB).trans (hc k hlt)
          have hpk := (hcp1 k hlt).below hbv hbp
          have HOS := Lib.hid (outL_succ ps xs k)
          have HOL := Lib.hid (outL_len ps xs k)
          have HOL1 := Lib.hid (outL_len ps xs (k + 1))
          have HFS := Lib.hid (FX_succ xs k (by rw [HXL.out]; exact hlt))
          have hFL : (⟨(FX xs k).toArray⟩ : ByteArray).size ≤ 4000 := by rw [size_mk, FX_len xs k (by rw [HXL.out]; exact hk) HA.out]; omega
          have HAN := Lib.hid (fun (h0 : (xs.getD k ⟨#[]⟩).size = 64) j (hj : j < k + 1) => show (xs.getD j ⟨#[]⟩).size = 64 by
            by_cases e : j = k
            · rw [e]; exact h0
            · exact HA.out j (by omega))
          have HNO := Lib.hid (fun (h0 : (xs.getD k ⟨#[]⟩).size ≠ 64) => show loadedB (zipD ps xs) = false by
            rw [HLZ.out, Bool.eq_false_iff]
            intro e
            have hkl : k < xs.length := by rw [HXL.out]; exact hlt
            have h2 := List.all_eq_true.1 e (xs.getD k ⟨#[]⟩) (by simp [List.getD, hkl])
            exact h0 (by simpa using h2))
          have HLK := Lib.hid (hc k hlt)
          have HPK := Lib.hid (fun (Y : World) (hY : Below (v1 + 1) W1 Y) => (hcp1 k hlt).below hY hbp)
          have HLK : Hid (w.cell? ⟨bb, o + k, none⟩ = some (.string (xs.getD k ⟨#[]⟩))) := HLK
          generalize xs.getD k ⟨#[]⟩ = x at *
          obtain ⟨a0, a1, a2⟩ := hpk
          generalize ps.getD k prt0 = p at *
          obtain ⟨pc, po, pd⟩ := p
          dsimp only at a0 a1 a2 HOS
          have hRr := hR1.below hbv (by omega)
          have hBr := hB1.below hbv (by omega)
          by_cases h64 : x.size = 64
          · have HX := Lib.hid h64
            have e1 : ((x.size : Int) != 64) = false := by rw [h64]; rfl
            have hx64 : x.size ≤ 64 := by omega
            have HAP : Hid ((⟨(FX xs k).toArray⟩ : ByteArray) ++ x = ⟨(FX xs (k + 1)).toArray⟩) := Lib.hid (by
              rw [HFS.out]
              apply ByteArray.ext
              apply Array.toList_inj.1
              simp)
            generalize (⟨(FX xs k).toArray⟩ : ByteArray) = s at *
            obtain ⟨A', c', rfl, hc', hcm'⟩ := hw.shape
            rw [HOL.out] at hc' hw ⊢
            have hqb := hBr.cell
            clear h64
            go_wp2_with fail
            refine wp_region_nf (fun Y => Below (v1 + 1) W1 Y) (fun _ => false) [(0, true), (1, true), (2, true), (3, true), (4, true), (5, true), (6, true), (7, true), (8, true), (9, true), (10, true), (11, true), (12, true), (13, true), (14, true), (15, true), (16, true), (17, true), (18, false), (19, false), (20, true)] (by kernel_rfl) rfl (by kernel_rfl) (by kernel_rfl) (fun d _ _ _ _ h => by cases d <;> exact h) ?_
            have HCL := Lib.hid (fun (Y : World) (hY : Below (v1 + 1) W1 Y) => And.intro (hB1.below hY (by omega)).cell (And.intro (((hbe1.trans (hY.mono (by omega))).cell (p := ⟨bb, o + k, none⟩) hbB).trans HLK.out) (HPK.out Y hY)))
            have hbd := hbv.drew
            have hw2 := hw.drew
            have hws2 : v1 + 1 ≤ wr.drew.heap.size := hws
            clear hqb hRr hBr q0 a0 a1 a2 hbr hbv hw hws
            generalize wr.drew = V at *
            repeat (refine nf_pure rfl hbd (fun Y hY => by obtain ⟨g1, g2, g3, g4, g5⟩ := HCL.out Y hY; clear hY; go_wp2; exact ⟨rfl, rfl, rfl⟩) rfl ?_ ?_; rfl)
            refine nf_imp rfl ?_
            go_wp2_with fail
            have hPL := PartsA.lit (w0 := V) (g := V.heap.size) (t := 65) (p := ⟨pc, po, x⟩) rfl
            dsimp only at hPL
            have hw3 := hw2.alloc (.cells #[.int .i64 pc, .int .i64 po, .string x] 65)
            have hbd3 := hbd.alloc hws2 (.cells #[.int .i64 pc, .int .i64 po, .string x] 65)
            have hws3 : v1 + 1 ≤ (V.alloc (.cells #[.int .i64 pc, .int .i64 po, .string x] 65)).heap.size := by simp; omega
            generalize V.alloc (.cells #[.int .i64 pc, .int .i64 po, .string x] 65) = V1 at *
            refine ⟨fun _ => hbd3, ?_⟩
            refine nf_imp rfl ?_
            refine wp_appP 39 65 Try.underlying39 info_part12 rfl (.tmp 49) (.tmp 67) rfl (v1 + 1) _ _ hw3 rfl _ 1 1 _ rfl hPL (fun h => by cases h) (by rw [HOL.out]; omega) hws3 ?_
            intro v5 w5 hv5 hg5 hb5 ha5
            rw [← HOS.out] at hv5
            have hbd5 := hbd3.trans hb5
            have hws5 := Nat.le_trans hws3 hb5.size
            clear hPL hw3 hbd3 hws3 hg5 hb5 ha5 hw2 hbd hws2
            go_wp2_with fail
            refine ⟨fun _ => hbd5, ?_⟩
            repeat (refine nf_pure rfl hbd5 (fun Y hY => by clear hY; go_wp2; exact ⟨rfl, rfl, rfl⟩) rfl ?_ ?_; rfl)
            refine nf_nil ?_
            rw [HAP.out]
            go_wp2_with fail
            go_roundw
            case rel => exact ⟨k + 1, by omega, by go_num, rfl, HAN.out HX.out, hv5, hws5, hbd5⟩
            case measure => simp [intOf]; omega
          · have e1 : ((x.size : Int) != 64) = true := by rw [bne_iff_ne]; omega
            have HZ : Hid (decE12 b xs = 31) := Lib.hid (by rw [HE2.out, HNO.out h64]; rfl)
            have HRR : Hid (decR12 b xs = ⟨0, 0, 0, []⟩) := Lib.hid (by rw [HR.out, HZ.out]; rfl)
            have hq := hRr.cell
            have hf := hRr.frozen
            clear h64
            go_wp2_with fail
            rw [HZ.out, HRR.out]
            exact bodyPost_ret (dcRetR 0 0 _ 31 _ _ _ _ _ _ (hRr.set3 _ _ _) Try.results19) rfl ⟨none, 0, rfl, ⟨rfl, Or.inl ⟨rfl, rfl⟩⟩, below_set3 hbr (Nat.le_refl _) _ _ _⟩
        · obtain rfl : k = m := by omega
          have HFL := Lib.hid (FX_len xs k (by rw [HXL.out]; exact hk) HA.out)
          have HFA : Hid (FX xs k = (xs.map (·.data.toList)).flatten) := Lib.hid (by unfold FX; rw [List.take_of_length_le (by rw [HXL.out]; exact Nat.le_refl _)])
          have hld : loadedB (zipD ps xs) = true := by
            rw [HLZ.out, List.all_eq_true]
            intro y hy
            obtain ⟨j, hj, rfl⟩ := List.mem_iff_getElem.1 hy
            have := HA.out j (by rw [HXL.out] at hj; exact hj)
            simpa [List.getD, hj] using this
          have HRS : Hid (recSum (zipD ps xs) = cmore 0 (FX xs k)) := Lib.hid (by unfold recSum; rw [flatL_zip ps xs (by rw [HXL.out, HPN.out]), HFA.out])
          have HZE := Lib.hid (show decE12 b xs = if cmore 0 (FX xs k) = sum then 0 else 80 by rw [HE2.out, hld, HRS.out]; rfl)
          have HSM : Hid (∀ V, Calls Try.prog 30 #[.string ⟨(FX xs k).toArray⟩] V fun e w' => e = .returned (.int .u32 (cmore 0 (FX xs k) : Nat)) ∧ V = w') := Lib.hid (fun V => by
            have h := refSum_any V ⟨(FX xs k).toArray⟩ (by rw [size_mk, HFL.out]; unfold maxLen; omega)
            rw [list_mk] at h
            exact h)
          have HZL := Lib.hid ((zipD_len ps xs).trans HPN.out)
          rw [outL_all ps xs k HPN.out] at hw
          obtain ⟨A', c', rfl, hc', hcm'⟩ := hw.shape
          rw [HZL.out] at hw hc' ⊢
          have hRr := hR1.below hbv (by omega)
          have hBr := hB1.below hbv (by omega)
          have hvl := fun g (e : some g = (Value.slice A' (k : Nat) c').ownBlock) => (hw.lt g e.symm).1
          have HOB := Lib.hid (fun (g : Nat) (hg : g < v1 + 1) (e : some g = (Value.slice A' (k : Nat) c').ownBlock) => show False by
            have := hvl g e
            omega)
          generalize cmore 0 (FX xs k) = S at *
          generalize (⟨(FX xs k).toArray⟩ : ByteArray) = F at *
          clear hld hvl hcp1
          go_wp2_with fail
          refine (HSM.out _).mono ?_
          rintro e W4 ⟨rfl, rfl⟩
          by_cases hS : S = sum
          · subst hS
            have hne2 : ((S : Int) != (S : Int)) = false := by simp
            have HZ : Hid (decE12 b xs = 0) := Lib.hid (by rw [HZE.out, if_pos rfl])
            have HRR : Hid (decR12 b xs = ⟨seq, row, S, zipD ps xs⟩) := Lib.hid (by rw [HR.out, if_pos HZ.out])
            have hqb := hBr.cell
            have hfb := hBr.frozen
            have hqr := hRr.cell
            have hfr := hRr.frozen
            have hqb2 := (hBr.set_ 2 (.slice A' (k : Nat) c')).cell
            have hB2 := hBr.set_ 2 (.slice A' (k : Nat) c')
            have hRr2 := hRr.far (p := ⟨v1, 2, none⟩) (by dsimp only; omega) (.slice A' (k : Nat) c')
            have hw2 := hw.far (p := ⟨v1, 2, none⟩) (fun e => HOB.out v1 (by omega) e) (.slice A' (k : Nat) c')
            have hbr2 := hbr.setCell (p := ⟨v1, 2, none⟩) (by dsimp only; omega) (.slice A' (k : Nat) c')
            have hq2 := hB2.cell
            have hqr2 := hRr2.cell
            have hfr2 := hRr2.frozen
            go_wp2_with fail
            refine bodyPost_ret (dcRetR _ _ _ 0 _ _ _ _ _ _ (hRr2.set3 _ _ _) Try.results19) rfl ⟨A', c', ?_, ?_, below_set3 hbr2 (Nat.le_refl _) _ _ _⟩
            · rw [HZ.out, HRR.out]; dsimp only; rw [HZL.out]; rfl
            · rw [HRR.out]; dsimp only; rw [HZL.out]
              have hw3 := hw2.base (show w.heap.size ≤ v1 + 1 by omega)
              exact ((hw3.far (fun e => HOB.out w.heap.size (by omega) e) _).far (fun e => HOB.out w.heap.size (by omega) e) _).far (fun e => HOB.out w.heap.size (by omega) e) _
          · have hne2 : ((S : Int) != (sum : Int)) = true := by rw [bne_iff_ne]; omega
            have HZ : Hid (decE12 b xs = 80) := Lib.hid (by rw [HZE.out, if_neg hS])
            have HRR : Hid (decR12 b xs = ⟨0, 0, 0, []⟩) := Lib.hid (by rw [HR.out, HZ.out]; rfl)
            have hq := hRr.cell
            have hf := hRr.frozen
            go_wp2_with fail
            rw [HZ.out, HRR.out]
            exact bodyPost_ret (dcRetR 0 0 _ 80 _ _ _ _ _ _ (hRr.set3 _ _ _) Try.results19) rfl ⟨none, 0, rfl, ⟨rfl, Or.inl ⟨rfl, rfl⟩⟩, below_set3 hbr (Nat.le_refl _) _ _ _⟩
    · have hne : ((m : Int) != (n : Int)) = true := by rw [bne_iff_ne]; omega
      have hq := hR0.cell
      have hf := hR0.frozen
      have HZ : Hid (decE12 b xs = 31) := Lib.hid (by rw [HE.out, if_neg (by omega), if_pos (by rw [HXL.out]; exact hmn)])
      have HRR : Hid (decR12 b xs = ⟨0, 0, 0, []⟩) := Lib.hid (by rw [HR.out, HZ.out]; rfl)
      subst hE
      clear hR hv hbe hB0
      go_wp2_with fail
      rw [HZ.out, HRR.out]
      exact bodyPost_ret (dcRetR 0 0 _ 31 _ _ _ _ _ _ (hR0.set3 _ _ _) Try.results19) rfl ⟨none, 0, rfl, ⟨rfl, Or.inl ⟨rfl, rfl⟩⟩, below_set3 hbe0 (Nat.le_refl _) _ _ _⟩
  · have hne : (E != 0) = true := by rw [bne_iff_ne]; exact hE
    have hq := hR0.cell
    have hf := hR0.frozen
    have HZ : Hid (decE12 b xs = E) := Lib.hid (by rw [HE.out, if_pos hE])
    have HRR : Hid (decR12 b xs = ⟨0, 0, 0, []⟩) := Lib.hid (by rw [HR.out, HZ.out, if_neg hE])
    clear hR hv hbe hB0
    go_wp2_with fail
    rw [HZ.out, HRR.out]
    exact bodyPost_ret (dcRetR 0 0 _ E _ _ _ _ _ _ (hR0.set3 _ _ _) Try.results19) rfl ⟨none, 0, rfl, ⟨rfl, Or.inl ⟨rfl, rfl⟩⟩, below_set3 hbe0 (Nat.le_refl _) _ _ _⟩
end Go.Proofs.Ythpehdmffleobaa
