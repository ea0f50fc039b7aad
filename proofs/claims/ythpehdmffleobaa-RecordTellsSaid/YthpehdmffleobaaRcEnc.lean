/- record.Encode. -/
import Derived.Test.YthpehdmffleobaaRcHead
import Derived.Test.YthpehdmffleobaaOwnS
import Derived.Test.YthpehdmffleobaaNF
namespace Go.Proofs.Ythpehdmffleobaa
open Go.RowKit Go.OpenShut

def loadS (ps : List Prt) : List ByteArray := ps.map (·.data)
def flatL (ps : List Prt) : List UInt8 := (ps.map fun p => p.data.data.toList).flatten
def recSum (ps : List Prt) : Nat := cmore 0 (flatL ps)
theorem loadS_len (ps : List Prt) : (loadS ps).length = ps.length := by simp [loadS]
theorem loadS_take (ps : List Prt) (k : Nat) (h : k < ps.length) : loadS (ps.take (k + 1)) = loadS (ps.take k) ++ [(ps.getD k prt0).data] := by
  unfold loadS
  rw [List.take_add_one]
  have e : ps[k]? = some (ps.getD k prt0) := by simp [List.getD, h]
  rw [e]; simp
theorem join_none (xs : List (List UInt8)) : Lib.join xs [] = xs.flatten := by
  cases xs with
  | nil => rfl
  | cons x r => rw [Lib.join_cons]; simp [Lib.joinTail]
theorem flat_len (ps : List Prt) (h : loadedB ps = true) : (flatL ps).length = ps.length * 64 := by
  unfold flatL
  induction ps with
  | nil => rfl
  | cons p ps ih =>
    unfold loadedB at *
    rw [List.all_cons, Bool.and_eq_true, decide_eq_true_eq] at h
    rw [List.map_cons, List.flatten_cons, List.length_append, ih h.2, List.length_cons]
    have : p.data.data.toList.length = p.data.size := by simp
    omega
theorem StrsA.lit1 {w0 : World} {g : Nat} {t : TypeId} {x : ByteArray} (hg : w0.heap.size = g) : StrsA (w0.alloc (.cells #[.string x] t)) (w0.alloc (.cells #[.string x] t)).heap.size (some ⟨g, 0, none⟩) 1 [x] := by
  subst hg
  exact StrsA.one (Blk.new w0 t #[.string x])

theorem OwnS.base {w : World} {B B' : Nat} {v : Value} {l : List ByteArray} (h : OwnS w B v l) (hB : B' ≤ B) : OwnS w B' v l := by
  obtain ⟨h1, h2⟩ := h
  refine ⟨h1, ?_⟩
  rcases h2 with h2 | ⟨g, cap, cur, hv, hg, r⟩
  · exact Or.inl h2
  · exact Or.inr ⟨g, cap, cur, hv, Nat.le_trans hB hg, r⟩
set_option maxHeartbeats 1000000 in
theorem encode12_no (w : World) (seq row : Int) (A : Option Addr) (n c : Nat) (ps : List Prt) (h : PartsA w w.heap.size A n ps) (hn : n ≤ maxLen) (hm : mayB row ps = false) :
    Calls Try.prog 13 #[recV seq row A n c] w fun e w' => e = .returned (.tuple #[.string ⟨#[]⟩, .slice none 0 0, .int .i64 1]) ∧ Below w.heap.size w w' := by
  have HM := Lib.hid (fun V (h : PartsA V V.heap.size A n ps) => may_any V seq row A n c ps h hn)
  rw [hm] at HM
  unfold recV at *
  have hb0 := (Below.refl w.heap.size w).alloc (Nat.le_refl _) (.cells #[.int .u64 seq, .int .i64 row, .slice A n c] 26)
  have h1 := (h.below hb0).mono hb0.size
  clear h hm
  go_enter Try.func13, Try.ntmps13
  go_wp2_with fail
  refine (HM.out _ h1).mono ?_
  rintro e W1 ⟨rfl, hb3⟩
  go_wp2_with fail
  refine bodyPost_ret (results_tmp3 rfl _ _ _) rfl ?_
  exact ⟨rfl, hb0.trans (hb3.mono hb0.size)⟩

set_option maxHeartbeats 4000000 in
theorem encode12_own (w : World) (seq row : Int) (A : Option Addr) (n c : Nat) (ps : List Prt) (h : PartsA w w.heap.size A n ps) (hn : n ≤ maxLen) (hm : mayB row ps = true) (hs : 0 ≤ seq ∧ seq < 18446744073709551616) :
    Calls Try.prog 13 #[recV seq row A n c] w fun e w' => ∃ A' c', e = .returned (.tuple #[.string ⟨(headB seq row (recSum ps) ps).toArray⟩, .slice A' n c', .int .i64 0]) ∧ n ≤ c' ∧ c' ≤ maxLen ∧ (A' = none → c' = 0) ∧ StrsA w' w'.heap.size A' n (loadS ps) ∧ OwnS w' w.heap.size (.slice A' n c') (loadS ps) ∧ Below w.heap.size w w' := by
  have HM := Lib.hid (fun V (h : PartsA V V.heap.size A n ps) => may_any V seq row A n c ps h hn)
  rw [hm] at HM
  unfold mayB at hm
  rw [Bool.and_eq_true] at hm
  obtain ⟨hpl, hld⟩ := hm
  obtain ⟨_, _, n1, n40, _⟩ := placed_row hpl
  have HL := Lib.hid h.1
  rw [HL.out] at n1 n40
  have HFL := Lib.hid (flat_len ps hld)
  have HHD := Lib.hid (fun V (h : PartsA V V.heap.size A n ps) sum (hsum : sum < 4294967296) => head_any V seq row A n c ps sum h hpl hs hsum)
  unfold recV at *
  have hb0 := (Below.refl w.heap.size w).alloc (Nat.le_refl _) (.cells #[.int .u64 seq, .int .i64 row, .slice A n c] 26)
  have hR := Blk.new w 26 #[.int .u64 seq, .int .i64 row, .slice A n c]
  have h1 := (h.below hb0).mono hb0.size
  clear hpl hld
  go_enter Try.func13, Try.ntmps13
  go_wp2_with fail
  refine (HM.out _ h1).mono ?_
  rintro e W1 ⟨rfl, hb3⟩
  have hbe := hb0.trans (hb3.mono hb0.size)
  replace hR := hR.below hb3 hR.lt
  have hws : w.heap.size + 1 ≤ W1.heap.size := Nat.le_trans (by simp) hb3.size
  clear hb0 hb3 h1
  have q2 := hR.cell 2
  go_wp2_with fail
  have hv : OwnS W1 (w.heap.size + 1) (.slice none 0 0) [] := ⟨rfl, Or.inl ⟨rfl, rfl⟩⟩
  go_loopw [5, 14] (fun v i wr => ∃ k : Nat, k ≤ n ∧ i = .int .i64 k ∧ OwnS wr (w.heap.size + 1) v (loadS (ps.take k)) ∧ Blk wr w.heap.size 26 #[.int .u64 seq, .int .i64 row, .slice A n c] ∧ w.heap.size + 1 ≤ wr.heap.size ∧ Below w.heap.size w wr) (fun _ i _ => n - (intOf i).toNat)
  case atStart => exact ⟨0, by omega, rfl, by simpa [loadS] using hv, hR, hws, hbe⟩
  case round =>
    obtain ⟨k, hk, rfl, hw, hR1, hw1, hbr⟩ := hrel
    clear hv hR hws hbe q2
    by_cases hlt : k < n
    · obtain ⟨b, o, rfl, hb, hc⟩ := h.2 (by omega)
      obtain ⟨c0, c1, c2⟩ := (hc k hlt).below hbr hb
      have HT := Lib.hid (loadS_take ps k (by rw [HL.out]; exact hlt))
      have HTL := Lib.hid (show (loadS (ps.take k)).length = k by rw [loadS_len, List.length_take, HL.out]; omega)
      generalize ps.getD k prt0 = p at *
      obtain ⟨pc, po, pd⟩ := p
      dsimp only at c0 c1 c2 HT
      clear hc
      go_wp2_with (at_builtin; refine wp_appS rfl (.tmp 18) (.tmp 21) rfl (w.heap.size + 1) _ _ ((hw.alloc _).alloc _) rfl _ _ _ _ rfl (StrsA.lit1 (by simp)) (fun h => by cases h) ?c1 ?c2 ?_; (case c1 => rw [HTL.out]; omega); (case c2 => simp; omega); intro v7 w7 hv7 hg7 hb7)
      have hR7 := ((hR1.alloc (.cells #[.int .i64 pc, .int .i64 po, .string pd] 31)).alloc (.cells #[.string pd] 9)).below hb7 (by omega)
      have hbe7 := ((hbr.alloc hbr.size (.cells #[.int .i64 pc, .int .i64 po, .string pd] 31)).alloc (by have := hbr.size; simp; omega) (.cells #[.string pd] 9)).trans (hb7.mono (by omega))
      have hw7 : w.heap.size + 1 ≤ w7.heap.size := Nat.le_trans (by simp; omega) hb7.size
      rw [← HT.out] at hv7
      go_roundw
      case rel => exact ⟨k + 1, by omega, by go_num, hv7, hR7, hw7, hbe7⟩
      case measure => simp [intOf]; go_num
    · obtain rfl : k = n := by omega
      rw [List.take_of_length_le (by rw [HL.out]; exact Nat.le_refl _)] at hw
      have HSL := Lib.hid ((loadS_len ps).trans HL.out)
      have hcm : ∃ A5 c5, u5 = .slice A5 k c5 ∧ k ≤ c5 ∧ c5 ≤ maxLen ∧ (A5 = none → c5 = 0) := by
        rcases hw.2 with ⟨e, h0⟩ | ⟨g, cap, cur, e, _, _, hl, h3, _⟩
        · exact ⟨none, 0, by rw [HSL.out] at h0; rw [e, h0], by rw [HSL.out] at h0; omega, by unfold maxLen; omega, fun _ => rfl⟩
        · rw [HSL.out] at e hl; exact ⟨_, _, e, hl, h3, fun e => by cases e⟩
      obtain ⟨A5, c5, rfl, hc5, hcm5, hA5⟩ := hcm
      have hst := hw.strs
      obtain ⟨b, o, rfl, hb, hcs⟩ := hst.2 (by omega)
      have hp1 := (h.below hbr).mono hbr.size
      have HJ := Lib.hid (join_none ((loadS ps).map (·.data.toList)))
      have hfl : ((loadS ps).map (·.data.toList)).flatten = flatL ps := by simp [loadS, flatL, Function.comp_def]
      rw [hfl] at HJ
      clear hfl
      have HJC : Hid (∀ V, Below wr.heap.size wr V → Calls Try.prog 28 #[.slice (some ⟨b, o, none⟩) k c5, .string ⟨#[]⟩] V fun e w' => e = .returned (.string ⟨(flatL ps).toArray⟩) ∧ Below V.heap.size V w') := Lib.hid (fun V hV => by
        have h := Try.strings_Join b o c5 (loadS ps) ⟨#[]⟩ V (fun j x hj => by
          obtain ⟨hjl, hje⟩ := List.getElem?_eq_some_iff.1 hj
          have h2 := hcs j (by rw [HSL.out] at hjl; exact hjl)
          rw [(hV.cell (p := ⟨b, o + j, none⟩) hb), h2, ← hje]
          simp [List.getD, hjl]) (Nat.lt_of_lt_of_le hb hV.size) (by rw [HSL.out]; omega) (by rw [HSL.out]; exact hc5) (by rw [show (⟨#[]⟩ : ByteArray).data.toList = [] from rfl, HJ.out, HFL.out, HL.out]; omega)
        rw [HSL.out, show (⟨#[]⟩ : ByteArray).data.toList = [] from rfl, HJ.out] at h
        exact h)
      have HSM : Hid (∀ V, Calls Try.prog 27 #[.string ⟨(flatL ps).toArray⟩] V fun e w' => e = .returned (.int .u32 (recSum ps : Nat)) ∧ Below V.heap.size V w') := Lib.hid (fun V => by
        have h := sum_any V ⟨(flatL ps).toArray⟩ (by
          have e : (ByteArray.mk (flatL ps).toArray).size = (flatL ps).length := by show Array.size _ = _; simp
          rw [e, HFL.out, HL.out]
          unfold maxLen
          omega)
        rw [show (⟨(flatL ps).toArray⟩ : ByteArray).data.toList = flatL ps by simp] at h
        exact h)
      have hsl : recSum ps < 4294967296 := cmore_lt _ _
      have hq := hR1.cell
      go_wp2_with fail
      refine wp_region_nf (fun Y => Below wr.heap.size wr Y) (fun _ => false) [(0, true), (1, true), (5, true), (2, false), (3, false), (4, false), (6, true), (7, true), (8, true)] (by kernel_rfl) rfl (by kernel_rfl) (by kernel_rfl) (fun d _ _ _ _ h => by cases d <;> exact h) ?_
      have hbd := (Below.refl wr.heap.size wr).drew
      have HRQ := Lib.hid (fun (Y : World) (hY : Below wr.heap.size wr Y) => (hR1.below hY hR1.lt).cell)
      repeat (refine nf_pure rfl hbd (fun Y hY => by have q := HRQ.out Y hY; clear hY; go_wp2; exact ⟨rfl, rfl, rfl⟩) rfl ?_ ?_; rfl)
      refine nf_imp rfl ?_
      go_wp2_with fail
      refine (HJC.out _ hbd).mono ?_
      rintro e W2 ⟨rfl, hb2⟩
      replace hbd := hbd.trans (hb2.mono hbd.size)
      clear hb2
      go_wp2_with fail
      refine ⟨fun _ => hbd, ?_⟩
      refine nf_imp rfl ?_
      go_wp2_with fail
      refine (HSM.out _).mono ?_
      rintro e W3 ⟨rfl, hb2⟩
      replace hbd := hbd.trans (hb2.mono hbd.size)
      clear hb2
      go_wp2_with fail
      refine ⟨fun _ => hbd, ?_⟩
      refine nf_imp rfl ?_
      go_wp2_with fail
      refine (HHD.out _ ((hp1.below hbd).mono hbd.size) (recSum ps) hsl).mono ?_
      rintro e W4 ⟨rfl, hb2⟩
      replace hbd := hbd.trans (hb2.mono hbd.size)
      clear hb2
      go_wp2_with fail
      refine ⟨fun _ => hbd, ?_⟩
      repeat (refine nf_pure rfl hbd (fun Y hY => by clear hY; go_wp2; exact ⟨rfl, rfl, rfl⟩) rfl ?_ ?_; rfl)
      refine nf_nil ?_
      go_wp2_with fail
      refine bodyPost_ret (results_tmp3 rfl _ _ _) rfl ?_
      exact ⟨some ⟨b, o, none⟩, c5, rfl, hc5, hcm5, hA5, (hst.below hbd).mono hbd.size, (hw.below hbd).base (by omega), hbr.trans (hbd.mono hbr.size)⟩
theorem encode12_yes (w : World) (seq row : Int) (A : Option Addr) (n c : Nat) (ps : List Prt) (h : PartsA w w.heap.size A n ps) (hn : n ≤ maxLen) (hm : mayB row ps = true) (hs : 0 ≤ seq ∧ seq < 18446744073709551616) :
    Calls Try.prog 13 #[recV seq row A n c] w fun e w' => ∃ A' c', e = .returned (.tuple #[.string ⟨(headB seq row (recSum ps) ps).toArray⟩, .slice A' n c', .int .i64 0]) ∧ n ≤ c' ∧ c' ≤ maxLen ∧ (A' = none → c' = 0) ∧ StrsA w' w'.heap.size A' n (loadS ps) ∧ Below w.heap.size w w' :=
  (encode12_own w seq row A n c ps h hn hm hs).mono fun _ _ ⟨A', c', h1, h2, h3, h4, h5, _, h7⟩ => ⟨A', c', h1, h2, h3, h4, h5, h7⟩
end Go.Proofs.Ythpehdmffleobaa
