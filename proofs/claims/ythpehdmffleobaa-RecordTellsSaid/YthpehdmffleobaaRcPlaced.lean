/- record's placed and May. -/
import Derived.Test.YthpehdmffleobaaRcSeen
namespace Go.Proofs.Ythpehdmffleobaa
open Go.RowKit Go.OpenShut

def placeOk (p : Prt) : Bool := decide (0 ≤ p.col) && decide (p.col < 10) && decide (0 ≤ p.off) && decide (p.off < 4)
def placedF : List (Int × Int) → List Prt → Bool
  | _, [] => true
  | l, p :: ps => placeOk p && !decide ((p.col, p.off) ∈ l) && placedF ((p.col, p.off) :: l) ps
def placedB (row : Int) (ps : List Prt) : Bool := decide (0 ≤ row) && decide (row < 256) && decide (1 ≤ ps.length) && decide (ps.length ≤ 40) && placedF [] ps
/-- the pairs of the first k parts, the last one first -/
def seenL (ps : List Prt) (k : Nat) : List (Int × Int) := ((ps.take k).map fun p => (p.col, p.off)).reverse
theorem seenL_succ (ps : List Prt) (k : Nat) (h : k < ps.length) : seenL ps (k + 1) = ((ps.getD k prt0).col, (ps.getD k prt0).off) :: seenL ps k := by
  unfold seenL
  rw [List.take_add_one]
  have e : ps[k]? = some (ps.getD k prt0) := by simp [List.getD, h]
  rw [e]
  simp
theorem drop_getP (ps : List Prt) (k : Nat) (h : k < ps.length) : ps.drop k = ps.getD k prt0 :: ps.drop (k + 1) := by
  rw [List.drop_eq_getElem_cons h]
  simp [List.getD, h]
theorem i64ok_small {c : Int} (h0 : 0 ≤ c) (h1 : c < 10) : i64ok c := WalkArith.wf_i64 (by omega)

set_option maxHeartbeats 2000000 in
theorem placed_any (w : World) (seq row : Int) (A : Option Addr) (n c : Nat) (ps : List Prt) (h : PartsA w w.heap.size A n ps) (hn : n ≤ maxLen) :
    Calls Try.prog 24 #[recV seq row A n c] w fun e w' => e = .returned (.bool (placedB row ps)) ∧ Below w.heap.size w w' := by
  unfold recV
  have HL := Lib.hid h.1
  have hb0 := (Below.refl w.heap.size w).alloc (Nat.le_refl _) (.cells #[.int .u64 seq, .int .i64 row, .slice A n c] 26)
  have hbad : (row < 0 ∨ row ≥ 256 ∨ n = 0 ∨ n > 40) ∨ (0 ≤ row ∧ row < 256 ∧ 1 ≤ n ∧ n ≤ 40) := by omega
  rcases hbad with hbad | ⟨r1, r2, r3, r4⟩
  · have e : placedB row ps = false := by
      unfold placedB
      rw [Bool.eq_false_iff]
      intro e
      simp only [Bool.and_eq_true, decide_eq_true_eq, HL.out] at e
      omega
    rw [e]
    clear e
    rcases hbad with h1 | h1 | h1 | h1
    · go_enter Try.func24, Try.ntmps24
      go_wp2_with fail
      go_ret
      exact ⟨rfl, hb0⟩
    · have h2 : ¬ row < 0 := by omega
      go_enter Try.func24, Try.ntmps24
      go_wp2_with fail
      go_ret
      exact ⟨rfl, hb0⟩
    · subst h1
      by_cases h2 : row < 0
      · go_enter Try.func24, Try.ntmps24
        go_wp2_with fail
        go_ret
        exact ⟨rfl, hb0⟩
      · by_cases h3 : row ≥ 256
        · go_enter Try.func24, Try.ntmps24
          go_wp2_with fail
          go_ret
          exact ⟨rfl, hb0⟩
        · go_enter Try.func24, Try.ntmps24
          go_wp2_with fail
          go_ret
          exact ⟨rfl, hb0⟩
    · have h5 : (n : Int) > 40 := by omega
      have h6 : ((n : Int) == 0) = false := by rw [beq_eq_false_iff_ne]; omega
      by_cases h2 : row < 0
      · go_enter Try.func24, Try.ntmps24
        go_wp2_with fail
        go_ret
        exact ⟨rfl, hb0⟩
      · by_cases h3 : row ≥ 256
        · go_enter Try.func24, Try.ntmps24
          go_wp2_with fail
          go_ret
          exact ⟨rfl, hb0⟩
        · go_enter Try.func24, Try.ntmps24
          go_wp2_with fail
          go_ret
          exact ⟨rfl, hb0⟩
  · have e : placedB row ps = placedF [] ps := by
      unfold placedB
      rw [HL.out, decide_eq_true r1, decide_eq_true r2, decide_eq_true r3, decide_eq_true r4]
      rfl
    rw [e]
    clear e
    have h1 : ¬ row < 0 := by omega
    have h2 : ¬ row ≥ 256 := by omega
    have h5 : ¬ (n : Int) > 40 := by omega
    have h6 : ((n : Int) == 0) = false := by rw [beq_eq_false_iff_ne]; omega
    have hmm := @run_makeMap Try.prog
    go_enter Try.func24, Try.ntmps24
    go_wp2_with fail
    have hS := Seen.made (w.alloc (.cells #[.int .u64 seq, .int .i64 row, .slice A n c] 26))
    have hz : (w.alloc (.cells #[.int .u64 seq, .int .i64 row, .slice A n c] 26)).heap.size = w.heap.size + 1 := by simp
    replace hb0 := hb0.alloc hb0.size (.map #[] 0)
    rw [hz] at hS
    generalize (w.alloc (.cells #[.int .u64 seq, .int .i64 row, .slice A n c] 26)).alloc (.map #[] 0) = w1 at *
    clear hz hmm
    go_loopw [31] (fun i wr => ∃ k : Nat, k ≤ n ∧ i = .int .i64 k ∧ placedF [] ps = placedF (seenL ps k) (ps.drop k) ∧ Seen wr (w.heap.size + 1) k (seenL ps k) ∧ Below w.heap.size w wr) (fun i _ => n - (intOf i).toNat)
    case atStart => exact ⟨0, by omega, rfl, rfl, hS, hb0⟩
    case round =>
      obtain ⟨k, hk, rfl, hpl, hse, hbr⟩ := hrel
      clear hS hb0
      by_cases hlt : k < n
      · obtain ⟨b, o, rfl, hb, hc⟩ := h.2 (by omega)
        obtain ⟨c0, c1, c2⟩ := (hc k hlt).below hbr hb
        have HSN := Lib.hid (seenL_succ ps k (by rw [HL.out]; exact hlt))
        rw [drop_getP ps k (by rw [HL.out]; exact hlt)] at hpl
        generalize ps.getD k prt0 = p at *
        obtain ⟨pc, po, pd⟩ := p
        dsimp only at c0 c1 c2 HSN
        rw [placedF] at hpl
        dsimp only [placeOk] at hpl
        have HF : Hid (((¬ (0 ≤ pc ∧ pc < 10 ∧ 0 ≤ po ∧ po < 4)) ∨ (pc, po) ∈ seenL ps k) → placedF [] ps = false) := Lib.hid (fun h0 => by
          rw [hpl]
          rcases h0 with h0 | h0
          · have : (decide (0 ≤ pc) && decide (pc < 10) && decide (0 ≤ po) && decide (po < 4)) = false := by
              rw [Bool.eq_false_iff]
              intro e
              simp only [Bool.and_eq_true, decide_eq_true_eq] at e
              exact h0 ⟨e.1.1.1, e.1.1.2, e.1.2, e.2⟩
            rw [this]; rfl
          · rw [decide_eq_true h0]; simp)
        have HG : Hid (0 ≤ pc ∧ pc < 10 ∧ 0 ≤ po ∧ po < 4 → (pc, po) ∉ seenL ps k → placedF [] ps = placedF (seenL ps (k + 1)) (ps.drop (k + 1))) := Lib.hid (fun h0 h9 => by
          rw [hpl, decide_eq_true h0.1, decide_eq_true h0.2.1, decide_eq_true h0.2.2.1, decide_eq_true h0.2.2.2, decide_eq_false h9, HSN.out]; rfl)
        clear hpl hc
        have hbb := (hbr.alloc hbr.size (.cells #[.int .i64 pc, .int .i64 po, .string pd] 31)).alloc (by have := hbr.size; simp; omega) (.cells #[.int .i64 pc, .int .i64 po] 77)
        by_cases g1 : pc < 0
        · go_wp2_with fail
          go_ret
          exact ⟨by rw [HF.out (Or.inl (by omega))]; rfl, hbb⟩
        · by_cases g2 : pc ≥ 10
          · go_wp2_with fail
            go_ret
            exact ⟨by rw [HF.out (Or.inl (by omega))]; rfl, hbb⟩
          · by_cases g3 : po < 0
            · go_wp2_with fail
              go_ret
              exact ⟨by rw [HF.out (Or.inl (by omega))]; rfl, hbb⟩
            · by_cases g4 : po ≥ 4
              · go_wp2_with fail
                go_ret
                exact ⟨by rw [HF.out (Or.inl (by omega))]; rfl, hbb⟩
              · have wc := i64ok_small (c := pc) (by omega) (by omega)
                have wo := i64ok_small (c := po) (by omega) (by omega)
                have hlk := ((hse.alloc (.cells #[.int .i64 pc, .int .i64 po, .string pd] 31)).alloc (.cells #[.int .i64 pc, .int .i64 po] 77)).look wc wo
                by_cases g5 : (pc, po) ∈ seenL ps k
                · rw [decide_eq_true g5] at hlk
                  go_wp2_with fail
                  go_ret
                  exact ⟨by rw [HF.out (Or.inr g5)]; rfl, hbb⟩
                · rw [decide_eq_false g5] at hlk
                  have hse2 := (hse.alloc (.cells #[.int .i64 pc, .int .i64 po, .string pd] 31)).alloc (.cells #[.int .i64 pc, .int .i64 po] 77)
                  obtain ⟨D, d1, d2, d3⟩ := hse2
                  have D3 := Lib.hid d3
                  clear d3
                  go_wp2_with (at_mapUpdate; refine wpList_mapUpdate_own _ rfl _ _ _ 76 rfl 77 4 lawPair Try.underlying76 _ (w.heap.size + 1) k D rfl d1 (by unfold maxLen; omega) _ _ _ rfl rfl (pairKey_of wc wo) _ [] (plainElem_bool Try.underlying4 true) ?_; intro w9 hown9 hgrow9)
                  have hse3 := Seen.put wc wo D d2 D3.out hown9
                  have hbe3 := hbb.grown hgrow9 hbb.size (fun j hj => by cases hj; omega)
                  go_roundw
                  case rel => exact ⟨k + 1, by omega, by go_num, HG.out ⟨by omega, by omega, by omega, by omega⟩ g5, by rw [HSN.out]; exact hse3, hbe3⟩
                  case measure => simp [intOf]; go_num
      · obtain rfl : k = n := by omega
        have e : placedF [] ps = true := by rw [hpl, List.drop_of_length_le (by rw [HL.out]; exact Nat.le_refl _)]; rfl
        have HE := Lib.hid e
        clear e hpl
        go_wp2_with fail
        go_ret
        exact ⟨by rw [HE.out]; rfl, hbr⟩
def mayB (row : Int) (ps : List Prt) : Bool := placedB row ps && loadedB ps
set_option maxHeartbeats 1000000 in
theorem may_any (w : World) (seq row : Int) (A : Option Addr) (n c : Nat) (ps : List Prt) (h : PartsA w w.heap.size A n ps) (hn : n ≤ maxLen) :
    Calls Try.prog 9 #[recV seq row A n c] w fun e w' => e = .returned (.bool (mayB row ps)) ∧ Below w.heap.size w w' := by
  have HP := Lib.hid (fun V (h : PartsA V V.heap.size A n ps) => placed_any V seq row A n c ps h hn)
  have HD := Lib.hid (fun V (h : PartsA V V.heap.size A n ps) => loaded_any V seq row A n c ps h hn)
  unfold mayB
  unfold recV at *
  have hb0 := (Below.refl w.heap.size w).alloc (Nat.le_refl _) (.cells #[.int .u64 seq, .int .i64 row, .slice A n c] 26)
  have hB := Blk.new w 26 #[.int .u64 seq, .int .i64 row, .slice A n c]
  have h1 := (h.below hb0).mono hb0.size
  generalize placedB row ps = p at *
  generalize loadedB ps = q at *
  clear h
  cases p
  · go_enter Try.func9, Try.ntmps9
    go_wp2_with fail
    refine (HP.out _ h1).mono ?_
    rintro e W1 ⟨rfl, hb3⟩
    go_wp2_with fail
    go_ret
    exact ⟨rfl, hb0.trans (hb3.mono hb0.size)⟩
  · go_enter Try.func9, Try.ntmps9
    go_wp2_with fail
    refine (HP.out _ h1).mono ?_
    rintro e W1 ⟨rfl, hb3⟩
    have h2 := (h1.below hb3).mono hb3.size
    have hB2 := hB.below hb3 hB.lt
    have hq := hB2.cell
    have hbe := hb0.trans (hb3.mono hb0.size)
    clear hb3 h1 hb0
    go_wp2_with fail
    refine (HD.out _ h2).mono ?_
    rintro e W2 ⟨rfl, hb3⟩
    go_wp2_with fail
    go_ret
    exact ⟨rfl, hbe.trans (hb3.mono hbe.size)⟩
end Go.Proofs.Ythpehdmffleobaa
