/- Parts of a record: slices of structs of three cells. -/
import Derived.Test.YthpehdmffleobaaB1
namespace Go.Proofs.Ythpehdmffleobaa
open Go.RowKit Go.OpenShut

structure Prt where
  col : Int
  off : Int
  data : ByteArray
def prt0 : Prt := ⟨0, 0, ⟨#[]⟩⟩
def Prt.cells (p : Prt) : List Value := [.int .i64 p.col, .int .i64 p.off, .string p.data]
def Prt.v (p : Prt) : Value := .agg #[.int .i64 p.col, .int .i64 p.off, .string p.data]
/-- the cells of part j -/
def PAt (w : World) (b o j : Nat) (p : Prt) : Prop :=
  w.cell? ⟨b, o + j * 3, none⟩ = some (.int .i64 p.col) ∧ w.cell? ⟨b, o + j * 3 + 1, none⟩ = some (.int .i64 p.off) ∧ w.cell? ⟨b, o + j * 3 + 2, none⟩ = some (.string p.data)
/-- a slice of parts that can be read, below block B -/
def PartsA (w : World) (B : Nat) (A : Option Addr) (n : Nat) (ps : List Prt) : Prop :=
  ps.length = n ∧ (0 < n → ∃ b o, A = some ⟨b, o, none⟩ ∧ b < B ∧ ∀ j, j < n → PAt w b o j (ps.getD j prt0))
section
variable {w w' : World} {B B' n : Nat} {A : Option Addr} {ps : List Prt}
theorem PAt.below {b o j : Nat} {p : Prt} (h : PAt w b o j p) (hB : Below B w w') (hb : b < B) : PAt w' b o j p :=
  ⟨(hB.cell (p := ⟨b, o + j * 3, none⟩) hb).trans h.1, (hB.cell (p := ⟨b, o + j * 3 + 1, none⟩) hb).trans h.2.1, (hB.cell (p := ⟨b, o + j * 3 + 2, none⟩) hb).trans h.2.2⟩
theorem PartsA.below (h : PartsA w B A n ps) (hb : Below B w w') : PartsA w' B A n ps :=
  ⟨h.1, fun hn => by
    obtain ⟨b, o, e, hlt, hc⟩ := h.2 hn
    exact ⟨b, o, e, hlt, fun j hj => (hc j hj).below hb hlt⟩⟩
theorem PartsA.mono (h : PartsA w B A n ps) (hB : B ≤ B') : PartsA w B' A n ps :=
  ⟨h.1, fun hn => by
    obtain ⟨b, o, e, hlt, hc⟩ := h.2 hn
    exact ⟨b, o, e, Nat.lt_of_lt_of_le hlt hB, hc⟩⟩
theorem PartsA.drew (h : PartsA w B A n ps) : PartsA w.drew B A n ps := h
theorem PartsA.none_ : PartsA w B none 0 [] := ⟨rfl, fun h => by omega⟩
end

/-- a record as a value -/
def recV (seq row : Int) (A : Option Addr) (n c : Nat) : Value := .agg #[.int .u64 seq, .int .i64 row, .slice A n c]

def loadedB (ps : List Prt) : Bool := ps.all fun p => decide (p.data.size = 64)
theorem allP {q : Prt → Bool} (ps : List Prt) : ps.all q = true ↔ ∀ j, j < ps.length → q (ps.getD j prt0) = true := by
  rw [List.all_eq_true]
  constructor
  · intro h j hj
    have e : ps.getD j prt0 = ps[j] := by simp [List.getD, hj]
    rw [e]
    exact h _ (List.getElem_mem hj)
  · intro h x hx
    obtain ⟨j, hj, rfl⟩ := List.mem_iff_getElem.1 hx
    have e : ps.getD j prt0 = ps[j] := by simp [List.getD, hj]
    rw [← e]
    exact h j hj
set_option maxHeartbeats 1000000 in
theorem loaded_any (w : World) (seq row : Int) (A : Option Addr) (n c : Nat) (ps : List Prt) (h : PartsA w w.heap.size A n ps) (hn : n ≤ maxLen) :
    Calls Try.prog 25 #[recV seq row A n c] w fun e w' => e = .returned (.bool (loadedB ps)) ∧ Below w.heap.size w w' := by
  unfold recV
  unfold maxLen at hn
  go_enter Try.func25, Try.ntmps25
  go_wp2_with fail
  have hb0 := (Below.refl w.heap.size w).alloc (Nat.le_refl _) (.cells #[.int .u64 seq, .int .i64 row, .slice A n c] 26)
  generalize w.alloc (.cells #[.int .u64 seq, .int .i64 row, .slice A n c] 26) = w1 at *
  go_loopw [8] (fun i wr => ∃ k : Nat, k ≤ n ∧ i = .int .i64 k ∧ (∀ j, j < k → (ps.getD j prt0).data.size = 64) ∧ Below w.heap.size w wr) (fun i _ => n - (intOf i).toNat)
  case atStart => exact ⟨0, by omega, rfl, fun j hj => by omega, hb0⟩
  case round =>
    obtain ⟨k, hk, rfl, hall, hbr⟩ := hrel
    have HA := Lib.hid hall
    clear hall
    by_cases hlt : k < n
    · obtain ⟨b, o, rfl, hb, hc⟩ := h.2 (by omega)
      obtain ⟨c0, c1, c2⟩ := (hc k hlt).below hbr hb
      have HP := Lib.hid (fun j (hj : j < k + 1) (h0 : (ps.getD k prt0).data.size = 64) => show (ps.getD j prt0).data.size = 64 by
        by_cases e : j = k
        · rw [e]; exact h0
        · exact HA.out j (by omega))
      have HF : Hid ((ps.getD k prt0).data.size ≠ 64 → loadedB ps = false) := Lib.hid (fun h0 => by
        rw [Bool.eq_false_iff]
        intro e
        exact h0 (by simpa using (allP ps).1 e k (by rw [h.1]; exact hlt)))
      generalize ps.getD k prt0 = p at *
      obtain ⟨pc, po, pd⟩ := p
      dsimp only at c0 c1 c2 HP HF
      clear hc
      by_cases h0 : pd.size = 64
      · have e1 : ((pd.size : Int) != 64) = false := by rw [h0]; rfl
        have hbe := hbr.alloc hbr.size (.cells #[.int .i64 pc, .int .i64 po, .string pd] 31)
        go_wp2_with fail
        go_roundw
        case rel => exact ⟨k + 1, by omega, by go_num, fun j hj => HP.out j hj h0, hbe⟩
        case measure => simp [intOf]; go_num
      · have e1 : ((pd.size : Int) != 64) = true := by rw [bne_iff_ne]; omega
        have hbe := hbr.alloc hbr.size (.cells #[.int .i64 pc, .int .i64 po, .string pd] 31)
        go_wp2_with fail
        go_ret
        exact ⟨by rw [HF.out h0]; rfl, hbe⟩
    · obtain rfl : k = n := by omega
      have e : loadedB ps = true := (allP ps).2 (fun j hj => by
        have h1 := HA.out j (by rw [h.1] at hj; exact hj)
        simpa using h1)
      have HE := Lib.hid e
      clear e
      go_wp2_with fail
      go_ret
      exact ⟨by rw [HE.out]; rfl, hbr⟩
end Go.Proofs.Ythpehdmffleobaa
