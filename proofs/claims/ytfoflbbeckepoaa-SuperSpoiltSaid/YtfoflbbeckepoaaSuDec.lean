/- super.Decode: what it comes to. -/
import Derived.Test.YtfoflbbeckepoaaSuEnc1
import Derived.Test.YtfoflbbeckepoaaPDec
namespace Go.Proofs.Ytfoflbbeckepoaa
open Go.RowKit Go.OpenShut

def Sup.of (ns : List Nat) : Sup := ⟨ns.getD 1 0, ns.getD 2 0, ns.getD 3 0, ns.getD 4 0, ns.getD 5 0, ns.getD 6 0, ((ns.getD 7 0 : Nat) : Int) == 1, ns.getD 8 0, ns.getD 9 0, ns.getD 10 0⟩
def supNs (b : ByteArray) : List Nat := decL ws11 (b.data.toList.take 31)
def supRest (b : ByteArray) (s : Sup) : Sup × Int := if s.may && decide (s.str = b) then (s, 0) else (Sup.zero, 1)
def supDec (b : ByteArray) : Sup × Int :=
  if b.size = 64 then if openB b.data.toList then if (supNs b).getD 0 0 = 827610706 then supRest b (Sup.of (supNs b)) else (Sup.zero, 81) else (Sup.zero, 80) else (Sup.zero, 31)
theorem supNs_len (b : ByteArray) : (supNs b).length = 11 := decL_len _ _
theorem supNs_bd (b : ByteArray) (i : Nat) (hi : i < 11) : (supNs b).getD i 0 < 256 ^ (ws11.getD i 0).toNat := decL_fits ws11 _ i hi
theorem supNs_u (b : ByteArray) (i : Nat) (hi : i < 11) : (supNs b).getD i 0 < 18446744073709551616 := by
  have h := supNs_bd b i hi
  have h8 : 256 ^ (ws11.getD i 0).toNat ≤ 256 ^ 8 := Nat.pow_le_pow_right (by omega) (by
    rcases i with _ | _ | _ | _ | _ | _ | _ | _ | _ | _ | _ | i <;> first | decide | omega)
  have : (256 : Nat) ^ 8 = 18446744073709551616 := by decide
  omega
theorem supNs_s (b : ByteArray) (i : Nat) (hi : i < 8) : (supNs b).getD (i + 3) 0 < 65536 := by
  have h := supNs_bd b (i + 3) (by omega)
  have h8 : 256 ^ (ws11.getD (i + 3) 0).toNat ≤ 256 ^ 2 := Nat.pow_le_pow_right (by omega) (by
    rcases i with _ | _ | _ | _ | _ | _ | _ | _ | i <;> first | decide | omega)
  have : (256 : Nat) ^ 2 = 65536 := by decide
  omega
theorem of_wf (b : ByteArray) : (Sup.of (supNs b)).wf := by
  have h1 := supNs_u b 1 (by omega)
  have h2 := supNs_u b 2 (by omega)
  have h9 : (supNs b).getD 9 0 < 65536 := supNs_s b 6 (by omega)
  constructor <;> simp only [Sup.of] <;> omega

/-- the number's cell j, when k of them are stored -/
def dv (ns : List Nat) (k j : Nat) : Value := .int .i64 (if j < k then ((ns.getD (j + 3) 0 : Nat) : Int) else 0)
def boxC (ns : List Nat) (k : Nat) : Array Value := #[.int .u64 (ns.getD 1 0 : Nat), .int .u64 (ns.getD 2 0 : Nat), dv ns k 0, dv ns k 1, dv ns k 2, dv ns k 3, .bool false, dv ns k 5, dv ns k 6, dv ns k 7]
def clC (ns : List Nat) (k : Nat) : Array Value := #[dv ns k 4]
def newV (ns : List Nat) (k : Nat) : Value := .int .i64 (ns.getD (k + 3) 0 : Nat)

theorem put_part {w : World} {g c : Nat} {t t' : TypeId} {ns : List Nat} (k : Nat) (hk : k < 8) (h : Blk w g t (boxC ns k)) (hc : Blk w c t' (clC ns k)) (hne : g ≠ c) :
    ∃ b o, (pA g (some ⟨c, 0, none⟩)).getD k none = some ⟨b, o, none⟩ ∧ (∃ v, w.cell? ⟨b, o, none⟩ = some v) ∧ w.frozen? ⟨b, o, none⟩ = false ∧ (b = g ∨ b = c) ∧
      Blk (w.setCell ⟨b, o, none⟩ (newV ns k)) g t (boxC ns (k + 1)) ∧ Blk (w.setCell ⟨b, o, none⟩ (newV ns k)) c t' (clC ns (k + 1)) := by
  have q : ∀ i v, (boxC ns k)[i]? = some v → (boxC ns k).setIfInBounds i (newV ns k) = boxC ns (k + 1) → clC ns k = clC ns (k + 1) → ∃ b o, some (⟨g, i, none⟩ : Addr) = some ⟨b, o, none⟩ ∧ (∃ v, w.cell? ⟨b, o, none⟩ = some v) ∧ w.frozen? ⟨b, o, none⟩ = false ∧ (b = g ∨ b = c) ∧
      Blk (w.setCell ⟨b, o, none⟩ (newV ns k)) g t (boxC ns (k + 1)) ∧ Blk (w.setCell ⟨b, o, none⟩ (newV ns k)) c t' (clC ns (k + 1)) := by
    intro i v h1 h2 h3
    refine ⟨g, i, rfl, ⟨v, by rw [h.cell]; exact h1⟩, h.frozen i, Or.inl rfl, ?_, ?_⟩
    · rw [← h2]; exact h.set_ i _
    · rw [← h3]; exact hc.far (Ne.symm hne) _
  have q' : boxC ns k = boxC ns (k + 1) → (clC ns k).setIfInBounds 0 (newV ns k) = clC ns (k + 1) → ∃ b o, some (⟨c, 0, none⟩ : Addr) = some ⟨b, o, none⟩ ∧ (∃ v, w.cell? ⟨b, o, none⟩ = some v) ∧ w.frozen? ⟨b, o, none⟩ = false ∧ (b = g ∨ b = c) ∧
      Blk (w.setCell ⟨b, o, none⟩ (newV ns k)) g t (boxC ns (k + 1)) ∧ Blk (w.setCell ⟨b, o, none⟩ (newV ns k)) c t' (clC ns (k + 1)) := by
    intro h2 h3
    refine ⟨c, 0, rfl, ⟨_, by rw [hc.cell]; rfl⟩, hc.frozen 0, Or.inr rfl, ?_, ?_⟩
    · rw [← h2]; exact h.far hne _
    · rw [← h3]; exact hc.set_ 0 _
  clear h hc
  rcases k with _ | _ | _ | _ | _ | _ | _ | _ | k
  · exact q 2 _ rfl rfl rfl
  · exact q 3 _ rfl rfl rfl
  · exact q 4 _ rfl rfl rfl
  · exact q 5 _ rfl rfl rfl
  · exact q' rfl rfl
  · exact q 7 _ rfl rfl rfl
  · exact q 8 _ rfl rfl rfl
  · exact q 9 _ rfl rfl rfl
  · omega
end Go.Proofs.Ytfoflbbeckepoaa
