/- texts that are added: what that comes to. -/
import Derived.Test.YthpehdmffleobaaB1
namespace Go.Proofs.Ythpehdmffleobaa
open Go.RowKit Go.OpenShut

def xorL (s t : List UInt8) : List UInt8 := (List.range (max s.length t.length)).map fun i => s.getD i 0 ^^^ t.getD i 0
def xorP (s t : List UInt8) (k : Nat) : List UInt8 := (List.range k).map fun i => s.getD i 0 ^^^ t.getD i 0
theorem xorP_length (s t : List UInt8) (k : Nat) : (xorP s t k).length = k := by simp [xorP]
theorem xorP_snoc (s t : List UInt8) (k : Nat) : xorP s t (k + 1) = xorP s t k ++ [s.getD k 0 ^^^ t.getD k 0] := by simp [xorP, List.range_succ]
theorem xorL_length (s t : List UInt8) : (xorL s t).length = max s.length t.length := by simp [xorL]

theorem xor_u8 (a b : UInt8) : bits BinOp.xor IntKind.u8 (a.toNat : Int) (b.toNat : Int) = ((a ^^^ b).toNat : Int) := by
  rw [u8_xor_nat _ _ a.toNat_lt b.toNat_lt]
  simp

theorem xor_u8_zero (b : UInt8) : bits BinOp.xor IntKind.u8 0 (b.toNat : Int) = (b.toNat : Int) := by
  have h := u8_xor_nat 0 b.toNat (by omega) b.toNat_lt
  rw [Nat.zero_xor] at h
  exact h
theorem data_getD (s : ByteArray) (k : Nat) (h : k < s.size) : s.data.toList.getD k 0 = s[k] := by
  simp [List.getD, h]; rfl
theorem data_getD_out (s : ByteArray) (k : Nat) (h : s.size ≤ k) : s.data.toList.getD k 0 = 0 := by
  simp [List.getD, List.getElem?_eq_none (show s.data.toList.length ≤ k by simpa using h)]
theorem cell_new (w : World) (v : Value) (t : TypeId) : (w.alloc (.cells #[v] t)).cell? ⟨w.heap.size, 0, none⟩ = some v := (Blk.new w t #[v]).cell 0
theorem own_base {w : World} {base : Nat} {v : Value} {l : List UInt8} (h : OwnB w base v l) : ∀ k, v.ownBlock = some k → base ≤ k := fun k hk => (World.ownsRow.lt h k hk).1

end Go.Proofs.Ythpehdmffleobaa
