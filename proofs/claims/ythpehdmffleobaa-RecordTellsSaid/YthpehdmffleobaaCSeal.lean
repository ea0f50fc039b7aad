/- crc: Sum, bytes, Seal, by what they come to. -/
import Derived.Test.YthpehdmffleobaaB1
import Derived.Test.YthpehdmffleobaaCrcMore
import Derived.Lib.BufferWrite
namespace Go.Proofs.Ythpehdmffleobaa
open Go.RowKit Go.OpenShut

theorem sum_any (w : World) (s : ByteArray) (hs : s.size ≤ maxLen) :
    Calls Try.prog 27 #[.string s] w fun e w' => e = .returned (.int .u32 (cmore 0 s.data.toList : Nat)) ∧ Below w.heap.size w w' := by
  go_enter Try.func27, Try.ntmps27
  go_wp2_with fail
  refine (more_any _ 0 (by omega) s hs).mono ?_
  rintro e w1 ⟨rfl, hb1⟩
  go_wp2
  go_ret
  exact ⟨rfl, hb1⟩

theorem extract_list (s : ByteArray) (n : Nat) : (s.extract 0 n).data.toList = s.data.toList.take n := by
  simp
theorem below5 {w w1 w2 w3 w4 w5 : World} (h1 : Below w.heap.size w w1) (h2 : Below w1.heap.size w1 w2) (h3 : Below w2.heap.size w2 w3) (h4 : Below w3.heap.size w3 w4) (h5 : Below w4.heap.size w4 w5) : Below w.heap.size w w5 :=
  h1.trans ((h2.trans ((h3.trans ((h4.trans (h5.mono h4.size)).mono h3.size)).mono h2.size)).mono h1.size)


def le32 (n : Nat) : List UInt8 := [UInt8.ofNat n, UInt8.ofNat (n / 256), UInt8.ofNat (n / 65536), UInt8.ofNat (n / 16777216)]
theorem le32_length (n : Nat) : (le32 n).length = 4 := rfl
theorem bc_ofNat (n : Nat) : bc (UInt8.ofNat n) = .int .u8 ((n % 256 : Nat) : Int) := by simp [bc]
theorem le32_cells (n : Nat) (hn : n < 4294967296) : (bcs (le32 n)).toArray = #[.int .u8 ((n : Int) % 256), .int .u8 ((n : Int) / 256 % 256), .int .u8 ((n : Int) / 65536 % 256), .int .u8 ((n : Int) / 16777216)] := by
  have e : ((n / 16777216 % 256 : Nat) : Int) = (n : Int) / 16777216 := by omega
  simp only [bcs, le32, List.map_cons, List.map_nil, bc_ofNat, e]
  rfl

theorem bytes_any (w : World) (n : Nat) (hn : n < 4294967296) :
    Calls Try.prog 48 #[.int .u32 n] w fun e w' => e = .returned (.slice (some ⟨w.heap.size, 0, none⟩) 4 4) ∧ w' = w.alloc (.cells (bcs (le32 n)).toArray 5) := by
  have H := Lib.hid (le32_cells n hn)
  go_enter Try.func48, Try.ntmps48
  go_wp2
  go_ret
  refine ⟨rfl, ?_⟩
  rw [H.out]

/-- l, and bytes 0 behind, up to m -/
def padL (l : List UInt8) (m : Nat) : List UInt8 := l ++ List.replicate (m - l.length) 0
theorem padL_length (l : List UInt8) (m : Nat) (h : l.length ≤ m) : (padL l m).length = m := by simp [padL]; omega
def sealL (l : List UInt8) (m : Nat) : List UInt8 := padL l m ++ le32 (cmore 0 (padL l m))
theorem sealL_length (l : List UInt8) (m : Nat) (h : l.length ≤ m) : (sealL l m).length = m + 4 := by simp [sealL, padL_length l m h, le32_length]

set_option maxHeartbeats 1000000 in
theorem seal_yes (w : World) (s : ByteArray) (size n : Nat) (hz : size = n + 4) (h1 : 4 ≤ size) (h3 : size ≤ 4096) (h2 : s.size ≤ n) :
    Calls Try.prog 41 #[.string s, .int .i64 size] w fun e w' => e = .returned (.tuple #[.string ⟨(sealL s.data.toList n).toArray⟩, .bool true]) ∧ Below w.heap.size w w' := by
  have hsub : (size : Int) - 4 = (n : Int) := by omega
  have h2' : (s.size : Int) ≤ (n : Int) := by omega
  have HZ := Lib.hid hz
  have hmk := run_makeB n (by omega)
  have hcp := fun W => run_copyB W 3 (List.replicate n 0) s n (by simp) h2
  have ep : s.data.toList ++ (List.replicate n (0 : UInt8)).drop s.size = padL s.data.toList n := by simp [padL]
  obtain ⟨z, hzz⟩ : ∃ z, List.replicate n (0 : UInt8) = z := ⟨_, rfl⟩
  rw [hzz] at hmk hcp ep
  rw [ep] at hcp
  clear hzz hz
  have hpl : (padL s.data.toList n).length = n := padL_length _ _ (by simpa using h2)
  have hcl := cmore_lt 0 (padL s.data.toList n)
  obtain ⟨p, hp⟩ : ∃ p, padL s.data.toList n = p := ⟨_, rfl⟩
  have hsl : sealL s.data.toList n = p ++ le32 (cmore 0 p) := by unfold sealL; rw [hp]
  have HSL := Lib.hid hsl
  rw [hp] at hcp hpl hcl
  clear hp ep hsl
  have hcv := fun W => (Blk.new W 5 (bcs p).toArray).conv (c := n) hpl
  have HPL := Lib.hid hpl
  have HCL := Lib.hid hcl
  clear hpl hcl
  go_enter Try.func41, Try.ntmps41
  go_wp2_with fail
  clear hmk hcp hcv
  have hbk := Blk.new w 5 (bcs p).toArray
  have hbel := (Below.refl w.heap.size w).alloc (Nat.le_refl _) (.cells (bcs p).toArray 5)
  have hsz : (w.alloc (.cells (bcs p).toArray 5)).heap.size = w.heap.size + 1 := by simp
  generalize w.alloc (.cells (bcs p).toArray 5) = w0 at *
  refine (sum_any _ ⟨p.toArray⟩ (by show Array.size _ ≤ _; rw [List.size_toArray, HPL.out]; unfold maxLen; omega)).mono ?_
  rintro e w1 ⟨rfl, hb1⟩
  replace hbk := hbk.below hb1 (by omega)
  replace hbel := hbel.trans (hb1.mono (by omega))
  clear hb1 hsz
  go_wp2_with fail
  refine (bytes_any _ _ HCL.out).mono ?_
  rintro e w2 ⟨rfl, rfl⟩
  have hbs := Blk.new w1 5 (bcs (le32 (cmore 0 p))).toArray
  replace hbk := hbk.alloc (.cells (bcs (le32 (cmore 0 p))).toArray 5)
  replace hbel := hbel.alloc hbel.size (.cells (bcs (le32 (cmore 0 p))).toArray 5)
  generalize w1.alloc (.cells (bcs (le32 (cmore 0 p))).toArray 5) = w3 at *
  go_wp2_with (at_builtin; refine wp_appB rfl (.tmp 26) (.tmp 30) rfl w.heap.size _ p rfl (hbk.ownB HPL.out (Nat.le_refl _) (by unfold maxLen; omega)) ⟨w1.heap.size, 0, none⟩ 4 4 (le32 (cmore 0 p)) rfl rfl hbs.bcellAdd ?c1 hbel.size ?_; (case c1 => rw [HPL.out]; omega); intro v4 w4 hv4 _ hb4; have hcv4 := hv4.conv)
  go_ret2
  refine ⟨?_, hbel.trans hb4⟩
  rw [HSL.out]
  rfl

theorem seal_no (w : World) (s : ByteArray) (size : Int) (h : size < 4 ∨ 4096 < size ∨ size - 4 < s.size) :
    Calls Try.prog 41 #[.string s, .int .i64 size] w fun e w' => e = .returned (.tuple #[.string ⟨#[]⟩, .bool false]) ∧ w = w' := by
  by_cases h1 : size < 4
  · clear h
    go_enter Try.func41, Try.ntmps41
    go_wp2
    go_ret2
    exact ⟨rfl, rfl⟩
  · by_cases h2 : 4096 < size
    · clear h
      go_enter Try.func41, Try.ntmps41
      go_wp2
      go_ret2
      exact ⟨rfl, rfl⟩
    · have h3 : size - 4 < s.size := by omega
      clear h
      go_enter Try.func41, Try.ntmps41
      go_wp2
      go_ret2
      exact ⟨rfl, rfl⟩
end Go.Proofs.Ythpehdmffleobaa
