/- layer 8's shown. -/
import Derived.Test.YtfoflbbeckepoaaSuEnc1
namespace Go.Proofs.Ytfoflbbeckepoaa
open Go.RowKit Go.OpenShut

def supS : Sup := ⟨5, 0, 0, 4, 1, 1, false, 0, 0, 0⟩
theorem supS_wf : supS.wf := by constructor <;> simp [supS]
theorem supS_may : supS.may = true := by decide
theorem supS_len : supS.bytes.length = 64 := sup_bytes_len _ supS_wf (may_small supS_may)
theorem supS_four : supS.bytes.take 4 = [82, 86, 84, 49] := by decide +kernel
theorem shown8_any (w : World) :
    Calls Try.prog 11 #[] w fun e w' => e = .returned (.bool true) ∧ Below w.heap.size w w' := by
  have h0 : supS.str = ⟨supS.bytes.toArray⟩ ∧ supS.err = 0 := by unfold Sup.str Sup.err; rw [supS_may]; exact ⟨rfl, rfl⟩
  have h1 : (ByteArray.mk supS.bytes.toArray).size = 64 := by show Array.size _ = _; rw [List.size_toArray]; exact supS_len
  have h2 : ((ByteArray.mk supS.bytes.toArray).extract 0 4).toList = [82, 86, 84, 49] := by
    rw [Lib.toList_data]
    simp only [ByteArray.data_extract, Array.toList_extract, List.extract_eq_take_drop, List.drop_zero, Nat.sub_zero]
    exact supS_four
  generalize ByteArray.mk supS.bytes.toArray = S at *
  have h3 : ((S.size : Int) == 64) = true := by rw [h1]; rfl
  have h4 : (4 : Int) ≤ (S.size : Int) := by omega
  have h5 : 4 ≤ S.size := by omega
  have H1 := Lib.hid h1
  clear h1
  have h6 : ((S.extract 0 4).toList == [82, 86, 84, 49]) = true := by rw [h2]; rfl
  have H0 := Lib.hid h0
  clear h0 h2
  go_enter Try.func11, Try.ntmps11
  go_wp2_with fail
  refine (supEnc_any _ supS supS_wf).mono ?_
  rintro e w1 ⟨rfl, hb1⟩
  rw [H0.out.1, H0.out.2]
  go_wp2_with fail
  go_ret
  exact ⟨rfl, hb1⟩
end Go.Proofs.Ytfoflbbeckepoaa
