/- revetmentlaw12's shown. -/
import Derived.Test.YthpehdmffleobaaRcEnc
import Derived.Test.YthpehdmffleobaaRcSome
import Derived.Test.YthpehdmffleobaaRcTexts
namespace Go.Proofs.Ythpehdmffleobaa
open Go.RowKit Go.OpenShut

theorem headL_len (seq row : Int) (sum : Nat) (ps : List Prt) (h1 : 0 ≤ seq ∧ seq < 18446744073709551616) (h2 : 0 ≤ row ∧ row < 256) (h3 : ps.length ≤ 40) (h4 : sum < 4294967296) : (headL seq row sum ps).length = 19 + ps.length := by
  unfold headL
  rw [List.length_append, headF_len seq row ps.length sum h1 h2 h3 h4, List.length_map]
theorem headB_len (seq row : Int) (sum : Nat) (ps : List Prt) (h1 : 0 ≤ seq ∧ seq < 18446744073709551616) (h2 : 0 ≤ row ∧ row < 256) (h3 : ps.length ≤ 40) (h4 : sum < 4294967296) : (headB seq row sum ps).length = 64 := by
  unfold headB
  rw [sealL_length _ _ (by rw [headL_len seq row sum ps h1 h2 h3 h4]; omega)]
theorem headB_take (seq row : Int) (sum : Nat) (ps : List Prt) : (headB seq row sum ps).take 4 = [82, 86, 84, 74] := by
  unfold headB sealL padL headL headF
  simp
def smallR : List Prt := someL 0 [⟨#[97]⟩, ⟨#[98]⟩] 2
theorem smallR_may : mayB 3 smallR = true := by decide +kernel
theorem smallR_load : loadS smallR = [⟨(fullL [97]).toArray⟩, ⟨(fullL [98]).toArray⟩] := rfl
set_option maxHeartbeats 4000000 in
theorem shown12_any (w : World) :
    Calls Try.prog 10 #[] w fun e w' => e = .returned (.bool true) ∧ Below w.heap.size w w' := by
  have HSM := Lib.hid smallR_may
  have HSL := Lib.hid smallR_load
  have hsum : recSum smallR < 4294967296 := cmore_lt _ _
  have HBL := Lib.hid (headB_len 5 3 (recSum smallR) smallR (by omega) (by omega) (by decide) hsum)
  have HBT := Lib.hid (headB_take 5 3 (recSum smallR) smallR)
  clear hsum
  go_enter Try.func10, Try.ntmps10
  go_wp2_with fail
  have hN := Blk.new w 9 ([⟨#[97]⟩, ⟨#[98]⟩].map Value.string).toArray
  have hbe := (Below.refl w.heap.size w).alloc (Nat.le_refl _) (.cells ([⟨#[97]⟩, ⟨#[98]⟩].map Value.string).toArray 9)
  simp only [List.map_cons, List.map_nil] at hN hbe
  generalize w.alloc (.cells #[.string ⟨#[97]⟩, .string ⟨#[98]⟩] 9) = w0 at *
  have hS := some_any w0 5 3 0 (by omega) (by omega) _ 2 2 [⟨#[97]⟩, ⟨#[98]⟩] (StrsA.blk hN rfl hN.lt) (by decide) (by decide)
  rw [show min 2 40 = 2 from rfl, show someL 0 [⟨#[97]⟩, ⟨#[98]⟩] 2 = smallR from rfl] at hS
  generalize smallR = P at *
  refine hS.mono ?_
  rintro e w1 ⟨A1, c1, rfl, hc1, hc1m, hA1, hP, hb1⟩
  replace hbe := hbe.trans (hb1.mono hbe.size)
  clear hb1 hN hS
  go_wp2_with fail
  refine (encode12_yes w1 5 3 A1 2 c1 P hP (by decide) HSM.out (by omega)).mono ?_
  rintro e w2 ⟨A2, c2, rfl, hc2, hc2m, hA2, hL, hb2⟩
  replace hbe := hbe.trans (hb2.mono hbe.size)
  have HBS : Hid ((⟨(headB 5 3 (recSum P) P).toArray⟩ : ByteArray).size = 64) := Lib.hid (by rw [szMk, HBL.out])
  have HB4 : Hid ((⟨(headB 5 3 (recSum P) P).toArray⟩ : ByteArray).extract 0 4 = ⟨#[82, 86, 84, 74]⟩) := Lib.hid (by
    refine eqOf ?_
    rw [← Lib.toList_data, Lib.extract_toList]
    simp [HBT.out])
  clear hb2 HBL HBT
  generalize (⟨(headB 5 3 (recSum P) P).toArray⟩ : ByteArray) = H at *
  have hbs := HBS.out
  go_wp2_with fail
  have F1 := Lib.hid (fun V => full_any V ⟨#[97]⟩ (by decide))
  have F2 := Lib.hid (fun V => full_any V ⟨#[98]⟩ (by decide))
  rw [show (⟨#[97]⟩ : ByteArray).data.toList = [97] from rfl] at F1
  rw [show (⟨#[98]⟩ : ByteArray).data.toList = [98] from rfl] at F2
  generalize (⟨(fullL [97]).toArray⟩ : ByteArray) = f1 at *
  generalize (⟨(fullL [98]).toArray⟩ : ByteArray) = f2 at *
  have hx4 := HB4.out
  refine (F1.out _).mono ?_
  rintro e w3 ⟨rfl, rfl⟩
  go_wp2_with fail
  refine (F2.out _).mono ?_
  rintro e w3 ⟨rfl, rfl⟩
  go_wp2_with fail
  have hN := Blk.new w2 9 ([f1, f2].map Value.string).toArray
  have hal := (Below.refl w2.heap.size w2).alloc (Nat.le_refl _) (.cells ([f1, f2].map Value.string).toArray 9)
  simp only [List.map_cons, List.map_nil] at hN hal
  replace hL := (hL.below hal).mono hal.size
  replace hbe := hbe.trans (hal.mono hbe.size)
  clear hal
  generalize w2.alloc (.cells #[.string f1, .string f2] 9) = w4 at *
  refine (texts_any w4 A2 _ 2 c2 2 2 (loadS P) [f1, f2] hL (StrsA.blk hN rfl hN.lt) (by decide)).mono ?_
  rintro e w5 ⟨rfl, hb5⟩
  rw [HSL.out, decide_eq_true rfl]
  replace hbe := hbe.trans (hb5.mono hbe.size)
  clear hb5 hN
  go_wp2_with fail
  go_ret
  exact ⟨rfl, hbe⟩
end Go.Proofs.Ythpehdmffleobaa
