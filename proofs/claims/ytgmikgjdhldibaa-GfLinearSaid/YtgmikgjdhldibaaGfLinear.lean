import Derived.Test.YtgmikgjdhldibaaGfTimes
namespace Go.Proofs.Ytgmikgjdhldibaa
open Go.RowKit Go.OpenShut

theorem getD_lt {l : List UInt8} {i : Nat} (h : i < l.length) : l.getD i 0 = l[i] := by simp [List.getD, h]
theorem getD_ge {l : List UInt8} {i : Nat} (h : l.length ≤ i) : l.getD i 0 = 0 := by simp [List.getD, List.getElem?_eq_none h]
theorem mulL_len (l : List UInt8) (b : Nat) : (mulL l b).length = l.length := by simp [mulL]
theorem u8_zero_gm (a : Nat) : UInt8.ofNat (gm (0 : UInt8).toNat a) = 0 := by
  rw [show (0 : UInt8).toNat = 0 from rfl, gm_zero_left]
  rfl
theorem mulL_getD (l : List UInt8) (b i : Nat) : (mulL l b).getD i 0 = UInt8.ofNat (gm (l.getD i 0).toNat b) := by
  rcases Nat.lt_or_ge i l.length with h | h
  · rw [getD_lt (by rw [mulL_len]; exact h), getD_lt h]
    simp [mulL]
  · rw [getD_ge (by rw [mulL_len]; exact h), getD_ge h, u8_zero_gm]
theorem list_ext {l m : List UInt8} (h : l.length = m.length) (h2 : ∀ i, i < l.length → l.getD i 0 = m.getD i 0) : l = m := by
  apply List.ext_getElem h
  intro i h3 h4
  have := h2 i h3
  rw [getD_lt h3, getD_lt h4] at this
  exact this
theorem xorL_getD (s t : List UInt8) (i : Nat) : (xorL s t).getD i 0 = s.getD i 0 ^^^ t.getD i 0 := by
  rcases Nat.lt_or_ge i (max s.length t.length) with h | h
  · rw [getD_lt (by rw [xorL_length]; exact h)]
    simp only [xorL, List.getElem_map, List.getElem_range]
  · rw [getD_ge (by rw [xorL_length]; exact h), getD_ge (l := s) (by omega), getD_ge (l := t) (by omega)]
    rfl
theorem u8_xor_nat' (x y : Nat) : UInt8.ofNat (x ^^^ y) = UInt8.ofNat x ^^^ UInt8.ofNat y := UInt8.ofNat_xor x y
theorem lin4 (s t : List UInt8) (a : Nat) (ha : a < 256) : mulL (xorL s t) a = xorL (mulL s a) (mulL t a) := by
  refine list_ext (by rw [mulL_len, xorL_length, xorL_length, mulL_len, mulL_len]) fun i _ => ?_
  rw [mulL_getD, xorL_getD, xorL_getD, mulL_getD, mulL_getD, ← u8_xor_nat']
  have h1 := (s.getD i 0).toNat_lt
  have h2 := (t.getD i 0).toNat_lt
  rw [UInt8.toNat_xor, gm_comm (xor_lt h1 h2) ha, gm_comm h1 ha, gm_comm h2 ha, gm_xor ha h1 h2]
theorem lin5 (s : List UInt8) (a b : Nat) (ha : a < 256) (hb : b < 256) : mulL (mulL s a) b = mulL s (gm a b) := by
  unfold mulL
  rw [List.map_map]
  refine List.map_congr_left fun c _ => ?_
  have h1 := c.toNat_lt
  simp only [Function.comp]
  rw [UInt8.toNat_ofNat_of_lt' (gm_lt h1), ← gm_assoc h1 ha hb]
theorem lin6 (s : List UInt8) (a b : Nat) (ha : a < 256) (hb : b < 256) : xorL (mulL s a) (mulL s b) = mulL s (a ^^^ b) := by
  refine list_ext (by rw [xorL_length, mulL_len, mulL_len, mulL_len, Nat.max_self]) fun i _ => ?_
  rw [xorL_getD, mulL_getD, mulL_getD, mulL_getD, ← u8_xor_nat', gm_xor (s.getD i 0).toNat_lt ha hb]
theorem lin7 (s : List UInt8) : mulL s 1 = s := by
  unfold mulL
  conv => rhs; rw [← List.map_id s]
  refine List.map_congr_left fun c _ => ?_
  rw [gm_one c.toNat_lt]
  simp
theorem lin3 (s t : List UInt8) : (xorL (xorL s t) t).take s.length = s := by
  refine list_ext (by rw [List.length_take, xorL_length, xorL_length]; omega) fun i hi => ?_
  have hi2 : i < s.length := by
    rw [List.length_take] at hi
    omega
  have e : ((xorL (xorL s t) t).take s.length).getD i 0 = (xorL (xorL s t) t).getD i 0 := by
    have h3 : i < (xorL (xorL s t) t).length := by rw [xorL_length, xorL_length]; omega
    rw [getD_lt hi, getD_lt h3]
    simp
  rw [e, xorL_getD, xorL_getD, UInt8.xor_assoc, UInt8.xor_self, UInt8.xor_zero]

def xorS (s t : ByteArray) : ByteArray := ⟨(xorL s.data.toList t.data.toList).toArray⟩
def timesS (s : ByteArray) (b : Nat) : ByteArray := ⟨(mulL s.data.toList b).toArray⟩
theorem xorS_any (w : World) (s t : ByteArray) (hs : s.size ≤ 4294967295) (ht : t.size ≤ 4294967295) :
    Calls Try.prog 18 #[.string s, .string t] w fun e w' => e = .returned (.string (xorS s t)) ∧ Below w.heap.size w w' := xor_any w s t hs ht
theorem timesS_any (w : World) (s : ByteArray) (b : Nat) (hs : s.size ≤ 4294967295) (hb : b < 256) :
    Calls Try.prog 16 #[.string s, .int .u8 b] w fun e w' => e = .returned (.string (timesS s b)) ∧ Below w.heap.size w w' := times_any w s b hs hb
theorem xorS_size (s t : ByteArray) : (xorS s t).size = max s.size t.size := by
  show (xorL s.data.toList t.data.toList).toArray.size = _
  simp [xorL_length]
theorem timesS_size (s : ByteArray) (b : Nat) : (timesS s b).size = s.size := by
  show (mulL s.data.toList b).toArray.size = _
  simp [mulL_len]
theorem eS {s t : ByteArray} (h : s.data.toList = t.data.toList) : s = t := by
  cases s; cases t; simp at h; rw [h]
theorem s3 (s t : ByteArray) : (xorS (xorS s t) t).extract 0 s.size = s := by
  refine eS ?_
  rw [ByteArray.data_extract, Array.toList_extract, List.extract_eq_take_drop, List.drop_zero, Nat.sub_zero]
  have := lin3 s.data.toList t.data.toList
  simpa [xorS] using this
theorem s4 (s t : ByteArray) (a : Nat) (ha : a < 256) : timesS (xorS s t) a = xorS (timesS s a) (timesS t a) := eS (by simpa [xorS, timesS] using lin4 s.data.toList t.data.toList a ha)
theorem s5 (s : ByteArray) (a b : Nat) (ha : a < 256) (hb : b < 256) : timesS (timesS s a) b = timesS s (gm a b) := eS (by simpa [timesS] using lin5 s.data.toList a b ha hb)
theorem s6 (s : ByteArray) (a b : Nat) (ha : a < 256) (hb : b < 256) : xorS (timesS s a) (timesS s b) = timesS s (a ^^^ b) := eS (by simpa [xorS, timesS] using lin6 s.data.toList a b ha hb)
theorem s7 (s : ByteArray) : timesS s 1 = s := eS (by simpa [timesS] using lin7 s.data.toList)

set_option maxHeartbeats 1000000 in
theorem gfLinear_big (w : World) (s t : ByteArray) (a b : Int) (h : 1024 < s.size ∨ 1024 < t.size) :
    Calls Try.prog 8 #[.string s, .string t, .int .u8 a, .int .u8 b] w fun e w' => e = .returned (.bool true) ∧ Below w.heap.size w w' := by
  by_cases h1 : 1024 < s.size
  · clear h
    go_enter Try.func8, Try.ntmps8
    go_wp2_with fail
    refine (shown_any _).mono ?_
    rintro e w2 ⟨rfl, hb2⟩
    go_wp2_with fail
    go_ret
    exact ⟨rfl, hb2⟩
  · have h2 : 1024 < t.size := by omega
    clear h
    go_enter Try.func8, Try.ntmps8
    go_wp2_with fail
    refine (shown_any _).mono ?_
    rintro e w2 ⟨rfl, hb2⟩
    go_wp2_with fail
    go_ret
    exact ⟨rfl, hb2⟩

set_option maxHeartbeats 4000000 in
theorem gfLinear_ok (w : World) (s t : ByteArray) (a b : Nat) (ha : a < 256) (hb : b < 256) (h1 : s.size ≤ 1024) (h2 : t.size ≤ 1024) :
    Calls Try.prog 8 #[.string s, .string t, .int .u8 a, .int .u8 b] w fun e w' => e = .returned (.bool true) ∧ Below w.heap.size w w' := by
  obtain ⟨X, hX⟩ : ∃ X, xorS s t = X := ⟨_, rfl⟩
  obtain ⟨Y, hY⟩ : ∃ Y, xorS X t = Y := ⟨_, rfl⟩
  obtain ⟨U, hU⟩ : ∃ U, timesS s a = U := ⟨_, rfl⟩
  obtain ⟨V, hV⟩ : ∃ V, timesS t a = V := ⟨_, rfl⟩
  obtain ⟨P, hP⟩ : ∃ P, timesS X a = P := ⟨_, rfl⟩
  obtain ⟨Q, hQ⟩ : ∃ Q, timesS U b = Q := ⟨_, rfl⟩
  obtain ⟨R, hR⟩ : ∃ R, timesS s b = R := ⟨_, rfl⟩
  obtain ⟨K, hK⟩ : ∃ K, xorS U R = K := ⟨_, rfl⟩
  obtain ⟨m, hm⟩ : ∃ m, gm a b = m := ⟨_, rfl⟩
  obtain ⟨c, hc, hcl, hce⟩ : ∃ c : Nat, bits BinOp.xor IntKind.u8 (a : Int) (b : Int) = (c : Int) ∧ c < 256 ∧ c = a ^^^ b := ⟨_, xor_u8n a b ha hb, xor_lt ha hb, rfl⟩
  have hml : m < 256 := by rw [← hm]; exact gm_lt ha
  have zX : X.size = max s.size t.size := by rw [← hX, xorS_size]
  have zY : Y.size = X.size := by rw [← hY, xorS_size, zX]; omega
  have zU : U.size = s.size := by rw [← hU, timesS_size]
  have zV : V.size = t.size := by rw [← hV, timesS_size]
  have zR : R.size = s.size := by rw [← hR, timesS_size]
  have e3 : Y.extract 0 s.size = s := by rw [← hY, ← hX, s3]
  have e4 : xorS U V = P := by rw [← hP, ← hX, s4 s t a ha, hU, hV]
  have e5 : timesS s m = Q := by rw [← hQ, ← hU, s5 s a b ha hb, hm]
  have e6 : timesS s c = K := by rw [← hK, ← hU, ← hR, s6 s a b ha hb, hce]
  have HX := Lib.hid hX
  have HY := Lib.hid hY
  have HU := Lib.hid hU
  have HV := Lib.hid hV
  have HP := Lib.hid hP
  have HQ := Lib.hid hQ
  have HR := Lib.hid hR
  have HK := Lib.hid hK
  have HM := Lib.hid hm
  have H4 := Lib.hid e4
  have H5 := Lib.hid e5
  have H6 := Lib.hid e6
  have H7 := Lib.hid (s7 s)
  have ZX : X.size ≤ 1024 := by omega
  have ZU : U.size ≤ 1024 := by omega
  have ZV : V.size ≤ 1024 := by omega
  have ZR : R.size ≤ 1024 := by omega
  have hsY : s.size ≤ Y.size := by omega
  have hq1 : ((X.size : Int) == max (s.size : Int) (t.size : Int)) = true := by rw [zX, beq_iff_eq]; omega
  have hq2 : ((Y.size : Int) == (X.size : Int)) = true := by rw [zY]; simp
  have hbe1 := Below.refl w.heap.size w
  clear hX hY hU hV hP hQ hR hK hm e4 e5 e6 zX zY zU zV zR hce
  go_enter Try.func8, Try.ntmps8
  go_wp2_with fail
  refine (shown_any _).mono ?_
  rintro e w2 ⟨rfl, hb2⟩
  have hbe2 := hbe1.trans (hb2.mono hbe1.size)
  clear hbe1 hb2
  go_wp2_with fail
  refine (xorS_any _ s t (by omega) (by omega)).mono ?_
  rintro e w3 ⟨rfl, hb3⟩
  have hbe3 := hbe2.trans (hb3.mono hbe2.size)
  clear hbe2 hb3
  rw [HX.out]
  go_wp2_with fail
  refine (xorS_any _ X t (by omega) (by omega)).mono ?_
  rintro e w4 ⟨rfl, hb4⟩
  have hbe4 := hbe3.trans (hb4.mono hbe3.size)
  clear hbe3 hb4
  rw [HY.out]
  go_wp2_with fail
  refine (timesS_any _ X a (by omega) ha).mono ?_
  rintro e w5 ⟨rfl, hb5⟩
  have hbe5 := hbe4.trans (hb5.mono hbe4.size)
  clear hbe4 hb5
  rw [HP.out]
  go_wp2_with fail
  refine (timesS_any _ s a (by omega) ha).mono ?_
  rintro e w6 ⟨rfl, hb6⟩
  have hbe6 := hbe5.trans (hb6.mono hbe5.size)
  clear hbe5 hb6
  rw [HU.out]
  go_wp2_with fail
  refine (timesS_any _ t a (by omega) ha).mono ?_
  rintro e w7 ⟨rfl, hb7⟩
  have hbe7 := hbe6.trans (hb7.mono hbe6.size)
  clear hbe6 hb7
  rw [HV.out]
  go_wp2_with fail
  refine (xorS_any _ U V (by omega) (by omega)).mono ?_
  rintro e w8 ⟨rfl, hb8⟩
  have hbe8 := hbe7.trans (hb8.mono hbe7.size)
  clear hbe7 hb8
  rw [H4.out]
  go_wp2_with fail
  refine (timesS_any _ s a (by omega) ha).mono ?_
  rintro e w9 ⟨rfl, hb9⟩
  have hbe9 := hbe8.trans (hb9.mono hbe8.size)
  clear hbe8 hb9
  rw [HU.out]
  go_wp2_with fail
  refine (timesS_any _ U b (by omega) hb).mono ?_
  rintro e w10 ⟨rfl, hb10⟩
  have hbe10 := hbe9.trans (hb10.mono hbe9.size)
  clear hbe9 hb10
  rw [HQ.out]
  go_wp2_with fail
  refine (mul_any _ a b ha hb).mono ?_
  rintro e wm ⟨rfl, rfl⟩
  rw [HM.out]
  go_wp2_with fail
  refine (timesS_any _ s m (by omega) hml).mono ?_
  rintro e w11 ⟨rfl, hb11⟩
  have hbe11 := hbe10.trans (hb11.mono hbe10.size)
  clear hbe10 hb11
  rw [H5.out]
  go_wp2_with fail
  refine (timesS_any _ s a (by omega) ha).mono ?_
  rintro e w12 ⟨rfl, hb12⟩
  have hbe12 := hbe11.trans (hb12.mono hbe11.size)
  clear hbe11 hb12
  rw [HU.out]
  go_wp2_with fail
  refine (timesS_any _ s b (by omega) hb).mono ?_
  rintro e w13 ⟨rfl, hb13⟩
  have hbe13 := hbe12.trans (hb13.mono hbe12.size)
  clear hbe12 hb13
  rw [HR.out]
  go_wp2_with fail
  refine (xorS_any _ U R (by omega) (by omega)).mono ?_
  rintro e w14 ⟨rfl, hb14⟩
  have hbe14 := hbe13.trans (hb14.mono hbe13.size)
  clear hbe13 hb14
  rw [HK.out]
  go_wp2_with fail
  refine (timesS_any _ s c (by omega) hcl).mono ?_
  rintro e w15 ⟨rfl, hb15⟩
  have hbe15 := hbe14.trans (hb15.mono hbe14.size)
  clear hbe14 hb15
  rw [H6.out]
  go_wp2_with fail
  refine (timesS_any _ s 1 (by omega) (by omega)).mono ?_
  rintro e w16 ⟨rfl, hb16⟩
  have hbe16 := hbe15.trans (hb16.mono hbe15.size)
  clear hbe15 hb16
  rw [H7.out]
  go_wp2_with fail
  go_ret
  exact ⟨rfl, hbe16⟩

theorem gfLinear_walk (s t : ByteArray) (a b : Int) (_hs : s.size ≤ maxLen) (_ht : t.size ≤ maxLen) (ha : (Lit.int .u8 a).wf = true) (hb : (Lit.int .u8 b).wf = true) (w : World) :
    Calls Try.prog 8 #[.string s, .string t, .int .u8 a, .int .u8 b] w fun e w' => e = .returned (.bool true) ∧ Below w.heap.size w w' := by
  have h1 := bounds_u8 ha
  have h2 := bounds_u8 hb
  obtain ⟨x, rfl⟩ := Int.eq_ofNat_of_zero_le h1.1
  obtain ⟨y, rfl⟩ := Int.eq_ofNat_of_zero_le h2.1
  by_cases h : 1024 < s.size ∨ 1024 < t.size
  · exact gfLinear_big w s t x y h
  · exact gfLinear_ok w s t x y (by omega) (by omega) (by omega) (by omega)
end Go.Proofs.Ytgmikgjdhldibaa
