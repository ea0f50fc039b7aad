import Derived.Test.YtoaihohfbdfbcaaPackRefE
namespace Go.Proofs.Ytoaihohfbdfbcaa
open Go.RowKit Go.OpenShut

def decX (ws : List Int) (s : ByteArray) : List Int := if decE ws s = 0 then (decL ws s.data.toList).map fun n : Nat => (n : Int) else []
theorem dec_w {ws : List Int} (h : wOK ws = false) (s : ByteArray) : decE ws s = 1 ∧ decX ws s = [] := by
  have e : decE ws s = 1 := by unfold decE; rw [h]; rfl
  exact ⟨e, by unfold decX; rw [e]; rfl⟩
theorem dec_s {ws : List Int} (h : wOK ws = true) {s : ByteArray} (hs : (s.size : Int) ≠ sumW ws) : decE ws s = 31 ∧ decX ws s = [] := by
  have e : decE ws s = 31 := by unfold decE; rw [h, if_pos rfl, if_neg hs]
  exact ⟨e, by unfold decX; rw [e]; rfl⟩
theorem dec_ok {ws : List Int} (h : wOK ws = true) {s : ByteArray} (hs : (s.size : Int) = sumW ws) : decE ws s = 0 ∧ decX ws s = (decL ws s.data.toList).map fun n : Nat => (n : Int) := by
  have e : decE ws s = 0 := by unfold decE; rw [h, if_pos rfl, if_pos hs]
  exact ⟨e, by unfold decX; rw [e]; rfl⟩

theorem decode_any (w : World) (s : ByteArray) (A' : Option Addr) (m c' : Nat) (ws : List Int) (hw : IntsA w w.heap.size .i64 A' m ws) (hm : m ≤ 4294967295) :
    Calls Try.prog 14 #[.string s, .slice A' m c'] w fun e w' => ∃ A n c, e = .returned (.tuple #[.slice A n c, .int .i64 (decE ws s)]) ∧ IntsA w' w'.heap.size .u64 A n (decX ws s) ∧ Below w.heap.size w w' := by
  by_cases h0 : wOK ws = true
  · by_cases h1 : (s.size : Int) = sumW ws
    · rw [(dec_ok h0 h1).1, (dec_ok h0 h1).2]
      refine (decode_ok w s A' m c' ws hw hm h0 h1).mono ?_
      rintro e w' ⟨rfl, hr, hb⟩
      have hbd : ∀ x ∈ ws, 1 ≤ x ∧ x ≤ 8 := by unfold wOK at h0; simp at h0; exact h0.1
      have h3 := decF_eq ws s.data.toList hbd (by rw [← h1]; simp)
      rw [hw.1] at h3
      rw [h3, ivn_ints] at hr
      exact ⟨_, _, _, rfl, IntsA.blk hr (by rw [List.length_map, decL_len]; exact hw.1) hr.lt, hb⟩
    · rw [(dec_s h0 h1).1, (dec_s h0 h1).2]
      refine (decode_short w s A' m c' ws hw hm h0 h1).mono ?_
      rintro e w' ⟨rfl, hb⟩
      exact ⟨_, _, _, rfl, ⟨rfl, fun h => by omega⟩, hb⟩
  · have h0 : wOK ws = false := by simpa using h0
    rw [(dec_w h0 s).1, (dec_w h0 s).2]
    refine (decode_w w s A' m c' ws hw hm h0).mono ?_
    rintro e w' ⟨rfl, hb⟩
    exact ⟨_, _, _, rfl, ⟨rfl, fun h => by omega⟩, hb⟩

theorem leN_snoc (t : List UInt8) (b : UInt8) : leN (t ++ [b]) = leN t + 256 ^ t.length * b.toNat := by
  induction t with
  | nil => simp [leN]
  | cons a t ih =>
    simp only [List.cons_append, leN, ih, List.length_cons, Nat.pow_succ']
    rw [Nat.mul_add, Nat.mul_assoc]
    omega
theorem decL_get : ∀ (ws : List Int) (bs : List UInt8) (k : Nat), (∀ x ∈ ws, 1 ≤ x ∧ x ≤ 8) → k < ws.length → (decL ws bs).getD k 0 = leN ((bs.drop (sumW (ws.take k)).toNat).take (ws.getD k 0).toNat)
  | w :: r, bs, 0, _, _ => by simp [decL, sumW]
  | w :: r, bs, k + 1, h, hk => by
    have h1 := h w (by simp)
    have hr : ∀ x ∈ r, 1 ≤ x ∧ x ≤ 8 := fun y hy => h y (List.mem_cons_of_mem _ hy)
    have h2 := decL_get r (bs.drop w.toNat) k hr (by simpa using hk)
    have h3 := (sumW_bd (r.take k) (fun x hx => hr x (List.mem_of_mem_take hx))).1
    have h4 : (sumW ((w :: r).take (k + 1))).toNat = w.toNat + (sumW (r.take k)).toNat := by
      rw [List.take_succ_cons, sumW_cons]
      omega
    rw [h4, ← List.drop_drop]
    simpa [decL] using h2
theorem sumW_take_le (ws : List Int) (h : ∀ x ∈ ws, 1 ≤ x ∧ x ≤ 8) (k : Nat) : sumW (ws.take k) ≤ sumW ws := by
  have h1 := sumW_append (ws.take k) (ws.drop k)
  rw [List.take_append_drop] at h1
  have h2 := (sumW_bd (ws.drop k) (fun x hx => h x (List.mem_of_mem_drop hx))).1
  omega
theorem take_snocN (l : List Nat) (k : Nat) (h : k < l.length) : l.take (k + 1) = l.take k ++ [l.getD k 0] := by
  rw [List.take_succ_eq_append_getElem h]
  simp [List.getD, h]
/-- one more byte of a number -/
theorem le_step (bs : List UInt8) (T j : Nat) (h : T + j < bs.length) (b : UInt8) (hb : bs[T + j] = b) : leN ((bs.drop T).take j) ||| b.toNat * 256 ^ j = leN ((bs.drop T).take (j + 1)) := by
  have h1 : (bs.drop T).take (j + 1) = (bs.drop T).take j ++ [b] := by
    rw [List.take_succ_eq_append_getElem (by simp; omega)]
    simp [hb]
  have h2 : ((bs.drop T).take j).length = j := by simp; omega
  have h3 := leN_lt ((bs.drop T).take j)
  rw [h2] at h3
  rw [h1, leN_snoc, h2, or_add _ _ _ h3]

def dvs (ws : List Int) (s : ByteArray) (k : Nat) : List Int := ((decL ws s.data.toList).take k).map fun n : Nat => (n : Int)
set_option maxHeartbeats 4000000 in
theorem refDecode_ok (w : World) (s : ByteArray) (A' : Option Addr) (n c' : Nat) (ws : List Int) (hw : IntsA w w.heap.size .i64 A' n ws) (hok : wOK ws = true) (hsz : (s.size : Int) = sumW ws) :
    Calls Try.prog 15 #[.string s, .slice A' n c'] w fun e w' => ∃ A c, e = .returned (.tuple #[.slice A n c, .int .i64 0]) ∧ IntsA w' w'.heap.size .u64 A n (dvs ws s n) ∧ Below w.heap.size w w' := by
  have h1 := (size_yes hok).1
  have h2 := (size_yes hok).2
  have hws : ∀ x ∈ ws, 1 ≤ x ∧ x ≤ 8 := by unfold wOK at hok; simp at hok; exact hok.1
  have hw64 : ws.length ≤ 64 := by unfold wOK at hok; simp at hok; exact hok.2
  have HW := Lib.hid hw.1
  have hn64 : n ≤ 64 := by rw [HW.out] at hw64; exact hw64
  have HWS := Lib.hid hws
  rw [← hsz] at h1
  have HSZ := Lib.hid hsz
  have hb : ((s.size : Int) != (s.size : Int)) = false := by simp
  have hs512 : s.size ≤ 512 := by have := (sumW_bd ws hws).2; omega
  clear hws hw64 hsz hok
  go_enter Try.func15, Try.ntmps15
  go_wp2_with fail
  refine (refSize_any _ A' n c' ws hw).mono ?_
  rintro e w1 ⟨rfl, rfl⟩
  rw [h1, h2]
  clear h1 h2
  go_wp2_with fail
  have ho0 := OwnI.new w w.heap.size 22 .u64 (Nat.le_refl _)
  have hbe0 := (Below.refl w.heap.size w).alloc (Nat.le_refl _) (.cells #[] 22)
  generalize w.alloc (.cells #[] 22) = W at *
  go_loopw [8, 9, 10] (fun v t i wr => ∃ k : Nat, k ≤ n ∧ i = .int .i64 k ∧ t = .int .i64 (sumW (ws.take k)) ∧ OwnI wr w.heap.size 22 .u64 v (dvs ws s k) ∧ Below w.heap.size w wr) (fun _ _ i _ => n - (intOf i).toNat)
  case atStart => exact ⟨0, by omega, rfl, rfl, ho0, hbe0⟩
  case round =>
    obtain ⟨k, hk, rfl, rfl, hv, hbe⟩ := hrel
    have hsW := hbe.size
    generalize wr = W0 at *
    by_cases hlt : k < n
    · obtain ⟨b', off', rfl, hlb', hc'⟩ := hw.2 (by omega)
      have hck' := (hbe.cell (p := ⟨b', off' + k, none⟩) hlb').trans (hc' k hlt)
      have hy : ws.getD k 0 ∈ ws := by
        have : k < ws.length := by rw [HW.out]; exact hlt
        simp [List.getD, this]
      have hyb := HWS.out _ hy
      obtain ⟨y, hye⟩ : ∃ y : Nat, ws.getD k 0 = (y : Int) := ⟨(ws.getD k 0).toNat, by omega⟩
      have hts := take_snocI ws k (by rw [HW.out]; exact hlt)
      rw [hye] at hck' hyb hts
      obtain ⟨T, hT⟩ : ∃ T : Nat, sumW (ws.take k) = (T : Int) := ⟨(sumW (ws.take k)).toNat, by
        have := (sumW_bd (ws.take k) (fun x hx => HWS.out x (List.mem_of_mem_take hx))).1
        omega⟩
      have hsn : sumW (ws.take (k + 1)) = ((T + y : Nat) : Int) := by rw [hts, sumW_snoc, hT]; omega
      have hTy : T + y ≤ s.size := by
        have h3 := sumW_take_le ws HWS.out (k + 1)
        rw [hsn, ← HSZ.out] at h3
        omega
      have hdn : dvs ws s (k + 1) = dvs ws s k ++ [((leN ((s.data.toList.drop T).take y) : Nat) : Int)] := by
        unfold dvs
        rw [take_snocN _ k (by rw [decL_len, HW.out]; exact hlt), decL_get ws _ k HWS.out (by rw [HW.out]; exact hlt), hT, hye]
        simp
      have hdl : (dvs ws s k).length ≤ 64 := by
        unfold dvs
        rw [List.length_map, List.length_take]
        omega
      rw [hT]
      have HSN := Lib.hid hsn
      have HDN := Lib.hid hdn
      clear hc' hy hye hts hT hsn hdn ho0 hbe0
      go_wp2_with fail
      go_loop [11, 12] (fun x j => ∃ i z : Nat, i ≤ y ∧ j = .int .i64 i ∧ x = .int .u64 z ∧ z = leN ((s.data.toList.drop T).take i) ∧ z < 18446744073709551616) (fun _ j => y - (intOf j).toNat)
      case atStart => exact ⟨0, 0, by omega, rfl, rfl, by simp [leN], by omega⟩
      case round =>
        obtain ⟨i, z, hi, rfl, rfl, hz, hzl⟩ := hrel
        have HZ := Lib.hid hz
        clear hz
        by_cases hilt : i < y
        · have hidx : T + i < s.size := by omega
          go_wp2_with fail
          go_round
          case rel =>
            refine ⟨i + 1, z ||| s[T + i].toNat * 256 ^ i, by omega, by go_num, ?_, ?_, or_place_lt _ _ _ hzl (by omega)⟩
            · rw [or_place _ _ _ hzl (by omega)]
            · rw [HZ.out]
              exact le_step _ T i (by simp; omega) _ rfl
          case measure => simp [intOf]; omega
        · obtain rfl : i = y := by omega
          have hbt := (Below.refl w.heap.size W0).alloc hsW (.cells #[.int .u64 (z : Int)] 22)
          go_wp2_with (at_builtin; refine wp_pushI 26 22 .u64 Try.underlying26 info_u64 rfl (.tmp 51) (.tmp 53) rfl w.heap.size _ _ (hv.alloc _) rfl ⟨W0.heap.size, 0, none⟩ 1 z rfl (cell_one _ _ _) (by omega) (by simp; omega) ?_; intro v4 w4 hv4 _ hb4; have hbe4 := hbt.trans hb4; have hck4 := (hbe4.cell (p := ⟨b', off' + k, none⟩) hlb').trans hck')
          go_roundw
          case rel =>
            refine ⟨k + 1, by omega, by go_num, ?_, ?_, hbe.trans hbe4⟩
            · rw [HSN.out]; go_num
            · rw [HDN.out, ← HZ.out]; exact hv4
          case measure => simp [intOf]; omega
    · obtain rfl : k = n := by omega
      obtain ⟨A3, c3, rfl⟩ := hv.shape
      have hdl : (dvs ws s k).length = k := by
        unfold dvs
        rw [List.length_map, List.length_take, decL_len, HW.out]
        omega
      rw [hdl] at hv ⊢
      have hvi := hv.ints
      clear hdl hv
      go_wp2_with fail
      go_ret2
      exact ⟨_, _, rfl, hvi, hbe⟩

theorem dvs_all (ws : List Int) (s : ByteArray) (n : Nat) (h : ws.length = n) : dvs ws s n = (decL ws s.data.toList).map fun n : Nat => (n : Int) := by
  unfold dvs
  rw [List.take_of_length_le (by rw [decL_len, h]; exact Nat.le_refl _)]

set_option maxHeartbeats 1000000 in
theorem refDecode_any (w : World) (s : ByteArray) (A' : Option Addr) (m c' : Nat) (ws : List Int) (hw : IntsA w w.heap.size .i64 A' m ws) :
    Calls Try.prog 15 #[.string s, .slice A' m c'] w fun e w' => ∃ A n c, e = .returned (.tuple #[.slice A n c, .int .i64 (decE ws s)]) ∧ IntsA w' w'.heap.size .u64 A n (decX ws s) ∧ Below w.heap.size w w' := by
  by_cases h0 : wOK ws = true
  · by_cases h1 : (s.size : Int) = sumW ws
    · rw [(dec_ok h0 h1).1, (dec_ok h0 h1).2]
      refine (refDecode_ok w s A' m c' ws hw h0 h1).mono ?_
      rintro e w' ⟨A, c, rfl, hi, hb⟩
      rw [dvs_all ws s m hw.1] at hi
      exact ⟨_, _, _, rfl, hi, hb⟩
    · rw [(dec_s h0 h1).1, (dec_s h0 h1).2]
      have e1 := (size_yes h0).1
      have e2 := (size_yes h0).2
      have hb : ((s.size : Int) != sumW ws) = true := by rw [bne_iff_ne]; exact h1
      generalize sumW ws = N at *
      go_enter Try.func15, Try.ntmps15
      go_wp2_with fail
      refine (refSize_any _ A' m c' ws hw).mono ?_
      rintro e w1 ⟨rfl, rfl⟩
      rw [e1, e2]
      clear e1 e2
      go_wp2_with fail
      go_ret2
      exact ⟨_, _, _, rfl, ⟨rfl, fun h => by omega⟩, Below.refl _ _⟩
  · have h0 : wOK ws = false := by simpa using h0
    rw [(dec_w h0 s).1, (dec_w h0 s).2]
    have e1 := (size_no h0).1
    have e2 := (size_no h0).2
    go_enter Try.func15, Try.ntmps15
    go_wp2_with fail
    refine (refSize_any _ A' m c' ws hw).mono ?_
    rintro e w1 ⟨rfl, rfl⟩
    rw [e1, e2]
    clear e1 e2
    go_wp2_with fail
    go_ret2
    exact ⟨_, _, _, rfl, ⟨rfl, fun h => by omega⟩, Below.refl _ _⟩
end Go.Proofs.Ytoaihohfbdfbcaa
