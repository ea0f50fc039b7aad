/- pack, the document's: Fits, Size, Encode, Decode. -/
import Derived.Test.YthpehdmffleobaaPDec
import Derived.Test.YthpehdmffleobaaNF
namespace Go.Proofs.Ythpehdmffleobaa
open Go.RowKit Go.OpenShut

set_option maxHeartbeats 1000000 in
theorem refFits_any (w : World) (n : Nat) (hn : n < 18446744073709551616) (x : Int) :
    Calls Try.prog 59 #[.int .u64 n, .int .i64 x] w fun e w' => e = .returned (.bool (fitsB n x)) ∧ w = w' := by
  by_cases h0 : x < 1
  · have hf : fitsB n x = false := by unfold fitsB; rw [decide_eq_false (by omega)]; rfl
    rw [hf]
    clear hf
    go_enter Try.func59, Try.ntmps59
    go_wp2_with fail
    go_ret
    exact ⟨rfl, rfl⟩
  · by_cases h8 : 8 < x
    · have hf : fitsB n x = false := by unfold fitsB; rw [decide_eq_false (by omega)]; rfl
      rw [hf]
      clear hf
      go_enter Try.func59, Try.ntmps59
      go_wp2_with fail
      go_ret
      exact ⟨rfl, rfl⟩
    · obtain ⟨m, rfl⟩ := Int.eq_ofNat_of_zero_le (show 0 ≤ x by omega)
      have hf : ∀ z : Nat, z = n / 256 ^ m → ((z : Int) == 0) = fitsB n (m : Int) := fun z hz => by
        rw [← fits_eq n m (by omega) (by omega), hz]
        congr 1
      have HF := Lib.hid hf
      clear hf
      go_enter Try.func59, Try.ntmps59
      go_wp2_with fail
      go_loop [0, 5] (fun v i => ∃ k z : Nat, k ≤ m ∧ i = .int .i64 k ∧ v = .int .u64 z ∧ z = n / 256 ^ k ∧ z < 18446744073709551616) (fun _ i => m - (intOf i).toNat)
      case atStart => exact ⟨0, n, by omega, rfl, rfl, by simp, hn⟩
      case round =>
        obtain ⟨k, z, hk, rfl, rfl, hz, hzl⟩ := hrel
        have HZ := Lib.hid hz
        clear hz
        by_cases hlt : k < m
        · obtain ⟨z', hd, hz'⟩ : ∃ z' : Nat, (z : Int) / 256 = (z' : Int) ∧ z' = z / 256 := ⟨z / 256, by omega, rfl⟩
          have HZ' := Lib.hid hz'
          clear hz'
          go_wp2_with fail
          go_round
          case rel => exact ⟨k + 1, z', by omega, by go_num, rfl, by rw [HZ'.out, HZ.out, Nat.pow_succ, Nat.div_div_eq_div_mul], by rw [HZ'.out]; omega⟩
          case measure => simp [intOf]; omega
        · obtain rfl : k = m := by omega
          go_wp2_with fail
          go_ret
          exact ⟨ret_bool (HF.out z HZ.out), rfl⟩

set_option maxHeartbeats 1000000 in
theorem refSize_any (w : World) (A : Option Addr) (n c : Nat) (ws : List Int) (h : IntsA w w.heap.size .i64 A n ws) :
    Calls Try.prog 53 #[.slice A n c] w fun e w' => e = .returned (.tuple #[.int .i64 (sizeN ws), .int .i64 (sizeE ws)]) ∧ w = w' := by
  have HL := Lib.hid h.1
  by_cases h64 : 64 < n
  · have hno : wOK ws = false := by
      unfold wOK
      rw [Bool.and_eq_false_iff]
      right
      rw [HL.out]
      simpa using h64
    rw [(size_no hno).1, (size_no hno).2]
    clear hno
    go_enter Try.func53, Try.ntmps53
    go_wp2_with fail
    go_ret2
    exact ⟨rfl, rfl⟩
  · go_enter Try.func53, Try.ntmps53
    go_wp2_with fail
    go_loop [4, 5] (fun t i => ∃ k : Nat, k ≤ n ∧ i = .int .i64 k ∧ t = .int .i64 (sumW (ws.take k)) ∧ (∀ x ∈ ws.take k, 1 ≤ x ∧ x ≤ 8)) (fun _ i => n - (intOf i).toNat)
    case atStart => exact ⟨0, by omega, rfl, rfl, by simp⟩
    case round =>
      obtain ⟨k, hk, rfl, rfl, hall⟩ := hrel
      have hbd := sumW_bd _ hall
      have hlt' : (ws.take k).length ≤ k := List.length_take_le _ _
      have hb0 : 0 ≤ sumW (ws.take k) := by omega
      have hb1 : sumW (ws.take k) ≤ 34359738360 := by omega
      by_cases hlt : k < n
      · obtain ⟨b, off, rfl, _, hc⟩ := h.2 (by omega)
        have hck := hc k hlt
        have hts := take_snocI ws k (by rw [HL.out]; exact hlt)
        have HTS := Lib.hid hts
        have hx : ws.getD k 0 ∈ ws := by
          have : k < ws.length := by rw [HL.out]; exact hlt
          simp [List.getD, this]
        obtain ⟨x, hxe⟩ : ∃ x, ws.getD k 0 = x := ⟨_, rfl⟩
        have HX := Lib.hid hxe
        rw [hxe] at hck hx
        have HM := Lib.hid hx
        obtain ⟨t, ht⟩ : ∃ t, sumW (ws.take k) = t := ⟨_, rfl⟩
        have HT := Lib.hid ht
        rw [ht] at hb0 hb1 ⊢
        clear hc hbd hts hxe hx hlt' ht
        have HA := Lib.hid hall
        clear hall
        by_cases hr : 1 ≤ x ∧ x ≤ 8
        · obtain ⟨hr1, hr2⟩ := hr
          have hx1 : ¬ x < 1 := by omega
          have hx8 : ¬ 8 < x := by omega
          go_wp2_with fail
          go_round
          case rel =>
            refine ⟨k + 1, by omega, by go_num, ?_, ?_⟩
            · rw [HTS.out, sumW_snoc, HT.out, HX.out]
            · rw [HTS.out, HX.out]
              intro y hy
              rcases List.mem_append.1 hy with hy | hy
              · exact HA.out y hy
              · simp at hy
                subst hy
                exact ⟨hr1, hr2⟩
          case measure => simp [intOf]; omega
        · have hno : wOK ws = false := by
            unfold wOK
            rw [Bool.and_eq_false_iff]
            left
            rw [List.all_eq_false]
            exact ⟨x, HM.out, by simpa using fun h1 => by omega⟩
          have HNO := Lib.hid hno
          clear hno
          by_cases hx1 : x < 1
          · clear hr
            go_wp2_with fail
            go_ret2
            exact ⟨by rw [(size_no HNO.out).1, (size_no HNO.out).2]; rfl, rfl⟩
          · have hx8 : 8 < x := by omega
            clear hr
            go_wp2_with fail
            go_ret2
            exact ⟨by rw [(size_no HNO.out).1, (size_no HNO.out).2]; rfl, rfl⟩
      · obtain rfl : k = n := by omega
        have hta : ws.take k = ws := List.take_of_length_le (by rw [HL.out]; omega)
        rw [hta] at hall hb0 hb1 ⊢
        have hok : wOK ws = true := by
          unfold wOK
          rw [List.all_eq_true.2 (fun x hx => by simpa using hall x hx), decide_eq_true (by rw [HL.out]; omega)]
          rfl
        have HOK := Lib.hid hok
        clear hok hall hta
        go_wp2_with fail
        go_ret2
        exact ⟨by rw [(size_yes HOK.out).1, (size_yes HOK.out).2]; rfl, rfl⟩
set_option maxHeartbeats 400000 in
theorem refEncode_w (w : World) (A A' : Option Addr) (n c m c' : Nat) (ws : List Int) (hw : IntsA w w.heap.size .i64 A' m ws) (hno : wOK ws = false) :
    Calls Try.prog 45 #[.slice A n c, .slice A' m c'] w fun e w' => e = .returned (.tuple #[.string ⟨#[]⟩, .int .i64 1]) ∧ Below w.heap.size w w' := by
  have h1 := (size_no hno).1
  have h2 := (size_no hno).2
  go_enter Try.func45, Try.ntmps45
  go_wp2_with fail
  refine (refSize_any _ A' m c' ws hw).mono ?_
  rintro e w1 ⟨rfl, rfl⟩
  rw [h1, h2]
  clear h1 h2
  go_wp2_with fail
  go_ret2
  exact ⟨rfl, Below.refl _ _⟩

set_option maxHeartbeats 400000 in
theorem refEncode_l (w : World) (A A' : Option Addr) (n c m c' : Nat) (ws : List Int) (hw : IntsA w w.heap.size .i64 A' m ws) (hok : wOK ws = true) (hne : n ≠ m) :
    Calls Try.prog 45 #[.slice A n c, .slice A' m c'] w fun e w' => e = .returned (.tuple #[.string ⟨#[]⟩, .int .i64 1]) ∧ Below w.heap.size w w' := by
  have h1 := (size_yes hok).1
  have h2 := (size_yes hok).2
  have hb : ((n : Int) != (m : Int)) = true := by rw [bne_iff_ne]; omega
  go_enter Try.func45, Try.ntmps45
  go_wp2_with fail
  refine (refSize_any _ A' m c' ws hw).mono ?_
  rintro e w1 ⟨rfl, rfl⟩
  rw [h1, h2]
  clear h1 h2
  go_wp2_with fail
  go_ret2
  exact ⟨rfl, Below.refl _ _⟩

def plB (ls ws : List Int) (i k : Nat) : List UInt8 := (placesP ws i k).map (encByte ls)
theorem plB_next (ls ws : List Int) (i k q : Nat) (h : (ls.getD i 0).toNat / 256 ^ k = q) : plB ls ws i (k + 1) = plB ls ws i k ++ [UInt8.ofNat q] := by
  unfold plB
  rw [placesP_next, List.map_append]
  simp only [List.map_cons, List.map_nil, encByte, h]
theorem plB_over (ls ws : List Int) (i y : Nat) (h : i < ws.length) (hy : ws.getD i 0 = (y : Int)) : plB ls ws i y = plB ls ws (i + 1) 0 := by
  unfold plB
  rw [← placesP_over ws i h, hy, Int.toNat_natCast]
theorem plB_len (ls ws : List Int) (hws : ∀ x ∈ ws, 1 ≤ x ∧ x ≤ 8) (i k : Nat) (hk : k ≤ 8) (hl : ws.length ≤ 64) : (plB ls ws i k).length ≤ 520 := by
  unfold plB placesP
  rw [List.length_map, List.length_append, List.length_map, List.length_range]
  have h1 := placesF_length 0 (ws.take i) (fun x hx => hws x (List.mem_of_mem_take hx))
  have h2 := (sumW_bd (ws.take i) (fun x hx => hws x (List.mem_of_mem_take hx))).2
  have h3 : (ws.take i).length ≤ 64 := Nat.le_trans (by rw [List.length_take]; omega) hl
  omega

set_option maxHeartbeats 4000000 in
theorem refEncode_ok (w : World) (A A' : Option Addr) (n c m c' : Nat) (ls ws : List Int) (hl : IntsA w w.heap.size .u64 A n ls) (hw : IntsA w w.heap.size .i64 A' m ws) (hu : ∀ x ∈ ls, 0 ≤ x ∧ x < 18446744073709551616)
    (hok : wOK ws = true) (hnm : n = m) :
    Calls Try.prog 45 #[.slice A n c, .slice A' m c'] w fun e w' => e = .returned (.tuple #[.string (encS ls ws), .int .i64 (encE ls ws)]) ∧ Below w.heap.size w w' := by
  subst hnm
  have h2 := (size_yes hok).2
  have hws : ∀ x ∈ ws, 1 ≤ x ∧ x ≤ 8 := by unfold wOK at hok; simp at hok; exact hok.1
  have hw64 : ws.length ≤ 64 := by unfold wOK at hok; simp at hok; exact hok.2
  have HU := Lib.hid hu
  have HL := Lib.hid hl.1
  have HW := Lib.hid hw.1
  have hn64 : n ≤ 64 := by rw [HW.out] at hw64; exact hw64
  have HWS := Lib.hid hws
  have H64 := Lib.hid hw64
  have HOK := Lib.hid hok
  have hb : ((n : Int) != (n : Int)) = false := by simp
  clear hu hws hw64 hok
  go_enter Try.func45, Try.ntmps45
  go_wp2_with fail
  refine (refSize_any _ A' n c' ws hw).mono ?_
  rintro e w1 ⟨rfl, rfl⟩
  rw [h2]
  clear h2
  generalize sizeN ws = sN at *
  go_wp2_with fail
  go_loopw [8, 9] (fun v i wr => ∃ k : Nat, k ≤ n ∧ i = .int .i64 k ∧ (∀ j, j < k → fitsB (ls.getD j 0).toNat (ws.getD j 0) = true) ∧ OwnB wr w.heap.size v (plB ls ws k 0) ∧ Below w.heap.size w wr) (fun _ i _ => n - (intOf i).toNat)
  case atStart => exact ⟨0, by omega, rfl, fun j hj => by omega, World.ownsRow_lit _ _ _ (Nat.le_refl _) (by decide) rfl, (Below.refl _ _).alloc (Nat.le_refl _) _⟩
  case round =>
    obtain ⟨k, hk, rfl, hall, hv, hbe⟩ := hrel
    generalize wr = W0 at *
    have HA := Lib.hid hall
    have hsW := hbe.size
    clear hall
    by_cases hlt : k < n
    · obtain ⟨b, off, rfl, hlb, hc⟩ := hl.2 (by omega)
      obtain ⟨b', off', rfl, hlb', hc'⟩ := hw.2 (by omega)
      have hck := (hbe.cell (p := ⟨b, off + k, none⟩) hlb).trans (hc k hlt)
      have hck' := (hbe.cell (p := ⟨b', off' + k, none⟩) hlb').trans (hc' k hlt)
      have hx : ls.getD k 0 ∈ ls := by
        have : k < ls.length := by rw [HL.out]; exact hlt
        simp [List.getD, this]
      have hy : ws.getD k 0 ∈ ws := by
        have : k < ws.length := by rw [HW.out]; exact hlt
        simp [List.getD, this]
      have hxu := HU.out _ hx
      have hyb := HWS.out _ hy
      obtain ⟨x, hxe⟩ : ∃ x : Nat, ls.getD k 0 = (x : Int) := ⟨(ls.getD k 0).toNat, by omega⟩
      obtain ⟨y, hye⟩ : ∃ y : Nat, ws.getD k 0 = (y : Int) := ⟨(ws.getD k 0).toNat, by omega⟩
      rw [hxe] at hck hxu
      rw [hye] at hck' hyb
      have hx' : x < 18446744073709551616 := by omega
      have HX := Lib.hid hxe
      have HY := Lib.hid hye
      have HXU := Lib.hid hx'
      clear hc hc' hx hy hxe hye hxu hx'
      go_wp2_with fail
      refine wp_region_nf (fun V => V.cell? ⟨b, off + k, none⟩ = some (.int .u64 x) ∧ V.cell? ⟨b', off' + k, none⟩ = some (.int .i64 y)) (fun _ => false) [(0, true), (1, true), (2, true), (3, true), (4, true), (5, true), (6, true), (7, true), (8, false), (9, true)] (by kernel_rfl) rfl (by kernel_rfl) (by kernel_rfl) (fun d _ _ _ _ h => by cases d <;> exact h) ?_
      have hS : W0.drew.cell? ⟨b, off + k, none⟩ = some (.int .u64 x) ∧ W0.drew.cell? ⟨b', off' + k, none⟩ = some (.int .i64 y) := ⟨hck, hck'⟩
      repeat (refine nf_pure rfl hS (fun w1 hS => by obtain ⟨g1, g2⟩ := hS; go_wp2; exact ⟨rfl, rfl, rfl⟩) rfl ?_ ?_; rfl)
      refine nf_imp rfl ?_
      go_wp2_with fail
      refine (refFits_any _ x HXU.out y).mono ?_
      rintro e w2 ⟨rfl, rfl⟩
      go_wp2_with fail
      refine ⟨fun _ => hS, ?_⟩
      obtain ⟨f, hf⟩ : ∃ f, fitsB x y = f := ⟨_, rfl⟩
      rw [hf]
      have HF := Lib.hid hf
      clear hf
      cases f
      · repeat (refine nf_pure rfl hS (fun w1 hS => by obtain ⟨g1, g2⟩ := hS; go_wp2; exact ⟨rfl, rfl, rfl⟩) rfl ?_ ?_; rfl)
        refine nf_nil ?_
        go_wp2_with fail
        go_ret2
        have hno : allFit ls ws = false := by
          unfold allFit
          rw [List.all_eq_false]
          refine ⟨k, List.mem_range.2 (by rw [HW.out]; exact hlt), ?_⟩
          rw [HX.out, HY.out, Int.toNat_natCast, HF.out]
          simp
        refine ⟨?_, hbe.drew⟩
        rw [(enc_f HOK.out (by rw [HL.out, HW.out]) hno).1, (enc_f HOK.out (by rw [HL.out, HW.out]) hno).2]
        rfl
      · repeat (refine nf_pure rfl hS (fun w1 hS => by obtain ⟨g1, g2⟩ := hS; go_wp2; exact ⟨rfl, rfl, rfl⟩) rfl ?_ ?_; rfl)
        refine nf_nil ?_
        go_wp2_with fail
        go_loopw [8, 10] (fun v i wr => ∃ j : Nat, j ≤ y ∧ i = .int .i64 j ∧ OwnB wr w.heap.size v (plB ls ws k j) ∧ Below w.heap.size W0 wr) (fun _ i _ => y - (intOf i).toNat)
        case atStart => exact ⟨0, by omega, rfl, hv, (Below.refl _ _).drew⟩
        case round =>
          obtain ⟨j, hj, rfl, hv2, hbe2⟩ := hrel
          have hck2 := (hbe2.cell (p := ⟨b, off + k, none⟩) hlb).trans hck
          have hck2' := (hbe2.cell (p := ⟨b', off' + k, none⟩) hlb').trans hck'
          have hsz2 := (hbe.trans hbe2).size
          clear hS
          by_cases hjlt : j < y
          · obtain ⟨q, hq, hqe⟩ : ∃ q : Nat, (x : Int) / 2 ^ (8 * j) = (q : Int) ∧ x / 256 ^ j = q := by
              refine ⟨x / 256 ^ j, ?_, rfl⟩
              rw [Int.natCast_ediv, show (256 : Nat) = 2 ^ 8 from rfl, ← Nat.pow_mul, Int.natCast_pow]
              rfl
            have hpn := plB_next ls ws k j q (by rw [HX.out, Int.toNat_natCast, hqe])
            have hpl := plB_len ls ws HWS.out k j (by omega) H64.out
            have HPN := Lib.hid hpn
            have hbt := (Below.refl w.heap.size wr).alloc hsz2 (.cells #[.int .u8 ((q : Int) % 256)] 5)
            have hcb : (wr.alloc (.cells #[.int .u8 ((q : Int) % 256)] 5)).cell? ⟨wr.heap.size, 0, none⟩ = some (bc (UInt8.ofNat q)) := by
              rw [cell_one]
              simp [bc]
            clear hpn hqe hck hck'
            go_wp2_with (at_builtin; refine wp_pushB rfl (.tmp 49) (.tmp 58) rfl w.heap.size _ _ rfl (hv2.alloc _) ⟨wr.heap.size, 0, none⟩ 1 (UInt8.ofNat q) rfl hcb (by omega) (by simp; omega) ?_; intro v4 w4 hv4 _ hb4; have hbe4 := hbt.trans hb4)
            go_roundw
            case rel =>
              refine ⟨j + 1, by omega, by go_num, ?_, ?_⟩
              · rw [HPN.out]; exact hv4
              · exact hbe2.trans hbe4
            case measure => simp [intOf]; omega
          · obtain rfl : j = y := by omega
            go_wp2_with fail
            go_roundw
            case rel =>
              refine ⟨k + 1, by omega, by go_num, fun i hi => ?_, ?_, hbe.trans hbe2⟩
              · by_cases e : i = k
                · subst e
                  rw [HX.out, HY.out, Int.toNat_natCast]
                  exact HF.out
                · exact HA.out i (by omega)
              · rw [← plB_over ls ws k j (by rw [HW.out]; exact hlt) HY.out]
                exact hv2
            case measure => simp [intOf]; omega
    · obtain rfl : k = n := by omega
      have hcv := hv.conv
      obtain ⟨A3, c3, rfl⟩ := hv.shape
      obtain ⟨bl, hbl⟩ : ∃ bl, plB ls ws k 0 = bl := ⟨_, rfl⟩
      rw [hbl] at hcv ⊢
      have HB := Lib.hid hbl
      clear hv hbl
      go_wp2_with fail
      go_ret2
      have hyes : allFit ls ws = true := by
        unfold allFit
        rw [List.all_eq_true]
        intro j hj
        rw [List.mem_range, HW.out] at hj
        exact HA.out j hj
      refine ⟨?_, hbe⟩
      rw [(enc_ok HOK.out (by rw [HL.out, HW.out]) hyes).1, (enc_ok HOK.out (by rw [HL.out, HW.out]) hyes).2]
      have e : bl = encL ls ws := by
        rw [← HB.out]
        unfold plB encL
        rw [placesP_zero, List.take_of_length_le (by rw [HW.out]; exact Nat.le_refl _)]
      rw [← e]
      rfl

theorem refEncode_any (w : World) (A A' : Option Addr) (n c m c' : Nat) (ls ws : List Int) (hl : IntsA w w.heap.size .u64 A n ls) (hw : IntsA w w.heap.size .i64 A' m ws) (hu : ∀ x ∈ ls, 0 ≤ x ∧ x < 18446744073709551616) :
    Calls Try.prog 45 #[.slice A n c, .slice A' m c'] w fun e w' => e = .returned (.tuple #[.string (encS ls ws), .int .i64 (encE ls ws)]) ∧ Below w.heap.size w w' := by
  have e1 := hl.1
  have e2 := hw.1
  by_cases h0 : wOK ws = true
  · by_cases h1 : n = m
    · exact refEncode_ok w A A' n c m c' ls ws hl hw hu h0 h1
    · rw [(enc_l (ls := ls) (ws := ws) (by omega)).1, (enc_l (ls := ls) (ws := ws) (by omega)).2]
      exact refEncode_l w A A' n c m c' ws hw h0 h1
  · have h0 : wOK ws = false := by simpa using h0
    rw [(enc_w h0).1, (enc_w h0).2]
    exact refEncode_w w A A' n c m c' ws hw h0
theorem leN_snoc (t : List UInt8) (b : UInt8) : leN (t ++ [b]) = leN t + 256 ^ t.length * b.toNat := by
  induction t with
  | nil => simp [leN]
  | cons a t ih =>
    simp only [List.cons_append, leN, ih, List.length_cons, Nat.pow_succ']
    rw [Nat.mul_add, Nat.mul_assoc]
    omega
theorem decL_get : ∀ (ws : List Int) (bs : List UInt8) (k : Nat), (∀ x ∈ ws, 1 ≤ x ∧ x ≤ 8) → k < ws.length → (decL ws bs).getD k 0 = leN ((bs.drop (sumW (ws.take k)).toNat).take (ws.getD k 0).toNat)
  | w :: r, bs, 0, _, _ => by simp [decL, sumW]
  | w :: r, bs, k + 1, h, hk => by
    have h1 := h w (by simp)
    have hr : ∀ x ∈ r, 1 ≤ x ∧ x ≤ 8 := fun y hy => h y (List.mem_cons_of_mem _ hy)
    have h2 := decL_get r (bs.drop w.toNat) k hr (by simpa using hk)
    have h3 := (sumW_bd (r.take k) (fun x hx => hr x (List.mem_of_mem_take hx))).1
    have h4 : (sumW ((w :: r).take (k + 1))).toNat = w.toNat + (sumW (r.take k)).toNat := by
      rw [List.take_succ_cons, sumW_cons]
      omega
    rw [h4, ← List.drop_drop]
    simpa [decL] using h2
theorem sumW_take_le (ws : List Int) (h : ∀ x ∈ ws, 1 ≤ x ∧ x ≤ 8) (k : Nat) : sumW (ws.take k) ≤ sumW ws := by
  have h1 := sumW_append (ws.take k) (ws.drop k)
  rw [List.take_append_drop] at h1
  have h2 := (sumW_bd (ws.drop k) (fun x hx => h x (List.mem_of_mem_drop hx))).1
  omega
theorem take_snocN (l : List Nat) (k : Nat) (h : k < l.length) : l.take (k + 1) = l.take k ++ [l.getD k 0] := by
  rw [List.take_succ_eq_append_getElem h]
  simp [List.getD, h]
/-- one more byte of a number -/
theorem le_step (bs : List UInt8) (T j : Nat) (h : T + j < bs.length) (b : UInt8) (hb : bs[T + j] = b) : leN ((bs.drop T).take j) ||| b.toNat * 256 ^ j = leN ((bs.drop T).take (j + 1)) := by
  have h1 : (bs.drop T).take (j + 1) = (bs.drop T).take j ++ [b] := by
    rw [List.take_succ_eq_append_getElem (by simp; omega)]
    simp [hb]
  have h2 : ((bs.drop T).take j).length = j := by simp; omega
  have h3 := leN_lt ((bs.drop T).take j)
  rw [h2] at h3
  rw [h1, leN_snoc, h2, or_add _ _ _ h3]

def dvs (ws : List Int) (s : ByteArray) (k : Nat) : List Int := ((decL ws s.data.toList).take k).map fun n : Nat => (n : Int)
set_option maxHeartbeats 4000000 in
theorem refDecode_ok (w : World) (s : ByteArray) (A' : Option Addr) (n c' : Nat) (ws : List Int) (hw : IntsA w w.heap.size .i64 A' n ws) (hok : wOK ws = true) (hsz : (s.size : Int) = sumW ws) :
    Calls Try.prog 35 #[.string s, .slice A' n c'] w fun e w' => ∃ A c, e = .returned (.tuple #[.slice A n c, .int .i64 0]) ∧ IntsA w' w'.heap.size .u64 A n (dvs ws s n) ∧ Below w.heap.size w w' := by
  have h1 := (size_yes hok).1
  have h2 := (size_yes hok).2
  have hws : ∀ x ∈ ws, 1 ≤ x ∧ x ≤ 8 := by unfold wOK at hok; simp at hok; exact hok.1
  have hw64 : ws.length ≤ 64 := by unfold wOK at hok; simp at hok; exact hok.2
  have HW := Lib.hid hw.1
  have hn64 : n ≤ 64 := by rw [HW.out] at hw64; exact hw64
  have HWS := Lib.hid hws
  rw [← hsz] at h1
  have HSZ := Lib.hid hsz
  have hb : ((s.size : Int) != (s.size : Int)) = false := by simp
  have hs512 : s.size ≤ 512 := by have := (sumW_bd ws hws).2; omega
  clear hws hw64 hsz hok
  go_enter Try.func35, Try.ntmps35
  go_wp2_with fail
  refine (refSize_any _ A' n c' ws hw).mono ?_
  rintro e w1 ⟨rfl, rfl⟩
  rw [h1, h2]
  clear h1 h2
  go_wp2_with fail
  have ho0 := OwnI.new w w.heap.size 22 .u64 (Nat.le_refl _)
  have hbe0 := (Below.refl w.heap.size w).alloc (Nat.le_refl _) (.cells #[] 22)
  generalize w.alloc (.cells #[] 22) = W at *
  go_loopw [8, 9, 10] (fun v t i wr => ∃ k : Nat, k ≤ n ∧ i = .int .i64 k ∧ t = .int .i64 (sumW (ws.take k)) ∧ OwnI wr w.heap.size 22 .u64 v (dvs ws s k) ∧ Below w.heap.size w wr) (fun _ _ i _ => n - (intOf i).toNat)
  case atStart => exact ⟨0, by omega, rfl, rfl, ho0, hbe0⟩
  case round =>
    obtain ⟨k, hk, rfl, rfl, hv, hbe⟩ := hrel
    have hsW := hbe.size
    generalize wr = W0 at *
    by_cases hlt : k < n
    · obtain ⟨b', off', rfl, hlb', hc'⟩ := hw.2 (by omega)
      have hck' := (hbe.cell (p := ⟨b', off' + k, none⟩) hlb').trans (hc' k hlt)
      have hy : ws.getD k 0 ∈ ws := by
        have : k < ws.length := by rw [HW.out]; exact hlt
        simp [List.getD, this]
      have hyb := HWS.out _ hy
      obtain ⟨y, hye⟩ : ∃ y : Nat, ws.getD k 0 = (y : Int) := ⟨(ws.getD k 0).toNat, by omega⟩
      have hts := take_snocI ws k (by rw [HW.out]; exact hlt)
      rw [hye] at hck' hyb hts
      obtain ⟨T, hT⟩ : ∃ T : Nat, sumW (ws.take k) = (T : Int) := ⟨(sumW (ws.take k)).toNat, by
        have := (sumW_bd (ws.take k) (fun x hx => HWS.out x (List.mem_of_mem_take hx))).1
        omega⟩
      have hsn : sumW (ws.take (k + 1)) = ((T + y : Nat) : Int) := by rw [hts, sumW_snoc, hT]; omega
      have hTy : T + y ≤ s.size := by
        have h3 := sumW_take_le ws HWS.out (k + 1)
        rw [hsn, ← HSZ.out] at h3
        omega
      have hdn : dvs ws s (k + 1) = dvs ws s k ++ [((leN ((s.data.toList.drop T).take y) : Nat) : Int)] := by
        unfold dvs
        rw [take_snocN _ k (by rw [decL_len, HW.out]; exact hlt), decL_get ws _ k HWS.out (by rw [HW.out]; exact hlt), hT, hye]
        simp
      have hdl : (dvs ws s k).length ≤ 64 := by
        unfold dvs
        rw [List.length_map, List.length_take]
        omega
      rw [hT]
      have HSN := Lib.hid hsn
      have HDN := Lib.hid hdn
      clear hc' hy hye hts hT hsn hdn ho0 hbe0
      go_wp2_with fail
      go_loop [11, 12] (fun x j => ∃ i z : Nat, i ≤ y ∧ j = .int .i64 i ∧ x = .int .u64 z ∧ z = leN ((s.data.toList.drop T).take i) ∧ z < 18446744073709551616) (fun _ j => y - (intOf j).toNat)
      case atStart => exact ⟨0, 0, by omega, rfl, rfl, by simp [leN], by omega⟩
      case round =>
        obtain ⟨i, z, hi, rfl, rfl, hz, hzl⟩ := hrel
        have HZ := Lib.hid hz
        clear hz
        by_cases hilt : i < y
        · have hidx : T + i < s.size := by omega
          go_wp2_with fail
          go_round
          case rel =>
            refine ⟨i + 1, z ||| s[T + i].toNat * 256 ^ i, by omega, by go_num, ?_, ?_, or_place_lt _ _ _ hzl (by omega)⟩
            · rw [or_place _ _ _ hzl (by omega)]
            · rw [HZ.out]
              exact le_step _ T i (by simp; omega) _ rfl
          case measure => simp [intOf]; omega
        · obtain rfl : i = y := by omega
          have hbt := (Below.refl w.heap.size W0).alloc hsW (.cells #[.int .u64 (z : Int)] 22)
          go_wp2_with (at_builtin; refine wp_pushI 70 22 .u64 Try.underlying70 info_u64 rfl (.tmp 51) (.tmp 53) rfl w.heap.size _ _ (hv.alloc _) rfl ⟨W0.heap.size, 0, none⟩ 1 z rfl (cell_one _ _ _) (by omega) (by simp; omega) ?_; intro v4 w4 hv4 _ hb4; have hbe4 := hbt.trans hb4; have hck4 := (hbe4.cell (p := ⟨b', off' + k, none⟩) hlb').trans hck')
          go_roundw
          case rel =>
            refine ⟨k + 1, by omega, by go_num, ?_, ?_, hbe.trans hbe4⟩
            · rw [HSN.out]; go_num
            · rw [HDN.out, ← HZ.out]; exact hv4
          case measure => simp [intOf]; omega
    · obtain rfl : k = n := by omega
      obtain ⟨A3, c3, rfl⟩ := hv.shape
      have hdl : (dvs ws s k).length = k := by
        unfold dvs
        rw [List.length_map, List.length_take, decL_len, HW.out]
        omega
      rw [hdl] at hv ⊢
      have hvi := hv.ints
      clear hdl hv
      go_wp2_with fail
      go_ret2
      exact ⟨_, _, rfl, hvi, hbe⟩

theorem dvs_all (ws : List Int) (s : ByteArray) (n : Nat) (h : ws.length = n) : dvs ws s n = (decL ws s.data.toList).map fun n : Nat => (n : Int) := by
  unfold dvs
  rw [List.take_of_length_le (by rw [decL_len, h]; exact Nat.le_refl _)]

set_option maxHeartbeats 1000000 in
theorem refDecode_any (w : World) (s : ByteArray) (A' : Option Addr) (m c' : Nat) (ws : List Int) (hw : IntsA w w.heap.size .i64 A' m ws) :
    Calls Try.prog 35 #[.string s, .slice A' m c'] w fun e w' => ∃ A n c, e = .returned (.tuple #[.slice A n c, .int .i64 (decE ws s)]) ∧ IntsA w' w'.heap.size .u64 A n (decX ws s) ∧ Below w.heap.size w w' := by
  by_cases h0 : wOK ws = true
  · by_cases h1 : (s.size : Int) = sumW ws
    · rw [(dec_ok h0 h1).1, (dec_ok h0 h1).2]
      refine (refDecode_ok w s A' m c' ws hw h0 h1).mono ?_
      rintro e w' ⟨A, c, rfl, hi, hb⟩
      rw [dvs_all ws s m hw.1] at hi
      exact ⟨_, _, _, rfl, hi, hb⟩
    · rw [(dec_s h0 h1).1, (dec_s h0 h1).2]
      have e1 := (size_yes h0).1
      have e2 := (size_yes h0).2
      have hb : ((s.size : Int) != sumW ws) = true := by rw [bne_iff_ne]; exact h1
      generalize sumW ws = N at *
      go_enter Try.func35, Try.ntmps35
      go_wp2_with fail
      refine (refSize_any _ A' m c' ws hw).mono ?_
      rintro e w1 ⟨rfl, rfl⟩
      rw [e1, e2]
      clear e1 e2
      go_wp2_with fail
      go_ret2
      exact ⟨_, _, _, rfl, ⟨rfl, fun h => by omega⟩, Below.refl _ _⟩
  · have h0 : wOK ws = false := by simpa using h0
    rw [(dec_w h0 s).1, (dec_w h0 s).2]
    have e1 := (size_no h0).1
    have e2 := (size_no h0).2
    go_enter Try.func35, Try.ntmps35
    go_wp2_with fail
    refine (refSize_any _ A' m c' ws hw).mono ?_
    rintro e w1 ⟨rfl, rfl⟩
    rw [e1, e2]
    clear e1 e2
    go_wp2_with fail
    go_ret2
    exact ⟨_, _, _, rfl, ⟨rfl, fun h => by omega⟩, Below.refl _ _⟩
end Go.Proofs.Ythpehdmffleobaa
