import Derived.Test.YtoaihohfbdfbcaaPackRef
namespace Go.Proofs.Ytoaihohfbdfbcaa
open Go.RowKit Go.OpenShut

set_option maxHeartbeats 400000 in
theorem refEncode_w (w : World) (A A' : Option Addr) (n c m c' : Nat) (ws : List Int) (hw : IntsA w w.heap.size .i64 A' m ws) (hno : wOK ws = false) :
    Calls Try.prog 13 #[.slice A n c, .slice A' m c'] w fun e w' => e = .returned (.tuple #[.string ⟨#[]⟩, .int .i64 1]) ∧ Below w.heap.size w w' := by
  have h1 := (size_no hno).1
  have h2 := (size_no hno).2
  go_enter Try.func13, Try.ntmps13
  go_wp2_with fail
  refine (refSize_any _ A' m c' ws hw).mono ?_
  rintro e w1 ⟨rfl, rfl⟩
  rw [h1, h2]
  clear h1 h2
  go_wp2_with fail
  go_ret2
  exact ⟨rfl, Below.refl _ _⟩

set_option maxHeartbeats 400000 in
theorem refEncode_l (w : World) (A A' : Option Addr) (n c m c' : Nat) (ws : List Int) (hw : IntsA w w.heap.size .i64 A' m ws) (hok : wOK ws = true) (hne : n ≠ m) :
    Calls Try.prog 13 #[.slice A n c, .slice A' m c'] w fun e w' => e = .returned (.tuple #[.string ⟨#[]⟩, .int .i64 1]) ∧ Below w.heap.size w w' := by
  have h1 := (size_yes hok).1
  have h2 := (size_yes hok).2
  have hb : ((n : Int) != (m : Int)) = true := by rw [bne_iff_ne]; omega
  go_enter Try.func13, Try.ntmps13
  go_wp2_with fail
  refine (refSize_any _ A' m c' ws hw).mono ?_
  rintro e w1 ⟨rfl, rfl⟩
  rw [h1, h2]
  clear h1 h2
  go_wp2_with fail
  go_ret2
  exact ⟨rfl, Below.refl _ _⟩

def plB (ls ws : List Int) (i k : Nat) : List UInt8 := (placesP ws i k).map (encByte ls)
theorem plB_next (ls ws : List Int) (i k q : Nat) (h : (ls.getD i 0).toNat / 256 ^ k = q) : plB ls ws i (k + 1) = plB ls ws i k ++ [UInt8.ofNat q] := by
  unfold plB
  rw [placesP_next, List.map_append]
  simp only [List.map_cons, List.map_nil, encByte, h]
theorem plB_over (ls ws : List Int) (i y : Nat) (h : i < ws.length) (hy : ws.getD i 0 = (y : Int)) : plB ls ws i y = plB ls ws (i + 1) 0 := by
  unfold plB
  rw [← placesP_over ws i h, hy, Int.toNat_natCast]
theorem plB_len (ls ws : List Int) (hws : ∀ x ∈ ws, 1 ≤ x ∧ x ≤ 8) (i k : Nat) (hk : k ≤ 8) (hl : ws.length ≤ 64) : (plB ls ws i k).length ≤ 520 := by
  unfold plB placesP
  rw [List.length_map, List.length_append, List.length_map, List.length_range]
  have h1 := placesF_length 0 (ws.take i) (fun x hx => hws x (List.mem_of_mem_take hx))
  have h2 := (sumW_bd (ws.take i) (fun x hx => hws x (List.mem_of_mem_take hx))).2
  have h3 : (ws.take i).length ≤ 64 := Nat.le_trans (by rw [List.length_take]; omega) hl
  omega

set_option maxHeartbeats 4000000 in
theorem refEncode_ok (w : World) (A A' : Option Addr) (n c m c' : Nat) (ls ws : List Int) (hl : IntsA w w.heap.size .u64 A n ls) (hw : IntsA w w.heap.size .i64 A' m ws) (hu : ∀ x ∈ ls, 0 ≤ x ∧ x < 18446744073709551616)
    (hok : wOK ws = true) (hnm : n = m) :
    Calls Try.prog 13 #[.slice A n c, .slice A' m c'] w fun e w' => e = .returned (.tuple #[.string (encS ls ws), .int .i64 (encE ls ws)]) ∧ Below w.heap.size w w' := by
  subst hnm
  have h2 := (size_yes hok).2
  have hws : ∀ x ∈ ws, 1 ≤ x ∧ x ≤ 8 := by unfold wOK at hok; simp at hok; exact hok.1
  have hw64 : ws.length ≤ 64 := by unfold wOK at hok; simp at hok; exact hok.2
  have HU := Lib.hid hu
  have HL := Lib.hid hl.1
  have HW := Lib.hid hw.1
  have hn64 : n ≤ 64 := by rw [HW.out] at hw64; exact hw64
  have HWS := Lib.hid hws
  have H64 := Lib.hid hw64
  have HOK := Lib.hid hok
  have hb : ((n : Int) != (n : Int)) = false := by simp
  clear hu hws hw64 hok
  go_enter Try.func13, Try.ntmps13
  go_wp2_with fail
  refine (refSize_any _ A' n c' ws hw).mono ?_
  rintro e w1 ⟨rfl, rfl⟩
  rw [h2]
  clear h2
  generalize sizeN ws = sN at *
  go_wp2_with fail
  go_loopw [8, 9] (fun v i wr => ∃ k : Nat, k ≤ n ∧ i = .int .i64 k ∧ (∀ j, j < k → fitsB (ls.getD j 0).toNat (ws.getD j 0) = true) ∧ OwnB wr w.heap.size v (plB ls ws k 0) ∧ Below w.heap.size w wr) (fun _ i _ => n - (intOf i).toNat)
  case atStart => exact ⟨0, by omega, rfl, fun j hj => by omega, World.ownsRow_lit _ _ _ (Nat.le_refl _) (by decide) rfl, (Below.refl _ _).alloc (Nat.le_refl _) _⟩
  case round =>
    obtain ⟨k, hk, rfl, hall, hv, hbe⟩ := hrel
    generalize wr = W0 at *
    have HA := Lib.hid hall
    have hsW := hbe.size
    clear hall
    by_cases hlt : k < n
    · obtain ⟨b, off, rfl, hlb, hc⟩ := hl.2 (by omega)
      obtain ⟨b', off', rfl, hlb', hc'⟩ := hw.2 (by omega)
      have hck := (hbe.cell (p := ⟨b, off + k, none⟩) hlb).trans (hc k hlt)
      have hck' := (hbe.cell (p := ⟨b', off' + k, none⟩) hlb').trans (hc' k hlt)
      have hx : ls.getD k 0 ∈ ls := by
        have : k < ls.length := by rw [HL.out]; exact hlt
        simp [List.getD, this]
      have hy : ws.getD k 0 ∈ ws := by
        have : k < ws.length := by rw [HW.out]; exact hlt
        simp [List.getD, this]
      have hxu := HU.out _ hx
      have hyb := HWS.out _ hy
      obtain ⟨x, hxe⟩ : ∃ x : Nat, ls.getD k 0 = (x : Int) := ⟨(ls.getD k 0).toNat, by omega⟩
      obtain ⟨y, hye⟩ : ∃ y : Nat, ws.getD k 0 = (y : Int) := ⟨(ws.getD k 0).toNat, by omega⟩
      rw [hxe] at hck hxu
      rw [hye] at hck' hyb
      have hx' : x < 18446744073709551616 := by omega
      have HX := Lib.hid hxe
      have HY := Lib.hid hye
      have HXU := Lib.hid hx'
      clear hc hc' hx hy hxe hye hxu hx'
      go_wp2_with fail
      refine wp_region_nf (fun V => V.cell? ⟨b, off + k, none⟩ = some (.int .u64 x) ∧ V.cell? ⟨b', off' + k, none⟩ = some (.int .i64 y)) (fun _ => false) [(0, true), (1, true), (2, true), (3, true), (4, true), (5, true), (6, true), (7, true), (8, false), (9, true)] (by kernel_rfl) rfl (by kernel_rfl) (by kernel_rfl) (fun d _ _ _ _ h => by cases d <;> exact h) ?_
      have hS : W0.drew.cell? ⟨b, off + k, none⟩ = some (.int .u64 x) ∧ W0.drew.cell? ⟨b', off' + k, none⟩ = some (.int .i64 y) := ⟨hck, hck'⟩
      repeat (refine nf_pure rfl hS (fun w1 hS => by obtain ⟨g1, g2⟩ := hS; go_wp2; exact ⟨rfl, rfl, rfl⟩) rfl ?_ ?_; rfl)
      refine nf_imp rfl ?_
      go_wp2_with fail
      refine (refFits_any _ x HXU.out y).mono ?_
      rintro e w2 ⟨rfl, rfl⟩
      go_wp2_with fail
      refine ⟨fun _ => hS, ?_⟩
      obtain ⟨f, hf⟩ : ∃ f, fitsB x y = f := ⟨_, rfl⟩
      rw [hf]
      have HF := Lib.hid hf
      clear hf
      cases f
      · repeat (refine nf_pure rfl hS (fun w1 hS => by obtain ⟨g1, g2⟩ := hS; go_wp2; exact ⟨rfl, rfl, rfl⟩) rfl ?_ ?_; rfl)
        refine nf_nil ?_
        go_wp2_with fail
        go_ret2
        have hno : allFit ls ws = false := by
          unfold allFit
          rw [List.all_eq_false]
          refine ⟨k, List.mem_range.2 (by rw [HW.out]; exact hlt), ?_⟩
          rw [HX.out, HY.out, Int.toNat_natCast, HF.out]
          simp
        refine ⟨?_, hbe.drew⟩
        rw [(enc_f HOK.out (by rw [HL.out, HW.out]) hno).1, (enc_f HOK.out (by rw [HL.out, HW.out]) hno).2]
        rfl
      · repeat (refine nf_pure rfl hS (fun w1 hS => by obtain ⟨g1, g2⟩ := hS; go_wp2; exact ⟨rfl, rfl, rfl⟩) rfl ?_ ?_; rfl)
        refine nf_nil ?_
        go_wp2_with fail
        go_loopw [8, 10] (fun v i wr => ∃ j : Nat, j ≤ y ∧ i = .int .i64 j ∧ OwnB wr w.heap.size v (plB ls ws k j) ∧ Below w.heap.size W0 wr) (fun _ i _ => y - (intOf i).toNat)
        case atStart => exact ⟨0, by omega, rfl, hv, (Below.refl _ _).drew⟩
        case round =>
          obtain ⟨j, hj, rfl, hv2, hbe2⟩ := hrel
          have hck2 := (hbe2.cell (p := ⟨b, off + k, none⟩) hlb).trans hck
          have hck2' := (hbe2.cell (p := ⟨b', off' + k, none⟩) hlb').trans hck'
          have hsz2 := (hbe.trans hbe2).size
          clear hS
          by_cases hjlt : j < y
          · obtain ⟨q, hq, hqe⟩ : ∃ q : Nat, (x : Int) / 2 ^ (8 * j) = (q : Int) ∧ x / 256 ^ j = q := by
              refine ⟨x / 256 ^ j, ?_, rfl⟩
              rw [Int.natCast_ediv, show (256 : Nat) = 2 ^ 8 from rfl, ← Nat.pow_mul, Int.natCast_pow]
              rfl
            have hpn := plB_next ls ws k j q (by rw [HX.out, Int.toNat_natCast, hqe])
            have hpl := plB_len ls ws HWS.out k j (by omega) H64.out
            have HPN := Lib.hid hpn
            have hbt := (Below.refl w.heap.size wr).alloc hsz2 (.cells #[.int .u8 ((q : Int) % 256)] 5)
            have hcb : (wr.alloc (.cells #[.int .u8 ((q : Int) % 256)] 5)).cell? ⟨wr.heap.size, 0, none⟩ = some (bc (UInt8.ofNat q)) := by
              rw [cell_one]
              simp [bc]
            clear hpn hqe hck hck'
            go_wp2_with (at_builtin; refine wp_pushB rfl (.tmp 49) (.tmp 58) rfl w.heap.size _ _ rfl (hv2.alloc _) ⟨wr.heap.size, 0, none⟩ 1 (UInt8.ofNat q) rfl hcb (by omega) (by simp; omega) ?_; intro v4 w4 hv4 _ hb4; have hbe4 := hbt.trans hb4)
            go_roundw
            case rel =>
              refine ⟨j + 1, by omega, by go_num, ?_, ?_⟩
              · rw [HPN.out]; exact hv4
              · exact hbe2.trans hbe4
            case measure => simp [intOf]; omega
          · obtain rfl : j = y := by omega
            go_wp2_with fail
            go_roundw
            case rel =>
              refine ⟨k + 1, by omega, by go_num, fun i hi => ?_, ?_, hbe.trans hbe2⟩
              · by_cases e : i = k
                · subst e
                  rw [HX.out, HY.out, Int.toNat_natCast]
                  exact HF.out
                · exact HA.out i (by omega)
              · rw [← plB_over ls ws k j (by rw [HW.out]; exact hlt) HY.out]
                exact hv2
            case measure => simp [intOf]; omega
    · obtain rfl : k = n := by omega
      have hcv := hv.conv
      obtain ⟨A3, c3, rfl⟩ := hv.shape
      obtain ⟨bl, hbl⟩ : ∃ bl, plB ls ws k 0 = bl := ⟨_, rfl⟩
      rw [hbl] at hcv ⊢
      have HB := Lib.hid hbl
      clear hv hbl
      go_wp2_with fail
      go_ret2
      have hyes : allFit ls ws = true := by
        unfold allFit
        rw [List.all_eq_true]
        intro j hj
        rw [List.mem_range, HW.out] at hj
        exact HA.out j hj
      refine ⟨?_, hbe⟩
      rw [(enc_ok HOK.out (by rw [HL.out, HW.out]) hyes).1, (enc_ok HOK.out (by rw [HL.out, HW.out]) hyes).2]
      have e : bl = encL ls ws := by
        rw [← HB.out]
        unfold plB encL
        rw [placesP_zero, List.take_of_length_le (by rw [HW.out]; exact Nat.le_refl _)]
      rw [← e]
      rfl

theorem refEncode_any (w : World) (A A' : Option Addr) (n c m c' : Nat) (ls ws : List Int) (hl : IntsA w w.heap.size .u64 A n ls) (hw : IntsA w w.heap.size .i64 A' m ws) (hu : ∀ x ∈ ls, 0 ≤ x ∧ x < 18446744073709551616) :
    Calls Try.prog 13 #[.slice A n c, .slice A' m c'] w fun e w' => e = .returned (.tuple #[.string (encS ls ws), .int .i64 (encE ls ws)]) ∧ Below w.heap.size w w' := by
  have e1 := hl.1
  have e2 := hw.1
  by_cases h0 : wOK ws = true
  · by_cases h1 : n = m
    · exact refEncode_ok w A A' n c m c' ls ws hl hw hu h0 h1
    · rw [(enc_l (ls := ls) (ws := ws) (by omega)).1, (enc_l (ls := ls) (ws := ws) (by omega)).2]
      exact refEncode_l w A A' n c m c' ws hw h0 h1
  · have h0 : wOK ws = false := by simpa using h0
    rw [(enc_w h0).1, (enc_w h0).2]
    exact refEncode_w w A A' n c m c' ws hw h0
end Go.Proofs.Ytoaihohfbdfbcaa
