import Derived.Test.YtoaihohfbdfbcaaPackSame
import Derived.Test.YtoaihohfbdfbcaaPackLaw
import Derived.Test.YtoaihohfbdfbcaaPackFits
namespace Go.Proofs.Ytoaihohfbdfbcaa
open Go.RowKit Go.OpenShut

def kOf (us : List Int) (i : Nat) : Nat := (us.getD i 0).toNat % 8 + 1
def wsB (us : List Int) (N : Nat) : List Int := (List.range N).map fun i => (kOf us i : Int)
def xsN (ls us : List Int) (N : Nat) : List Nat := (List.range N).map fun i => (ls.getD i 0).toNat % 256 ^ kOf us i
def xsB (ls us : List Int) (N : Nat) : List Int := (xsN ls us N).map fun n : Nat => (n : Int)
theorem wsB_next (us : List Int) (k : Nat) : wsB us (k + 1) = wsB us k ++ [(kOf us k : Int)] := by simp [wsB, List.range_succ]
theorem xsB_next (ls us : List Int) (k : Nat) : xsB ls us (k + 1) = xsB ls us k ++ [(((ls.getD k 0).toNat % 256 ^ kOf us k : Nat) : Int)] := by simp [xsB, xsN, List.range_succ]
theorem wsB_len (us : List Int) (k : Nat) : (wsB us k).length = k := by simp [wsB]
theorem xsN_len (ls us : List Int) (k : Nat) : (xsN ls us k).length = k := by simp [xsN]
theorem xsB_len (ls us : List Int) (k : Nat) : (xsB ls us k).length = k := by simp [xsB, xsN_len]
theorem wsB_bd (us : List Int) (k : Nat) : ∀ x ∈ wsB us k, 1 ≤ x ∧ x ≤ 8 := by
  intro x hx
  unfold wsB at hx
  obtain ⟨i, _, rfl⟩ := List.mem_map.1 hx
  unfold kOf
  omega
theorem wsB_ok (us : List Int) (k : Nat) (h : k ≤ 64) : wOK (wsB us k) = true := by
  unfold wOK
  rw [Bool.and_eq_true]
  refine ⟨List.all_eq_true.2 fun x hx => ?_, by rw [wsB_len]; simpa using h⟩
  simpa using wsB_bd us k x hx
theorem xsB_toNat (ls us : List Int) (k : Nat) : (xsB ls us k).map Int.toNat = xsN ls us k := by
  unfold xsB
  rw [List.map_map]
  conv => rhs; rw [← List.map_id (xsN ls us k)]
  exact List.map_congr_left fun x _ => by simp [Function.comp]
theorem xsN_fits (ls us : List Int) (k i : Nat) (h : i < k) : (xsN ls us k).getD i 0 < 256 ^ ((wsB us k).getD i 0).toNat := by
  have h1 : (xsN ls us k).getD i 0 = (ls.getD i 0).toNat % 256 ^ kOf us i := by simp [xsN, List.getD, h]
  have h2 : (wsB us k).getD i 0 = (kOf us i : Int) := by simp [wsB, List.getD, h]
  rw [h1, h2, Int.toNat_natCast]
  exact Nat.mod_lt _ (Nat.pow_pos (by omega))
theorem xsB_fit (ls us : List Int) (k : Nat) : allFit (xsB ls us k) (wsB us k) = true := by
  unfold allFit
  rw [List.all_eq_true]
  intro i hi
  rw [List.mem_range, wsB_len] at hi
  have h1 := xsN_fits ls us k i hi
  have h2 : (xsB ls us k).getD i 0 = (((xsN ls us k).getD i 0 : Nat) : Int) := by
    have : i < (xsN ls us k).length := by rw [xsN_len]; exact hi
    simp [xsB, List.getD, this]
  have h3 := wsB_bd us k ((wsB us k).getD i 0) (by
    have : i < (wsB us k).length := by rw [wsB_len]; exact hi
    simp [List.getD, this])
  rw [h2, Int.toNat_natCast]
  unfold fitsB
  rw [decide_eq_true h3, decide_eq_true h1]
  rfl
theorem xsB_u64 (ls us : List Int) (k : Nat) : ∀ x ∈ xsB ls us k, 0 ≤ x ∧ x < 18446744073709551616 := by
  intro x hx
  unfold xsB xsN at hx
  rw [List.map_map] at hx
  obtain ⟨i, _, rfl⟩ := List.mem_map.1 hx
  have h1 : (ls.getD i 0).toNat % 256 ^ kOf us i < 256 ^ kOf us i := Nat.mod_lt _ (Nat.pow_pos (by omega))
  have h2 : 256 ^ kOf us i ≤ 256 ^ 8 := Nat.pow_le_pow_right (by omega) (by unfold kOf; omega)
  simp only [Function.comp]
  omega
/-- what Encode gives of them, and Decode of that -/
theorem back_enc (ls us : List Int) (k : Nat) (h : k ≤ 64) : encE (xsB ls us k) (wsB us k) = 0 ∧ ((encS (xsB ls us k) (wsB us k)).size : Int) = sumW (wsB us k) ∧
    decF (encS (xsB ls us k) (wsB us k)).data.toList k (placesF 0 (wsB us k)) = xsN ls us k := by
  have h1 := enc_ok (wsB_ok us k h) (by rw [xsB_len, wsB_len]) (xsB_fit ls us k)
  have h2 := encS_size (wsB_ok us k h) (by rw [xsB_len, wsB_len]) (xsB_fit ls us k)
  refine ⟨h1.1, h2, ?_⟩
  have h3 := decF_eq (wsB us k) (encS (xsB ls us k) (wsB us k)).data.toList (wsB_bd us k) (by rw [← h2]; simp)
  rw [wsB_len] at h3
  rw [h3, h1.2]
  show decL _ (encL _ _) = _
  rw [encL_eq _ _ (by rw [xsB_len, wsB_len]), xsB_toNat]
  exact dec_enc _ _ (by rw [xsN_len, wsB_len]) (fun i hi => xsN_fits ls us k i (by rw [wsB_len] at hi; exact hi))
theorem run_min3 {P : Program} (ts : Array TypeId) (t : TypeId) (k : IntKind) (a b c : Int) (w : World) :
    (Builtin.min_ ts t #[.int k a, .int k b, .int k c]).run P w = .ok (.int k (min (min a b) c)) w := by
  have e : ∀ x y : Int, (if y < x then y else x) = min x y := fun x y => by
    rw [Int.min_def]
    split <;> split <;> omega
  simp [Builtin.min_, Builtin.min2, e]
theorem cell_one (w : World) (v : Value) (t : TypeId) : (w.alloc (.cells #[v] t)).cell? ⟨w.heap.size, 0, none⟩ = some v := (Blk.new w t #[v]).cell 0
theorem ivn_ints (l : List Nat) : ivn l = ((l.map fun n : Nat => (n : Int)).map (Value.int .u64)).toArray := by
  unfold ivn
  rw [List.map_map]
  rfl

set_option maxHeartbeats 4000000 in
theorem packBack_go (w : World) (A A' : Option Addr) (n c m c' : Nat) (ls us : List Int) (hl : IntsA w w.heap.size .u64 A n ls) (hu : IntsA w w.heap.size .u8 A' m us) (hub : ∀ x ∈ us, 0 ≤ x ∧ x < 256) (hlb : ∀ x ∈ ls, 0 ≤ x ∧ x < 18446744073709551616) :
    Calls Try.prog 6 #[.slice A n c, .slice A' m c'] w fun e w' => e = .returned (.bool true) ∧ Below w.heap.size w w' := by
  have hmin := fun w => run_min3 (P := Try.prog) #[3, 3, 3] 3 .i64 (n : Int) (m : Int) 64 w
  obtain ⟨N, hN, hNn, hNm, hN64⟩ : ∃ N : Nat, min (min (n : Int) (m : Int)) 64 = (N : Int) ∧ N ≤ n ∧ N ≤ m ∧ N ≤ 64 := ⟨min (min n m) 64, by omega, by omega, by omega, by omega⟩
  rw [hN] at hmin
  have HLL := Lib.hid hl.1
  have HUL := Lib.hid hu.1
  have HUB := Lib.hid hub
  have HLB := Lib.hid hlb
  clear hN hub hlb
  go_enter Try.func6, Try.ntmps6
  go_wp2_with fail
  have hw0 := (OwnI.new w w.heap.size 3 .i64 (Nat.le_refl _)).alloc (.cells #[] 22)
  have hx0 := OwnI.new (w.alloc (.cells #[] 3)) w.heap.size 22 .u64 (by simp)
  rw [show (w.alloc (.cells #[] 3)).heap.size = w.heap.size + 1 by simp] at hx0
  have hbe0 := ((Below.refl w.heap.size w).alloc (Nat.le_refl _) (.cells #[] 3)).alloc (by simp) (.cells #[] 22)
  generalize (w.alloc (.cells #[] 3)).alloc (.cells #[] 22) = W at *
  clear hmin
  go_loopw [6, 7, 8, 9] (fun v u s i wr => ∃ k : Nat, k ≤ N ∧ i = .int .i64 k ∧ s = .int .i64 (sumW (wsB us k)) ∧ OwnI wr w.heap.size 3 .i64 v (wsB us k) ∧ OwnI wr w.heap.size 22 .u64 u (xsB ls us k) ∧ Below w.heap.size w wr) (fun _ _ _ i _ => N - (intOf i).toNat)
  case atStart => exact ⟨0, by omega, rfl, rfl, hw0, hx0, hbe0⟩
  case round =>
    obtain ⟨k, hk, rfl, rfl, hw, hx, hbe⟩ := hrel
    have hsW := hbe.size
    clear hw0 hx0 hbe0
    have hsb := sumW_bd _ (wsB_bd us k)
    rw [wsB_len] at hsb
    by_cases hlt : k < N
    · obtain ⟨b, off, rfl, hbl, hc⟩ := hl.2 (by omega)
      obtain ⟨b', off', rfl, hbl', hc'⟩ := hu.2 (by omega)
      have hck := (hbe.cell (p := ⟨b, off + k, none⟩) hbl).trans (hc k (by omega))
      have hck' := (hbe.cell (p := ⟨b', off' + k, none⟩) hbl').trans (hc' k (by omega))
      have hmx : ls.getD k 0 ∈ ls := by
        have : k < ls.length := by rw [HLL.out]; omega
        simp [List.getD, this]
      have hmu : us.getD k 0 ∈ us := by
        have : k < us.length := by rw [HUL.out]; omega
        simp [List.getD, this]
      have hxb := HLB.out _ hmx
      have hub := HUB.out _ hmu
      obtain ⟨x, hxe⟩ : ∃ x : Nat, ls.getD k 0 = (x : Int) := ⟨(ls.getD k 0).toNat, by omega⟩
      obtain ⟨u, hue⟩ : ∃ u : Nat, us.getD k 0 = (u : Int) := ⟨(us.getD k 0).toNat, by omega⟩
      rw [hxe] at hck hxb
      rw [hue] at hck' hub
      have hko : kOf us k = u % 8 + 1 := by unfold kOf; rw [hue, Int.toNat_natCast]
      have hxn := xsB_next ls us k
      have hwn := wsB_next us k
      rw [hxe, hko, Int.toNat_natCast] at hxn
      rw [hko] at hwn
      have hsn : sumW (wsB us (k + 1)) = sumW (wsB us k) + ((u % 8 + 1 : Nat) : Int) := by rw [hwn, sumW_snoc]
      have HXN := Lib.hid hxn
      have HWN := Lib.hid hwn
      have HSN := Lib.hid hsn
      obtain ⟨K, hK, hK1, hK8⟩ : ∃ K : Nat, u % 8 + 1 = K ∧ 1 ≤ K ∧ K ≤ 8 := ⟨_, rfl, by omega, by omega⟩
      have hKi : ((u : Int) % 8 + 1) = (K : Int) := by omega
      generalize sumW (wsB us k) = S at *
      have HK := Lib.hid hK
      clear hc hc' hmx hmu hxe hue hko hxn hwn hsn hK
      have hbt := (Below.refl w.heap.size wr).alloc hsW (.cells #[.int .i64 (K : Int)] 3)
      have hrr : ((x % 256 ^ K : Nat) : Int) = ((x % 256 ^ K : Nat) : Int) := rfl
      by_cases hK7 : K < 8
      · obtain ⟨D, hD, hDK⟩ : ∃ D : Nat, IntKind.u64.wrap (2 ^ (8 * K)) = (D : Int) ∧ D = 256 ^ K := by
          refine ⟨256 ^ K, ?_, rfl⟩
          have h1 : 256 ^ K ≤ 256 ^ 7 := Nat.pow_le_pow_right (by omega) (by omega)
          have h2 : (2 : Int) ^ (8 * K) = ((256 ^ K : Nat) : Int) := by
            rw [show (256 : Nat) = 2 ^ 8 from rfl, ← Nat.pow_mul, Int.natCast_pow]
            rfl
          rw [h2, IntKind.wrap_u64]
          omega
        have hD0 : 0 < D := by rw [hDK]; exact Nat.pow_pos (by omega)
        obtain ⟨r, hr, hrD⟩ : ∃ r : Nat, (x : Int) % (D : Int) = (r : Int) ∧ r = x % 256 ^ K := ⟨x % D, by simp, by rw [hDK]⟩
        have HR := Lib.hid hrD
        clear hrr hDK hrD
        go_wp2_with first
          | (at_builtin; refine wp_pushI 27 3 .i64 Try.underlying27 info_int rfl (.tmp 35) (.tmp 37) rfl w.heap.size _ _ (hw.alloc _) rfl ⟨wr.heap.size, 0, none⟩ 1 K rfl (cell_one _ _ _) (by simp [wsB_len]; omega) (by simp; omega) ?_; intro v4 w4 hv4 hg4 hb4; have hx4 := (hx.alloc (.cells #[.int .i64 (K : Int)] 3)).grown hg4 (hx.ne hw (by decide)); have hbe4 := hbt.trans hb4; have hck4 := (hbe4.cell (p := ⟨b, off + k, none⟩) hbl).trans hck; have hsz4 := hbe4.size)
          | (at_builtin; refine wp_pushI 26 22 .u64 Try.underlying26 info_u64 rfl (.tmp 53) (.tmp 55) rfl w.heap.size _ _ (hx4.alloc _) rfl ⟨w4.heap.size, 0, none⟩ 1 (r : Int) rfl (cell_one _ _ _) (by simp [xsB_len]; omega) (by simp; omega) ?_; intro v5 w5 hv5 hg5 hb5; have hw5 := (hv4.alloc (.cells #[.int .u64 (r : Int)] 22)).grown hg5 (hv4.ne hx4 (by decide)))
        go_roundw
        case rel =>
          refine ⟨k + 1, by omega, by go_num, ?_, ?_, ?_, ?_⟩
          · rw [HSN.out, HK.out]
          · rw [HWN.out, HK.out]; exact hw5
          · rw [HXN.out, HK.out, ← HR.out]; exact hv5
          · exact (hbe.trans hbe4).trans (((Below.refl w.heap.size w4).alloc (by omega) (.cells #[.int .u64 (r : Int)] 22)).trans hb5)
        case measure => simp [intOf]; omega
      · obtain ⟨r, hr⟩ : ∃ r : Nat, r = x % 256 ^ K := ⟨_, rfl⟩
        have hrx : r = x := by
          have : K = 8 := by omega
          rw [hr, this]
          exact Nat.mod_eq_of_lt (by omega)
        have HR := Lib.hid hr
        clear hrr hr
        subst hrx
        go_wp2_with first
          | (at_builtin; refine wp_pushI 27 3 .i64 Try.underlying27 info_int rfl (.tmp 35) (.tmp 37) rfl w.heap.size _ _ (hw.alloc _) rfl ⟨wr.heap.size, 0, none⟩ 1 K rfl (cell_one _ _ _) (by simp [wsB_len]; omega) (by simp; omega) ?_; intro v4 w4 hv4 hg4 hb4; have hx4 := (hx.alloc (.cells #[.int .i64 (K : Int)] 3)).grown hg4 (hx.ne hw (by decide)); have hbe4 := hbt.trans hb4; have hck4 := (hbe4.cell (p := ⟨b, off + k, none⟩) hbl).trans hck; have hsz4 := hbe4.size)
          | (at_builtin; refine wp_pushI 26 22 .u64 Try.underlying26 info_u64 rfl (.tmp 53) (.tmp 55) rfl w.heap.size _ _ (hx4.alloc _) rfl ⟨w4.heap.size, 0, none⟩ 1 (r : Int) rfl (cell_one _ _ _) (by simp [xsB_len]; omega) (by simp; omega) ?_; intro v5 w5 hv5 hg5 hb5; have hw5 := (hv4.alloc (.cells #[.int .u64 (r : Int)] 22)).grown hg5 (hv4.ne hx4 (by decide)))
        go_roundw
        case rel =>
          refine ⟨k + 1, by omega, by go_num, ?_, ?_, ?_, ?_⟩
          · rw [HSN.out, HK.out]
          · rw [HWN.out, HK.out]; exact hw5
          · rw [HXN.out, HK.out, ← HR.out]; exact hv5
          · exact (hbe.trans hbe4).trans (((Below.refl w.heap.size w4).alloc (by omega) (.cells #[.int .u64 (r : Int)] 22)).trans hb5)
        case measure => simp [intOf]; omega
    · obtain rfl : k = N := by omega
      clear hlt hk
      obtain ⟨A1, c1, rfl⟩ := hw.shape
      obtain ⟨A2, c2, rfl⟩ := hx.shape
      have hwi := hw.ints
      have hxi := hx.ints
      rw [wsB_len] at hwi
      rw [xsB_len] at hxi
      have hwl := wsB_len us k
      have hxl := xsB_len ls us k
      rw [hwl] at hw ⊢
      rw [hxl] at hx ⊢
      obtain ⟨h1, h2, h3⟩ := back_enc ls us k hN64
      have hok := wsB_ok us k hN64
      have hxu := xsB_u64 ls us k
      have hxd : xsB ls us k = (xsN ls us k).map fun n : Nat => (n : Int) := rfl
      have hxnl := xsN_len ls us k
      generalize xsB ls us k = X at *
      generalize wsB us k = Y at *
      generalize xsN ls us k = Z at *
      have H1 := Lib.hid h1
      have H2 := Lib.hid h2
      have H3 := Lib.hid h3
      have H4 := Lib.hid hxu
      have H5 := Lib.hid hxd
      have H6 := Lib.hid hxnl
      clear h1 h2 h3 hxu hxd hw hx hwl hxl hxnl
      obtain ⟨S, hS⟩ : ∃ S, sumW Y = S := ⟨_, rfl⟩
      rw [hS] at hsb H2 ⊢
      have HS := Lib.hid hS
      clear hS
      go_wp2_with fail
      refine (encode_any wr A2 A1 k c2 k c1 X Y hxi hwi (by omega) H4.out).mono ?_
      rintro e w5 ⟨rfl, hb5⟩
      have hbe5 := hbe.trans (hb5.mono hsW)
      have hsz5 := hb5.size
      rw [H1.out]
      generalize encS X Y = E at *
      obtain rfl := H2.out
      have hbeq : ((E.size : Int) == (E.size : Int)) = true := by simp
      go_wp2_with fail
      refine (decode_ok w5 E A1 k c1 Y ((hwi.below hb5).mono hsz5) (by omega) hok HS.out.symm).mono ?_
      rintro e w6 ⟨rfl, hrow, hb6⟩
      rw [H3.out, ivn_ints, ← H5.out] at hrow
      have hXl : X.length = k := by rw [H5.out, List.length_map, H6.out]
      have hyi := IntsA.blk (B := w6.heap.size) hrow hXl hrow.lt
      have hbe6 := hbe5.trans (hb6.mono hbe5.size)
      have hxi6 := ((hxi.below hb5).mono hsz5).below hb6
      have hxi7 := hxi6.mono hb6.size
      clear hrow hbe5 hb5 hb6 hxi hxi6 hwi hsb hXl
      go_wp2_with fail
      refine (same_any w6 A2 _ k c2 k k X X hxi7 hyi (by omega) (by omega)).mono ?_
      rintro e w7 ⟨rfl, hb7⟩
      rw [show sameP X X = true by unfold sameP; simp]
      have hbe7 := hbe6.trans (hb7.mono hbe6.size)
      clear hbe6 hb7 hxi7 hyi
      go_wp2_with fail
      refine (shown_any _).mono ?_
      rintro e w9 ⟨rfl, hb9⟩
      have hbe9 := hbe7.trans (hb9.mono hbe7.size)
      clear hbe7 hb9
      go_wp2_with fail
      go_ret
      exact ⟨rfl, hbe9⟩

theorem packBack_walk (A : Option Addr) (n c : Nat) (zs : List Int) (A' : Option Addr) (m c' : Nat) (zs' : List Int) (w : World) (h : RowIn .u64 w A n c zs) (h' : RowIn .u8 w A' m c' zs') :
    Calls Try.prog 6 #[.slice A n c, .slice A' m c'] w fun e w' => e = .returned (.bool true) ∧ Below w.heap.size w w' := by
  obtain ⟨hl, hu, _⟩ := h.ints
  obtain ⟨hl', hu', _⟩ := h'.ints
  exact packBack_go w A A' n c m c' _ _ hl hl' (fun x hx => by have := bounds_u8 (hu' x hx); omega) (fun x hx => by have := bounds_u64 (hu x hx); omega)
end Go.Proofs.Ytoaihohfbdfbcaa
