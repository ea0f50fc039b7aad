import Derived.Test.YthpehdmffleobaaPack0
import Derived.Test.YthpehdmffleobaaRange
namespace Go.Proofs.Ythpehdmffleobaa
open Go.RowKit Go.OpenShut
attribute [local go_sem] Oper.semAt_some

/-- places of bytes: whose number's, which one -/
def placesF : Nat → List Int → List (Nat × Nat)
  | _, [] => []
  | i, x :: r => ((List.range x.toNat).map fun k => (i, k)) ++ placesF (i + 1) r
theorem placesF_snoc (i : Nat) (l : List Int) (x : Int) : placesF i (l ++ [x]) = placesF i l ++ ((List.range x.toNat).map fun k => (i + l.length, k)) := by
  induction l generalizing i with
  | nil => simp [placesF]
  | cons y l ih =>
    simp only [List.cons_append, placesF, ih, List.append_assoc, List.length_cons]
    congr 3
    funext k
    congr 1
    omega
def placesP (ws : List Int) (i k : Nat) : List (Nat × Nat) := placesF 0 (ws.take i) ++ ((List.range k).map fun k => (i, k))
theorem placesP_next (ws : List Int) (i k : Nat) : placesP ws i (k + 1) = placesP ws i k ++ [(i, k)] := by simp [placesP, List.range_succ]
theorem placesP_zero (ws : List Int) (i : Nat) : placesP ws i 0 = placesF 0 (ws.take i) := by simp [placesP]
theorem placesP_over (ws : List Int) (i : Nat) (h : i < ws.length) : placesP ws i (ws.getD i 0).toNat = placesP ws (i + 1) 0 := by
  rw [placesP_zero, take_snocI ws i h, placesF_snoc]
  simp [placesP, Nat.min_eq_left (Nat.le_of_lt h)]
theorem placesF_length (i : Nat) (l : List Int) (h : ∀ x ∈ l, 1 ≤ x ∧ x ≤ 8) : ((placesF i l).length : Int) = sumW l := by
  induction l generalizing i with
  | nil => rfl
  | cons y l ih =>
    have h1 := h y (by simp)
    have h2 := ih (i + 1) (fun x hx => h x (by simp [hx]))
    simp only [placesF, List.length_append, List.length_map, List.length_range, sumW]
    omega
theorem sumW_append (l m : List Int) : sumW (l ++ m) = sumW l + sumW m := by
  induction l with
  | nil => simp [sumW]
  | cons y l ih => simp only [List.cons_append, sumW, ih]; omega
theorem placesP_lt (ws : List Int) (h : ∀ x ∈ ws, 1 ≤ x ∧ x ≤ 8) (i k : Nat) (hi : i < ws.length) (hk : (k : Int) < ws.getD i 0) : ((placesP ws i k).length : Int) < sumW ws := by
  have h1 := placesF_length 0 (ws.take i) (fun x hx => h x (List.mem_of_mem_take hx))
  have h2 : ws = ws.take (i + 1) ++ ws.drop (i + 1) := (List.take_append_drop _ _).symm
  have h3 : sumW ws = sumW (ws.take i) + ws.getD i 0 + sumW (ws.drop (i + 1)) := by
    conv => lhs; rw [h2]
    rw [sumW_append, take_snocI ws i hi, sumW_snoc]
  have h4 := (sumW_bd (ws.drop (i + 1)) (fun x hx => h x (List.mem_of_mem_drop hx))).1
  simp only [placesP, List.length_append, List.length_map, List.length_range]
  omega

abbrev Pl (n : Nat) := { p : Nat × Nat // p.1 < n ∧ p.2 < 8 }
def plEnc {n : Nat} (x : Pl n) : Array Value := #[.int .i64 (x.1.1 : Int), .int .i64 (8 * (x.1.2 : Int))]

theorem places_any (w : World) (A : Option Addr) (n c : Nat) :
    Calls Try.prog 51 #[.slice A n c] w fun e w' => e = .returned (.func (.func 60) #[] #[.pointer (some ⟨w.heap.size, 0, none⟩)]) ∧ w' = w.alloc (.cells #[.slice A n c] 73) := by
  go_enter Try.func51, Try.ntmps51
  go_wp2
  go_ret
  exact ⟨rfl, rfl⟩

set_option maxRecDepth 100000 in
set_option maxHeartbeats 2000000 in
theorem places1_in (m : Nat) (hm : 1 ≤ m) (l Bs n₀ : Nat) (A : Option Addr) (n c : Nat) (ws : List Int) (hws : ∀ x ∈ ws, 1 ≤ x ∧ x ≤ 8) (hn : n ≤ 4294967295) (J Jx : List (Pl n) → World → Prop)
    (hY : ∀ pre x W, J pre W → pre.length < (sumW ws).toNat → YieldAt Fence.wide (m - 1) Try.prog l (plEnc x) W fun e W' =>
      (e = .returned (.bool true) ∧ J (pre ++ [x]) W' ∧ Below n₀ W W') ∨ (e = .returned (.bool false) ∧ Jx (pre ++ [x]) W'))
    (W : World) (hBs : W.cell? ⟨Bs, 0, none⟩ = some (.slice A n c)) (hI : IntsA W n₀ .i64 A n ws) (h0 : J [] W) :
    CallsIn Fence.wide m Try.prog 60 #[.func (.yield l) #[] #[], .pointer (some ⟨Bs, 0, none⟩)] W fun e W' => (∃ v, e = .returned v) ∧
      ((∃ ys : List (Pl n), ys.map (·.1) = placesF 0 ws ∧ J ys W') ∨ (∃ pre : List (Pl n), True ∧ Jx pre W')) := by
  have HL := Lib.hid hI.1
  have HWS := Lib.hid hws
  clear hws
  refine callsIn_of_wp Try.func60 rfl trivial ?_ rfl
  simp only [Try.ntmps60, List.size_toArray, List.length_cons, List.length_nil, Nat.reduceAdd, Nat.reduceSub, Array.replicate_succ, Array.replicate_zero, List.push_toArray, List.append_toArray, List.nil_append, List.cons_append]
  gi_wp2
  gi_loopw [8] (fun i wr => ∃ (k : Nat) (pre : List (Pl n)), k ≤ n ∧ i = .int .i64 k ∧ pre.map (·.1) = placesP ws k 0 ∧ J pre wr ∧ Below n₀ W wr) (fun i _ => n - (intOf i).toNat)
  case atStart => exact ⟨0, [], Nat.zero_le _, rfl, by simp [placesP, placesF], h0, Below.refl _ _⟩
  case round =>
    obtain ⟨k, pre, hk, rfl, hpre, hJ, hnx⟩ := hrel
    have HP := Lib.hid hpre
    clear hpre
    by_cases hlt : k < n
    · have hI2 := hI.below hnx
      obtain ⟨b, off, rfl, hbn, hc⟩ := hI2.2 (by omega)
      have hck := hc k hlt
      have hkl : k < ws.length := by rw [HL.out]; exact hlt
      have hx : ws.getD k 0 ∈ ws := by simp [List.getD, hkl]
      have hxb := HWS.out _ hx
      obtain ⟨x, hxe⟩ : ∃ x, ws.getD k 0 = x := ⟨_, rfl⟩
      have HX := Lib.hid hxe
      rw [hxe] at hck hxb
      obtain ⟨hx1, hx2⟩ := hxb
      obtain ⟨y, rfl⟩ := Int.eq_ofNat_of_zero_le (show 0 ≤ x by omega)
      clear hc hI2 hx hxe
      gi_wp2
      gi_loopw [14] (fun i wr => ∃ (j : Nat) (pre : List (Pl n)), j ≤ y ∧ i = .int .i64 j ∧ pre.map (·.1) = placesP ws k j ∧ J pre wr ∧ Below n₀ W wr) (fun i _ => y - (intOf i).toNat)
      case atStart => exact ⟨0, pre, Nat.zero_le _, rfl, HP.out, hJ, hnx⟩
      case round =>
        obtain ⟨j, pre, hj, rfl, hpre, hJ, hnx⟩ := hrel
        have HP := Lib.hid hpre
        clear hpre
        by_cases hjlt : j < y
        · obtain ⟨fn, tmps, assign, body, hy, hR⟩ := hY pre ⟨(k, j), hlt, by omega⟩ wr hJ (by
            have h1 := congrArg List.length HP.out
            rw [List.length_map] at h1
            have h2 := placesP_lt ws HWS.out k j hkl (by rw [HX.out]; omega)
            omega)
          dsimp only [plEnc] at hy
          gi_wp2
          refine hR.mono ?_
          rintro e W3 (⟨rfl, hJ3, hk3⟩ | ⟨rfl, hJx3⟩)
          · gi_wp2
            go_roundw
            case rel => exact ⟨j + 1, _, by omega, by go_num, by rw [List.map_append, HP.out, placesP_next]; rfl, hJ3, hnx.trans hk3⟩
            case measure => simp [intOf]; omega
          · gi_wp2
            refine bodyPost_ret (results_none rfl _ _ _) rfl ?_
            exact ⟨⟨_, rfl⟩, .inr ⟨_, trivial, hJx3⟩⟩
        · obtain rfl : j = y := by omega
          gi_wp2
          go_roundw
          case rel => exact ⟨k + 1, pre, by omega, by go_num, by rw [HP.out, ← placesP_over ws k hkl, HX.out]; rfl, hJ, hnx⟩
          case measure => simp [intOf]; omega
    · obtain rfl : k = n := by omega
      gi_wp2
      go_end0
      refine ⟨⟨_, rfl⟩, .inl ⟨pre, ?_, hJ⟩⟩
      rw [HP.out, placesP_zero, List.take_of_length_le (by rw [HL.out]; exact Nat.le_refl _)]

theorem places_stops (Bs n₀ : Nat) (A : Option Addr) (n c : Nat) (ws : List Int) (hws : ∀ x ∈ ws, 1 ≤ x ∧ x ≤ 8) (hn : n ≤ 4294967295) (w : World) (hBs : Bs < w.heap.size) (hn₀ : n₀ ≤ w.heap.size)
    (hc : w.cell? ⟨Bs, 0, none⟩ = some (.slice A n c)) (hI : IntsA w n₀ .i64 A n ws) :
    SeqStopsK Fence.wide 4 Try.prog 60 #[.pointer (some ⟨Bs, 0, none⟩)] (plEnc (n := n)) (Below n₀) (fun ys => ys.map (·.1) = placesF 0 ws) (fun _ => True) (sumW ws).toNat w :=
  fun l J Jx W hW _ _ hY h0 => places1_in 4 (by omega) l Bs n₀ A n c ws hws hn J Jx hY W ((hW.cell (p := ⟨Bs, 0, none⟩) hBs).trans hc) (hI.below (hW.mono hn₀)) h0
end Go.Proofs.Ythpehdmffleobaa
