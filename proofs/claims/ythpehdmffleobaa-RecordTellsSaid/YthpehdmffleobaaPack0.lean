import Derived.Test.YthpehdmffleobaaB1
namespace Go.Proofs.Ythpehdmffleobaa
open Go.RowKit Go.OpenShut

/-- a slice of integers that reads as xs, in a block below B (nil let in) -/
def IntsA (w : World) (B : Nat) (k : IntKind) (A : Option Addr) (n : Nat) (xs : List Int) : Prop :=
  xs.length = n ∧ (0 < n → ∃ b off, A = some ⟨b, off, none⟩ ∧ b < B ∧ ∀ j, j < n → w.cell? ⟨b, off + j, none⟩ = some (.int k (xs.getD j 0)))
theorem IntsA.below {w w' : World} {B : Nat} {k : IntKind} {A : Option Addr} {n : Nat} {xs : List Int} (h : IntsA w B k A n xs) (hb : Below B w w') : IntsA w' B k A n xs :=
  ⟨h.1, fun h0 => by
    obtain ⟨b, off, e, hlt, hc⟩ := h.2 h0
    exact ⟨b, off, e, hlt, fun j hj => (hb.cell (p := ⟨b, off + j, none⟩) hlt).trans (hc j hj)⟩⟩
theorem IntsA.mono {w : World} {B B' : Nat} {k : IntKind} {A : Option Addr} {n : Nat} {xs : List Int} (h : IntsA w B k A n xs) (hB : B ≤ B') : IntsA w B' k A n xs :=
  ⟨h.1, fun h0 => by
    obtain ⟨b, off, e, hlt, hc⟩ := h.2 h0
    exact ⟨b, off, e, Nat.lt_of_lt_of_le hlt hB, hc⟩⟩

def fitsB (n : Nat) (w : Int) : Bool := decide (1 ≤ w ∧ w ≤ 8) && decide (n < 256 ^ w.toNat)

theorem fits_eq (n k : Nat) (h1 : 1 ≤ k) (h2 : k ≤ 8) : ((n : Int) / ((256 ^ k : Nat) : Int) == 0) = fitsB n (k : Int) := by
  have hp : 0 < 256 ^ k := Nat.pow_pos (by omega)
  have h3 : (n : Int) / ((256 ^ k : Nat) : Int) = ((n / 256 ^ k : Nat) : Int) := by simp
  rw [h3, Bool.eq_iff_iff]
  unfold fitsB
  rw [decide_eq_true (show 1 ≤ (k : Int) ∧ (k : Int) ≤ 8 by omega)]
  simp only [beq_iff_eq, Bool.true_and, decide_eq_true_eq, Int.toNat_natCast]
  rw [← Nat.div_eq_zero_iff_lt hp]
  omega
theorem ret_bool {a b : Bool} (h : a = b) : Ending.returned (.bool a) = .returned (.bool b) := by rw [h]
set_option maxHeartbeats 1000000 in
theorem fits_any (w : World) (n : Nat) (hn : n < 18446744073709551616) (x : Int) :
    Calls Try.prog 62 #[.int .u64 n, .int .i64 x] w fun e w' => e = .returned (.bool (fitsB n x)) ∧ w = w' := by
  by_cases h8 : x = 8
  · subst h8
    have hf : fitsB n 8 = true := by unfold fitsB; simp; omega
    rw [hf]
    go_enter Try.func62, Try.ntmps62
    go_wp2
    go_ret
    exact ⟨rfl, rfl⟩
  · by_cases h0 : 0 < x ∧ x < 8
    · have hx : x = 1 ∨ x = 2 ∨ x = 3 ∨ x = 4 ∨ x = 5 ∨ x = 6 ∨ x = 7 := by omega
      clear h8 h0
      rcases hx with rfl | rfl | rfl | rfl | rfl | rfl | rfl
      · go_enter Try.func62, Try.ntmps62
        go_wp2
        go_ret
        exact ⟨ret_bool (fits_eq n 1 (by omega) (by omega)), rfl⟩
      · go_enter Try.func62, Try.ntmps62
        go_wp2
        go_ret
        exact ⟨ret_bool (fits_eq n 2 (by omega) (by omega)), rfl⟩
      · go_enter Try.func62, Try.ntmps62
        go_wp2
        go_ret
        exact ⟨ret_bool (fits_eq n 3 (by omega) (by omega)), rfl⟩
      · go_enter Try.func62, Try.ntmps62
        go_wp2
        go_ret
        exact ⟨ret_bool (fits_eq n 4 (by omega) (by omega)), rfl⟩
      · go_enter Try.func62, Try.ntmps62
        go_wp2
        go_ret
        exact ⟨ret_bool (fits_eq n 5 (by omega) (by omega)), rfl⟩
      · go_enter Try.func62, Try.ntmps62
        go_wp2
        go_ret
        exact ⟨ret_bool (fits_eq n 6 (by omega) (by omega)), rfl⟩
      · go_enter Try.func62, Try.ntmps62
        go_wp2
        go_ret
        exact ⟨ret_bool (fits_eq n 7 (by omega) (by omega)), rfl⟩
    · have hf : fitsB n x = false := by unfold fitsB; simp; omega
      rw [hf]
      have hb : (x == 8) = false := beq_eq_false_iff_ne.2 h8
      by_cases h1 : 0 < x
      · have h2 : ¬ x < 8 := by omega
        clear h0 h8
        go_enter Try.func62, Try.ntmps62
        go_wp2
        go_ret
        exact ⟨rfl, rfl⟩
      · clear h0 h8
        go_enter Try.func62, Try.ntmps62
        go_wp2
        go_ret
        exact ⟨rfl, rfl⟩

/-- widths that may be -/
def wOK (ws : List Int) : Bool := ws.all (fun x => decide (1 ≤ x ∧ x ≤ 8)) && decide (ws.length ≤ 64)
def sumW : List Int → Int
  | [] => 0
  | x :: r => x + sumW r
theorem sumW_snoc (l : List Int) (x : Int) : sumW (l ++ [x]) = sumW l + x := by
  induction l with
  | nil => simp [sumW]
  | cons y l ih => simp only [List.cons_append, sumW, ih]; omega
theorem sumW_bd (l : List Int) (h : ∀ x ∈ l, 1 ≤ x ∧ x ≤ 8) : (l.length : Int) ≤ sumW l ∧ sumW l ≤ 8 * l.length := by
  induction l with
  | nil => simp [sumW]
  | cons y l ih =>
    have h1 := h y (by simp)
    have h2 := ih (fun x hx => h x (by simp [hx]))
    simp only [sumW, List.length_cons]
    omega
theorem take_snocI (l : List Int) (k : Nat) (h : k < l.length) : l.take (k + 1) = l.take k ++ [l.getD k 0] := by
  rw [List.take_succ_eq_append_getElem h]
  simp [List.getD, h]

def sizeN (ws : List Int) : Int := if wOK ws then sumW ws else 0
def sizeE (ws : List Int) : Int := if wOK ws then 0 else 1
theorem size_no {ws : List Int} (h : wOK ws = false) : sizeN ws = 0 ∧ sizeE ws = 1 := by unfold sizeN sizeE; rw [h]; exact ⟨rfl, rfl⟩
theorem size_yes {ws : List Int} (h : wOK ws = true) : sizeN ws = sumW ws ∧ sizeE ws = 0 := by unfold sizeN sizeE; rw [h]; exact ⟨rfl, rfl⟩
set_option maxHeartbeats 1000000 in
theorem size_any (w : World) (B : Nat) (A : Option Addr) (n c : Nat) (ws : List Int) (h : IntsA w B .i64 A n ws) (hn : n ≤ 4294967295) :
    Calls Try.prog 50 #[.slice A n c] w fun e w' => e = .returned (.tuple #[.int .i64 (sizeN ws), .int .i64 (sizeE ws)]) ∧ w = w' := by
  have hl := h.1
  have HL := Lib.hid hl
  clear hl
  go_enter Try.func50, Try.ntmps50
  go_wp2
  go_loop [4, 9] (fun t i => ∃ k : Nat, k ≤ n ∧ i = .int .i64 k ∧ t = .int .i64 (sumW (ws.take k)) ∧ (∀ x ∈ ws.take k, 1 ≤ x ∧ x ≤ 8)) (fun _ i => n - (intOf i).toNat)
  case atStart => exact ⟨0, by omega, rfl, rfl, by simp⟩
  case round =>
    obtain ⟨k, hk, rfl, rfl, hall⟩ := hrel
    have hbd := sumW_bd _ hall
    have hlt' : (ws.take k).length ≤ k := List.length_take_le _ _
    have hb0 : 0 ≤ sumW (ws.take k) := by omega
    have hb1 : sumW (ws.take k) ≤ 34359738360 := by omega
    by_cases hlt : k < n
    · obtain ⟨b, off, rfl, _, hc⟩ := h.2 (by omega)
      have hck := hc k hlt
      have hts := take_snocI ws k (by rw [HL.out]; exact hlt)
      have HTS := Lib.hid hts
      have hx : ws.getD k 0 ∈ ws := by
        have : k < ws.length := by rw [HL.out]; exact hlt
        simp [List.getD, this]
      obtain ⟨x, hxe⟩ : ∃ x, ws.getD k 0 = x := ⟨_, rfl⟩
      have HX := Lib.hid hxe
      rw [hxe] at hck hx
      have HM := Lib.hid hx
      obtain ⟨t, ht⟩ : ∃ t, sumW (ws.take k) = t := ⟨_, rfl⟩
      have HT := Lib.hid ht
      rw [ht] at hb0 hb1 ⊢
      clear hc hbd hts hxe hx hlt' ht
      have HA := Lib.hid hall
      clear hall
      by_cases hr : 1 ≤ x ∧ x ≤ 8
      · obtain ⟨hr1, hr2⟩ := hr
        go_wp2
        go_round
        case rel => 
          refine ⟨k + 1, by omega, by go_num, ?_, ?_⟩
          · rw [HTS.out, sumW_snoc, HT.out, HX.out]
          · rw [HTS.out, HX.out]
            intro y hy
            rcases List.mem_append.1 hy with hy | hy
            · exact HA.out y hy
            · simp at hy
              subst hy
              exact ⟨hr1, hr2⟩
        case measure => simp [intOf]; omega
      · have hno : wOK ws = false := by
          unfold wOK
          rw [Bool.and_eq_false_iff]
          left
          rw [List.all_eq_false]
          exact ⟨x, HM.out, by simpa using fun h1 => by omega⟩
        have HNO := Lib.hid hno
        clear hno
        by_cases hx1 : x < 1
        · clear hr
          go_wp2
          go_ret2
          exact ⟨by rw [(size_no HNO.out).1, (size_no HNO.out).2]; rfl, rfl⟩
        · have hx8 : 8 < x := by omega
          clear hr
          go_wp2
          go_ret2
          exact ⟨by rw [(size_no HNO.out).1, (size_no HNO.out).2]; rfl, rfl⟩
    · obtain rfl : k = n := by omega
      have hta : ws.take k = ws := List.take_of_length_le (by rw [HL.out]; omega)
      rw [hta] at hall hb0 hb1 ⊢
      by_cases h64 : k ≤ 64
      · have hok : wOK ws = true := by
          unfold wOK
          rw [List.all_eq_true.2 (fun x hx => by simpa using hall x hx), decide_eq_true (by rw [HL.out]; exact h64)]
          rfl
        have HOK := Lib.hid hok
        clear hok hall hta
        go_wp2
        go_ret2
        exact ⟨by rw [(size_yes HOK.out).1, (size_yes HOK.out).2]; rfl, rfl⟩
      · have hno : wOK ws = false := by
          unfold wOK
          rw [decide_eq_false (by rw [HL.out]; exact h64)]
          simp
        have HNO := Lib.hid hno
        clear hno hall hta
        go_wp2
        go_ret2
        exact ⟨by rw [(size_no HNO.out).1, (size_no HNO.out).2]; rfl, rfl⟩
end Go.Proofs.Ythpehdmffleobaa
