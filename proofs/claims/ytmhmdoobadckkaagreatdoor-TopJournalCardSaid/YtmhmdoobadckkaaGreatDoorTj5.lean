/- Own texts, joined: Int0, CrcPlain, CrcMore, CSeal, Pag0, Pag, SuEq, SuMay, SuParts, SuW, COpen, SuEnc, SuEnc1, Slo, Zer, Shl, Rep, Wipe, Arr, Del, Del1. -/
import Derived.Test.YtmhmdoobadckkaaGreatDoorTj1
import Derived.Test.YtmhmdoobadckkaaGreatDoorTj3
import Derived.Test.YtmhmdoobadckkaaGreatDoorTj4
import Derived.Lib.BufferWrite
import Derived.Laws.BitsAllLaws
import Derived.Shelf.Strings.Repeat
import Derived.Ground.NamesProg
import Derived.Test.YtmhmdoobadckkaaGreatDoorProg
import Derived.Laws.OwnMore
/- The bitmap of regions in memory: New, Region, Bytes. -/
namespace Go.Proofs.YtmhmdoobadckkaaGreatDoor
set_option maxRecDepth 20000
open Go.RowKit Go.OpenShut

structure IM where
  rows : Nat
  stain : Nat
  busy : List Int
/-- the bitmap I at block g, its counters at block b -/
structure IntAt (w : World) (g b : Nat) (I : IM) : Prop where
  head : Blk w g 251 #[.int .i64 (I.rows : Int), .int .u64 (I.stain : Int), .slice (some ⟨b, 0, none⟩) I.busy.length I.busy.length]
  busy : Blk w b 3 (I.busy.map (Value.int .i64)).toArray
  ne : g ≠ b
  rows : 1 ≤ I.rows ∧ I.rows ≤ 256
  len : I.busy.length = (I.rows - 1) / 4 + 1
  bits : I.stain < 2 ^ I.busy.length
def IM.new (rows : Nat) : IM := ⟨rows, 0, List.replicate ((rows - 1) / 4 + 1) 0⟩
theorem region_any (w : World) (row : Nat) (h : row ≤ 100000) : Calls Tryz.prog 185 #[.int .i64 (row : Int)] w fun e w' => e = .returned (.int .i64 ((row / 4 : Nat) : Int)) ∧ w = w' := by
  have h1 : max (row : Int) 0 = (row : Int) := by omega
  have h2 : 0 ≤ (row : Int) := by omega
  have h3 : (row : Int) ≤ 100000 := by omega
  have E := Lib.hid (show (row : Int) / 4 = ((row / 4 : Nat) : Int) from (Int.natCast_ediv _ _).symm)
  clear h
  go_enter Tryz.func185, Tryz.ntmps185
  go_wp2_with fail
  go_ret
  exact ⟨ret_i64 E.out, rfl⟩
def MadeInt (w : World) (rows : Nat) (e : Ending) (w' : World) : Prop := ∃ g b, e = .returned (.pointer (some ⟨g, 0, none⟩)) ∧ IntAt w' g b (IM.new rows) ∧ w.heap.size ≤ g ∧ w.heap.size ≤ b ∧ Below w.heap.size w w'
set_option maxHeartbeats 1000000 in
theorem intNew_any (w : World) (rows : Nat) (h1 : 1 ≤ rows) (h2 : rows ≤ 256) : Calls Tryz.prog 94 #[.int .i64 (rows : Int)] w (MadeInt w rows) := by
  have hR := Lib.hid (region_any w (rows - 1) (by omega))
  have e1 : (rows : Int) - 1 = ((rows - 1 : Nat) : Int) := by omega
  have a1 : (1 : Int) ≤ rows := by omega
  have a2 : (rows : Int) ≤ 256 := by omega
  obtain ⟨q, hq⟩ : ∃ q, (rows - 1) / 4 = q := ⟨_, rfl⟩
  have hq1 : q ≤ 64 := by omega
  rw [hq] at hR
  have b1 : 0 ≤ (q : Int) := by omega
  have b2 : (q : Int) ≤ 64 := by omega
  obtain ⟨i0, hi, hz0, hz1, hz2⟩ := info_parts info_int
  have hr := run_make (P := Tryz.prog) w 30 3 i0 _ Tryz.underlying30 hi hz0 .i64 .i64 ((q : Int) + 1) ((q : Int) + 1) (by omega) (by omega) (by rw [hz2]; omega) (by omega)
  rw [hz1, Nat.mul_one, show ((q : Int) + 1).toNat = q + 1 by omega] at hr
  have HM := Lib.hid (show madeCells (Value.int IntKind.i64 0).cells (q + 1) = ((List.replicate (q + 1) (0 : Int)).map (Value.int .i64)).toArray from by
    apply Array.toList_inj.1
    rw [show (Value.int IntKind.i64 0).cells = #[.int .i64 0] from rfl, toList_madeCells_one]
    simp)
  rw [HM.out] at hr
  generalize hC : ((List.replicate (q + 1) (0 : Int)).map (Value.int .i64)).toArray = C at *
  have HC := Lib.hid hC
  have HQ := Lib.hid hq
  clear hq hC HM
  go_enter Tryz.func94, Tryz.ntmps94
  go_wp2_with (go_at_call 185; refine hR.out.mono ?_; rintro e w1 ⟨rfl, rfl⟩)
  go_ret
  refine ⟨w.heap.size + 1, w.heap.size, rfl, ⟨?_, ?_, by omega, ⟨h1, h2⟩, ?_, ?_⟩, by omega, by omega, ((Below.refl _ _).alloc (Nat.le_refl _) _).alloc (by simp) _⟩
  · have e : (IM.new rows).busy.length = q + 1 := by simp [IM.new, HQ.out]
    rw [e]
    exact Blk.newAt (by simp)
  · have e : (IM.new rows).busy.map (Value.int .i64) = (List.replicate (q + 1) (0 : Int)).map (Value.int .i64) := by simp [IM.new, HQ.out]
    rw [e, HC.out]
    exact (Blk.new w _ C).alloc _
  · simp [IM.new]
  · show 0 < _
    exact Nat.pow_pos (by omega)
def le8 (n : Nat) : List UInt8 := (List.range 8).map fun i => UInt8.ofNat (n / 256 ^ i % 256)
def le8c (s : Nat) : Array Value := #[.int .u8 ((s : Int) % 256), .int .u8 ((s : Int) / 256 % 256), .int .u8 ((s : Int) / 65536 % 256), .int .u8 ((s : Int) / 16777216 % 256), .int .u8 ((s : Int) / 4294967296 % 256), .int .u8 ((s : Int) / 1099511627776 % 256), .int .u8 ((s : Int) / 281474976710656 % 256), .int .u8 ((s : Int) / 72057594037927936 % 256)]
theorem le8_cell (s i : Nat) (h : i < 8) : (le8c s)[i]? = some (bc ((le8 s)[i]'(by simpa [le8] using h))) := by
  have e : (le8 s)[i]'(by simpa [le8] using h) = UInt8.ofNat (s / 256 ^ i % 256) := by simp [le8]
  rw [e]
  have e2 : (UInt8.ofNat (s / 256 ^ i % 256)).toNat = s / 256 ^ i % 256 := by simp
  unfold bc
  rw [e2]
  rcases (show i = 0 ∨ i = 1 ∨ i = 2 ∨ i = 3 ∨ i = 4 ∨ i = 5 ∨ i = 6 ∨ i = 7 by omega) with rfl | rfl | rfl | rfl | rfl | rfl | rfl | rfl <;> simp [le8c]
def stS (n : Nat) : Sec := ⟨(le8 n).toArray⟩
set_option maxHeartbeats 2000000 in
theorem bytes_int (w : World) (g b : Nat) (I : IM) (h : IntAt w g b I) : Calls Tryz.prog 189 #[.pointer (some ⟨g, 0, none⟩)] w fun e w' => e = .returned (.string (stS I.stain)) ∧ Below w.heap.size w w' := by
  have hq := h.head.cell
  have hlt := h.head.lt
  have hst : I.stain < 18446744073709551616 := by
    have h1 := h.bits
    have h2 := h.len
    have h3 := h.rows.2
    have : 2 ^ I.busy.length ≤ 2 ^ 64 := Nat.pow_le_pow_right (by omega) (by omega)
    omega
  obtain ⟨s, hs⟩ : ∃ s, I.stain = s := ⟨_, rfl⟩
  rw [hs] at hq hst ⊢
  have hst' : (s : Int) < 18446744073709551616 := by omega
  have hs0 : 0 ≤ (s : Int) := by omega
  have hcv : ∀ c, (convert 62 9 (.slice (some ⟨w.heap.size, 0, none⟩) 8 c)).run Tryz.prog (w.alloc (.cells (le8c s) 277)) = .ok (.string (stS s)) (w.alloc (.cells (le8c s) 277)) := fun c => by
    have h1 := conv_cells (w := w.alloc (.cells (le8c s) 277)) (b := w.heap.size) (off := 0) (cap := c) (l := le8 s) (fun i hi => by
      rw [Nat.zero_add, (Blk.new w _ (le8c s)).cell]
      exact le8_cell s i (by simpa [le8] using hi))
    exact h1
  unfold le8c at hcv
  rw [show (s : Int) / 72057594037927936 % 256 = (s : Int) / 72057594037927936 by omega] at hcv
  clear h hs
  go_enter Tryz.func189, Tryz.ntmps189
  go_wp2_with fail
  refine wp_loop_rounds 9 ?_
  rw [rounds_succ]
  go_wp2_with fail
  rw [rounds_succ]
  go_wp2_with fail
  rw [rounds_succ]
  go_wp2_with fail
  rw [rounds_succ]
  go_wp2_with fail
  rw [rounds_succ]
  go_wp2_with fail
  rw [rounds_succ]
  go_wp2_with fail
  rw [rounds_succ]
  go_wp2_with fail
  rw [rounds_succ]
  go_wp2_with fail
  rw [rounds_succ]
  go_wp2_with fail
  go_ret
  exact ⟨rfl, (Below.refl _ _).alloc (Nat.le_refl _) _⟩
end Go.Proofs.YtmhmdoobadckkaaGreatDoor
/- The plain law of the sum: steps over numbers below 2^32, by exclusive or; what is linear, what is told apart. -/
namespace Go.Proofs.YtmhmdoobadckkaaGreatDoor
set_option maxRecDepth 20000

/-- one step of the sum -/
def cst (x : Nat) : Nat := x / 2 ^^^ (2197175160 * (x % 2))
def cstn : Nat → Nat → Nat
  | 0, x => x
  | n + 1, x => cst (cstn n x)
def chalf (y : Nat) : Nat := y / 16 ^^^ cstn 4 (y % 16)
def cbyte (y b : Nat) : Nat := chalf (chalf (y ^^^ b))
def csum (y : Nat) (l : List UInt8) : Nat := l.foldl (fun y b => cbyte y b.toNat) y
def cmore (n : Nat) (l : List UInt8) : Nat := 4294967295 - csum (4294967295 - n) l

theorem cst_lt (x : Nat) (h : x < 4294967296) : cst x < 4294967296 := by
  unfold cst
  have h2 : x % 2 = 0 ∨ x % 2 = 1 := by omega
  exact Nat.xor_lt_two_pow (n := 32) (by omega) (by rcases h2 with h2 | h2 <;> rw [h2] <;> omega)
theorem cstn_lt (n x : Nat) (h : x < 4294967296) : cstn n x < 4294967296 := by
  induction n with
  | zero => exact h
  | succ n ih => exact cst_lt _ ih
theorem chalf_lt (y : Nat) (hy : y < 4294967296) : chalf y < 4294967296 := by
  unfold chalf
  exact Nat.xor_lt_two_pow (n := 32) (by omega) (cstn_lt _ _ (by omega))
theorem csum_snoc (y : Nat) (l : List UInt8) (b : UInt8) : csum y (l ++ [b]) = cbyte (csum y l) b.toNat := by simp [csum]
theorem csum_append (y : Nat) (l m : List UInt8) : csum y (l ++ m) = csum (csum y l) m := by simp [csum]
theorem cbyte_lt (y b : Nat) (hy : y < 4294967296) (hb : b < 256) : cbyte y b < 4294967296 :=
  chalf_lt _ (chalf_lt _ (Nat.xor_lt_two_pow (n := 32) (by omega) (by omega)))
theorem csum_lt (l : List UInt8) (y : Nat) (hy : y < 4294967296) : csum y l < 4294967296 := by
  induction l generalizing y with
  | nil => exact hy
  | cons b l ih => exact ih _ (cbyte_lt _ _ hy b.toNat_lt)
theorem cmore_lt (n : Nat) (l : List UInt8) : cmore n l < 4294967296 := by unfold cmore; omega
theorem cmore_append (n : Nat) (l m : List UInt8) : cmore n (l ++ m) = cmore (cmore n l) m := by
  have h := csum_lt l (4294967295 - n) (by omega)
  unfold cmore
  rw [csum_append, show 4294967295 - (4294967295 - csum (4294967295 - n) l) = csum (4294967295 - n) l by omega]
theorem cmore_nil (n : Nat) (hn : n < 4294967296) : cmore n [] = n := by
  show 4294967295 - (4294967295 - n) = n
  omega

/-! ### exclusive or -/
theorem x_comm4 (a b c d : Nat) : (a ^^^ b) ^^^ (c ^^^ d) = (a ^^^ c) ^^^ (b ^^^ d) := by
  rw [Nat.xor_assoc, Nat.xor_assoc, ← Nat.xor_assoc b c d, ← Nat.xor_assoc c b d, Nat.xor_comm b c]
theorem x_cancel {a b : Nat} (h : a ^^^ b = 0) : a = b := by
  have h1 : (a ^^^ b) ^^^ b = 0 ^^^ b := by rw [h]
  rwa [Nat.xor_assoc, Nat.xor_self, Nat.xor_zero, Nat.zero_xor] at h1
theorem x_mul2 (p x y : Nat) : p * ((x ^^^ y) % 2) = p * (x % 2) ^^^ p * (y % 2) := by
  have h := @Nat.xor_mod_two_pow x y 1
  rw [show 2 ^ 1 = 2 from rfl] at h
  rw [h]
  have h1 : x % 2 = 0 ∨ x % 2 = 1 := by omega
  have h2 : y % 2 = 0 ∨ y % 2 = 1 := by omega
  rcases h1 with h1 | h1 <;> rcases h2 with h2 | h2 <;> rw [h1, h2] <;> simp
/-- all bits of 32 turned -/
theorem x_not (n : Nat) (hn : n < 4294967296) : 4294967295 ^^^ n = 4294967295 - n := by
  apply Nat.eq_of_testBit_eq
  intro i
  have h2 := Nat.testBit_two_pow_sub_succ (x := n) (n := 32) (by omega) i
  rw [show 2 ^ 32 - (n + 1) = 4294967295 - n by omega] at h2
  rw [h2, Nat.testBit_xor]
  have h3 := Nat.testBit_two_pow_sub_one 32 i
  rw [show 2 ^ 32 - 1 = 4294967295 by omega] at h3
  rw [h3]
  by_cases hi : i < 32
  · simp [hi]
  · have : n.testBit i = false := Nat.testBit_lt_two_pow (Nat.lt_of_lt_of_le hn (by rw [show 4294967296 = 2 ^ 32 by omega]; exact Nat.pow_le_pow_right (by omega) (by omega)))
    simp [hi, this]

/-! ### steps are linear -/
theorem cst_xor (x y : Nat) : cst (x ^^^ y) = cst x ^^^ cst y := by
  unfold cst
  rw [Nat.xor_div_two, x_mul2, x_comm4]
theorem cstn_xor (n x y : Nat) : cstn n (x ^^^ y) = cstn n x ^^^ cstn n y := by
  induction n with
  | zero => rfl
  | succ n ih => show cst _ = _; rw [ih, cst_xor]; rfl
theorem cst_zero : cst 0 = 0 := by decide
theorem cstn_zero (n : Nat) : cstn n 0 = 0 := by
  induction n with
  | zero => rfl
  | succ n ih => show cst _ = _; rw [ih]; rfl
theorem cstn_add (n m x : Nat) : cstn (n + m) x = cstn n (cstn m x) := by
  induction n with
  | zero => rw [Nat.zero_add]; rfl
  | succ n ih => rw [show n + 1 + m = (n + m) + 1 by omega]; show cst _ = cst _; rw [ih]
theorem cstn_pow (n q : Nat) : cstn n (q * 2 ^ n) = q := by
  induction n generalizing q with
  | zero => simp [cstn]
  | succ n ih =>
    show cst _ = q
    rw [show q * 2 ^ (n + 1) = (q * 2) * 2 ^ n by rw [Nat.pow_succ, Nat.mul_comm (2 ^ n) 2, Nat.mul_assoc], ih (q * 2)]
    unfold cst
    rw [show q * 2 / 2 = q by omega, show q * 2 % 2 = 0 by omega]
    simp
theorem split_pow (n y : Nat) : y = (y / 2 ^ n * 2 ^ n) ^^^ (y % 2 ^ n) := by
  apply Nat.eq_of_testBit_eq
  intro i
  rw [Nat.testBit_xor, Nat.testBit_mul_two_pow, Nat.testBit_div_two_pow, Nat.testBit_mod_two_pow]
  by_cases h : i < n
  · simp [h, show ¬ n ≤ i by omega]
  · have e : i - n + n = i := by omega
    simp [h, e, show n ≤ i by omega]
theorem chalf_eq (y : Nat) : chalf y = cstn 4 y := by
  have h := split_pow 4 y
  unfold chalf
  conv => rhs; rw [h]
  rw [cstn_xor, cstn_pow]
theorem cbyte_eq (y b : Nat) : cbyte y b = cstn 8 (y ^^^ b) := by
  unfold cbyte
  rw [chalf_eq, chalf_eq, ← cstn_add]

/-! ### what is told apart -/
theorem cst_inj0 (z : Nat) (hz : z < 4294967296) (h : cst z = 0) : z = 0 := by
  have h1 := x_cancel h
  have h2 : z % 2 = 0 ∨ z % 2 = 1 := by omega
  rcases h2 with h2 | h2 <;> rw [h2] at h1 <;> omega
theorem cstn_inj0 (n z : Nat) (hz : z < 4294967296) (h : cstn n z = 0) : z = 0 := by
  induction n with
  | zero => exact h
  | succ n ih => exact ih (cst_inj0 _ (cstn_lt _ _ hz) h)
theorem cstn_inj (n x y : Nat) (hx : x < 4294967296) (hy : y < 4294967296) (h : cstn n x = cstn n y) : x = y := by
  apply x_cancel
  apply cstn_inj0 n _ (Nat.xor_lt_two_pow (n := 32) hx hy)
  rw [cstn_xor, h, Nat.xor_self]
theorem csum_inj (l : List UInt8) (x y : Nat) (hx : x < 4294967296) (hy : y < 4294967296) (h : csum x l = csum y l) : x = y := by
  induction l generalizing x y with
  | nil => exact h
  | cons b l ih =>
    have h1 := ih _ _ (cbyte_lt _ _ hx b.toNat_lt) (cbyte_lt _ _ hy b.toNat_lt) h
    rw [cbyte_eq, cbyte_eq] at h1
    have h2 := cstn_inj 8 _ _ (Nat.xor_lt_two_pow (n := 32) hx (Nat.lt_trans b.toNat_lt (by omega))) (Nat.xor_lt_two_pow (n := 32) hy (Nat.lt_trans b.toNat_lt (by omega))) h1
    apply x_cancel
    have h3 : (x ^^^ b.toNat) ^^^ (y ^^^ b.toNat) = 0 := by rw [h2, Nat.xor_self]
    rwa [x_comm4, Nat.xor_self, Nat.xor_zero] at h3
/-- sums of two texts of one length, added -/
def zipX (l m : List UInt8) : List UInt8 := List.zipWith (fun a b => a ^^^ b) l m
theorem csum_zip (l m : List UInt8) (h : l.length = m.length) (x y : Nat) : csum (x ^^^ y) (zipX l m) = csum x l ^^^ csum y m := by
  induction l generalizing m x y with
  | nil =>
    cases m with
    | nil => rfl
    | cons b m => simp at h
  | cons a l ih =>
    cases m with
    | nil => simp at h
    | cons b m =>
      show csum (cbyte (x ^^^ y) (a ^^^ b).toNat) (zipX l m) = csum (cbyte x a.toNat) l ^^^ csum (cbyte y b.toNat) m
      rw [← ih m (by simpa using h)]
      congr 1
      rw [cbyte_eq, cbyte_eq, cbyte_eq, ← cstn_xor, UInt8.toNat_xor, x_comm4]
theorem cmore_x (n : Nat) (hn : n < 4294967296) (l : List UInt8) : cmore n l = 4294967295 ^^^ csum (4294967295 ^^^ n) l := by
  have h := csum_lt l (4294967295 - n) (by omega)
  rw [x_not n hn, x_not _ h]
  rfl
theorem cmore_three (a b c : List UInt8) (h1 : a.length = b.length) (h2 : a.length = c.length) : cmore 0 (zipX (zipX a b) c) = cmore 0 a ^^^ cmore 0 b ^^^ cmore 0 c := by
  rw [cmore_x 0 (by omega), cmore_x 0 (by omega), cmore_x 0 (by omega), cmore_x 0 (by omega)]
  rw [show 4294967295 ^^^ 0 = 4294967295 from rfl]
  have e1 := csum_zip (zipX a b) c (by simp [zipX]; omega) (4294967295 ^^^ 4294967295) 4294967295
  have e2 := csum_zip a b h1 4294967295 4294967295
  rw [e2, Nat.xor_self, Nat.zero_xor] at e1
  rw [e1, ← Nat.xor_assoc, ← Nat.xor_assoc, x_comm4 4294967295 (csum 4294967295 a) 4294967295 (csum 4294967295 b), Nat.xor_self, Nat.zero_xor, ← Nat.xor_assoc]
  congr 1
  rw [Nat.xor_assoc, Nat.xor_comm 4294967295]
theorem cmore_inj (l m : List UInt8) (n : Nat) (h : cmore n l = cmore n m) : csum (4294967295 - n) l = csum (4294967295 - n) m := by
  have h1 := csum_lt l (4294967295 - n) (by omega)
  have h2 := csum_lt m (4294967295 - n) (by omega)
  unfold cmore at h
  omega
/-- one byte that is another one -/
theorem cmore_one (p q : List UInt8) (a b : UInt8) (hab : a ≠ b) (n : Nat) : cmore n (p ++ a :: q) ≠ cmore n (p ++ b :: q) := by
  intro h
  have h1 := cmore_inj _ _ n h
  rw [csum_append, csum_append] at h1
  have hp := csum_lt p (4294967295 - n) (by omega)
  have h2 := csum_inj q _ _ (cbyte_lt _ _ hp a.toNat_lt) (cbyte_lt _ _ hp b.toNat_lt) h1
  rw [cbyte_eq, cbyte_eq] at h2
  have ha := a.toNat_lt
  have hb := b.toNat_lt
  have h3 := cstn_inj 8 _ _ (Nat.xor_lt_two_pow (n := 32) hp (by omega)) (Nat.xor_lt_two_pow (n := 32) hp (by omega)) h2
  apply hab
  apply UInt8.toNat_inj.1
  apply x_cancel
  have h4 : (csum (4294967295 - n) p ^^^ a.toNat) ^^^ (csum (4294967295 - n) p ^^^ b.toNat) = 0 := by rw [h3, Nat.xor_self]
  rwa [x_comm4, Nat.xor_self, Nat.zero_xor] at h4
end Go.Proofs.YtmhmdoobadckkaaGreatDoor
namespace Go.Proofs.YtmhmdoobadckkaaGreatDoor
set_option maxRecDepth 20000
open Go.RowKit

theorem cst_bits (y : Nat) (hy : y < 4294967296) : bits BinOp.xor IntKind.u32 ((y : Int) / 2) (2197175160 * bits BinOp.and IntKind.u32 (y : Int) 1 % 4294967296) = ((cst y : Nat) : Int) := by
  have h1 := u32_and_nat y 1 hy (by omega)
  rw [show ((1 : Nat) : Int) = 1 from rfl] at h1
  rw [h1, nat_mask1]
  rw [show ((y : Int) / 2) = ((y / 2 : Nat) : Int) by omega, show (2197175160 * ((y % 2 : Nat) : Int) % 4294967296) = ((2197175160 * (y % 2) : Nat) : Int) by omega]
  rw [u32_xor_nat _ _ (by omega) (by omega)]
  rfl

def TT (k : Nat) : Array Value := ((List.range 16).map fun i => Value.int .u32 (if i < k then (cstn 4 i : Nat) else 0 : Nat)).toArray
theorem TT_get (k i : Nat) (h : i < 16) : (TT k)[i]? = some (Value.int .u32 (if i < k then (cstn 4 i : Nat) else 0 : Nat)) := by
  simp [TT, h]
theorem TT_set (k : Nat) : (TT k).setIfInBounds k (.int .u32 (cstn 4 k : Nat)) = TT (k + 1) := by
  apply Array.ext (by simp [TT])
  intro i h1 h2
  simp [TT] at h1 
  simp only [TT]
  simp
  by_cases e : k = i
  · subst e; simp
  · have : (i < k + 1) ↔ i < k := by omega
    simp [e, this]
set_option maxHeartbeats 400000 in
theorem table_any (w : World) :
    Calls Tryz.prog 300 #[] w fun e w' => e = .returned (.agg (TT 16)) ∧ Below w.heap.size w w' := by
  go_enter Tryz.func300, Tryz.ntmps300
  go_wp2
  go_loopw [4] (fun i wr => ∃ k : Nat, k ≤ 16 ∧ i = .int .i64 k ∧ wr = (w.alloc (.cells (TT 0) 349)).alloc (.cells (TT k) 349)) (fun i _ => 16 - (intOf i).toNat)
  case atStart => exact ⟨0, by omega, rfl, rfl⟩
  case round => 
    obtain ⟨k, hk, rfl, rfl⟩ := hrel
    by_cases hlt : k < 16
    · have h1 := TT_get k k hlt
      rw [if_neg (by omega)] at h1
      go_wp2
      go_loopw [3, 9] (fun x j wr => ∃ (m y : Nat), m ≤ 4 ∧ y < 4294967296 ∧ y = cstn m k ∧ j = .int .i64 m ∧ x = .int .u32 y ∧ wr = (w.alloc (.cells (TT 0) 349)).alloc (.cells (TT k) 349)) (fun _ j _ => 4 - (intOf j).toNat)
      case atStart => exact ⟨0, k, by omega, by omega, rfl, rfl, rfl, rfl⟩
      case round =>
        obtain ⟨m, y, hm, hy, hyy, rfl, rfl, rfl⟩ := hrel
        have H := Lib.hid hyy
        clear hyy
        by_cases hmlt : m < 4
        · go_wp2
          go_roundw
          case rel => exact ⟨m + 1, cst y, by omega, cst_lt _ hy, by rw [H.out]; rfl, by go_num, by rw [cst_bits y hy], trivial⟩
          case measure => simp [intOf]; omega
        · obtain rfl : m = 4 := by omega
          go_wp2
          go_roundw
          case rel => exact ⟨k + 1, by omega, by go_num, by rw [H.out, TT_set]⟩
          case measure => simp [intOf]; omega
    · obtain rfl : k = 16 := by omega
      go_wp2_with (first | (refine wpList_load_row rfl 349 _ rfl _ rfl 349 (TT 16) (0,0) _ (heap_alloc2_new _ _ _) Tryz.underlying349 rfl (by kernel_rfl) ?_) | (refine wpList_store_row rfl 349 _ _ rfl _ (TT 16) rfl rfl 349 (TT 0) (heap_alloc2_old _ _ _) (by kernel_rfl) rfl (by kernel_rfl) ?_))
      refine bodyPost_ret (v := .agg (TT 16)) (results_cell_row rfl _ _ w.heap.size 349 (TT 16) (0,0) _ rfl (setRow_heap _ _ _ _ _ _ (heap_alloc2_old _ _ _)) Tryz.underlying349 rfl (by kernel_rfl)) rfl ⟨rfl, ?_⟩
      exact (((Below.refl _ _).alloc (Nat.le_refl _) _).alloc (by simp) _)|> fun h => below_setRow h (Nat.le_refl _) _
theorem half_any (w : World) (X A : Nat) (y : Nat) (hy : y < 4294967296) (hx : Blk w X 216 #[.int .u32 y]) (ha : Blk w A 349 (TT 16)) (_hne : X ≠ A) :
    Calls Tryz.prog 301 #[.pointer (some ⟨X, 0, none⟩), .pointer (some ⟨A, 0, none⟩)] w fun e w' => e = .returned (.tuple #[]) ∧ w' = (w.setCell ⟨X, 0, none⟩ (.int .u32 (chalf y : Nat))).drew := by
  have hx0 := hx.cell 0
  have hf0 := hx.frozen 0
  have hz := hx.lt
  obtain ⟨q, hq, hb, hq16⟩ : ∃ q : Nat, q < 16 ∧ bits .and .u32 (y : Int) 15 = (q : Int) ∧ y % 16 = q := by
    refine ⟨y % 16, by omega, ?_, rfl⟩
    have h1 := u32_and_nat y 15 hy (by omega)
    rw [nat_mask4] at h1
    exact h1
  have HQ := Lib.hid hq16
  clear hq16
  have h1 := TT_get 16 q (by omega)
  rw [if_pos (by omega)] at h1
  have ha0 := ha.cell q
  rw [h1] at ha0
  have hcl := cstn_lt 4 q (by omega)
  go_enter Tryz.func301, Tryz.ntmps301
  go_wp2
  go_region
  go_end0
  refine ⟨rfl, ?_⟩
  rw [show ((y : Int) / 16) = ((y / 16 : Nat) : Int) by omega, u32_xor_nat _ _ (by omega) hcl, ← HQ.out]
  rfl

theorem take_snoc (s : ByteArray) (k : Nat) (h : k < s.size) : s.data.toList.take (k + 1) = s.data.toList.take k ++ [s[k]] := by
  rw [List.take_succ_eq_append_getElem (by simpa using h)]; rfl

theorem u32_not (n : Nat) (hn : n < 4294967296) : bits BinOp.xor IntKind.u32 IntKind.u32.max (n : Int) = ((4294967295 - n : Nat) : Int) := by
  have h1 : IntKind.u32.max = ((4294967295 : Nat) : Int) := by decide
  rw [h1, u32_xor_nat _ _ (by omega) hn, x_not n hn]

set_option maxHeartbeats 1000000 in
theorem more_any (w : World) (n : Nat) (hn : n < 4294967296) (s : ByteArray) (hs : s.size ≤ maxLen) :
    Calls Tryz.prog 231 #[.int .u32 n, .string s] w fun e w' => e = .returned (.int .u32 (cmore n s.data.toList : Nat)) ∧ Below w.heap.size w w' := by
  unfold maxLen at hs
  have hsg : IntKind.u32.signed = false := rfl
  obtain ⟨x, hx, hxn, hxl⟩ : ∃ x : Nat, bits BinOp.xor IntKind.u32 IntKind.u32.max (n : Int) = (x : Int) ∧ x = 4294967295 - n ∧ x < 4294967296 := ⟨_, u32_not n hn, rfl, by omega⟩
  have HX := Lib.hid hxn
  clear hxn
  go_enter Tryz.func231, Tryz.ntmps231
  go_wp2_with fail
  refine (table_any _).mono ?_
  rintro e w1 ⟨rfl, hb1⟩
  go_wp2_with (refine wpList_store_row rfl 349 _ _ rfl _ (TT 16) rfl rfl 349 (TT 0) (heap_alloc_new _ _) (by kernel_rfl) rfl (by kernel_rfl) ?_)
  clear hx hsg
  go_loopw [15] (fun i wr => ∃ k : Nat, k ≤ s.size ∧ i = .int .i64 k ∧ Blk wr (w1.heap.size + 1) 216 #[.int .u32 (csum x (s.data.toList.take k) : Nat)] ∧ Blk wr w1.heap.size 349 (TT 16) ∧ Below w1.heap.size w1 wr) (fun i _ => s.size - (intOf i).toNat)
  case atStart =>
    have hz : ∀ (a : Array Value) (o : Array Value), ((w1.alloc (.cells o 349)).setRow w1.heap.size a).heap.size = w1.heap.size + 1 := fun a o => by simp
    refine ⟨0, by omega, rfl, ?_, ?_, ?_⟩
    · have h := Blk.new ((w1.alloc (.cells (TT 0) 349)).setRow w1.heap.size (TT 16)) 216 #[.int .u32 (x : Int)]
      rw [hz] at h
      exact h
    · exact ((Blk.new w1 349 (TT 0)).row_ (TT 16)).alloc _
    · exact (below_setRow ((Below.refl _ _).alloc (Nat.le_refl _) _) (Nat.le_refl _) _).alloc (by rw [hz]; omega) _
  case round =>
    obtain ⟨k, hk, rfl, hX, hA, hb⟩ := hrel
    have hyl := csum_lt (s.data.toList.take k) x hxl
    obtain ⟨y, hyy⟩ : ∃ y, csum x (s.data.toList.take k) = y := ⟨_, rfl⟩
    rw [hyy] at hX hyl
    have HY := Lib.hid hyy
    clear hyy
    have hX0 := hX.cell 0
    have hXf := hX.frozen 0
    by_cases hlt : k < s.size
    · obtain ⟨z, hz, hzz, hzl⟩ : ∃ z : Nat, bits BinOp.xor IntKind.u32 (y : Int) ((s[k].toNat : Int) % 4294967296) = (z : Int) ∧ z = y ^^^ s[k].toNat ∧ z < 4294967296 := by
        have hb := s[k].toNat_lt
        refine ⟨_, ?_, rfl, Nat.xor_lt_two_pow (n := 32) (by omega) (by omega)⟩
        rw [Int.emod_eq_of_lt (by omega) (by omega), u32_xor_nat _ _ hyl (by omega)]
      have HZ := Lib.hid hzz
      clear hzz
      go_wp2
      go_region
      clear hz
      have hX1 := (hX.set_ 0 (.int .u32 z)).drew
      have hA1 := (hA.far (p := ⟨w1.heap.size + 1, 0, none⟩) (by simp) (.int .u32 z)).drew
      go_wp2_with fail
      refine (half_any _ _ _ z hzl hX1 hA1 (by omega)).mono ?_
      rintro e w2 ⟨rfl, rfl⟩
      have hX2 := (hX1.set_ 0 (.int .u32 (chalf z : Nat))).drew
      have hA2 := (hA1.far (p := ⟨w1.heap.size + 1, 0, none⟩) (by simp) (.int .u32 (chalf z : Nat))).drew
      go_wp2_with fail
      refine (half_any _ _ _ (chalf z) (chalf_lt _ hzl) hX2 hA2 (by omega)).mono ?_
      rintro e w2 ⟨rfl, rfl⟩
      go_wp2_with fail
      go_roundw
      case rel => 
        have hX3 := (hX2.set_ 0 (.int .u32 (chalf (chalf z) : Nat))).drew
        have hA3 := (hA2.far (p := ⟨w1.heap.size + 1, 0, none⟩) (by simp) (.int .u32 (chalf (chalf z) : Nat))).drew
        refine ⟨k + 1, by omega, by go_num, ?_, hA3, ?_⟩
        · rw [take_snoc s k hlt, csum_snoc, HY.out]
          unfold cbyte
          rw [← HZ.out]
          exact hX3
        · exact (((((hb.setCell (by simp) _).drew).setCell (by simp) _).drew).setCell (by simp) _).drew
      case measure => simp [intOf]; omega
    · go_wp2
      go_ret
      refine ⟨?_, hb1.trans (hb.mono hb1.size)⟩
      have hk' : k = s.size := by omega
      have h1 := u32_not y hyl
      have h2 := HY.out
      rw [List.take_of_length_le (by simp; omega), HX.out] at h2
      show Ending.returned (Value.int IntKind.u32 (bits BinOp.xor IntKind.u32 IntKind.u32.max ↑y)) = _
      rw [h1, ← h2]
      rfl
end Go.Proofs.YtmhmdoobadckkaaGreatDoor
/- crc: Sum, bytes, Seal, by what they come to. -/
namespace Go.Proofs.YtmhmdoobadckkaaGreatDoor
set_option maxRecDepth 20000
open Go.RowKit Go.OpenShut

theorem sum_any (w : World) (s : ByteArray) (hs : s.size ≤ maxLen) :
    Calls Tryz.prog 157 #[.string s] w fun e w' => e = .returned (.int .u32 (cmore 0 s.data.toList : Nat)) ∧ Below w.heap.size w w' := by
  go_enter Tryz.func157, Tryz.ntmps157
  go_wp2_with fail
  refine (more_any _ 0 (by omega) s hs).mono ?_
  rintro e w1 ⟨rfl, hb1⟩
  go_wp2
  go_ret
  exact ⟨rfl, hb1⟩

theorem extract_list (s : ByteArray) (n : Nat) : (s.extract 0 n).data.toList = s.data.toList.take n := by
  simp
theorem below5 {w w1 w2 w3 w4 w5 : World} (h1 : Below w.heap.size w w1) (h2 : Below w1.heap.size w1 w2) (h3 : Below w2.heap.size w2 w3) (h4 : Below w3.heap.size w3 w4) (h5 : Below w4.heap.size w4 w5) : Below w.heap.size w w5 :=
  h1.trans ((h2.trans ((h3.trans ((h4.trans (h5.mono h4.size)).mono h3.size)).mono h2.size)).mono h1.size)


def le32 (n : Nat) : List UInt8 := [UInt8.ofNat n, UInt8.ofNat (n / 256), UInt8.ofNat (n / 65536), UInt8.ofNat (n / 16777216)]
theorem le32_length (n : Nat) : (le32 n).length = 4 := rfl
theorem bc_ofNat (n : Nat) : bc (UInt8.ofNat n) = .int .u8 ((n % 256 : Nat) : Int) := by simp [bc]
theorem le32_cells (n : Nat) (hn : n < 4294967296) : (bcs (le32 n)).toArray = #[.int .u8 ((n : Int) % 256), .int .u8 ((n : Int) / 256 % 256), .int .u8 ((n : Int) / 65536 % 256), .int .u8 ((n : Int) / 16777216)] := by
  have e : ((n / 16777216 % 256 : Nat) : Int) = (n : Int) / 16777216 := by omega
  simp only [bcs, le32, List.map_cons, List.map_nil, bc_ofNat, e]
  rfl

theorem bytes_any (w : World) (n : Nat) (hn : n < 4294967296) :
    Calls Tryz.prog 156 #[.int .u32 n] w fun e w' => e = .returned (.slice (some ⟨w.heap.size, 0, none⟩) 4 4) ∧ w' = w.alloc (.cells (bcs (le32 n)).toArray 5) := by
  have H := Lib.hid (le32_cells n hn)
  go_enter Tryz.func156, Tryz.ntmps156
  go_wp2
  go_ret
  refine ⟨rfl, ?_⟩
  rw [H.out]

/-- l, and bytes 0 behind, up to m -/
def padL (l : List UInt8) (m : Nat) : List UInt8 := l ++ List.replicate (m - l.length) 0
theorem padL_length (l : List UInt8) (m : Nat) (h : l.length ≤ m) : (padL l m).length = m := by simp [padL]; omega
def sealL (l : List UInt8) (m : Nat) : List UInt8 := padL l m ++ le32 (cmore 0 (padL l m))
theorem sealL_length (l : List UInt8) (m : Nat) (h : l.length ≤ m) : (sealL l m).length = m + 4 := by simp [sealL, padL_length l m h, le32_length]

set_option maxHeartbeats 1000000 in
theorem seal_yes (w : World) (s : ByteArray) (size n : Nat) (hz : size = n + 4) (h1 : 4 ≤ size) (h3 : size ≤ 4096) (h2 : s.size ≤ n) :
    Calls Tryz.prog 153 #[.string s, .int .i64 size] w fun e w' => e = .returned (.tuple #[.string ⟨(sealL s.data.toList n).toArray⟩, .bool true]) ∧ Below w.heap.size w w' := by
  have hsub : (size : Int) - 4 = (n : Int) := by omega
  have h2' : (s.size : Int) ≤ (n : Int) := by omega
  have HZ := Lib.hid hz
  have hmk := run_makeB n (by omega)
  have hcp := fun W => run_copyB W 3 (List.replicate n 0) s n (by simp) h2
  have ep : s.data.toList ++ (List.replicate n (0 : UInt8)).drop s.size = padL s.data.toList n := by simp [padL]
  obtain ⟨z, hzz⟩ : ∃ z, List.replicate n (0 : UInt8) = z := ⟨_, rfl⟩
  rw [hzz] at hmk hcp ep
  rw [ep] at hcp
  clear hzz hz
  have hpl : (padL s.data.toList n).length = n := padL_length _ _ (by simpa using h2)
  have hcl := cmore_lt 0 (padL s.data.toList n)
  obtain ⟨p, hp⟩ : ∃ p, padL s.data.toList n = p := ⟨_, rfl⟩
  have hsl : sealL s.data.toList n = p ++ le32 (cmore 0 p) := by unfold sealL; rw [hp]
  have HSL := Lib.hid hsl
  rw [hp] at hcp hpl hcl
  clear hp ep hsl
  have hcv := fun W => (Blk.new W 5 (bcs p).toArray).conv (c := n) hpl
  have HPL := Lib.hid hpl
  have HCL := Lib.hid hcl
  clear hpl hcl
  go_enter Tryz.func153, Tryz.ntmps153
  go_wp2_with fail
  clear hmk hcp hcv
  have hbk := Blk.new w 5 (bcs p).toArray
  have hbel := (Below.refl w.heap.size w).alloc (Nat.le_refl _) (.cells (bcs p).toArray 5)
  have hsz : (w.alloc (.cells (bcs p).toArray 5)).heap.size = w.heap.size + 1 := by simp
  generalize w.alloc (.cells (bcs p).toArray 5) = w0 at *
  refine (sum_any _ ⟨p.toArray⟩ (by show Array.size _ ≤ _; rw [List.size_toArray, HPL.out]; unfold maxLen; omega)).mono ?_
  rintro e w1 ⟨rfl, hb1⟩
  replace hbk := hbk.below hb1 (by omega)
  replace hbel := hbel.trans (hb1.mono (by omega))
  clear hb1 hsz
  go_wp2_with fail
  refine (bytes_any _ _ HCL.out).mono ?_
  rintro e w2 ⟨rfl, rfl⟩
  have hbs := Blk.new w1 5 (bcs (le32 (cmore 0 p))).toArray
  replace hbk := hbk.alloc (.cells (bcs (le32 (cmore 0 p))).toArray 5)
  replace hbel := hbel.alloc hbel.size (.cells (bcs (le32 (cmore 0 p))).toArray 5)
  generalize w1.alloc (.cells (bcs (le32 (cmore 0 p))).toArray 5) = w3 at *
  go_wp2_with (at_builtin; refine wp_appB rfl (.tmp 26) (.tmp 30) rfl w.heap.size _ p rfl (hbk.ownB HPL.out (Nat.le_refl _) (by unfold maxLen; omega)) ⟨w1.heap.size, 0, none⟩ 4 4 (le32 (cmore 0 p)) rfl rfl hbs.bcellAdd ?c1 hbel.size ?_; (case c1 => rw [HPL.out]; omega); intro v4 w4 hv4 _ hb4; have hcv4 := hv4.conv)
  go_ret2
  refine ⟨?_, hbel.trans hb4⟩
  rw [HSL.out]
  rfl

theorem seal_no (w : World) (s : ByteArray) (size : Int) (h : size < 4 ∨ 4096 < size ∨ size - 4 < s.size) :
    Calls Tryz.prog 153 #[.string s, .int .i64 size] w fun e w' => e = .returned (.tuple #[.string ⟨#[]⟩, .bool false]) ∧ w = w' := by
  by_cases h1 : size < 4
  · clear h
    go_enter Tryz.func153, Tryz.ntmps153
    go_wp2
    go_ret2
    exact ⟨rfl, rfl⟩
  · by_cases h2 : 4096 < size
    · clear h
      go_enter Tryz.func153, Tryz.ntmps153
      go_wp2
      go_ret2
      exact ⟨rfl, rfl⟩
    · have h3 : size - 4 < s.size := by omega
      clear h
      go_enter Tryz.func153, Tryz.ntmps153
      go_wp2
      go_ret2
      exact ⟨rfl, rfl⟩
end Go.Proofs.YtmhmdoobadckkaaGreatDoor
/- pages.Encode. -/
namespace Go.Proofs.YtmhmdoobadckkaaGreatDoor
set_option maxRecDepth 20000
open Go.RowKit Go.OpenShut

/-- the sector of a page: its number, its bits -/
def mgB : Sec := ⟨#[82, 86, 84, 66]⟩
def e8 (e : Nat) : Sec := ⟨(encL [(e : Int)] [8]).toArray⟩
def pgS (e : Nat) (bits : Sec) : Sec := ⟨(sealL (mgB ++ e8 e ++ bits).data.toList 60).toArray⟩
theorem enc_one (e : Nat) (he : e < 18446744073709551616) : encE [(e : Int)] [8] = 0 ∧ encS [(e : Int)] [8] = e8 e := by
  refine enc_ok (by decide) rfl ?_
  unfold allFit fitsB
  simp
  omega
theorem e8_size (e : Nat) : (e8 e).size = 8 := by
  unfold e8 encL
  show Array.size _ = 8
  rw [List.size_toArray, List.length_map]
  decide
theorem pg_len (e : Nat) {bits : Sec} (hb : bits.size = 8) : (mgB ++ e8 e ++ bits).size = 20 := by
  have h := e8_size e
  have h4 : mgB.size = 4 := rfl
  simp [ByteArray.size_append, h, hb, h4]
theorem pgS_size (e : Nat) {bits : Sec} (hb : bits.size = 8) : (pgS e bits).size = 64 := by
  have h := pg_len e hb
  unfold pgS
  show Array.size _ = 64
  rw [List.size_toArray, sealL_length _ _ (by rw [sec_len, h]; omega)]
set_option maxHeartbeats 1000000 in
theorem pgEnc_any (w : World) (e : Nat) (he : e < 18446744073709551616) (bits : Sec) (hb : bits.size = 8) :
    Calls Tryz.prog 261 #[.agg #[.int .u64 (e : Int), .string bits]] w fun e' w' => e' = .returned (.tuple #[.string (pgS e bits), .int .i64 0]) ∧ Below w.heap.size w w' := by
  obtain ⟨h1, h2⟩ := enc_one e he
  have HE := Lib.hid (fun (W : World) (b1 b2 : Nat) (k1 : Blk W b1 49 #[.int .u64 (e : Int)]) (k2 : Blk W b2 3 #[.int .i64 8]) => encode_any W (some ⟨b1, 0, none⟩) (some ⟨b2, 0, none⟩) 1 1 1 1 [(e : Int)] [8] (IntsA.blk (xs := [(e : Int)]) k1 rfl k1.lt) (IntsA.blk (xs := [8]) k2 rfl k2.lt) (by omega) (fun x hx => by simp at hx; omega))
  rw [h1, h2] at HE
  have hl := e8_size e
  have hpl := pg_len e hb
  have HS := Lib.hid (fun w => seal_yes w (mgB ++ e8 e ++ bits) 64 60 rfl (by omega) (by omega) (by rw [hpl]; omega))
  have s1 : (e8 e).size ≤ 8 := by omega
  have s2 : bits.size ≤ 8 := by omega
  have s3 : (mgB ++ e8 e).size ≤ 12 := by
    have h4 : mgB.size = 4 := rfl
    simp [ByteArray.size_append, h4]
    omega
  have hb0 := (Below.refl w.heap.size w).alloc (Nat.le_refl _) (.cells #[.int .u64 (e : Int), .string bits] 255)
  have hsz : ((bits.size : Int) != 8) = false := by rw [hb]; rfl
  unfold pgS
  generalize e8 e = E at *
  unfold mgB at *
  clear h1 h2 hb he hl hpl
  go_enter Tryz.func261, Tryz.ntmps261
  go_wp2_with fail
  refine (HE.out _ _ _ ?_ ?_).mono ?_
  · exact (Blk.newAt (by simp)).alloc _
  · exact Blk.newAt (by simp)
  rintro e' w1 ⟨rfl, hb1⟩
  have hc1 := ocell hb1
  go_wp2_with (go_at_call 153; refine (HS.out _).mono ?_; rintro e' w2 ⟨rfl, hb2⟩)
  go_ret2
  have hb3 : Below w.heap.size w w1 := by
    refine Below.trans (?_ : Below w.heap.size w _) (hb1.mono (by simp; omega))
    exact (hb0.alloc (by simp) _).alloc (by simp; omega) _
  exact ⟨rfl, hb3.trans (hb2.mono hb3.size)⟩
end Go.Proofs.YtmhmdoobadckkaaGreatDoor
/- pages.Save at a drive that is up. -/
namespace Go.Proofs.YtmhmdoobadckkaaGreatDoor
set_option maxRecDepth 20000
open Go.RowKit Go.OpenShut

theorem upd_upd (σ : Nat → Option Drv) (g : Nat) (D D' : Drv) : upd (upd σ g D) g D' = upd σ g D' := by
  funext x
  by_cases e : x = g
  · subst e; rw [upd_same, upd_same]
  · rw [upd_other _ _ e, upd_other _ _ e, upd_other _ _ e]
theorem Did.trans {σ1 σ2 : Nat → Option Drv} {R : Nat → Prop} {w w1 w2 : World} (h : Did σ1 R w w1) (k : ∀ R1, Dsk w1 σ1 R1 → Ext R R1 w w1 → Did σ2 R1 w1 w2) : Did σ2 R w w2 := by
  obtain ⟨R1, h1, h2⟩ := h
  obtain ⟨R2, h3, h4⟩ := k R1 h1 h2
  exact ⟨R2, h3, h2.trans h4⟩
theorem Did.below {σ1 : Nat → Option Drv} {R : Nat → Prop} {w w1 w2 : World} (hb : Below w.heap.size w w1) (h : Did σ1 R w1 w2) : Did σ1 R w w2 := by
  obtain ⟨R2, h3, h4⟩ := h
  exact ⟨R2, h3, (Ext.of_below R hb).trans h4⟩
set_option maxHeartbeats 1000000 in
theorem pgSave1_any (w : World) (σ : Nat → Option Drv) (R : Nat → Prop) (h : Dsk w σ R) (g : Nat) (D : Drv) (hg : σ g = some D) (hp : D.pl 65536) (bd bs : Nat) (s : Sec) (hbd : Blk w bd 33 #[.pointer (some ⟨g, 0, none⟩)]) (hbs : Blk w bs 9 #[.string s]) :
    Calls Tryz.prog 262 #[.pointer (some ⟨bd, 0, none⟩), .pointer (some ⟨bs, 0, none⟩)] w (Wrote (upd σ g (D.wr 2 s)) R w (D.wrE 2 s)) := by
  have HW := Lib.hid (h.write hg 2 s hp)
  have c1 := hbd.cell 0
  have c2 := hbs.cell 0
  clear h hg hp
  generalize D.wrE 2 s = x at *
  go_enter Tryz.func262, Tryz.ntmps262
  go_wp2_with (go_at_call 96; refine HW.out.mono ?_; rintro e w1 ⟨rfl, hd⟩)
  go_ret
  exact ⟨rfl, hd⟩
set_option maxHeartbeats 1000000 in
theorem pgSave2_any (w : World) (σ : Nat → Option Drv) (R : Nat → Prop) (h : Dsk w σ R) (g : Nat) (D : Drv) (hg : σ g = some D) (hp : D.pl 65536) (bd : Nat) (hbd : Blk w bd 33 #[.pointer (some ⟨g, 0, none⟩)]) :
    Calls Tryz.prog 263 #[.pointer (some ⟨bd, 0, none⟩)] w (Wrote (upd σ g D.fl) R w D.flE) := by
  have HW := Lib.hid (h.flush hg hp)
  have c1 := hbd.cell 0
  clear h hg hp
  generalize D.flE = x at *
  go_enter Tryz.func263, Tryz.ntmps263
  go_wp2_with (go_at_call 65; refine HW.out.mono ?_; rintro e w1 ⟨rfl, hd⟩)
  go_ret
  exact ⟨rfl, hd⟩
/-- a drive of which sector i is written, and flushed -/
def Drv.wf1 (D : Drv) (i : Int) (s : Sec) : Drv := (D.wrOK i s).flOK
set_option maxHeartbeats 2000000 in
theorem pgSave_any (w : World) (σ : Nat → Option Drv) (R : Nat → Prop) (h : Dsk w σ R) (g : Nat) (D : Drv) (hg : σ g = some D) (hu : D.up) (hn : 4 ≤ D.n) (hp : D.pl 1000) (e : Nat) (he : e < 18446744073709551616) (bits : Sec) (hb : bits.size = 8) :
    Calls Tryz.prog 188 #[.pointer (some ⟨g, 0, none⟩), .agg #[.int .u64 (e : Int), .string bits]] w (Wrote (upd σ g (D.wf1 2 (pgS e bits))) R w 0) := by
  have HE := Lib.hid (fun w => pgEnc_any w e he bits hb)
  have hss := pgS_size e hb
  obtain ⟨s, hs⟩ : ∃ s, pgS e bits = s := ⟨_, rfl⟩
  rw [hs] at HE hss ⊢
  clear hs he hb
  have hnR := h.new
  go_enter Tryz.func188, Tryz.ntmps188
  go_wp2_with (go_at_call 261; refine (HE.out _).mono ?_; rintro e' w1 ⟨rfl, hb1⟩; have hc1 := ocell hb1)
  have hb2 : Below w.heap.size w w1 := by
    refine Below.trans (?_ : Below w.heap.size w _) (hb1.mono (by simp; omega))
    exact ((Below.refl w.heap.size w).alloc (Nat.le_refl _) _).alloc (by simp) _
  have hz1 : w.heap.size + 1 < w1.heap.size := by have := hb1.size; simp at this; omega
  have kd : Blk w1 w.heap.size 33 #[.pointer (some ⟨g, 0, none⟩)] := ((Blk.new w _ _).alloc _).below hb1 (by simp; omega)
  generalize hW : (w1.alloc (.cells #[.string s] 9)).alloc _ = W2 at *
  have hbW : Below w.heap.size w W2 := by rw [← hW]; exact (hb2.alloc (by omega) _).alloc (by simp; omega) _
  have kdW : Blk W2 w.heap.size 33 #[.pointer (some ⟨g, 0, none⟩)] := by rw [← hW]; exact (kd.alloc _).alloc _
  have ksW : Blk W2 w1.heap.size 9 #[.string s] := by rw [← hW]; exact (Blk.new w1 _ _).alloc _
  have kfW : Blk W2 (w1.heap.size + 1) 82 #[.func (.func 262) #[] #[.pointer (some ⟨w.heap.size, 0, none⟩), .pointer (some ⟨w1.heap.size, 0, none⟩)], .func (.func 263) #[] #[.pointer (some ⟨w.heap.size, 0, none⟩)]] := by rw [← hW]; exact Blk.newAt (by simp)
  have HBW := Lib.hid hbW
  clear hW hc1
  have hdW := h.below hbW
  have nR : ∀ b, w.heap.size ≤ b → ¬ R b := fun b hb hR => by have := h.lt hR; omega
  have h3 := hu.wrE (i := 2) (s := s) (by omega) (by omega) hss
  have h4 := hu.wr (i := 2) (s := s) (by omega) (by omega) hss
  have h5 := (hu.wrOK (i := 2) (s := s) (by omega) (by omega) hss).1
  have H1 := Lib.hid (pgSave1_any W2 σ R hdW g D hg (hp.mono (by omega)) w.heap.size w1.heap.size s kdW ksW)
  rw [h3, h4] at H1
  have hp2 := hp.wr 2 s
  rw [h4] at hp2
  have H2 := Lib.hid (fun W R' (hd : Dsk W (upd σ g (D.wrOK 2 s)) R') (k : Blk W w.heap.size 33 #[.pointer (some ⟨g, 0, none⟩)]) => pgSave2_any W _ R' hd g (D.wrOK 2 s) (upd_same _ _ _) (hp2.mono (by omega)) w.heap.size k)
  rw [h5.flE, h5.fl] at H2
  have hq := kfW.cell
  have KK := Lib.hid (And.intro kdW kfW)
  have NR := Lib.hid nR
  have HZ := Lib.hid hz1
  clear h3 h4 h5 hp2 hdW nR hss hu hn hp hg h kd kdW ksW hb1 hb2 hbW hnR hz1
  refine wp_loop_rounds 3 ?_
  rw [rounds_succ]
  go_wp2_with fail
  refine H1.out.mono ?_
  rintro e' w3 ⟨rfl, R1, hd1, hx1⟩
  have kd3 := hx1.blk KK.out.1 (NR.out _ (Nat.le_refl _))
  have kf3 := hx1.blk KK.out.2 (NR.out _ (by have := HZ.out; omega))
  have H3 := Lib.hid (H2.out w3 R1 hd1 kd3)
  have HX1 := Lib.hid hx1
  clear hq hd1 hx1
  have hq := kf3.cell
  clear kd3 kf3
  go_wp2_with fail
  rw [rounds_succ]
  go_wp2_with fail
  refine H3.out.mono ?_
  rintro e' w4 ⟨rfl, R2, hd2, hx2⟩
  have HX2 := Lib.hid (HX1.out.trans hx2)
  have HD2 := Lib.hid hd2
  clear hq hd2 hx2
  go_wp2_with fail
  rw [rounds_succ]
  go_wp2_with fail
  go_ret
  refine ⟨rfl, Did.below HBW.out ⟨R2, ?_, HX2.out⟩⟩
  have h := HD2.out
  rw [upd_upd] at h
  exact h
end Go.Proofs.YtmhmdoobadckkaaGreatDoor
/- superblocks as data: what '==' comes to, which ones may be. -/
namespace Go.Proofs.YtmhmdoobadckkaaGreatDoor
set_option maxRecDepth 20000
open Go.RowKit Go.OpenShut

theorem bcell {W w1 : World} (hb : Below W.heap.size W w1) : (∀ b o, b < W.heap.size → w1.cell? ⟨b, o, none⟩ = W.cell? ⟨b, o, none⟩) ∧ (∀ b o, b < W.heap.size → w1.frozen? ⟨b, o, none⟩ = W.frozen? ⟨b, o, none⟩) :=
  ⟨fun b o h => hb.cell (p := ⟨b, o, none⟩) h, fun b o h => hb.frozen (p := ⟨b, o, none⟩) h⟩
structure Sup where
  u : Int
  e : Int
  r : Int
  c : Int
  k : Int
  n : Int
  cl : Bool
  b : Int
  nw : Int
  gr : Int
def Sup.v (s : Sup) : Value := .agg #[.int .u64 s.u, .int .u64 s.e, .int .i64 s.r, .int .i64 s.c, .int .i64 s.k, .int .i64 s.n, .bool s.cl, .int .i64 s.b, .int .i64 s.nw, .int .i64 s.gr]
def Sup.zero : Sup := ⟨0, 0, 0, 0, 0, 0, false, 0, 0, 0⟩
def Sup.same (s t : Sup) : Bool := s.u == t.u && s.e == t.e && s.r == t.r && (s.c == t.c && s.k == t.k && s.n == t.n) && s.cl == t.cl && s.b == t.b && s.nw == t.nw && s.gr == t.gr
theorem Sup.same_iff (s t : Sup) : s.same t = true ↔ s = t := by
  obtain ⟨u, e, r, c, k, n, cl, b, nw, gr⟩ := s
  obtain ⟨u', e', r', c', k', n', cl', b', nw', gr'⟩ := t
  simp [Sup.same, and_assoc]
set_option maxHeartbeats 1000000 in
theorem eq_sup (w : World) (s t : Sup) : (binOp .eql 171 s.v t.v).run Tryz.prog w = .ok (.bool (s.same t)) w := by
  unfold Sup.v Sup.same
  go_simp
  (repeat' split) <;> simp_all

def wi (n lo hi : Int) : Bool := decide (lo ≤ n ∧ n ≤ hi)
theorem wi_yes {n lo hi : Int} (h1 : lo ≤ n) (h2 : n ≤ hi) : wi n lo hi = true := by unfold wi; exact decide_eq_true ⟨h1, h2⟩
theorem wi_no {n lo hi : Int} (h : n < lo ∨ hi < n) : wi n lo hi = false := by unfold wi; exact decide_eq_false (by omega)
theorem wi_iff {n lo hi : Int} : wi n lo hi = true ↔ lo ≤ n ∧ n ≤ hi := by unfold wi; exact decide_eq_true_iff
theorem ret_b {a b : Bool} (h : a = b) : Ending.returned (.bool a) = .returned (.bool b) := by rw [h]
theorem within_any (w : World) (n lo hi : Int) :
    Calls Tryz.prog 322 #[.int .i64 n, .int .i64 lo, .int .i64 hi] w fun e w' => e = .returned (.bool (wi n lo hi)) ∧ w = w' := by
  by_cases h1 : n < lo
  · have H := Lib.hid (wi_no (hi := hi) (Or.inl h1))
    go_enter Tryz.func322, Tryz.ntmps322
    go_wp2_with fail
    go_ret
    exact ⟨ret_b (by first | (rw [H.out]; done) | (rw [H.out]; simp; omega)), rfl⟩
  · by_cases h2 : hi < n
    · have H := Lib.hid (wi_no (lo := lo) (Or.inr h2))
      go_enter Tryz.func322, Tryz.ntmps322
      go_wp2_with fail
      go_ret
      exact ⟨ret_b (by first | (rw [H.out]; done) | (rw [H.out]; simp; omega)), rfl⟩
    · have H := Lib.hid (wi_yes (n := n) (lo := lo) (hi := hi) (by omega) (by omega))
      go_enter Tryz.func322, Tryz.ntmps322
      go_wp2_with fail
      go_ret
      exact ⟨ret_b (by first | (rw [H.out]; done) | (rw [H.out]; simp; omega)), rfl⟩

def Sup.may (s : Sup) : Bool :=
  !(s.u == 0) && geoOK s.c s.k s.n && (decide (s.nw = 0) || wi s.nw (s.c + 1) 10) && (decide (s.nw ≠ 0) || decide (s.gr = 0)) && (decide (s.r = 254) || decide (s.r = 255) || wi s.r 0 (max s.c s.nw - 1)) && wi s.b 0 s.n && wi s.gr 0 s.n


set_option maxHeartbeats 2000000 in
theorem may0_any (w : World) (e r c k n b nw gr : Int) (cl : Bool) :
    Calls Tryz.prog 264 #[Sup.v ⟨0, e, r, c, k, n, cl, b, nw, gr⟩] w fun e w' => e = .returned (.bool false) ∧ Below w.heap.size w w' := by
  have heq := fun w => eq_sup w ⟨0, e, r, c, k, n, cl, b, nw, gr⟩ Sup.zero
  generalize Sup.same ⟨0, e, r, c, k, n, cl, b, nw, gr⟩ Sup.zero = q at heq
  unfold Sup.v Sup.zero at *
  cases q
  all_goals
    go_enter Tryz.func264, Tryz.ntmps264
    go_wp2_with fail
    go_ret
    refine ⟨rfl, ?_⟩
    repeat (first | exact Below.refl _ _ | refine Below.alloc ?_ (by simp <;> omega) _)
end Go.Proofs.YtmhmdoobadckkaaGreatDoor
namespace Go.Proofs.YtmhmdoobadckkaaGreatDoor
set_option maxRecDepth 20000
open Go.RowKit Go.OpenShut

set_option maxHeartbeats 2000000 in
theorem may1_any (w : World) (u e r c k n b nw gr : Int) (cl : Bool) (hu : (u == 0) = false) (hnw : nw ≤ 9223372036854775807) :
    Calls Tryz.prog 264 #[Sup.v ⟨u, e, r, c, k, n, cl, b, nw, gr⟩] w fun e' w' => e' = .returned (.bool (Sup.may ⟨u, e, r, c, k, n, cl, b, nw, gr⟩)) ∧ Below w.heap.size w w' := by
  have heq := fun w => eq_sup w ⟨u, e, r, c, k, n, cl, b, nw, gr⟩ Sup.zero
  rw [show Sup.same ⟨u, e, r, c, k, n, cl, b, nw, gr⟩ Sup.zero = false by simp [Sup.same, Sup.zero, hu]] at heq
  unfold Sup.v Sup.zero at *
  obtain ⟨m, hm⟩ : ∃ m, Sup.may ⟨u, e, r, c, k, n, cl, b, nw, gr⟩ = m := ⟨_, rfl⟩
  rw [hm]
  have HM := Lib.hid hm
  clear hm
  unfold Sup.may at HM
  simp only [hu] at HM
  go_enter Tryz.func264, Tryz.ntmps264
  go_wp2_with fail
  refine (check_any _ c k n).mono ?_
  rintro e1 w1 ⟨rfl, hb1⟩
  clear heq
  obtain ⟨hc1, hf1⟩ := bcell hb1
  have hbel := ((Below.refl w.heap.size w).alloc (Nat.le_refl _) _).trans (hb1.mono (by simp))
  clear hb1
  rcases geoE_val c k n with ⟨hg, hok⟩ | ⟨hg, hok⟩
  · rw [hg]
    have h10 : 4 ≤ c ∧ c ≤ 10 := ((geoOK_iff c k n).1 hok).1
    obtain ⟨h10a, h10b⟩ := h10
    rw [hok] at HM
    clear hg hok
    by_cases hn : nw = 0
    · have hn1 : (nw == 0) = true := by simp [hn]
      have hn2 : (nw != 0) = false := by simp [hn]
      go_wp2_with (go_at_call 322; refine (within_any _ _ _ _).mono ?_; rintro e' w' ⟨rfl, rfl⟩)
      all_goals
        go_ret
        refine ⟨ret_b ?_, hbel⟩
        have hm := HM.out
        clear HM hc1 hf1 hbel
        simp_all
    · have hn1 : (nw == 0) = false := by simp [hn]
      have hn2 : (nw != 0) = true := by simp [hn]
      go_wp2_with fail
      refine (within_any _ _ _ _).mono ?_
      rintro e' w' ⟨rfl, rfl⟩
      obtain ⟨f, hf⟩ : ∃ f, wi nw (c + 1) 10 = f := ⟨_, rfl⟩
      rw [hf] at HM ⊢
      clear hf
      cases f
      · go_wp2_with fail
        go_ret
        refine ⟨ret_b ?_, hbel⟩
        have hm := HM.out
        clear HM hc1 hf1 hbel
        simp_all
      · go_wp2_with (go_at_call 322; refine (within_any _ _ _ _).mono ?_; rintro e' w' ⟨rfl, rfl⟩)
        all_goals
          go_ret
          refine ⟨ret_b ?_, hbel⟩
          have hm := HM.out
          clear HM hc1 hf1 hbel
          simp_all
  · rw [hg]
    rw [hok] at HM
    go_wp2_with fail
    go_ret
    exact ⟨ret_b (by simpa using HM.out), hbel⟩
end Go.Proofs.YtmhmdoobadckkaaGreatDoor
/- super's parts, and their widths. -/
namespace Go.Proofs.YtmhmdoobadckkaaGreatDoor
set_option maxRecDepth 20000
open Go.RowKit Go.OpenShut

def partCells (g : Nat) (cl : Value) : Array Value := #[.pointer (some ⟨g, 2, none⟩), .int .i64 1, .pointer (some ⟨g, 3, none⟩), .int .i64 1, .pointer (some ⟨g, 4, none⟩), .int .i64 1, .pointer (some ⟨g, 5, none⟩), .int .i64 2, cl, .int .i64 1, .pointer (some ⟨g, 7, none⟩), .int .i64 2, .pointer (some ⟨g, 8, none⟩), .int .i64 1, .pointer (some ⟨g, 9, none⟩), .int .i64 2]
set_option maxHeartbeats 2000000 in
theorem parts_any (w : World) (g : Nat) (cl : Option Addr) :
    Calls Tryz.prog 265 #[.pointer (some ⟨g, 0, none⟩), .pointer cl] w fun e w' => e = .returned (.slice (some ⟨w.heap.size, 0, none⟩) 8 8) ∧ w' = w.drew.alloc (.cells (partCells g (.pointer cl)) 321) := by
  go_enter Tryz.func265, Tryz.ntmps265
  go_wp2_with fail
  refine wp_region_nf (fun _ => True) (fun _ => false) ((List.range 33).map (fun i => (i, true)) ++ [(33, false), (34, true)]) (by kernel_rfl) rfl (by kernel_rfl) (by kernel_rfl) (fun d _ _ _ _ h => by cases d <;> exact h) ?_
  repeat (refine nf_pure rfl trivial (fun w1 _ => by go_wp2; exact ⟨rfl, rfl, rfl⟩) rfl ?_ ?_; rfl)
  refine nf_imp rfl ?_
  go_wp2_with fail
  refine ⟨fun _ => trivial, ?_⟩
  repeat (refine nf_pure rfl trivial (fun w1 _ => by go_wp2; exact ⟨rfl, rfl, rfl⟩) rfl ?_ ?_; rfl)
  refine nf_nil ?_
  go_wp2_with fail
  go_ret
  exact ⟨rfl, rfl⟩
end Go.Proofs.YtmhmdoobadckkaaGreatDoor
/- super's widths. -/
namespace Go.Proofs.YtmhmdoobadckkaaGreatDoor
set_option maxRecDepth 20000
open Go.RowKit Go.OpenShut

def pW : List Int := [1, 1, 1, 2, 1, 2, 1, 2]
def pA (g : Nat) (cl : Option Addr) : List (Option Addr) := [some ⟨g, 2, none⟩, some ⟨g, 3, none⟩, some ⟨g, 4, none⟩, some ⟨g, 5, none⟩, cl, some ⟨g, 7, none⟩, some ⟨g, 8, none⟩, some ⟨g, 9, none⟩]
theorem eight {P : Nat → Prop} (h0 : P 0) (h1 : P 1) (h2 : P 2) (h3 : P 3) (h4 : P 4) (h5 : P 5) (h6 : P 6) (h7 : P 7) (k : Nat) (h : k < 8) : P k := by
  rcases k with _ | _ | _ | _ | _ | _ | _ | _ | k <;> first | assumption | omega
theorem part_cells {w : World} {G g : Nat} {cl : Option Addr} {t : TypeId} (h : Blk w G t (partCells g (.pointer cl))) (k : Nat) (hk : k < 8) :
    w.cell? ⟨G, k * 2, none⟩ = some (.pointer ((pA g cl).getD k none)) ∧ w.cell? ⟨G, k * 2 + 1, none⟩ = some (.int .i64 (pW.getD k 0)) := by
  rw [h.cell, h.cell]
  exact eight (P := fun k => (partCells g (.pointer cl))[k * 2]? = some (.pointer ((pA g cl).getD k none)) ∧ (partCells g (.pointer cl))[k * 2 + 1]? = some (.int .i64 (pW.getD k 0)))
    ⟨rfl, rfl⟩ ⟨rfl, rfl⟩ ⟨rfl, rfl⟩ ⟨rfl, rfl⟩ ⟨rfl, rfl⟩ ⟨rfl, rfl⟩ ⟨rfl, rfl⟩ ⟨rfl, rfl⟩ k hk
theorem pW_next (k : Nat) (hk : k < 8) : pW.take (k + 1) = pW.take k ++ [pW.getD k 0] :=
  eight (P := fun k => pW.take (k + 1) = pW.take k ++ [pW.getD k 0]) rfl rfl rfl rfl rfl rfl rfl rfl k hk
theorem pW_len (k : Nat) : (pW.take k).length ≤ 8 := by have h := List.length_take_le k pW; have h2 : pW.length = 8 := rfl; rw [List.length_take]; omega

theorem cell_two (w : World) (o : Obj) (v : Value) (t : TypeId) : ((w.alloc o).alloc (.cells #[v] t)).cell? ⟨w.heap.size + 1, 0, none⟩ = some v := by
  have h := cell_one (w.alloc o) v t
  rw [show (w.alloc o).heap.size = w.heap.size + 1 by simp] at h
  exact h
theorem OwnI.ne_blk {w : World} {g base : Nat} {t t' : TypeId} {k : IntKind} {cs : Array Value} {v : Value} {l : List Int} (h : OwnI w base t k v l) (hb : Blk w g t' cs) (ht : t' ≠ t) : some g ≠ v.ownBlock := by
  rcases h.2 with ⟨rfl, _⟩ | ⟨g', cap, cur, rfl, _, hh, _⟩
  · simp [Value.ownBlock]
  · intro e
    obtain rfl : g = g' := by simpa [Value.ownBlock] using e
    unfold Blk at hb
    rw [hb] at hh
    cases hh
    exact ht rfl
set_option maxHeartbeats 2000000 in
theorem widths_any (w : World) :
    Calls Tryz.prog 266 #[] w fun e w' => ∃ v, e = .returned v ∧ OwnI w' w.heap.size 3 .i64 v [4, 8, 8, 1, 1, 1, 2, 1, 2, 1, 2] ∧ Below w.heap.size w w' := by
  go_enter Tryz.func266, Tryz.ntmps266
  go_wp2_with fail
  refine (parts_any _ _ _).mono ?_
  rintro e w1 ⟨rfl, rfl⟩
  go_wp2_with fail
  have hb := Blk.new w 3 #[.int .i64 4, .int .i64 8, .int .i64 8]
  have hbe := (Below.refl w.heap.size w).alloc (Nat.le_refl _) (.cells #[.int .i64 4, .int .i64 8, .int .i64 8] 3)
  have hsz : (w.alloc (.cells #[.int .i64 4, .int .i64 8, .int .i64 8] 3)).heap.size = w.heap.size + 1 := by simp
  generalize w.alloc (.cells #[.int .i64 4, .int .i64 8, .int .i64 8] 3) = W1 at *
  replace hb := (hb.alloc (.cells Sup.zero.v.cells 171)).alloc (.cells (partCells (w.heap.size + 1) (.pointer none)) 321) |>.drew
  have hP := (Blk.new (W1.alloc (.cells Sup.zero.v.cells 171)) 321 (partCells (w.heap.size + 1) (.pointer none))).drew
  rw [show (W1.alloc (.cells Sup.zero.v.cells 171)).heap.size = w.heap.size + 1 + 1 by simp [hsz]] at hP
  replace hbe := ((hbe.alloc (by omega) (.cells Sup.zero.v.cells 171)).alloc (by simp [hsz]; omega) (.cells (partCells (w.heap.size + 1) (.pointer none)) 321)).drew
  unfold Sup.v Sup.zero at hb hP hbe
  dsimp only [Value.cells] at hb hP hbe
  have HSZ := Lib.hid hsz
  clear hsz
  generalize World.drew _ = W at *
  have hown : OwnI W w.heap.size 3 .i64 (.slice (some ⟨w.heap.size, 0, none⟩) 3 3) [4, 8, 8] :=
    ⟨rfl, Or.inr ⟨w.heap.size, 3, _, rfl, Nat.le_refl _, hb, Nat.le_refl _, by unfold maxLen; omega, rfl, rfl⟩⟩
  clear hb HSZ
  go_loopw [1, 8] (fun v i wr => ∃ k : Nat, k ≤ 8 ∧ i = .int .i64 k ∧ OwnI wr w.heap.size 3 .i64 v ([4, 8, 8] ++ pW.take k) ∧ Blk wr (w.heap.size + 1 + 1) 321 (partCells (w.heap.size + 1) (.pointer none)) ∧ Below w.heap.size w wr) (fun _ i _ => 8 - (intOf i).toNat)
  case atStart => exact ⟨0, by omega, rfl, hown, hP, hbe⟩
  case round =>
    obtain ⟨k, hk, rfl, hw, hp, hb⟩ := hrel
    clear hown hP hbe W1 W
    by_cases hlt : k < 8
    · obtain ⟨hc1, hc2⟩ := part_cells hp k hlt
      have hl := pW_len k
      have HN := Lib.hid (pW_next k hlt)
      obtain ⟨y, hy⟩ : ∃ y, pW.getD k 0 = y := ⟨_, rfl⟩
      obtain ⟨z, hz⟩ : ∃ z, (pA (w.heap.size + 1) none).getD k none = z := ⟨_, rfl⟩
      rw [hy] at hc2 HN
      rw [hz] at hc1
      clear hy hz
      have hsz := hb.size
      have hsz := hb.size
      go_wp2_with (at_builtin; refine wp_pushI 30 3 .i64 Tryz.underlying30 info_int rfl (.tmp 12) (.tmp 15) rfl w.heap.size _ _ ((hw.alloc _).alloc _) rfl ⟨wr.heap.size + 1, 0, none⟩ 1 y rfl (cell_two _ _ _ _) ?c1 ?c2 ?_; (case c1 => rw [List.length_append]; simp only [List.length_cons, List.length_nil]; omega); (case c2 => simp; omega); intro v4 w4 hv4 hg4 hb4; have hp4 := ((hp.alloc _).alloc _).grown hg4 (hw.ne_blk hp (by decide)); have hbe4 := (((hb.alloc hb.size _).alloc (by simp; omega) _).trans hb4))
      go_roundw
      case rel => exact ⟨k + 1, by omega, by go_num, by rw [HN.out, ← List.append_assoc]; exact hv4, hp4, hbe4⟩
      case measure => simp [intOf]; omega
    · obtain rfl : k = 8 := by omega
      obtain ⟨A, c, rfl⟩ := hw.shape
      go_wp2
      go_ret
      exact ⟨_, rfl, hw, hb⟩
end Go.Proofs.YtmhmdoobadckkaaGreatDoor
/- crc: Open, and Seal and Open for all inputs. -/
namespace Go.Proofs.YtmhmdoobadckkaaGreatDoor
set_option maxRecDepth 20000
open Go.RowKit Go.OpenShut

/-- the text is a sum's own behind its four last bytes -/
def openB (l : List UInt8) : Bool := decide (4 ≤ l.length) && decide (le32 (cmore 0 (l.take (l.length - 4))) = l.drop (l.length - 4))

theorem open_short (w : World) (s : ByteArray) (h : s.size < 4) :
    Calls Tryz.prog 66 #[.string s] w fun e w' => e = .returned (.tuple #[.string ⟨#[]⟩, .bool false]) ∧ Below w.heap.size w w' := by
  have hd : decide ((s.size : Int) - 4 < 0) = true := by simp; omega
  have h0 : (s.size : Int) - 4 < 0 := by omega
  go_enter Tryz.func66, Tryz.ntmps66
  go_wp2_with fail
  go_quiet (fail)
  go_wp2
  go_ret2
  exact ⟨rfl, below_drewN' (Below.refl _ _) _⟩

theorem openB_long (s : ByteArray) (n c : Nat) (hz : s.size = n + 4) (hc : cmore 0 (s.data.toList.take n) = c) : (le32 c == (s.extract n s.size).toList) = openB s.data.toList := by
  have hl : s.data.toList.length = n + 4 := by rw [← hz]; simp
  have h1 : (s.extract n s.size).toList = s.data.toList.drop n := by
    rw [Lib.extract_toList, List.take_of_length_le (by simp)]
  unfold openB
  rw [hl, show n + 4 - 4 = n by omega, hc, h1]
  rw [Bool.eq_iff_iff]
  simp

set_option maxHeartbeats 1000000 in
theorem open_long (w : World) (s : ByteArray) (n : Nat) (hz : s.size = n + 4) (hm : s.size ≤ maxLen) (b : Bool) (hb : openB s.data.toList = b) :
    Calls Tryz.prog 66 #[.string s] w fun e w' => e = .returned (.tuple #[.string (if b then s.extract 0 n else ⟨#[]⟩), .bool b]) ∧ Below w.heap.size w w' := by
  unfold maxLen at hm
  have hnm : n ≤ 9223372036854775807 := by omega
  have hsub : (s.size : Int) - 4 = (n : Int) := by omega
  have hn0 : ¬ (n : Int) < 0 := by omega
  have hns : (n : Int) ≤ (s.size : Int) := by omega
  have hns' : n ≤ s.size := by omega
  have HZ := Lib.hid hz
  have HB := Lib.hid hb
  clear hz hb
  have hdec : decide ((n : Int) < 0) = false := by simp
  go_enter Tryz.func66, Tryz.ntmps66
  go_wp2_with fail
  refine wp_region_nf (fun _ => True) (fun _ => false) [(0, true), (1, true), (2, true), (3, true), (4, true), (5, true), (9, true), (10, true), (11, true), (6, false), (7, false), (8, false), (12, true), (13, true)] (by kernel_rfl) rfl (by kernel_rfl) (by kernel_rfl) (fun d _ _ _ _ h => by cases d <;> exact h) ?_
  repeat (refine nf_pure rfl trivial (fun w1 _ => by go_wp2; exact ⟨rfl, rfl, rfl⟩) rfl ?_ ?_; rfl)
  refine nf_imp rfl ?_
  go_wp2_with fail
  refine (sum_any _ (s.extract 0 n) (by unfold maxLen; simp; omega)).mono ?_
  rintro e w1 ⟨rfl, hb1⟩
  go_wp2_with fail
  refine ⟨fun _ => trivial, ?_⟩
  refine nf_imp rfl ?_
  go_wp2_with fail
  have hcl := cmore_lt 0 (s.data.toList.take n)
  obtain ⟨c, hc⟩ : ∃ c, cmore 0 (s.data.toList.take n) = c := ⟨_, rfl⟩
  rw [hc] at hcl ⊢
  have HC := Lib.hid hc
  clear hc
  refine (bytes_any _ c hcl).mono ?_
  rintro e w2 ⟨rfl, rfl⟩
  go_wp2_with fail
  refine ⟨fun _ => trivial, ?_⟩
  have hcv := (Blk.new w1 5 (bcs (le32 c)).toArray).conv (c := 4) (le32_length _)
  have hbel : Below w.heap.size w (w1.alloc (.cells (bcs (le32 c)).toArray 5)) := (Below.drew (Below.refl _ _)).trans hb1 |>.alloc hb1.size _
  generalize w1.alloc (.cells (bcs (le32 c)).toArray 5) = w2 at *
  refine nf_imp rfl ?_
  go_wp2_with fail
  refine ⟨fun _ => trivial, ?_⟩
  clear hcv
  have hneq := openB_long s n c HZ.out HC.out
  rw [HB.out] at hneq
  have hneq' : (!(le32 c == (s.extract n s.size).toList)) = !b := by rw [hneq]
  clear hneq
  cases b
  · have hn2 : (!(le32 c == (s.extract n s.size).toList)) = true := hneq'
    clear hneq'
    repeat (refine nf_pure rfl trivial (fun w1 _ => by go_wp2; exact ⟨rfl, rfl, rfl⟩) rfl ?_ ?_; rfl)
    refine nf_nil ?_
    go_wp2_with fail
    go_ret2
    exact ⟨rfl, hbel⟩
  · have hn2 : (!(le32 c == (s.extract n s.size).toList)) = false := hneq'
    clear hneq'
    repeat (refine nf_pure rfl trivial (fun w1 _ => by go_wp2; exact ⟨rfl, rfl, rfl⟩) rfl ?_ ?_; rfl)
    refine nf_nil ?_
    go_wp2_with fail
    go_ret2
    exact ⟨rfl, hbel⟩

/-- what is sealed, as one answer -/
def sealB (s : ByteArray) (size : Int) : Bool := decide (4 ≤ size ∧ size ≤ 4096 ∧ (s.size : Int) ≤ size - 4)
def sealS (s : ByteArray) (size : Int) : ByteArray := if sealB s size then ⟨(sealL s.data.toList (size.toNat - 4)).toArray⟩ else ⟨#[]⟩
def openS (s : ByteArray) : ByteArray := if openB s.data.toList then s.extract 0 (s.size - 4) else ⟨#[]⟩

theorem sealB_no {s : ByteArray} {size : Int} (h : size < 4 ∨ 4096 < size ∨ size - 4 < s.size) : sealB s size = false := by
  unfold sealB
  apply decide_eq_false
  omega
theorem sealB_yes {s : ByteArray} {size : Int} (h : ¬ (size < 4 ∨ 4096 < size ∨ size - 4 < s.size)) : sealB s size = true := by
  unfold sealB
  apply decide_eq_true
  omega

theorem seal_any (w : World) (s : ByteArray) (size : Int) :
    Calls Tryz.prog 153 #[.string s, .int .i64 size] w fun e w' => e = .returned (.tuple #[.string (sealS s size), .bool (sealB s size)]) ∧ Below w.heap.size w w' := by
  by_cases h : size < 4 ∨ 4096 < size ∨ size - 4 < s.size
  · unfold sealS
    rw [sealB_no h]
    exact (seal_no w s size h).mono fun e w' ⟨he, hw⟩ => ⟨he, by subst hw; exact Below.refl _ _⟩
  · unfold sealS
    rw [sealB_yes h]
    obtain ⟨z, rfl⟩ := Int.eq_ofNat_of_zero_le (show 0 ≤ size by omega)
    rw [Int.toNat_natCast]
    exact seal_yes w s z (z - 4) (by omega) (by omega) (by omega) (by omega)
theorem openB_short {s : ByteArray} (h : s.size < 4) : openB s.data.toList = false := by
  unfold openB
  rw [decide_eq_false (show ¬ 4 ≤ s.data.toList.length by simp; omega)]
  rfl
theorem open_any (w : World) (s : ByteArray) (hm : s.size ≤ maxLen) :
    Calls Tryz.prog 66 #[.string s] w fun e w' => e = .returned (.tuple #[.string (openS s), .bool (openB s.data.toList)]) ∧ Below w.heap.size w w' := by
  by_cases h : s.size < 4
  · unfold openS
    rw [openB_short h]
    exact open_short w s h
  · exact open_long w s (s.size - 4) (by omega) hm _ rfl

theorem openB_seal (l : List UInt8) (m : Nat) (h : l.length ≤ m) : openB (sealL l m) = true := by
  have hl := sealL_length l m h
  have hp := padL_length l m h
  unfold openB
  rw [hl, show m + 4 - 4 = m by omega]
  have h1 : (sealL l m).take m = padL l m := by
    unfold sealL
    rw [List.take_append_of_le_length (by omega), List.take_of_length_le (by omega)]
  have h2 : (sealL l m).drop m = le32 (cmore 0 (padL l m)) := by
    unfold sealL
    rw [List.drop_append_of_le_length (by omega), List.drop_of_length_le (by omega), List.nil_append]
  rw [h1, h2]
  simp
theorem openS_seal (l : List UInt8) (m : Nat) (h : l.length ≤ m) : openS ⟨(sealL l m).toArray⟩ = ⟨(padL l m).toArray⟩ := by
  have hl := sealL_length l m h
  have hp := padL_length l m h
  unfold openS
  rw [show (ByteArray.mk (sealL l m).toArray).data.toList = sealL l m from rfl, openB_seal l m h]
  simp only [if_true]
  apply ByteArray.ext
  apply Array.toList_inj.1
  rw [extract_list]
  show (sealL l m).take (Array.size _ - 4) = padL l m
  rw [List.size_toArray, hl, show m + 4 - 4 = m by omega]
  unfold sealL
  rw [List.take_append_of_le_length (by omega), List.take_of_length_le (by omega)]

theorem list_at (s : ByteArray) (i : Nat) (h : i < s.size) : s.data.toList = s.data.toList.take i ++ s[i] :: s.data.toList.drop (i + 1) := by
  have e := List.take_append_drop i s.data.toList
  rw [List.drop_eq_getElem_cons (by simpa using h)] at e
  exact e.symm
theorem list_changed (s : ByteArray) (i : Nat) (b : UInt8) (_h : i < s.size) : (s.extract 0 i ++ ByteArray.mk #[b] ++ s.extract (i + 1) s.size).data.toList = s.data.toList.take i ++ b :: s.data.toList.drop (i + 1) := by
  simp
  exact List.take_of_length_le (by simp)
theorem cmore_changed (s : ByteArray) (i : Nat) (b : UInt8) (h : i < s.size) (hne : s[i] ≠ b) (n : Nat) :
    ((cmore n s.data.toList : Int) != (cmore n (s.extract 0 i ++ ByteArray.mk #[b] ++ s.extract (i + 1) s.size).data.toList : Int)) = true := by
  have h2 := cmore_one (s.data.toList.take i) (s.data.toList.drop (i + 1)) s[i] b hne n
  rw [← list_at s i h, ← list_changed s i b h] at h2
  rw [bne_iff_ne]
  omega
theorem size_changed (s : ByteArray) (i : Nat) (b : UInt8) (h : i < s.size) : (s.extract 0 i ++ ByteArray.mk #[b] ++ s.extract (i + 1) s.size).size = s.size := by
  have l : ∀ t : ByteArray, t.data.toList.length = t.size := fun t => by simp
  rw [← l, list_changed s i b h]
  simp
  omega

end Go.Proofs.YtmhmdoobadckkaaGreatDoor
/- super.Encode, for all superblocks. -/
namespace Go.Proofs.YtmhmdoobadckkaaGreatDoor
set_option maxRecDepth 20000
open Go.RowKit Go.OpenShut

def ws11 : List Int := [4, 8, 8, 1, 1, 1, 2, 1, 2, 1, 2]
def clN (b : Bool) : Int := if b then 1 else 0
def Sup.nums (s : Sup) : List Int := [827610706, s.u, s.e, s.r, s.c, s.k, s.n, clN s.cl, s.b, s.nw, s.gr]
def Sup.pV (s : Sup) : List Int := [s.r, s.c, s.k, s.n, clN s.cl, s.b, s.nw, s.gr]
structure Sup.wf (s : Sup) : Prop where
  u0 : 0 ≤ s.u
  u1 : s.u < 18446744073709551616
  e0 : 0 ≤ s.e
  e1 : s.e < 18446744073709551616
  nw1 : s.nw ≤ 9223372036854775807
def Sup.bytes (s : Sup) : List UInt8 := sealL (encL s.nums ws11) 60
def Sup.str (s : Sup) : ByteArray := if s.may then ⟨s.bytes.toArray⟩ else ⟨#[]⟩
def Sup.err (s : Sup) : Int := if s.may then 0 else 1

theorem may_any (w : World) (s : Sup) (h : s.wf) :
    Calls Tryz.prog 264 #[s.v] w fun e' w' => e' = .returned (.bool s.may) ∧ Below w.heap.size w w' := by
  obtain ⟨u, e, r, c, k, n, cl, b, nw, gr⟩ := s
  cases hu : (u == 0)
  · exact may1_any w u e r c k n b nw gr cl hu h.nw1
  · obtain rfl : u = 0 := by simpa using hu
    have : Sup.may ⟨0, e, r, c, k, n, cl, b, nw, gr⟩ = false := by simp [Sup.may]
    rw [this]
    exact may0_any w e r c k n b nw gr cl

structure Sup.small (s : Sup) : Prop where
  r0 : 0 ≤ s.r
  r1 : s.r ≤ 255
  c0 : 0 ≤ s.c
  c1 : s.c ≤ 10
  k0 : 0 ≤ s.k
  k1 : s.k ≤ 4
  n0 : 0 ≤ s.n
  n1 : s.n ≤ 256
  b0 : 0 ≤ s.b
  b1 : s.b ≤ 256
  nw0 : 0 ≤ s.nw
  nw1 : s.nw ≤ 10
  gr0 : 0 ≤ s.gr
  gr1 : s.gr ≤ 256
theorem may_small {s : Sup} (h : s.may = true) : s.small := by
  unfold Sup.may at h
  simp only [Bool.and_eq_true, Bool.or_eq_true, decide_eq_true_eq, wi_iff, geoOK_iff] at h
  obtain ⟨⟨⟨⟨⟨⟨h1, h2⟩, h3⟩, h4⟩, h5⟩, h6⟩, h7⟩ := h
  constructor <;> omega

theorem nums_next (s : Sup) (k : Nat) (hk : k < 8) : s.nums.take (3 + k + 1) = s.nums.take (3 + k) ++ [s.pV.getD k 0] :=
  eight (P := fun k => s.nums.take (3 + k + 1) = s.nums.take (3 + k) ++ [s.pV.getD k 0]) rfl rfl rfl rfl rfl rfl rfl rfl k hk
theorem nums_len (s : Sup) (k : Nat) : (s.nums.take k).length ≤ 11 := by
  have h := List.length_take_le k s.nums
  have h2 : s.nums.length = 11 := rfl
  rw [List.length_take]
  omega
theorem clN_bd (b : Bool) : 0 ≤ clN b ∧ clN b ≤ 1 := by cases b <;> simp [clN]
theorem pV_bd (s : Sup) (h : s.small) (k : Nat) (hk : k < 8) : 0 ≤ s.pV.getD k 0 ∧ s.pV.getD k 0 ≤ 256 := by
  have hc := clN_bd s.cl
  obtain ⟨_, _, _, _, _, _, _, _, _, _, _, _, _, _⟩ := h
  refine eight (P := fun k => 0 ≤ s.pV.getD k 0 ∧ s.pV.getD k 0 ≤ 256) ?_ ?_ ?_ ?_ ?_ ?_ ?_ ?_ k hk <;> (constructor <;> (simp only [Sup.pV, List.getD_cons_zero, List.getD_cons_succ]; omega))
theorem part_val {w : World} {g c : Nat} {s : Sup} {t t' : TypeId} (h : Blk w g t s.v.cells) (hc : Blk w c t' #[.int .i64 (clN s.cl)]) (k : Nat) (hk : k < 8) :
    ∃ b o, (pA g (some ⟨c, 0, none⟩)).getD k none = some ⟨b, o, none⟩ ∧ w.cell? ⟨b, o, none⟩ = some (.int .i64 (s.pV.getD k 0)) := by
  have q : ∀ i, w.cell? ⟨g, i, none⟩ = s.v.cells[i]? := h.cell
  exact eight (P := fun k => ∃ b o, (pA g (some ⟨c, 0, none⟩)).getD k none = some ⟨b, o, none⟩ ∧ w.cell? ⟨b, o, none⟩ = some (.int .i64 (s.pV.getD k 0)))
    ⟨g, 2, rfl, q 2⟩ ⟨g, 3, rfl, q 3⟩ ⟨g, 4, rfl, q 4⟩ ⟨g, 5, rfl, q 5⟩ ⟨c, 0, rfl, hc.cell 0⟩ ⟨g, 7, rfl, q 7⟩ ⟨g, 8, rfl, q 8⟩ ⟨g, 9, rfl, q 9⟩ k hk

theorem nums_u64 (s : Sup) (hw : s.wf) (hs : s.small) : ∀ x ∈ s.nums, 0 ≤ x ∧ x < 18446744073709551616 := by
  have hc := clN_bd s.cl
  obtain ⟨_, _, _, _, _⟩ := hw
  obtain ⟨_, _, _, _, _, _, _, _, _, _, _, _, _, _⟩ := hs
  intro x hx
  simp only [Sup.nums, List.mem_cons, List.not_mem_nil, or_false] at hx
  rcases hx with rfl | rfl | rfl | rfl | rfl | rfl | rfl | rfl | rfl | rfl | rfl <;> omega
theorem ws11_ok : wOK ws11 = true := by decide
theorem ws11_sum : sumW ws11 = 31 := by decide
theorem nums_fit (s : Sup) (hw : s.wf) (hs : s.small) : allFit s.nums ws11 = true := by
  have hc := clN_bd s.cl
  obtain ⟨_, _, _, _, _⟩ := hw
  obtain ⟨_, _, _, _, _, _, _, _, _, _, _, _, _, _⟩ := hs
  unfold allFit
  rw [List.all_eq_true]
  intro i hi
  rw [List.mem_range] at hi
  have hi' : i < 11 := hi
  rcases i with _ | _ | _ | _ | _ | _ | _ | _ | _ | _ | _ | i
  all_goals first
    | omega
    | (simp only [Sup.nums, ws11, List.getD_cons_zero, List.getD_cons_succ, fitsB, Bool.and_eq_true, decide_eq_true_eq]
       refine ⟨by omega, ?_⟩
       simp
       try omega)
theorem enc_sup (s : Sup) (hw : s.wf) (hs : s.small) : encE s.nums ws11 = 0 ∧ encS s.nums ws11 = ⟨(encL s.nums ws11).toArray⟩ := enc_ok ws11_ok rfl (nums_fit s hw hs)
theorem nums_encLen (s : Sup) (hw : s.wf) (hs : s.small) : (encL s.nums ws11).length = 31 := by
  have h1 := encS_size (ls := s.nums) (ws := ws11) ws11_ok rfl (nums_fit s hw hs)
  rw [(enc_sup s hw hs).2, ws11_sum] at h1
  have h2 : (ByteArray.mk (encL s.nums ws11).toArray).size = (encL s.nums ws11).length := by show Array.size _ = _; simp
  omega
theorem sup_seal (s : Sup) (hw : s.wf) (hs : s.small) : sealB ⟨(encL s.nums ws11).toArray⟩ 64 = true ∧ sealS ⟨(encL s.nums ws11).toArray⟩ 64 = ⟨s.bytes.toArray⟩ := by
  have h2 : (ByteArray.mk (encL s.nums ws11).toArray).size = 31 := by show Array.size _ = _; simp [nums_encLen s hw hs]
  have h3 : sealB ⟨(encL s.nums ws11).toArray⟩ 64 = true := sealB_yes (by omega)
  refine ⟨h3, ?_⟩
  unfold sealS
  rw [h3]
  rfl
theorem sup_bytes_len (s : Sup) (hw : s.wf) (hs : s.small) : s.bytes.length = 64 := sealL_length _ _ (by rw [nums_encLen s hw hs]; omega)
end Go.Proofs.YtmhmdoobadckkaaGreatDoor
/- super.Encode, for all superblocks: the walk. -/
namespace Go.Proofs.YtmhmdoobadckkaaGreatDoor
set_option maxRecDepth 20000
open Go.RowKit Go.OpenShut

theorem supEnc_no (w : World) (s : Sup) (h : s.wf) (hm : s.may = false) :
    Calls Tryz.prog 192 #[s.v] w fun e w' => e = .returned (.tuple #[.string ⟨#[]⟩, .int .i64 1]) ∧ Below w.heap.size w w' := by
  obtain ⟨sv, hsv⟩ : ∃ sv, s = sv := ⟨_, rfl⟩
  have HM := fun w => may_any w s h
  rw [hm] at HM
  have H := Lib.hid HM
  clear HM hm hsv h
  obtain ⟨u, e, r, c, k, n, cl, b, nw, gr⟩ := s
  unfold Sup.v
  go_enter Tryz.func192, Tryz.ntmps192
  go_wp2_with fail
  refine (H.out _).mono ?_
  rintro e' w1 ⟨rfl, hb1⟩
  go_wp2_with fail
  go_ret2
  exact ⟨rfl, ((Below.refl w.heap.size w).alloc (Nat.le_refl _) _).trans (hb1.mono (by simp))⟩

theorem enc_world {w w1 : World} (s : Sup) (u e x : Int) (hu : s.u = u) (he : s.e = e) (hx : clN s.cl = x) (hB : Blk w1 w.heap.size 171 s.v.cells) (hbe : Below w.heap.size w w1) :
    ∃ W, (((w1.alloc (.cells #[.int .i64 x] 3)).alloc (.cells #[.int .u64 827610706, .int .u64 u, .int .u64 e] 49)).alloc (.cells (partCells w.heap.size (.pointer (some ⟨w1.heap.size, 0, none⟩))) 321)).drew = W ∧
      OwnI W w.heap.size 49 .u64 (.slice (some ⟨w1.heap.size + 1, 0, none⟩) 3 3) (s.nums.take (3 + 0)) ∧ Blk W w.heap.size 171 s.v.cells ∧ Blk W w1.heap.size 3 #[.int .i64 (clN s.cl)] ∧
      Blk W (w1.heap.size + 1 + 1) 321 (partCells w.heap.size (.pointer (some ⟨w1.heap.size, 0, none⟩))) ∧ Below w.heap.size w W := by
  subst hu he
  refine ⟨_, rfl, ?_, ?_, ?_, ?_, ?_⟩
  · have h := ((Blk.new (w1.alloc (.cells #[.int .i64 x] 3)) 49 #[.int .u64 827610706, .int .u64 s.u, .int .u64 s.e]).alloc (.cells (partCells w.heap.size (.pointer (some ⟨w1.heap.size, 0, none⟩))) 321)).drew
    rw [show (w1.alloc (.cells #[.int .i64 x] 3)).heap.size = w1.heap.size + 1 by simp] at h
    exact ⟨rfl, Or.inr ⟨w1.heap.size + 1, 3, _, rfl, by have := hbe.size; omega, h, Nat.le_refl _, by unfold maxLen; omega, rfl, rfl⟩⟩
  · exact (((hB.alloc _).alloc _).alloc _).drew
  · rw [hx]
    exact (((Blk.new w1 3 #[.int .i64 x]).alloc _).alloc _).drew
  · have h := (Blk.new ((w1.alloc (.cells #[.int .i64 x] 3)).alloc (.cells #[.int .u64 827610706, .int .u64 s.u, .int .u64 s.e] 49)) 321 (partCells w.heap.size (.pointer (some ⟨w1.heap.size, 0, none⟩)))).drew
    rw [show ((w1.alloc (.cells #[.int .i64 x] 3)).alloc (.cells #[.int .u64 827610706, .int .u64 s.u, .int .u64 s.e] 49)).heap.size = w1.heap.size + 1 + 1 by simp] at h
    exact h
  · have hz := hbe.size
    exact (((hbe.alloc hz _).alloc (by simp; omega) _).alloc (by simp; omega) _).drew

set_option maxHeartbeats 2000000 in
theorem supEnc_yes (w : World) (s : Sup) (h : s.wf) (hm : s.may = true) :
    Calls Tryz.prog 192 #[s.v] w fun e w' => e = .returned (.tuple #[.string ⟨s.bytes.toArray⟩, .int .i64 0]) ∧ Below w.heap.size w w' := by
  have HM := fun w => may_any w s h
  rw [hm] at HM
  have H := Lib.hid HM
  have hs := may_small hm
  have HE := Lib.hid (enc_sup s h hs)
  have HSE := Lib.hid (sup_seal s h hs)
  have HU := Lib.hid (nums_u64 s h hs)
  have HV := Lib.hid (pV_bd s hs)
  clear HM hm hs h
  obtain ⟨u, e, r, c, k, n, cl, b, nw, gr⟩ := s
  obtain ⟨s, hs⟩ : ∃ s, s = Sup.mk u e r c k n cl b nw gr := ⟨_, rfl⟩
  have HS := Lib.hid hs
  rw [← hs] at HE HSE HU HV ⊢
  rw [← hs] at H
  rw [show s.v = .agg #[.int .u64 u, .int .u64 e, .int .i64 r, .int .i64 c, .int .i64 k, .int .i64 n, .bool cl, .int .i64 b, .int .i64 nw, .int .i64 gr] by rw [hs]; rfl] at H ⊢
  clear hs
  go_enter Tryz.func192, Tryz.ntmps192
  go_wp2_with fail
  refine (H.out _).mono ?_
  rintro e' w1 ⟨rfl, hb1⟩
  have hB := (Blk.new w 171 #[.int .u64 u, .int .u64 e, .int .i64 r, .int .i64 c, .int .i64 k, .int .i64 n, .bool cl, .int .i64 b, .int .i64 nw, .int .i64 gr]).below hb1 (by simp)
  have hB' : Blk w1 w.heap.size 171 s.v.cells := by rw [HS.out]; exact hB
  have hq : ∀ i, w1.cell? ⟨w.heap.size, i, none⟩ = #[Value.int .u64 u, .int .u64 e, .int .i64 r, .int .i64 c, .int .i64 k, .int .i64 n, .bool cl, .int .i64 b, .int .i64 nw, .int .i64 gr][i]? := hB.cell
  have hbe := ((Below.refl w.heap.size w).alloc (Nat.le_refl _) (.cells #[.int .u64 u, .int .u64 e, .int .i64 r, .int .i64 c, .int .i64 k, .int .i64 n, .bool cl, .int .i64 b, .int .i64 nw, .int .i64 gr] 171)).trans (hb1.mono (by simp))
  have hz := hb1.size
  rw [show (w.alloc (.cells #[.int .u64 u, .int .u64 e, .int .i64 r, .int .i64 c, .int .i64 k, .int .i64 n, .bool cl, .int .i64 b, .int .i64 nw, .int .i64 gr] 171)).heap.size = w.heap.size + 1 by simp] at hz
  have hz' : w.heap.size < w1.heap.size := by omega
  clear hb1
  cases cl
  all_goals
    go_wp2_with fail
    refine (parts_any _ _ _).mono ?_
    rintro e'' w2 ⟨rfl, rfl⟩
    go_wp2_with fail
    obtain ⟨W, hW, hv, hS, hC, hP, hbW⟩ := enc_world s u e _ (by rw [HS.out]) (by rw [HS.out]) (by rw [HS.out]) hB' hbe
    simp only [clN, Bool.false_eq_true, if_false, if_true] at hW
    rw [hW]
    have HZ := Lib.hid hz
    have HZ' := Lib.hid hz'
    clear hW hB hB' hbe hq hz hz'
    go_loopw [5, 24] (fun v i wr => ∃ j : Nat, j ≤ 8 ∧ i = .int .i64 j ∧ OwnI wr w.heap.size 49 .u64 v (s.nums.take (3 + j)) ∧ Blk wr w.heap.size 171 s.v.cells ∧ Blk wr w1.heap.size 3 #[.int .i64 (clN s.cl)] ∧ Blk wr (w1.heap.size + 1 + 1) 321 (partCells w.heap.size (.pointer (some ⟨w1.heap.size, 0, none⟩))) ∧ Below w.heap.size w wr) (fun _ i _ => 8 - (intOf i).toNat)
    case atStart => exact ⟨0, by omega, rfl, hv, hS, hC, hP, hbW⟩
    case round =>
      obtain ⟨j, hj, rfl, hw, hs, hc, hp, hb⟩ := hrel
      clear hv hS hC hP hbW W
      by_cases hlt : j < 8
      · obtain ⟨hc1, hc2⟩ := part_cells hp j hlt
        obtain ⟨q, o, hq1, hq2⟩ := part_val hs hc j hlt
        rw [hq1] at hc1
        have HN := Lib.hid (nums_next s j hlt)
        have hbd := HV.out j hlt
        have hl := nums_len s (3 + j)
        obtain ⟨y, hy⟩ : ∃ y, pW.getD j 0 = y := ⟨_, rfl⟩
        obtain ⟨z, hz⟩ : ∃ z, s.pV.getD j 0 = z := ⟨_, rfl⟩
        rw [hy] at hc2
        rw [hz] at hq2 HN hbd
        obtain ⟨hz0, hz1⟩ := hbd
        have hsz := hb.size
        have hqb : q < wr.heap.size := by
          rcases Nat.lt_or_ge q wr.heap.size with e | e
          · exact e
          · exfalso
            unfold World.cell? at hq2
            rw [Array.getElem?_eq_none e] at hq2
            cases hq2
        clear hy hz hq1
        go_wp2_with (at_builtin; refine wp_pushI 124 49 .u64 Tryz.underlying124 info_u64 rfl (.tmp 28) (.tmp 34) rfl w.heap.size _ _ ((hw.alloc _).alloc _) rfl ⟨wr.heap.size + 1, 0, none⟩ 1 z rfl (cell_two _ _ _ _) ?c1 ?c2 ?_; (case c1 => omega); (case c2 => simp; omega); intro v4 w4 hv4 hg4 hb4; have hp4 := ((hp.alloc _).alloc _).grown hg4 (hw.ne_blk hp (by decide)); have hs4 := ((hs.alloc _).alloc _).grown hg4 (hw.ne_blk hs (by decide)); have hc4 := ((hc.alloc _).alloc _).grown hg4 (hw.ne_blk hc (by decide)); have hbe4 := (((hb.alloc hb.size _).alloc (by simp; omega) _).trans hb4))
        go_roundw
        case rel => exact ⟨j + 1, by omega, by go_num, by rw [← Nat.add_assoc, HN.out]; exact hv4, hs4, hc4, hp4, hbe4⟩
        case measure => simp [intOf]; omega
      · obtain rfl : j = 8 := by omega
        obtain ⟨A, c, rfl⟩ := hw.shape
        have hsz := hb.size
        clear hs hc hp
        go_wp2_with fail
        refine (widths_any _).mono ?_
        rintro e3 w3 ⟨v3, rfl, hv3, hb3⟩
        obtain ⟨A3, c3, rfl⟩ := hv3.shape
        have hi := (hw.below hb3).ints
        have hi3 := hv3.ints
        have hbe3 := hb.trans (hb3.mono hsz)
        clear hw hv3 hb hb3 hsz
        go_wp2_with fail
        refine (encode_any _ _ _ _ _ _ _ s.nums ws11 hi hi3 (by simp) HU.out).mono ?_
        rintro e4 w4 ⟨rfl, hb4⟩
        rw [HE.out.1, HE.out.2]
        have hbe4 := hbe3.trans (hb4.mono hbe3.size)
        clear hbe3 hb4 hi hi3
        go_wp2_with fail
        refine (seal_any _ _ _).mono ?_
        rintro e5 w5 ⟨rfl, hb5⟩
        have hbe5 := hbe4.trans (hb5.mono hbe4.size)
        clear hbe4 hb5
        rw [HSE.out.1, HSE.out.2]
        go_wp2_with fail
        go_ret2
        exact ⟨rfl, hbe5⟩

theorem supEnc_any (w : World) (s : Sup) (h : s.wf) :
    Calls Tryz.prog 192 #[s.v] w fun e w' => e = .returned (.tuple #[.string s.str, .int .i64 s.err]) ∧ Below w.heap.size w w' := by
  unfold Sup.str Sup.err
  cases hm : s.may
  · exact supEnc_no w s h hm
  · exact supEnc_yes w s h hm
end Go.Proofs.YtmhmdoobadckkaaGreatDoor
/- slots.Save at a drive that is up. -/
namespace Go.Proofs.YtmhmdoobadckkaaGreatDoor
set_option maxRecDepth 20000
open Go.RowKit Go.OpenShut

theorem u64_and1 {e : Int} (h0 : 0 ≤ e) (h1 : e < 18446744073709551616) : bits .and .u64 e 1 = e % 2 := by
  have h := u64_and_nat e.toNat 1 (by omega) (by omega)
  rw [Nat.and_one_is_mod] at h
  have e2 : ((e.toNat : Nat) : Int) = e := Int.toNat_of_nonneg h0
  rw [e2] at h
  refine Eq.trans h ?_
  omega
theorem Sup.str_size {s : Sup} (hw : s.wf) (hm : s.may = true) : s.str.size = 64 := by
  have h := sup_bytes_len s hw (may_small hm)
  unfold Sup.str
  rw [if_pos hm]
  show Array.size _ = 64
  rw [List.size_toArray, h]
set_option maxHeartbeats 2000000 in
theorem sloSave_any (w : World) (σ : Nat → Option Drv) (R : Nat → Prop) (h : Dsk w σ R) (g : Nat) (D : Drv) (hg : σ g = some D) (hu : D.up) (hn : 4 ≤ D.n) (hp : D.pl 1000) (s : Sup) (hw : s.wf) (hm : s.may = true) :
    Calls Tryz.prog 103 #[.pointer (some ⟨g, 0, none⟩), s.v] w (Wrote (upd σ g (D.wf1 (s.e % 2) s.str)) R w 0) := by
  have HE := Lib.hid (fun w => supEnc_any w s hw)
  have he : s.err = 0 := by unfold Sup.err; rw [if_pos hm]
  rw [he] at HE
  have hss := Sup.str_size hw hm
  have e0 := hw.e0
  have e1 := hw.e1
  obtain ⟨u, e, r, c, k, n, cl, b, nw, gr⟩ := s
  generalize Sup.str _ = S at *
  unfold Sup.v at *
  clear hw hm he
  have hx0 : 0 ≤ e % 2 := by omega
  have hx1 : e % 2 < D.n := by omega
  have h3 := hu.wrE hx0 hx1 hss
  have h4 := hu.wr hx0 hx1 hss
  have h5 := (hu.wrOK hx0 hx1 hss).1
  have hp2 := hp.wr (e % 2) S
  rw [h4] at hp2
  have H1 := Lib.hid (fun W hb => (h.below (w' := W) hb).write hg (e % 2) S (hp.mono (by omega)))
  rw [h3, h4] at H1
  have H2 := Lib.hid (fun W R' (hd : Dsk W (upd σ g (D.wrOK (e % 2) S)) R') => hd.flush (upd_same _ _ _) (hp2.mono (by omega)))
  rw [h5.flE, h5.fl] at H2
  have hand := u64_and1 e0 e1
  clear h3 h4 h5 hp2 hss hp hu hn hg h
  go_enter Tryz.func103, Tryz.ntmps103
  go_wp2_with fail
  refine (HE.out _).mono ?_
  rintro e' w1 ⟨rfl, hb1⟩
  have hc1 := ocell hb1
  have hb2 : Below w.heap.size w w1 := ((Below.refl w.heap.size w).alloc (Nat.le_refl _) _).trans (hb1.mono (by simp))
  clear hb1
  go_wp2_with fail
  refine (H1.out _ hb2).mono ?_
  rintro e' w2 ⟨rfl, R1, hd1, hx1⟩
  go_wp2_with fail
  refine (H2.out _ _ hd1).mono ?_
  rintro e' w3 ⟨rfl, R2, hd2, hx2⟩
  go_wp2_with fail
  go_ret
  rw [upd_upd] at hd2
  exact ⟨rfl, Did.below hb2 ⟨R2, hd2, hx1.trans hx2⟩⟩
end Go.Proofs.YtmhmdoobadckkaaGreatDoor
/- Sectors that are written with bytes 0, one behind the other: plain. -/
namespace Go.Proofs.YtmhmdoobadckkaaGreatDoor
set_option maxRecDepth 20000
open Go.RowKit Go.OpenShut

def Drv.zeros (D : Drv) (b : Nat) : Nat → Drv
  | 0 => D
  | k + 1 => (D.zeros b k).wrOK ((b + k : Nat) : Int) sec0
theorem Drv.zeros_up {D : Drv} (h : D.up) (b : Nat) : ∀ k, b + k ≤ D.n → (D.zeros b k).up ∧ (D.zeros b k).n = D.n
  | 0, _ => ⟨h, rfl⟩
  | k + 1, hk => by
    obtain ⟨h1, h2⟩ := Drv.zeros_up h b k (by omega)
    obtain ⟨h3, h4⟩ := h1.wrOK (i := ((b + k : Nat) : Int)) (s := sec0) (by omega) (by omega) rfl
    exact ⟨h3, h4.trans h2⟩
theorem Drv.zeros_pl {D : Drv} {m : Nat} (h : D.pl m) (b : Nat) : ∀ k, (D.zeros b k).pl (m + k)
  | 0 => h
  | k + 1 => by
    intro x hx
    have ih := Drv.zeros_pl h b k
    rcases mem_mset hx with rfl | hx
    · show ((D.zeros b k).pend _ ++ [sec0]).length ≤ _
      have := ih.pend ((b + k : Nat) : Int)
      rw [List.length_append]
      show _ + 1 ≤ _
      omega
    · have := ih x hx
      omega
theorem Drv.zeros_cur {D : Drv} (b : Nat) (j : Int) : ∀ k, (D.zeros b k).cur j = if (b : Int) ≤ j ∧ j < (b + k : Nat) then sec0 else D.cur j
  | 0 => by rw [if_neg (by omega)]; rfl
  | k + 1 => by
    show ((D.zeros b k).wrOK ((b + k : Nat) : Int) sec0).cur j = _
    rw [Drv.cur_wrOK, Drv.zeros_cur b j k]
    by_cases e : j = ((b + k : Nat) : Int)
    · rw [if_pos e, if_pos (by omega)]
    · rw [if_neg e]
      by_cases e2 : (b : Int) ≤ j ∧ j < (b + k : Nat)
      · rw [if_pos e2, if_pos (by omega)]
      · rw [if_neg e2, if_neg (by omega)]
theorem Drv.zeros_spoilt {D : Drv} (h : D.spoilt = []) (b : Nat) : ∀ k, (D.zeros b k).spoilt = []
  | 0 => h
  | k + 1 => by
    show (D.zeros b k).spoilt.erase _ = []
    rw [Drv.zeros_spoilt h b k]
    rfl
/-- so many sectors of bytes 0, flushed -/
def Drv.clear (D : Drv) (b k : Nat) : Drv := (D.zeros b k).flOK
theorem Drv.clear_up {D : Drv} (h : D.up) (b k : Nat) (hk : b + k ≤ D.n) : (D.clear b k).up ∧ (D.clear b k).n = D.n := by
  obtain ⟨h1, h2⟩ := Drv.zeros_up h b k hk
  obtain ⟨h3, h4⟩ := h1.flOK
  exact ⟨h3, h4.trans h2⟩
theorem Drv.flOK_pl (D : Drv) : D.flOK.pl 0 := fun x hx => by cases hx
theorem Drv.clear_pl (D : Drv) (b k : Nat) : (D.clear b k).pl 0 := Drv.flOK_pl _
theorem Drv.clear_cur {D : Drv} (h : D.up) (b k : Nat) (hk : b + k ≤ D.n) {j : Int} (hj : 0 ≤ j) : (D.clear b k).cur j = if (b : Int) ≤ j ∧ j < (b + k : Nat) then sec0 else D.cur j := by
  unfold Drv.clear
  rw [Drv.cur_flOK (Drv.zeros_up h b k hk).1.1 hj, Drv.zeros_cur]
theorem Drv.flOK_spoilt (D : Drv) : D.flOK.spoilt = D.spoilt := rfl
theorem Drv.clear_spoilt {D : Drv} (h : D.spoilt = []) (b k : Nat) : (D.clear b k).spoilt = [] := Drv.zeros_spoilt h b k
/-- what a write does, at all drives that there are -/
theorem Dsk.zero {w : World} {σ : Nat → Option Drv} {R : Nat → Prop} {g : Nat} {D : Drv} {b k : Nat} (h : Dsk w (upd σ g (D.zeros b k)) R) (hu : D.up) (hk : b + k < D.n) (hp : D.pl 1000) :
    Calls Tryz.prog 96 #[.pointer (some ⟨g, 0, none⟩), .int .i64 ((b + k : Nat) : Int), .string sec0] w (Wrote (upd σ g (D.zeros b (k + 1))) R w 0) := by
  obtain ⟨h1, h2⟩ := Drv.zeros_up hu b k (by omega)
  have hn : D.n ≤ 4096 := hu.1.le
  have hc := h.write (upd_same _ _ _) ((b + k : Nat) : Int) sec0 ((Drv.zeros_pl hp b k).mono (by omega))
  rw [h1.wrE (by omega) (by omega) rfl, h1.wr (by omega) (by omega) rfl, upd_upd] at hc
  exact hc
theorem Dsk.clear_ {w : World} {σ : Nat → Option Drv} {R : Nat → Prop} {g : Nat} {D : Drv} {b k : Nat} (h : Dsk w (upd σ g (D.zeros b k)) R) (hu : D.up) (hk : b + k ≤ D.n) (hp : D.pl 1000) :
    Calls Tryz.prog 65 #[.pointer (some ⟨g, 0, none⟩)] w (Wrote (upd σ g (D.clear b k)) R w 0) := by
  obtain ⟨h1, h2⟩ := Drv.zeros_up hu b k (by omega)
  have hn : D.n ≤ 4096 := hu.1.le
  have hc := h.flush (upd_same _ _ _) ((Drv.zeros_pl hp b k).mono (by omega))
  rw [h1.flE, h1.fl, upd_upd] at hc
  exact hc
end Go.Proofs.YtmhmdoobadckkaaGreatDoor
/-
  DERIVED: THE SHELF's CONTRACTS AT THIS DUMP, IN PLAIN WORDS (tools/lay-plain.mjs out of 'YtmhmdoobadckkaaGreatDoorShl0.lean', which tools/lay-shelf.mjs wrote): THE SAME DECLARATIONS UNDER THE SAME NAMES: 'import', 'namespace', 'open', 'def', 'theorem' AND NOTHING ELSE: no command of the shelf's: FOR A HAND-IN. Each laying: the table of numbers ('.._ren') and one theorem, a field a fact of the dump's own or the kernel's comparison; each contract: ONE APPLICATION.
-/
namespace Go.Proofs
open Go.Shelf
def Tryz.laysRep_ren : Go.Shelf.Ren := ⟨fun | 105 => 62 | 212 => 146 | 99 => 147 | 165 => 148 | 166 => 149 | 170 => 150 | 169 => 151 | 263 => 225 | 264 => 226 | 206 => 227 | 240 => 228 | 241 => 229 | 276 => 298 | 277 => 299 | n => n, fun | 9 => 9 | 3 => 3 | 4 => 4 | 20 => 20 | 0 => 0 | 46 => 200 | 109 => 202 | 5 => 5 | 72 => 207 | 76 => 211 | 51 => 216 | 146 => 287 | 53 => 49 | 148 => 289 | 70 => 205 | 37 => 62 | 75 => 210 | 127 => 291 | 164 => 346 | 80 => 130 | n => n, fun | n => n⟩
theorem Tryz.laysRep : Go.Proofs.Lays.n105 Tryz.prog Tryz.laysRep_ren := {
  mixed := by kernel_rfl
  f99 := Tryz.func147.trans (congrArg some (by kernel_rfl))
  f105 := Tryz.func62.trans (congrArg some (by kernel_rfl))
  f165 := Tryz.func148.trans (congrArg some (by kernel_rfl))
  f166 := Tryz.func149.trans (congrArg some (by kernel_rfl))
  f169 := Tryz.func151.trans (congrArg some (by kernel_rfl))
  f170 := Tryz.func150.trans (congrArg some (by kernel_rfl))
  f206 := Tryz.func227.trans (congrArg some (by kernel_rfl))
  f212 := Tryz.func146.trans (congrArg some (by kernel_rfl))
  f240 := Tryz.func228.trans (congrArg some (by kernel_rfl))
  f241 := Tryz.func229.trans (congrArg some (by kernel_rfl))
  f263 := Tryz.func225.trans (congrArg some (by kernel_rfl))
  f264 := Tryz.func226.trans (congrArg some (by kernel_rfl))
  f276 := Tryz.func298.trans (congrArg some (by kernel_rfl))
  f277 := Tryz.func299.trans (congrArg some (by kernel_rfl))
  t0 := Tryz.underlying0
  a0 := Tryz.isAgg0
  z0 := Tryz.sizeOf0
  v0 := Tryz.zeroValue0
  t3 := Tryz.underlying3
  a3 := Tryz.isAgg3
  z3 := Tryz.sizeOf3
  v3 := Tryz.zeroValue3
  t4 := Tryz.underlying4
  a4 := Tryz.isAgg4
  z4 := Tryz.sizeOf4
  v4 := Tryz.zeroValue4
  t5 := Tryz.underlying5
  a5 := Tryz.isAgg5
  z5 := Tryz.sizeOf5
  v5 := Tryz.zeroValue5
  t9 := Tryz.underlying9
  a9 := Tryz.isAgg9
  z9 := Tryz.sizeOf9
  v9 := Tryz.zeroValue9
  t20 := Tryz.underlying20
  a20 := Tryz.isAgg20
  z20 := Tryz.sizeOf20
  v20 := Tryz.zeroValue20
  t37 := Tryz.underlying62
  a37 := Tryz.isAgg62
  z37 := Tryz.sizeOf62
  v37 := Tryz.zeroValue62
  t46 := Tryz.underlying200
  a46 := Tryz.isAgg200
  z46 := Tryz.sizeOf200
  v46 := Tryz.zeroValue200
  t51 := Tryz.underlying216
  a51 := Tryz.isAgg216
  z51 := Tryz.sizeOf216
  v51 := Tryz.zeroValue216
  t53 := Tryz.underlying49
  a53 := Tryz.isAgg49
  z53 := Tryz.sizeOf49
  v53 := Tryz.zeroValue49
  t70 := Tryz.underlying205
  a70 := Tryz.isAgg205
  z70 := Tryz.sizeOf205
  v70 := Tryz.zeroValue205
  t72 := Tryz.underlying207
  a72 := Tryz.isAgg207
  z72 := Tryz.sizeOf207
  v72 := Tryz.zeroValue207
  t75 := Tryz.underlying210
  a75 := Tryz.isAgg210
  z75 := Tryz.sizeOf210
  v75 := Tryz.zeroValue210
  t76 := Tryz.underlying211
  a76 := Tryz.isAgg211
  z76 := Tryz.sizeOf211
  v76 := Tryz.zeroValue211
  t109 := Tryz.underlying202
  a109 := Tryz.isAgg202
  z109 := Tryz.sizeOf202
  v109 := Tryz.zeroValue202
  t127 := Tryz.underlying291
  a127 := Tryz.isAgg291
  z127 := Tryz.sizeOf291
  v127 := Tryz.zeroValue291
  t146 := Tryz.underlying287
  a146 := Tryz.isAgg287
  z146 := Tryz.sizeOf287
  v146 := Tryz.zeroValue287
  t148 := Tryz.underlying289
  a148 := Tryz.isAgg289
  z148 := Tryz.sizeOf289
  v148 := Tryz.zeroValue289
  t164 := Tryz.underlying346
  a164 := Tryz.isAgg346
  z164 := Tryz.sizeOf346
  v164 := Tryz.zeroValue346 }
end Go.Proofs
/- strings.Repeat of a byte 0. -/
namespace Go.Proofs.YtmhmdoobadckkaaGreatDoor
set_option maxRecDepth 20000
open Go.RowKit Go.OpenShut Go.Shelf

theorem extraRep : Builder.Extra Tryz.prog Tryz.laysRep_ren := {
  sizeBuilder := by kernel_rfl
  liesBuilder := by kernel_rfl
  t5 := Tryz.laysRep.t5
  a5 := Tryz.laysRep.a5
  z5 := Tryz.laysRep.z5
  v5 := Tryz.laysRep.v5
  infoByte := by kernel_rfl
  cellsByte := by kernel_rfl
  sizeByte := by kernel_rfl
  neB5 := by decide }
theorem repeat_any (s : ByteArray) (c : Nat) (w : World) (hc : c ≤ 9223372036854775807) (hlen : s.size * c ≤ 140737488355328) : Calls Tryz.prog 62 #[.string s, .int .i64 (c : Int)] w fun e w' => e = .returned (.string ⟨(Lib.repeatL s.data.toList c).toArray⟩) ∧ Below w.heap.size w w' :=
  Any.strings_Repeat Tryz.laysRep extraRep s c w hc hlen
theorem rep0_any (w : World) : Calls Tryz.prog 62 #[.string ⟨#[0]⟩, .int .i64 64] w fun e w' => e = .returned (.string sec0) ∧ Below w.heap.size w w' := by
  have h := repeat_any ⟨#[0]⟩ 64 w (by decide) (by decide)
  refine h.mono fun e w' ⟨he, hw⟩ => ⟨?_, hw⟩
  rw [he]
  rfl
end Go.Proofs.YtmhmdoobadckkaaGreatDoor
/- array.wipe. -/
namespace Go.Proofs.YtmhmdoobadckkaaGreatDoor
set_option maxRecDepth 20000
open Go.RowKit Go.OpenShut

set_option maxHeartbeats 2000000 in
theorem wipe_any (w : World) (σ : Nat → Option Drv) (R : Nat → Prop) (h : Dsk w σ R) (g : Nat) (D : Drv) (hg : σ g = some D) (hu : D.up) (hn : 4 ≤ D.n) (hp : D.pl 1000) :
    Calls Tryz.prog 95 #[.pointer (some ⟨g, 0, none⟩)] w (Wrote (upd σ g (D.clear 0 4)) R w 0) := by
  have hd0 : Dsk w (upd σ g (D.zeros 0 0)) R := by
    show Dsk w (upd σ g D) R
    rw [upd_id hg]; exact h
  have H1 := Lib.hid (fun W R' k (hk : 0 + k < D.n) (hd : Dsk W (upd σ g (D.zeros 0 k)) R') => hd.zero hu hk hp)
  have H2 := Lib.hid (fun W R' (hd : Dsk W (upd σ g (D.zeros 0 4)) R') => hd.clear_ hu (by omega) hp)
  have HN := Lib.hid hn
  clear hu hn hp hg h
  go_enter Tryz.func95, Tryz.ntmps95
  go_wp2_with fail
  go_loopw [4] (fun i wr => ∃ j : Nat, j ≤ 4 ∧ i = .int .i64 j ∧ ∃ R', Dsk wr (upd σ g (D.zeros 0 j)) R' ∧ Ext R R' w wr) (fun i _ => 4 - (RowKit.intOf i).toNat)
  case atStart => exact ⟨0, by omega, rfl, R, hd0, Ext.refl _ _⟩
  case round =>
    obtain ⟨j, hj, rfl, R', hd, hx⟩ := hrel
    by_cases hlt : j < 4
    · have HC := Lib.hid (fun W (hb : Below wr.heap.size wr W) => H1.out W R' j (by have := HN.out; omega) (hd.below hb))
      have HX := Lib.hid hx
      rw [Nat.zero_add] at HC
      clear hd hx
      go_wp2_with (first
        | (go_at_call 62; refine (rep0_any _).mono ?_; rintro e w1 ⟨rfl, hb1⟩)
        | (go_at_call 96; refine (HC.out _ hb1).mono ?_; rintro e w2 ⟨rfl, R2, hd2, hx2⟩))
      go_roundw
      case rel => exact ⟨j + 1, by omega, by go_num, R2, hd2, (HX.out.below hb1).trans hx2⟩
      case measure => simp [RowKit.intOf]; omega
    · obtain rfl : j = 4 := by omega
      have HC := Lib.hid (H2.out _ R' hd)
      have HX := Lib.hid hx
      clear hd hx
      go_wp2_with (go_at_call 65; refine HC.out.mono ?_; rintro e w2 ⟨rfl, R2, hd2, hx2⟩)
      go_ret
      exact ⟨rfl, R2, hd2, HX.out.trans hx2⟩
end Go.Proofs.YtmhmdoobadckkaaGreatDoor
/- An array in memory; steps over its drives. -/
namespace Go.Proofs.YtmhmdoobadckkaaGreatDoor
set_option maxRecDepth 20000
open Go.RowKit Go.OpenShut

theorem OwnI.old {w w' : World} {base : Nat} {t : TypeId} {k : IntKind} {v : Value} {l : List Int} (h : OwnI w base t k v l) (e : ∀ b, v.ownBlock = some b → w'.heap[b]? = w.heap[b]?) : OwnI w' base t k v l := by
  obtain ⟨h1, h2⟩ := h
  refine ⟨h1, ?_⟩
  rcases h2 with h2 | ⟨g, cap, cur, rfl, hg, hh, r⟩
  · exact Or.inl h2
  · exact Or.inr ⟨g, cap, cur, rfl, hg, (e g rfl).trans hh, r⟩
structure Rng where
  slots : Nat
  trimmed : Nat
  next : Nat
/-- what an array knows -/
structure Arr where
  u : Nat
  e : Nat
  n : Nat
  k : Nat
  r : Nat
  c : Nat
  gr : Nat
  ds : List (Option Nat)
  bs : List Int
  sp : List (Option Nat)
  jr : Option (Nat × Rng)
  im : IM
  st : List Int
  stp : Bool
  scr : Bool
  scd : Nat
  fx : Nat
  wr : Nat
/-- where it keeps that -/
structure AV where
  A : Nat
  ca : Nat
  bv : Value
  C : Option Addr
  cc : Nat
  rg : Nat
  gi : Nat
  bi : Nat
  gs : Nat
def Arr.cells (a : Arr) (V : AV) : Array Value := #[.int .u64 (a.u : Int), .int .u64 (a.e : Int), .int .i64 (a.n : Int), .int .i64 (a.k : Int), .int .i64 (a.r : Int), .int .i64 (a.c : Int), .int .i64 (a.gr : Int),
  .slice (some ⟨V.A, 0, none⟩) a.ds.length V.ca, V.bv, .slice V.C a.sp.length V.cc, pv (a.jr.map (·.1)), pv (a.jr.map fun _ => V.rg), .pointer (some ⟨V.gi, 0, none⟩), .map (some V.gs),
  .bool a.stp, .bool a.scr, .int .i64 (a.scd : Int), .int .i64 (a.fx : Int), .int .i64 (a.wr : Int)]
/-- the blocks of its own -/
def AV.fp (V : AV) (g : Nat) (a : Arr) : List Nat := g :: V.A :: V.gi :: V.bi :: V.gs :: (V.bv.ownBlock.toList ++ (match a.jr with | none => [] | some _ => [V.rg]))
structure ArrMem (w : World) (R : Nat → Prop) (g : Nat) (a : Arr) (V : AV) : Prop where
  head : Blk w g 166 (a.cells V)
  ds : OwnV 33 w 0 (.slice (some ⟨V.A, 0, none⟩) a.ds.length V.ca) (a.ds.map pv)
  bs : OwnI w 0 3 .i64 V.bv a.bs
  sp : VA w R V.C a.sp.length (a.sp.map pv)
  im : IntAt w V.gi V.bi a.im
  st : MapB w V.gs (a.st.map fun i => (i, Value.bool true))
  ring : ∀ j q, a.jr = some (j, q) → Blk w V.rg 122 #[.pointer (some ⟨j, 0, none⟩), .int .i64 (q.slots : Int), .int .u64 (q.trimmed : Int), .int .u64 (q.next : Int)]
  nodup : (V.fp g a).Nodup
  out : ∀ b ∈ V.fp g a, ¬ R b
  far : ∀ b off, V.C = some ⟨b, off, none⟩ → b ∉ V.fp g a
section
variable {w w' : World} {R R' : Nat → Prop} {g : Nat} {a : Arr} {V : AV}
theorem ArrMem.lt (h : ArrMem w R g a V) : ∀ b ∈ V.fp g a, b < w.heap.size := by
  intro b hb
  unfold AV.fp at hb
  simp only [List.mem_cons, List.mem_append] at hb
  rcases hb with rfl | rfl | rfl | rfl | rfl | hb | hb
  · exact h.head.lt
  · exact (h.ds.lt _ rfl).2
  · exact h.im.head.lt
  · exact h.im.busy.lt
  · exact h.st.lt
  · exact (h.bs.lt _ (by simpa using hb)).2
  · cases e : a.jr with
    | none => rw [e] at hb; cases hb
    | some p =>
      rw [e] at hb
      simp at hb
      subst hb
      exact (h.ring p.1 p.2 e).lt
/-- the same array, where its blocks are as they were -/
theorem ArrMem.old (h : ArrMem w R g a V) (e : ∀ b ∈ V.fp g a, w'.heap[b]? = w.heap[b]?) (hs : VA w' R' V.C a.sp.length (a.sp.map pv)) (ho : ∀ b ∈ V.fp g a, ¬ R' b) : ArrMem w' R' g a V := by
  have m1 : V.A ∈ V.fp g a := by simp [AV.fp]
  refine ⟨(e g (by simp [AV.fp])).trans h.head, h.ds.old fun b hb => ?_, h.bs.old fun b hb => ?_, hs, ⟨(e V.gi (by simp [AV.fp])).trans h.im.head, (e V.bi (by simp [AV.fp])).trans h.im.busy, h.im.ne, h.im.rows, h.im.len, h.im.bits⟩, h.st.old (e V.gs (by simp [AV.fp])), fun j q hj => ?_, h.nodup, ho, h.far⟩
  · obtain rfl : V.A = b := by simpa [Value.ownBlock] using hb
    exact e _ m1
  · exact e _ (by simp [AV.fp, hb])
  · exact (e V.rg (by simp [AV.fp, hj])).trans (h.ring j q hj)
theorem ArrMem.ext (h : ArrMem w R g a V) (k : Ext R R' w w') : ArrMem w' R' g a V :=
  h.old (fun b hb => k.1.block b (h.lt b hb) (h.out b hb)) (h.sp.ext k) (fun b hb => k.not (h.out b hb) (h.lt b hb))
theorem ArrMem.below (h : ArrMem w R g a V) (k : Below w.heap.size w w') : ArrMem w' R g a V := h.ext (Ext.of_below R k)
/-- a cell of the array's own is set -/
theorem ArrMem.hset (h : ArrMem w R g a V) (i : Nat) (u : Value) (a' : Arr) (hc : (a.cells V).setIfInBounds i u = a'.cells V) (h1 : a'.ds = a.ds) (h2 : a'.bs = a.bs) (h3 : a'.sp = a.sp) (h4 : a'.jr = a.jr) (h5 : a'.im = a.im) (h6 : a'.st = a.st) :
    ArrMem (w.setCell ⟨g, i, none⟩ u) R g a' V := by
  have hf : V.fp g a' = V.fp g a := by unfold AV.fp; rw [h4]
  have hnd := h.nodup
  have hg : ∀ b ∈ V.fp g a, b ≠ g → (w.setCell ⟨g, i, none⟩ u).heap[b]? = w.heap[b]? := fun b _ hb => Below.heap_setCell w _ u b hb
  have hne : ∀ b ∈ (V.A :: V.gi :: V.bi :: V.gs :: (V.bv.ownBlock.toList ++ (match a.jr with | none => [] | some _ => [V.rg]))), b ≠ g := fun b hb e => by
    unfold AV.fp at hnd
    exact (List.nodup_cons.1 hnd).1 (e ▸ hb)
  have hh := h.head.set_ i u
  rw [hc] at hh
  refine ⟨hh, ?_, ?_, ?_, ?_, ?_, ?_, ?_, ?_, ?_⟩
  · rw [h1]
    exact h.ds.far (by simp [Value.ownBlock]; exact fun e => hne V.A (by simp) e.symm) u
  · rw [h2]
    exact h.bs.far (fun e => hne g (by simp [← e]) rfl) u
  · rw [h3]
    exact h.sp.set_ (fun b off hb e => h.far b off hb (by rw [e]; simp [AV.fp])) u
  · rw [h5]
    exact ⟨h.im.head.far (hne _ (by simp)) u, h.im.busy.far (hne _ (by simp)) u, h.im.ne, h.im.rows, h.im.len, h.im.bits⟩
  · rw [h6]
    exact h.st.old (Below.heap_setCell w _ u _ (hne _ (by simp)))
  · intro j q hj
    rw [h4] at hj
    exact (h.ring j q hj).far (fun e => hne V.rg (by simp [hj]) e) u
  · rw [hf]; exact hnd
  · rw [hf]; exact h.out
  · rw [hf]; exact h.far
theorem ArrMem.va (h : ArrMem w R g a V) : VA w R (some ⟨V.A, 0, none⟩) a.ds.length (a.ds.map pv) := by
  have h1 := h.ds
  have hl : (a.ds.map pv).length = a.ds.length := by simp
  rw [← hl] at h1 ⊢
  exact h1.va (fun b hb => by
    obtain rfl : V.A = b := by simpa [Value.ownBlock] using hb
    exact h.out _ (by simp [AV.fp]))
end

/-! ### steps over drives -/
def stepD (F : Drv → Drv) (σ : Nat → Option Drv) (p : Option Nat) : Nat → Option Drv := match p with
  | none => σ
  | some g => match σ g with
    | none => σ
    | some D => if D.dead then σ else upd σ g (F D)
/-- drives that are well-formed, of no limit, with so many sectors at least, and few writes pending -/
def Fine (σ : Nat → Option Drv) (ds : List (Option Nat)) (k : Nat) : Prop := ∀ g, some g ∈ ds → ∃ D, σ g = some D ∧ D.wf ∧ D.lim = none ∧ k ≤ D.n ∧ D.pl 1000
/-- what a step keeps so -/
def Keeps (F : Drv → Drv) (k : Nat) : Prop := ∀ D : Drv, D.up → k ≤ D.n → D.pl 1000 → (F D).up ∧ (F D).n = D.n ∧ (F D).pl 1000
theorem Fine.pin {σ : Nat → Option Drv} {ds : List (Option Nat)} {k : Nat} (h : Fine σ ds k) : ∀ p ∈ ds, PIn σ p := fun p hp g e => by
  subst e
  obtain ⟨D, h1, _⟩ := h g hp
  rw [h1]; rfl
theorem Fine.step {σ : Nat → Option Drv} {ds : List (Option Nat)} {k : Nat} (h : Fine σ ds k) {F : Drv → Drv} (hF : Keeps F k) {p : Option Nat} (hp : p ∈ ds) : Fine (stepD F σ p) ds k := by
  cases p with
  | none => exact h
  | some q =>
    obtain ⟨D, h1, h2, h3, h4, h5⟩ := h q hp
    unfold stepD
    simp only [h1]
    cases hd : D.dead
    · obtain ⟨k1, k2, k3⟩ := hF D ⟨h2, hd, h3⟩ h4 h5
      intro g hg
      by_cases e : g = q
      · subst e
        exact ⟨F D, upd_same _ _ _, k1.1, k1.2.2, by rw [k2]; exact h4, k3⟩
      · obtain ⟨D', j1, j2⟩ := h g hg
        exact ⟨D', by rw [if_neg (by simp), upd_other _ _ e]; exact j1, j2⟩
    · simpa using h
theorem Fine.steps {ds : List (Option Nat)} {k : Nat} {F : Drv → Drv} (hF : Keeps F k) : ∀ (l : List (Option Nat)) {σ : Nat → Option Drv}, Fine σ ds k → (∀ p ∈ l, p ∈ ds) → Fine (l.foldl (stepD F) σ) ds k
  | [], _, h, _ => h
  | p :: l, _, h, hl => Fine.steps hF l (h.step hF (hl p (by simp))) (fun q hq => hl q (by simp [hq]))
/-- who is alive stays so -/
theorem alive_step {σ : Nat → Option Drv} {ds : List (Option Nat)} {k : Nat} (h : Fine σ ds k) {F : Drv → Drv} (hF : Keeps F k) {p : Option Nat} (hp : p ∈ ds) (q : Option Nat) : aliveB (stepD F σ p) q = aliveB σ q := by
  cases p with
  | none => rfl
  | some r =>
    obtain ⟨D, h1, h2, h3, h4, h5⟩ := h r hp
    unfold stepD
    simp only [h1]
    cases hd : D.dead
    · obtain ⟨k1, _⟩ := hF D ⟨h2, hd, h3⟩ h4 h5
      cases q with
      | none => rfl
      | some g =>
        by_cases e : g = r
        · subst e
          simp [aliveB, upd_same, h1, hd, k1.2.1]
        · simp [aliveB, upd_other _ _ e]
    · simp
theorem alive_steps {ds : List (Option Nat)} {k : Nat} {F : Drv → Drv} (hF : Keeps F k) : ∀ (l : List (Option Nat)) {σ : Nat → Option Drv}, Fine σ ds k → (∀ p ∈ l, p ∈ ds) → ∀ q, aliveB (l.foldl (stepD F) σ) q = aliveB σ q
  | [], _, _, _, _ => rfl
  | p :: l, _, h, hl, q => (alive_steps hF l (h.step hF (hl p (by simp))) (fun q hq => hl q (by simp [hq])) q).trans (alive_step h hF (hl p (by simp)) q)
theorem keeps_wf1 {k : Nat} (hk : 4 ≤ k) (i : Int) (s : Sec) (h0 : 0 ≤ i) (h1 : i < 4) (hs : s.size = 64) : Keeps (fun D => D.wf1 i s) k := fun D hu hn _ => by
  obtain ⟨a1, a2⟩ := hu.wrOK (i := i) (s := s) h0 (by omega) hs
  obtain ⟨b1, b2⟩ := a1.flOK
  exact ⟨b1, b2.trans a2, (Drv.flOK_pl _).mono (by omega)⟩
end Go.Proofs.YtmhmdoobadckkaaGreatDoor
/- slices.DeleteFunc at a slice of drives of its own block. -/
namespace Go.Proofs.YtmhmdoobadckkaaGreatDoor
set_option maxRecDepth 20000
open Go.RowKit Go.OpenShut

theorem OwnV.set {t : TypeId} {w : World} {base g n c : Nat} {l : List Value} (h : OwnV t w base (.slice (some ⟨g, 0, none⟩) n c) l) (j : Nat) (u : Value) (hn : l.length = n) : OwnV t (w.setCell ⟨g, j, none⟩ u) base (.slice (some ⟨g, 0, none⟩) n c) (l.set j u) := by
  subst hn
  unfold OwnV
  rw [List.length_set]
  exact (World.ownsRow.stored h j u).1
theorem OwnV.isSome_ {t : TypeId} {w : World} {base g n c : Nat} {l : List Value} (h : OwnV t w base (.slice (some ⟨g, 0, none⟩) n c) l) (hn : l.length = n) {j : Nat} (hj : j < n) : w.cell? ⟨g, j, none⟩ = some (l.getD j undef) ∧ w.frozen? ⟨g, j, none⟩ = false := by
  subst hn
  have h1 := World.ownsRow.cellAt h j (by omega)
  refine ⟨?_, World.ownsRow.frozenAt h j⟩
  rw [h1]
  simp [List.getD, hj]
/-- where deleting stands: j elements were seen, i of them kept -/
structure DelAt (f : Option Nat → Bool) (ps L : List (Option Nat)) (i j : Nat) : Prop where
  len : L.length = ps.length
  lt : i < j
  le : j ≤ ps.length
  take : L.take i = (ps.take j).filter (fun p => !f p)
  drop : L.drop j = ps.drop j
theorem DelAt.next {f : Option Nat → Bool} {ps L : List (Option Nat)} {i j : Nat} (h : DelAt f ps L i j) (hj : j < ps.length) : L.getD j none = ps.getD j none ∧
    (f (ps.getD j none) = true → DelAt f ps L i (j + 1)) ∧ (f (ps.getD j none) = false → DelAt f ps (L.set i (ps.getD j none)) (i + 1) (j + 1)) := by
  have hl := h.len
  have e1 : L.getD j none = ps.getD j none := by
    have h1 := congrArg (fun l => l.getD 0 none) h.drop
    simpa [List.getD] using h1
  have e2 : ps.take (j + 1) = ps.take j ++ [ps.getD j none] := by
    rw [List.take_succ_eq_append_getElem hj]
    simp [List.getD, hj]
  have e3 : L.drop (j + 1) = ps.drop (j + 1) := by
    have h1 := congrArg (List.drop 1) h.drop
    rw [List.drop_drop, List.drop_drop] at h1
    exact h1
  have hlt := h.lt
  have hle := h.le
  refine ⟨e1, fun hf => ⟨hl, by omega, by omega, ?_, e3⟩, fun hf => ⟨by rw [List.length_set]; exact hl, by omega, by omega, ?_, ?_⟩⟩
  · rw [e2, List.filter_append, h.take]
    generalize ps.getD j none = p at *
    simp [hf]
  · rw [e2, List.filter_append, ← h.take]
    have h4 : i < (L.set i (ps.getD j none)).length := by rw [List.length_set]; omega
    rw [List.take_succ_eq_append_getElem h4, List.getElem_set_self, List.take_set_of_le (Nat.le_refl _)]
    generalize ps.getD j none = p at *
    simp [hf]
  · rw [List.drop_set_of_lt (by omega)]
    exact e3
theorem DelAt.start {f : Option Nat → Bool} {ps : List (Option Nat)} {i : Nat} (hi : i < ps.length) (h1 : ∀ k, k < i → f (ps.getD k none) = false) (h2 : f (ps.getD i none) = true) : DelAt f ps ps i (i + 1) := by
  refine ⟨rfl, by omega, by omega, ?_, rfl⟩
  rw [List.take_succ_eq_append_getElem hi, List.filter_append]
  have e : ps[i] = ps.getD i none := by simp [List.getD, hi]
  rw [e]
  simp only [List.filter_cons, h2, Bool.not_true, Bool.false_eq_true, if_false, List.filter_nil, List.append_nil]
  refine (List.filter_eq_self.2 fun p hp => ?_).symm
  obtain ⟨k, hk, rfl⟩ := List.mem_iff_getElem.1 hp
  rw [List.length_take] at hk
  have h3 := h1 k (by omega)
  have h4 : k < ps.length := by omega
  simp only [List.getElem_take]
  have e2 : ps.getD k none = ps[k] := by simp [List.getD, h4]
  rw [e2] at h3
  rw [h3]
  rfl
theorem setCells_own {t : TypeId} {base g n c : Nat} : ∀ (k o : Nat) (w : World) (l : List Value) (u : Value), OwnV t w base (.slice (some ⟨g, 0, none⟩) n c) l → l.length = n → o + k ≤ n → ∃ l', OwnV t (w.setCells g o (List.replicate k u)) base (.slice (some ⟨g, 0, none⟩) n c) l' ∧ l'.length = n ∧ l'.take o = l.take o
  | 0, _, _, l, _, h, hn, _ => ⟨l, h, hn, rfl⟩
  | k + 1, o, w, l, u, h, hn, hk => by
    obtain ⟨l', h1, h2, h3⟩ := setCells_own k (o + 1) (w.setCell ⟨g, o, none⟩ u) (l.set o u) u (h.set o u hn) (by rw [List.length_set]; exact hn) (by omega)
    refine ⟨l', h1, h2, ?_⟩
    have h4 := congrArg (List.take o) h3
    rw [List.take_take, List.take_take, Nat.min_eq_left (by omega)] at h4
    rw [h4, List.take_set_of_le (Nat.le_refl _)]
theorem setCells_chg {g : Nat} : ∀ (k o : Nat) (w : World) (u : Value), Chg (· = g) w (w.setCells g o (List.replicate k u))
  | 0, _, _, _ => Chg.refl _ _
  | k + 1, o, w, u => ((Chg.refl (· = g) w).setCell (Or.inl rfl) u).trans (setCells_chg k (o + 1) (w.setCell ⟨g, o, none⟩ u) u) (fun _ _ h => h)
theorem getD_mapV (f : Option Nat → Value) (l : List (Option Nat)) (i : Nat) (h : i < l.length) : (l.map f).getD i undef = f (l.getD i none) := by simp [List.getD, h]
theorem map_setV (f : Option Nat → Value) (l : List (Option Nat)) (i : Nat) (p : Option Nat) : (l.map f).set i (f p) = (l.set i p).map f := by rw [List.map_set]
/-- behind a call of DeleteFunc -/
def Deleted (w : World) (base g c : Nat) (l : List (Option Nat)) (e : Ending) (w' : World) : Prop := e = .returned (.slice (some ⟨g, 0, none⟩) l.length c) ∧ OwnV 33 w' base (.slice (some ⟨g, 0, none⟩) l.length c) (l.map pv) ∧ Chg (· = g) w w'
theorem OwnV.shorter {t : TypeId} {w : World} {base g n c m : Nat} {l : List Value} (h : OwnV t w base (.slice (some ⟨g, 0, none⟩) n c) l) (hn : l.length = n) (hm : m ≤ n) : OwnV t w base (.slice (some ⟨g, 0, none⟩) m c) (l.take m) := by
  subst hn
  have hlt : (l.take m).length = m := by rw [List.length_take]; omega
  obtain ⟨h1, h2⟩ := h
  refine ⟨by rw [hlt]; omega, ?_⟩
  rcases h2 with ⟨h2, _⟩ | ⟨g', cap, cur, e, hg, hh, r1, r2, r3, r4⟩
  · cases h2
  · cases e
    refine Or.inr ⟨g, c, cur, by rw [hlt], hg, hh, by rw [hlt]; omega, r2, r3, ?_⟩
    rw [hlt, ← r4, List.take_take]
    congr 1
    omega
end Go.Proofs.YtmhmdoobadckkaaGreatDoor
/- slices.DeleteFunc at a slice of drives of its own block: the walk. -/
namespace Go.Proofs.YtmhmdoobadckkaaGreatDoor
set_option maxRecDepth 20000
open Go.RowKit Go.OpenShut

theorem clear_drv (w : World) (g o n c : Nat) (hn : 0 < n) (hc : ∀ j, j < n → (w.cell? ⟨g, o + j, none⟩).isSome = true) (hf : ∀ j, j < n → w.frozen? ⟨g, o + j, none⟩ = false) :
    (Builtin.clear_ #[27] 0 #[.slice (some ⟨g, o, none⟩) n c]).run Tryz.prog w = .ok (.tuple #[]) (w.setCells g o (List.replicate n (.pointer none))) :=
  Lib.run_clear_slice w _ _ _ _ Tryz.underlying27 Tryz.zeroValue33 rfl rfl g o n c hn hc hf
theorem store_pv {P : Program} (w : World) (g i : Nat) (p : Option Nat) (v : Value) (h : w.cell? ⟨g, i, none⟩ = some v) (hf : w.frozen? ⟨g, i, none⟩ = false) : (storeCells ⟨g, i, none⟩ [pv p]).run P w = .ok () (w.setCell ⟨g, i, none⟩ (pv p)) := by
  refine run_storeCells_cells (P := P) g i [pv p] 0 w (fun j hj => ?_) (fun j hj => ?_) (fun u hu => ?_)
  · obtain rfl : j = 0 := by simpa using hj
    simp [h]
  · obtain rfl : j = 0 := by simpa using hj
    exact hf
  · simp at hu
    subst hu
    rfl
theorem idxB_cases (f : Option Nat → Bool) : ∀ (l : List (Option Nat)) (k : Nat), (idxB f l k = -1 ∧ ∀ p ∈ l, f p = false) ∨ ∃ i, i < l.length ∧ idxB f l k = ((k + i : Nat) : Int) ∧ (∀ j, j < i → f (l.getD j none) = false) ∧ f (l.getD i none) = true
  | [], _ => Or.inl ⟨rfl, fun _ h => by cases h⟩
  | x :: l, k => by
    cases hx : f x
    · rcases idxB_cases f l (k + 1) with ⟨h1, h2⟩ | ⟨i, h1, h2, h3, h4⟩
      · exact Or.inl ⟨by simp [idxB, hx, h1], fun p hp => by rcases List.mem_cons.1 hp with rfl | hp; exact hx; exact h2 p hp⟩
      · refine Or.inr ⟨i + 1, by simpa using h1, by simp only [idxB, hx, Bool.false_eq_true, if_false, h2]; congr 1; omega, fun j hj => ?_, h4⟩
        cases j with
        | zero => exact hx
        | succ j => exact h3 j (by omega)
    · exact Or.inr ⟨0, by simp, by simp [idxB, hx], fun j hj => by omega, hx⟩
set_option maxHeartbeats 2000000 in
theorem deleteD (w : World) (base g c : Nat) (ps : List (Option Nat)) (h : OwnV 33 w base (.slice (some ⟨g, 0, none⟩) ps.length c) (ps.map pv)) (hn : ps.length ≤ 4294967) (F : Nat) (lb : Array Value) (hF : ∀ args w, (callFunc F args).run Tryz.prog w = .ok (.enter F args) w) (f : Option Nat → Bool)
    (hf : ∀ W, Chg (· = g) w W → ∀ p ∈ ps, Calls Tryz.prog F (#[pv p] ++ lb) W fun e w' => e = .returned (.bool (f p)) ∧ W = w') :
    Calls Tryz.prog 203 #[.slice (some ⟨g, 0, none⟩) ps.length c, .func (.func F) #[] lb] w (Deleted w base g c (ps.filter (fun p => !f p))) := by
  have HI := Lib.hid (indexFuncD w (some ⟨g, 0, none⟩) ps.length c ps (by have := (show OwnV _ _ _ (.slice (some ⟨g, 0, none⟩) (ps.map pv).length c) _ from by rw [List.length_map]; exact h).va (R := fun _ => False) (fun _ _ h => h); rw [List.length_map] at this; exact this) (by omega) F lb hF f (fun W hW p hp => (hf W ((Chg.refl _ _).then hW) p hp).mono fun e w' ⟨h1, h2⟩ => ⟨h1, h2 ▸ Below.refl _ _⟩))
  have HO := Lib.hid h
  have HF := Lib.hid hf
  rcases idxB_cases f ps 0 with ⟨h1, h2⟩ | ⟨i, h1, h2, h3, h4⟩
  · rw [h1] at HI
    have HQ := Lib.hid (show ps.filter (fun p => !f p) = ps from List.filter_eq_self.2 fun p hp => by rw [h2 p hp]; rfl)
    clear h hf h1 h2
    go_enter Tryz.func203, Tryz.ntmps203
    go_wp2_with fail
    refine HI.out.mono ?_
    rintro e w1 ⟨rfl, hb1⟩
    go_wp2_with fail
    go_ret
    rw [HQ.out]
    exact ⟨rfl, HO.out.below hb1, (Chg.refl _ _).then hb1⟩
  · rw [Nat.zero_add] at h2
    rw [h2] at HI
    have HD := Lib.hid (DelAt.start h1 h3 h4)
    clear h hf h2 h3 h4
    generalize hN : ps.length = n at *
    have HN := Lib.hid hN
    clear hN
    go_enter Tryz.func203, Tryz.ntmps203
    go_wp2_with fail
    refine HI.out.mono ?_
    rintro e w1 ⟨rfl, hb1⟩
    have hc1 : Chg (· = g) w w1 := (Chg.refl _ _).then hb1
    have ho1 := HO.out.below hb1
    clear hb1
    go_wp2_with fail
    go_loopw [5, 6] (fun x y wr => ∃ (i j : Nat) (L : List (Option Nat)), x = .int .i64 i ∧ y = .int .i64 j ∧ DelAt f ps L i j ∧ OwnV 33 wr base (.slice (some ⟨g, 0, none⟩) n c) (L.map pv) ∧ Chg (· = g) w wr) (fun _ y _ => n - (RowKit.intOf y).toNat)
    case atStart => exact ⟨i, i + 1, ps, rfl, by go_num, HD.out, ho1, hc1⟩
    case round =>
      clear ho1 hc1
      obtain ⟨i, j, L, rfl, rfl, hd, ho, hc⟩ := hrel
      have hlL : L.length = n := hd.len.trans HN.out
      have hij := hd.lt
      have hjn : j ≤ n := by have := hd.le; have := HN.out; omega
      have hmL : (L.map pv).length = n := by rw [List.length_map]; exact hlL
      by_cases hlt : j < n
      · have hcj := (ho.isSome_ hmL hlt).1
        have hfz := (ho.isSome_ hmL (show i < n by omega)).2
        have hsi := (ho.isSome_ hmL (show i < n by omega)).1
        rw [getD_mapV pv L i (by omega)] at hsi
        generalize L.getD i none = old at hsi
        obtain ⟨d1, d2, d3⟩ := hd.next (show j < ps.length by rw [HN.out]; exact hlt)
        rw [getD_mapV pv L j (by omega), d1] at hcj
        have hmem : ps.getD j none ∈ ps := by
          have : j < ps.length := by rw [HN.out]; exact hlt
          simp [List.getD, this]
        have HC := Lib.hid (HF.out wr hc _ hmem)
        have hst := fun p => store_pv (P := Tryz.prog) wr g i p _ hsi hfz
        generalize ps.getD j none = p at *
        obtain ⟨pa, hpa⟩ : ∃ a : Option Addr, pv p = .pointer a := ⟨_, rfl⟩
        obtain ⟨oa, hoa⟩ : ∃ a : Option Addr, pv old = .pointer a := ⟨_, rfl⟩
        replace hst := hst p
        rw [hpa] at hcj HC hst
        rw [hoa] at hsi
        have HPA := Lib.hid hpa
        clear hpa hoa
        have HD1 := Lib.hid d2
        have HD2 := Lib.hid d3
        have HOR := Lib.hid ho
        have HCR := Lib.hid hc
        have HML := Lib.hid hmL
        have HSI := Lib.hid hsi
        have HFZ := Lib.hid hfz
        clear d1 d2 d3 ho hc hmL hmem hd hsi hfz
        go_wp2_with fail
        refine HC.out.mono ?_
        rintro e w2 ⟨rfl, rfl⟩
        obtain ⟨q, hq⟩ : ∃ q, f p = q := ⟨_, rfl⟩
        rw [hq]
        have HQ := Lib.hid hq
        have hsi := HSI.out
        have hfz := HFZ.out
        clear hq hcj
        cases q
        · go_wp2_with fail
          go_roundw
          case rel =>
            refine ⟨_, _, _, _, _, _, _, _, _, _, _, _, _, _, _, _, _, _, _, _, _, _, _, ?_, rfl⟩
            refine ⟨i + 1, j + 1, L.set i p, by go_num, by go_num, HD2.out HQ.out, ?_, (HCR.out.setCell (p := ⟨g, i, none⟩) (Or.inl rfl) _)⟩
            rw [← map_setV, HPA.out]
            exact HOR.out.set i _ HML.out
          case measure => simp [RowKit.intOf]; omega
        · go_wp2_with fail
          go_roundw
          case rel =>
            refine ⟨_, _, _, _, _, _, _, _, _, _, _, _, _, _, _, _, _, _, _, _, _, _, _, ?_, rfl⟩
            exact ⟨i, j + 1, L, rfl, by go_num, HD1.out HQ.out, HOR.out, HCR.out⟩
          case measure => simp [RowKit.intOf]; omega
      · obtain rfl : j = n := by omega
        have hcl := clear_drv wr g i (j - i) (c - i) (by omega) (fun k hk => by rw [(ho.isSome_ hmL (show i + k < j by omega)).1]; rfl) (fun k hk => (ho.isSome_ hmL (show i + k < j by omega)).2)
        have hcap : j ≤ c := by
          obtain ⟨A, c', e1, e2, _⟩ := ho.shape
          cases e1
          omega
        obtain ⟨l', o1, o2, o3⟩ := setCells_own (j - i) i wr _ (.pointer none) ho hmL (by omega)
        have hsh := o1.shorter o2 (show i ≤ j by omega)
        have htk := hd.take
        rw [List.take_of_length_le (l := ps) (i := j) (by have := HN.out; omega)] at htk
        rw [o3, ← List.map_take, htk] at hsh
        have hil : (ps.filter (fun p => !f p)).length = i := by rw [← htk, List.length_take]; omega
        have HS := Lib.hid hsh
        have HIL := Lib.hid hil
        have HCH := Lib.hid (hc.trans (setCells_chg (j - i) i wr (.pointer none)) (fun _ _ h => h))
        generalize wr.setCells g i _ = W2 at *
        clear ho hc hd o1 o2 o3 hsh htk hil hmL hlL
        go_wp2_with fail
        go_ret
        unfold Deleted
        rw [HIL.out]
        exact ⟨rfl, HS.out, HCH.out⟩
end Go.Proofs.YtmhmdoobadckkaaGreatDoor
