import Derived.Test.YthpehdmffleobaaPackEnc
import Derived.Test.YthpehdmffleobaaInts
namespace Go.Proofs.Ythpehdmffleobaa
open Go.RowKit Go.OpenShut
attribute [local go_sem] Oper.semAt_some

def decE (ws : List Int) (s : ByteArray) : Int := if wOK ws then (if (s.size : Int) = sumW ws then 0 else 31) else 1

set_option maxHeartbeats 400000 in
theorem decode_w (w : World) (s : ByteArray) (A' : Option Addr) (m c' : Nat) (ws : List Int) (hw : IntsA w w.heap.size .i64 A' m ws) (hm : m ≤ 4294967295) (hno : wOK ws = false) :
    Calls Try.prog 33 #[.string s, .slice A' m c'] w fun e w' => e = .returned (.tuple #[.slice none 0 0, .int .i64 1]) ∧ Below w.heap.size w w' := by
  have h1 := (size_no hno).1
  have h2 := (size_no hno).2
  go_enter Try.func33, Try.ntmps33
  go_wp2_with fail
  refine (size_any _ w.heap.size A' m c' ws (hw.below ((Below.refl _ _).alloc (Nat.le_refl _) _)) hm).mono ?_
  rintro e w1 ⟨rfl, rfl⟩
  rw [h1, h2]
  clear h1 h2
  go_wp2
  go_ret2
  exact ⟨rfl, (Below.refl _ _).alloc (Nat.le_refl _) _⟩

set_option maxHeartbeats 400000 in
theorem decode_short (w : World) (s : ByteArray) (A' : Option Addr) (m c' : Nat) (ws : List Int) (hw : IntsA w w.heap.size .i64 A' m ws) (hm : m ≤ 4294967295) (hok : wOK ws = true) (hne : (s.size : Int) ≠ sumW ws) :
    Calls Try.prog 33 #[.string s, .slice A' m c'] w fun e w' => e = .returned (.tuple #[.slice none 0 0, .int .i64 31]) ∧ Below w.heap.size w w' := by
  have h1 := (size_yes hok).1
  have h2 := (size_yes hok).2
  have hb : ((s.size : Int) != sumW ws) = true := by rw [bne_iff_ne]; exact hne
  generalize sumW ws = N at *
  go_enter Try.func33, Try.ntmps33
  go_wp2_with fail
  refine (size_any _ w.heap.size A' m c' ws (hw.below ((Below.refl _ _).alloc (Nat.le_refl _) _)) hm).mono ?_
  rintro e w1 ⟨rfl, rfl⟩
  rw [h1, h2]
  clear h1 h2
  go_wp2
  go_ret2
  exact ⟨rfl, (Below.refl _ _).alloc (Nat.le_refl _) _⟩

theorem run_makeI (n : Nat) (hn : n < 4294967296) (w : World) :
    (Instr.makeSlice 70 (.int .i64 (n : Int)) (.int .i64 (n : Int))).run Try.prog w = .ok (.slice (some ⟨w.heap.size, 0, none⟩) n n) (w.alloc (.cells (ivs .u64 (List.replicate n 0)).toArray 22)) := by
  obtain ⟨i0, hi, hz0, hz1, hz2⟩ := info_parts info_u64
  have hr := run_make (P := Try.prog) w 70 22 i0 (.int .u64 0) Try.underlying70 hi hz0 .i64 .i64 (n : Int) (n : Int) (by omega) (by omega) (by rw [hz2]; omega) (by omega)
  simp only [Int.toNat_natCast] at hr
  rw [hr, hz1, Nat.mul_one]
  congr 3
  apply Array.toList_inj.1
  rw [show (Value.int IntKind.u64 0).cells = #[.int .u64 0] from rfl, toList_madeCells_one]
  simp [ivs]

def decStep (l : List Nat) (p : (Nat × Nat) × UInt8) : List Nat := l.set p.1.1 (l.getD p.1.1 0 ||| p.2.toNat * 256 ^ p.1.2)
def decF (bs : List UInt8) (m : Nat) (ps : List (Nat × Nat)) : List Nat := (ps.zip bs).foldl decStep (List.replicate m 0)
theorem zip_snoc {α β : Type} (ps : List α) (x : α) (bs : List β) (h : ps.length < bs.length) : (ps ++ [x]).zip bs = ps.zip bs ++ [(x, bs[ps.length])] := by
  induction ps generalizing bs with
  | nil => cases bs with
    | nil => simp at h
    | cons b r => simp
  | cons y ps ih => cases bs with
    | nil => simp at h
    | cons b r => simp at h; simp [ih r h]
theorem decF_snoc (bs : List UInt8) (m : Nat) (ps : List (Nat × Nat)) (x : Nat × Nat) (h : ps.length < bs.length) : decF bs m (ps ++ [x]) = decStep (decF bs m ps) (x, bs[ps.length]) := by
  unfold decF
  rw [zip_snoc ps x bs h, List.foldl_append]
  rfl
theorem decF_len (bs : List UInt8) (m : Nat) (ps : List (Nat × Nat)) : (decF bs m ps).length = m := by
  unfold decF
  generalize ps.zip bs = q
  have : ∀ l : List Nat, l.length = m → (q.foldl decStep l).length = m := by
    induction q with
    | nil => intro l h; exact h
    | cons y q ih => intro l h; exact ih _ (by simp [decStep, h])
  exact this _ (by simp)
theorem or_place_eq (b : UInt8) (kk : Nat) (hk : kk < 8) : b.toNat * 256 ^ kk < 18446744073709551616 := by
  have hb := b.toNat_lt
  have h2 : 256 ^ kk ≤ 256 ^ 7 := Nat.pow_le_pow_right (by omega) (by omega)
  have h3 : b.toNat * 256 ^ kk ≤ 255 * 256 ^ 7 := Nat.mul_le_mul (by omega) h2
  omega
theorem or_place_lt (a : Nat) (b : UInt8) (kk : Nat) (ha : a < 18446744073709551616) (hk : kk < 8) : a ||| b.toNat * 256 ^ kk < 18446744073709551616 :=
  Nat.or_lt_two_pow (n := 64) ha (or_place_eq b kk hk)
theorem or_place (a : Nat) (b : UInt8) (kk : Nat) (ha : a < 18446744073709551616) (hk : kk < 8) :
    bits BinOp.or IntKind.u64 (a : Int) (IntKind.u64.wrap (IntKind.u64.wrap (b.toNat : Int) * 2 ^ (8 * kk))) = ((a ||| b.toNat * 256 ^ kk : Nat) : Int) := by
  have hb := b.toNat_lt
  have h1 := or_place_eq b kk hk
  have e1 : IntKind.u64.wrap (b.toNat : Int) = (b.toNat : Int) := by rw [IntKind.wrap_u64]; omega
  have e2 : (b.toNat : Int) * 2 ^ (8 * kk) = ((b.toNat * 256 ^ kk : Nat) : Int) := by
    rw [Int.natCast_mul, show (256 : Nat) = 2 ^ 8 from rfl, ← Nat.pow_mul, Int.natCast_pow]
    rfl
  rw [e1, e2, IntKind.wrap_u64]
  have e3 : ((b.toNat * 256 ^ kk : Nat) : Int) % 18446744073709551616 = ((b.toNat * 256 ^ kk : Nat) : Int) := by omega
  rw [e3, u64_or_nat _ _ ha h1]
def ivn (l : List Nat) : Array Value := (l.map fun n : Nat => Value.int .u64 (n : Int)).toArray
theorem ivn_get {l : List Nat} {i : Nat} (h : i < l.length) : (ivn l)[i]? = some (.int .u64 ((l.getD i 0 : Nat) : Int)) := by simp [ivn, h, List.getD]
theorem ivn_set (l : List Nat) (i n : Nat) : (ivn l).setIfInBounds i (.int .u64 (n : Int)) = ivn (l.set i n) := by
  unfold ivn
  rw [List.map_set]
  simp

set_option maxHeartbeats 2000000 in
theorem decode_ok (w : World) (s : ByteArray) (A' : Option Addr) (m c' : Nat) (ws : List Int) (hw : IntsA w w.heap.size .i64 A' m ws) (hm : m ≤ 4294967295) (hok : wOK ws = true) (he : (s.size : Int) = sumW ws) :
    Calls Try.prog 33 #[.string s, .slice A' m c'] w fun e w' => e = .returned (.tuple #[.slice (some ⟨w.heap.size + 1, 0, none⟩) m m, .int .i64 0]) ∧ Blk w' (w.heap.size + 1) 22 (ivn (decF s.data.toList m (placesF 0 ws))) ∧ Below w.heap.size w w' := by
  have h1 := (size_yes hok).1
  have h2 := (size_yes hok).2
  have HW := Lib.hid hw.1
  obtain ⟨N, hN⟩ : ∃ N : Nat, s.size = N := ⟨_, rfl⟩
  have HN := Lib.hid hN
  rw [← he] at h1
  rw [hN] at h1
  have hb : ((N : Int) != (N : Int)) = false := by simp
  have hN512 : N ≤ 512 := by
    have h3 := sumW_bd ws (by unfold wOK at hok; simp at hok; exact hok.1)
    have h4 : ws.length ≤ 64 := by unfold wOK at hok; simp at hok; exact hok.2
    omega
  have hm64 : m ≤ 64 := by
    have h4 : ws.length ≤ 64 := by unfold wOK at hok; simp at hok; exact hok.2
    rw [HW.out] at h4
    exact h4
  have hmk := run_makeI m (by omega)
  obtain ⟨z, hz⟩ : ∃ z, List.replicate m (0 : Int) = z := ⟨_, rfl⟩
  have hzl : z.length = m := by rw [← hz]; simp
  rw [hz] at hmk
  have HZL := Lib.hid hzl
  have HZ := Lib.hid hz
  clear hz hzl
  refine calls_marks Try.func33 rfl ?_
  simp only [Try.ntmps33, List.size_toArray, List.length_cons, List.length_nil, Nat.reduceAdd, Nat.reduceSub, Array.replicate_succ, Array.replicate_zero, List.push_toArray, List.append_toArray, List.nil_append, List.cons_append]
  go_wp2_with fail
  refine (size_any _ w.heap.size A' m c' ws (hw.below ((Below.refl _ _).alloc (Nat.le_refl _) _)) hm).mono ?_
  rintro e w1 ⟨rfl, rfl⟩
  rw [h1, h2]
  have HSW := Lib.hid (show sumW ws = (N : Int) by omega)
  clear h1 h2 he
  go_wp2_with fail
  refine (places_any _ A' m c').mono ?_
  rintro e w1 ⟨rfl, rfl⟩
  go_wp2_with fail
  have hk0 := Blk.new w 9 #[.string s]
  have hb0 := (Below.refl w.heap.size w).alloc (Nat.le_refl _) (.cells #[.string s] 9)
  have hs0 : (w.alloc (.cells #[.string s] 9)).heap.size = w.heap.size + 1 := by simp
  generalize w.alloc (.cells #[.string s] 9) = W0 at *
  have hr1 := Blk.new W0 22 (ivs .u64 z).toArray
  rw [hs0] at hr1
  have hk1 := hk0.alloc (.cells (ivs .u64 z).toArray 22)
  have hb1 := hb0.alloc hb0.size (.cells (ivs .u64 z).toArray 22)
  have hs1 : (W0.alloc (.cells (ivs .u64 z).toArray 22)).heap.size = w.heap.size + 1 + 1 := by simp; omega
  generalize W0.alloc (.cells (ivs .u64 z).toArray 22) = W1 at *
  have hl2 := Blk.new W1 70 #[.slice (some ⟨w.heap.size + 1, 0, none⟩) m m]
  rw [hs1] at hl2
  have hr2 := hr1.alloc (.cells #[.slice (some ⟨w.heap.size + 1, 0, none⟩) m m] 70)
  have hk2 := hk1.alloc (.cells #[.slice (some ⟨w.heap.size + 1, 0, none⟩) m m] 70)
  have hb2 := hb1.alloc hb1.size (.cells #[.slice (some ⟨w.heap.size + 1, 0, none⟩) m m] 70)
  have hs2 : (W1.alloc (.cells #[.slice (some ⟨w.heap.size + 1, 0, none⟩) m m] 70)).heap.size = w.heap.size + 1 + 1 + 1 := by simp; omega
  generalize W1.alloc (.cells #[.slice (some ⟨w.heap.size + 1, 0, none⟩) m m] 70) = W2 at *
  have hw3 := Blk.new W2 73 #[.slice A' m c']
  rw [hs2] at hw3
  have hr3 := hr2.alloc (.cells #[.slice A' m c'] 73)
  have hl3 := hl2.alloc (.cells #[.slice A' m c'] 73)
  have hk3 := hk2.alloc (.cells #[.slice A' m c'] 73)
  have hb3 := hb2.alloc hb2.size (.cells #[.slice A' m c'] 73)
  have hs3 : (W2.alloc (.cells #[.slice A' m c'] 73)).heap.size = w.heap.size + 1 + 1 + 1 + 1 := by simp; omega
  generalize W2.alloc (.cells #[.slice A' m c'] 73) = R at *
  clear hk0 hb0 hr1 hk1 hb1 hl2 hr2 hk2 hb2 hs0 hs1 hs2 hmk
  have hws : ∀ x ∈ ws, 1 ≤ x ∧ x ≤ 8 := by unfold wOK at hok; simp at hok; exact hok.1
  have hr3 : Blk R (w.heap.size + 1) 22 (ivn (decF s.data.toList m [])) := by
    have : (ivs .u64 z).toArray = ivn (decF s.data.toList m []) := by
      rw [← HZ.out]
      simp [ivs, ivn, decF]
    rw [← this]
    exact hr3
  refine wp_range w.heap.size (by omega) rfl (enters_of Try.func60 (by kernel_rfl) rfl)
    (places_stops (w.heap.size + 1 + 1 + 1) w.heap.size A' m c' ws hws hm R (by omega) (by omega) (hw3.cell 0) (hw.below hb3)) (fun _ => rfl)
    (fun pre V => (∃ T : ByteArray, Blk V w.heap.size 9 #[.string T] ∧ T.data.toList = s.data.toList.drop pre.length) ∧ Blk V (w.heap.size + 1) 22 (ivn (decF s.data.toList m (pre.map (·.1)))) ∧ (∀ x ∈ decF s.data.toList m (pre.map (·.1)), x < 18446744073709551616) ∧
      Blk V (w.heap.size + 1 + 1) 70 #[.slice (some ⟨w.heap.size + 1, 0, none⟩) m m] ∧ Below w.heap.size w V)
    (fun _ _ _ => False) ?hI (fun _ _ _ _ _ hs _ _ => hs) ⟨⟨s, hk3, by simp⟩, hr3, ?h0, hl3, hb3⟩ ?hround ?hdone (fun _ _ _ _ _ _ h => h.elim)
  case h0 =>
    intro x hx
    unfold decF at hx
    simp at hx
    omega
  case hI =>
    rintro st V V' row ⟨⟨T, h1, h2⟩, h3, h4, h5, h6⟩ hg hr
    exact ⟨⟨T, h1.turn hg hr, h2⟩, h3.turn hg hr, h4, h5.turn hg hr, below_turn h6 (Nat.le_refl _) (by omega) hg hr⟩
  case hround =>
    apply Exists.intro
    constructor
    · intro l x V K hK
      dsimp only [plEnc]
      gi_wp2
      exact hK
    · rintro l pre x V ⟨⟨T, h1, h2⟩, h3, h4, h5, h6⟩ hlen
      gi_wp2
      obtain ⟨⟨i, kk⟩, hik, hkk⟩ := x
      replace hik : i < m := hik
      replace hkk : kk < 8 := hkk
      have hTl := congrArg List.length h2
      rw [List.length_drop] at hTl
      have hT0 : 0 < T.size := by
        have e1 : T.data.toList.length = T.size := by simp
        have e2 : s.data.toList.length = s.size := by simp
        rw [HN.out] at e2
        rw [HSW.out, Int.toNat_natCast] at hlen
        omega
      have hdl := decF_len s.data.toList m (pre.map (·.1))
      have hrc := h3.cell i
      rw [ivn_get (by rw [hdl]; exact hik)] at hrc
      have hab : (decF s.data.toList m (pre.map (·.1))).getD i 0 < 18446744073709551616 := by
        have : i < (decF s.data.toList m (pre.map (·.1))).length := by rw [hdl]; exact hik
        exact h4 _ (by simp [List.getD, this])
      obtain ⟨a, ha⟩ : ∃ a, (decF s.data.toList m (pre.map (·.1))).getD i 0 = a := ⟨_, rfl⟩
      rw [ha] at hrc hab
      have HA := Lib.hid ha
      have HT := Lib.hid h2
      clear ha h2 hTl hdl
      have hS : V.drew.cell? ⟨w.heap.size, 0, none⟩ = some (.string T) ∧ V.drew.cell? ⟨w.heap.size + 1 + 1, 0, none⟩ = some (.slice (some ⟨w.heap.size + 1, 0, none⟩) m m) ∧ V.drew.cell? ⟨w.heap.size + 1, i, none⟩ = some (.int .u64 (a : Int)) := ⟨h1.cell 0, h5.cell 0, hrc⟩
      refine wpIn_region_nf l (fun V' => V'.cell? ⟨w.heap.size, 0, none⟩ = some (.string T) ∧ V'.cell? ⟨w.heap.size + 1 + 1, 0, none⟩ = some (.slice (some ⟨w.heap.size + 1, 0, none⟩) m m) ∧ V'.cell? ⟨w.heap.size + 1, i, none⟩ = some (.int .u64 (a : Int))) (fun j => j == 11)
        [(0, true), (1, true), (2, true), (3, true), (4, true), (5, true), (6, true), (7, true), (8, true), (9, true), (10, true), (11, false)] (by kernel_rfl) rfl (by kernel_rfl) (by kernel_rfl) (fun d _ _ _ _ h => by cases d <;> exact h) (by kernel_rfl) (fun ⟨_, _, h⟩ => h) ?_
      refine nf_pure rfl hS (fun w1 hS => by obtain ⟨g1, g2, g3⟩ := hS; go_wp2; exact ⟨rfl, rfl, rfl⟩) rfl ?_ ?_
      rfl
      refine nf_pure rfl hS (fun w1 hS => by obtain ⟨g1, g2, g3⟩ := hS; go_wp2; exact ⟨rfl, rfl, rfl⟩) rfl ?_ ?_
      rfl
      refine nf_pure rfl hS (fun w1 hS => by obtain ⟨g1, g2, g3⟩ := hS; go_wp2; exact ⟨rfl, rfl, rfl⟩) rfl ?_ ?_
      rfl
      refine nf_pure rfl hS (fun w1 hS => by obtain ⟨g1, g2, g3⟩ := hS; go_wp2; exact ⟨rfl, rfl, rfl⟩) rfl ?_ ?_
      rfl
      refine nf_pure rfl hS (fun w1 hS => by obtain ⟨g1, g2, g3⟩ := hS; go_wp2; exact ⟨rfl, rfl, rfl⟩) rfl ?_ ?_
      rfl
      refine nf_pure rfl hS (fun w1 hS => by obtain ⟨g1, g2, g3⟩ := hS; go_wp2; exact ⟨rfl, rfl, rfl⟩) rfl ?_ ?_
      rfl
      refine nf_pure rfl hS (fun w1 hS => by obtain ⟨g1, g2, g3⟩ := hS; go_wp2; exact ⟨rfl, rfl, rfl⟩) rfl ?_ ?_
      rfl
      refine nf_pure rfl hS (fun w1 hS => by obtain ⟨g1, g2, g3⟩ := hS; go_wp2; exact ⟨rfl, rfl, rfl⟩) rfl ?_ ?_
      rfl
      refine nf_pure rfl hS (fun w1 hS => by obtain ⟨g1, g2, g3⟩ := hS; go_wp2; exact ⟨rfl, rfl, rfl⟩) rfl ?_ ?_
      rfl
      refine nf_pure rfl hS (fun w1 hS => by obtain ⟨g1, g2, g3⟩ := hS; go_wp2; exact ⟨rfl, rfl, rfl⟩) rfl ?_ ?_
      rfl
      obtain ⟨b, hb8⟩ : ∃ b : UInt8, T[0] = b := ⟨_, rfl⟩
      obtain ⟨a', hor, hal, hae⟩ : ∃ a' : Nat, bits BinOp.or IntKind.u64 (a : Int) (IntKind.u64.wrap (IntKind.u64.wrap (T[0].toNat : Int) * 2 ^ (8 * kk))) = (a' : Int) ∧ a' < 18446744073709551616 ∧ a' = a ||| b.toNat * 256 ^ kk := by
        rw [hb8]
        exact ⟨_, or_place a b kk hab hkk, or_place_lt a b kk hab hkk, rfl⟩
      rw [hor]
      have HAE := Lib.hid hae
      have HB8 := Lib.hid hb8
      clear hae hb8 hor
      refine nf_pure rfl hS (fun w1 hS => by obtain ⟨g1, g2, g3⟩ := hS; go_wp2; exact ⟨rfl, rfl, rfl⟩) rfl ?_ ?_
      rfl
      have hf0 := h3.frozen i
      refine nf_imp rfl ?_
      go_wp2_with fail
      refine ⟨fun h => (by cases h), ?_⟩
      refine nf_nil ?_
      have hsc0 := h1.cell 0
      have hsf0 := h1.frozen 0
      gi_wp2
      have hbs : pre.length < s.data.toList.length := by
        have e2 : s.data.toList.length = s.size := by simp
        rw [e2, HN.out]
        rw [HSW.out, Int.toNat_natCast] at hlen
        exact hlen
      have hbe : s.data.toList[pre.length] = b := by
        rw [← HB8.out]
        have e3 : T.data.toList[0]? = s.data.toList[pre.length]? := by rw [HT.out]; simp
        rw [List.getElem?_eq_getElem hbs, List.getElem?_eq_getElem (show 0 < T.data.toList.length by simpa using hT0)] at e3
        exact (Option.some.inj e3).symm
      have hdn : decF s.data.toList m (List.map (fun x : Pl m => x.1) (pre ++ [⟨(i, kk), hik, hkk⟩])) = (decF s.data.toList m (List.map (fun x : Pl m => x.1) pre)).set i a' := by
        rw [List.map_append, List.map_cons, List.map_nil, decF_snoc _ _ _ _ (by rw [List.length_map]; exact hbs)]
        simp only [decStep, List.length_map, hbe, HA.out, HAE.out]
      refine ⟨((keeps_set (p := ⟨w.heap.size + 1, i, none⟩) (by show w.heap.size + 1 < _; omega) V _).trans (keeps_set (p := ⟨w.heap.size, 0, none⟩) (by show w.heap.size < _; omega) _ _)).trans (keeps_drew _ _),
        (((Below.refl _ V).setCell (by show w.heap.size ≤ w.heap.size + 1; omega) _).setCell (by show w.heap.size ≤ w.heap.size; omega) _).drew,
        ⟨T.extract 1 T.size, ((h1.far (p := ⟨w.heap.size + 1, i, none⟩) (by show ¬ w.heap.size = w.heap.size + 1; omega) _).set_ 0 _).drew, ?_⟩, ?_, ?_,
        ((h5.far (p := ⟨w.heap.size + 1, i, none⟩) (by show ¬ _ = w.heap.size + 1; omega) _).far (p := ⟨w.heap.size, 0, none⟩) (by show ¬ _ = w.heap.size; omega) _).drew,
        ((h6.setCell (by show w.heap.size ≤ w.heap.size + 1; omega) _).setCell (by show w.heap.size ≤ w.heap.size; omega) _).drew⟩
      · rw [List.length_append, List.length_singleton, ← List.drop_drop, ← HT.out]
        rw [ByteArray.data_extract, Array.toList_extract, List.extract_eq_take_drop]
        rw [List.take_of_length_le (by simp)]
      · rw [hdn, ← ivn_set]
        exact ((h3.set_ i _).far (p := ⟨w.heap.size, 0, none⟩) (by show ¬ w.heap.size + 1 = w.heap.size; omega) _).drew
      · rw [hdn]
        intro x hx
        rcases List.mem_or_eq_of_mem_set hx with h | h
        · exact h4 x h
        · omega
  case hdone =>
    rintro D xs V hD hxs ⟨⟨T, h1, h2⟩, h3, h4, h5, h6⟩ hdef
    rw [hxs] at h3
    have hl0 := h5.cell 0
    clear h1 h2 h4
    go_wp2_with fail
    refine ret_mark rfl hdef (results_tmp2 rfl _ _ _) ?_
    refine ⟨rfl, ?_, h6.trans (belowK_b (w := w) (Nat.le_refl _) V D _ _ (by omega) hdef rfl rfl)⟩
    exact (World.putObj_heap_other (by omega)).trans h3
end Go.Proofs.Ythpehdmffleobaa
