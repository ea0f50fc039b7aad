/- revetmentlaw08.SuperNew: its walk. -/
import Derived.Test.YtfoflbbeckepoaaSuShown
namespace Go.Proofs.Ytfoflbbeckepoaa
open Go.RowKit Go.OpenShut

def newP (c r nw gr : Int) : Prop := ((nw = 0 ∧ gr = 0) ∨ (c < nw ∧ nw ≤ 10 ∧ gr ≤ 9)) ∧ r < max c nw
theorem new_may (u c r nw gr : Int) (hu : 1 ≤ u) (c0 : 4 ≤ c) (c1 : c ≤ 10) (r0 : 0 ≤ r) (r1 : r ≤ 11) (n0 : 0 ≤ nw) (g0 : 0 ≤ gr) : Sup.may ⟨u, 0, r, c, 1, 9, false, 0, nw, gr⟩ = true ↔ newP c r nw gr := by
  unfold Sup.may newP
  have h0 : (u == 0) = false := by rw [beq_eq_false_iff_ne]; omega
  simp only [h0, Bool.and_eq_true, Bool.or_eq_true, decide_eq_true_eq, wi_iff, geoOK_iff]
  simp
  omega
theorem new_wf (m c r nw gr : Int) (h0 : 1 ≤ m) (h1 : m < 18446744073709551616) (n1 : nw ≤ 13) : (Sup.mk m 0 r c 1 9 false 0 nw gr).wf := by
  constructor <;> simp only <;> omega
theorem encN_yes (w : World) (m c r nw gr : Int) (h0 : 1 ≤ m) (h1 : m < 18446744073709551616) (c0 : 4 ≤ c) (c1 : c ≤ 10) (r0 : 0 ≤ r) (r1 : r ≤ 11) (n0 : 0 ≤ nw) (n1 : nw ≤ 13) (g0 : 0 ≤ gr) (h : newP c r nw gr) :
    Calls Try.prog 9 #[.agg #[.int .u64 m, .int .u64 0, .int .i64 r, .int .i64 c, .int .i64 1, .int .i64 9, .bool false, .int .i64 0, .int .i64 nw, .int .i64 gr]] w fun e w' => (∃ S, e = .returned (.tuple #[.string S, .int .i64 0])) ∧ Below w.heap.size w w' := by
  refine (supEnc_any w ⟨m, 0, r, c, 1, 9, false, 0, nw, gr⟩ (new_wf m c r nw gr h0 h1 n1)).mono ?_
  rintro e w' ⟨rfl, hb⟩
  unfold Sup.err
  rw [(new_may m c r nw gr h0 c0 c1 r0 r1 n0 g0).2 h]
  exact ⟨⟨_, rfl⟩, hb⟩
theorem mayN_yes (w : World) (m c r nw gr : Int) (h0 : 1 ≤ m) (h1 : m < 18446744073709551616) (c0 : 4 ≤ c) (c1 : c ≤ 10) (r0 : 0 ≤ r) (r1 : r ≤ 11) (n0 : 0 ≤ nw) (n1 : nw ≤ 13) (g0 : 0 ≤ gr) (h : newP c r nw gr) :
    Calls Try.prog 10 #[.agg #[.int .u64 m, .int .u64 0, .int .i64 r, .int .i64 c, .int .i64 1, .int .i64 9, .bool false, .int .i64 0, .int .i64 nw, .int .i64 gr]] w fun e w' => e = .returned (.bool true) ∧ Below w.heap.size w w' := by
  refine (may_any w ⟨m, 0, r, c, 1, 9, false, 0, nw, gr⟩ (new_wf m c r nw gr h0 h1 n1)).mono ?_
  rintro e w' ⟨rfl, hb⟩
  rw [(new_may m c r nw gr h0 c0 c1 r0 r1 n0 g0).2 h]
  exact ⟨rfl, hb⟩
theorem encN_no (w : World) (m c r nw gr : Int) (h0 : 1 ≤ m) (h1 : m < 18446744073709551616) (c0 : 4 ≤ c) (c1 : c ≤ 10) (r0 : 0 ≤ r) (r1 : r ≤ 11) (n0 : 0 ≤ nw) (n1 : nw ≤ 13) (g0 : 0 ≤ gr) (h : ¬ newP c r nw gr) :
    Calls Try.prog 9 #[.agg #[.int .u64 m, .int .u64 0, .int .i64 r, .int .i64 c, .int .i64 1, .int .i64 9, .bool false, .int .i64 0, .int .i64 nw, .int .i64 gr]] w fun e w' => (∃ S, e = .returned (.tuple #[.string S, .int .i64 1])) ∧ Below w.heap.size w w' := by
  refine (supEnc_any w ⟨m, 0, r, c, 1, 9, false, 0, nw, gr⟩ (new_wf m c r nw gr h0 h1 n1)).mono ?_
  rintro e w' ⟨rfl, hb⟩
  unfold Sup.err
  rw [show Sup.may ⟨m, 0, r, c, 1, 9, false, 0, nw, gr⟩ = false by rw [Bool.eq_false_iff]; exact fun e => h ((new_may m c r nw gr h0 c0 c1 r0 r1 n0 g0).1 e)]
  exact ⟨⟨_, rfl⟩, hb⟩
theorem mayN_no (w : World) (m c r nw gr : Int) (h0 : 1 ≤ m) (h1 : m < 18446744073709551616) (c0 : 4 ≤ c) (c1 : c ≤ 10) (r0 : 0 ≤ r) (r1 : r ≤ 11) (n0 : 0 ≤ nw) (n1 : nw ≤ 13) (g0 : 0 ≤ gr) (h : ¬ newP c r nw gr) :
    Calls Try.prog 10 #[.agg #[.int .u64 m, .int .u64 0, .int .i64 r, .int .i64 c, .int .i64 1, .int .i64 9, .bool false, .int .i64 0, .int .i64 nw, .int .i64 gr]] w fun e w' => e = .returned (.bool false) ∧ Below w.heap.size w w' := by
  refine (may_any w ⟨m, 0, r, c, 1, 9, false, 0, nw, gr⟩ (new_wf m c r nw gr h0 h1 n1)).mono ?_
  rintro e w' ⟨rfl, hb⟩
  rw [show Sup.may ⟨m, 0, r, c, 1, 9, false, 0, nw, gr⟩ = false by rw [Bool.eq_false_iff]; exact fun e => h ((new_may m c r nw gr h0 c0 c1 r0 r1 n0 g0).1 e)]
  exact ⟨rfl, hb⟩
set_option maxHeartbeats 4000000 in
theorem superNew_yes (u m : Int) (cols more grown role : Nat) (y nw gr r : Int) (hm : max u 1 = m) (hm1 : 1 ≤ m) (hm2 : m < 18446744073709551616) (b1 : cols < 256) (b2 : more < 256) (b3 : grown < 256) (b4 : role < 256) (e1 : (cols : Int) % 7 = y) (e2 : (more : Int) % 14 = nw) (e3 : (grown : Int) % 12 = gr) (e4 : (role : Int) % 12 = r) (_y0 : 0 ≤ y) (_y1 : y ≤ 6) (n0 : 0 ≤ nw) (n1 : nw ≤ 13) (g0 : 0 ≤ gr) (g1 : gr ≤ 11) (r0 : 0 ≤ r) (r1 : r ≤ 11) (h : newP (4 + y) r nw gr) (w : World) :
    Calls Try.prog 3 #[.int .u64 u, .int .u8 cols, .int .u8 more, .int .u8 grown, .int .u8 role] w fun e w' => e = .returned (.bool true) ∧ Below w.heap.size w w' := by
  have HP := Lib.hid h
  unfold newP at h
  obtain ⟨h1, h2⟩ := h
  rcases h1 with ⟨rfl, rfl⟩ | ⟨h3, h4, h5⟩
  all_goals
    go_enter Try.func3, Try.ntmps3
    go_wp2_with fail
  all_goals
    refine (encN_yes _ m _ r _ _ hm1 hm2 (by omega) (by omega) r0 r1 (by omega) (by omega) (by omega) HP.out).mono ?_
    rintro e w1 ⟨⟨S, rfl⟩, hb1⟩
    have hB := (Blk.new (w.alloc (.cells #[.int .i64 (4 + y), .int .i64 1, .int .i64 9] 24)) 26 #[.int .u64 m, .int .u64 0, .int .i64 r, .int .i64 (4 + y), .int .i64 1, .int .i64 9, .bool false, .int .i64 0, .int .i64 _, .int .i64 _]).below hb1 (by simp)
    rw [show (w.alloc (.cells #[.int .i64 (4 + y), .int .i64 1, .int .i64 9] 24)).heap.size = w.heap.size + 1 by simp] at hB
    have hbe := (((Below.refl w.heap.size w).alloc (Nat.le_refl _) _).alloc (by simp) _).trans (hb1.mono (by simp; omega))
    clear hb1
    have hq := hB.cell
    go_wp2_with fail
    refine (mayN_yes _ m _ r _ _ hm1 hm2 (by omega) (by omega) r0 r1 (by omega) (by omega) (by omega) HP.out).mono ?_
    rintro e w2 ⟨rfl, hb2⟩
    replace hbe := hbe.trans (hb2.mono hbe.size)
    clear hb2 hq
    go_wp2_with fail
    refine (shown8_any _).mono ?_
    rintro e w3 ⟨rfl, hb2⟩
    replace hbe := hbe.trans (hb2.mono hbe.size)
    clear hb2
    go_wp2_with fail
    go_ret
    exact ⟨rfl, hbe⟩
set_option maxHeartbeats 4000000 in
theorem superNew_no (u m : Int) (cols more grown role : Nat) (y nw gr r : Int) (hm : max u 1 = m) (hm1 : 1 ≤ m) (hm2 : m < 18446744073709551616) (b1 : cols < 256) (b2 : more < 256) (b3 : grown < 256) (b4 : role < 256) (e1 : (cols : Int) % 7 = y) (e2 : (more : Int) % 14 = nw) (e3 : (grown : Int) % 12 = gr) (e4 : (role : Int) % 12 = r) (_y0 : 0 ≤ y) (_y1 : y ≤ 6) (n0 : 0 ≤ nw) (n1 : nw ≤ 13) (g0 : 0 ≤ gr) (g1 : gr ≤ 11) (r0 : 0 ≤ r) (r1 : r ≤ 11) (h : ¬ newP (4 + y) r nw gr) (w : World) :
    Calls Try.prog 3 #[.int .u64 u, .int .u8 cols, .int .u8 more, .int .u8 grown, .int .u8 role] w fun e w' => e = .returned (.bool true) ∧ Below w.heap.size w w' := by
  have HP := Lib.hid h
  clear h
  rcases Decidable.em (nw = 0) with rfl | h0
  · by_cases hr : r < max (4 + y) 0
    all_goals
      go_enter Try.func3, Try.ntmps3
      go_wp2_with fail
    all_goals first
      | (exfalso
         refine HP.out ?_
         unfold newP
         omega)
      | (
         refine (encN_no _ m _ r _ _ hm1 hm2 (by omega) (by omega) r0 r1 (by omega) (by omega) (by omega) ?c1).mono ?_
         case c1 => (have h := HP.out; unfold newP at h ⊢; omega)
         rintro e w1 ⟨⟨S, rfl⟩, hb1⟩
         have hB := (Blk.new (w.alloc (.cells #[.int .i64 (4 + y), .int .i64 1, .int .i64 9] 24)) 26 #[.int .u64 m, .int .u64 0, .int .i64 r, .int .i64 (4 + y), .int .i64 1, .int .i64 9, .bool false, .int .i64 0, .int .i64 _, .int .i64 _]).below hb1 (by simp)
         rw [show (w.alloc (.cells #[.int .i64 (4 + y), .int .i64 1, .int .i64 9] 24)).heap.size = w.heap.size + 1 by simp] at hB
         have hbe := (((Below.refl w.heap.size w).alloc (Nat.le_refl _) _).alloc (by simp) _).trans (hb1.mono (by simp; omega))
         clear hb1
         have hq := hB.cell
         go_wp2_with fail
         refine (mayN_no _ m _ r _ _ hm1 hm2 (by omega) (by omega) r0 r1 (by omega) (by omega) (by omega) ?c2).mono ?_
         case c2 => (have h := HP.out; unfold newP at h ⊢; omega)
         rintro e w2 ⟨rfl, hb2⟩
         replace hbe := hbe.trans (hb2.mono hbe.size)
         clear hb2 hq
         go_wp2_with fail
         refine (shown8_any _).mono ?_
         rintro e w3 ⟨rfl, hb2⟩
         replace hbe := hbe.trans (hb2.mono hbe.size)
         clear hb2
         go_wp2_with fail
         go_ret
         exact ⟨rfl, hbe⟩)
  by_cases hr : r < max (4 + y) nw
  all_goals
    go_enter Try.func3, Try.ntmps3
    go_wp2_with fail
  all_goals first
    | (exfalso
       refine HP.out ?_
       unfold newP
       omega)
    | (
       refine (encN_no _ m _ r _ _ hm1 hm2 (by omega) (by omega) r0 r1 (by omega) (by omega) (by omega) ?c1).mono ?_
       case c1 => (have h := HP.out; unfold newP at h ⊢; omega)
       rintro e w1 ⟨⟨S, rfl⟩, hb1⟩
       have hB := (Blk.new (w.alloc (.cells #[.int .i64 (4 + y), .int .i64 1, .int .i64 9] 24)) 26 #[.int .u64 m, .int .u64 0, .int .i64 r, .int .i64 (4 + y), .int .i64 1, .int .i64 9, .bool false, .int .i64 0, .int .i64 _, .int .i64 _]).below hb1 (by simp)
       rw [show (w.alloc (.cells #[.int .i64 (4 + y), .int .i64 1, .int .i64 9] 24)).heap.size = w.heap.size + 1 by simp] at hB
       have hbe := (((Below.refl w.heap.size w).alloc (Nat.le_refl _) _).alloc (by simp) _).trans (hb1.mono (by simp; omega))
       clear hb1
       have hq := hB.cell
       go_wp2_with fail
       refine (mayN_no _ m _ r _ _ hm1 hm2 (by omega) (by omega) r0 r1 (by omega) (by omega) (by omega) ?c2).mono ?_
       case c2 => (have h := HP.out; unfold newP at h ⊢; omega)
       rintro e w2 ⟨rfl, hb2⟩
       replace hbe := hbe.trans (hb2.mono hbe.size)
       clear hb2 hq
       go_wp2_with fail
       refine (shown8_any _).mono ?_
       rintro e w3 ⟨rfl, hb2⟩
       replace hbe := hbe.trans (hb2.mono hbe.size)
       clear hb2
       go_wp2_with fail
       go_ret
       exact ⟨rfl, hbe⟩)
theorem superNew_walk (u cols more grown role : Int) (hu : (Lit.int .u64 u).wf = true) (h1 : (Lit.int .u8 cols).wf = true) (h2 : (Lit.int .u8 more).wf = true) (h3 : (Lit.int .u8 grown).wf = true) (h4 : (Lit.int .u8 role).wf = true) (w : World) :
    Calls Try.prog 3 #[.int .u64 u, .int .u8 cols, .int .u8 more, .int .u8 grown, .int .u8 role] w fun e w' => e = .returned (.bool true) ∧ Below w.heap.size w w' := by
  have b0 := bounds_u64 hu
  have b1 := bounds_u8 h1
  have b2 := bounds_u8 h2
  have b3 := bounds_u8 h3
  have b4 := bounds_u8 h4
  obtain ⟨c, rfl⟩ := Int.eq_ofNat_of_zero_le b1.1
  obtain ⟨m, rfl⟩ := Int.eq_ofNat_of_zero_le b2.1
  obtain ⟨g, rfl⟩ := Int.eq_ofNat_of_zero_le b3.1
  obtain ⟨r, rfl⟩ := Int.eq_ofNat_of_zero_le b4.1
  by_cases h : newP (4 + (c : Int) % 7) ((r : Int) % 12) ((m : Int) % 14) ((g : Int) % 12)
  · exact superNew_yes u _ c m g r _ _ _ _ rfl (by omega) (by omega) (by omega) (by omega) (by omega) (by omega) rfl rfl rfl rfl (by omega) (by omega) (by omega) (by omega) (by omega) (by omega) (by omega) (by omega) h w
  · exact superNew_no u _ c m g r _ _ _ _ rfl (by omega) (by omega) (by omega) (by omega) (by omega) (by omega) rfl rfl rfl rfl (by omega) (by omega) (by omega) (by omega) (by omega) (by omega) (by omega) (by omega) h w
end Go.Proofs.Ytfoflbbeckepoaa
