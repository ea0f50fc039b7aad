/- revetmentlaw08.SuperRoles: its walk. -/
import Derived.Test.YtfoflbbeckepoaaSuShown
namespace Go.Proofs.Ytfoflbbeckepoaa
open Go.RowKit Go.OpenShut

def rolesP (role built : Int) : Prop := ((0 ≤ role ∧ role < 6) ∨ role = 254 ∨ role = 255) ∧ 0 ≤ built ∧ built ≤ 10
theorem roles_may (u role built : Int) (hu : 1 ≤ u) : Sup.may ⟨u, 0, role, 6, 2, 10, false, built, 0, 0⟩ = true ↔ rolesP role built := by
  unfold Sup.may rolesP
  have h0 : (u == 0) = false := by rw [beq_eq_false_iff_ne]; omega
  simp only [h0, Bool.and_eq_true, Bool.or_eq_true, decide_eq_true_eq, wi_iff, geoOK_iff]
  simp
  omega
theorem roles_wf (u role built : Int) (h0 : 0 ≤ u) (h1 : u < 18446744073709551616) : (Sup.mk u 0 role 6 2 10 false built 0 0).wf := by
  constructor <;> simp only <;> omega
theorem encR_yes (w : World) (m role built : Int) (h0 : 1 ≤ m) (h1 : m < 18446744073709551616) (h : rolesP role built) :
    Calls Try.prog 9 #[.agg #[.int .u64 m, .int .u64 0, .int .i64 role, .int .i64 6, .int .i64 2, .int .i64 10, .bool false, .int .i64 built, .int .i64 0, .int .i64 0]] w fun e w' => (∃ S, e = .returned (.tuple #[.string S, .int .i64 0])) ∧ Below w.heap.size w w' := by
  refine (supEnc_any w _ (roles_wf m role built (by omega) h1)).mono ?_
  rintro e w' ⟨rfl, hb⟩
  unfold Sup.err
  rw [if_pos ((roles_may m role built h0).2 h)]
  exact ⟨⟨_, rfl⟩, hb⟩
theorem encR_no (w : World) (m role built : Int) (h0 : 1 ≤ m) (h1 : m < 18446744073709551616) (h : ¬ rolesP role built) :
    Calls Try.prog 9 #[.agg #[.int .u64 m, .int .u64 0, .int .i64 role, .int .i64 6, .int .i64 2, .int .i64 10, .bool false, .int .i64 built, .int .i64 0, .int .i64 0]] w fun e w' => (e = .returned (.tuple #[.string ⟨#[]⟩, .int .i64 1])) ∧ Below w.heap.size w w' := by
  refine (supEnc_any w _ (roles_wf m role built (by omega) h1)).mono ?_
  rintro e w' ⟨rfl, hb⟩
  unfold Sup.err Sup.str
  rw [if_neg (fun e => h ((roles_may m role built h0).1 e)), if_neg (fun e => h ((roles_may m role built h0).1 e))]
  exact ⟨rfl, hb⟩
theorem mayR_yes (w : World) (m role built : Int) (h0 : 1 ≤ m) (h1 : m < 18446744073709551616) (h : rolesP role built) :
    Calls Try.prog 10 #[.agg #[.int .u64 m, .int .u64 0, .int .i64 role, .int .i64 6, .int .i64 2, .int .i64 10, .bool false, .int .i64 built, .int .i64 0, .int .i64 0]] w fun e w' => e = .returned (.bool true) ∧ Below w.heap.size w w' := by
  refine (may_any w _ (roles_wf m role built (by omega) h1)).mono ?_
  rintro e w' ⟨rfl, hb⟩
  rw [(roles_may m role built h0).2 h]
  exact ⟨rfl, hb⟩
theorem mayR_no (w : World) (m role built : Int) (h0 : 1 ≤ m) (h1 : m < 18446744073709551616) (h : ¬ rolesP role built) :
    Calls Try.prog 10 #[.agg #[.int .u64 m, .int .u64 0, .int .i64 role, .int .i64 6, .int .i64 2, .int .i64 10, .bool false, .int .i64 built, .int .i64 0, .int .i64 0]] w fun e w' => e = .returned (.bool false) ∧ Below w.heap.size w w' := by
  refine (may_any w _ (roles_wf m role built (by omega) h1)).mono ?_
  rintro e w' ⟨rfl, hb⟩
  rw [show Sup.may ⟨m, 0, role, 6, 2, 10, false, built, 0, 0⟩ = false by rw [Bool.eq_false_iff]; exact fun e => h ((roles_may m role built h0).1 e)]
  exact ⟨rfl, hb⟩
theorem mayR_zero (w : World) (role built : Int) :
    Calls Try.prog 10 #[.agg #[.int .u64 0, .int .u64 0, .int .i64 role, .int .i64 6, .int .i64 2, .int .i64 10, .bool false, .int .i64 built, .int .i64 0, .int .i64 0]] w fun e w' => e = .returned (.bool false) ∧ Below w.heap.size w w' :=
  may0_any w 0 role 6 2 10 built 0 0 false
set_option maxHeartbeats 4000000 in
theorem superRoles_yes (u m role built : Int) (hm : max u 1 = m) (hm1 : 1 ≤ m) (hm2 : m < 18446744073709551616) (h1 : (0 ≤ role ∧ role < 6) ∨ role = 254 ∨ role = 255) (h2 : 0 ≤ built) (h3 : built ≤ 10) (w : World) :
    Calls Try.prog 4 #[.int .u64 u, .int .i64 role, .int .i64 built] w fun e w' => e = .returned (.bool true) ∧ Below w.heap.size w w' := by
  have HP : Hid (rolesP role built) := Lib.hid ⟨h1, h2, h3⟩
  rcases h1 with ⟨h1, h4⟩ | rfl | rfl
  · go_enter Try.func4, Try.ntmps4
    go_wp2_with fail
    refine (encR_yes _ m role built hm1 hm2 HP.out).mono ?_
    rintro e w1 ⟨⟨S, rfl⟩, hb1⟩
    have hB := (Blk.new w 26 #[.int .u64 m, .int .u64 0, .int .i64 role, .int .i64 6, .int .i64 2, .int .i64 10, .bool false, .int .i64 built, .int .i64 0, .int .i64 0]).below hb1 (by simp)
    have hbe := ((Below.refl w.heap.size w).alloc (Nat.le_refl _) (.cells #[.int .u64 m, .int .u64 0, .int .i64 role, .int .i64 6, .int .i64 2, .int .i64 10, .bool false, .int .i64 built, .int .i64 0, .int .i64 0] 26)).trans (hb1.mono (by simp))
    clear hb1
    have hq := hB.cell
    go_wp2_with fail
    refine (mayR_yes _ m role built hm1 hm2 HP.out).mono ?_
    rintro e w2 ⟨rfl, hb2⟩
    replace hB := hB.below hb2 hB.lt
    replace hbe := hbe.trans (hb2.mono hbe.size)
    clear hb2 hq
    go_wp2_with fail
    refine (shown8_any _).mono ?_
    rintro e w3 ⟨rfl, hb2⟩
    replace hB := hB.below hb2 hB.lt
    replace hbe := hbe.trans (hb2.mono hbe.size)
    have hq := hB.cell
    have hf := hB.frozen
    clear hb2
    go_wp2_with fail
    have hbe4 := hbe.setCell (p := ⟨w.heap.size, 0, none⟩) (Nat.le_refl _) (.int .u64 0)
    refine (mayR_zero _ role built).mono ?_
    rintro e w4 ⟨rfl, hb4⟩
    go_wp2_with fail
    go_ret
    exact ⟨rfl, hbe4.trans (hb4.mono hbe4.size)⟩
  · go_enter Try.func4, Try.ntmps4
    go_wp2_with fail
    refine (encR_yes _ m 254 built hm1 hm2 HP.out).mono ?_
    rintro e w1 ⟨⟨S, rfl⟩, hb1⟩
    have hB := (Blk.new w 26 #[.int .u64 m, .int .u64 0, .int .i64 254, .int .i64 6, .int .i64 2, .int .i64 10, .bool false, .int .i64 built, .int .i64 0, .int .i64 0]).below hb1 (by simp)
    have hbe := ((Below.refl w.heap.size w).alloc (Nat.le_refl _) (.cells #[.int .u64 m, .int .u64 0, .int .i64 254, .int .i64 6, .int .i64 2, .int .i64 10, .bool false, .int .i64 built, .int .i64 0, .int .i64 0] 26)).trans (hb1.mono (by simp))
    clear hb1
    have hq := hB.cell
    go_wp2_with fail
    refine (mayR_yes _ m 254 built hm1 hm2 HP.out).mono ?_
    rintro e w2 ⟨rfl, hb2⟩
    replace hB := hB.below hb2 hB.lt
    replace hbe := hbe.trans (hb2.mono hbe.size)
    clear hb2 hq
    go_wp2_with fail
    refine (shown8_any _).mono ?_
    rintro e w3 ⟨rfl, hb2⟩
    replace hB := hB.below hb2 hB.lt
    replace hbe := hbe.trans (hb2.mono hbe.size)
    have hq := hB.cell
    have hf := hB.frozen
    clear hb2
    go_wp2_with fail
    have hbe4 := hbe.setCell (p := ⟨w.heap.size, 0, none⟩) (Nat.le_refl _) (.int .u64 0)
    refine (mayR_zero _ 254 built).mono ?_
    rintro e w4 ⟨rfl, hb4⟩
    go_wp2_with fail
    go_ret
    exact ⟨rfl, hbe4.trans (hb4.mono hbe4.size)⟩
  · go_enter Try.func4, Try.ntmps4
    go_wp2_with fail
    refine (encR_yes _ m 255 built hm1 hm2 HP.out).mono ?_
    rintro e w1 ⟨⟨S, rfl⟩, hb1⟩
    have hB := (Blk.new w 26 #[.int .u64 m, .int .u64 0, .int .i64 255, .int .i64 6, .int .i64 2, .int .i64 10, .bool false, .int .i64 built, .int .i64 0, .int .i64 0]).below hb1 (by simp)
    have hbe := ((Below.refl w.heap.size w).alloc (Nat.le_refl _) (.cells #[.int .u64 m, .int .u64 0, .int .i64 255, .int .i64 6, .int .i64 2, .int .i64 10, .bool false, .int .i64 built, .int .i64 0, .int .i64 0] 26)).trans (hb1.mono (by simp))
    clear hb1
    have hq := hB.cell
    go_wp2_with fail
    refine (mayR_yes _ m 255 built hm1 hm2 HP.out).mono ?_
    rintro e w2 ⟨rfl, hb2⟩
    replace hB := hB.below hb2 hB.lt
    replace hbe := hbe.trans (hb2.mono hbe.size)
    clear hb2 hq
    go_wp2_with fail
    refine (shown8_any _).mono ?_
    rintro e w3 ⟨rfl, hb2⟩
    replace hB := hB.below hb2 hB.lt
    replace hbe := hbe.trans (hb2.mono hbe.size)
    have hq := hB.cell
    have hf := hB.frozen
    clear hb2
    go_wp2_with fail
    have hbe4 := hbe.setCell (p := ⟨w.heap.size, 0, none⟩) (Nat.le_refl _) (.int .u64 0)
    refine (mayR_zero _ 255 built).mono ?_
    rintro e w4 ⟨rfl, hb4⟩
    go_wp2_with fail
    go_ret
    exact ⟨rfl, hbe4.trans (hb4.mono hbe4.size)⟩
set_option maxHeartbeats 4000000 in
theorem superRoles_no (u m role built : Int) (hm : max u 1 = m) (hm1 : 1 ≤ m) (hm2 : m < 18446744073709551616) (h1 : ¬ rolesP role built) (w : World) :
    Calls Try.prog 4 #[.int .u64 u, .int .i64 role, .int .i64 built] w fun e w' => e = .returned (.bool true) ∧ Below w.heap.size w w' := by
  have HP := Lib.hid h1
  clear h1
  by_cases h10 : built ≤ 10
  all_goals
    go_enter Try.func4, Try.ntmps4
    go_wp2_with fail
  all_goals first
    | (exfalso
       refine HP.out ?_
       unfold rolesP
       omega)
    | (refine (encR_no _ m _ built hm1 hm2 ?c1).mono ?_
       case c1 => (have h := HP.out; unfold rolesP at h ⊢; omega)
       rintro e w1 ⟨rfl, hb1⟩
       have hB := (Blk.new w 26 #[.int .u64 m, .int .u64 0, .int .i64 _, .int .i64 6, .int .i64 2, .int .i64 10, .bool false, .int .i64 built, .int .i64 0, .int .i64 0]).below hb1 (by simp)
       have hbe := ((Below.refl w.heap.size w).alloc (Nat.le_refl _) _).trans (hb1.mono (by simp))
       clear hb1
       have hq := hB.cell
       go_wp2_with fail
       refine (mayR_no _ m _ built hm1 hm2 ?c2).mono ?_
       case c2 => (have h := HP.out; unfold rolesP at h ⊢; omega)
       rintro e w2 ⟨rfl, hb2⟩
       replace hB := hB.below hb2 hB.lt
       replace hbe := hbe.trans (hb2.mono hbe.size)
       clear hb2 hq
       go_wp2_with fail
       refine (shown8_any _).mono ?_
       rintro e w3 ⟨rfl, hb2⟩
       replace hB := hB.below hb2 hB.lt
       replace hbe := hbe.trans (hb2.mono hbe.size)
       have hq := hB.cell
       have hf := hB.frozen
       clear hb2
       go_wp2_with fail
       have hbe4 := hbe.setCell (p := ⟨w.heap.size, 0, none⟩) (Nat.le_refl _) (.int .u64 0)
       refine (mayR_zero _ _ built).mono ?_
       rintro e w4 ⟨rfl, hb4⟩
       go_wp2_with fail
       go_ret
       exact ⟨rfl, hbe4.trans (hb4.mono hbe4.size)⟩)
theorem superRoles_walk (u role built : Int) (hu : (Lit.int .u64 u).wf = true) (_hr : (Lit.int .i64 role).wf = true) (_hb : (Lit.int .i64 built).wf = true) (w : World) :
    Calls Try.prog 4 #[.int .u64 u, .int .i64 role, .int .i64 built] w fun e w' => e = .returned (.bool true) ∧ Below w.heap.size w w' := by
  have hb := bounds_u64 hu
  by_cases h : rolesP role built
  · exact superRoles_yes u _ role built rfl (by omega) (by omega) h.1 h.2.1 h.2.2 w
  · exact superRoles_no u _ role built rfl (by omega) (by omega) h w
end Go.Proofs.Ytfoflbbeckepoaa
