/- Own texts, joined: Stp, Rng0, Rng1, Rrec, Rng2, Fmt, RcHdL, Rapp, OwnK, Rpl, Byp, Mit, Rol, Xor0, GXor, SyAdd, GfPlain. -/
import Derived.Test.YtmhmdoobadckkaaGreatDoorTj1
import Derived.Test.YtmhmdoobadckkaaGreatDoorTj3
import Derived.Test.YtmhmdoobadckkaaGreatDoorTj5
import Derived.Test.YtmhmdoobadckkaaGreatDoorTj6
import Derived.Test.YtmhmdoobadckkaaGreatDoorTj7
import Derived.Maps.RangeRun
/- ring.steps and ring.written: steps of a drive, one by one. -/
namespace Go.Proofs.YtmhmdoobadckkaaGreatDoor
set_option maxRecDepth 20000
open Go.RowKit Go.OpenShut

inductive Stp where
  | wr (i : Int) (s : Sec)
  | fl
/-- what steps make of a drive, and the first error -/
def runS : Drv → List Stp → Drv × Int
  | D, [] => (D, 0)
  | D, .wr i s :: L => if D.wrE i s = 0 then runS (D.wr i s) L else (D, D.wrE i s)
  | D, .fl :: L => if D.flE = 0 then runS D.fl L else (D, D.flE)
/-- a step as a value -/
def StpV (w : World) (R : Nat → Prop) (g : Nat) (v : Value) : Stp → Prop
  | .wr i s => ∃ a b c, v = .func (.func 145) #[] #[.pointer (some ⟨a, 0, none⟩), .pointer (some ⟨b, 0, none⟩), .pointer (some ⟨c, 0, none⟩)] ∧ Blk w a 33 #[.pointer (some ⟨g, 0, none⟩)] ∧ Blk w b 3 #[.int .i64 i] ∧ Blk w c 9 #[.string s] ∧ ¬ R a ∧ ¬ R b ∧ ¬ R c
  | .fl => v = .func (.func 65) #[.pointer (some ⟨g, 0, none⟩)] #[]
def StA (w : World) (R : Nat → Prop) (A : Option Addr) (n g : Nat) (L : List Stp) : Prop := ∃ vs, VA w R A n vs ∧ L.length = n ∧ ∀ j, j < n → StpV w R g (vs.getD j undef) (L.getD j .fl)
section
variable {w w' : World} {R R' : Nat → Prop} {g : Nat} {v : Value} {x : Stp} {A : Option Addr} {n : Nat} {L : List Stp}
theorem StpV.ext (h : StpV w R g v x) (k : Ext R R' w w') : StpV w' R' g v x := by
  cases x with
  | wr i s =>
    obtain ⟨a, b, c, e, h1, h2, h3, r1, r2, r3⟩ := h
    exact ⟨a, b, c, e, k.blk h1 r1, k.blk h2 r2, k.blk h3 r3, k.not r1 h1.lt, k.not r2 h2.lt, k.not r3 h3.lt⟩
  | fl => exact h
theorem StpV.below (h : StpV w R g v x) (k : Below w.heap.size w w') : StpV w' R g v x := h.ext (Ext.of_below R k)
theorem StA.ext (h : StA w R A n g L) (k : Ext R R' w w') : StA w' R' A n g L := by
  obtain ⟨vs, h1, h2, h3⟩ := h
  exact ⟨vs, h1.ext k, h2, fun j hj => (h3 j hj).ext k⟩
theorem StA.below (h : StA w R A n g L) (k : Below w.heap.size w w') : StA w' R A n g L := h.ext (Ext.of_below R k)
end
theorem Drv.pl.fl' {D : Drv} {k : Nat} (h : D.pl k) : D.fl.pl (k + 1) := h.fl.mono (by omega)
theorem drop_stp (L : List Stp) (j : Nat) (hj : j < L.length) : L.drop j = L.getD j .fl :: L.drop (j + 1) := by
  rw [List.drop_eq_getElem_cons hj]
  simp [List.getD, hj]
theorem written1_any (w : World) (σ : Nat → Option Drv) (R : Nat → Prop) (h : Dsk w σ R) (g : Nat) (D : Drv) (hg : σ g = some D) (a b c : Nat) (i : Int) (s : Sec) (h1 : Blk w a 33 #[.pointer (some ⟨g, 0, none⟩)]) (h2 : Blk w b 3 #[.int .i64 i]) (h3 : Blk w c 9 #[.string s]) (hp : D.pl 65536) :
    Calls Tryz.prog 145 #[.pointer (some ⟨a, 0, none⟩), .pointer (some ⟨b, 0, none⟩), .pointer (some ⟨c, 0, none⟩)] w (Wrote (upd σ g (D.wr i s)) R w (D.wrE i s)) := by
  have HW := Lib.hid (h.write hg i s hp)
  have l1 : w.cell? ⟨a, 0, none⟩ = some (.pointer (some ⟨g, 0, none⟩)) := h1.cell 0
  have l2 : w.cell? ⟨b, 0, none⟩ = some (.int .i64 i) := h2.cell 0
  have l3 : w.cell? ⟨c, 0, none⟩ = some (.string s) := h3.cell 0
  obtain ⟨D', hD'⟩ : ∃ x, D.wr i s = x := ⟨_, rfl⟩
  obtain ⟨E, hE⟩ : ∃ x, D.wrE i s = x := ⟨_, rfl⟩
  rw [hD', hE] at HW ⊢
  clear h hg hp h1 h2 h3 hD' hE
  go_enter Tryz.func145, Tryz.ntmps145
  go_wp2_with fail
  refine HW.out.mono ?_
  rintro e w2 ⟨rfl, hd⟩
  go_wp2_with fail
  go_ret
  exact ⟨rfl, hd⟩
set_option maxHeartbeats 2000000 in
theorem steps_any (w : World) (σ : Nat → Option Drv) (R : Nat → Prop) (h : Dsk w σ R) (g : Nat) (D : Drv) (hg : σ g = some D) (A : Option Addr) (n c : Nat) (L : List Stp) (hL : StA w R A n g L) (hn : n ≤ 10000) (hp : D.pl 1000) :
    Calls Tryz.prog 63 #[.slice A n c] w (Wrote (upd σ g (runS D L).1) R w (runS D L).2) := by
  have hd0 : Dsk w (upd σ g D) R := by rw [upd_id hg]; exact h
  have HL := Lib.hid hL
  have HD0 := Lib.hid hd0
  have HP := Lib.hid hp
  have HN := Lib.hid (show L.length = n from hL.choose_spec.2.1)
  clear h hg hL hd0 hp
  go_enter Tryz.func63, Tryz.ntmps63
  go_wp2_with fail
  go_loopw [8] (fun i wr => ∃ j : Nat, j ≤ n ∧ i = .int .i64 j ∧ ∃ D' R', Dsk wr (upd σ g D') R' ∧ Ext R R' w wr ∧ D'.pl (1000 + j) ∧ runS D L = runS D' (L.drop j)) (fun i _ => n - (RowKit.intOf i).toNat)
  case atStart => exact ⟨0, by omega, rfl, D, R, HD0.out, Ext.refl _ _, HP.out, rfl⟩
  case round =>
    obtain ⟨j, hj, rfl, D', R', hd, hx, hpl, hrun⟩ := hrel
    by_cases hlt : j < n
    · obtain ⟨vs, hv1, _, hv3⟩ := HL.out.ext hx
      have hst := hv3 j hlt
      obtain ⟨b, o, rfl, _⟩ := hv1.some_ (by omega)
      have hcell := hv1.at_ hlt
      have HLT := Lib.hid (show j < L.length by rw [HN.out]; exact hlt)
      have hdr := drop_stp L j HLT.out
      obtain ⟨v, hv⟩ : ∃ v, vs.getD j undef = v := ⟨_, rfl⟩
      obtain ⟨x, hx2⟩ : ∃ x, L.getD j .fl = x := ⟨_, rfl⟩
      rw [hv] at hst hcell
      rw [hx2] at hst hdr
      rw [hdr] at hrun
      have HX := Lib.hid hx
      clear hv hx2 hdr hv1 hv3 hx
      cases x with
      | wr i s =>
        obtain ⟨a1, b1, c1, rfl, k1, k2, k3, _⟩ := hst
        have HW := Lib.hid (written1_any wr _ R' hd g D' (upd_same _ _ _) a1 b1 c1 i s k1 k2 k3 (hpl.mono (by omega)))
        rw [upd_upd] at HW
        have HPL := Lib.hid (hpl.wr i s)
        have HE0 := Lib.hid (show D'.wrE i s ≠ 0 → D'.wr i s = D' from fun h => by unfold Drv.wr; rw [if_neg h])
        have HR := Lib.hid (hrun.trans (show runS D' (.wr i s :: L.drop (j + 1)) = if D'.wrE i s = 0 then runS (D'.wr i s) (L.drop (j + 1)) else (D', D'.wrE i s) from rfl))
        obtain ⟨D2, hD2⟩ : ∃ x, D'.wr i s = x := ⟨_, rfl⟩
        obtain ⟨E, hE⟩ : ∃ x, D'.wrE i s = x := ⟨_, rfl⟩
        rw [hD2, hE] at HW HR HE0
        rw [hD2] at HPL
        clear hd hrun hpl k1 k2 k3 hD2 hE
        go_wp2_with fail
        refine HW.out.mono ?_
        rintro e w2 ⟨rfl, R2, hd2, hx2⟩
        by_cases hz : E = 0
        · subst hz
          have HD2 := Lib.hid hd2
          have HX2 := Lib.hid hx2
          clear hd2 hx2
          go_wp2_with fail
          go_roundw
          case rel => exact ⟨j + 1, by omega, by go_num, D2, R2, HD2.out, HX.out.trans HX2.out, HPL.out.mono (by omega), by rw [HR.out]; exact if_pos trivial⟩
          case measure => simp [RowKit.intOf]; omega
        · have HD2 := Lib.hid hd2
          have HX2 := Lib.hid hx2
          have HE := Lib.hid (HR.out.trans (if_neg hz))
          have HE1 := Lib.hid (HE0.out hz)
          clear hd2 hx2 HR HE0
          go_wp2_with fail
          go_ret
          rw [HE.out]
          refine ⟨rfl, R2, ?_, HX.out.trans HX2.out⟩
          rw [← HE1.out]
          exact HD2.out
      | fl =>
        have hst' : v = .func (.func 65) #[.pointer (some ⟨g, 0, none⟩)] #[] := hst
        subst hst'
        have HW := Lib.hid (hd.flush (upd_same _ _ _) (hpl.mono (by omega)))
        rw [upd_upd] at HW
        have HPL := Lib.hid hpl.fl'
        have HE0 := Lib.hid (show D'.flE ≠ 0 → D'.fl = D' from fun h => by unfold Drv.fl; rw [if_neg h])
        have HR := Lib.hid (hrun.trans (show runS D' (.fl :: L.drop (j + 1)) = if D'.flE = 0 then runS D'.fl (L.drop (j + 1)) else (D', D'.flE) from rfl))
        obtain ⟨D2, hD2⟩ : ∃ x, D'.fl = x := ⟨_, rfl⟩
        obtain ⟨E, hE⟩ : ∃ x, D'.flE = x := ⟨_, rfl⟩
        rw [hD2, hE] at HW HR HE0
        rw [hD2] at HPL
        clear hd hrun hpl hst hD2 hE
        go_wp2_with fail
        refine HW.out.mono ?_
        rintro e w2 ⟨rfl, R2, hd2, hx2⟩
        by_cases hz : E = 0
        · subst hz
          have HD2 := Lib.hid hd2
          have HX2 := Lib.hid hx2
          clear hd2 hx2
          go_wp2_with fail
          go_roundw
          case rel => exact ⟨j + 1, by omega, by go_num, D2, R2, HD2.out, HX.out.trans HX2.out, HPL.out.mono (by omega), by rw [HR.out]; exact if_pos trivial⟩
          case measure => simp [RowKit.intOf]; omega
        · have HD2 := Lib.hid hd2
          have HX2 := Lib.hid hx2
          have HE := Lib.hid (HR.out.trans (if_neg hz))
          have HE1 := Lib.hid (HE0.out hz)
          clear hd2 hx2 HR HE0
          go_wp2_with fail
          go_ret
          rw [HE.out]
          refine ⟨rfl, R2, ?_, HX.out.trans HX2.out⟩
          rw [← HE1.out]
          exact HD2.out
    · obtain rfl : j = n := by omega
      have HE := Lib.hid (show runS D L = (D', 0) by rw [hrun, List.drop_of_length_le (by rw [HN.out]; exact Nat.le_refl _)]; rfl)
      have HD2 := Lib.hid hd
      have HX2 := Lib.hid hx
      clear hd hx hrun hpl
      go_wp2_with fail
      go_ret
      rw [HE.out]
      exact ⟨rfl, R', HD2.out, HX2.out⟩
/-- a step that is made -/
def WrittenP (w : World) (R : Nat → Prop) (g : Nat) (i : Int) (s : Sec) (e : Ending) (w' : World) : Prop := ∃ v, e = .returned v ∧ v.oneCell' = true ∧ StpV w' R g v (.wr i s) ∧ Below w.heap.size w w'
theorem written_any (w : World) (R : Nat → Prop) (hR : ∀ b, R b → b < w.heap.size) (g : Nat) (i : Int) (s : Sec) :
    Calls Tryz.prog 61 #[.pointer (some ⟨g, 0, none⟩), .int .i64 i, .string s] w (WrittenP w R g i s) := by
  have HR := Lib.hid hR
  clear hR
  go_enter Tryz.func61, Tryz.ntmps61
  go_wp2_with fail
  go_ret
  refine ⟨_, rfl, rfl, ⟨w.heap.size, w.heap.size + 1, w.heap.size + 1 + 1, rfl, ?_, ?_, ?_, ?_, ?_, ?_⟩, ?_⟩
  · exact ((Blk.newAt rfl).alloc _).alloc _
  · exact (Blk.newAt (by simp)).alloc _
  · exact Blk.newAt (by simp)
  · exact fun h => by have := HR.out _ h; omega
  · exact fun h => by have := HR.out _ h; omega
  · exact fun h => by have := HR.out _ h; omega
  · exact (((Below.refl _ _).alloc (Nat.le_refl _) _).alloc (by simp) _).alloc (by simp; omega) _
end Go.Proofs.YtmhmdoobadckkaaGreatDoor
/- ring: Slots, mark, first, Left, Next. -/
namespace Go.Proofs.YtmhmdoobadckkaaGreatDoor
set_option maxRecDepth 20000
open Go.RowKit Go.OpenShut

def slotsOf (n : Nat) : Nat := (n - 4) / 41
theorem slots_any (w : World) (n : Nat) (hn : n ≤ 4096) : Calls Tryz.prog 60 #[.int .i64 (n : Int)] w fun e w' => e = .returned (.int .i64 (slotsOf n : Int)) ∧ w = w' := by
  have h1 : max ((n : Int) - 4) 0 = ((n - 4 : Nat) : Int) := by omega
  have h2 : (n : Int) ≤ 4096 := by omega
  have h4 : 0 ≤ (n : Int) := by omega
  have HE := Lib.hid (show ((n - 4 : Nat) : Int) / 41 = (slotsOf n : Int) from (Int.natCast_ediv _ _).symm)
  have h3 : ((n - 4 : Nat) : Int) ≤ 4096 := by omega
  have h5 : 0 ≤ ((n - 4 : Nat) : Int) := by omega
  generalize ((n - 4 : Nat) : Int) = m at *
  clear hn
  go_enter Tryz.func60, Tryz.ntmps60
  go_wp2_with fail
  go_ret
  exact ⟨ret_i64 HE.out, rfl⟩
/-- the sector that tells what is trimmed -/
def mgM : Sec := ⟨#[82, 86, 84, 77]⟩
def rmS (n : Nat) : Sec := ⟨(sealL (mgM ++ e8 n).data.toList 60).toArray⟩
theorem rm_len (n : Nat) : (mgM ++ e8 n).size = 12 := by
  have h := e8_size n
  have h4 : mgM.size = 4 := rfl
  simp [ByteArray.size_append, h, h4]
theorem rmS_size (n : Nat) : (rmS n).size = 64 := by
  have h := rm_len n
  unfold rmS
  show Array.size _ = 64
  rw [List.size_toArray, sealL_length _ _ (by rw [sec_len, h]; omega)]
set_option maxHeartbeats 1000000 in
theorem rmark_any (w : World) (n : Nat) (hn : n < 18446744073709551616) :
    Calls Tryz.prog 64 #[.int .u64 (n : Int)] w fun e' w' => e' = .returned (.string (rmS n)) ∧ Below w.heap.size w w' := by
  obtain ⟨h1, h2⟩ := enc_one n hn
  have HE := Lib.hid (fun (W : World) (b1 b2 : Nat) (k1 : Blk W b1 49 #[.int .u64 (n : Int)]) (k2 : Blk W b2 3 #[.int .i64 8]) => encode_any W (some ⟨b1, 0, none⟩) (some ⟨b2, 0, none⟩) 1 1 1 1 [(n : Int)] [8] (IntsA.blk (xs := [(n : Int)]) k1 rfl k1.lt) (IntsA.blk (xs := [8]) k2 rfl k2.lt) (by omega) (fun x hx => by simp at hx; omega))
  rw [h1, h2] at HE
  have hl := e8_size n
  have hpl := rm_len n
  have HS := Lib.hid (fun w => seal_yes w (mgM ++ e8 n) 64 60 rfl (by omega) (by omega) (by rw [hpl]; omega))
  have s1 : (e8 n).size ≤ 8 := by omega
  unfold rmS
  generalize e8 n = E at *
  unfold mgM at *
  clear h1 h2 hn hl hpl
  go_enter Tryz.func64, Tryz.ntmps64
  go_wp2_with fail
  refine (HE.out _ _ _ ?_ ?_).mono ?_
  · exact (Blk.newAt (by simp)).alloc _
  · exact Blk.newAt (by simp)
  rintro e' w1 ⟨rfl, hb1⟩
  go_wp2_with (go_at_call 153; refine (HS.out _).mono ?_; rintro e' w2 ⟨rfl, hb2⟩)
  go_ret
  have hb3 : Below w.heap.size w w1 := by
    refine Below.trans (?_ : Below w.heap.size w _) (hb1.mono (by simp; omega))
    exact ((Below.refl _ _).alloc (Nat.le_refl _) _).alloc (by simp) _
  exact ⟨rfl, hb3.trans (hb2.mono hb3.size)⟩
/-- a ring in memory -/
def RngAt (w : World) (g j : Nat) (q : Rng) : Prop := Blk w g 122 #[.pointer (some ⟨j, 0, none⟩), .int .i64 (q.slots : Int), .int .u64 (q.trimmed : Int), .int .u64 (q.next : Int)]
structure Rng.ok (q : Rng) : Prop where
  s1 : 1 ≤ q.slots
  s2 : q.slots ≤ 99
  t : q.trimmed < q.next
  n : q.next < 9223372036854775808
  l : q.next - q.trimmed - 1 ≤ q.slots
def rfirst (q : Rng) (n : Nat) : Nat := 4 + 41 * (n % q.slots)
theorem rfirst_le {q : Rng} (h : q.ok) (n : Nat) : rfirst q n + 41 ≤ 4 + 41 * q.slots := by
  have h1 := Nat.mod_lt n (show 0 < q.slots from h.s1)
  unfold rfirst
  omega
theorem first_ring (w : World) (g j : Nat) (q : Rng) (h : RngAt w g j q) (hq : q.ok) (n : Nat) (hn : n < 18446744073709551616) :
    Calls Tryz.prog 81 #[.pointer (some ⟨g, 0, none⟩), .int .u64 (n : Int)] w fun e w' => e = .returned (.int .i64 (rfirst q n : Int)) ∧ w = w' := by
  have hc := h.cell
  have h1 : (1 : Int) ≤ q.slots := by have := hq.s1; omega
  have h2 : (q.slots : Int) ≤ 99 := by have := hq.s2; omega
  obtain ⟨m, hm⟩ : ∃ m, n % q.slots = m := ⟨_, rfl⟩
  have hr : (n : Int) % (q.slots : Int) = (m : Int) := by rw [← hm]; simp
  have hm2 : (m : Int) < 99 := by have := Nat.mod_lt n (show 0 < q.slots from hq.s1); omega
  have HR := Lib.hid (show 4 + 41 * (m : Int) = (rfirst q n : Int) from by unfold rfirst; rw [hm]; omega)
  have hz : ((q.slots : Int) == 0) = false := by simp; omega
  have hmod : (q.slots : Int) % 18446744073709551616 = q.slots := by omega
  clear h hq hm
  go_enter Tryz.func81, Tryz.ntmps81
  go_wp2_with fail
  go_ret
  exact ⟨ret_i64 HR.out, rfl⟩
end Go.Proofs.YtmhmdoobadckkaaGreatDoor
/- ring: Left, Next, Format. -/
namespace Go.Proofs.YtmhmdoobadckkaaGreatDoor
set_option maxRecDepth 20000
open Go.RowKit Go.OpenShut

def Rng.left (q : Rng) : Nat := q.slots - (q.next - q.trimmed - 1)
set_option maxHeartbeats 1000000 in
theorem left_ring (w : World) (g j : Nat) (q : Rng) (h : RngAt w g j q) (hq : q.ok) :
    Calls Tryz.prog 79 #[.pointer (some ⟨g, 0, none⟩)] w fun e w' => e = .returned (.int .i64 (q.left : Int)) ∧ Below w.heap.size w w' := by
  have HH := Lib.hid h
  have hlt := h.lt
  have h1 := hq.t
  have h2 := hq.n
  have h3 := hq.l
  have h4 := hq.s2
  obtain ⟨d, hd⟩ : ∃ d, q.next - q.trimmed - 1 = d := ⟨_, rfl⟩
  have e1 : (q.next : Int) - (q.trimmed : Int) = (d : Int) + 1 := by omega
  have hd2 : (d : Int) ≤ 99 := by omega
  have hs2 : (q.slots : Int) ≤ 99 := by omega
  have HR := Lib.hid (show (q.slots : Int) - (d : Int) = (q.left : Int) from by unfold Rng.left; omega)
  clear h hq h1 h2 h3 h4 hd
  go_enter Tryz.func79, Tryz.ntmps79
  go_wp2_with fail
  have hnf := (Below.refl w.heap.size w).drew
  refine wp_region_nf (fun Y => Below w.heap.size w Y) (fun _ => false) [(0, true), (1, true), (2, true), (3, true), (4, true), (5, true), (6, true), (7, true), (8, true), (9, true), (10, true), (11, true), (12, true), (13, true), (14, true), (15, true), (16, true)] (by kernel_rfl) rfl (by kernel_rfl) (by kernel_rfl) (fun d _ _ _ _ h => by cases d <;> exact h) ?_
  repeat (refine nf_pure rfl hnf (fun Y hY => by have hqY := (HH.out.below hY hlt).cell; clear hY; go_wp2; exact ⟨rfl, rfl, rfl⟩) rfl ?_ ?_; rfl)
  refine nf_nil ?_
  go_wp2_with fail
  go_ret
  exact ⟨ret_i64 HR.out, hnf⟩
theorem next_ring (w : World) (g j : Nat) (q : Rng) (h : RngAt w g j q) :
    Calls Tryz.prog 198 #[.pointer (some ⟨g, 0, none⟩)] w fun e w' => e = .returned (.int .u64 (q.next : Int)) ∧ w = w' := by
  have hc := h.cell
  clear h
  go_enter Tryz.func198, Tryz.ntmps198
  go_wp2_with fail
  go_ret
  exact ⟨rfl, rfl⟩
end Go.Proofs.YtmhmdoobadckkaaGreatDoor
/- (*Ring).record. -/
namespace Go.Proofs.YtmhmdoobadckkaaGreatDoor
set_option maxRecDepth 20000
open Go.RowKit Go.OpenShut

def hd0 : Hd := ⟨0, 0, 0, []⟩
def rload (D : Drv) (p k : Nat) : List Sec := (List.range k).map fun i : Nat => D.readS ((p + 1 + i : Nat) : Int)
theorem rload_succ (D : Drv) (p k : Nat) : rload D p (k + 1) = rload D p k ++ [D.readS ((p + 1 + k : Nat) : Int)] := by simp [rload, List.range_succ]
theorem rload_len (D : Drv) (p k : Nat) : (rload D p k).length = k := by simp [rload]
/-- is every sector of a load read? -/
def rgood (D : Drv) (p : Nat) : Nat → Bool
  | 0 => true
  | k + 1 => rgood D p k && decide (D.readE ((p + 1 + k : Nat) : Int) = 0)
theorem rgood_no {D : Drv} {p j : Nat} (h : D.readE ((p + 1 + j : Nat) : Int) ≠ 0) : ∀ k, j < k → rgood D p k = false
  | k + 1, hk => by
    unfold rgood
    by_cases e : j = k
    · subst e
      rw [decide_eq_false h, Bool.and_false]
    · rw [rgood_no h k (by omega)]
      rfl
/-- what (*Ring).record finds -/
def rrec (D : Drv) (p n : Nat) : Option Hd :=
  if D.readE (p : Int) ≠ 0 then none else if headE (D.readS (p : Int)) ≠ 0 then none else if (headR (D.readS (p : Int))).seq ≠ n then none
  else if rgood D p (headR (D.readS (p : Int))).ps.length = false then none
  else if decE12 (D.readS (p : Int)) (rload D p (headR (D.readS (p : Int))).ps.length) = 0 then some (decR12 (D.readS (p : Int)) (rload D p (headR (D.readS (p : Int))).ps.length)) else none
def RrPost (w : World) (r : Option Hd) (e : Ending) (w' : World) : Prop :=
  ∃ A c, e = .returned (.tuple #[recV ((r.getD hd0).seq : Int) ((r.getD hd0).row : Int) A (r.getD hd0).ps.length c, .bool r.isSome]) ∧ OwnP 142 w' w.heap.size (.slice A ((r.getD hd0).ps.length : Nat) c) (r.getD hd0).ps ∧ Below w.heap.size w w'
theorem rrRet {W : World} {g : Nat} (seq row : Int) (v : Value) (E : Bool) (fn : Func) (t0 t1 t2 t3 : Value) (rest : List Value) (h : Blk W g 54 #[.int .u64 seq, .int .i64 row, v]) (hr : fn.results = #[ResultVar.cell 4 54, ResultVar.tmp 5]) :
    (results fn (t0 :: t1 :: t2 :: t3 :: .pointer (some ⟨g, 0, none⟩) :: .bool E :: rest).toArray).run Tryz.prog W = .ok (.tuple #[.agg #[.int .u64 seq, .int .i64 row, v], .bool E]) W := by
  have hq := h.cell
  simp [results, hr, go_sem, hq]
theorem rr_none {w w' : World} {r : Option Hd} (hr : r = none) (hb : Below w.heap.size w w') : RrPost w r (.returned (.tuple #[.agg #[.int .u64 0, .int .i64 0, .slice none 0 0], .bool false])) w' := by
  subst hr
  exact ⟨none, 0, rfl, OwnP.none_ _ _, hb⟩
theorem OwnS.shape2 {w : World} {B : Nat} {v : Value} {l : List ByteArray} (h : OwnS w B v l) : ∃ A c, v = .slice A l.length c ∧ l.length ≤ c ∧ c ≤ maxLen ∧ (A = none → c = 0) := by
  rcases h.2 with ⟨rfl, h0⟩ | ⟨g, cap, cur, rfl, _, _, hl, hm, _⟩
  · exact ⟨none, 0, by rw [h0], by omega, by omega, fun _ => rfl⟩
  · exact ⟨_, _, rfl, hl, hm, (fun e => by cases e)⟩
theorem OwnP.set3 {e : TypeId} {w : World} {B g : Nat} {v : Value} {l : List Prt} (h : OwnP e w B v l) (hg : g < B) (x y z : Value) : OwnP e (set3 w g x y z) B v l := by
  have hne : some g ≠ v.ownBlock := fun e => by
    have := (h.lt g e.symm).1
    omega
  unfold Go.Proofs.YtmhmdoobadckkaaGreatDoor.set3
  exact ((h.far (p := ⟨g, 0, none⟩) hne x).far (p := ⟨g, 1, none⟩) hne y).far (p := ⟨g, 2, none⟩) hne z
set_option maxRecDepth 8000 in
set_option maxHeartbeats 4000000 in
theorem rrec_any (w : World) (σ : Nat → Option Drv) (R : Nat → Prop) (h : Dsk w σ R) (g j : Nat) (q : Rng) (hq : RngAt w g j q) (hok : q.ok) (D : Drv) (hD : σ j = some D) (n : Nat) (hn : n < 18446744073709551616) :
    Calls Tryz.prog 68 #[.pointer (some ⟨g, 0, none⟩), .int .u64 (n : Int)] w (RrPost w (rrec D (rfirst q n) n)) := by
  have hfl := rfirst_le hok n
  have hs2 := hok.s2
  obtain ⟨p, hp⟩ : ∃ p, rfirst q n = p := ⟨_, rfl⟩
  rw [hp] at hfl
  have HFI := Lib.hid (fun W (hb : Below w.heap.size w W) => first_ring W g j q (hq.below hb hq.lt) hok n hn)
  rw [hp] at HFI ⊢
  have HRD := Lib.hid (fun W (hb : Below w.heap.size w W) i => (h.below hb).read hD i)
  have HQ := Lib.hid hq
  have hgl := hq.lt
  have hp2 : (p : Int) ≤ 5000 := by omega
  clear h hq hok hD hfl hs2 hp
  have HRR := Lib.hid (show rrec D p n = if D.readE (p : Int) ≠ 0 then none else if headE (D.readS (p : Int)) ≠ 0 then none else if (headR (D.readS (p : Int))).seq ≠ n then none else if rgood D p (headR (D.readS (p : Int))).ps.length = false then none else if decE12 (D.readS (p : Int)) (rload D p (headR (D.readS (p : Int))).ps.length) = 0 then some (decR12 (D.readS (p : Int)) (rload D p (headR (D.readS (p : Int))).ps.length)) else none from rfl)
  go_enter Tryz.func68, Tryz.ntmps68
  go_wp2_with fail
  have hR1 := Blk.new w 54 #[.int .u64 0, .int .i64 0, .slice none 0 0]
  have hb1 := (Below.refl w.heap.size w).alloc (Nat.le_refl _) (.cells #[.int .u64 0, .int .i64 0, .slice none 0 0] 54)
  generalize w.alloc (.cells #[.int .u64 0, .int .i64 0, .slice none 0 0] 54) = W1 at *
  refine (HFI.out _ hb1).mono ?_
  rintro e w1 ⟨rfl, rfl⟩
  have hq0 : W1.cell? ⟨g, 0, none⟩ = some (.pointer (some ⟨j, 0, none⟩)) := (HQ.out.below hb1 hgl).cell 0
  go_wp2_with fail
  refine (HRD.out _ hb1 _).mono ?_
  rintro e w1 ⟨rfl, rfl⟩
  clear hq0
  obtain ⟨b, hb⟩ : ∃ b, D.readS (p : Int) = b := ⟨_, rfl⟩
  obtain ⟨E0, hE0⟩ : ∃ x, D.readE (p : Int) = x := ⟨_, rfl⟩
  rw [hb, hE0] at HRR
  rw [hb, hE0]
  clear hb hE0
  by_cases hz : E0 = 0
  · subst hz
    rw [if_neg (by simp)] at HRR
    have HHD := Lib.hid (fun W => head12_any W b)
    obtain ⟨hbl, hbs, hbr, hbm⟩ := headR_bd b
    have HOK := Lib.hid (headR_ok b)
    generalize hhr : headR b = r at *
    have HHR := Lib.hid hhr
    clear hhr
    obtain ⟨seq, row, sum, ps⟩ := r
    dsimp only at hbl hbs hbr hbm HOK HRR HHD
    obtain ⟨E, hE⟩ : ∃ x, headE b = x := ⟨_, rfl⟩
    rw [hE] at HRR HOK HHD
    clear hE
    go_wp2_with fail
    refine (HHD.out _).mono ?_
    rintro e w2 ⟨A1, c1, rfl, hv, hb2⟩
    dsimp only at hv ⊢
    have hR2 := hR1.below hb2 hR1.lt
    have hb3 := hb1.trans (hb2.mono hb1.size)
    have hgs := Blk.new w2 54 #[.int .u64 (seq : Int), .int .i64 (row : Int), .slice A1 ps.length c1]
    have hR3 := hR2.alloc (.cells #[.int .u64 (seq : Int), .int .i64 (row : Int), .slice A1 ps.length c1] 54)
    have hb4 := hb3.alloc hb3.size (.cells #[.int .u64 (seq : Int), .int .i64 (row : Int), .slice A1 ps.length c1] 54)
    clear hR1 hv hb1 hb2 hR2 hb3
    unfold recV
    have hqg := hgs.cell
    have hqr := hR3.cell
    have hfr := hR3.frozen
    by_cases hE : E = 0
    · subst hE
      rw [if_neg (by simp)] at HRR
      by_cases hsn : seq = n
      · subst hsn
        rw [if_neg (by simp)] at HRR
        have hne : ((seq : Int) != (seq : Int)) = false := by simp
        have HGS := Lib.hid hgs
        have HR3 := Lib.hid hR3
        have HB4 := Lib.hid hb4
        have HPL := Lib.hid hbl
        clear hgs hR3 hb4 hqr hfr hbs hbr hbm
        generalize hk : ps.length = k at *
        go_wp2_with fail
        clear hqg
        generalize w2.alloc (.cells #[.int .u64 (seq : Int), .int .i64 (row : Int), .slice A1 k c1] 54) = W3 at *
        have HW3 := Lib.hid HB4.out.size
        go_loopw [49, 11] (fun i v wr => ∃ x : Nat, x ≤ k ∧ i = .int .i64 x ∧ OwnS wr W3.heap.size v (rload D p x) ∧ rgood D p x = true ∧ Below W3.heap.size W3 wr) (fun i _ _ => k - (intOf i).toNat)
        case atStart => exact ⟨0, by omega, rfl, (show OwnS _ _ _ [] from World.ownsRow_nil _ _ _ _), rfl, Below.refl _ _⟩
        case round =>
          rename_i v
          obtain ⟨x, hx, rfl, ho, hgd, hb⟩ := hrel
          have hbw := HB4.out.trans (hb.mono HW3.out)
          have hRr := HR3.out.below hb HR3.out.lt
          have hsz := hb.size
          have HO := Lib.hid ho
          have HB := Lib.hid hb
          have HBW := Lib.hid hbw
          have HGD := Lib.hid hgd
          have HRr := Lib.hid hRr
          by_cases hlt : x < k
          · have hq0 : wr.cell? ⟨g, 0, none⟩ = some (.pointer (some ⟨j, 0, none⟩)) := (HQ.out.below hbw hgl).cell 0
            have HC := Lib.hid (HRD.out wr hbw ((p : Int) + 1 + (x : Int)))
            have e : ((p + 1 + x : Nat) : Int) = (p : Int) + 1 + (x : Int) := by omega
            have HS := Lib.hid (rload_succ D p x)
            have HG := Lib.hid (show D.readE ((p : Int) + 1 + (x : Int)) = 0 → rgood D p (x + 1) = true from fun h => by unfold rgood; rw [HGD.out, e, h]; rfl)
            have HN := Lib.hid (show D.readE ((p : Int) + 1 + (x : Int)) ≠ 0 → rgood D p k = false from fun h => rgood_no (by rw [e]; exact h) k hlt)
            rw [e] at HS
            have hxl := rload_len D p x
            obtain ⟨E2, hE2⟩ : ∃ z, D.readE ((p : Int) + 1 + (x : Int)) = z := ⟨_, rfl⟩
            obtain ⟨s, hs⟩ : ∃ z, D.readS ((p : Int) + 1 + (x : Int)) = z := ⟨_, rfl⟩
            rw [hE2] at HC HG HN
            rw [hs] at HC HS
            have hqr := hRr.cell
            have hfr := hRr.frozen
            clear ho hgd hb hbw e hE2 hs hRr
            go_wp2_with fail
            refine HC.out.mono ?_
            rintro e w4 ⟨rfl, rfl⟩
            clear hq0
            by_cases hz2 : E2 = 0
            · subst hz2
              clear hqr hfr
              go_wp2_with (at_builtin; go_loud (refine wp_appS rfl (.tmp 67) (.tmp 69) rfl W3.heap.size _ _ (HO.out.alloc _) rfl _ _ _ _ rfl (StrsA.lit1 rfl) (fun h => by cases h) ?c1 ?c2 ?_; (case c1 => rw [hxl]; omega); (case c2 => simp; omega); intro v7 w7 hv7 hg7 hb7))
              go_roundw
              case rel => exact ⟨x + 1, by omega, by go_num, by rw [HS.out]; exact hv7, HG.out trivial, (HB.out.alloc hsz _).trans hb7⟩
              case measure => simp [intOf]; omega
            · have HR2 := Lib.hid (HRR.out.trans (if_pos (HN.out hz2)))
              go_wp2_with fail
              exact bodyPost_ret (rrRet 0 0 _ false _ _ _ _ _ _ (HRr.out.set3 _ _ _) Tryz.results68) rfl (rr_none HR2.out (below_set3 HBW.out (Nat.le_refl _) _ _ _))
          · obtain rfl : x = k := by omega
            obtain ⟨A2, c2, hv2, hc2, hcm2, hA2⟩ := ho.shape2
            have hst := ho
            rw [hv2] at hst
            have hstr := hst.strs
            have hxl := rload_len D p x
            rw [hxl] at hstr hv2 hc2
            subst hv2
            have HDC := Lib.hid (decode12_any wr b A2 x c2 (rload D p x) hstr hc2 hcm2 hA2)
            have HR2 := Lib.hid (HRR.out.trans (if_neg (by rw [HGD.out]; simp)))
            have HDZ := Lib.hid (show decE12 b (rload D p x) ≠ 0 → decR12 b (rload D p x) = hd0 from fun h => by unfold decR12; rw [if_neg h]; rfl)
            generalize decR12 b (rload D p x) = r at *
            generalize decE12 b (rload D p x) = E2 at *
            clear ho hgd hb hbw hRr hst hstr
            go_wp2_with fail
            refine HDC.out.mono ?_
            rintro e w4 ⟨A5, c5, rfl, hv5, hb5⟩
            have hR5 := HRr.out.below hb5 HRr.out.lt
            have hb6 := HBW.out.trans (hb5.mono HBW.out.size)
            have hg5 := Blk.new w4 54 #[.int .u64 (r.seq : Int), .int .i64 (r.row : Int), .slice A5 r.ps.length c5]
            have hR6 := hR5.alloc (.cells #[.int .u64 (r.seq : Int), .int .i64 (r.row : Int), .slice A5 r.ps.length c5] 54)
            have hb7 := hb6.alloc hb6.size (.cells #[.int .u64 (r.seq : Int), .int .i64 (r.row : Int), .slice A5 r.ps.length c5] 54)
            have hv6 := hv5.alloc (.cells #[.int .u64 (r.seq : Int), .int .i64 (r.row : Int), .slice A5 r.ps.length c5] 54)
            have HV6 := Lib.hid hv6
            have HB7 := Lib.hid hb7
            have HR6 := Lib.hid hR6
            have hsz4 := HBW.out.size
            have hq5 := hg5.cell
            have hqr := hR6.cell
            have hfr := hR6.frozen
            unfold recV
            clear hv5 hb5 hR5 hb6 hg5 hR6 hb7 hv6
            have hl1 := HRr.out.lt
            by_cases hz2 : E2 = 0
            · subst hz2
              have HR7 := Lib.hid (HR2.out.trans (if_pos rfl))
              go_wp2_with fail
              refine bodyPost_ret (rrRet _ _ _ true _ _ _ _ _ _ (HR6.out.set3 _ _ _) Tryz.results68) rfl ?_
              rw [HR7.out]
              exact ⟨A5, c5, rfl, (HV6.out.set3 hl1 _ _ _).base (by omega), below_set3 HB7.out (Nat.le_refl _) _ _ _⟩
            · have hr0 := HDZ.out hz2
              subst hr0
              have HR7 := Lib.hid (HR2.out.trans (if_neg hz2))
              have hzb : (E2 == 0) = false := by simp [hz2]
              go_wp2_with fail
              refine bodyPost_ret (rrRet _ _ _ _ _ _ _ _ _ _ (HR6.out.set3 _ _ _) Tryz.results68) rfl ?_
              rw [HR7.out]
              exact ⟨A5, c5, by simp [recV], (HV6.out.set3 hl1 _ _ _).base (by omega), below_set3 HB7.out (Nat.le_refl _) _ _ _⟩
      · rw [if_pos hsn] at HRR
        have hne : ((seq : Int) != (n : Int)) = true := by simp; omega
        clear hgs
        go_wp2_with fail
        exact bodyPost_ret (rrRet 0 0 _ false _ _ _ _ _ _ (hR3.set3 _ _ _) Tryz.results68) rfl (rr_none HRR.out (below_set3 hb4 (Nat.le_refl _) _ _ _))
    · rw [if_pos hE] at HRR
      clear hgs
      go_wp2_with fail
      exact bodyPost_ret (rrRet 0 0 _ false _ _ _ _ _ _ (hR3.set3 _ _ _) Tryz.results68) rfl (rr_none HRR.out (below_set3 hb4 (Nat.le_refl _) _ _ _))
  · rw [if_pos hz] at HRR
    have hq := hR1.cell
    have hf := hR1.frozen
    go_wp2_with fail
    exact bodyPost_ret (rrRet 0 0 _ false _ _ _ _ _ _ (hR1.set3 _ _ _) Tryz.results68) rfl (rr_none HRR.out (below_set3 hb1 (Nat.le_refl _) _ _ _))
end Go.Proofs.YtmhmdoobadckkaaGreatDoor
/- ring.Format. -/
namespace Go.Proofs.YtmhmdoobadckkaaGreatDoor
set_option maxRecDepth 20000
open Go.RowKit Go.OpenShut

/-! ### what steps come to, at a drive that is up -/
def Stp.ok (n : Nat) : Stp → Prop
  | .wr i s => 0 ≤ i ∧ i < n ∧ s.size = 64
  | .fl => True
def Stp.do_ (D : Drv) : Stp → Drv
  | .wr i s => D.wrOK i s
  | .fl => D.flOK
theorem runS_ok : ∀ (L : List Stp) {D : Drv}, D.up → (∀ x ∈ L, x.ok D.n) → runS D L = (L.foldl Stp.do_ D, 0) ∧ (L.foldl Stp.do_ D).up ∧ (L.foldl Stp.do_ D).n = D.n
  | [], _, hu, _ => ⟨rfl, hu, rfl⟩
  | .wr i s :: L, D, hu, h => by
    obtain ⟨h1, h2, h3⟩ := h (.wr i s) (by simp)
    obtain ⟨a1, a2⟩ := hu.wrOK h1 h2 h3
    obtain ⟨b1, b2, b3⟩ := runS_ok L (D := D.wrOK i s) a1 (fun x hx => by rw [a2]; exact h x (by simp [hx]))
    refine ⟨?_, b2, b3.trans a2⟩
    show (if D.wrE i s = 0 then runS (D.wr i s) L else (D, D.wrE i s)) = _
    rw [if_pos (hu.wrE h1 h2 h3), hu.wr h1 h2 h3]
    exact b1
  | .fl :: L, D, hu, h => by
    obtain ⟨a1, a2⟩ := hu.flOK
    obtain ⟨b1, b2, b3⟩ := runS_ok L (D := D.flOK) a1 (fun x hx => by rw [a2]; exact h x (by simp [hx]))
    refine ⟨?_, b2, b3.trans a2⟩
    show (if D.flE = 0 then runS D.fl L else (D, D.flE)) = _
    rw [if_pos hu.flE, hu.fl]
    exact b1
/-! ### own slices of steps -/
def OwnT (w : World) (B : Nat) (R : Nat → Prop) (g : Nat) (v : Value) (L : List Stp) : Prop := ∃ vs, OwnV 82 w B v vs ∧ vs.length = L.length ∧ (∀ u ∈ vs, u.oneCell' = true) ∧ ∀ j, j < L.length → StpV w R g (vs.getD j undef) (L.getD j .fl)
section
variable {w w' : World} {R : Nat → Prop} {g B : Nat} {v : Value} {L : List Stp} {x : Stp}
theorem OwnT.nil_ (w : World) (B : Nat) (R : Nat → Prop) (g : Nat) : OwnT w B R g (.slice none 0 0) [] := ⟨[], OwnV.nil_ _ _ _, rfl, (fun u h => by cases h), (fun j h => by cases h)⟩
theorem OwnT.below (h : OwnT w B R g v L) (k : Below w.heap.size w w') : OwnT w' B R g v L := by
  obtain ⟨vs, h1, h2, h3, h4⟩ := h
  exact ⟨vs, h1.below k, h2, h3, fun j hj => (h4 j hj).below k⟩
theorem OwnV.ne_blk {t t' : TypeId} {b : Nat} {cs : Array Value} {l : List Value} (h : OwnV t w B v l) (hb : Blk w b t' cs) (ht : t' ≠ t) : some b ≠ v.ownBlock := by
  rcases h.2 with ⟨rfl, _⟩ | ⟨g', cap, cur, rfl, _, hgb, _⟩
  · simp [Value.ownBlock]
  · intro e
    obtain rfl : b = g' := by simpa [Value.ownBlock] using e
    unfold Blk at hb
    rw [hb] at hgb
    cases hgb
    exact ht rfl
theorem StpV.grown {u : Value} {l : List Value} (h : StpV w R g u x) (ho : OwnV 82 w B v l) (hg : w.grownBy w' v.ownBlock) : StpV w' R g u x := by
  cases x with
  | wr i s =>
    obtain ⟨a, b, c, e, h1, h2, h3, r1, r2, r3⟩ := h
    exact ⟨a, b, c, e, h1.grown hg (ho.ne_blk h1 (by decide)), h2.grown hg (ho.ne_blk h2 (by decide)), h3.grown hg (ho.ne_blk h3 (by decide)), r1, r2, r3⟩
  | fl => exact h
theorem OwnT.app {vs us : List Value} {v' : Value} {xs : List Stp} (h1 : OwnV 82 w B v vs) (h2 : vs.length = L.length) (h3 : ∀ u ∈ vs, u.oneCell' = true) (h4 : ∀ j, j < L.length → StpV w R g (vs.getD j undef) (L.getD j .fl))
    (ho' : OwnV 82 w' B v' (vs ++ us)) (hg : w.grownBy w' v.ownBlock) (hu1 : us.length = xs.length) (hu2 : ∀ u ∈ us, u.oneCell' = true)
    (hu3 : ∀ j, j < xs.length → StpV w R g (us.getD j undef) (xs.getD j .fl)) : OwnT w' B R g v' (L ++ xs) := by
  refine ⟨vs ++ us, ho', by simp [h2, hu1], fun u hu => ?_, fun j hj => ?_⟩
  · rcases List.mem_append.1 hu with hu | hu
    · exact h3 u hu
    · exact hu2 u hu
  · rw [List.length_append] at hj
    by_cases hjl : j < L.length
    · have e1 : (vs ++ us).getD j undef = vs.getD j undef := by simp [List.getD, List.getElem?_append_left (show j < vs.length by omega)]
      have e2 : (L ++ xs).getD j .fl = L.getD j .fl := by simp [List.getD, List.getElem?_append_left hjl]
      rw [e1, e2]
      exact (h4 j hjl).grown h1 hg
    · have e1 : (vs ++ us).getD j undef = us.getD (j - L.length) undef := by simp [List.getD, List.getElem?_append_right (show vs.length ≤ j by omega), h2]
      have e2 : (L ++ xs).getD j .fl = xs.getD (j - L.length) .fl := by simp [List.getD, List.getElem?_append_right (show L.length ≤ j by omega)]
      rw [e1, e2]
      exact (hu3 _ (by omega)).grown h1 hg
theorem OwnT.sta {A : Option Addr} {n c : Nat} (h : OwnT w B R g (.slice A n c) L) (hR : ∀ b, (Value.slice A n c).ownBlock = some b → ¬ R b) : StA w R A n g L ∧ L.length = n := by
  obtain ⟨vs, h1, h2, h3, h4⟩ := h
  have hva := h1.va hR
  have hn := hva.1
  exact ⟨⟨vs, hva, by omega, fun j hj => h4 j (by omega)⟩, by omega⟩
end
def formatL (n : Nat) : List Stp := (List.range n).map fun i : Nat => Stp.wr (4 + 41 * (i : Int)) sec0
theorem formatL_succ (n : Nat) : formatL (n + 1) = formatL n ++ [Stp.wr (4 + 41 * (n : Int)) sec0] := by simp [formatL, List.range_succ]
theorem formatL_len (n : Nat) : (formatL n).length = n := by simp [formatL]
def Drv.fmtR (D : Drv) : Drv := (formatL (slotsOf D.n) ++ [Stp.wr 3 (rmS 0), Stp.fl]).foldl Stp.do_ D
theorem fmt_ok {D : Drv} (h : 1 ≤ slotsOf D.n) : ∀ x ∈ formatL (slotsOf D.n) ++ [Stp.wr 3 (rmS 0), Stp.fl], x.ok D.n := by
  intro x hx
  have hm := Nat.div_mul_le_self (D.n - 4) 41
  unfold slotsOf at *
  rcases List.mem_append.1 hx with hx | hx
  · obtain ⟨i, hi, rfl⟩ := List.mem_map.1 hx
    have := List.mem_range.1 hi
    exact ⟨by omega, by omega, rfl⟩
  · simp at hx
    rcases hx with rfl | rfl
    · exact ⟨by omega, by omega, rmS_size 0⟩
    · trivial
end Go.Proofs.YtmhmdoobadckkaaGreatDoor
/- ring.Format: the walk. -/
namespace Go.Proofs.YtmhmdoobadckkaaGreatDoor
set_option maxRecDepth 20000
open Go.RowKit Go.OpenShut

theorem info_fn : (Tryz.prog.info? 82).map (fun i => (i.zero, i.size, i.bytes)) = some (some .nilFunc, 1, 8) := by kernel_rfl
/-- steps appended -/
theorem wp_appT {w : World} {ops : Array Oper} {rest : List Oper} {o : Oper} {a : Act} {Q : Exit → Act → World → Prop} (hgd : o.guard = none) (s x : Operand)
    (ho : o.op = .call { callee := .builtin .append, args := #[s, x], argTypes := #[116, 116] })
    (base : Nat) (R : Nat → Prop) (g : Nat) (v : Value) (L : List Stp) (hown : OwnT w base R g v L) (hs : a.eval s = v) (b m c : Nat) (us : List Value) (hx : a.eval x = .slice (some ⟨b, 0, none⟩) m c) (hb : Blk w b 82 us.toArray) (hm : us.length = m) (hone : ∀ u ∈ us, u.oneCell' = true)
    (xs : List Stp) (hxs : us.length = xs.length) (hst : ∀ j, j < xs.length → StpV w R g (us.getD j undef) (xs.getD j .fl))
    (hlen : L.length + m < 1073741824) (hbase : base ≤ w.heap.size)
    (h : ∀ v' w', OwnT w' base R g v' (L ++ xs) → Below base w w' → wpList Tryz.prog ops Q rest (a.put o.dst v') w') : wpList Tryz.prog ops Q (o :: rest) a w := by
  obtain ⟨vs, h1, h2, h3, h4⟩ := hown
  refine wp_appV 116 82 .nilFunc 8 Tryz.underlying116 info_fn rfl (by decide) hgd s x ho base v vs h1 hs (some ⟨b, 0, none⟩) m c us hx (VA.blk hb hm (fun h => h)) hone (fun e => by cases e) (by rw [h2]; exact hlen) hbase ?_
  intro v' w' k1 k2 k3 k4
  exact h v' w' (OwnT.app h1 h2 h3 h4 k1 k2 hxs hone hst) k3
set_option maxHeartbeats 4000000 in
theorem format_any (w : World) (σ : Nat → Option Drv) (R : Nat → Prop) (h : Dsk w σ R) (g : Nat) (D : Drv) (hg : σ g = some D) (hu : D.up) (hs : 1 ≤ slotsOf D.n) (hp : D.pl 1000) :
    Calls Tryz.prog 20 #[.pointer (some ⟨g, 0, none⟩)] w (Wrote (upd σ g D.fmtR) R w 0) := by
  have hD : D.n ≤ 4096 := hu.1.le
  have HSE := Lib.hid (h.sectors hg)
  have HSL := Lib.hid (fun W => slots_any W D.n hD)
  obtain ⟨k1, _, _⟩ := runS_ok _ hu (fmt_ok hs)
  have HRUN := Lib.hid (show runS D (formatL (slotsOf D.n) ++ [Stp.wr 3 (rmS 0), Stp.fl]) = (D.fmtR, 0) from k1)
  have HST := Lib.hid (fun W (hb : Below w.heap.size w W) A n c L (hL : StA W R A n g L) (hn : n ≤ 10000) => steps_any W σ R (h.below hb) g D hg A n c L hL hn hp)
  have hn : slotsOf D.n ≤ 99 := by unfold slotsOf; omega
  have HR := Lib.hid (fun b hb => h.lt (b := b) hb)
  obtain ⟨n, hnn⟩ : ∃ n, slotsOf D.n = n := ⟨_, rfl⟩
  rw [hnn] at HSL HRUN hs hn
  have hz : ((n : Int) == 0) = false := by simp; omega
  clear h hg hu hp hD k1 hnn hs
  go_enter Tryz.func20, Tryz.ntmps20
  go_wp2_with fail
  refine HSE.out.mono ?_
  rintro e w1 ⟨rfl, rfl⟩
  go_wp2_with fail
  refine (HSL.out _).mono ?_
  rintro e w1 ⟨rfl, rfl⟩
  go_wp2_with fail
  go_loopw [12, 4] (fun i v wr => ∃ j : Nat, j ≤ n ∧ i = .int .i64 j ∧ OwnT wr w.heap.size R g v (formatL j) ∧ Below w.heap.size w wr) (fun i _ _ => n - (RowKit.intOf i).toNat)
  case atStart => exact ⟨0, by omega, rfl, OwnT.nil_ _ _ _ _, Below.refl _ _⟩
  case round =>
    rename_i v
    obtain ⟨j, hj, rfl, ho, hb⟩ := hrel
    have HO := Lib.hid ho
    have HB := Lib.hid hb
    have hsz := hb.size
    by_cases hlt : j < n
    · have hjl := formatL_len j
      clear ho hb
      go_wp2_with fail
      refine (rep0_any _).mono ?_
      rintro e w1 ⟨rfl, hb1⟩
      have HW := Lib.hid (written_any w1 R (fun b hb => by have := HR.out b hb; have := hb1.size; omega) g (4 + 41 * (j : Int)) sec0)
      go_wp2_with fail
      refine HW.out.mono ?_
      rintro e w2 ⟨u, rfl, hu1, hst, hb2⟩
      obtain ⟨a1, b1, c1, hue⟩ : ∃ a b c, u = .func (.func 145) #[] #[.pointer (some ⟨a, 0, none⟩), .pointer (some ⟨b, 0, none⟩), .pointer (some ⟨c, 0, none⟩)] := by
        obtain ⟨a, b, c, e, _⟩ := hst
        exact ⟨a, b, c, e⟩
      subst hue
      have hb3 := hb1.trans (hb2.mono hb1.size)
      have HO2 := Lib.hid (HO.out.below hb3)
      have HB2 := Lib.hid (HB.out.trans (hb3.mono hsz))
      have HS2 := Lib.hid hst
      have HU1 := Lib.hid hu1
      have hsz2 := HB2.out.size
      clear hb1 hb2 hb3 hst hu1
      go_wp2_with (at_builtin; go_loud (refine wp_appT rfl (.tmp 15) (.tmp 22) rfl w.heap.size R g _ _ (HO2.out.below ((Below.refl _ _).alloc (Nat.le_refl _) (.cells #[.func (.func 145) #[] #[.pointer (some ⟨a1, 0, none⟩), .pointer (some ⟨b1, 0, none⟩), .pointer (some ⟨c1, 0, none⟩)]] 82))) rfl w2.heap.size 1 1 [.func (.func 145) #[] #[.pointer (some ⟨a1, 0, none⟩), .pointer (some ⟨b1, 0, none⟩), .pointer (some ⟨c1, 0, none⟩)]] rfl (Blk.new w2 82 #[.func (.func 145) #[] #[.pointer (some ⟨a1, 0, none⟩), .pointer (some ⟨b1, 0, none⟩), .pointer (some ⟨c1, 0, none⟩)]]) rfl (fun x hx => by simp at hx; rw [hx]; exact HU1.out) [Stp.wr (4 + 41 * (j : Int)) sec0] rfl (fun i hi => by obtain rfl : i = 0 := (by simp at hi; omega); exact HS2.out.below ((Below.refl _ _).alloc (Nat.le_refl _) _)) (by omega) (by simp; omega) ?_); intro v4 w4 hv4 hb4)
      go_roundw
      case rel => exact ⟨j + 1, by omega, by go_num, by rw [formatL_succ]; exact hv4, (HB2.out.alloc hsz2 _).trans hb4⟩
      case measure => simp [RowKit.intOf]; omega
    · obtain rfl : j = n := by omega
      clear ho hb
      have hjl := formatL_len j
      go_wp2_with fail
      refine (rmark_any _ 0 (by omega)).mono ?_
      rintro e w1 ⟨rfl, hb1⟩
      have HW := Lib.hid (written_any w1 R (fun b hb => by have := HR.out b hb; have := hb1.size; omega) g 3 (rmS 0))
      go_wp2_with fail
      refine HW.out.mono ?_
      rintro e w2 ⟨u, rfl, hu1, hst, hb2⟩
      obtain ⟨a1, b1, c1, hue⟩ : ∃ a b c, u = .func (.func 145) #[] #[.pointer (some ⟨a, 0, none⟩), .pointer (some ⟨b, 0, none⟩), .pointer (some ⟨c, 0, none⟩)] := by
        obtain ⟨a, b, c, e, _⟩ := hst
        exact ⟨a, b, c, e⟩
      subst hue
      have hb3 := hb1.trans (hb2.mono hb1.size)
      have HO2 := Lib.hid (HO.out.below hb3)
      have HB2 := Lib.hid (HB.out.trans (hb3.mono hsz))
      have HS2 := Lib.hid hst
      have HU1 := Lib.hid hu1
      have hsz2 := HB2.out.size
      clear hb1 hb2 hb3 hst hu1
      have HX := Lib.hid ((Below.refl w2.heap.size w2).alloc (Nat.le_refl _) (.cells #[.func (.func 145) #[] #[.pointer (some ⟨a1, 0, none⟩), .pointer (some ⟨b1, 0, none⟩), .pointer (some ⟨c1, 0, none⟩)], .func (.func 65) #[.pointer (some ⟨g, 0, none⟩)] #[]] 82))
      have HFS := Lib.hid (show ∀ i, i < [Stp.wr 3 (rmS 0), Stp.fl].length → StpV (w2.alloc (.cells #[.func (.func 145) #[] #[.pointer (some ⟨a1, 0, none⟩), .pointer (some ⟨b1, 0, none⟩), .pointer (some ⟨c1, 0, none⟩)], .func (.func 65) #[.pointer (some ⟨g, 0, none⟩)] #[]] 82)) R g ([.func (.func 145) #[] #[.pointer (some ⟨a1, 0, none⟩), .pointer (some ⟨b1, 0, none⟩), .pointer (some ⟨c1, 0, none⟩)], .func (.func 65) #[.pointer (some ⟨g, 0, none⟩)] #[]].getD i undef) ([Stp.wr 3 (rmS 0), Stp.fl].getD i .fl) from fun i hi => by
        have : i = 0 ∨ i = 1 := by simp at hi; omega
        rcases this with rfl | rfl
        · exact HS2.out.below HX.out
        · rfl)
      go_wp2_with (at_builtin; go_loud (refine wp_appT rfl (.tmp 25) (.tmp 31) rfl w.heap.size R g _ _ (HO2.out.below HX.out) rfl w2.heap.size 2 2 [.func (.func 145) #[] #[.pointer (some ⟨a1, 0, none⟩), .pointer (some ⟨b1, 0, none⟩), .pointer (some ⟨c1, 0, none⟩)], .func (.func 65) #[.pointer (some ⟨g, 0, none⟩)] #[]] rfl (Blk.new w2 82 _) rfl (fun x hx => by simp at hx; rcases hx with rfl | rfl <;> rfl) [Stp.wr 3 (rmS 0), Stp.fl] rfl HFS.out (by omega) (by simp; omega) ?_); intro v4 w4 hv4 hb4; have HV4 := Lib.hid hv4; have HB4 := Lib.hid ((HB2.out.alloc hsz2 _).trans hb4); clear hv4 hb4)
      obtain ⟨A, m, c, rfl⟩ : ∃ A m c, v4 = .slice A m c := by
        obtain ⟨vs, h1, _⟩ := HV4.out
        obtain ⟨A, c, h, _⟩ := h1.shape
        exact ⟨A, _, c, h⟩
      obtain ⟨hsa, hlen⟩ := HV4.out.sta (fun b hb hRb => by
        obtain ⟨vs, h1, _⟩ := HV4.out
        have := (h1.lt b hb).1
        have := HR.out b hRb
        omega)
      have HC := Lib.hid (HST.out w4 HB4.out A m c _ hsa (by rw [← hlen]; simp [formatL_len]; omega))
      rw [HRUN.out] at HC
      clear hsa hlen
      refine HC.out.mono ?_
      rintro e w5 ⟨rfl, hdid⟩
      have HD := Lib.hid (Did.below HB4.out hdid)
      clear hdid
      go_wp2_with fail
      go_ret
      exact ⟨rfl, HD.out⟩
end Go.Proofs.YtmhmdoobadckkaaGreatDoor
/- How long a head is. -/
namespace Go.Proofs.YtmhmdoobadckkaaGreatDoor
set_option maxRecDepth 20000
open Go.RowKit Go.OpenShut

theorem headL_len (seq row : Int) (sum : Nat) (ps : List Prt) (h1 : 0 ≤ seq ∧ seq < 18446744073709551616) (h2 : 0 ≤ row ∧ row < 256) (h3 : ps.length ≤ 40) (h4 : sum < 4294967296) : (headL seq row sum ps).length = 19 + ps.length := by
  unfold headL
  rw [List.length_append, headF_len seq row ps.length sum h1 h2 h3 h4, List.length_map]
theorem headB_len (seq row : Int) (sum : Nat) (ps : List Prt) (h1 : 0 ≤ seq ∧ seq < 18446744073709551616) (h2 : 0 ≤ row ∧ row < 256) (h3 : ps.length ≤ 40) (h4 : sum < 4294967296) : (headB seq row sum ps).length = 64 := by
  unfold headB
  rw [sealL_length _ _ (by rw [headL_len seq row sum ps h1 h2 h3 h4]; omega)]
theorem headB_take (seq row : Int) (sum : Nat) (ps : List Prt) : (headB seq row sum ps).take 4 = [82, 86, 84, 74] := by
  unfold headB sealL padL headL headF
  simp
end Go.Proofs.YtmhmdoobadckkaaGreatDoor
/- (*Ring).Append. -/
namespace Go.Proofs.YtmhmdoobadckkaaGreatDoor
set_option maxRecDepth 20000
open Go.RowKit Go.OpenShut

def loadL (p : Nat) (xs : List Sec) (k : Nat) : List Stp := (List.range k).map fun i : Nat => Stp.wr ((p + 1 + i : Nat) : Int) (xs.getD i ⟨#[]⟩)
theorem loadL_succ (p : Nat) (xs : List Sec) (k : Nat) : loadL p xs (k + 1) = loadL p xs k ++ [Stp.wr ((p + 1 + k : Nat) : Int) (xs.getD k ⟨#[]⟩)] := by simp [loadL, List.range_succ]
theorem loadL_len (p : Nat) (xs : List Sec) (k : Nat) : (loadL p xs k).length = k := by simp [loadL]
/-- the sector of a record's head -/
def recS (n row : Nat) (ps : List Prt) : Sec := ⟨(headB (n : Int) (row : Int) (recSum ps) ps).toArray⟩
/-- the steps of an append -/
def appL (p : Nat) (n row : Nat) (ps : List Prt) : List Stp := loadL p (loadS ps) ps.length ++ [Stp.fl, Stp.wr (p : Int) (recS n row ps), Stp.fl]
def Drv.app (D : Drv) (q : Rng) (row : Nat) (ps : List Prt) : Drv := (appL (rfirst q q.next) q.next row ps).foldl Stp.do_ D
/-- behind a call that writes the drives and a ring -/
def RDid (σ' : Nat → Option Drv) (R : Nat → Prop) (g j : Nat) (q' : Rng) (w w' : World) : Prop := ∃ R', Dsk w' σ' R' ∧ RngAt w' g j q' ∧ Chg (fun b => R b ∨ b = g) w w' ∧ ∀ b, b < w.heap.size → R' b → R b
def Rng.on (q : Rng) : Rng := { q with next := q.next + 1 }
theorem app_ok {D : Drv} {q : Rng} (hok : q.ok) (hDs : 4 + 41 * q.slots ≤ D.n) {row : Nat} {ps : List Prt} (hm : mayB (row : Int) ps = true) : ∀ x ∈ appL (rfirst q q.next) q.next row ps, x.ok D.n := by
  intro x hx
  have hfl := rfirst_le hok q.next
  have hmp : placedB (row : Int) ps = true := by unfold mayB at hm; rw [Bool.and_eq_true] at hm; exact hm.1
  have hld : loadedB ps = true := by unfold mayB at hm; rw [Bool.and_eq_true] at hm; exact hm.2
  have hr := placed_row hmp
  have hnx := hok.n
  rcases List.mem_append.1 hx with hx | hx
  · obtain ⟨i, hi, rfl⟩ := List.mem_map.1 hx
    have hi := List.mem_range.1 hi
    refine ⟨by omega, by omega, ?_⟩
    have h1 := (allP ps).1 hld i hi
    have e : (loadS ps).getD i ⟨#[]⟩ = (ps.getD i prt0).data := by simp [loadS, List.getD, hi]
    rw [e]
    simpa using h1
  · simp at hx
    rcases hx with rfl | rfl | rfl
    · trivial
    · refine ⟨by omega, by omega, ?_⟩
      show Array.size _ = 64
      rw [List.size_toArray]
      exact headB_len (q.next : Int) (row : Int) (recSum ps) ps ⟨by omega, by omega⟩ ⟨hr.1, hr.2.1⟩ hr.2.2.2.1 (cmore_lt _ _)
    · trivial
set_option maxRecDepth 100000 in
set_option maxHeartbeats 4000000 in
theorem append_any (w : World) (σ : Nat → Option Drv) (R : Nat → Prop) (h : Dsk w σ R) (g j : Nat) (q : Rng) (hq : RngAt w g j q) (hgR : ¬ R g) (hok : q.ok) (hle : 1 ≤ q.left) (D : Drv) (hD : σ j = some D) (hu : D.up) (hp : D.pl 1000) (hDs : 4 + 41 * q.slots ≤ D.n) (row : Nat) (A : Option Addr) (m c : Nat) (ps : List Prt) (hps : PartsA w w.heap.size A m ps) (hm : mayB (row : Int) ps = true) (hm2 : m ≤ maxLen) :
    Calls Tryz.prog 25 #[.pointer (some ⟨g, 0, none⟩), .int .i64 (row : Int), .slice A m c] w fun e w' => e = .returned (.tuple #[.int .u64 (q.next : Int), .int .i64 0]) ∧ RDid (upd σ j (D.app q row ps)) R g j q.on w w' := by
  have HQ := Lib.hid hq
  have hgl := hq.lt
  have hnx := hok.n
  have HLE := Lib.hid (left_ring w g j q hq hok)
  have HEN := Lib.hid (fun W (hb : Below w.heap.size w W) => encode12_own W (q.next : Int) (row : Int) A m c ps ((hps.below hb).mono hb.size) hm2 hm ⟨by omega, by omega⟩)
  have HFI := Lib.hid (fun W (hb : Below w.heap.size w W) => first_ring W g j q (hq.below hb hgl) hok q.next (by omega))
  have hpm : ps.length = m := hps.1
  have hr := placed_row (show placedB (row : Int) ps = true by unfold mayB at hm; rw [Bool.and_eq_true] at hm; exact hm.1)
  have hm40 : m ≤ 40 := by rw [← hpm]; exact hr.2.2.2.1
  have hld : loadedB ps = true := by unfold mayB at hm; rw [Bool.and_eq_true] at hm; exact hm.2
  have hfl := rfirst_le hok q.next
  have hs2 := hok.s2
  have HST := Lib.hid (fun W (hb : Below w.heap.size w W) A n c L (hL : StA W R A n j L) (hn : n ≤ 10000) => steps_any W σ R (h.below hb) j D hD A n c L hL hn hp)
  have HRUN := Lib.hid (show runS D (appL (rfirst q q.next) q.next row ps) = (D.app q row ps, 0) from (runS_ok _ hu (app_ok hok hDs hm)).1)
  have HR := Lib.hid (fun b hb => h.lt (b := b) hb)
  have HGR := Lib.hid hgR
  have hl2 : (1 : Int) ≤ q.left := by omega
  have hfw : ((q.next : Int) + 1) % 18446744073709551616 = (q.next : Int) + 1 := by omega
  have hap : appL (rfirst q q.next) q.next row ps = loadL (rfirst q q.next) (loadS ps) m ++ [Stp.fl, Stp.wr (rfirst q q.next : Int) (recS q.next row ps), Stp.fl] := by unfold appL; rw [hpm]
  rw [hap] at HRUN
  have HLS := Lib.hid (show (loadS ps).length = m by rw [loadS_len, hpm])
  generalize loadS ps = xs at *
  have hrs : ByteArray.mk (headB (q.next : Int) (row : Int) (recSum ps) ps).toArray = recS q.next row ps := rfl
  rw [hrs] at HEN
  generalize recS q.next row ps = hs at *
  obtain ⟨p, hpp⟩ : ∃ p, rfirst q q.next = p := ⟨_, rfl⟩
  rw [hpp] at HFI HRUN hfl
  have hp2 : (p : Int) ≤ 5000 := by omega
  have HON := Lib.hid (show (q.next : Int) + 1 = (q.on.next : Int) from by show _ = ((q.next + 1 : Nat) : Int); omega)
  generalize D.app q row ps = D' at *
  clear h hq hgR hok hle hD hu hp hDs hps hm hm2 hpm hr hld hfl hs2 hap hrs hpp
  have hb0 := Below.refl w.heap.size w
  go_enter Tryz.func25, Tryz.ntmps25
  go_wp2_with fail
  refine HLE.out.mono ?_
  rintro e w1 ⟨rfl, hb1⟩
  have hq1 := (HQ.out.below hb1 hgl).cell
  go_wp2_with fail
  refine (HEN.out w1 hb1).mono ?_
  rintro e w2 ⟨A', c', rfl, _, _, _, hst, hown, hb2⟩
  have hb3 := hb1.trans (hb2.mono hb1.size)
  clear hb2 hown hq1 hb1 hb0
  go_wp2_with fail
  refine (HFI.out w2 hb3).mono ?_
  rintro e w3 ⟨rfl, rfl⟩
  have HST2 := Lib.hid hst
  have HB3 := Lib.hid hb3
  clear hst hb3
  go_wp2_with fail
  go_loopw [40, 13] (fun i v wr => ∃ x : Nat, x ≤ m ∧ i = .int .i64 x ∧ OwnT wr w2.heap.size R j v (loadL p xs x) ∧ Below w2.heap.size w2 wr) (fun i _ _ => m - (intOf i).toNat)
  case atStart => exact ⟨0, by omega, rfl, OwnT.nil_ _ _ _ _, Below.refl _ _⟩
  case round =>
    rename_i v
    obtain ⟨x, hx, rfl, ho, hb⟩ := hrel
    have HO := Lib.hid ho
    have HB := Lib.hid hb
    have hsz := hb.size
    have hw2 := HB3.out.size
    have HBW := Lib.hid (HB3.out.trans (hb.mono hw2))
    have hjl := loadL_len p xs x
    clear ho hb
    by_cases hlt : x < m
    · obtain ⟨b, o, rfl, hbb, hc⟩ := HST2.out.2 (by omega)
      have hcx : wr.cell? ⟨b, o + x, none⟩ = some (.string (xs.getD x ⟨#[]⟩)) := (HB.out.cell (p := ⟨b, o + x, none⟩) hbb).trans (hc x hlt)
      have hq0 : wr.cell? ⟨g, 0, none⟩ = some (.pointer (some ⟨j, 0, none⟩)) := (HQ.out.below HBW.out hgl).cell 0
      have HS := Lib.hid (loadL_succ p xs x)
      have e : ((p + 1 + x : Nat) : Int) = (p : Int) + 1 + (x : Int) := by omega
      rw [e] at HS
      obtain ⟨s, hs2⟩ : ∃ s, xs.getD x ⟨#[]⟩ = s := ⟨_, rfl⟩
      rw [hs2] at HS hcx
      have HW := Lib.hid (written_any wr R (fun b hb => by have := HR.out b hb; omega) j ((p : Int) + 1 + (x : Int)) s)
      clear hc e hs2
      go_wp2_with fail
      refine HW.out.mono ?_
      rintro e w4 ⟨u, rfl, hu1, hst, hb2⟩
      obtain ⟨a1, b1, c1, hue⟩ : ∃ a b c, u = .func (.func 145) #[] #[.pointer (some ⟨a, 0, none⟩), .pointer (some ⟨b, 0, none⟩), .pointer (some ⟨c, 0, none⟩)] := by
        obtain ⟨a, b, c, e, _⟩ := hst
        exact ⟨a, b, c, e⟩
      subst hue
      have HO2 := Lib.hid (HO.out.below hb2)
      have HB2 := Lib.hid (HB.out.trans (hb2.mono hsz))
      have HS2 := Lib.hid hst
      have HU1 := Lib.hid hu1
      have hsz2 := HB2.out.size
      clear hb2 hst hu1 hcx hq0
      go_wp2_with (at_builtin; go_loud (refine wp_appT rfl (.tmp 45) (.tmp 56) rfl w2.heap.size R j _ _ (HO2.out.below ((Below.refl _ _).alloc (Nat.le_refl _) (.cells #[.func (.func 145) #[] #[.pointer (some ⟨a1, 0, none⟩), .pointer (some ⟨b1, 0, none⟩), .pointer (some ⟨c1, 0, none⟩)]] 82))) rfl w4.heap.size 1 1 [.func (.func 145) #[] #[.pointer (some ⟨a1, 0, none⟩), .pointer (some ⟨b1, 0, none⟩), .pointer (some ⟨c1, 0, none⟩)]] rfl (Blk.new w4 82 #[.func (.func 145) #[] #[.pointer (some ⟨a1, 0, none⟩), .pointer (some ⟨b1, 0, none⟩), .pointer (some ⟨c1, 0, none⟩)]]) rfl (fun x hx => by simp at hx; rw [hx]; exact HU1.out) [Stp.wr ((p : Int) + 1 + (x : Int)) s] rfl (fun i hi => by obtain rfl : i = 0 := (by simp at hi; omega); exact HS2.out.below ((Below.refl _ _).alloc (Nat.le_refl _) _)) (by omega) (by simp; omega) ?_); intro v4 w4 hv4 hb4)
      go_roundw
      case rel => exact ⟨x + 1, by omega, by go_num, by rw [HS.out]; exact hv4, (HB2.out.alloc hsz2 _).trans hb4⟩
      case measure => (simp [intOf]; omega)
    · obtain rfl : x = m := by omega
      go_wp2_with fail
      have hnf := ((Chg.refl R w).then HBW.out).drew
      have hbl := HB.out.drew
      refine wp_region_nf (fun Y => Chg R w Y) (fun _ => false) [(0, true), (1, true), (2, true), (3, true), (4, true), (5, true), (6, true), (7, true), (8, true), (9, true), (10, true), (11, true), (13, true), (14, true), (15, true), (16, true), (17, true), (12, false), (18, false), (19, false), (20, false), (21, true)] (by kernel_rfl) rfl (by kernel_rfl) (by kernel_rfl) (fun d _ _ _ _ h => by cases d <;> exact h) ?_
      repeat (refine nf_pure rfl hnf (fun Y hY => by have hqY := (hY.keeps HQ.out HGR.out).cell; clear hY; go_wp2; exact ⟨rfl, rfl, rfl⟩) rfl ?_ ?_; rfl)
      refine nf_imp rfl ?_
      go_wp2_with fail
      have hsd : wr.heap.size ≤ wr.drew.heap.size := Nat.le_refl _
      have HOd := Lib.hid HO.out
      have HOd2 : OwnT wr.drew w2.heap.size R j _ (loadL p xs x) := HO.out.below (Below.refl _ _).drew
      generalize wr.drew = wd at *
      refine (written_any wd R (fun b hb => by have := HR.out b hb; omega) j (p : Int) hs).mono ?_
      rintro e w4 ⟨u, rfl, hu1, hst, hb2⟩
      obtain ⟨a1, b1, c1, hue⟩ : ∃ a b c, u = .func (.func 145) #[] #[.pointer (some ⟨a, 0, none⟩), .pointer (some ⟨b, 0, none⟩), .pointer (some ⟨c, 0, none⟩)] := by
        obtain ⟨a, b, c, e, _⟩ := hst
        exact ⟨a, b, c, e⟩
      subst hue
      have HO2 := Lib.hid (HOd2.below hb2)
      have hsw := hbl.size
      replace hbl := hbl.trans (hb2.mono hsw)
      replace hnf := hnf.then hb2
      have hsz2 := hbl.size
      have HS2 := Lib.hid hst
      have HU1 := Lib.hid hu1
      clear hb2 hst hu1 HOd2
      go_wp2_with fail
      refine ⟨fun _ => hnf, ?_⟩
      refine nf_imp rfl ?_
      go_wp2_with fail
      have HX := Lib.hid ((Below.refl w4.heap.size w4).alloc (Nat.le_refl _) (.cells #[.func (.func 65) #[.pointer (some ⟨j, 0, none⟩)] #[], .func (.func 145) #[] #[.pointer (some ⟨a1, 0, none⟩), .pointer (some ⟨b1, 0, none⟩), .pointer (some ⟨c1, 0, none⟩)], .func (.func 65) #[.pointer (some ⟨j, 0, none⟩)] #[]] 82))
      have HFS := Lib.hid (show ∀ i, i < [Stp.fl, Stp.wr (p : Int) hs, Stp.fl].length → StpV (w4.alloc (.cells #[.func (.func 65) #[.pointer (some ⟨j, 0, none⟩)] #[], .func (.func 145) #[] #[.pointer (some ⟨a1, 0, none⟩), .pointer (some ⟨b1, 0, none⟩), .pointer (some ⟨c1, 0, none⟩)], .func (.func 65) #[.pointer (some ⟨j, 0, none⟩)] #[]] 82)) R j ([.func (.func 65) #[.pointer (some ⟨j, 0, none⟩)] #[], .func (.func 145) #[] #[.pointer (some ⟨a1, 0, none⟩), .pointer (some ⟨b1, 0, none⟩), .pointer (some ⟨c1, 0, none⟩)], .func (.func 65) #[.pointer (some ⟨j, 0, none⟩)] #[]].getD i undef) ([Stp.fl, Stp.wr (p : Int) hs, Stp.fl].getD i .fl) from fun i hi => by
        have : i = 0 ∨ i = 1 ∨ i = 2 := by simp at hi; omega
        rcases this with rfl | rfl | rfl
        · rfl
        · exact HS2.out.below HX.out
        · rfl)
      have HBK := Lib.hid (Blk.new w4 82 #[.func (.func 65) #[.pointer (some ⟨j, 0, none⟩)] #[], .func (.func 145) #[] #[.pointer (some ⟨a1, 0, none⟩), .pointer (some ⟨b1, 0, none⟩), .pointer (some ⟨c1, 0, none⟩)], .func (.func 65) #[.pointer (some ⟨j, 0, none⟩)] #[]])
      have HO3 := Lib.hid (HO2.out.below HX.out)
      replace hbl := hbl.trans (HX.out.mono hsz2)
      replace hnf := hnf.then HX.out
      have hsz3 := hbl.size
      generalize w4.alloc (.cells #[.func (.func 65) #[.pointer (some ⟨j, 0, none⟩)] #[], .func (.func 145) #[] #[.pointer (some ⟨a1, 0, none⟩), .pointer (some ⟨b1, 0, none⟩), .pointer (some ⟨c1, 0, none⟩)], .func (.func 65) #[.pointer (some ⟨j, 0, none⟩)] #[]] 82) = w5 at *
      refine ⟨fun _ => hnf, ?_⟩
      refine nf_imp rfl ?_
      refine wp_appT rfl (.tmp 59) (.tmp 77) rfl w2.heap.size R j _ _ HO3.out rfl w4.heap.size 3 3 [.func (.func 65) #[.pointer (some ⟨j, 0, none⟩)] #[], .func (.func 145) #[] #[.pointer (some ⟨a1, 0, none⟩), .pointer (some ⟨b1, 0, none⟩), .pointer (some ⟨c1, 0, none⟩)], .func (.func 65) #[.pointer (some ⟨j, 0, none⟩)] #[]] rfl HBK.out rfl (fun x hx => by simp at hx; rcases hx with rfl | rfl | rfl <;> rfl) [Stp.fl, Stp.wr (p : Int) hs, Stp.fl] rfl HFS.out (by omega) (by omega) ?_
      rintro v6 w6 hv6 hb6
      obtain ⟨A2, m2, c2, rfl⟩ : ∃ A m c, v6 = .slice A m c := by
        obtain ⟨vs, h1, _⟩ := hv6
        obtain ⟨A, c, h, _⟩ := h1.shape
        exact ⟨A, _, c, h⟩
      have hb7 : Below w.heap.size w w6 := HB3.out.trans ((hbl.trans hb6).mono hw2)
      obtain ⟨hsa, hlen⟩ := hv6.sta (fun b hb hRb => by
        obtain ⟨vs, h1, _⟩ := hv6
        have := (h1.lt b hb).1
        have := HR.out b hRb
        omega)
      have HC := Lib.hid (HST.out w6 hb7 A2 m2 c2 _ hsa (by rw [← hlen]; simp [hjl]; omega))
      rw [HRUN.out] at HC
      have HB7 := Lib.hid hb7
      replace hnf := (Chg.refl R w).then hb7
      clear hsa hlen hv6 hb6 hb7 hbl hsz2 hsz3
      go_wp2_with fail
      refine ⟨fun _ => hnf, ?_⟩
      refine nf_imp rfl ?_
      go_wp2_with fail
      refine HC.out.mono ?_
      rintro e w7 ⟨rfl, R2, hd2, hx2⟩
      replace hnf := hnf.trans hx2.1 (fun _ _ h => h)
      have HD2 := Lib.hid hd2
      have HX2 := Lib.hid hx2
      clear hd2 hx2
      go_wp2_with fail
      refine ⟨fun _ => hnf, ?_⟩
      repeat (refine nf_pure rfl hnf (fun Y hY => by clear hY; go_wp2; exact ⟨rfl, rfl, rfl⟩) rfl ?_ ?_; rfl)
      refine nf_nil ?_
      have HQ7 := Lib.hid (hnf.keeps HQ.out HGR.out)
      have hq7 := HQ7.out.cell
      have hf7 := HQ7.out.frozen
      have HN := Lib.hid hnf
      have HLT := Lib.hid (HX2.out.not HGR.out (Nat.lt_of_lt_of_le hgl HB7.out.size))
      clear hnf
      go_wp2_with fail
      go_ret2
      refine ⟨rfl, R2, HD2.out.setCell HLT.out _, ?_, (HN.out.mono (G := fun b => R b ∨ b = g) (fun _ _ h => Or.inl h)).setCell (p := ⟨g, 3, none⟩) (Or.inl (Or.inr rfl)) _, fun b hb h2 => HX2.out.2 b (Nat.lt_of_lt_of_le hb HB7.out.size) h2⟩
      have := HQ7.out.set_ 3 (.int .u64 ((q.next : Int) + 1))
      rw [HON.out] at this ⊢
      exact this
end Go.Proofs.YtmhmdoobadckkaaGreatDoor
/- Slices of records of the call's own. -/
namespace Go.Proofs.YtmhmdoobadckkaaGreatDoor
set_option maxRecDepth 20000
open Go.RowKit Go.OpenShut

abbrev Kd := Hd × Option Addr × Nat
def kc (k : Kd) : List Value := [.int .u64 (k.1.seq : Int), .int .i64 (k.1.row : Int), .slice k.2.1 k.1.ps.length k.2.2]
def kcs (ks : List Kd) : List Value := ks.flatMap kc
theorem kcs_app (a b : List Kd) : kcs (a ++ b) = kcs a ++ kcs b := by simp [kcs]
theorem kcs_one (k : Kd) : kcs [k] = kc k := by simp [kcs]
/-- records in a slice of one's own; the parts of each in a slice of one's own -/
def OwnK (w : World) (B : Nat) (v : Value) (hs : List Hd) : Prop := ∃ ks : List Kd, ks.map (·.1) = hs ∧ w.ownsRow B 54 3 v ks.length (kcs ks) ∧ ∀ k ∈ ks, OwnP 142 w B (.slice k.2.1 k.1.ps.length k.2.2) k.1.ps
theorem info_rec : (Tryz.prog.info? 54).map (fun i => (i.zero, i.size, i.bytes)) = some (some (.agg #[.int .u64 0, .int .i64 0, .slice none 0 0]), 3, 40) := by kernel_rfl
section
variable {w w' : World} {B : Nat} {v : Value} {hs : List Hd}
theorem OwnK.nil_ (w : World) (B : Nat) : OwnK w B (.slice none 0 0) [] := ⟨[], rfl, World.ownsRow_nil _ _ _ _, fun k h => by cases h⟩
theorem ownsRow_below {e : TypeId} {s n : Nat} {l : List Value} (h : w.ownsRow B e s v n l) (hb : Below w.heap.size w w') : w'.ownsRow B e s v n l := by
  obtain ⟨h1, h2⟩ := h
  refine ⟨h1, ?_⟩
  rcases h2 with h2 | ⟨g, cap, cur, rfl, hg, hh, r⟩
  · exact Or.inl h2
  · exact Or.inr ⟨g, cap, cur, rfl, hg, (hb.block g (Array.getElem?_eq_some_iff.1 hh).1).trans hh, r⟩
theorem OwnK.below (h : OwnK w B v hs) (hb : Below w.heap.size w w') : OwnK w' B v hs := by
  obtain ⟨ks, h1, h2, h3⟩ := h
  exact ⟨ks, h1, ownsRow_below h2 hb, fun k hk => (h3 k hk).below hb⟩
theorem OwnK.len (h : OwnK w B v hs) : ∃ A c, v = .slice A hs.length c := by
  obtain ⟨ks, rfl, h2, _⟩ := h
  rcases h2.2 with ⟨rfl, h0⟩ | ⟨g, cap, cur, rfl, _⟩
  · exact ⟨none, 0, by simp at h0; simp [h0]⟩
  · exact ⟨_, _, by rw [List.length_map]⟩
theorem OwnK.far (h : OwnK w B v hs) {p : Addr} {t : TypeId} {cs : Array Value} (hp : Blk w p.block t cs) (ht1 : t ≠ 54) (ht2 : t ≠ 142) (u : Value) : OwnK (w.setCell p u) B v hs := by
  obtain ⟨ks, h1, ⟨k1, k2⟩, h3⟩ := h
  refine ⟨ks, h1, ⟨k1, ?_⟩, fun k hk => (h3 k hk).far (fun e => ?_) u⟩
  · rcases k2 with k2 | ⟨g, cap, cur, rfl, hg, hh, r⟩
    · exact Or.inl k2
    · refine Or.inr ⟨g, cap, cur, rfl, hg, (Below.heap_setCell w p u g (fun e => ?_)).trans hh, r⟩
      rw [e] at hh
      unfold Blk at hp
      rw [hp] at hh
      cases hh
      exact ht1 rfl
  · rcases (h3 k hk).2 with ⟨e1, _⟩ | ⟨g, cap, cur, e1, _, hh, _⟩
    · rw [e1] at e; cases e
    · rw [e1] at e
      have e2 : p.block = g := by simpa [Value.ownBlock] using e
      rw [← e2] at hh
      unfold Blk at hp
      rw [hp] at hh
      cases hh
      exact ht2 rfl
end
/-- a record appended -/
theorem wp_pushK {w : World} {ops : Array Oper} {rest : List Oper} {o : Oper} {a : Act} {Q : Exit → Act → World → Prop} (hgd : o.guard = none) (s x : Operand)
    (ho : o.op = .call { callee := .builtin .append, args := #[s, x], argTypes := #[38, 38] })
    (base : Nat) (v : Value) (hs : List Hd) (hown : OwnK w base v hs) (he : a.eval s = v) (b c : Nat) (k : Kd) (hx : a.eval x = .slice (some ⟨b, 0, none⟩) 1 c) (hb : Blk w b 54 (kc k).toArray) (hk : OwnP 142 w base (.slice k.2.1 k.1.ps.length k.2.2) k.1.ps)
    (hlen : hs.length < 1000000) (hbase : base ≤ w.heap.size)
    (h : ∀ v' w', OwnK w' base v' (hs ++ [k.1]) → w.grownBy w' v.ownBlock → Below base w w' → (∀ b t cs, Blk w b t cs → t ≠ 54 → Blk w' b t cs) → wpList Tryz.prog ops Q rest (a.put o.dst v') w') : wpList Tryz.prog ops Q (o :: rest) a w := by
  obtain ⟨i0, hi, hz0, hz1, hz2⟩ := info_parts info_rec
  obtain ⟨ks, h1, h2, h3⟩ := hown
  have hne : ∀ b t cs, Blk w b t cs → t ≠ 54 → some b ≠ v.ownBlock := fun b t cs hb ht e => by
    rcases h2.2 with ⟨rfl, _⟩ | ⟨g, cap, cur, rfl, _, hh, _⟩
    · cases e
    · obtain rfl : b = g := by simpa [Value.ownBlock] using e
      unfold Blk at hb
      rw [hb] at hh
      cases hh
      exact ht rfl
  have hpk : ∀ k' : Kd, OwnP 142 w base (.slice k'.2.1 k'.1.ps.length k'.2.2) k'.1.ps → ∀ w', w.grownBy w' v.ownBlock → OwnP 142 w' base (.slice k'.2.1 k'.1.ps.length k'.2.2) k'.1.ps := fun k' hk' w' hg => by
    refine hk'.grown hg ?_
    rcases hk'.2 with ⟨e1, _⟩ | ⟨g, cap, cur, e1, _, hh, _⟩
    · exact Or.inl (by rw [e1]; rfl)
    · refine Or.inr (fun e => ?_)
      rw [e1] at e
      have h9 : Blk w g 142 cur := hh
      exact hne g _ _ h9 (by decide) e
  refine wpList_append_own_at _ hgd s x 38 ho base 54 i0 _ 3 40 Tryz.underlying38 hi hz0 hz1 hz2 rfl (by decide) v ks.length (kcs ks) he h2 ⟨b, 0, none⟩ 1 c (kc k) hx rfl ?_ ?_ ?_ ?_ hbase ?_
  · intro j u hj
    have e3 : ∀ i, (⟨b, 0, none⟩ : Addr).add i = ⟨b, i, none⟩ := fun i => by unfold Addr.add; split <;> simp_all
    rw [e3, hb.cell]
    simpa using hj
  · intro u hu
    simp [kc] at hu
    rcases hu with rfl | rfl | rfl <;> rfl
  · have : ks.length = hs.length := by rw [← h1, List.length_map]
    unfold maxLen; omega
  · have : ks.length = hs.length := by rw [← h1, List.length_map]
    omega
  · intro v' w' k1 k2 _ k4
    refine h v' w' ⟨ks ++ [k], by rw [List.map_append, h1]; rfl, ?_, fun k' hk' => ?_⟩ k2 ((Below.refl _ _).grown k2 hbase (fun j hj => (World.ownsRow.lt h2 j hj).1)) (fun b t cs hb ht => hb.grown k2 (hne b t cs hb ht))
    · rw [kcs_app, kcs_one, List.length_append]
      exact k1
    · rcases List.mem_append.1 hk' with hk' | hk'
      · exact hpk k' (h3 k' hk') w' k2
      · simp at hk'
        subst hk'
        exact hpk k' hk w' k2
end Go.Proofs.YtmhmdoobadckkaaGreatDoor
/- stripe.Replay. -/
namespace Go.Proofs.YtmhmdoobadckkaaGreatDoor
set_option maxRecDepth 20000
open Go.RowKit Go.OpenShut

theorem OwnP.partsR {e : TypeId} {w : World} {B n c : Nat} {A : Option Addr} {ps : List Prt} (h : OwnP e w B (.slice A n c) ps) {R : Nat → Prop} (hR : ∀ b, R b → b < B) : PartsR w R A n ps := by
  obtain ⟨h1, h2⟩ := h.parts
  refine ⟨h1, fun h0 => ?_⟩
  obtain ⟨b, o, hA, hb, hc⟩ := h2 h0
  subst hA
  exact ⟨b, o, rfl, fun e => Nat.lt_irrefl _ (Nat.lt_of_lt_of_le (hR b e) (h.lt b rfl).1), hb, hc⟩
/-- a record in memory -/
def RAt (w : World) (R : Nat → Prop) (b o j : Nat) (h : Hd) : Prop :=
  w.cell? ⟨b, o + j * 3, none⟩ = some (.int .u64 (h.seq : Int)) ∧ w.cell? ⟨b, o + j * 3 + 1, none⟩ = some (.int .i64 (h.row : Int)) ∧ ∃ A c, w.cell? ⟨b, o + j * 3 + 2, none⟩ = some (.slice A h.ps.length c) ∧ PartsR w R A h.ps.length h.ps
def RecsR (w : World) (R : Nat → Prop) (A : Option Addr) (n : Nat) (hs : List Hd) : Prop :=
  hs.length = n ∧ (0 < n → ∃ b o, A = some ⟨b, o, none⟩ ∧ ¬ R b ∧ b < w.heap.size ∧ ∀ j, j < n → RAt w R b o j (hs.getD j hd0))
theorem RecsR.ext {w w' : World} {R R' : Nat → Prop} {A : Option Addr} {n : Nat} {hs : List Hd} (h : RecsR w R A n hs) (k : Ext R R' w w') : RecsR w' R' A n hs := by
  refine ⟨h.1, fun h0 => ?_⟩
  obtain ⟨b, o, e, hR, hlt, hc⟩ := h.2 h0
  have hs : w'.heap[b]? = w.heap[b]? := k.1.block b hlt hR
  refine ⟨b, o, e, k.not hR hlt, Nat.lt_of_lt_of_le hlt k.size, fun j hj => ?_⟩
  obtain ⟨c1, c2, A, c, c3, c4⟩ := hc j hj
  exact ⟨(cell_same hs).trans c1, (cell_same hs).trans c2, A, c, (cell_same hs).trans c3, c4.ext k⟩
theorem kcs_get : ∀ (l : List Kd) (j : Nat) (hj : j < l.length), (kcs l)[j * 3]? = some (.int .u64 (l[j].1.seq : Int)) ∧ (kcs l)[j * 3 + 1]? = some (.int .i64 (l[j].1.row : Int)) ∧ (kcs l)[j * 3 + 2]? = some (.slice l[j].2.1 l[j].1.ps.length l[j].2.2)
  | [], j, h => by simp at h
  | p :: l, 0, _ => ⟨rfl, rfl, rfl⟩
  | p :: l, j + 1, h => by
    have ih := kcs_get l j (by simpa using h)
    have e : ∀ r, (kcs (p :: l))[(j + 1) * 3 + r]? = (kcs l)[j * 3 + r]? := fun r => by
      have : kcs (p :: l) = kc p ++ kcs l := rfl
      rw [this, List.getElem?_append_right (by show 3 ≤ _; omega)]
      congr 1
      show (j + 1) * 3 + r - 3 = _
      omega
    have e0 := e 0
    rw [Nat.add_zero, Nat.add_zero] at e0
    rw [e0, e 1, e 2]
    exact ih
theorem OwnK.recs {w : World} {B n c : Nat} {A : Option Addr} {hs : List Hd} (h : OwnK w B (.slice A n c) hs) {R : Nat → Prop} (hR : ∀ b, R b → b < B) : RecsR w R A n hs := by
  obtain ⟨ks, rfl, h2, h3⟩ := h
  have hcl := fun g hg => World.ownsRow.cells (g := g) h2 hg
  have hlt := World.ownsRow.lt h2
  obtain ⟨h4, h5⟩ := h2
  rcases h5 with ⟨e', h0⟩ | ⟨g, cap, cur, e', hg, hh, r⟩
  · cases e'
    exact ⟨by rw [List.length_map]; exact h0, fun h => by omega⟩
  · cases e'
    refine ⟨by rw [List.length_map], fun _ => ⟨g, 0, rfl, fun e => Nat.lt_irrefl _ (Nat.lt_of_lt_of_le (hR g e) (hlt g rfl).1), (hlt g rfl).2, fun j hj => ?_⟩⟩
    obtain ⟨a0, a1, a2⟩ := kcs_get ks j hj
    have e3 : ∀ i, (⟨g, 0, none⟩ : Addr).add i = ⟨g, 0 + i, none⟩ := fun i => by unfold Addr.add; split <;> simp_all
    have b0 := hcl g rfl _ _ a0
    have b1 := hcl g rfl _ _ a1
    have b2 := hcl g rfl _ _ a2
    rw [e3] at b0 b1 b2
    have e4 : (ks.map (·.1)).getD j hd0 = ks[j].1 := by simp [List.getD, hj]
    rw [e4]
    exact ⟨b0, b1, ks[j].2.1, ks[j].2.2, b2, (h3 ks[j] (List.getElem_mem hj)).partsR hR⟩
/-- the drives, when records are put again -/
def replayσ (S : RS) (σ : Nat → Option Drv) (hs : List Hd) : Nat → Option Drv := hs.foldl (fun σ h => putσ S h.row σ h.ps) σ
/-- as FineM, of a drive that is off no more than so many -/
def FineJ (σ : Nat → Option Drv) (ds : List (Option Nat)) (k m j : Nat) : Prop := ∀ g, some g ∈ ds → ∃ D, σ g = some D ∧ D.wf ∧ D.lim = none ∧ k ≤ D.n ∧ D.pl j ∧ (D.dead = true → D.pl m)
theorem FineM.j {σ : Nat → Option Drv} {ds : List (Option Nat)} {k m : Nat} (h : FineM σ ds k m) : FineJ σ ds k m m := fun g hg => by
  obtain ⟨D, h1, h2, h3, h4, h5⟩ := h g hg
  exact ⟨D, h1, h2, h3, h4, h5, fun _ => h5⟩
theorem FineJ.put {S : RS} {row : Nat} {σ : Nat → Option Drv} {m j : Nat} (h : FineJ σ S.ds S.need m j) {p : Prt} (hp : p.fits S.n S.k) (hr : row < S.r) : FineJ (putS S row σ p) S.ds S.need m (j + 1) := by
  obtain ⟨p1, p2, p3, p4, p5⟩ := hp
  have hls := lsec_need (S := S) (row := row) (off := p.off.toNat) hr (by omega)
  intro g hg
  obtain ⟨D, h1, h2, h3, h4, h5, h9⟩ := h g hg
  unfold putS stepD
  cases hq : S.ds.getD p.col.toNat none with
  | none => exact ⟨D, h1, h2, h3, h4, h5.mono (by omega), h9⟩
  | some q =>
    cases hD : σ q with
    | none => exact ⟨D, by simp only [hD]; exact h1, h2, h3, h4, h5.mono (by omega), h9⟩
    | some E =>
      simp only [hD]
      cases hdd : E.dead with
      | true => exact ⟨D, by simpa using h1, h2, h3, h4, h5.mono (by omega), h9⟩
      | false =>
        rw [if_neg (by simp)]
        by_cases e : g = q
        · subst e
          rw [h1] at hD
          cases hD
          have hu : D.up := ⟨h2, hdd, h3⟩
          obtain ⟨a1, a2⟩ := hu.wrOK (i := (lsec S.k row p.off.toNat : Int)) (s := p.data) (by omega) (by omega) p5
          refine ⟨putD S row p D, upd_same _ _ _, a1.1, a1.2.2, by unfold putD; rw [a2]; exact h4, ?_, fun e => by have h8 : (putD S row p D).dead = false := a1.2.1; rw [h8] at e; cases e⟩
          have h6 := h5.wr (lsec S.k row p.off.toNat : Int) p.data
          rw [hu.wr (by omega) (by omega) p5] at h6
          exact h6
        · exact ⟨D, by rw [upd_other _ _ e]; exact h1, h2, h3, h4, h5.mono (by omega), h9⟩
theorem FineJ.puts {S : RS} {row : Nat} (hr : row < S.r) : ∀ (ps : List Prt) {σ : Nat → Option Drv} {m j : Nat}, FineJ σ S.ds S.need m j → (∀ p ∈ ps, p.fits S.n S.k) → FineJ (ps.foldl (putS S row) σ) S.ds S.need m (j + ps.length)
  | [], _, _, _, h, _ => h
  | p :: ps, _, m, j, h, hp => by
    have h1 := FineJ.puts hr ps (h.put (hp p (by simp)) hr) (fun q hq => hp q (by simp [hq]))
    rw [List.length_cons, Nat.add_comm ps.length 1, ← Nat.add_assoc]
    exact h1
theorem FineJ.flush1 {σ : Nat → Option Drv} {ds : List (Option Nat)} {k m j : Nat} (h : FineJ σ ds k m j) (p : Option Nat) (x : Nat) (hx : some x ∈ ds) (hb : p = some x ∨ ∃ D, σ x = some D ∧ D.pl m) : FineJ (stepD Drv.flOK σ p) ds k m j ∧ ∃ D, stepD Drv.flOK σ p x = some D ∧ D.pl m := by
  cases p with
  | none =>
    rcases hb with hb | hb
    · cases hb
    · exact ⟨h, hb⟩
  | some q =>
    unfold stepD
    cases hD : σ q with
    | none =>
      simp only [hD]
      refine ⟨h, ?_⟩
      rcases hb with hb | hb
      · obtain rfl : q = x := by injection hb
        obtain ⟨D, h1, _⟩ := h q hx
        rw [h1] at hD; cases hD
      · exact hb
    | some E =>
      simp only [hD]
      cases hdd : E.dead with
      | true =>
        rw [if_pos rfl]
        refine ⟨h, ?_⟩
        rcases hb with hb | hb
        · obtain rfl : q = x := by injection hb
          obtain ⟨D, h1, _, _, _, _, h9⟩ := h q hx
          obtain rfl : E = D := by rw [h1] at hD; injection hD with e; exact e.symm
          exact ⟨E, h1, h9 hdd⟩
        · exact hb
      | false =>
        rw [if_neg (by simp)]
        constructor
        · intro g hg
          obtain ⟨D, h1, h2, h3, h4, h5, h9⟩ := h g hg
          by_cases e : g = q
          · subst e
            obtain rfl : E = D := by rw [h1] at hD; injection hD with e; exact e.symm
            have hu : E.up := ⟨h2, hdd, h3⟩
            obtain ⟨a1, a2⟩ := hu.flOK
            exact ⟨E.flOK, upd_same _ _ _, a1.1, a1.2.2, by rw [a2]; exact h4, (Drv.flOK_pl _).mono (by omega), fun _ => (Drv.flOK_pl _).mono (by omega)⟩
          · exact ⟨D, by rw [upd_other _ _ e]; exact h1, h2, h3, h4, h5, h9⟩
        · by_cases e : x = q
          · subst e
            exact ⟨E.flOK, upd_same _ _ _, (Drv.flOK_pl _).mono (by omega)⟩
          · rcases hb with hb | ⟨D, h1, h2⟩
            · cases hb; exact absurd rfl e
            · exact ⟨D, by rw [upd_other _ _ e]; exact h1, h2⟩
theorem FineJ.flushes {ds : List (Option Nat)} {k m j x : Nat} (hx : some x ∈ ds) : ∀ (l : List (Option Nat)) {σ : Nat → Option Drv}, FineJ σ ds k m j → (some x ∈ l ∨ ∃ D, σ x = some D ∧ D.pl m) → FineJ (l.foldl (stepD Drv.flOK) σ) ds k m j ∧ ∃ D, l.foldl (stepD Drv.flOK) σ x = some D ∧ D.pl m
  | [], σ, h, hb => by
    rcases hb with hb | hb
    · cases hb
    · exact ⟨h, hb⟩
  | p :: l, σ, h, hb => by
    by_cases e : p = some x ∨ ∃ D, σ x = some D ∧ D.pl m
    · obtain ⟨a1, a2⟩ := h.flush1 p x hx e
      exact FineJ.flushes hx l a1 (Or.inr a2)
    · have hl : some x ∈ l := by
        rcases hb with hb | hb
        · rcases List.mem_cons.1 hb with hb | hb
          · exact absurd (Or.inl hb.symm) e
          · exact hb
        · exact absurd (Or.inr hb) e
      have h1 : FineJ (stepD Drv.flOK σ p) ds k m j := by
        intro g hg
        have h2 := (show FineJ (stepD Drv.flOK σ p) ds k m j from ?_) g hg
        · exact h2
        · cases p with
          | none => exact h
          | some q =>
            by_cases hq : some q ∈ ds
            · exact (h.flush1 (some q) q hq (Or.inl rfl)).1
            · intro g' hg'
              obtain ⟨D, h3⟩ := h g' hg'
              refine ⟨D, ?_, h3.2⟩
              rw [← h3.1]
              have hne : g' ≠ q := fun e2 => hq (e2 ▸ hg')
              unfold stepD
              cases hD : σ q with
              | none => simp only [hD]
              | some E =>
                simp only [hD]
                split
                · rfl
                · exact upd_other _ _ hne
      exact FineJ.flushes hx l h1 (Or.inl hl)
theorem FineM.putσ {S : RS} {row : Nat} {σ : Nat → Option Drv} {m : Nat} (h : FineM σ S.ds S.need m) {ps : List Prt} (hp : ∀ p ∈ ps, p.fits S.n S.k) (hr : row < S.r) : FineM (putσ S row σ ps) S.ds S.need m := by
  intro g hg
  obtain ⟨h1, D, h2, h3⟩ := FineJ.flushes hg S.ds (FineJ.puts hr ps h.j hp) (Or.inl hg)
  obtain ⟨E, k1, k2, k3, k4, _⟩ := h1 g hg
  rw [h2] at k1
  cases k1
  exact ⟨D, h2, k2, k3, k4, h3⟩
end Go.Proofs.YtmhmdoobadckkaaGreatDoor
/- stripe.byPlace, where there is one change. -/
namespace Go.Proofs.YtmhmdoobadckkaaGreatDoor
set_option maxRecDepth 20000
open Go.RowKit Go.OpenShut

theorem lookup_ints2 {P : Program} {T K E : TypeId} (hT : P.underlying T = some (.map K E)) (hK : P.underlying K = some (.int .i64)) {z : Value} (hz : ∀ w, (zeroValue E).run P w = .ok z w) {w : World} {r : Nat} {l : List (Int × Value)} (h : MapB w r l) (x : Int) :
    (Instr.lookup T (.map (some r)) (.int .i64 x) true).run P w = .ok (.tuple #[(mfind l x).getD z, .bool (mfind l x).isSome]) w := by
  obtain ⟨es, clock, hb, he, hst⟩ := h
  obtain ⟨o, h1, h2⟩ := findNow_ints .i64 x es.toList l 0 he
  have hck : (Instr.checkKey es.isEmpty 10000 K (.int .i64 x)).run P w = .ok () w := by
    unfold Instr.checkKey
    simp [underlying, hK, go_sem]
  have hf : (Instr.findKey K (.int .i64 x) es.toList).run P w = .ok o w := by
    unfold Instr.findKey
    simp [run_underlying hK, h1, Result.andThen]
  cases o with
  | none =>
    rw [← h2]
    simp [Instr.lookup, run_underlying hT, MapKept.run_getObj_map hb, hck, hf, hz, Result.andThen]
  | some y =>
    rw [← h2]
    simp [Instr.lookup, run_underlying hT, MapKept.run_getObj_map hb, hck, hf, Result.andThen]
theorem zero_mapS (w : World) : (zeroValue 103).run Tryz.prog w = .ok (.map none) w := by kernel_rfl
theorem zero_str (w : World) : (zeroValue 9).run Tryz.prog w = .ok (.string ⟨#[]⟩) w := by kernel_rfl
theorem MapB.below {w w' : World} {r : Nat} {l : List (Int × Value)} (h : MapB w r l) (hb : Below w.heap.size w w') : MapB w' r l := h.old (hb.block r h.lt)
theorem MapB.grown {w w' : World} {r : Nat} {l : List (Int × Value)} {q : Nat} (h : MapB w r l) (hg : w.grownBy w' (some q)) (hq : r ≠ q) : MapB w' r l := h.old (hg.block r h.lt (fun e => hq (by cases e; rfl)))
/-- what byPlace makes of one change -/
def OnePlace (w : World) (i off : Nat) (d : ByteArray) (e : Ending) (w' : World) : Prop :=
  ∃ r r2, e = .returned (.tuple #[.map (some r), .bool true]) ∧ w.heap.size ≤ r ∧ w.heap.size ≤ r2 ∧ r ≠ r2 ∧ MapB w' r [((off : Int), .map (some r2))] ∧ MapB w' r2 [((i : Int), .string d)] ∧ Below w.heap.size w w'
set_option maxRecDepth 100000 in
set_option maxHeartbeats 4000000 in
theorem byPlace_one (w : World) (σ : Nat → Option Drv) (R : Nat → Prop) (S : RS) (L : SL) (h : SetIn w σ R S L) (b o c : Nat) (i off : Nat) (d : ByteArray) (hc : PAt w b o 0 ⟨(i : Int), (off : Int), d⟩) (hi : i + 2 < S.n) (ho : off < S.k) (hd : d.size = 64) :
    Calls Tryz.prog 71 #[setV S L, .slice (some ⟨b, o, none⟩) 1 c] w (OnePlace w i off d) := by
  obtain ⟨q1, q2, q3⟩ := hc
  rw [Nat.zero_mul, Nat.add_zero] at q1 q2 q3
  have hbl := cellLt q1
  have hg := geo_bd h.ok.geo
  have HMY := Lib.hid (fun W (hb : Below w.heap.size w W) => may_row W σ R S L (h.below hb))
  have hmm := @run_makeMap Tryz.prog
  have hbo := fun W => (show Sem.run Tryz.prog (binOp BinOp.eql 103 (Value.map none) (Value.map none)) W = .ok (.bool true) W from by kernel_rfl)
  have hi1 : (i : Int) < (S.n : Int) - 2 := by omega
  have hi2 : decide ((S.n : Int) - 2 ≤ (i : Int)) = false := decide_eq_false (by omega)
  have hi3 : decide (S.k ≤ off) = false := decide_eq_false (by omega)
  have hi4 : decide ((i : Int) < 0) = false := decide_eq_false (by omega)
  have hi5 : decide ((off : Int) < 0) = false := decide_eq_false (by omega)
  have HQ1 := Lib.hid q1
  have HQ2 := Lib.hid q2
  have HQ3 := Lib.hid q3
  have HBL := Lib.hid hbl
  unfold setV setCs at *
  clear h hi ho q1 q2 q3 hbl
  go_enter Tryz.func71, Tryz.ntmps71
  go_wp2_with fail
  have hal := ((Below.refl w.heap.size w).alloc (Nat.le_refl _) (.cells #[.int .i64 (S.n : Int), .int .i64 (S.k : Int), .int .i64 (S.r : Int), .slice L.A S.n L.ca, .slice L.B S.n L.cb] 32)).alloc (by simp) (.map #[] 0)
  have hbx := (Blk.new w 32 #[.int .i64 (S.n : Int), .int .i64 (S.k : Int), .int .i64 (S.r : Int), .slice L.A S.n L.ca, .slice L.B S.n L.cb]).alloc (.map #[] 0)
  have hm0 := mapB_new (w := w.alloc (.cells #[.int .i64 (S.n : Int), .int .i64 (S.k : Int), .int .i64 (S.r : Int), .slice L.A S.n L.ca, .slice L.B S.n L.cb] 32)) (g := w.heap.size + 1) (by simp)
  refine (HMY.out _ hal).mono ?_
  rintro e w1 ⟨rfl, hb1⟩
  replace hbx := hbx.below hb1 hbx.lt
  replace hm0 := hm0.below hb1
  replace hal := hal.trans (hb1.mono hal.size)
  clear hb1
  have HAL := Lib.hid hal
  have HBX := Lib.hid hbx
  have HM0 := Lib.hid hm0
  clear hal hbx hm0
  go_wp2_with fail
  go_loopw [18] (fun x wr => (x = .int .i64 0 ∧ MapB wr (w.heap.size + 1) [] ∧ Blk wr w.heap.size 32 #[.int .i64 (S.n : Int), .int .i64 (S.k : Int), .int .i64 (S.r : Int), .slice L.A S.n L.ca, .slice L.B S.n L.cb] ∧ Below w.heap.size w wr) ∨ (x = .int .i64 1 ∧ ∃ r2, w.heap.size + 1 < r2 ∧ MapB wr (w.heap.size + 1) [((off : Int), .map (some r2))] ∧ MapB wr r2 [((i : Int), .string d)] ∧ Below w.heap.size w wr)) (fun x _ => 2 - (RowKit.intOf x).toNat)
  case atStart => exact Or.inl ⟨rfl, HM0.out, HBX.out, HAL.out⟩
  case round =>
    rcases hrel with ⟨rfl, hm, hbx, hb⟩ | ⟨rfl, r2, hr2, hm, hm2, hb⟩
    · have c1 := (hb.cell HBL.out).trans HQ1.out
      have c2 := (hb.cell HBL.out).trans HQ2.out
      have c3 := (hb.cell HBL.out).trans HQ3.out
      have hbxl := hbx.lt
      have hq := (hbx.alloc (.cells #[.int .i64 (i : Int), .int .i64 (off : Int), .string d] 44)).cell
      have hlk : (Instr.lookup 131 (.map (some (w.heap.size + 1))) (.int .i64 (off : Int)) false).run Tryz.prog (wr.alloc (.cells #[.int .i64 (i : Int), .int .i64 (off : Int), .string d] 44)) = .ok (.map none) (wr.alloc (.cells #[.int .i64 (i : Int), .int .i64 (off : Int), .string d] 44)) := lookup_ints (P := Tryz.prog) Tryz.underlying131 Tryz.underlying3 zero_mapS (hm.alloc (.cells #[.int .i64 (i : Int), .int .i64 (off : Int), .string d] 44)) (off : Int)
      have hm1 := (hm.alloc (.cells #[.int .i64 (i : Int), .int .i64 (off : Int), .string d] 44)).alloc (.map #[] 0)
      have hm2 := mapB_new (w := wr.alloc (.cells #[.int .i64 (i : Int), .int .i64 (off : Int), .string d] 44)) (g := wr.heap.size + 1) (by simp)
      have hch := (Blk.new wr 44 #[.int .i64 (i : Int), .int .i64 (off : Int), .string d]).alloc (.map #[] 0)
      have hb2 := (hb.alloc hb.size (.cells #[.int .i64 (i : Int), .int .i64 (off : Int), .string d] 44)).alloc (by have := hb.size; simp; omega) (.map #[] 0)
      have hsz := hb.size
      have hml := hm.lt
      clear hm hbx hb
      go_wp2_with (at_mapUpdate; first | (refine wp_updateI rfl (.tmp 59) (.tmp 61) (.tmp 62) 131 rfl _ _ Tryz.underlying131 Tryz.underlying3 (w.heap.size + 1) [] rfl hm1 (off : Int) (.map (some (wr.heap.size + 1))) rfl rfl ?_; intro w4 hm4 hg4; have hch4 := hch.grown hg4 (fun e => by simp at e; omega); have hc4 := hch4.cell; have hm24 := hm2.grown hg4 (by omega); have hl4 : (Instr.lookup 131 (.map (some (w.heap.size + 1))) (.int .i64 (off : Int)) false).run Tryz.prog w4 = .ok (.map (some (wr.heap.size + 1))) w4 := (lookup_ints (P := Tryz.prog) Tryz.underlying131 Tryz.underlying3 zero_mapS hm4 (off : Int)).trans (by simp [mset, mfind]); have hl5 : (Instr.lookup 103 (.map (some (wr.heap.size + 1))) (.int .i64 (i : Int)) true).run Tryz.prog w4 = .ok (.tuple #[.string ⟨#[]⟩, .bool false]) w4 := lookup_ints2 (P := Tryz.prog) Tryz.underlying103 Tryz.underlying3 zero_str hm24 (i : Int)) | (refine wp_updateI rfl (.tmp 78) (.tmp 80) (.tmp 82) 103 rfl _ _ Tryz.underlying103 Tryz.underlying3 (wr.heap.size + 1) [] rfl hm24 (i : Int) (.string d) rfl rfl ?_; intro w5 hm5 hg5))
      go_roundw
      case rel =>
        exact Or.inr ⟨by go_num, wr.heap.size + 1, by omega, (hm4.grown hg5 (by omega)), hm5, hb2.trans (((Below.refl _ _).grown hg4 (by simp; omega) (fun j hj => by cases hj; simp)).trans ((Below.refl _ _).grown hg5 (by have := hg4.size; simp at this; omega) (fun j hj => by cases hj; omega)))⟩
      case measure => simp [RowKit.intOf]
    · clear HAL HBX HM0 hbo
      go_wp2_with fail
      go_ret2
      exact ⟨w.heap.size + 1, r2, rfl, by omega, by omega, by omega, hm, hm2, hb⟩
end Go.Proofs.YtmhmdoobadckkaaGreatDoor
/- A range over a map with one entry. -/
namespace Go.Proofs.YtmhmdoobadckkaaGreatDoor
set_option maxRecDepth 20000
open Go.RowKit Go.OpenShut

/-- an iterator over a map with one entry, ahead of it or behind it -/
def ItAt (w : World) (r it : Nat) (k : Int) (v : Value) (seen : Bool) : Prop :=
  ∃ (e : MapEntry) (clock : Nat), w.heap[r]? = some (.map #[e] clock) ∧ e.key = .int .i64 k ∧ e.val = v ∧ e.born < clock ∧ w.heap[it]? = some (.mapIter (some r) clock (if seen then #[e.born] else #[]) clock)
theorem MapB.one {w : World} {r : Nat} {k : Int} {v : Value} (h : MapB w r [(k, v)]) : ∃ (e : MapEntry) (clock : Nat), w.heap[r]? = some (.map #[e] clock) ∧ e.key = .int .i64 k ∧ e.val = v ∧ e.born < clock := by
  obtain ⟨es, clock, hb, he, hst⟩ := h
  obtain ⟨l⟩ := es
  cases l with
  | nil => simp at he
  | cons e l =>
    cases l with
    | cons _ _ => simp at he
    | nil =>
      simp only [List.map_cons, List.map_nil, List.cons.injEq, Prod.mk.injEq, and_true] at he
      exact ⟨e, clock, hb, he.1, he.2, hst.1 e (by simp)⟩
theorem range_one {P : Program} {T K E : TypeId} (hT : P.underlying T = some (.map K E)) {w : World} {r : Nat} {k : Int} {v : Value} (h : MapB w r [(k, v)]) :
    ∃ o, (Instr.range T (.map (some r))).run P w = .ok (.pointer (some ⟨w.heap.size, 0, none⟩)) (w.alloc o) ∧ ItAt (w.alloc o) r w.heap.size k v false ∧ MapB (w.alloc o) r [(k, v)] := by
  obtain ⟨e, clock, hb, h1, h2, h3⟩ := h.one
  exact ⟨_, run_range_map w T K E r #[e] clock hT hb, ⟨e, clock, (Below.heap_alloc w _ r h.lt).trans hb, h1, h2, h3, heap_alloc_new w _⟩, h.alloc _⟩
theorem next_first {P : Program} {w : World} {r it : Nat} {k : Int} {v : Value} (h : ItAt w r it k v false) :
    ∃ w', (∀ ty, (Instr.next (.pointer (some ⟨it, 0, none⟩)) false ty).run P w = .ok (.tuple #[.bool true, .int .i64 k, v]) w') ∧ ItAt w' r it k v true ∧ w.grownBy w' (some it) := by
  obtain ⟨e, clock, hb, h1, h2, h3, hr⟩ := h
  have hr' : w.heap[it]? = some (.mapIter (some r) clock #[] clock) := hr
  have hne : it ≠ r := fun e1 => by rw [e1] at hr'; rw [hr'] at hb; cases hb
  have hlt : it < w.heap.size := (Array.getElem?_eq_some_iff.1 hr').1
  have h4 : ¬ clock ≤ e.born := by omega
  refine ⟨{ w with heap := w.heap.setIfInBounds it (.mapIter (some r) clock #[e.born] clock) }, fun ty => ?_, ⟨e, clock, ?_, h1, h2, h3, ?_⟩, rfl, rfl, rfl, by simp, fun i _ hi => ?_⟩
  · simp [Instr.next, getObj, Sem.run, hr', hb, Result.andThen, choose, Question.forced, h3, h4, h1, h2, setObj]
  · show (w.heap.setIfInBounds it _)[r]? = _
    rw [Array.getElem?_setIfInBounds, if_neg hne]
    exact hb
  · show (w.heap.setIfInBounds it _)[it]? = _
    simp [hlt]
  · have : it ≠ i := fun e => hi (by rw [e])
    simp [this]
/-- how often it may still be asked -/
def itM (w : World) (it : Nat) : Nat := match w.heap[it]? with | some (.mapIter _ _ s _) => 1 - s.size | _ => 0
theorem ItAt.m {w : World} {r it : Nat} {k : Int} {v : Value} {s : Bool} (h : ItAt w r it k v s) : itM w it = if s then 0 else 1 := by
  obtain ⟨e, clock, _, _, _, _, hr⟩ := h
  unfold itM
  rw [hr]
  cases s <;> rfl
theorem next_last {P : Program} {w : World} {r it : Nat} {k : Int} {v : Value} (h : ItAt w r it k v true) (ty : TypeId) :
    (Instr.next (.pointer (some ⟨it, 0, none⟩)) false ty).run P w = .ok (.tuple #[.bool false]) w := by
  obtain ⟨e, clock, hb, h1, h2, h3, hr⟩ := h
  have hr' : w.heap[it]? = some (.mapIter (some r) clock #[e.born] clock) := hr
  have h4 : ¬ clock ≤ e.born := by omega
  simp [Instr.next, getObj, Sem.run, hr', hb, Result.andThen, choose, Question.forced, h3, h4, setObj]
theorem entry_one {P : Program} {w : World} {r it : Nat} {k : Int} {v : Value} (h : ItAt w r it k v true) :
    (Instr.entry (.pointer (some ⟨it, 0, none⟩))).run P w = .ok (.tuple #[.int .i64 k, v]) w := by
  obtain ⟨e, clock, hb, h1, h2, h3, hr⟩ := h
  have hr' : w.heap[it]? = some (.mapIter (some r) clock #[e.born] clock) := hr
  simp [Instr.entry, getObj, Sem.run, hr', hb, Result.andThen, h1, h2]
theorem ItAt.old {w w' : World} {r it : Nat} {k : Int} {v : Value} {s : Bool} (h : ItAt w r it k v s) (h1 : w'.heap[r]? = w.heap[r]?) (h2 : w'.heap[it]? = w.heap[it]?) : ItAt w' r it k v s := by
  obtain ⟨e, clock, hb, k1, k2, k3, hr⟩ := h
  exact ⟨e, clock, h1.trans hb, k1, k2, k3, h2.trans hr⟩
theorem ItAt.lt {w : World} {r it : Nat} {k : Int} {v : Value} {s : Bool} (h : ItAt w r it k v s) : r < w.heap.size ∧ it < w.heap.size := by
  obtain ⟨e, clock, hb, k1, k2, k3, hr⟩ := h
  exact ⟨(Array.getElem?_eq_some_iff.1 hb).1, (Array.getElem?_eq_some_iff.1 hr).1⟩
end Go.Proofs.YtmhmdoobadckkaaGreatDoor
/- stripe.roles. -/
namespace Go.Proofs.YtmhmdoobadckkaaGreatDoor
set_option maxRecDepth 20000
open Go.RowKit Go.OpenShut

/-- the columns of a row's roles, as far as they are told -/
def roleS (n row c : Nat) : List Int := (List.range n).map fun r => if lcol n row r < c then (lcol n row r : Int) else 0
theorem roleS_len (n row c : Nat) : (roleS n row c).length = n := by simp [roleS]
theorem roleS_zero (n row : Nat) : roleS n row 0 = List.replicate n 0 := by
  apply List.ext_getElem (by simp [roleS])
  intro i h1 h2
  simp [roleS]
theorem roleS_step {n : Nat} (row : Nat) {c : Nat} (h : c < n) : (roleS n row c).set (lrole n row c) (c : Int) = roleS n row (c + 1) := by
  apply List.ext_getElem (by simp [roleS])
  intro i h1 h2
  have hi : i < n := by simpa [roleS] using h2
  have h0 : 0 < n := by omega
  rw [List.getElem_set]
  by_cases e : lrole n row c = i
  · rw [if_pos e]
    subst e
    simp [roleS, lcol_lrole h0 h]
  · rw [if_neg e]
    have hne : lcol n row i ≠ c := fun e2 => e (by rw [← e2, lrole_lcol h0 hi])
    simp only [roleS, List.getElem_map, List.getElem_range]
    by_cases h3 : lcol n row i < c
    · rw [if_pos h3, if_pos (by omega)]
    · rw [if_neg h3, if_neg (by omega)]
theorem roleS_all (n row : Nat) : roleS n row n = (rolesL n row).map fun x : Nat => (x : Int) := by
  apply List.ext_getElem (by simp [roleS, rolesL])
  intro i h1 h2
  have hi : i < n := by simpa [roleS] using h1
  simp [roleS, rolesL, lcol_lt row i (show 0 < n by omega)]
def intA (l : List Int) : Array Value := (l.map (Value.int .i64)).toArray
theorem intA_set (l : List Int) (i : Nat) (x : Int) : (intA l).setIfInBounds i (.int .i64 x) = intA (l.set i x) := by
  unfold intA
  rw [List.setIfInBounds_toArray, List.map_set]
/-- numbers in a new block -/
def MadeA (w : World) (l : List Int) (e : Ending) (w' : World) : Prop := ∃ b, e = .returned (.slice (some ⟨b, 0, none⟩) l.length l.length) ∧ w.heap.size ≤ b ∧ Blk w' b 3 (intA l) ∧ Below w.heap.size w w'
theorem made_ints (n : Nat) : madeCells (Value.int IntKind.i64 0).cells n = intA (List.replicate n 0) := by
  apply Array.toList_inj.1
  rw [show (Value.int IntKind.i64 0).cells = #[.int .i64 0] from rfl, toList_madeCells_one]
  simp [intA]
set_option maxRecDepth 100000 in
set_option maxHeartbeats 2000000 in
theorem roles_any (w : World) (n k r : Nat) (hg : geoOK n k r = true) (row : Nat) (hr : row < r) :
    Calls Tryz.prog 72 #[gV n k r, .int .i64 (row : Int)] w (MadeA w ((rolesL n row).map fun x : Nat => (x : Int))) := by
  obtain ⟨hn1, hn2, hk1, hk2, hr1, hr2⟩ := geo_bd hg
  have HRO := Lib.hid (fun W c (hc : c < n) => role_any W n k r hg row c hr hc)
  have HST := Lib.hid (fun c (hc : c < n) => roleS_step row hc)
  have HLT := Lib.hid (fun c => lrole_lt (n := n) (row := row) (c := c) (by omega))
  have hb0 := (Below.refl w.heap.size w).alloc (Nat.le_refl _) (.cells #[.int .i64 (n : Int), .int .i64 (k : Int), .int .i64 (r : Int)] 26)
  have hbx := Blk.new w 26 #[.int .i64 (n : Int), .int .i64 (k : Int), .int .i64 (r : Int)]
  generalize hW : w.alloc (.cells #[.int .i64 (n : Int), .int .i64 (k : Int), .int .i64 (r : Int)] 26) = w0 at *
  have hsz : w0.heap.size = w.heap.size + 1 := by rw [← hW]; simp
  obtain ⟨i0, hi, hz0, hz1, hz2⟩ := info_parts info_int
  have hmk := run_make (P := Tryz.prog) w0 30 3 i0 _ Tryz.underlying30 hi hz0 .i64 .i64 (n : Int) (n : Int) (by omega) (by omega) (by rw [hz2]; omega) (by omega)
  rw [hz1, Nat.mul_one, Int.toNat_natCast, made_ints n, ← roleS_zero n row] at hmk
  have hb1 := hb0.alloc (by omega) (.cells (intA (roleS n row 0)) 3)
  have hbk := Blk.new w0 3 (intA (roleS n row 0))
  have hbx1 := hbx.alloc (.cells (intA (roleS n row 0)) 3)
  rw [hsz] at hmk hbk
  have hq := hbx.cell
  unfold gV at *
  clear hb0 hbx hg hsz
  go_enter Tryz.func72, Tryz.ntmps72
  go_wp2_with fail
  go_loopw [12] (fun x wr => ∃ c : Nat, c ≤ n ∧ x = .int .i64 c ∧ Blk wr w.heap.size 26 #[.int .i64 (n : Int), .int .i64 (k : Int), .int .i64 (r : Int)] ∧ Blk wr (w.heap.size + 1) 3 (intA (roleS n row c)) ∧ Below w.heap.size w wr) (fun x _ => n - (RowKit.intOf x).toNat)
  case atStart => exact ⟨0, by omega, rfl, hbx1, hbk, hb1⟩
  case round =>
    obtain ⟨c, hc, rfl, hb, hk, hbe⟩ := hrel
    by_cases hlt : c < n
    · have hq3 := hb.cell
      have HR := Lib.hid (HRO.out wr c hlt)
      have h1 := HLT.out c
      have HS := Lib.hid (HST.out c hlt)
      clear hbx1 hbk hb1 hq hmk hW
      generalize lrole n row c = q at *
      go_wp2_with fail
      refine HR.out.mono ?_
      rintro e w1 ⟨rfl, hb1⟩
      have hk1 := hk.below hb1 hk.lt
      have hbx1 := hb.below hb1 hb.lt
      have hbe1 := hbe.trans (hb1.mono hbe.size)
      have hfz := hk1.frozen q
      have hcell : w1.cell? ⟨w.heap.size + 1, q, none⟩ = some ((intA (roleS n row c))[q]'(by simp [intA, roleS_len]; exact h1)) := by rw [hk1.cell]; simp [intA, roleS_len, h1]
      clear hb1
      go_wp2_with fail
      go_roundw
      case rel =>
        refine ⟨c + 1, by omega, by go_num, hbx1.far (by simp) _, ?_, hbe1.setCell (by simp) _⟩
        have h9 := hk1.set_ q (.int .i64 (c : Int))
        rw [intA_set, HS.out] at h9
        exact h9
      case measure => simp [RowKit.intOf]; omega
    · obtain rfl : c = n := by omega
      clear hbx1 hbk hb1 hq hmk hW
      go_wp2_with fail
      go_ret
      rw [roleS_all] at hk
      have hl : ((rolesL c row).map fun x : Nat => (x : Int)).length = c := by simp [rolesL]
      refine ⟨w.heap.size + 1, ?_, by omega, hk, hbe⟩
      rw [hl]; rfl
end Go.Proofs.YtmhmdoobadckkaaGreatDoor
/- texts that are added: what that comes to. -/
namespace Go.Proofs.YtmhmdoobadckkaaGreatDoor
set_option maxRecDepth 20000
open Go.RowKit Go.OpenShut

def xorL (s t : List UInt8) : List UInt8 := (List.range (max s.length t.length)).map fun i => s.getD i 0 ^^^ t.getD i 0
def xorP (s t : List UInt8) (k : Nat) : List UInt8 := (List.range k).map fun i => s.getD i 0 ^^^ t.getD i 0
theorem xorP_length (s t : List UInt8) (k : Nat) : (xorP s t k).length = k := by simp [xorP]
theorem xorP_snoc (s t : List UInt8) (k : Nat) : xorP s t (k + 1) = xorP s t k ++ [s.getD k 0 ^^^ t.getD k 0] := by simp [xorP, List.range_succ]
theorem xorL_length (s t : List UInt8) : (xorL s t).length = max s.length t.length := by simp [xorL]

theorem xor_u8 (a b : UInt8) : bits BinOp.xor IntKind.u8 (a.toNat : Int) (b.toNat : Int) = ((a ^^^ b).toNat : Int) := by
  rw [u8_xor_nat _ _ a.toNat_lt b.toNat_lt]
  simp

theorem xor_u8_zero (b : UInt8) : bits BinOp.xor IntKind.u8 0 (b.toNat : Int) = (b.toNat : Int) := by
  have h := u8_xor_nat 0 b.toNat (by omega) b.toNat_lt
  rw [Nat.zero_xor] at h
  exact h
theorem data_getD (s : ByteArray) (k : Nat) (h : k < s.size) : s.data.toList.getD k 0 = s[k] := by
  simp [List.getD, h]; rfl
theorem data_getD_out (s : ByteArray) (k : Nat) (h : s.size ≤ k) : s.data.toList.getD k 0 = 0 := by
  simp [List.getD, List.getElem?_eq_none (show s.data.toList.length ≤ k by simpa using h)]
theorem cell_new (w : World) (v : Value) (t : TypeId) : (w.alloc (.cells #[v] t)).cell? ⟨w.heap.size, 0, none⟩ = some v := (Blk.new w t #[v]).cell 0
theorem own_base {w : World} {base : Nat} {v : Value} {l : List UInt8} (h : OwnB w base v l) : ∀ k, v.ownBlock = some k → base ≤ k := fun k hk => (World.ownsRow.lt h k hk).1

end Go.Proofs.YtmhmdoobadckkaaGreatDoor
/- gf.Xor. -/
namespace Go.Proofs.YtmhmdoobadckkaaGreatDoor
set_option maxRecDepth 20000
open Go.RowKit Go.OpenShut

def xorK (a b : List UInt8) (k : Nat) : List UInt8 := (List.range a.length).map fun i => if i < k then a.getD i 0 ^^^ b.getD i 0 else a.getD i 0
theorem xorK_len (a b : List UInt8) (k : Nat) : (xorK a b k).length = a.length := by simp [xorK]
theorem xorK_zero (a b : List UInt8) : xorK a b 0 = a := by
  apply List.ext_getElem
  · simp [xorK]
  · intro i h1 h2
    simp [xorK, List.getD, h2]
theorem xorK_get (a b : List UInt8) (k i : Nat) (h : i < a.length) : (xorK a b k)[i]'(by rw [xorK_len]; exact h) = if i < k then a.getD i 0 ^^^ b.getD i 0 else a.getD i 0 := by simp [xorK]
theorem xorK_set (a b : List UInt8) (k : Nat) : (xorK a b k).set k (a.getD k 0 ^^^ b.getD k 0) = xorK a b (k + 1) := by
  apply List.ext_getElem
  · simp [xorK]
  · intro i h1 h2
    rw [xorK_len] at h2
    rw [xorK_get _ _ _ _ h2, List.getElem_set]
    by_cases e : k = i
    · subst e
      rw [if_pos rfl, if_pos (by omega)]
    · rw [if_neg e, xorK_get _ _ _ _ h2]
      by_cases h : i < k
      · rw [if_pos h, if_pos (by omega)]
      · rw [if_neg h, if_neg (by omega)]
theorem xorK_all (a b : List UInt8) (h : b.length ≤ a.length) : xorK a b b.length = xorL a b := by
  unfold xorK xorL
  rw [Nat.max_eq_left h]
  refine List.map_congr_left fun i _ => ?_
  split
  · rfl
  · rename_i hi
    have : b.getD i 0 = 0 := by simp [List.getD, List.getElem?_eq_none (show b.length ≤ i by omega)]
    rw [this]
    simp
theorem xorL_comm (a b : List UInt8) : xorL a b = xorL b a := by
  unfold xorL
  rw [Nat.max_comm]
  refine List.map_congr_left fun i _ => UInt8.xor_comm _ _

set_option maxRecDepth 100000 in
set_option maxHeartbeats 2000000 in
theorem xor_core (w : World) (s t : ByteArray) (hs : s.size ≤ 4294967295) (hts : t.size ≤ s.size) (s0 t0 : ByteArray) (hcase : (s0 = s ∧ t0 = t) ∨ (s0 = t ∧ t0 = s ∧ t.size < s.size)) :
    Calls Tryz.prog 249 #[.string s0, .string t0] w fun e w' => e = .returned (.string ⟨(xorL s.data.toList t.data.toList).toArray⟩) ∧ Below w.heap.size w w' := by
  have hcs := fun W => Lib.run_convert_string_bytes (P := Tryz.prog) W 9 62 5 s Tryz.underlying9 Tryz.underlying62 Tryz.underlying5
  have hrow := BRow.of_string w s
  have hb := below_bytes w s
  have hls : s.data.toList.length = s.size := by simp
  have hlt : t.data.toList.length = t.size := by simp
  obtain ⟨X, hX⟩ : ∃ X, xorL s.data.toList t.data.toList = X := ⟨_, rfl⟩
  rw [hX]
  have hXk := xorK_all s.data.toList t.data.toList (by omega)
  rw [hlt, hX] at hXk
  have HX := Lib.hid hXk
  clear hX hXk
  rcases hcase with ⟨rfl, rfl⟩ | ⟨rfl, rfl, hlt⟩
  · have hn : ¬ s0.size < t0.size := by omega
    go_enter Tryz.func249, Tryz.ntmps249
    go_wp2_with fail
    generalize Lib.bytesWorld w 5 s0 = W at *
    generalize grownCap w s0.size 0 5 = gc at *
    clear hcs
    have hS0 : t0.data.toList.length = t0.size := by simp
    have hL0 : s0.data.toList.length = s0.size := by simp
    go_loopw [18] (fun i wr => ∃ k : Nat, k ≤ t0.size ∧ i = .int .i64 k ∧ BRow wr w.heap.size (xorK s0.data.toList t0.data.toList k) ∧ Below w.heap.size w wr) (fun i _ => t0.size - (intOf i).toNat)
    case atStart => exact ⟨0, by omega, rfl, by rw [xorK_zero]; exact hrow, hb⟩
    case round =>
      obtain ⟨k, hk, rfl, hr, hbe⟩ := hrel
      have hlen := xorK_len s0.data.toList t0.data.toList k
      clear hrow hb
      by_cases hlk : k < t0.size
      · have hkL : k < s0.data.toList.length := by omega
        have hc := hr.1 k (by omega)
        have hf := hr.2 k (by omega)
        rw [xorK_get _ _ _ _ hkL, if_neg (by omega)] at hc
        have hset := hr.set_ k (by omega) (s0.data.toList.getD k 0 ^^^ t0.data.toList.getD k 0)
        rw [xorK_set, data_getD t0 k hlk] at hset
        generalize s0.data.toList.getD k 0 = x at *
        have hx := xor_u8 x t0[k]
        obtain ⟨y, hy, hye⟩ : ∃ y : UInt8, bits BinOp.xor IntKind.u8 (x.toNat : Int) (t0[k].toNat : Int) = (y.toNat : Int) ∧ y = x ^^^ t0[k] := ⟨_, hx, rfl⟩
        rw [← hye] at hset
        unfold bc at hc
        have HS := Lib.hid hset
        clear hset hr hx hye hlen
        go_wp2_with fail
        refine wp_region_nf (fun V => V.cell? ⟨w.heap.size, k, none⟩ = some (.int .u8 (x.toNat : Int))) (fun j => j == 9) [(0, true), (1, true), (2, true), (3, true), (4, true), (5, true), (6, true), (7, true), (8, true), (9, false)] (by kernel_rfl) rfl (by kernel_rfl) (by kernel_rfl) (fun d _ _ _ _ h => by cases d <;> exact h) ?_
        have hSS : wr.drew.cell? ⟨w.heap.size, k, none⟩ = some (.int .u8 (x.toNat : Int)) := hc
        repeat (refine nf_pure rfl hSS (fun w1 g1 => by go_wp2; exact ⟨rfl, rfl, rfl⟩) rfl ?_ ?_; rfl)
        refine nf_imp rfl ?_
        go_wp2_with fail
        refine ⟨fun h => (by cases h), ?_⟩
        refine nf_nil ?_
        go_wp2_with fail
        go_roundw
        case rel => exact ⟨k + 1, by omega, by go_num, HS.out.drew, (hbe.setCell (Nat.le_refl _) _).drew⟩
        case measure => simp [intOf]; omega
      · obtain rfl : k = t0.size := by omega
        have hxk := HX.out
        rw [hxk] at hr hlen
        have hcv := fun c => hr.conv (n := s0.size) (c := c) (by omega)
        clear hr hlen
        go_wp2_with fail
        go_ret
        exact ⟨rfl, hbe⟩
  · go_enter Tryz.func249, Tryz.ntmps249
    go_wp2_with fail
    generalize Lib.bytesWorld w 5 t0 = W at *
    generalize grownCap w t0.size 0 5 = gc at *
    clear hcs
    have hS0 : s0.data.toList.length = s0.size := by simp
    have hL0 : t0.data.toList.length = t0.size := by simp
    go_loopw [18] (fun i wr => ∃ k : Nat, k ≤ s0.size ∧ i = .int .i64 k ∧ BRow wr w.heap.size (xorK t0.data.toList s0.data.toList k) ∧ Below w.heap.size w wr) (fun i _ => s0.size - (intOf i).toNat)
    case atStart => exact ⟨0, by omega, rfl, by rw [xorK_zero]; exact hrow, hb⟩
    case round =>
      obtain ⟨k, hk, rfl, hr, hbe⟩ := hrel
      have hlen := xorK_len t0.data.toList s0.data.toList k
      clear hrow hb
      by_cases hlk : k < s0.size
      · have hkL : k < t0.data.toList.length := by omega
        have hc := hr.1 k (by omega)
        have hf := hr.2 k (by omega)
        rw [xorK_get _ _ _ _ hkL, if_neg (by omega)] at hc
        have hset := hr.set_ k (by omega) (t0.data.toList.getD k 0 ^^^ s0.data.toList.getD k 0)
        rw [xorK_set, data_getD s0 k hlk] at hset
        generalize t0.data.toList.getD k 0 = x at *
        have hx := xor_u8 x s0[k]
        obtain ⟨y, hy, hye⟩ : ∃ y : UInt8, bits BinOp.xor IntKind.u8 (x.toNat : Int) (s0[k].toNat : Int) = (y.toNat : Int) ∧ y = x ^^^ s0[k] := ⟨_, hx, rfl⟩
        rw [← hye] at hset
        unfold bc at hc
        have HS := Lib.hid hset
        clear hset hr hx hye hlen
        go_wp2_with fail
        refine wp_region_nf (fun V => V.cell? ⟨w.heap.size, k, none⟩ = some (.int .u8 (x.toNat : Int))) (fun j => j == 9) [(0, true), (1, true), (2, true), (3, true), (4, true), (5, true), (6, true), (7, true), (8, true), (9, false)] (by kernel_rfl) rfl (by kernel_rfl) (by kernel_rfl) (fun d _ _ _ _ h => by cases d <;> exact h) ?_
        have hSS : wr.drew.cell? ⟨w.heap.size, k, none⟩ = some (.int .u8 (x.toNat : Int)) := hc
        repeat (refine nf_pure rfl hSS (fun w1 g1 => by go_wp2; exact ⟨rfl, rfl, rfl⟩) rfl ?_ ?_; rfl)
        refine nf_imp rfl ?_
        go_wp2_with fail
        refine ⟨fun h => (by cases h), ?_⟩
        refine nf_nil ?_
        go_wp2_with fail
        go_roundw
        case rel => exact ⟨k + 1, by omega, by go_num, HS.out.drew, (hbe.setCell (Nat.le_refl _) _).drew⟩
        case measure => simp [intOf]; omega
      · obtain rfl : k = s0.size := by omega
        have hxk := HX.out
        rw [hxk] at hr hlen
        have hcv := fun c => hr.conv (n := t0.size) (c := c) (by omega)
        clear hr hlen
        go_wp2_with fail
        go_ret
        exact ⟨rfl, hbe⟩

theorem xor_any (w : World) (s t : ByteArray) (hs : s.size ≤ 4294967295) (ht : t.size ≤ 4294967295) :
    Calls Tryz.prog 249 #[.string s, .string t] w fun e w' => e = .returned (.string ⟨(xorL s.data.toList t.data.toList).toArray⟩) ∧ Below w.heap.size w w' := by
  by_cases h : s.size < t.size
  · rw [xorL_comm]
    exact xor_core w t s ht (by omega) s t (.inr ⟨rfl, rfl, h⟩)
  · exact xor_core w s t hs (by omega) s t (.inl ⟨rfl, rfl⟩)
end Go.Proofs.YtmhmdoobadckkaaGreatDoor
/- syndrome: texts that are added. -/
namespace Go.Proofs.YtmhmdoobadckkaaGreatDoor
set_option maxRecDepth 20000
open Go.RowKit Go.OpenShut

def addL (xs : List ByteArray) : List UInt8 := xs.foldl (fun s x => xorL s x.data.toList) []
theorem addL_snoc (xs : List ByteArray) (x : ByteArray) : addL (xs ++ [x]) = xorL (addL xs) x.data.toList := by simp [addL]
theorem addL_len (M : Nat) : ∀ (xs : List ByteArray), (∀ x ∈ xs, x.size ≤ M) → (addL xs).length ≤ M := by
  intro xs
  unfold addL
  suffices h : ∀ (acc : List UInt8), acc.length ≤ M → (∀ x ∈ xs, x.size ≤ M) → (xs.foldl (fun s x => xorL s x.data.toList) acc).length ≤ M from h [] (by simp)
  induction xs with
  | nil => intro acc h _; exact h
  | cons a l ih =>
    intro acc h hx
    refine ih _ ?_ (fun x hm => hx x (by simp [hm]))
    rw [xorL_length]
    have h1 := hx a (by simp)
    have h2 : a.data.toList.length = a.size := by simp
    omega
theorem size_mk (l : List UInt8) : (ByteArray.mk l.toArray).size = l.length := by show Array.size _ = _; simp
theorem mk_list (l : List UInt8) : (ByteArray.mk l.toArray).data.toList = l := by simp

set_option maxHeartbeats 1000000 in
theorem added_any (w : World) (B : Nat) (A : Option Addr) (n c : Nat) (xs : List ByteArray) (h : StrsA w B A n xs) (hB : B ≤ w.heap.size) (hn : n ≤ 4294967295) (hx : ∀ x ∈ xs, x.size ≤ 4294967295) :
    Calls Tryz.prog 170 #[.slice A n c] w fun e w' => e = .returned (.string ⟨(addL xs).toArray⟩) ∧ Below w.heap.size w w' := by
  have HL := Lib.hid h.1
  have HX := Lib.hid hx
  have HM := Lib.hid (fun k => addL_len 4294967295 (xs.take k) (fun x hm => hx x (List.mem_of_mem_take hm)))
  clear hx
  go_enter Tryz.func170, Tryz.ntmps170
  go_wp2
  go_loopw [3, 8] (fun s i wr => ∃ k : Nat, k ≤ n ∧ i = .int .i64 k ∧ s = .string ⟨(addL (xs.take k)).toArray⟩ ∧ Below w.heap.size w wr) (fun _ i _ => n - (intOf i).toNat)
  case atStart => exact ⟨0, by omega, rfl, by simp [addL], Below.refl _ _⟩
  case round =>
    obtain ⟨k, hk, rfl, rfl, hb⟩ := hrel
    by_cases hlt : k < n
    · obtain ⟨b, off, rfl, hbB, hc⟩ := (h.below (hb.mono hB)).2 (by omega)
      have hck := hc k hlt
      have hmem : xs.getD k ⟨#[]⟩ ∈ xs := by
        have : k < xs.length := by rw [HL.out]; exact hlt
        simp [List.getD, this]
      have HN := Lib.hid (take_snocS xs k (by rw [HL.out]; exact hlt))
      have HXK := Lib.hid (HX.out _ hmem)
      generalize xs.getD k ⟨#[]⟩ = x at *
      have HMK := Lib.hid (HM.out k)
      generalize hacc : addL (xs.take k) = acc at *
      have HACC := Lib.hid hacc
      clear hacc hc hmem
      go_wp2_with fail
      refine (xor_any _ ⟨acc.toArray⟩ x (by rw [size_mk]; exact HMK.out) HXK.out).mono ?_
      rintro e w1 ⟨rfl, hb1⟩
      have hb2 := hb.trans (hb1.mono hb.size)
      clear hb1
      rw [mk_list]
      go_wp2_with fail
      go_roundw
      case rel => exact ⟨k + 1, by omega, by go_num, by rw [HN.out, addL_snoc, HACC.out], hb2⟩
      case measure => simp [intOf]; omega
    · obtain rfl : k = n := by omega
      go_wp2
      go_ret
      refine ⟨?_, hb⟩
      rw [List.take_of_length_le (by rw [HL.out]; exact Nat.le_refl _)]
      rfl
theorem P_any (w : World) (B : Nat) (A : Option Addr) (n c : Nat) (xs : List ByteArray) (h : StrsA w B A n xs) (hB : B ≤ w.heap.size) (hn : n ≤ 4294967295) (hx : ∀ x ∈ xs, x.size ≤ 4294967295) :
    Calls Tryz.prog 76 #[.slice A n c] w fun e w' => e = .returned (.string ⟨(addL xs).toArray⟩) ∧ Below w.heap.size w w' := by
  have H := Lib.hid (fun w' (hw : w = w') => hw ▸ added_any w B A n c xs h hB hn hx)
  clear h hx
  go_enter Tryz.func76, Tryz.ntmps76
  go_wp2_with fail
  refine (H.out _ rfl).mono ?_
  rintro e w1 ⟨rfl, hb⟩
  go_wp2_with fail
  go_ret
  exact ⟨rfl, hb⟩
end Go.Proofs.YtmhmdoobadckkaaGreatDoor
/- The field of 256 numbers, plain: xt is 'times two', pw its powers; the product by bits is the sum of exponents. -/
namespace Go.Proofs.YtmhmdoobadckkaaGreatDoor
set_option maxRecDepth 20000

def xt (a : Nat) : Nat := if a < 128 then 2 * a else (2 * a - 256) ^^^ 29
def xtn : Nat → Nat → Nat
  | 0, a => a
  | k + 1, a => xtn k (xt a)
def pw (i : Nat) : Nat := xtn i 1
/-- the product, bit by bit -/
def gmF : Nat → Nat → Nat → Nat
  | 0, _, _ => 0
  | k + 1, a, b => (if b % 2 = 1 then a else 0) ^^^ gmF k (xt a) (b / 2)
def gm (a b : Nat) : Nat := gmF 8 a b

def all2 (f : Nat → Nat → Bool) (n : Nat) : Bool := (List.range n).all fun a => (List.range n).all fun b => f a b
def all1 (f : Nat → Bool) (n : Nat) : Bool := (List.range n).all f
theorem all1_at {f : Nat → Bool} {n : Nat} (h : all1 f n = true) {a : Nat} (ha : a < n) : f a = true := List.all_eq_true.1 h a (List.mem_range.2 ha)

theorem xt_lt {a : Nat} (h : a < 256) : xt a < 256 := by
  have h1 : all1 (fun a => decide (xt a < 256)) 256 = true := by decide +kernel
  simpa using all1_at h1 h
theorem xt_ne {a : Nat} (h : a < 256) (h0 : a ≠ 0) : xt a ≠ 0 := by
  have h1 : all1 (fun a => a == 0 || xt a != 0) 256 = true := by decide +kernel
  have := all1_at h1 h
  simp [h0] at this
  exact this
theorem dbl_xor (a b : Nat) : 2 * (a ^^^ b) = (2 * a) ^^^ (2 * b) := by
  have h1 := Nat.shiftLeft_xor_distrib (a := a) (b := b) (i := 1)
  simp only [Nat.shiftLeft_eq, Nat.pow_one] at h1
  rw [Nat.mul_comm 2, Nat.mul_comm 2, Nat.mul_comm 2]
  exact h1
/-- without a test: the number twice, and 285 where its top bit is set -/
theorem xt_eq {a : Nat} (h : a < 256) : xt a = (2 * a) ^^^ (285 * (a / 128)) := by
  have h1 : all1 (fun a => xt a == (2 * a) ^^^ (285 * (a / 128))) 256 = true := by decide +kernel
  simpa using all1_at h1 h
theorem top_xor {a b : Nat} (ha : a < 256) (hb : b < 256) : 285 * ((a ^^^ b) / 128) = (285 * (a / 128)) ^^^ (285 * (b / 128)) := by
  have e : (a ^^^ b) / 128 = (a / 128) ^^^ (b / 128) := by
    have := Nat.shiftRight_xor_distrib (a := a) (b := b) (i := 7)
    simpa [Nat.shiftRight_eq_div_pow] using this
  have h1 : a / 128 = 0 ∨ a / 128 = 1 := by omega
  have h2 : b / 128 = 0 ∨ b / 128 = 1 := by omega
  rw [e]
  rcases h1 with h1 | h1 <;> rcases h2 with h2 | h2 <;> rw [h1, h2] <;> decide
theorem xor_lt {a b : Nat} (ha : a < 256) (hb : b < 256) : a ^^^ b < 256 := Nat.xor_lt_two_pow (n := 8) ha hb
theorem xor4 (a b c d : Nat) : (a ^^^ b) ^^^ (c ^^^ d) = (a ^^^ c) ^^^ (b ^^^ d) := by
  rw [Nat.xor_assoc, Nat.xor_assoc, ← Nat.xor_assoc b, Nat.xor_comm b c, Nat.xor_assoc c]
theorem xt_xor {a b : Nat} (ha : a < 256) (hb : b < 256) : xt (a ^^^ b) = xt a ^^^ xt b := by
  rw [xt_eq (xor_lt ha hb), xt_eq ha, xt_eq hb, dbl_xor, top_xor ha hb, xor4]
theorem xt_zero : xt 0 = 0 := rfl
theorem gmF_lt : ∀ (k a b : Nat), a < 256 → gmF k a b < 256
  | 0, _, _, _ => by show 0 < 256; omega
  | k + 1, a, b, h => by
    rw [gmF]
    refine xor_lt ?_ (gmF_lt k _ _ (xt_lt h))
    split <;> omega
theorem gmF_xt : ∀ (k a b : Nat), a < 256 → gmF k (xt a) b = xt (gmF k a b)
  | 0, _, _, _ => rfl
  | k + 1, a, b, h => by
    rw [gmF, gmF, gmF_xt k _ _ (xt_lt h), xt_xor (by split <;> omega) (gmF_lt k _ _ (xt_lt h))]
    congr 1
    split <;> rfl
theorem gmF_zero : ∀ (k a : Nat), gmF k a 0 = 0
  | 0, _ => rfl
  | k + 1, a => by
    rw [gmF, Nat.zero_div, gmF_zero k]
    simp
theorem gm_one_left {b : Nat} (h : b < 256) : gm 1 b = b := by
  have h1 : all1 (fun b => gm 1 b == b) 256 = true := by decide +kernel
  simpa using all1_at h1 h
theorem gmF_zero_left : ∀ (k b : Nat), gmF k 0 b = 0
  | 0, _ => rfl
  | k + 1, b => by
    rw [gmF, xt_zero, gmF_zero_left k]
    simp
theorem gm_zero_left (b : Nat) : gm 0 b = 0 := gmF_zero_left 8 b
theorem gm_zero_right (a : Nat) : gm a 0 = 0 := gmF_zero 8 a
theorem xtn_lt : ∀ (k a : Nat), a < 256 → xtn k a < 256
  | 0, _, h => h
  | k + 1, _, h => xtn_lt k _ (xt_lt h)
theorem xtn_ne : ∀ (k a : Nat), a < 256 → a ≠ 0 → xtn k a ≠ 0
  | 0, _, _, h0 => h0
  | k + 1, _, h, h0 => xtn_ne k _ (xt_lt h) (xt_ne h h0)
theorem xtn_add : ∀ (j k a : Nat), xtn (j + k) a = xtn k (xtn j a)
  | 0, k, a => by rw [Nat.zero_add]; rfl
  | j + 1, k, a => by rw [Nat.succ_add]; exact xtn_add j k (xt a)
theorem xtn_succ (k a : Nat) : xtn (k + 1) a = xt (xtn k a) := xtn_add k 1 a
theorem xtn_xor : ∀ (k a b : Nat), a < 256 → b < 256 → xtn k (a ^^^ b) = xtn k a ^^^ xtn k b
  | 0, _, _, _, _ => rfl
  | k + 1, a, b, ha, hb => by
    rw [xtn, xtn, xtn, xt_xor ha hb, xtn_xor k _ _ (xt_lt ha) (xt_lt hb)]
theorem gm_xtn : ∀ (k a b : Nat), a < 256 → gm (xtn k a) b = xtn k (gm a b)
  | 0, _, _, _ => rfl
  | k + 1, a, b, h => by
    rw [xtn, xtn, gm_xtn k _ _ (xt_lt h)]
    congr 1
    exact gmF_xt 8 a b h
theorem pw_lt (i : Nat) : pw i < 256 := xtn_lt i 1 (by omega)
theorem pw_ne (i : Nat) : pw i ≠ 0 := xtn_ne i 1 (by omega) (by omega)
theorem gm_pw (i : Nat) {b : Nat} (h : b < 256) : gm (pw i) b = xtn i b := by
  unfold pw
  rw [gm_xtn i 1 b (by omega), gm_one_left h]
theorem gm_pp (i j : Nat) : gm (pw i) (pw j) = pw (i + j) := by
  rw [gm_pw i (pw_lt j)]
  unfold pw
  rw [Nat.add_comm, xtn_add]
theorem pw_succ (i : Nat) : pw (i + 1) = xt (pw i) := xtn_succ i 1

/-! ### logarithms -/
def lgF : Nat → Nat → Nat → Nat → Nat
  | 0, i, _, _ => i
  | k + 1, i, x, a => if x = a then i else lgF k (i + 1) (xt x) a
def lg (a : Nat) : Nat := lgF 255 0 1 a
def lgAll : Bool := all1 (fun a => a == 0 || (decide (lg a < 255) && pw (lg a) == a)) 256
theorem lg_all : lgAll = true := by decide +kernel
theorem pw_lg {a : Nat} (h : a < 256) (h0 : a ≠ 0) : lg a < 255 ∧ pw (lg a) = a := by
  have := all1_at lg_all h
  simpa [h0] using this
theorem pw255 : pw 255 = 1 := by decide +kernel
theorem lg_pw {i : Nat} (h : i < 255) : lg (pw i) = i := by
  have h1 : all1 (fun i => lg (pw i) == i) 255 = true := by decide +kernel
  simpa using all1_at h1 h
theorem pw_add255 (i : Nat) : pw (i + 255) = pw i := by
  have := gm_pp i 255
  rw [pw255] at this
  have h1 : gm (pw i) 1 = pw i := by
    have := gm_pp i 0
    rw [Nat.add_zero] at this
    exact this
  rw [← this, h1]
theorem pw_mod (i : Nat) : pw (i % 255) = pw i := by
  have h : ∀ q r : Nat, pw (r + 255 * q) = pw r := fun q r => by
    induction q with
    | zero => rfl
    | succ q ih => rw [Nat.mul_succ, ← Nat.add_assoc, pw_add255, ih]
  conv => rhs; rw [← Nat.mod_add_div i 255]
  rw [h]
theorem pw_inj {i j : Nat} (hi : i < 255) (hj : j < 255) (h : pw i = pw j) : i = j := by
  rw [← lg_pw hi, ← lg_pw hj, h]

/-! ### the laws of the field -/
theorem gm_comm {a b : Nat} (ha : a < 256) (hb : b < 256) : gm a b = gm b a := by
  by_cases h0 : a = 0
  · subst h0; rw [gm_zero_left, gm_zero_right]
  · by_cases h1 : b = 0
    · subst h1; rw [gm_zero_left, gm_zero_right]
    · rw [← (pw_lg ha h0).2, ← (pw_lg hb h1).2, gm_pp, gm_pp, Nat.add_comm]
theorem gm_lt {a b : Nat} (ha : a < 256) : gm a b < 256 := gmF_lt 8 a b ha
theorem gm_assoc {a b c : Nat} (ha : a < 256) (hb : b < 256) (hc : c < 256) : gm a (gm b c) = gm (gm a b) c := by
  by_cases h0 : a = 0
  · subst h0; rw [gm_zero_left, gm_zero_left, gm_zero_left]
  · by_cases h1 : b = 0
    · subst h1; rw [gm_zero_left, gm_zero_right, gm_zero_left]
    · by_cases h2 : c = 0
      · subst h2; rw [gm_zero_right, gm_zero_right, gm_zero_right]
      · rw [← (pw_lg ha h0).2, ← (pw_lg hb h1).2, ← (pw_lg hc h2).2, gm_pp, gm_pp, gm_pp, gm_pp, Nat.add_assoc]
theorem gm_xor {a b c : Nat} (ha : a < 256) (hb : b < 256) (hc : c < 256) : gm a (b ^^^ c) = gm a b ^^^ gm a c := by
  by_cases h0 : a = 0
  · subst h0; rw [gm_zero_left, gm_zero_left, gm_zero_left]; rfl
  · rw [← (pw_lg ha h0).2, gm_pw _ (xor_lt hb hc), gm_pw _ hb, gm_pw _ hc, xtn_xor _ _ _ hb hc]
theorem gm_one {a : Nat} (ha : a < 256) : gm a 1 = a := by rw [gm_comm ha (by omega), gm_one_left ha]
theorem gm_eq_zero {a b : Nat} (ha : a < 256) (hb : b < 256) : gm a b = 0 ↔ a = 0 ∨ b = 0 := by
  constructor
  · intro h
    by_cases h0 : a = 0
    · exact .inl h0
    · by_cases h1 : b = 0
      · exact .inr h1
      · rw [← (pw_lg ha h0).2, ← (pw_lg hb h1).2, gm_pp] at h
        exact absurd h (pw_ne _)
  · rintro (rfl | rfl)
    · exact gm_zero_left b
    · exact gm_zero_right a
def inv (a : Nat) : Nat := pw ((255 - lg a) % 255)
theorem inv_lt (a : Nat) : inv a < 256 := pw_lt _
theorem inv_ne (a : Nat) : inv a ≠ 0 := pw_ne _
theorem gm_inv {a : Nat} (ha : a < 256) (h0 : a ≠ 0) : gm a (inv a) = 1 := by
  obtain ⟨h1, h2⟩ := pw_lg ha h0
  unfold inv
  rw [pw_mod]
  conv => lhs; rw [← h2]
  rw [gm_pp]
  have : pw (lg a + (255 - lg (pw (lg a)))) = 1 := by
    rw [h2, show lg a + (255 - lg a) = 0 + 255 by omega, pw_add255]
    rfl
  exact this
theorem gm_cancel {a b c : Nat} (ha : a < 256) (hb : b < 256) (hc : c < 256) (h0 : a ≠ 0) (h : gm a b = gm a c) : b = c := by
  have h1 : gm (inv a) (gm a b) = gm (inv a) (gm a c) := by rw [h]
  rw [gm_assoc (inv_lt a) ha hb, gm_assoc (inv_lt a) ha hc, gm_comm (inv_lt a) ha, gm_inv ha h0, gm_one_left hb, gm_one_left hc] at h1
  exact h1
end Go.Proofs.YtmhmdoobadckkaaGreatDoor
