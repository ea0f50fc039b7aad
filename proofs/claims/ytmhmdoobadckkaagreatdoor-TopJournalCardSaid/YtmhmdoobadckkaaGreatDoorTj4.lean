/- Own texts, joined: PackEnc, Rd0, PackDec, PackLaw, PDec, RdS, Rd, RfM, Val, Srt, Aliv, Cln, ClS. -/
import Derived.Test.YtmhmdoobadckkaaGreatDoorTj2
import Derived.Test.YtmhmdoobadckkaaGreatDoorTj3
import Derived.Maps.OwnIn
import Derived.Sort.OwnSortedInts
import Derived.Lib.SliceRun
import Derived.Great.BuildSlice
namespace Go.Proofs.YtmhmdoobadckkaaGreatDoor
set_option maxRecDepth 20000
open Go.RowKit Go.OpenShut
attribute [local go_sem] Oper.semAt_some

def allFit (ls ws : List Int) : Bool := (List.range ws.length).all fun i => fitsB (ls.getD i 0).toNat (ws.getD i 0)
def encE (ls ws : List Int) : Int := if wOK ws then (if ls.length = ws.length then (if allFit ls ws then 0 else 30) else 1) else 1
def encByte (ls : List Int) (p : Nat × Nat) : UInt8 := UInt8.ofNat ((ls.getD p.1 0).toNat / 256 ^ p.2)
def encL (ls ws : List Int) : List UInt8 := (placesF 0 ws).map (encByte ls)
def encS (ls ws : List Int) : ByteArray := if encE ls ws = 0 then ⟨(encL ls ws).toArray⟩ else ⟨#[]⟩
theorem enc_w {ls ws : List Int} (h : wOK ws = false) : encE ls ws = 1 ∧ encS ls ws = ⟨#[]⟩ := by
  have e : encE ls ws = 1 := by unfold encE; rw [h]; rfl
  exact ⟨e, by unfold encS; rw [e]; rfl⟩
theorem enc_l {ls ws : List Int} (h : ls.length ≠ ws.length) : encE ls ws = 1 ∧ encS ls ws = ⟨#[]⟩ := by
  have e : encE ls ws = 1 := by unfold encE; rw [if_neg h]; split <;> rfl
  exact ⟨e, by unfold encS; rw [e]; rfl⟩
theorem enc_f {ls ws : List Int} (h0 : wOK ws = true) (h1 : ls.length = ws.length) (h : allFit ls ws = false) : encE ls ws = 30 ∧ encS ls ws = ⟨#[]⟩ := by
  have e : encE ls ws = 30 := by unfold encE; rw [h0, if_pos rfl, if_pos h1, h]; rfl
  exact ⟨e, by unfold encS; rw [e]; rfl⟩
theorem enc_ok {ls ws : List Int} (h0 : wOK ws = true) (h1 : ls.length = ws.length) (h : allFit ls ws = true) : encE ls ws = 0 ∧ encS ls ws = ⟨(encL ls ws).toArray⟩ := by
  have e : encE ls ws = 0 := by unfold encE; rw [h0, if_pos rfl, if_pos h1, h]; rfl
  exact ⟨e, by unfold encS; rw [e]; rfl⟩

set_option maxHeartbeats 400000 in
theorem encode_w (w : World) (A A' : Option Addr) (n c m c' : Nat) (ws : List Int) (hw : IntsA w w.heap.size .i64 A' m ws) (hm : m ≤ 4294967295) (hno : wOK ws = false) :
    Calls Tryz.prog 152 #[.slice A n c, .slice A' m c'] w fun e w' => e = .returned (.tuple #[.string ⟨#[]⟩, .int .i64 1]) ∧ Below w.heap.size w w' := by
  have h1 := (size_no hno).1
  have h2 := (size_no hno).2
  go_enter Tryz.func152, Tryz.ntmps152
  go_wp2_with fail
  refine (size_any _ w.heap.size A' m c' ws (hw.below ((Below.refl _ _).alloc (Nat.le_refl _) _)) hm).mono ?_
  rintro e w1 ⟨rfl, rfl⟩
  rw [h1, h2]
  clear h1 h2
  go_wp2
  go_ret2
  exact ⟨rfl, (Below.refl _ _).alloc (Nat.le_refl _) _⟩

set_option maxHeartbeats 400000 in
theorem encode_l (w : World) (A A' : Option Addr) (n c m c' : Nat) (ws : List Int) (hw : IntsA w w.heap.size .i64 A' m ws) (hm : m ≤ 4294967295) (hok : wOK ws = true) (hne : n ≠ m) :
    Calls Tryz.prog 152 #[.slice A n c, .slice A' m c'] w fun e w' => e = .returned (.tuple #[.string ⟨#[]⟩, .int .i64 1]) ∧ Below w.heap.size w w' := by
  have h2 := (size_yes hok).2
  have hb : ((n : Int) != (m : Int)) = true := by rw [bne_iff_ne]; omega
  go_enter Tryz.func152, Tryz.ntmps152
  go_wp2_with fail
  refine (size_any _ w.heap.size A' m c' ws (hw.below ((Below.refl _ _).alloc (Nat.le_refl _) _)) hm).mono ?_
  rintro e w1 ⟨rfl, rfl⟩
  rw [h2]
  clear h2
  go_wp2
  go_ret2
  exact ⟨rfl, (Below.refl _ _).alloc (Nat.le_refl _) _⟩

set_option maxHeartbeats 1000000 in
theorem encode_f (w : World) (A A' : Option Addr) (n c m c' : Nat) (ls ws : List Int) (hl : IntsA w w.heap.size .u64 A n ls) (hw : IntsA w w.heap.size .i64 A' m ws) (hm : m ≤ 4294967295) (hu : ∀ x ∈ ls, 0 ≤ x ∧ x < 18446744073709551616)
    (hok : wOK ws = true) (hnm : n = m) (hno : allFit ls ws = false) :
    Calls Tryz.prog 152 #[.slice A n c, .slice A' m c'] w fun e w' => e = .returned (.tuple #[.string ⟨#[]⟩, .int .i64 30]) ∧ Below w.heap.size w w' := by
  subst hnm
  have h2 := (size_yes hok).2
  have HU := Lib.hid hu
  have HNO := Lib.hid hno
  have HL := Lib.hid hl.1
  have HW := Lib.hid hw.1
  clear hu hno
  go_enter Tryz.func152, Tryz.ntmps152
  go_wp2_with fail
  refine (size_any _ w.heap.size A' n c' ws (hw.below ((Below.refl _ _).alloc (Nat.le_refl _) _)) hm).mono ?_
  rintro e w1 ⟨rfl, rfl⟩
  rw [h2]
  clear h2
  go_wp2_with fail
  have hbe := (Below.refl w.heap.size w).alloc (Nat.le_refl _) (.cells #[.slice A n c] 124)
  have hbx := (Blk.new w 124 #[.slice A n c]).cell 0
  have hl2 := hl.below hbe
  have hw2 := hw.below hbe
  generalize w.alloc (.cells #[.slice A n c] 124) = W at *
  go_loop [30] (fun i => ∃ k : Nat, k ≤ n ∧ i = .int .i64 k ∧ ∀ j, j < k → fitsB (ls.getD j 0).toNat (ws.getD j 0) = true) (fun i => n - (intOf i).toNat)
  case atStart => exact ⟨0, by omega, rfl, fun j hj => by omega⟩
  case round =>
    obtain ⟨k, hk, rfl, hall⟩ := hrel
    have HA := Lib.hid hall
    clear hall
    by_cases hlt : k < n
    · obtain ⟨b, off, rfl, _, hc⟩ := hl2.2 (by omega)
      obtain ⟨b', off', rfl, _, hc'⟩ := hw2.2 (by omega)
      have hck := hc k hlt
      have hck' := hc' k hlt
      have hx : ls.getD k 0 ∈ ls := by
        have : k < ls.length := by rw [HL.out]; exact hlt
        simp [List.getD, this]
      have hxu := HU.out _ hx
      obtain ⟨x, hxe⟩ : ∃ x, ls.getD k 0 = x := ⟨_, rfl⟩
      obtain ⟨y, hye⟩ : ∃ y, ws.getD k 0 = y := ⟨_, rfl⟩
      rw [hxe] at hck hxu
      rw [hye] at hck'
      have HX := Lib.hid hxe
      have HY := Lib.hid hye
      obtain ⟨x', rfl⟩ := Int.eq_ofNat_of_zero_le hxu.1
      have hx' : x' < 18446744073709551616 := by omega
      have HXU := Lib.hid hx'
      clear hc hc' hxe hye hx hxu hx'
      go_wp2_with fail
      refine (fits_any _ x' HXU.out y).mono ?_
      rintro e w1 ⟨rfl, rfl⟩
      obtain ⟨f, hf⟩ : ∃ f, fitsB x' y = f := ⟨_, rfl⟩
      rw [hf]
      have HF := Lib.hid hf
      clear hf
      cases f
      · go_wp2
        go_ret2
        exact ⟨rfl, hbe⟩
      · go_wp2
        go_round
        case rel =>
          refine ⟨k + 1, by omega, by go_num, fun j hj => ?_⟩
          by_cases e : j = k
          · subst e
            rw [HX.out, HY.out]
            exact HF.out
          · exact HA.out j (by omega)
        case measure => simp [intOf]; omega
    · exfalso
      have : allFit ls ws = true := by
        unfold allFit
        rw [List.all_eq_true]
        intro j hj
        rw [List.mem_range, HW.out] at hj
        exact HA.out j (by omega)
      rw [HNO.out] at this
      cases this

theorem allFit_at {ls ws : List Int} (h : allFit ls ws = true) {j : Nat} (hj : j < ws.length) : fitsB (ls.getD j 0).toNat (ws.getD j 0) = true := by
  unfold allFit at h
  rw [List.all_eq_true] at h
  exact h j (List.mem_range.2 hj)

theorem OwnB.shape {w : World} {base : Nat} {v : Value} {l : List UInt8} (h : OwnB w base v l) : ∃ A c, v = .slice A l.length c := by
  rcases h.2 with ⟨rfl, h0⟩ | ⟨g, cap, cur, rfl, _⟩
  · exact ⟨none, 0, by rw [h0]⟩
  · exact ⟨_, _, rfl⟩
theorem OwnB.far {w : World} {base : Nat} {v : Value} {l : List UInt8} (h : OwnB w base v l) {p : Addr} (hp : some p.block ≠ v.ownBlock) (u : Value) : OwnB (w.setCell p u) base v l := by
  obtain ⟨h1, h2⟩ := h
  refine ⟨h1, ?_⟩
  rcases h2 with h2 | ⟨g, cap, cur, rfl, hg, hh, r⟩
  · exact Or.inl h2
  · refine Or.inr ⟨g, cap, cur, rfl, hg, ?_, r⟩
    rw [Below.heap_setCell w p u g (fun e => hp (by rw [← e]; rfl))]
    exact hh
theorem keeps_drew (B : Nat) (W : World) : KeepsFrom B W W.drew := ⟨Nat.le_refl _, fun _ _ _ h _ => h⟩
theorem keeps_alloc (B : Nat) (W : World) (o : Obj) : KeepsFrom B W (W.alloc o) :=
  ⟨by simp, fun k _ _ hk _ => (Below.heap_alloc W o k (Array.getElem?_eq_some_iff.1 hk).1).trans hk⟩
theorem keeps_set {B : Nat} {p : Addr} (hp : p.block < B) (W : World) (u : Value) : KeepsFrom B W (W.setCell p u) :=
  ⟨by simp [World.setCell], fun k _ hb hk _ => (Below.heap_setCell W p u k (by omega)).trans hk⟩
theorem OwnB.ne_blk {w : World} {g base : Nat} {t : TypeId} {cs : Array Value} {v : Value} {l : List UInt8} (h : OwnB w base v l) (hb : Blk w g t cs) (ht : t ≠ 5) : some g ≠ v.ownBlock := by
  rcases h.2 with ⟨rfl, _⟩ | ⟨g', cap, cur, rfl, _, hgb, _⟩
  · simp [Value.ownBlock]
  · intro e
    obtain rfl : g = g' := by simpa [Value.ownBlock] using e
    unfold Blk at hb
    rw [hb] at hgb
    cases hgb
    exact ht rfl

set_option maxHeartbeats 2000000 in
theorem encode_ok (w : World) (A A' : Option Addr) (n c m c' : Nat) (ls ws : List Int) (hl : IntsA w w.heap.size .u64 A n ls) (hw : IntsA w w.heap.size .i64 A' m ws) (hm : m ≤ 4294967295) (hu : ∀ x ∈ ls, 0 ≤ x ∧ x < 18446744073709551616)
    (hok : wOK ws = true) (hnm : n = m) (hyes : allFit ls ws = true) :
    Calls Tryz.prog 152 #[.slice A n c, .slice A' m c'] w fun e w' => e = .returned (.tuple #[.string ⟨(encL ls ws).toArray⟩, .int .i64 0]) ∧ Below w.heap.size w w' := by
  subst hnm
  have h1 := (size_yes hok).1
  have h2 := (size_yes hok).2
  have HU := Lib.hid hu
  have HYES := Lib.hid hyes
  have HL := Lib.hid hl.1
  have HW := Lib.hid hw.1
  clear hu hyes
  obtain ⟨N, hN⟩ : ∃ N : Nat, sumW ws = (N : Int) := by
    have := sumW_bd ws (by unfold wOK at hok; simp at hok; exact hok.1)
    exact ⟨(sumW ws).toNat, by omega⟩
  have hN512 : N ≤ 512 := by
    have h3 := sumW_bd ws (by unfold wOK at hok; simp at hok; exact hok.1)
    have h4 : ws.length ≤ 64 := by unfold wOK at hok; simp at hok; exact hok.2
    omega
  rw [hN] at h1
  have hmk := run_makeBc N (by omega)
  obtain ⟨z, hz⟩ : ∃ z, List.replicate N (0 : UInt8) = z := ⟨_, rfl⟩
  have hzl : z.length = N := by rw [← hz]; simp
  rw [hz] at hmk
  have HZL := Lib.hid hzl
  have HN := Lib.hid hN
  clear hz hzl hN
  refine calls_marks Tryz.func152 rfl ?_
  simp only [Tryz.ntmps152, List.size_toArray, List.length_cons, List.length_nil, Nat.reduceAdd, Nat.reduceSub, Array.replicate_succ, Array.replicate_zero, List.push_toArray, List.append_toArray, List.nil_append, List.cons_append]
  go_wp2_with fail
  refine (size_any _ w.heap.size A' n c' ws (hw.below ((Below.refl _ _).alloc (Nat.le_refl _) _)) hm).mono ?_
  rintro e w1 ⟨rfl, rfl⟩
  rw [h1, h2]
  clear h1 h2
  go_wp2_with fail
  have hbe := (Below.refl w.heap.size w).alloc (Nat.le_refl _) (.cells #[.slice A n c] 124)
  have hbk := Blk.new w 124 #[.slice A n c]
  have hbx := hbk.cell 0
  have hl2 := hl.below hbe
  have hw2 := hw.below hbe
  have hszW : (w.alloc (.cells #[.slice A n c] 124)).heap.size = w.heap.size + 1 := by simp
  generalize w.alloc (.cells #[.slice A n c] 124) = W at *
  go_loop [30] (fun i => ∃ k : Nat, k ≤ n ∧ i = .int .i64 k) (fun i => n - (intOf i).toNat)
  case atStart => exact ⟨0, by omega, rfl⟩
  case round =>
    obtain ⟨k, hk, rfl⟩ := hrel
    by_cases hlt : k < n
    · obtain ⟨b, off, rfl, _, hc⟩ := hl2.2 (by omega)
      obtain ⟨b', off', rfl, _, hc'⟩ := hw2.2 (by omega)
      have hck := hc k hlt
      have hck' := hc' k hlt
      have hf := allFit_at HYES.out (j := k) (by rw [HW.out]; exact hlt)
      have hx : ls.getD k 0 ∈ ls := by
        have : k < ls.length := by rw [HL.out]; exact hlt
        simp [List.getD, this]
      have hxu := HU.out _ hx
      generalize ls.getD k 0 = x at *
      generalize ws.getD k 0 = y at *
      obtain ⟨x', rfl⟩ := Int.eq_ofNat_of_zero_le hxu.1
      have hx' : x' < 18446744073709551616 := by omega
      have HXU := Lib.hid hx'
      rw [Int.toNat_natCast] at hf
      have HF := Lib.hid hf
      clear hc hc' hx hxu hx' hf hbe
      go_wp2_with fail
      refine (fits_any _ x' HXU.out y).mono ?_
      rintro e w1 ⟨rfl, rfl⟩
      rw [HF.out]
      go_wp2
      go_round
      case rel => exact ⟨k + 1, by omega, by go_num⟩
      case measure => simp [intOf]; omega
    · obtain rfl : k = n := by omega
      clear hlt hk
      go_wp2_with fail
      refine (places_any _ A' k c').mono ?_
      rintro e w1 ⟨rfl, rfl⟩
      go_wp2_with fail
      clear hmk
      have hz0 := Blk.new W 5 (bcs z).toArray
      have hb1 := hbe.alloc hbe.size (.cells (bcs z).toArray 5)
      have hs1 : (W.alloc (.cells (bcs z).toArray 5)).heap.size = w.heap.size + 1 + 1 := by simp; omega
      have hk1 := hbk.alloc (.cells (bcs z).toArray 5)
      rw [hszW] at hz0
      generalize W.alloc (.cells (bcs z).toArray 5) = W1 at *
      have hb2 := Blk.new W1 62 #[.slice (some ⟨w.heap.size + 1, 0, none⟩) 0 N]
      rw [hs1] at hb2
      have hz2 := hz0.alloc (.cells #[.slice (some ⟨w.heap.size + 1, 0, none⟩) 0 N] 62)
      have hk2 := hk1.alloc (.cells #[.slice (some ⟨w.heap.size + 1, 0, none⟩) 0 N] 62)
      have hbe2 := hb1.alloc hb1.size (.cells #[.slice (some ⟨w.heap.size + 1, 0, none⟩) 0 N] 62)
      have hs2 : (W1.alloc (.cells #[.slice (some ⟨w.heap.size + 1, 0, none⟩) 0 N] 62)).heap.size = w.heap.size + 1 + 1 + 1 := by simp; omega
      generalize W1.alloc (.cells #[.slice (some ⟨w.heap.size + 1, 0, none⟩) 0 N] 62) = W2 at *
      have hw3 := Blk.new W2 30 #[.slice A' k c']
      rw [hs2] at hw3
      have hz3 := hz2.alloc (.cells #[.slice A' k c'] 30)
      have hk3 := hk2.alloc (.cells #[.slice A' k c'] 30)
      have hb3 := hb2.alloc (.cells #[.slice A' k c'] 30)
      have hbe3 := hbe2.alloc hbe2.size (.cells #[.slice A' k c'] 30)
      have hs3 : (W2.alloc (.cells #[.slice A' k c'] 30)).heap.size = w.heap.size + 1 + 1 + 1 + 1 := by simp; omega
      generalize W2.alloc (.cells #[.slice A' k c'] 30) = R at *
      clear hbe hbx hbk hl2 hw2 hb1 hs1 hk1 hz0 hb2 hz2 hk2 hbe2 hs2 hszW
      have hown := hz3.ownB0 HZL.out (show w.heap.size ≤ w.heap.size + 1 by omega) (by unfold maxLen; omega)
      have hws : ∀ x ∈ ws, 1 ≤ x ∧ x ≤ 8 := by unfold wOK at hok; simp at hok; exact hok.1
      refine wp_range w.heap.size (by omega) rfl (enters_of Tryz.func232 (by kernel_rfl) rfl)
        (places_stops (w.heap.size + 1 + 1 + 1) w.heap.size A' k c' ws hws hm R (by omega) (by omega) (hw3.cell 0) (hw.below hbe3)) (fun _ => rfl)
        (fun pre V => (∃ v, Blk V (w.heap.size + 1 + 1) 62 #[v] ∧ OwnB V w.heap.size v (pre.map fun x => encByte ls x.1)) ∧ Blk V w.heap.size 124 #[.slice A k c] ∧ Below w.heap.size w V)
        (fun _ _ _ => False) ?hI (fun _ _ _ _ _ hs _ _ => hs) ⟨⟨_, hb3, hown⟩, hk3, hbe3⟩ ?hround ?hdone (fun _ _ _ _ _ _ h => h.elim)
      case hI =>
        rintro s V V' row ⟨⟨v, h1, h2⟩, h3, h4⟩ hg hr
        exact ⟨⟨v, h1.turn hg hr, h2.turn hg hr⟩, h3.turn hg hr, below_turn h4 (Nat.le_refl _) (by omega) hg hr⟩
      case hround =>
        apply Exists.intro
        constructor
        · intro l x V K hK
          dsimp only [plEnc]
          gi_wp2
          exact hK
        · rintro l pre x V ⟨⟨v, h1, h2⟩, h3, h4⟩ hlen
          gi_wp2
          obtain ⟨⟨i, kk⟩, hik, hkk⟩ := x
          replace hik : i < k := hik
          replace hkk : kk < 8 := hkk
          obtain ⟨b, off, rfl, hbw, hc⟩ := (hl.below h4).2 (by omega)
          have hci := hc i hik
          have hx : ls.getD i 0 ∈ ls := by
            have : i < ls.length := by rw [HL.out]; exact hik
            simp [List.getD, this]
          have hxu := HU.out _ hx
          obtain ⟨x, hxe⟩ : ∃ x, ls.getD i 0 = x := ⟨_, rfl⟩
          rw [hxe] at hci hxu
          have HX := Lib.hid hxe
          obtain ⟨x', rfl⟩ := Int.eq_ofNat_of_zero_le hxu.1
          have hx' : x' < 18446744073709551616 := by omega
          have hv := h1.cell 0
          have hbl := h3.cell 0
          clear hc hx hxe hxu
          refine wpIn_region_nf l (fun V' => V'.cell? ⟨w.heap.size + 1 + 1, 0, none⟩ = some v ∧ V'.cell? ⟨w.heap.size, 0, none⟩ = some (.slice (some ⟨b, off, none⟩) k c) ∧ V'.cell? ⟨b, off + i, none⟩ = some (.int .u64 x')) (fun j => j == 10)
            [(0, true), (1, true), (2, true), (3, true), (4, true), (5, true), (6, true), (7, true), (8, false), (9, false), (10, false)] (by kernel_rfl) rfl (by kernel_rfl) (by kernel_rfl) (fun d _ _ _ _ h => by cases d <;> exact h) (by kernel_rfl) (fun ⟨_, _, h⟩ => h) ?_
          have hS : V.drew.cell? ⟨w.heap.size + 1 + 1, 0, none⟩ = some v ∧ V.drew.cell? ⟨w.heap.size, 0, none⟩ = some (.slice (some ⟨b, off, none⟩) k c) ∧ V.drew.cell? ⟨b, off + i, none⟩ = some (.int .u64 x') := ⟨hv, hbl, hci⟩

          refine nf_pure rfl hS (fun w1 hS => by obtain ⟨g1, g2, g3⟩ := hS; go_wp2; exact ⟨rfl, rfl, rfl⟩) rfl ?_ ?_
          rfl
          refine nf_pure rfl hS (fun w1 hS => by obtain ⟨g1, g2, g3⟩ := hS; go_wp2; exact ⟨rfl, rfl, rfl⟩) rfl ?_ ?_
          rfl
          refine nf_pure rfl hS (fun w1 hS => by obtain ⟨g1, g2, g3⟩ := hS; go_wp2; exact ⟨rfl, rfl, rfl⟩) rfl ?_ ?_
          rfl
          refine nf_pure rfl hS (fun w1 hS => by obtain ⟨g1, g2, g3⟩ := hS; go_wp2; exact ⟨rfl, rfl, rfl⟩) rfl ?_ ?_
          rfl
          refine nf_pure rfl hS (fun w1 hS => by obtain ⟨g1, g2, g3⟩ := hS; go_wp2; exact ⟨rfl, rfl, rfl⟩) rfl ?_ ?_
          rfl
          refine nf_pure rfl hS (fun w1 hS => by obtain ⟨g1, g2, g3⟩ := hS; go_wp2; exact ⟨rfl, rfl, rfl⟩) rfl ?_ ?_
          rfl
          refine nf_pure rfl hS (fun w1 hS => by obtain ⟨g1, g2, g3⟩ := hS; go_wp2; exact ⟨rfl, rfl, rfl⟩) rfl ?_ ?_
          rfl
          obtain ⟨q, hq, hqe⟩ : ∃ q : Nat, (x' : Int) / 2 ^ (8 * kk) = (q : Int) ∧ encByte ls (i, kk) = UInt8.ofNat q := by
            refine ⟨x' / 256 ^ kk, ?_, ?_⟩
            · rw [Int.natCast_ediv, show (256 : Nat) = 2 ^ 8 from rfl, ← Nat.pow_mul, Int.natCast_pow]
              rfl
            · unfold encByte
              rw [HX.out]
              rfl
          rw [hq]
          clear hq
          refine nf_pure rfl hS (fun w1 hS => by obtain ⟨g1, g2, g3⟩ := hS; go_wp2; exact ⟨rfl, rfl, rfl⟩) rfl ?_ ?_
          rfl
          refine nf_imp rfl ?_
          go_wp2_with fail
          refine ⟨fun _ => ?_, ?_⟩
          · exact ⟨((h1.drew.alloc _).cell 0).trans rfl, ((h3.drew.alloc _).cell 0).trans rfl, (((Below.refl w.heap.size V).alloc h4.size (.cells #[.int .u8 ((q : Int) % 256)] 5)).cell (p := ⟨b, off + i, none⟩) hbw).trans hci⟩
          refine nf_imp rfl ?_
          have h1a := h1.drew.alloc (.cells #[.int .u8 ((q : Int) % 256)] 5)
          have h3a := h3.drew.alloc (.cells #[.int .u8 ((q : Int) % 256)] 5)
          have hba : Below w.heap.size V (V.drew.alloc (.cells #[.int .u8 ((q : Int) % 256)] 5)) := (Below.refl w.heap.size V).drew.alloc h4.size (.cells #[.int .u8 ((q : Int) % 256)] 5)
          have hne := h2.ne_blk h1 (by decide)
          have hne3 := h2.ne_blk h3 (by decide)
          have hkp := fun W5 => keeps_app (W' := W5) (B := R.heap.size) (h2.drew.alloc (.cells #[.int .u8 ((q : Int) % 256)] 5))
          refine wp_pushB rfl (.tmp 49) (.tmp 57) rfl w.heap.size v _ rfl (h2.drew.alloc _) ⟨V.drew.heap.size, 0, none⟩ 1 (UInt8.ofNat q) rfl ?_ ?_ ?_ ?_
          · refine ((Blk.new V.drew 5 #[.int .u8 ((q : Int) % 256)]).cell 0).trans ?_
            simp [bc]
          · simp
            have h9 := sumW_bd ws hws
            have h10 : ws.length ≤ 64 := by unfold wOK at hok; simp at hok; exact hok.2
            omega
          · simp
            have := h4.size
            omega
          rintro v' W4 ho hg hb
          have hkp := hkp _ hg
          obtain ⟨A2, c2, rfl⟩ := ho.shape
          have h1b := h1a.grown hg hne
          have h3b := h3a.grown hg hne3
          have hbb := hba.trans hb
          have hsz := hbb.size
          clear h1a h3a hba hb hg
          go_wp2_with fail
          refine ⟨fun _ => ⟨h1b.cell 0, h3b.cell 0, (hbb.cell (p := ⟨b, off + i, none⟩) hbw).trans hci⟩, ?_⟩
          have hb1 := h1b.cell 0
          have hb2 := h1b.frozen 0
          refine nf_imp rfl ?_
          go_wp2_with fail
          refine ⟨fun h => (by cases h), ?_⟩
          refine nf_nil ?_
          rw [show pre.length + 1 = (List.map (fun x : Pl k => encByte ls x.val) pre ++ [UInt8.ofNat q]).length by simp]
          refine ⟨(((keeps_drew _ V).trans (keeps_alloc _ V.drew _)).trans hkp).trans (keeps_set (p := ⟨w.heap.size + 1 + 1, 0, none⟩) (by show w.heap.size + 1 + 1 < _; omega) _ _), hbb.setCell (by show _ ≤ w.heap.size + 1 + 1; omega) _, ⟨_, h1b.set_ 0 _, ?_⟩, h3b.far (by show ¬ _ = w.heap.size + 1 + 1; omega) _, (h4.trans hbb).setCell (by show _ ≤ w.heap.size + 1 + 1; omega) _⟩
          rw [List.map_append, List.map_cons, List.map_nil, hqe]
          exact ho.far (ho.ne_blk h1b (by decide)) _
      case hdone =>
        rintro D xs V hD hxs ⟨⟨v, h1, h2⟩, h3, h4⟩ hdef
        obtain ⟨bl, hbl⟩ : ∃ bl, xs.map (fun x : Pl k => encByte ls x.1) = bl := ⟨_, rfl⟩
        rw [hbl] at h2
        have HB := Lib.hid hbl
        have HXS := Lib.hid hxs
        clear hbl hxs
        obtain ⟨A2, c2, rfl⟩ := h2.shape
        have hv := h1.cell 0
        have hcv := h2.conv
        go_wp2_with fail
        refine ret_mark rfl hdef (results_tmp2 rfl _ _ _) ?_
        have e : bl = encL ls ws := by
          rw [← HB.out]
          unfold encL
          rw [← HXS.out, List.map_map]
          rfl
        rw [← e]
        exact ⟨rfl, h4.trans (belowK_b (w := w) (Nat.le_refl _) V D _ _ (by omega) hdef rfl rfl)⟩

theorem encode_any (w : World) (A A' : Option Addr) (n c m c' : Nat) (ls ws : List Int) (hl : IntsA w w.heap.size .u64 A n ls) (hw : IntsA w w.heap.size .i64 A' m ws) (hm : m ≤ 4294967295) (hu : ∀ x ∈ ls, 0 ≤ x ∧ x < 18446744073709551616) :
    Calls Tryz.prog 152 #[.slice A n c, .slice A' m c'] w fun e w' => e = .returned (.tuple #[.string (encS ls ws), .int .i64 (encE ls ws)]) ∧ Below w.heap.size w w' := by
  have e1 := hl.1
  have e2 := hw.1
  by_cases h0 : wOK ws = true
  · by_cases h1 : n = m
    · by_cases h2 : allFit ls ws = true
      · rw [(enc_ok h0 (by omega) h2).1, (enc_ok h0 (by omega) h2).2]
        exact encode_ok w A A' n c m c' ls ws hl hw hm hu h0 h1 h2
      · have h2 : allFit ls ws = false := by simpa using h2
        rw [(enc_f h0 (by omega) h2).1, (enc_f h0 (by omega) h2).2]
        exact encode_f w A A' n c m c' ls ws hl hw hm hu h0 h1 h2
    · rw [(enc_l (ls := ls) (ws := ws) (by omega)).1, (enc_l (ls := ls) (ws := ws) (by omega)).2]
      exact encode_l w A A' n c m c' ws hw hm h0 h1
  · have h0 : wOK ws = false := by simpa using h0
    rw [(enc_w h0).1, (enc_w h0).2]
    exact encode_w w A A' n c m c' ws hw hm h0
end Go.Proofs.YtmhmdoobadckkaaGreatDoor
/- Ahead of row.Read: appending within a round; what a row's sectors come to. -/
namespace Go.Proofs.YtmhmdoobadckkaaGreatDoor
set_option maxRecDepth 20000
open Go.RowKit Go.OpenShut

def onlyN (Q : Exit → Act → World → Prop) : Exit → Act → World → Prop
  | .normal, a, w => Q .normal a w
  | _, _, _ => False
/-- a region that draws its order, of which no operation panics, in a function that holds a range over a function -/
theorem wp_region_nfN {P : Program} {Q : Exit → Act → World → Prop} {id : Nat} {l : List Oper} {a : Act} {w : World} (S : World → Prop) (bar : Nat → Bool) (π : List (Nat × Bool)) (hm : P.follows .mixedOrders = true)
    (hn : π.length = l.length) (hs : Region.noSelect l.toArray = true) (hB : nfB .any l.toArray bar π (Array.replicate l.length false) = true)
    (h : wpNF P l.toArray (onlyN Q) S bar π a w.drew) : (Code.region id l.toArray true).wp P Q a w :=
  Code.wp_mono (fun e a w h => by cases e <;> first | exact h | exact h.elim) (wp_region_nf (Q := onlyN Q) S bar π hm hn hs hB (fun _ _ _ _ _ h => h.elim) h)
theorem wpIn_push1 {F : Fence} {nF : Nat} {w : World} {ops : Array Oper} {rest : List Oper} {o : Oper} {a : Act} {Q : Exit → Act → World → Prop} (st t : TypeId) (z : Value) (bytes : Nat) (hst : Tryz.prog.underlying st = some (.slice t))
    (hinfo : (Tryz.prog.info? t).map (fun i => (i.zero, i.size, i.bytes)) = some (some z, 1, bytes)) (hz : z.cells.size = 1) (hby : bytes ≤ 16) (hgd : o.guard = none) (s x : Operand)
    (ho : o.op = .call { callee := .builtin .append, args := #[s, x], argTypes := #[st, st] })
    (base : Nat) (v : Value) (l : List Value) (hown : OwnV t w base v l) (hs : a.eval s = v) (ad : Addr) (c : Nat) (u : Value) (hx : a.eval x = .slice (some ad) 1 c) (hc : w.cell? ad = some u) (hu : u.oneCell' = true)
    (hlen : l.length < 1000000) (hbase : base ≤ w.heap.size)
    (h : ∀ v' w', OwnV t w' base v' (l ++ [u]) → w.grownBy w' v.ownBlock → Below base w w' → wpListIn F nF Tryz.prog ops Q rest (a.put o.dst v') w') : wpListIn F nF Tryz.prog ops Q (o :: rest) a w := by
  obtain ⟨i0, hi, hz0, hz1, hz2⟩ := info_parts hinfo
  refine wpListIn_append_own_at _ hgd s x st ho base t i0 z 1 bytes hst hi hz0 hz1 hz2 hz (by decide) v l.length l hs hown ad 1 c [u] hx rfl ?_ ?_ (by unfold maxLen; omega) ?_ hbase ?_
  · intro j y hj
    have : j = 0 := by
      rcases Nat.eq_zero_or_pos j with e | e
      · exact e
      · rw [List.getElem?_eq_none (by simp; omega)] at hj; cases hj
    subst this
    simp at hj
    subst hj
    simpa [Addr.add] using hc
  · intro y hy
    simp at hy
    rw [hy]; exact hu
  · have : (l.length + 1) * bytes ≤ 1000001 * 16 := Nat.mul_le_mul (by omega) hby
    omega
  · intro v' w' h1 h2 _ _
    refine h v' w' ?_ h2 ((Below.refl _ _).grown h2 hbase (fun k hk => (World.ownsRow.lt hown k hk).1))
    unfold OwnV
    rw [List.length_append]
    exact h1
theorem keeps_appV {t : TypeId} {W W' : World} {B base : Nat} {v : Value} {l : List Value} (h : OwnV t W base v l) (hg : W.grownBy W' v.ownBlock) : KeepsFrom B W W' := by
  refine ⟨hg.size, fun k o _ hk ho => (hg.block k (Array.getElem?_eq_some_iff.1 hk).1 (fun e => ?_)).trans hk⟩
  rcases h.2 with ⟨rfl, _⟩ | ⟨g, cap, cur, rfl, _, hgb, _⟩
  · simp [Value.ownBlock] at e
  · obtain rfl : k = g := by simpa [Value.ownBlock] using e
    rw [hgb] at hk
    cases hk
    cases ho
theorem OwnV.ne_blk' {t t' : TypeId} {w : World} {B b : Nat} {cs : Array Value} {v : Value} {l : List Value} (h : OwnV t w B v l) (hb : Blk w b t' cs) (ht : t' ≠ t) : some b ≠ v.ownBlock := by
  rcases h.2 with ⟨rfl, _⟩ | ⟨g', cap, cur, rfl, _, hgb, _⟩
  · simp [Value.ownBlock]
  · intro e
    obtain rfl : b = g' := by simpa [Value.ownBlock] using e
    unfold Blk at hb
    rw [hb] at hgb
    cases hgb
    exact ht rfl
theorem OwnV.grown {t t' : TypeId} {w w' : World} {B B' : Nat} {v v' : Value} {l l' : List Value} (h : OwnV t w B v l) (h' : OwnV t' w B' v' l') (ht : t ≠ t') (hg : w.grownBy w' v'.ownBlock) : OwnV t w' B v l := by
  refine World.ownsRow.kept h hg ?_
  rcases h.2 with ⟨rfl, _⟩ | ⟨g, cap, cur, rfl, _, hgb, _⟩
  · exact Or.inl rfl
  · exact Or.inr (fun e => h'.ne_blk' (show Blk w g t cur from hgb) ht e)
theorem OwnV.turn {t : TypeId} {w w' : World} {B base : Nat} {v : Value} {l : List Value} {row : Option Nat} (h : OwnV t w base v l) (hg : w.grownBy w' row) (hr : FarRow B w row) : OwnV t w' base v l := by
  refine World.ownsRow.kept h hg ?_
  rcases h.2 with ⟨rfl, _⟩ | ⟨g, cap, cur, rfl, _, hgb, _⟩
  · exact .inl rfl
  · refine .inr fun e => ?_
    obtain ⟨_, o, ho, hc⟩ := hr g (by simpa [Value.ownBlock] using e.symm)
    rw [hgb] at ho
    cases ho
    cases hc
/-- which of them are lost: by their places -/
def lostPos (f : Nat → Bool) (pre : List Nat) : List Int := ((List.range pre.length).filter fun i => f (pre.getD i 0)).map fun i : Nat => (i : Int)
theorem lostPos_snoc (f : Nat → Bool) (pre : List Nat) (x : Nat) : lostPos f (pre ++ [x]) = lostPos f pre ++ if f x then [(pre.length : Int)] else [] := by
  unfold lostPos
  rw [List.length_append, List.length_singleton, List.range_succ, List.filter_append, List.map_append]
  congr 1
  · congr 1
    refine List.filter_congr fun i hi => ?_
    have := List.mem_range.1 hi
    simp [List.getD, List.getElem?_append_left this]
  · by_cases h : f x <;> simp [List.getD, h]
theorem lostPos_len (f : Nat → Bool) (pre : List Nat) : (lostPos f pre).length ≤ pre.length := by
  unfold lostPos
  rw [List.length_map]
  exact Nat.le_trans (List.length_filter_le _ _) (by simp)
def RS.lostF (S : RS) (σ : Nat → Option Drv) (row off : Nat) (x : Nat) : Bool := decide (S.secE σ row off x ≠ 0)
/-- the sectors of a row, and which roles are lost -/
def RS.secs (S : RS) (σ : Nat → Option Drv) (row off : Nat) : List Sec := (List.range S.n).map (S.secS σ row off)
def RS.lost (S : RS) (σ : Nat → Option Drv) (row off : Nat) : List Int := lostPos (S.lostF σ row off) (List.range S.n)
/-- no drive is off -/
theorem RS.secE_on {S : RS} {σ : Nat → Option Drv} (h : ∀ g, some g ∈ S.ds → ∃ D, σ g = some D ∧ D.lim = none) (row off x : Nat) : S.secE σ row off x ≠ 42 := by
  unfold RS.secE
  cases hb : S.blt σ row x with
  | none => simp
  | some g =>
    obtain ⟨hm, D, hD, hdd⟩ := RS.blt_some hb
    obtain ⟨D', hD', hl⟩ := h g hm
    rw [hD] at hD'
    cases hD'
    simp only [hD]
    unfold Drv.readE Drv.may Drv.off
    rw [hdd, hl]
    simp only [Bool.false_eq_true, if_false]
    by_cases h1 : (lsec S.k row off : Int) < 0 ∨ (lsec S.k row off : Int) ≥ D.n
    · rw [if_pos h1]; simp
    · rw [if_neg h1]
      simp only [ne_eq, not_true_eq_false, if_false]
      split <;> decide
theorem sectors_stops (w0 : World) (σ : Nat → Option Drv) (R : Nat → Prop) (S : RS) (L : SL) (h : SetIn w0 σ R S L) (row off : Nat) (hr : row < S.r) (ho : off < S.k) (Bs : Nat) (w : World) (hB : Blk w Bs 147 (placeCs S L row off)) (hw : Below w0.heap.size w0 w) (hBn : w0.heap.size ≤ Bs) :
    SeqStopsK Fence.wide 4 Tryz.prog 176 #[.pointer (some ⟨Bs, 0, none⟩)] (secEnc S σ row off) (KBox w0.heap.size Bs) (fun ys => ys = List.range S.n) (fun _ => True) S.n w :=
  fun l J Jx W hW hJA _ hY h0 => sectors1_in l Bs w0.heap.size w0 rfl σ R S L h row off hr ho hBn J Jx W hJA hY (hw.trans (hW.mono hw.size)) (hB.below hW hB.lt) h0
end Go.Proofs.YtmhmdoobadckkaaGreatDoor
namespace Go.Proofs.YtmhmdoobadckkaaGreatDoor
set_option maxRecDepth 20000
open Go.RowKit Go.OpenShut
attribute [local go_sem] Oper.semAt_some

def decE (ws : List Int) (s : ByteArray) : Int := if wOK ws then (if (s.size : Int) = sumW ws then 0 else 31) else 1

set_option maxHeartbeats 400000 in
theorem decode_w (w : World) (s : ByteArray) (A' : Option Addr) (m c' : Nat) (ws : List Int) (hw : IntsA w w.heap.size .i64 A' m ws) (hm : m ≤ 4294967295) (hno : wOK ws = false) :
    Calls Tryz.prog 67 #[.string s, .slice A' m c'] w fun e w' => e = .returned (.tuple #[.slice none 0 0, .int .i64 1]) ∧ Below w.heap.size w w' := by
  have h1 := (size_no hno).1
  have h2 := (size_no hno).2
  go_enter Tryz.func67, Tryz.ntmps67
  go_wp2_with fail
  refine (size_any _ w.heap.size A' m c' ws (hw.below ((Below.refl _ _).alloc (Nat.le_refl _) _)) hm).mono ?_
  rintro e w1 ⟨rfl, rfl⟩
  rw [h1, h2]
  clear h1 h2
  go_wp2
  go_ret2
  exact ⟨rfl, (Below.refl _ _).alloc (Nat.le_refl _) _⟩

set_option maxHeartbeats 400000 in
theorem decode_short (w : World) (s : ByteArray) (A' : Option Addr) (m c' : Nat) (ws : List Int) (hw : IntsA w w.heap.size .i64 A' m ws) (hm : m ≤ 4294967295) (hok : wOK ws = true) (hne : (s.size : Int) ≠ sumW ws) :
    Calls Tryz.prog 67 #[.string s, .slice A' m c'] w fun e w' => e = .returned (.tuple #[.slice none 0 0, .int .i64 31]) ∧ Below w.heap.size w w' := by
  have h1 := (size_yes hok).1
  have h2 := (size_yes hok).2
  have hb : ((s.size : Int) != sumW ws) = true := by rw [bne_iff_ne]; exact hne
  generalize sumW ws = N at *
  go_enter Tryz.func67, Tryz.ntmps67
  go_wp2_with fail
  refine (size_any _ w.heap.size A' m c' ws (hw.below ((Below.refl _ _).alloc (Nat.le_refl _) _)) hm).mono ?_
  rintro e w1 ⟨rfl, rfl⟩
  rw [h1, h2]
  clear h1 h2
  go_wp2
  go_ret2
  exact ⟨rfl, (Below.refl _ _).alloc (Nat.le_refl _) _⟩

theorem run_makeI (n : Nat) (hn : n < 4294967296) (w : World) :
    (Instr.makeSlice 124 (.int .i64 (n : Int)) (.int .i64 (n : Int))).run Tryz.prog w = .ok (.slice (some ⟨w.heap.size, 0, none⟩) n n) (w.alloc (.cells (ivs .u64 (List.replicate n 0)).toArray 49)) := by
  obtain ⟨i0, hi, hz0, hz1, hz2⟩ := info_parts info_u64
  have hr := run_make (P := Tryz.prog) w 124 49 i0 (.int .u64 0) Tryz.underlying124 hi hz0 .i64 .i64 (n : Int) (n : Int) (by omega) (by omega) (by rw [hz2]; omega) (by omega)
  simp only [Int.toNat_natCast] at hr
  rw [hr, hz1, Nat.mul_one]
  congr 3
  apply Array.toList_inj.1
  rw [show (Value.int IntKind.u64 0).cells = #[.int .u64 0] from rfl, toList_madeCells_one]
  simp [ivs]

def decStep (l : List Nat) (p : (Nat × Nat) × UInt8) : List Nat := l.set p.1.1 (l.getD p.1.1 0 ||| p.2.toNat * 256 ^ p.1.2)
def decF (bs : List UInt8) (m : Nat) (ps : List (Nat × Nat)) : List Nat := (ps.zip bs).foldl decStep (List.replicate m 0)
theorem zip_snoc {α β : Type} (ps : List α) (x : α) (bs : List β) (h : ps.length < bs.length) : (ps ++ [x]).zip bs = ps.zip bs ++ [(x, bs[ps.length])] := by
  induction ps generalizing bs with
  | nil => cases bs with
    | nil => simp at h
    | cons b r => simp
  | cons y ps ih => cases bs with
    | nil => simp at h
    | cons b r => simp at h; simp [ih r h]
theorem decF_snoc (bs : List UInt8) (m : Nat) (ps : List (Nat × Nat)) (x : Nat × Nat) (h : ps.length < bs.length) : decF bs m (ps ++ [x]) = decStep (decF bs m ps) (x, bs[ps.length]) := by
  unfold decF
  rw [zip_snoc ps x bs h, List.foldl_append]
  rfl
theorem decF_len (bs : List UInt8) (m : Nat) (ps : List (Nat × Nat)) : (decF bs m ps).length = m := by
  unfold decF
  generalize ps.zip bs = q
  have : ∀ l : List Nat, l.length = m → (q.foldl decStep l).length = m := by
    induction q with
    | nil => intro l h; exact h
    | cons y q ih => intro l h; exact ih _ (by simp [decStep, h])
  exact this _ (by simp)
theorem or_place_eq (b : UInt8) (kk : Nat) (hk : kk < 8) : b.toNat * 256 ^ kk < 18446744073709551616 := by
  have hb := b.toNat_lt
  have h2 : 256 ^ kk ≤ 256 ^ 7 := Nat.pow_le_pow_right (by omega) (by omega)
  have h3 : b.toNat * 256 ^ kk ≤ 255 * 256 ^ 7 := Nat.mul_le_mul (by omega) h2
  omega
theorem or_place_lt (a : Nat) (b : UInt8) (kk : Nat) (ha : a < 18446744073709551616) (hk : kk < 8) : a ||| b.toNat * 256 ^ kk < 18446744073709551616 :=
  Nat.or_lt_two_pow (n := 64) ha (or_place_eq b kk hk)
theorem or_place (a : Nat) (b : UInt8) (kk : Nat) (ha : a < 18446744073709551616) (hk : kk < 8) :
    bits BinOp.or IntKind.u64 (a : Int) (IntKind.u64.wrap (IntKind.u64.wrap (b.toNat : Int) * 2 ^ (8 * kk))) = ((a ||| b.toNat * 256 ^ kk : Nat) : Int) := by
  have hb := b.toNat_lt
  have h1 := or_place_eq b kk hk
  have e1 : IntKind.u64.wrap (b.toNat : Int) = (b.toNat : Int) := by rw [IntKind.wrap_u64]; omega
  have e2 : (b.toNat : Int) * 2 ^ (8 * kk) = ((b.toNat * 256 ^ kk : Nat) : Int) := by
    rw [Int.natCast_mul, show (256 : Nat) = 2 ^ 8 from rfl, ← Nat.pow_mul, Int.natCast_pow]
    rfl
  rw [e1, e2, IntKind.wrap_u64]
  have e3 : ((b.toNat * 256 ^ kk : Nat) : Int) % 18446744073709551616 = ((b.toNat * 256 ^ kk : Nat) : Int) := by omega
  rw [e3, u64_or_nat _ _ ha h1]
def ivn (l : List Nat) : Array Value := (l.map fun n : Nat => Value.int .u64 (n : Int)).toArray
theorem ivn_get {l : List Nat} {i : Nat} (h : i < l.length) : (ivn l)[i]? = some (.int .u64 ((l.getD i 0 : Nat) : Int)) := by simp [ivn, h, List.getD]
theorem ivn_set (l : List Nat) (i n : Nat) : (ivn l).setIfInBounds i (.int .u64 (n : Int)) = ivn (l.set i n) := by
  unfold ivn
  rw [List.map_set]
  simp

set_option maxHeartbeats 2000000 in
theorem decode_ok (w : World) (s : ByteArray) (A' : Option Addr) (m c' : Nat) (ws : List Int) (hw : IntsA w w.heap.size .i64 A' m ws) (hm : m ≤ 4294967295) (hok : wOK ws = true) (he : (s.size : Int) = sumW ws) :
    Calls Tryz.prog 67 #[.string s, .slice A' m c'] w fun e w' => e = .returned (.tuple #[.slice (some ⟨w.heap.size + 1, 0, none⟩) m m, .int .i64 0]) ∧ Blk w' (w.heap.size + 1) 49 (ivn (decF s.data.toList m (placesF 0 ws))) ∧ Below w.heap.size w w' := by
  have h1 := (size_yes hok).1
  have h2 := (size_yes hok).2
  have HW := Lib.hid hw.1
  obtain ⟨N, hN⟩ : ∃ N : Nat, s.size = N := ⟨_, rfl⟩
  have HN := Lib.hid hN
  rw [← he] at h1
  rw [hN] at h1
  have hb : ((N : Int) != (N : Int)) = false := by simp
  have hN512 : N ≤ 512 := by
    have h3 := sumW_bd ws (by unfold wOK at hok; simp at hok; exact hok.1)
    have h4 : ws.length ≤ 64 := by unfold wOK at hok; simp at hok; exact hok.2
    omega
  have hm64 : m ≤ 64 := by
    have h4 : ws.length ≤ 64 := by unfold wOK at hok; simp at hok; exact hok.2
    rw [HW.out] at h4
    exact h4
  have hmk := run_makeI m (by omega)
  obtain ⟨z, hz⟩ : ∃ z, List.replicate m (0 : Int) = z := ⟨_, rfl⟩
  have hzl : z.length = m := by rw [← hz]; simp
  rw [hz] at hmk
  have HZL := Lib.hid hzl
  have HZ := Lib.hid hz
  clear hz hzl
  refine calls_marks Tryz.func67 rfl ?_
  simp only [Tryz.ntmps67, List.size_toArray, List.length_cons, List.length_nil, Nat.reduceAdd, Nat.reduceSub, Array.replicate_succ, Array.replicate_zero, List.push_toArray, List.append_toArray, List.nil_append, List.cons_append]
  go_wp2_with fail
  refine (size_any _ w.heap.size A' m c' ws (hw.below ((Below.refl _ _).alloc (Nat.le_refl _) _)) hm).mono ?_
  rintro e w1 ⟨rfl, rfl⟩
  rw [h1, h2]
  have HSW := Lib.hid (show sumW ws = (N : Int) by omega)
  clear h1 h2 he
  go_wp2_with fail
  refine (places_any _ A' m c').mono ?_
  rintro e w1 ⟨rfl, rfl⟩
  go_wp2_with fail
  have hk0 := Blk.new w 9 #[.string s]
  have hb0 := (Below.refl w.heap.size w).alloc (Nat.le_refl _) (.cells #[.string s] 9)
  have hs0 : (w.alloc (.cells #[.string s] 9)).heap.size = w.heap.size + 1 := by simp
  generalize w.alloc (.cells #[.string s] 9) = W0 at *
  have hr1 := Blk.new W0 49 (ivs .u64 z).toArray
  rw [hs0] at hr1
  have hk1 := hk0.alloc (.cells (ivs .u64 z).toArray 49)
  have hb1 := hb0.alloc hb0.size (.cells (ivs .u64 z).toArray 49)
  have hs1 : (W0.alloc (.cells (ivs .u64 z).toArray 49)).heap.size = w.heap.size + 1 + 1 := by simp; omega
  generalize W0.alloc (.cells (ivs .u64 z).toArray 49) = W1 at *
  have hl2 := Blk.new W1 124 #[.slice (some ⟨w.heap.size + 1, 0, none⟩) m m]
  rw [hs1] at hl2
  have hr2 := hr1.alloc (.cells #[.slice (some ⟨w.heap.size + 1, 0, none⟩) m m] 124)
  have hk2 := hk1.alloc (.cells #[.slice (some ⟨w.heap.size + 1, 0, none⟩) m m] 124)
  have hb2 := hb1.alloc hb1.size (.cells #[.slice (some ⟨w.heap.size + 1, 0, none⟩) m m] 124)
  have hs2 : (W1.alloc (.cells #[.slice (some ⟨w.heap.size + 1, 0, none⟩) m m] 124)).heap.size = w.heap.size + 1 + 1 + 1 := by simp; omega
  generalize W1.alloc (.cells #[.slice (some ⟨w.heap.size + 1, 0, none⟩) m m] 124) = W2 at *
  have hw3 := Blk.new W2 30 #[.slice A' m c']
  rw [hs2] at hw3
  have hr3 := hr2.alloc (.cells #[.slice A' m c'] 30)
  have hl3 := hl2.alloc (.cells #[.slice A' m c'] 30)
  have hk3 := hk2.alloc (.cells #[.slice A' m c'] 30)
  have hb3 := hb2.alloc hb2.size (.cells #[.slice A' m c'] 30)
  have hs3 : (W2.alloc (.cells #[.slice A' m c'] 30)).heap.size = w.heap.size + 1 + 1 + 1 + 1 := by simp; omega
  generalize W2.alloc (.cells #[.slice A' m c'] 30) = R at *
  clear hk0 hb0 hr1 hk1 hb1 hl2 hr2 hk2 hb2 hs0 hs1 hs2 hmk
  have hws : ∀ x ∈ ws, 1 ≤ x ∧ x ≤ 8 := by unfold wOK at hok; simp at hok; exact hok.1
  have hr3 : Blk R (w.heap.size + 1) 49 (ivn (decF s.data.toList m [])) := by
    have : (ivs .u64 z).toArray = ivn (decF s.data.toList m []) := by
      rw [← HZ.out]
      simp [ivs, ivn, decF]
    rw [← this]
    exact hr3
  refine wp_range w.heap.size (by omega) rfl (enters_of Tryz.func232 (by kernel_rfl) rfl)
    (places_stops (w.heap.size + 1 + 1 + 1) w.heap.size A' m c' ws hws hm R (by omega) (by omega) (hw3.cell 0) (hw.below hb3)) (fun _ => rfl)
    (fun pre V => (∃ T : ByteArray, Blk V w.heap.size 9 #[.string T] ∧ T.data.toList = s.data.toList.drop pre.length) ∧ Blk V (w.heap.size + 1) 49 (ivn (decF s.data.toList m (pre.map (·.1)))) ∧ (∀ x ∈ decF s.data.toList m (pre.map (·.1)), x < 18446744073709551616) ∧
      Blk V (w.heap.size + 1 + 1) 124 #[.slice (some ⟨w.heap.size + 1, 0, none⟩) m m] ∧ Below w.heap.size w V)
    (fun _ _ _ => False) ?hI (fun _ _ _ _ _ hs _ _ => hs) ⟨⟨s, hk3, by simp⟩, hr3, ?h0, hl3, hb3⟩ ?hround ?hdone (fun _ _ _ _ _ _ h => h.elim)
  case h0 =>
    intro x hx
    unfold decF at hx
    simp at hx
    omega
  case hI =>
    rintro st V V' row ⟨⟨T, h1, h2⟩, h3, h4, h5, h6⟩ hg hr
    exact ⟨⟨T, h1.turn hg hr, h2⟩, h3.turn hg hr, h4, h5.turn hg hr, below_turn h6 (Nat.le_refl _) (by omega) hg hr⟩
  case hround =>
    apply Exists.intro
    constructor
    · intro l x V K hK
      dsimp only [plEnc]
      gi_wp2
      exact hK
    · rintro l pre x V ⟨⟨T, h1, h2⟩, h3, h4, h5, h6⟩ hlen
      gi_wp2
      obtain ⟨⟨i, kk⟩, hik, hkk⟩ := x
      replace hik : i < m := hik
      replace hkk : kk < 8 := hkk
      have hTl := congrArg List.length h2
      rw [List.length_drop] at hTl
      have hT0 : 0 < T.size := by
        have e1 : T.data.toList.length = T.size := by simp
        have e2 : s.data.toList.length = s.size := by simp
        rw [HN.out] at e2
        rw [HSW.out, Int.toNat_natCast] at hlen
        omega
      have hdl := decF_len s.data.toList m (pre.map (·.1))
      have hrc := h3.cell i
      rw [ivn_get (by rw [hdl]; exact hik)] at hrc
      have hab : (decF s.data.toList m (pre.map (·.1))).getD i 0 < 18446744073709551616 := by
        have : i < (decF s.data.toList m (pre.map (·.1))).length := by rw [hdl]; exact hik
        exact h4 _ (by simp [List.getD, this])
      obtain ⟨a, ha⟩ : ∃ a, (decF s.data.toList m (pre.map (·.1))).getD i 0 = a := ⟨_, rfl⟩
      rw [ha] at hrc hab
      have HA := Lib.hid ha
      have HT := Lib.hid h2
      clear ha h2 hTl hdl
      have hS : V.drew.cell? ⟨w.heap.size, 0, none⟩ = some (.string T) ∧ V.drew.cell? ⟨w.heap.size + 1 + 1, 0, none⟩ = some (.slice (some ⟨w.heap.size + 1, 0, none⟩) m m) ∧ V.drew.cell? ⟨w.heap.size + 1, i, none⟩ = some (.int .u64 (a : Int)) := ⟨h1.cell 0, h5.cell 0, hrc⟩
      refine wpIn_region_nf l (fun V' => V'.cell? ⟨w.heap.size, 0, none⟩ = some (.string T) ∧ V'.cell? ⟨w.heap.size + 1 + 1, 0, none⟩ = some (.slice (some ⟨w.heap.size + 1, 0, none⟩) m m) ∧ V'.cell? ⟨w.heap.size + 1, i, none⟩ = some (.int .u64 (a : Int))) (fun j => j == 11)
        [(0, true), (1, true), (2, true), (3, true), (4, true), (5, true), (6, true), (7, true), (8, true), (9, true), (10, true), (11, false)] (by kernel_rfl) rfl (by kernel_rfl) (by kernel_rfl) (fun d _ _ _ _ h => by cases d <;> exact h) (by kernel_rfl) (fun ⟨_, _, h⟩ => h) ?_
      refine nf_pure rfl hS (fun w1 hS => by obtain ⟨g1, g2, g3⟩ := hS; go_wp2; exact ⟨rfl, rfl, rfl⟩) rfl ?_ ?_
      rfl
      refine nf_pure rfl hS (fun w1 hS => by obtain ⟨g1, g2, g3⟩ := hS; go_wp2; exact ⟨rfl, rfl, rfl⟩) rfl ?_ ?_
      rfl
      refine nf_pure rfl hS (fun w1 hS => by obtain ⟨g1, g2, g3⟩ := hS; go_wp2; exact ⟨rfl, rfl, rfl⟩) rfl ?_ ?_
      rfl
      refine nf_pure rfl hS (fun w1 hS => by obtain ⟨g1, g2, g3⟩ := hS; go_wp2; exact ⟨rfl, rfl, rfl⟩) rfl ?_ ?_
      rfl
      refine nf_pure rfl hS (fun w1 hS => by obtain ⟨g1, g2, g3⟩ := hS; go_wp2; exact ⟨rfl, rfl, rfl⟩) rfl ?_ ?_
      rfl
      refine nf_pure rfl hS (fun w1 hS => by obtain ⟨g1, g2, g3⟩ := hS; go_wp2; exact ⟨rfl, rfl, rfl⟩) rfl ?_ ?_
      rfl
      refine nf_pure rfl hS (fun w1 hS => by obtain ⟨g1, g2, g3⟩ := hS; go_wp2; exact ⟨rfl, rfl, rfl⟩) rfl ?_ ?_
      rfl
      refine nf_pure rfl hS (fun w1 hS => by obtain ⟨g1, g2, g3⟩ := hS; go_wp2; exact ⟨rfl, rfl, rfl⟩) rfl ?_ ?_
      rfl
      refine nf_pure rfl hS (fun w1 hS => by obtain ⟨g1, g2, g3⟩ := hS; go_wp2; exact ⟨rfl, rfl, rfl⟩) rfl ?_ ?_
      rfl
      refine nf_pure rfl hS (fun w1 hS => by obtain ⟨g1, g2, g3⟩ := hS; go_wp2; exact ⟨rfl, rfl, rfl⟩) rfl ?_ ?_
      rfl
      obtain ⟨b, hb8⟩ : ∃ b : UInt8, T[0] = b := ⟨_, rfl⟩
      obtain ⟨a', hor, hal, hae⟩ : ∃ a' : Nat, bits BinOp.or IntKind.u64 (a : Int) (IntKind.u64.wrap (IntKind.u64.wrap (T[0].toNat : Int) * 2 ^ (8 * kk))) = (a' : Int) ∧ a' < 18446744073709551616 ∧ a' = a ||| b.toNat * 256 ^ kk := by
        rw [hb8]
        exact ⟨_, or_place a b kk hab hkk, or_place_lt a b kk hab hkk, rfl⟩
      rw [hor]
      have HAE := Lib.hid hae
      have HB8 := Lib.hid hb8
      clear hae hb8 hor
      refine nf_pure rfl hS (fun w1 hS => by obtain ⟨g1, g2, g3⟩ := hS; go_wp2; exact ⟨rfl, rfl, rfl⟩) rfl ?_ ?_
      rfl
      have hf0 := h3.frozen i
      refine nf_imp rfl ?_
      go_wp2_with fail
      refine ⟨fun h => (by cases h), ?_⟩
      refine nf_nil ?_
      have hsc0 := h1.cell 0
      have hsf0 := h1.frozen 0
      gi_wp2
      have hbs : pre.length < s.data.toList.length := by
        have e2 : s.data.toList.length = s.size := by simp
        rw [e2, HN.out]
        rw [HSW.out, Int.toNat_natCast] at hlen
        exact hlen
      have hbe : s.data.toList[pre.length] = b := by
        rw [← HB8.out]
        have e3 : T.data.toList[0]? = s.data.toList[pre.length]? := by rw [HT.out]; simp
        rw [List.getElem?_eq_getElem hbs, List.getElem?_eq_getElem (show 0 < T.data.toList.length by simpa using hT0)] at e3
        exact (Option.some.inj e3).symm
      have hdn : decF s.data.toList m (List.map (fun x : Pl m => x.1) (pre ++ [⟨(i, kk), hik, hkk⟩])) = (decF s.data.toList m (List.map (fun x : Pl m => x.1) pre)).set i a' := by
        rw [List.map_append, List.map_cons, List.map_nil, decF_snoc _ _ _ _ (by rw [List.length_map]; exact hbs)]
        simp only [decStep, List.length_map, hbe, HA.out, HAE.out]
      refine ⟨((keeps_set (p := ⟨w.heap.size + 1, i, none⟩) (by show w.heap.size + 1 < _; omega) V _).trans (keeps_set (p := ⟨w.heap.size, 0, none⟩) (by show w.heap.size < _; omega) _ _)).trans (keeps_drew _ _),
        (((Below.refl _ V).setCell (by show w.heap.size ≤ w.heap.size + 1; omega) _).setCell (by show w.heap.size ≤ w.heap.size; omega) _).drew,
        ⟨T.extract 1 T.size, ((h1.far (p := ⟨w.heap.size + 1, i, none⟩) (by show ¬ w.heap.size = w.heap.size + 1; omega) _).set_ 0 _).drew, ?_⟩, ?_, ?_,
        ((h5.far (p := ⟨w.heap.size + 1, i, none⟩) (by show ¬ _ = w.heap.size + 1; omega) _).far (p := ⟨w.heap.size, 0, none⟩) (by show ¬ _ = w.heap.size; omega) _).drew,
        ((h6.setCell (by show w.heap.size ≤ w.heap.size + 1; omega) _).setCell (by show w.heap.size ≤ w.heap.size; omega) _).drew⟩
      · rw [List.length_append, List.length_singleton, ← List.drop_drop, ← HT.out]
        rw [ByteArray.data_extract, Array.toList_extract, List.extract_eq_take_drop]
        rw [List.take_of_length_le (by simp)]
      · rw [hdn, ← ivn_set]
        exact ((h3.set_ i _).far (p := ⟨w.heap.size, 0, none⟩) (by show ¬ w.heap.size + 1 = w.heap.size; omega) _).drew
      · rw [hdn]
        intro x hx
        rcases List.mem_or_eq_of_mem_set hx with h | h
        · exact h4 x h
        · omega
  case hdone =>
    rintro D xs V hD hxs ⟨⟨T, h1, h2⟩, h3, h4, h5, h6⟩ hdef
    rw [hxs] at h3
    have hl0 := h5.cell 0
    clear h1 h2 h4
    go_wp2_with fail
    refine ret_mark rfl hdef (results_tmp2 rfl _ _ _) ?_
    refine ⟨rfl, ?_, h6.trans (belowK_b (w := w) (Nat.le_refl _) V D _ _ (by omega) hdef rfl rfl)⟩
    exact (World.putObj_heap_other (by omega)).trans h3
end Go.Proofs.YtmhmdoobadckkaaGreatDoor
/- The plain law of packing: what the places come to, number by number. -/
namespace Go.Proofs.YtmhmdoobadckkaaGreatDoor
set_option maxRecDepth 20000
open Go.RowKit Go.OpenShut

def leN : List UInt8 → Nat
  | [] => 0
  | b :: t => b.toNat + 256 * leN t
def leB (x w : Nat) : List UInt8 := (List.range w).map fun j => UInt8.ofNat (x / 256 ^ j)
def decL : List Int → List UInt8 → List Nat
  | [], _ => []
  | w :: r, bs => leN (bs.take w.toNat) :: decL r (bs.drop w.toNat)
def encLL : List Nat → List Int → List UInt8
  | x :: l, w :: r => leB x w.toNat ++ encLL l r
  | _, _ => []
theorem decL_len : ∀ (ws : List Int) (bs : List UInt8), (decL ws bs).length = ws.length
  | [], _ => rfl
  | _ :: r, bs => by simp [decL, decL_len r]
theorem leB_len (x w : Nat) : (leB x w).length = w := by simp [leB]
theorem leB_succ (x w : Nat) : leB x (w + 1) = UInt8.ofNat x :: leB (x / 256) w := by
  unfold leB
  rw [List.range_succ_eq_map, List.map_cons, List.map_map]
  congr 1
  · simp
  · refine List.map_congr_left fun j _ => ?_
    simp only [Function.comp, Nat.succ_eq_add_one]
    rw [Nat.pow_succ', Nat.div_div_eq_div_mul]
theorem leN_leB : ∀ (w x : Nat), leN (leB x w) = x % 256 ^ w
  | 0, x => by simp [leB, leN, Nat.mod_one]
  | w + 1, x => by
    rw [leB_succ, leN, leN_leB w]
    have h1 : x % 256 ^ (w + 1) = x % 256 + 256 * (x / 256 % 256 ^ w) := by
      rw [Nat.pow_succ', Nat.mod_mul]
    rw [h1]
    simp
theorem leN_lt : ∀ (t : List UInt8), leN t < 256 ^ t.length
  | [] => by simp [leN]
  | b :: t => by
    have h := leN_lt t
    have hb := b.toNat_lt
    simp only [leN, List.length_cons, Nat.pow_succ']
    omega
theorem leB_leN : ∀ (t : List UInt8), leB (leN t) t.length = t
  | [] => rfl
  | b :: t => by
    have hb := b.toNat_lt
    rw [List.length_cons, leB_succ]
    have h1 : UInt8.ofNat (leN (b :: t)) = b := by
      have : leN (b :: t) % 256 = b.toNat := by rw [leN]; omega
      rw [← UInt8.toNat_inj]
      simp [this]
    have h2 : leN (b :: t) / 256 = leN t := by rw [leN]; omega
    rw [h1, h2, leB_leN t]
theorem leN_take_lt (w : Nat) (bs : List UInt8) : leN (bs.take w) < 256 ^ w :=
  Nat.lt_of_lt_of_le (leN_lt _) (Nat.pow_le_pow_right (by omega) (List.length_take_le _ _))
theorem sumW_cons (x : Int) (r : List Int) : sumW (x :: r) = x + sumW r := rfl
theorem encLL_len : ∀ (l : List Nat) (ws : List Int), (∀ x ∈ ws, 1 ≤ x ∧ x ≤ 8) → l.length = ws.length → ((encLL l ws).length : Int) = sumW ws
  | [], [], _, _ => rfl
  | x :: l, w :: r, h, hl => by
    have h1 := h w (by simp)
    have h2 := encLL_len l r (fun y hy => h y (by simp [hy])) (by simpa using hl)
    rw [encLL, List.length_append, leB_len, sumW_cons]
    omega
/-- numbers that fit come back -/
theorem dec_enc : ∀ (l : List Nat) (ws : List Int), l.length = ws.length → (∀ i, i < ws.length → l.getD i 0 < 256 ^ (ws.getD i 0).toNat) → decL ws (encLL l ws) = l
  | [], [], _, _ => rfl
  | x :: l, w :: r, hl, hf => by
    have h0 := hf 0 (by simp)
    simp at h0
    rw [encLL, decL, List.take_append_of_le_length (by rw [leB_len]; exact Nat.le_refl _), List.take_of_length_le (by rw [leB_len]; exact Nat.le_refl _), leN_leB, Nat.mod_eq_of_lt h0,
      List.drop_append_of_le_length (by rw [leB_len]; exact Nat.le_refl _), List.drop_of_length_le (by rw [leB_len]; exact Nat.le_refl _), List.nil_append, dec_enc l r (by simpa using hl)]
    intro i hi
    have := hf (i + 1) (by simp; omega)
    simpa using this
/-- .. and bytes -/
theorem enc_dec : ∀ (ws : List Int) (bs : List UInt8), (∀ x ∈ ws, 1 ≤ x ∧ x ≤ 8) → (bs.length : Int) = sumW ws → encLL (decL ws bs) ws = bs
  | [], bs, _, h => by
    have : bs = [] := List.eq_nil_of_length_eq_zero (by simp [sumW] at h; simp [h])
    rw [this]
    rfl
  | w :: r, bs, hw, h => by
    have h1 := hw w (by simp)
    have hr : ∀ x ∈ r, 1 ≤ x ∧ x ≤ 8 := fun y hy => hw y (List.mem_cons_of_mem _ hy)
    have h2 := (sumW_bd r hr).1
    rw [sumW_cons] at h
    have h3 : (bs.take w.toNat).length = w.toNat := by simp; omega
    rw [decL, encLL, enc_dec r (bs.drop w.toNat) hr (by simp; omega)]
    have h4 := leB_leN (bs.take w.toNat)
    rw [h3] at h4
    rw [h4, List.take_append_drop]
theorem decL_fits : ∀ (ws : List Int) (bs : List UInt8) (i : Nat), i < ws.length → (decL ws bs).getD i 0 < 256 ^ (ws.getD i 0).toNat
  | w :: r, bs, 0, _ => by
    simp [decL]
    exact leN_take_lt _ _
  | w :: r, bs, i + 1, h => by
    have := decL_fits r (bs.drop w.toNat) i (by simpa using h)
    simpa [decL] using this

/-! ### the program's places -/
theorem or_add (a b k : Nat) (h : a < 256 ^ k) : a ||| b * 256 ^ k = a + 256 ^ k * b := by
  rw [show (256 : Nat) = 2 ^ 8 from rfl, ← Nat.pow_mul] at *
  rw [Nat.or_comm, Nat.mul_comm b, ← Nat.two_pow_add_eq_or_of_lt h, Nat.add_comm]
theorem foldl_block (acc z : List Nat) : ∀ (t : List UInt8) (k a : Nat), a < 256 ^ k →
    ((((List.range' k t.length).map fun j => (acc.length, j)).zip t).foldl decStep (acc ++ a :: z)) = acc ++ (a + 256 ^ k * leN t) :: z
  | [], k, a, _ => by simp [leN]
  | b :: t, k, a, h => by
    have hb := b.toNat_lt
    rw [List.length_cons, List.range'_succ, List.map_cons, List.zip_cons_cons, List.foldl_cons]
    have h1 : decStep (acc ++ a :: z) ((acc.length, k), b) = acc ++ (a ||| b.toNat * 256 ^ k) :: z := by
      simp [decStep, List.getD]
    have h2 : a + 256 ^ k * b.toNat < 256 ^ (k + 1) := by
      rw [Nat.pow_succ]
      have : 256 ^ k * b.toNat ≤ 256 ^ k * 255 := Nat.mul_le_mul_left _ (by omega)
      omega
    rw [h1, or_add a _ k h, foldl_block acc z t (k + 1) _ h2, leN]
    congr 2
    rw [Nat.pow_succ, Nat.mul_add, Nat.mul_assoc]
    omega
theorem decF_gen : ∀ (ws : List Int) (acc : List Nat) (bs : List UInt8), (∀ x ∈ ws, 1 ≤ x ∧ x ≤ 8) → (bs.length : Int) = sumW ws →
    (((placesF acc.length ws).zip bs).foldl decStep (acc ++ List.replicate ws.length 0)) = acc ++ decL ws bs
  | [], acc, bs, _, _ => by simp [placesF, decL]
  | w :: r, acc, bs, hw, h => by
    have h1 := hw w (by simp)
    have hr : ∀ x ∈ r, 1 ≤ x ∧ x ≤ 8 := fun y hy => hw y (List.mem_cons_of_mem _ hy)
    have h2 := (sumW_bd r hr).1
    rw [sumW_cons] at h
    have h3 : (bs.take w.toNat).length = w.toNat := by simp; omega
    rw [placesF]
    conv => lhs; rw [← List.take_append_drop w.toNat bs]
    rw [List.zip_append (by simp; omega), List.foldl_append, List.length_cons, List.replicate_succ]
    have h4 := foldl_block acc (List.replicate r.length 0) (bs.take w.toNat) 0 0 (by simp)
    rw [h3, ← List.range_eq_range'] at h4
    rw [h4]
    have h5 := decF_gen r (acc ++ [leN (bs.take w.toNat)]) (bs.drop w.toNat) hr (by simp; omega)
    rw [List.length_append, List.length_singleton] at h5
    simp only [Nat.pow_zero, Nat.one_mul, Nat.zero_add, decL]
    simpa using h5
theorem decF_eq (ws : List Int) (bs : List UInt8) (h : ∀ x ∈ ws, 1 ≤ x ∧ x ≤ 8) (hb : (bs.length : Int) = sumW ws) : decF bs ws.length (placesF 0 ws) = decL ws bs := by
  have := decF_gen ws [] bs h hb
  simpa [decF] using this
theorem encL_gen : ∀ (ws : List Int) (ls pre : List Int), ls.length = ws.length → (placesF pre.length ws).map (encByte (pre ++ ls)) = encLL (ls.map Int.toNat) ws
  | [], [], pre, _ => by simp [placesF, encLL]
  | w :: r, x :: ls, pre, h => by
    rw [placesF, List.map_append, List.map_map, List.map_cons, encLL]
    have h1 := encL_gen r ls (pre ++ [x]) (by simpa using h)
    rw [List.length_append, List.length_singleton, List.append_assoc, List.singleton_append] at h1
    rw [h1]
    congr 1
    unfold leB
    refine List.map_congr_left fun j _ => ?_
    simp [Function.comp, encByte, List.getD]
theorem encL_eq (ls ws : List Int) (h : ls.length = ws.length) : encL ls ws = encLL (ls.map Int.toNat) ws := by
  have := encL_gen ws ls [] h
  simpa [encL] using this
theorem encS_size {ls ws : List Int} (h0 : wOK ws = true) (h1 : ls.length = ws.length) (h : allFit ls ws = true) : ((encS ls ws).size : Int) = sumW ws := by
  rw [(enc_ok h0 h1 h).2, ← placesF_length 0 ws (by unfold wOK at h0; simp at h0; exact h0.1)]
  show (((encL ls ws).toArray.size : Nat) : Int) = _
  simp [encL]
end Go.Proofs.YtmhmdoobadckkaaGreatDoor
/- pack: Decode for all inputs, and Encode of two new literals. -/
namespace Go.Proofs.YtmhmdoobadckkaaGreatDoor
set_option maxRecDepth 20000
open Go.RowKit Go.OpenShut

theorem cell_one (w : World) (v : Value) (t : TypeId) : (w.alloc (.cells #[v] t)).cell? ⟨w.heap.size, 0, none⟩ = some v := (Blk.new w t #[v]).cell 0
theorem ivn_ints (l : List Nat) : ivn l = ((l.map fun n : Nat => (n : Int)).map (Value.int .u64)).toArray := by
  unfold ivn
  rw [List.map_map]
  rfl
theorem IntsA.blk {w : World} {g n B : Nat} {k : IntKind} {t : TypeId} {xs : List Int} (h : Blk w g t (xs.map (Value.int k)).toArray) (hn : xs.length = n) (hB : g < B) : IntsA w B k (some ⟨g, 0, none⟩) n xs := by
  refine ⟨hn, fun _ => ⟨g, 0, rfl, hB, fun j hj => ?_⟩⟩
  rw [h.cell, Nat.zero_add]
  simp [List.getD, hn ▸ hj]
theorem IntsA.drew {w : World} {B : Nat} {k : IntKind} {A : Option Addr} {n : Nat} {xs : List Int} (h : IntsA w B k A n xs) : IntsA w.drew B k A n xs := h

/-- Encode of two new literals -/
theorem encode_new (w : World) (ls ws : List Int) (n m : Nat) (hn : ls.length = n) (hm : ws.length = m) (hm' : m ≤ 4294967295) (hu : ∀ x ∈ ls, 0 ≤ x ∧ x < 18446744073709551616) (cs ds : Array Value) (hcs : cs = (ls.map (Value.int .u64)).toArray) (hds : ds = (ws.map (Value.int .i64)).toArray) :
    Calls Tryz.prog 152 #[.slice (some ⟨w.heap.size, 0, none⟩) n n, .slice (some ⟨w.heap.size + 1, 0, none⟩) m m] ((w.alloc (.cells cs 49)).alloc (.cells ds 3))
      fun e w' => e = .returned (.tuple #[.string (encS ls ws), .int .i64 (encE ls ws)]) ∧ Below w.heap.size w w' := by
  subst hcs hds
  have b1 := (Blk.new w 49 (ls.map (Value.int .u64)).toArray).alloc (.cells (ws.map (Value.int .i64)).toArray 3)
  have b2 := Blk.new (w.alloc (.cells (ls.map (Value.int .u64)).toArray 49)) 3 (ws.map (Value.int .i64)).toArray
  have hb0 := ((Below.refl w.heap.size w).alloc (Nat.le_refl _) (.cells (ls.map (Value.int .u64)).toArray 49)).alloc (by simp) (.cells (ws.map (Value.int .i64)).toArray 3)
  have hs : ((w.alloc (.cells (ls.map (Value.int .u64)).toArray 49)).alloc (.cells (ws.map (Value.int .i64)).toArray 3)).heap.size = w.heap.size + 1 + 1 := by simp
  rw [show (w.alloc (.cells (ls.map (Value.int .u64)).toArray 49)).heap.size = w.heap.size + 1 by simp] at b2
  generalize ((w.alloc (.cells (ls.map (Value.int .u64)).toArray 49)).alloc (.cells (ws.map (Value.int .i64)).toArray 3)) = W at *
  refine (encode_any W _ _ n n m m ls ws (IntsA.blk b1 hn (by omega)) (IntsA.blk b2 hm (by omega)) hm' hu).mono ?_
  rintro e w1 ⟨rfl, hb⟩
  exact ⟨rfl, hb0.trans (hb.mono (by omega))⟩

def decX (ws : List Int) (s : ByteArray) : List Int := if decE ws s = 0 then (decL ws s.data.toList).map fun n : Nat => (n : Int) else []
theorem dec_w {ws : List Int} (h : wOK ws = false) (s : ByteArray) : decE ws s = 1 ∧ decX ws s = [] := by
  have e : decE ws s = 1 := by unfold decE; rw [h]; rfl
  exact ⟨e, by unfold decX; rw [e]; rfl⟩
theorem dec_s {ws : List Int} (h : wOK ws = true) {s : ByteArray} (hs : (s.size : Int) ≠ sumW ws) : decE ws s = 31 ∧ decX ws s = [] := by
  have e : decE ws s = 31 := by unfold decE; rw [h, if_pos rfl, if_neg hs]
  exact ⟨e, by unfold decX; rw [e]; rfl⟩
theorem dec_ok {ws : List Int} (h : wOK ws = true) {s : ByteArray} (hs : (s.size : Int) = sumW ws) : decE ws s = 0 ∧ decX ws s = (decL ws s.data.toList).map fun n : Nat => (n : Int) := by
  have e : decE ws s = 0 := by unfold decE; rw [h, if_pos rfl, if_pos hs]
  exact ⟨e, by unfold decX; rw [e]; rfl⟩

theorem decode_any (w : World) (s : ByteArray) (A' : Option Addr) (m c' : Nat) (ws : List Int) (hw : IntsA w w.heap.size .i64 A' m ws) (hm : m ≤ 4294967295) :
    Calls Tryz.prog 67 #[.string s, .slice A' m c'] w fun e w' => ∃ A n c, e = .returned (.tuple #[.slice A n c, .int .i64 (decE ws s)]) ∧ IntsA w' w'.heap.size .u64 A n (decX ws s) ∧ Below w.heap.size w w' := by
  by_cases h0 : wOK ws = true
  · by_cases h1 : (s.size : Int) = sumW ws
    · rw [(dec_ok h0 h1).1, (dec_ok h0 h1).2]
      refine (decode_ok w s A' m c' ws hw hm h0 h1).mono ?_
      rintro e w' ⟨rfl, hr, hb⟩
      have hbd : ∀ x ∈ ws, 1 ≤ x ∧ x ≤ 8 := by unfold wOK at h0; simp at h0; exact h0.1
      have h3 := decF_eq ws s.data.toList hbd (by rw [← h1]; simp)
      rw [hw.1] at h3
      rw [h3, ivn_ints] at hr
      exact ⟨_, _, _, rfl, IntsA.blk hr (by rw [List.length_map, decL_len]; exact hw.1) hr.lt, hb⟩
    · rw [(dec_s h0 h1).1, (dec_s h0 h1).2]
      refine (decode_short w s A' m c' ws hw hm h0 h1).mono ?_
      rintro e w' ⟨rfl, hb⟩
      exact ⟨_, _, _, rfl, ⟨rfl, fun h => by omega⟩, hb⟩
  · have h0 : wOK ws = false := by simpa using h0
    rw [(dec_w h0 s).1, (dec_w h0 s).2]
    refine (decode_w w s A' m c' ws hw hm h0).mono ?_
    rintro e w' ⟨rfl, hb⟩
    exact ⟨_, _, _, rfl, ⟨rfl, fun h => by omega⟩, hb⟩

end Go.Proofs.YtmhmdoobadckkaaGreatDoor
/- row.Read's round: what it keeps, step by step. -/
namespace Go.Proofs.YtmhmdoobadckkaaGreatDoor
set_option maxRecDepth 20000
open Go.RowKit Go.OpenShut

structure RdSt (n₀ p : Nat) (PC : Array Value) (V : World) (v1 : Value) (l1 : List Value) (v2 : Value) (l2 : List Value) : Prop where
  bl : Blk V (p + 1) 22 #[v1]
  o1 : OwnV 9 V n₀ v1 l1
  bo : Blk V (p + 1 + 1) 30 #[v2]
  o2 : OwnV 3 V n₀ v2 l2
  box : Blk V (p + 1 + 1 + 1) 147 PC
  r6 : Blk V (n₀ + 1) 22 #[.slice none 0 0]
  r7 : Blk V (n₀ + 1 + 1) 30 #[.slice none 0 0]
  r8 : Blk V (n₀ + 1 + 1 + 1) 35 #[.int .i64 0]
  lt : n₀ + 1 + 1 + 1 < p + 1
section
variable {n₀ p B : Nat} {PC : Array Value} {V w4 : World} {v1 v2 v4 : Value} {l1 l2 : List Value} {u : Value}
theorem RdSt.size (h : RdSt n₀ p PC V v1 l1 v2 l2) : n₀ ≤ V.heap.size := by have := h.r8.lt; omega
theorem RdSt.turn {V' : World} {row : Option Nat} {B : Nat} (h : RdSt n₀ p PC V v1 l1 v2 l2) (hg : V.grownBy V' row) (hr : FarRow B V row) : RdSt n₀ p PC V' v1 l1 v2 l2 :=
  ⟨h.bl.turn hg hr, h.o1.turn hg hr, h.bo.turn hg hr, h.o2.turn hg hr, h.box.turn hg hr, h.r6.turn hg hr, h.r7.turn hg hr, h.r8.turn hg hr, h.lt⟩
theorem RdSt.pushS (h : RdSt n₀ p PC V v1 l1 v2 l2) (hB : p + 1 < B) (ho : OwnV 9 w4 n₀ v4 (l1 ++ [u])) (hg : (V.alloc (.cells #[u] 9)).grownBy w4 v1.ownBlock) :
    RdSt n₀ p PC (w4.setCell ⟨p + 1, 0, none⟩ v4) v4 (l1 ++ [u]) v2 l2 ∧ KeepsFrom B V (w4.setCell ⟨p + 1, 0, none⟩ v4) ∧ KBox n₀ (p + 1 + 1 + 1) V (w4.setCell ⟨p + 1, 0, none⟩ v4) := by
  have ha := h.o1.alloc (.cells #[u] 9)
  have hk : ∀ {b : Nat} {t : TypeId} {cs : Array Value}, Blk V b t cs → t ≠ 9 → Blk w4 b t cs := fun hb ht => (hb.alloc _).grown hg (ha.ne_blk' (hb.alloc _) ht)
  have hlt := h.lt
  have hs := h.size
  have hbw : Below n₀ V w4 := ((Below.refl n₀ V).alloc hs _).grown hg (by simp; omega) (fun k e => (World.ownsRow.lt h.o1 k e).1)
  have hbl := hk h.bl (by decide)
  have hbox := (hk h.box (by decide)).far (p := ⟨p + 1, 0, none⟩) (by show p + 1 + 1 + 1 ≠ p + 1; omega) v4
  refine ⟨⟨hbl.set_ 0 v4, ho.far (ho.ne_blk' hbl (by decide)) _, (hk h.bo (by decide)).far (by show p + 1 + 1 ≠ p + 1; omega) _, ?_, hbox, (hk h.r6 (by decide)).far (by show n₀ + 1 ≠ p + 1; omega) _, (hk h.r7 (by decide)).far (by show n₀ + 1 + 1 ≠ p + 1; omega) _, (hk h.r8 (by decide)).far (by show n₀ + 1 + 1 + 1 ≠ p + 1; omega) _, hlt⟩, ?_, hbw.setCell (by show n₀ ≤ p + 1; omega) _, hbox.trans h.box.symm⟩
  · have h2 := (h.o2.alloc (.cells #[u] 9)).grown ha (by decide) hg
    exact h2.far (h2.ne_blk' hbl (by decide)) _
  · exact ((keeps_alloc B V _).trans (keeps_appV ha hg)).trans (keeps_set (p := ⟨p + 1, 0, none⟩) hB _ _)
theorem RdSt.pushI (h : RdSt n₀ p PC V v1 l1 v2 l2) (hB : p + 1 + 1 < B) (ho : OwnV 3 w4 n₀ v4 (l2 ++ [u])) (hg : (V.alloc (.cells #[u] 3)).grownBy w4 v2.ownBlock) :
    RdSt n₀ p PC (w4.setCell ⟨p + 1 + 1, 0, none⟩ v4) v1 l1 v4 (l2 ++ [u]) ∧ KeepsFrom B V (w4.setCell ⟨p + 1 + 1, 0, none⟩ v4) ∧ KBox n₀ (p + 1 + 1 + 1) V (w4.setCell ⟨p + 1 + 1, 0, none⟩ v4) := by
  have ha := h.o2.alloc (.cells #[u] 3)
  have hk : ∀ {b : Nat} {t : TypeId} {cs : Array Value}, Blk V b t cs → t ≠ 3 → Blk w4 b t cs := fun hb ht => (hb.alloc _).grown hg (ha.ne_blk' (hb.alloc _) ht)
  have hlt := h.lt
  have hs := h.size
  have hbw : Below n₀ V w4 := ((Below.refl n₀ V).alloc hs _).grown hg (by simp; omega) (fun k e => (World.ownsRow.lt h.o2 k e).1)
  have hbo := hk h.bo (by decide)
  have hbox := (hk h.box (by decide)).far (p := ⟨p + 1 + 1, 0, none⟩) (by show p + 1 + 1 + 1 ≠ p + 1 + 1; omega) v4
  refine ⟨⟨(hk h.bl (by decide)).far (by show p + 1 ≠ p + 1 + 1; omega) _, ?_, hbo.set_ 0 v4, ho.far (ho.ne_blk' hbo (by decide)) _, hbox, (hk h.r6 (by decide)).far (by show n₀ + 1 ≠ p + 1 + 1; omega) _, (hk h.r7 (by decide)).far (by show n₀ + 1 + 1 ≠ p + 1 + 1; omega) _, (hk h.r8 (by decide)).far (by show n₀ + 1 + 1 + 1 ≠ p + 1 + 1; omega) _, hlt⟩, ?_, hbw.setCell (by show n₀ ≤ p + 1 + 1; omega) _, hbox.trans h.box.symm⟩
  · have h2 := (h.o1.alloc (.cells #[u] 3)).grown ha (by decide) hg
    exact h2.far (h2.ne_blk' hbo (by decide)) _
  · exact ((keeps_alloc B V _).trans (keeps_appV ha hg)).trans (keeps_set (p := ⟨p + 1 + 1, 0, none⟩) hB _ _)
end
end Go.Proofs.YtmhmdoobadckkaaGreatDoor
/- row.Read: the walk. -/
namespace Go.Proofs.YtmhmdoobadckkaaGreatDoor
set_option maxRecDepth 20000
open Go.RowKit Go.OpenShut
attribute [local go_sem] Oper.semAt_some

theorem rdRet {W : World} {b6 b7 b8 : Nat} {A1 A2 : Option Addr} {m1 c1 m2 c2 : Nat} {x : Int} (fn : Func) (t0 t1 t2 t3 t4 t5 : Value) (rest : List Value) (h6 : Blk W b6 22 #[.slice A1 m1 c1]) (h7 : Blk W b7 30 #[.slice A2 m2 c2]) (h8 : Blk W b8 35 #[.int .i64 x])
    (hr : fn.results = #[ResultVar.cell 6 22, ResultVar.cell 7 30, ResultVar.cell 8 35]) :
    (results fn (t0 :: t1 :: t2 :: t3 :: t4 :: t5 :: .pointer (some ⟨b6, 0, none⟩) :: .pointer (some ⟨b7, 0, none⟩) :: .pointer (some ⟨b8, 0, none⟩) :: rest).toArray).run Tryz.prog W = .ok (.tuple #[.slice A1 m1 c1, .slice A2 m2 c2, .int .i64 x]) W := by
  have q6 := h6.cell
  have q7 := h7.cell
  have q8 := h8.cell
  simp [results, hr, go_sem, q6, q7, q8]
theorem Blk.put_ {W : World} {b D : Nat} {t : TypeId} {cs : Array Value} (h : Blk W b t cs) {o : Obj} (o' : Obj) (hD : W.heap[D]? = some o) (ho : o.isCells = false) : Blk (W.putObj D o') b t cs :=
  h.grown (grownBy_putObj' W D o') (fun e => by
    cases e
    unfold Blk at h
    rw [h] at hD
    cases hD
    cases ho)
theorem OwnV.put_ {W : World} {D B : Nat} {t : TypeId} {v : Value} {l : List Value} (h : OwnV t W B v l) {o : Obj} (o' : Obj) (hD : W.heap[D]? = some o) (ho : o.isCells = false) : OwnV t (W.putObj D o') B v l := by
  refine World.ownsRow.kept h (grownBy_putObj' W D o') ?_
  rcases h.2 with ⟨rfl, _⟩ | ⟨g, cap, cur, rfl, _, hgb, _⟩
  · exact Or.inl rfl
  · refine Or.inr (fun e => ?_)
    obtain rfl : g = D := by simpa [Value.ownBlock] using e
    rw [hgb] at hD
    cases hD
    cases ho
/-- a row that is read -/
def ReadP (w : World) (xs : List Sec) (lost : List Int) (e : Ending) (w' : World) : Prop := ∃ v1 v2, e = .returned (.tuple #[v1, v2, .int .i64 0]) ∧ OwnV 9 w' w.heap.size v1 (svs xs) ∧ OwnV 3 w' w.heap.size v2 (ivs .i64 lost) ∧ Below w.heap.size w w'
set_option maxRecDepth 100000 in
set_option maxHeartbeats 4000000 in
theorem read_row (w : World) (σ : Nat → Option Drv) (R : Nat → Prop) (S : RS) (L : SL) (h : SetIn w σ R S L) (hon : ∀ g, some g ∈ S.ds → ∃ D, σ g = some D ∧ D.lim = none) (row off : Nat) (hr : row < S.r) (ho : off < S.k) :
    Calls Tryz.prog 29 #[setV S L, .int .i64 (row : Int), .int .i64 (off : Int)] w (ReadP w (S.secs σ row off) (S.lost σ row off)) := by
  have hg := geo_bd h.ok.geo
  have HAT := Lib.hid (fun W (hb : Below w.heap.size w W) => at_any W σ R S L (h.below hb) row off hr ho)
  have HPS := Lib.hid (fun W => psectors_any W S L row off)
  have HST := Lib.hid (fun W Bs (hB : Blk W Bs 147 (placeCs S L row off)) (hw : Below w.heap.size w W) (hBn : w.heap.size ≤ Bs) => sectors_stops w σ R S L h row off hr ho Bs W hB hw hBn)
  have HON := Lib.hid (fun x => RS.secE_on hon row off x)
  have hn10 : S.n ≤ 10 := by omega
  clear h hon hr ho hg
  unfold setV setCs placeV placeCs at *
  refine calls_marks Tryz.func29 rfl ?_
  simp only [Tryz.ntmps29, List.size_toArray, List.length_cons, List.length_nil, Nat.reduceAdd, Nat.reduceSub, Array.replicate_succ, Array.replicate_zero, List.push_toArray, List.append_toArray, List.nil_append, List.cons_append]
  go_wp2_with fail
  have b1 := (Below.refl w.heap.size w).alloc (Nat.le_refl _) (.cells #[.int .i64 (S.n : Int), .int .i64 (S.k : Int), .int .i64 (S.r : Int), .slice L.A S.n L.ca, .slice L.B S.n L.cb] 32)
  have s1 : (w.alloc (.cells #[.int .i64 (S.n : Int), .int .i64 (S.k : Int), .int .i64 (S.r : Int), .slice L.A S.n L.ca, .slice L.B S.n L.cb] 32)).heap.size = w.heap.size + 1 := by simp
  generalize w.alloc (.cells #[.int .i64 (S.n : Int), .int .i64 (S.k : Int), .int .i64 (S.r : Int), .slice L.A S.n L.ca, .slice L.B S.n L.cb] 32) = w1 at *
  have k6 := Blk.new w1 22 #[.slice none 0 0]
  have b2 := b1.alloc b1.size (.cells #[.slice none 0 0] 22)
  have s2 : (w1.alloc (.cells #[.slice none 0 0] 22)).heap.size = w.heap.size + 1 + 1 := by simp; omega
  rw [s1] at k6
  generalize w1.alloc (.cells #[.slice none 0 0] 22) = w2 at *
  have k7 := Blk.new w2 30 #[.slice none 0 0]
  replace k6 := k6.alloc (.cells #[.slice none 0 0] 30)
  have b3 := b2.alloc b2.size (.cells #[.slice none 0 0] 30)
  have s3 : (w2.alloc (.cells #[.slice none 0 0] 30)).heap.size = w.heap.size + 1 + 1 + 1 := by simp; omega
  rw [s2] at k7
  generalize w2.alloc (.cells #[.slice none 0 0] 30) = w3 at *
  have k8 := Blk.new w3 35 #[.int .i64 0]
  replace k6 := k6.alloc (.cells #[.int .i64 0] 35)
  replace k7 := k7.alloc (.cells #[.int .i64 0] 35)
  have b4 := b3.alloc b3.size (.cells #[.int .i64 0] 35)
  have s4 : (w3.alloc (.cells #[.int .i64 0] 35)).heap.size = w.heap.size + 1 + 1 + 1 + 1 := by simp; omega
  rw [s3] at k8
  generalize w3.alloc (.cells #[.int .i64 0] 35) = w4 at *
  refine (HAT.out _ b4).mono ?_
  rintro e w5 ⟨rfl, hb5⟩
  replace k6 := k6.below hb5 k6.lt
  replace k7 := k7.below hb5 k7.lt
  replace k8 := k8.below hb5 k8.lt
  have b5 := b4.trans (hb5.mono b4.size)
  clear b1 b2 b3 b4 s1 s2 s3 hb5
  have kp := (Blk.new w5 147 #[.int .i64 (S.n : Int), .int .i64 (S.k : Int), .int .i64 (S.r : Int), .slice L.A S.n L.ca, .slice L.B S.n L.cb, .int .i64 (row : Int), .int .i64 (off : Int)]).cell
  go_wp2_with fail
  refine (HPS.out _).mono ?_
  rintro e w6 ⟨rfl, rfl⟩
  have z0 := b5.size
  have b6 := b5.alloc b5.size (.cells #[.int .i64 (S.n : Int), .int .i64 (S.k : Int), .int .i64 (S.r : Int), .slice L.A S.n L.ca, .slice L.B S.n L.cb, .int .i64 (row : Int), .int .i64 (off : Int)] 147)
  replace k6 := k6.alloc (.cells #[.int .i64 (S.n : Int), .int .i64 (S.k : Int), .int .i64 (S.r : Int), .slice L.A S.n L.ca, .slice L.B S.n L.cb, .int .i64 (row : Int), .int .i64 (off : Int)] 147)
  replace k7 := k7.alloc (.cells #[.int .i64 (S.n : Int), .int .i64 (S.k : Int), .int .i64 (S.r : Int), .slice L.A S.n L.ca, .slice L.B S.n L.cb, .int .i64 (row : Int), .int .i64 (off : Int)] 147)
  replace k8 := k8.alloc (.cells #[.int .i64 (S.n : Int), .int .i64 (S.k : Int), .int .i64 (S.r : Int), .slice L.A S.n L.ca, .slice L.B S.n L.cb, .int .i64 (row : Int), .int .i64 (off : Int)] 147)
  clear kp
  go_wp2_with fail
  have t5 : (w5.alloc (.cells #[.int .i64 (S.n : Int), .int .i64 (S.k : Int), .int .i64 (S.r : Int), .slice L.A S.n L.ca, .slice L.B S.n L.cb, .int .i64 (row : Int), .int .i64 (off : Int)] 147)).heap.size = w5.heap.size + 1 := by simp
  have k8lt := k8.lt
  rw [t5] at k8lt
  generalize w5.alloc (.cells #[.int .i64 (S.n : Int), .int .i64 (S.k : Int), .int .i64 (S.r : Int), .slice L.A S.n L.ca, .slice L.B S.n L.cb, .int .i64 (row : Int), .int .i64 (off : Int)] 147) = V5 at *
  obtain ⟨p, hp⟩ : ∃ p, w5.heap.size = p := ⟨_, rfl⟩
  rw [hp] at t5 z0 k8lt ⊢
  have kl := Blk.new V5 22 #[.slice none 0 0]
  rw [t5] at kl
  have b7 := b6.alloc b6.size (.cells #[.slice none 0 0] 22)
  replace k6 := k6.alloc (.cells #[.slice none 0 0] 22)
  replace k7 := k7.alloc (.cells #[.slice none 0 0] 22)
  replace k8 := k8.alloc (.cells #[.slice none 0 0] 22)
  have t6 : (V5.alloc (.cells #[.slice none 0 0] 22)).heap.size = p + 1 + 1 := by simp; omega
  generalize V5.alloc (.cells #[.slice none 0 0] 22) = V6 at *
  have ko := Blk.new V6 30 #[.slice none 0 0]
  rw [t6] at ko
  have b8 := b7.alloc b7.size (.cells #[.slice none 0 0] 30)
  replace k6 := k6.alloc (.cells #[.slice none 0 0] 30)
  replace k7 := k7.alloc (.cells #[.slice none 0 0] 30)
  replace k8 := k8.alloc (.cells #[.slice none 0 0] 30)
  replace kl := kl.alloc (.cells #[.slice none 0 0] 30)
  have t7 : (V6.alloc (.cells #[.slice none 0 0] 30)).heap.size = p + 1 + 1 + 1 := by simp; omega
  generalize V6.alloc (.cells #[.slice none 0 0] 30) = V7 at *
  have kb := Blk.new V7 147 #[.int .i64 (S.n : Int), .int .i64 (S.k : Int), .int .i64 (S.r : Int), .slice L.A S.n L.ca, .slice L.B S.n L.cb, .int .i64 (row : Int), .int .i64 (off : Int)]
  rw [t7] at kb
  have b9 := b8.alloc b8.size (.cells #[.int .i64 (S.n : Int), .int .i64 (S.k : Int), .int .i64 (S.r : Int), .slice L.A S.n L.ca, .slice L.B S.n L.cb, .int .i64 (row : Int), .int .i64 (off : Int)] 147)
  replace k6 := k6.alloc (.cells #[.int .i64 (S.n : Int), .int .i64 (S.k : Int), .int .i64 (S.r : Int), .slice L.A S.n L.ca, .slice L.B S.n L.cb, .int .i64 (row : Int), .int .i64 (off : Int)] 147)
  replace k7 := k7.alloc (.cells #[.int .i64 (S.n : Int), .int .i64 (S.k : Int), .int .i64 (S.r : Int), .slice L.A S.n L.ca, .slice L.B S.n L.cb, .int .i64 (row : Int), .int .i64 (off : Int)] 147)
  replace k8 := k8.alloc (.cells #[.int .i64 (S.n : Int), .int .i64 (S.k : Int), .int .i64 (S.r : Int), .slice L.A S.n L.ca, .slice L.B S.n L.cb, .int .i64 (row : Int), .int .i64 (off : Int)] 147)
  replace kl := kl.alloc (.cells #[.int .i64 (S.n : Int), .int .i64 (S.k : Int), .int .i64 (S.r : Int), .slice L.A S.n L.ca, .slice L.B S.n L.cb, .int .i64 (row : Int), .int .i64 (off : Int)] 147)
  replace ko := ko.alloc (.cells #[.int .i64 (S.n : Int), .int .i64 (S.k : Int), .int .i64 (S.r : Int), .slice L.A S.n L.ca, .slice L.B S.n L.cb, .int .i64 (row : Int), .int .i64 (off : Int)] 147)
  have t8 : (V7.alloc (.cells #[.int .i64 (S.n : Int), .int .i64 (S.k : Int), .int .i64 (S.r : Int), .slice L.A S.n L.ca, .slice L.B S.n L.cb, .int .i64 (row : Int), .int .i64 (off : Int)] 147)).heap.size = p + 1 + 1 + 1 + 1 := by simp; omega
  generalize V7.alloc (.cells #[.int .i64 (S.n : Int), .int .i64 (S.k : Int), .int .i64 (S.r : Int), .slice L.A S.n L.ca, .slice L.B S.n L.cb, .int .i64 (row : Int), .int .i64 (off : Int)] 147) = V8 at *
  clear b5 b6 b7 b8 hp t5 t6
  have HSQ := HST.out V8 (p + 1 + 1 + 1) kb b9 (by omega)
  clear HST HAT HPS
  refine wp_rangeB w.heap.size (p + 1 + 1 + 1) b9.size (by omega) rfl (enters_of Tryz.func176 (by kernel_rfl) rfl) HSQ (fun _ => rfl)
    (fun pre V => ∃ v1 v2, RdSt w.heap.size p #[.int .i64 (S.n : Int), .int .i64 (S.k : Int), .int .i64 (S.r : Int), .slice L.A S.n L.ca, .slice L.B S.n L.cb, .int .i64 (row : Int), .int .i64 (off : Int)] V v1 (svs (pre.map (S.secS σ row off))) v2 (ivs .i64 (lostPos (S.lostF σ row off) pre)) ∧ Below w.heap.size w V)
    (fun _ _ _ => False) ?hI (fun _ _ _ _ _ hs _ _ => hs) ⟨_, _, ⟨kl, OwnV.nil_ _ _ _, ko, OwnV.nil_ _ _ _, kb, k6, k7, k8, k8lt⟩, b9⟩ ?hround ?hdone (fun _ _ _ _ _ _ h => h.elim)
  case hI =>
    rintro s V V' row' ⟨v1, v2, hs, a9⟩ hg hr
    exact ⟨v1, v2, hs.turn hg hr, below_turn a9 (Nat.le_refl _) (by omega) hg hr⟩
  case hround =>
    apply Exists.intro
    constructor
    · intro l x V K hK
      dsimp only [secEnc]
      gi_wp2
      exact hK
    · rintro l pre x V ⟨v1, v2, hst, a9⟩ hlen
      have hne := HON.out x
      have HS1 := Lib.hid (show svs ((pre ++ [x]).map (S.secS σ row off)) = svs (pre.map (S.secS σ row off)) ++ [.string (S.secS σ row off x)] by simp [svs])
      have HL1 := Lib.hid (lostPos_snoc (S.lostF σ row off) pre x)
      have hl2 := lostPos_len (S.lostF σ row off) pre
      have hl1 : (svs (pre.map (S.secS σ row off))).length = pre.length := by simp [svs]
      have hl3 : (ivs .i64 (lostPos (S.lostF σ row off) pre)).length = (lostPos (S.lostF σ row off) pre).length := by simp [ivs]
      rw [show S.lostF σ row off x = decide (S.secE σ row off x ≠ 0) from rfl] at HL1
      generalize S.secS σ row off x = sx at *
      generalize S.secE σ row off x = E at *
      have h42 : (E == 42) = false := by simp [hne]
      obtain ⟨A1, c1, rfl, _⟩ := hst.o1.shape
      obtain ⟨A2, c2, rfl, _⟩ := hst.o2.shape
      rw [hl1, hl3] at hst
      have HST := Lib.hid hst
      have A9' := Lib.hid a9
      have q1 : V.cell? ⟨p + 1, 0, none⟩ = some (.slice A1 pre.length c1) := hst.bl.cell 0
      have q2 : V.cell? ⟨p + 1 + 1, 0, none⟩ = some (.slice A2 (lostPos (S.lostF σ row off) pre).length c2) := hst.bo.cell 0
      have hz9 := a9.size
      have HPB := Lib.hid (show p + 1 + 1 < V8.heap.size by omega)
      have ho1 := hst.o1
      have HO1 := Lib.hid ho1
      clear hst a9 ho1 k6 k7 k8 kl ko kb b9 HSQ
      by_cases hz : E = 0
      · subst hz
        have HLZ := Lib.hid (HL1.out.trans (show _ = lostPos (S.lostF σ row off) pre by simp))
        gi_wp2_with (gi_at_builtin; (refine wpIn_push1 22 9 (.string ⟨#[]⟩) 16 Tryz.underlying22 info_string rfl (by decide) rfl (.tmp 40) (.tmp 42) rfl w.heap.size _ _ (HO1.out.alloc _) rfl ⟨V.heap.size, 0, none⟩ 1 (.string sx) rfl (cell_one _ _ _) rfl ?i1 ?i2 ?_); (case i1 => omega); (case i2 => simp; omega); (intro v4 w4 hv4 hg4 hb4); (have hk4 := (HST.out.bl.alloc (.cells #[.string sx] 9)).grown hg4 ((HO1.out.alloc (.cells #[.string sx] 9)).ne_blk' (HST.out.bl.alloc (.cells #[.string sx] 9)) (by decide))); have hq4 := hk4.cell 0; have hf4 := hk4.frozen 0; obtain ⟨A4, n4, c4, rfl⟩ : ∃ A n c, v4 = .slice A n c := (by obtain ⟨A, c, h, _⟩ := hv4.shape; exact ⟨A, _, c, h⟩))
        obtain ⟨g1, g2, g3⟩ := HST.out.pushS (B := V8.heap.size) (by have := HPB.out; omega) hv4 hg4
        exact ⟨g2, g3, _, _, by rw [HS1.out, HLZ.out]; exact g1, A9'.out.trans g3.1⟩
      · have HLZ := Lib.hid (HL1.out.trans (show _ = lostPos (S.lostF σ row off) pre ++ [(pre.length : Int)] by simp [hz]))
        have HIV := Lib.hid (show ivs .i64 (lostPos (S.lostF σ row off) pre ++ [(pre.length : Int)]) = ivs .i64 (lostPos (S.lostF σ row off) pre) ++ [.int .i64 (pre.length : Int)] by simp [ivs])
        have h0 : (E == 0) = false := by simp [hz]
        have HO2 := Lib.hid HST.out.o2
        gi_wp2_with (first
          | (gi_at_builtin; (refine wpIn_push1 30 3 (.int .i64 0) 8 Tryz.underlying30 info_int rfl (by decide) rfl (.tmp 30) (.tmp 33) rfl w.heap.size _ _ (HO2.out.alloc _) rfl ⟨V.heap.size, 0, none⟩ 1 (.int .i64 (pre.length : Int)) rfl (cell_one _ _ _) rfl ?i1 ?i2 ?_); (case i1 => omega); (case i2 => simp; omega); (intro v4 w4 hv4 hg4 hb4); (have hk4 := (HST.out.bo.alloc (.cells #[.int .i64 (pre.length : Int)] 3)).grown hg4 ((HO2.out.alloc (.cells #[.int .i64 (pre.length : Int)] 3)).ne_blk' (HST.out.bo.alloc (.cells #[.int .i64 (pre.length : Int)] 3)) (by decide))); have hq4 := hk4.cell 0; have hf4 := hk4.frozen 0; obtain ⟨A4, n4, c4, rfl⟩ : ∃ A n c, v4 = .slice A n c := (by obtain ⟨A, c, h, _⟩ := hv4.shape; exact ⟨A, _, c, h⟩); have hst5 := HST.out.pushI (B := V8.heap.size) HPB.out hv4 hg4; have q5 := hst5.1.bl.cell 0)
          | (gi_at_builtin; (refine wpIn_push1 22 9 (.string ⟨#[]⟩) 16 Tryz.underlying22 info_string rfl (by decide) rfl (.tmp 40) (.tmp 42) rfl w.heap.size _ _ (hst5.1.o1.alloc _) rfl ⟨w4.heap.size, 0, none⟩ 1 (.string sx) rfl ((Blk.newAt (cs := #[.string sx]) (g := w4.heap.size) (by simp)).cell 0) rfl ?i1 ?i2 ?_); (case i1 => omega); (case i2 => have := hst5.1.size; simp at this ⊢; omega); (intro v6 w6 hv6 hg6 hb6); (have hk6 := (hst5.1.bl.alloc (.cells #[.string sx] 9)).grown hg6 ((hst5.1.o1.alloc (.cells #[.string sx] 9)).ne_blk' (hst5.1.bl.alloc (.cells #[.string sx] 9)) (by decide))); have hq6 := hk6.cell 0; have hf6 := hk6.frozen 0; obtain ⟨A6, n6, c6, rfl⟩ : ∃ A n c, v6 = .slice A n c := (by obtain ⟨A, c, h, _⟩ := hv6.shape; exact ⟨A, _, c, h⟩)))
        obtain ⟨g1, g2, g3⟩ := hst5.1.pushS (B := V8.heap.size) (by have := HPB.out; omega) hv6 hg6
        exact ⟨hst5.2.1.trans g2, hst5.2.2.trans g3, _, _, by rw [HS1.out, HLZ.out, HIV.out]; exact g1, A9'.out.trans (hst5.2.2.trans g3).1⟩
  case hdone =>
    rintro D xs V hD rfl ⟨v1, v2, hst, a9⟩ hdef
    have hl1 : (svs ((List.range S.n).map (S.secS σ row off))).length = S.n := by simp [svs]
    obtain ⟨A1, c1, rfl, _⟩ := hst.o1.shape
    obtain ⟨A2, c2, rfl, _⟩ := hst.o2.shape
    have hbl := hst.bl.drew
    have hbo := hst.bo.drew
    have h6 := hst.r6.drew
    have h7 := hst.r7.drew
    have h8 := hst.r8.drew
    have ho1 := hst.o1.drew
    have ho2 := hst.o2.drew
    have hlt := hst.lt
    have a9d := a9.drew
    have hdd : V.drew.heap[D]? = some (.deferred (some [])) := hdef
    clear hst a9 hdef k6 k7 k8 kl ko kb b9 HSQ
    clear hl1
    generalize hm1 : (svs ((List.range S.n).map (S.secS σ row off))).length = m1 at *
    generalize hm2 : (ivs .i64 (lostPos (S.lostF σ row off) (List.range S.n))).length = m2 at *
    go_wp2_with fail
    refine wp_region_nfN (fun Y => Y.cell? ⟨p + 1, 0, none⟩ = some (.slice A1 m1 c1) ∧ Y.cell? ⟨p + 1 + 1, 0, none⟩ = some (.slice A2 m2 c2)) (fun _ => false) [(0, true), (1, true), (2, false), (3, false), (4, false)] (by kernel_rfl) rfl (by kernel_rfl) (by kernel_rfl) ?_
    generalize V.drew = U at *
    have hnf : U.cell? ⟨p + 1, 0, none⟩ = some (.slice A1 m1 c1) ∧ U.cell? ⟨p + 1 + 1, 0, none⟩ = some (.slice A2 m2 c2) := ⟨hbl.cell 0, hbo.cell 0⟩
    repeat (refine nf_pure rfl hnf (fun Y hY => by obtain ⟨e1, e2⟩ := hY; go_wp2; exact ⟨rfl, rfl, rfl⟩) rfl ?_ ?_; rfl)
    have hX : ∀ b (U : World) (u : Value), b < p + 1 → (U.cell? ⟨p + 1, 0, none⟩ = some (.slice A1 m1 c1) ∧ U.cell? ⟨p + 1 + 1, 0, none⟩ = some (.slice A2 m2 c2)) → ((U.setCell ⟨b, 0, none⟩ u).cell? ⟨p + 1, 0, none⟩ = some (.slice A1 m1 c1) ∧ (U.setCell ⟨b, 0, none⟩ u).cell? ⟨p + 1 + 1, 0, none⟩ = some (.slice A2 m2 c2)) := fun b U u hb ⟨e1, e2⟩ =>
      ⟨(World.cell?_setCell_other _ _ _ _ (by intro e; cases e; omega)).trans e1, (World.cell?_setCell_other _ _ _ _ (by intro e; cases e; omega)).trans e2⟩
    refine nf_imp rfl ?_
    have qq := h6.cell
    have ff := h6.frozen
    go_wp2_with fail
    clear qq ff
    replace hnf := hX (w.heap.size + 1) _ (.slice A1 m1 c1) (by omega) hnf
    replace ho1 := ho1.far (p := ⟨w.heap.size + 1, 0, none⟩) (ho1.ne_blk' h6 (by decide)) (.slice A1 m1 c1)
    replace ho2 := ho2.far (p := ⟨w.heap.size + 1, 0, none⟩) (ho2.ne_blk' h6 (by decide)) (.slice A1 m1 c1)
    replace hdd := (Below.heap_setCell _ ⟨w.heap.size + 1, 0, none⟩ (.slice A1 m1 c1) D (by show D ≠ w.heap.size + 1; omega)).trans hdd
    replace a9d := a9d.setCell (p := ⟨w.heap.size + 1, 0, none⟩) (by show w.heap.size ≤ w.heap.size + 1; omega) (.slice A1 m1 c1)
    replace h7 := h7.far (p := ⟨w.heap.size + 1, 0, none⟩) (by show w.heap.size + 1 + 1 ≠ w.heap.size + 1; omega) (.slice A1 m1 c1)
    replace h8 := h8.far (p := ⟨w.heap.size + 1, 0, none⟩) (by show w.heap.size + 1 + 1 + 1 ≠ w.heap.size + 1; omega) (.slice A1 m1 c1)
    replace h6 := h6.set_ 0 (.slice A1 m1 c1)
    generalize World.setCell _ ⟨w.heap.size + 1, 0, none⟩ (.slice A1 m1 c1) = U1 at *
    refine ⟨fun _ => hnf, ?_⟩
    refine nf_imp rfl ?_
    have qq := h7.cell
    have ff := h7.frozen
    go_wp2_with fail
    clear qq ff
    replace hnf := hX (w.heap.size + 1 + 1) _ (.slice A2 m2 c2) (by omega) hnf
    replace ho1 := ho1.far (p := ⟨w.heap.size + 1 + 1, 0, none⟩) (ho1.ne_blk' h7 (by decide)) (.slice A2 m2 c2)
    replace ho2 := ho2.far (p := ⟨w.heap.size + 1 + 1, 0, none⟩) (ho2.ne_blk' h7 (by decide)) (.slice A2 m2 c2)
    replace hdd := (Below.heap_setCell _ ⟨w.heap.size + 1 + 1, 0, none⟩ (.slice A2 m2 c2) D (by show D ≠ w.heap.size + 1 + 1; omega)).trans hdd
    replace a9d := a9d.setCell (p := ⟨w.heap.size + 1 + 1, 0, none⟩) (by show w.heap.size ≤ w.heap.size + 1 + 1; omega) (.slice A2 m2 c2)
    replace h6 := h6.far (p := ⟨w.heap.size + 1 + 1, 0, none⟩) (by show w.heap.size + 1 ≠ w.heap.size + 1 + 1; omega) (.slice A2 m2 c2)
    replace h8 := h8.far (p := ⟨w.heap.size + 1 + 1, 0, none⟩) (by show w.heap.size + 1 + 1 + 1 ≠ w.heap.size + 1 + 1; omega) (.slice A2 m2 c2)
    replace h7 := h7.set_ 0 (.slice A2 m2 c2)
    generalize World.setCell _ ⟨w.heap.size + 1 + 1, 0, none⟩ (.slice A2 m2 c2) = U2 at *
    refine ⟨fun _ => hnf, ?_⟩
    refine nf_imp rfl ?_
    have qq := h8.cell
    have ff := h8.frozen
    go_wp2_with fail
    clear qq ff
    replace hnf := hX (w.heap.size + 1 + 1 + 1) _ (.int .i64 0) (by omega) hnf
    replace ho1 := ho1.far (p := ⟨w.heap.size + 1 + 1 + 1, 0, none⟩) (ho1.ne_blk' h8 (by decide)) (.int .i64 0)
    replace ho2 := ho2.far (p := ⟨w.heap.size + 1 + 1 + 1, 0, none⟩) (ho2.ne_blk' h8 (by decide)) (.int .i64 0)
    replace hdd := (Below.heap_setCell _ ⟨w.heap.size + 1 + 1 + 1, 0, none⟩ (.int .i64 0) D (by show D ≠ w.heap.size + 1 + 1 + 1; omega)).trans hdd
    replace a9d := a9d.setCell (p := ⟨w.heap.size + 1 + 1 + 1, 0, none⟩) (by show w.heap.size ≤ w.heap.size + 1 + 1 + 1; omega) (.int .i64 0)
    replace h6 := h6.far (p := ⟨w.heap.size + 1 + 1 + 1, 0, none⟩) (by show w.heap.size + 1 ≠ w.heap.size + 1 + 1 + 1; omega) (.int .i64 0)
    replace h7 := h7.far (p := ⟨w.heap.size + 1 + 1 + 1, 0, none⟩) (by show w.heap.size + 1 + 1 ≠ w.heap.size + 1 + 1 + 1; omega) (.int .i64 0)
    replace h8 := h8.set_ 0 (.int .i64 0)
    generalize World.setCell _ ⟨w.heap.size + 1 + 1 + 1, 0, none⟩ (.int .i64 0) = U3 at *
    refine ⟨fun _ => hnf, ?_⟩
    refine nf_nil ?_
    unfold onlyN
    go_wp2_with fail
    refine ret_mark rfl hdd (rdRet _ _ _ _ _ _ _ _ (h6.put_ _ hdd rfl) (h7.put_ _ hdd rfl) (h8.put_ _ hdd rfl) Tryz.results29) ?_
    have hsz := a9d.size
    exact ⟨_, _, rfl, ho1.put_ _ hdd rfl, ho2.put_ _ hdd rfl, a9d.trans (belowK_b (w := w) (Nat.le_refl _) U3 D _ _ (by omega) hdd rfl rfl)⟩
end Go.Proofs.YtmhmdoobadckkaaGreatDoor
/- refill.May, where all columns that are there have one length. -/
namespace Go.Proofs.YtmhmdoobadckkaaGreatDoor
set_option maxRecDepth 20000
open Go.RowKit Go.OpenShut

theorem info_bool : (Tryz.prog.info? 4).map (fun i => (i.zero, i.size, i.bytes)) = some (some (.bool false), 1, 1) := by kernel_rfl
def seenC (n : Nat) (l : List Int) : Array Value := ((List.range n).map fun i : Nat => Value.bool (decide ((i : Int) ∈ l))).toArray
theorem seenC_get (n : Nat) (l : List Int) (i : Nat) (h : i < n) : (seenC n l)[i]? = some (.bool (decide ((i : Int) ∈ l))) := by simp [seenC, h]
theorem seenC_set (n : Nat) (l : List Int) (i : Nat) (_h : i < n) : (seenC n l).setIfInBounds i (.bool true) = seenC n (l ++ [(i : Int)]) := by
  apply Array.ext
  · simp [seenC]
  · intro j h1 h2
    have hj : j < n := by simpa [seenC] using h2
    rw [Array.getElem_setIfInBounds (by simpa [seenC] using hj)]
    by_cases e : i = j
    · subst e
      simp [seenC]
    · simp [seenC, e]
      intro h
      exact absurd (by omega) e
theorem seenC_nil (n : Nat) : madeCells (Value.bool false).cells n = seenC n [] := by
  apply Array.toList_inj.1
  rw [show (Value.bool false).cells = #[.bool false] from rfl, toList_madeCells_one]
  apply List.ext_getElem
  · simp [seenC]
  · intro i h1 h2
    simp [seenC]
def rfE (ls : List Int) : Int := if 2 < ls.length then 60 else 0
set_option maxRecDepth 100000 in
set_option maxHeartbeats 4000000 in
theorem rfMay_any (w : World) (A : Option Addr) (n c : Nat) (xs : List ByteArray) (hx : StrsA w w.heap.size A n xs) (hn : 4 ≤ n ∧ n ≤ 10) (B : Option Addr) (m c' : Nat) (ls : List Int) (hls : IntsA w w.heap.size .i64 B m ls) (hin : ∀ i ∈ ls, 0 ≤ i ∧ i < n) (hnd : ls.Nodup) (hm10 : m ≤ 10) (K : Nat) (hK : K ≤ 4096) (hlen : ∀ i, i < n → (i : Int) ∉ ls → (xs.getD i ⟨#[]⟩).size = K) :
    Calls Tryz.prog 240 #[.slice A n c, .slice B m c'] w fun e w' => e = .returned (.int .i64 (rfE ls)) ∧ Below w.heap.size w w' := by
  obtain ⟨i0, hi, hz0, hz1, hz2⟩ := info_parts info_bool
  have hr := run_make (P := Tryz.prog) w 360 4 i0 _ Tryz.underlying360 hi hz0 .i64 .i64 (n : Int) (n : Int) (by omega) (by omega) (by rw [hz2]; omega) (by omega)
  rw [hz1, Nat.mul_one, Int.toNat_natCast, seenC_nil] at hr
  have HX := Lib.hid hx
  have HL := Lib.hid hls
  have HIN := Lib.hid hin
  have HND := Lib.hid hnd
  have HLEN := Lib.hid hlen
  have hm : ls.length = m := hls.1
  have hn4 : (4 : Int) ≤ n := by omega
  have hn10 : (n : Int) ≤ 10 := by omega
  have hK2 : (K : Int) ≤ 4096 := by omega
  clear hx hls hin hnd hlen hi hz0 hz1 hz2 hn hK
  go_enter Tryz.func240, Tryz.ntmps240
  go_wp2_with fail
  clear hr
  have hg0 := Blk.new w 4 (seenC n [])
  have hb0 := (Below.refl w.heap.size w).alloc (Nat.le_refl _) (.cells (seenC n []) 4)
  generalize w.alloc (.cells (seenC n []) 4) = W1 at *
  go_loopw [24] (fun i wr => ∃ j : Nat, j ≤ m ∧ i = .int .i64 j ∧ Blk wr w.heap.size 4 (seenC n (ls.take j)) ∧ Below w.heap.size w wr) (fun i _ => m - (RowKit.intOf i).toNat)
  case atStart => exact ⟨0, by omega, rfl, hg0, hb0⟩
  case round =>
    obtain ⟨j, hj, rfl, hg, hb⟩ := hrel
    by_cases hlt : j < m
    · obtain ⟨b, o, rfl, hbb, hc⟩ := HL.out.2 (by omega)
      have hjl : j < ls.length := by omega
      have hmem : ls.getD j 0 ∈ ls := by simp [List.getD, hjl]
      obtain ⟨h0, h1⟩ := HIN.out _ hmem
      obtain ⟨y, hy⟩ := Int.eq_ofNat_of_zero_le h0
      have hcx : wr.cell? ⟨b, o + j, none⟩ = some (.int .i64 (y : Int)) := (hb.cell (p := ⟨b, o + j, none⟩) hbb).trans ((hc j hlt).trans (by rw [hy]))
      have hyn : y < n := by omega
      have htk : ls.take (j + 1) = ls.take j ++ [(y : Int)] := by
        rw [List.take_succ_eq_append_getElem hjl]
        have : ls[j] = (y : Int) := by have := hy; simp [List.getD, hjl] at this; exact this
        rw [this]
      have hnin : decide ((y : Int) ∈ ls.take j) = false := by
        rw [decide_eq_false_iff_not]
        have h2 := List.Nodup.sublist (List.take_sublist (j + 1) ls) HND.out
        rw [htk, List.nodup_append] at h2
        exact fun h => h2.2.2 _ h _ (by simp) rfl
      have hsc : wr.cell? ⟨w.heap.size, y, none⟩ = some (.bool false) := (hg.cell y).trans ((seenC_get n _ y hyn).trans (by rw [hnin]))
      have hsf := hg.frozen y
      have HG := Lib.hid (hg.set_ y (.bool true))
      rw [seenC_set n _ y hyn, ← htk] at HG
      have HB := Lib.hid (hb.setCell (p := ⟨w.heap.size, y, none⟩) (Nat.le_refl _) (.bool true))
      have hy2 : (y : Int) < n := by omega
      have hy0 : 0 ≤ (y : Int) := by omega
      clear hg hb hc hmem h0 h1 hy htk hnin hg0 hb0
      go_wp2_with fail
      go_roundw
      case rel => exact ⟨j + 1, by omega, by go_num, HG.out, HB.out⟩
      case measure => simp [RowKit.intOf]; omega
    · obtain rfl : j = m := by omega
      rw [List.take_of_length_le (by omega)] at hg
      have HG := Lib.hid hg
      have HB := Lib.hid hb
      clear hg hb hg0 hb0
      go_wp2_with fail
      go_loopw [48, 8] (fun i lg wr => ∃ l : Nat, l ≤ n ∧ i = .int .i64 l ∧ (lg = .int .i64 (-1) ∨ lg = .int .i64 (K : Int)) ∧ Blk wr w.heap.size 4 (seenC n ls) ∧ Below w.heap.size w wr) (fun i _ _ => n - (RowKit.intOf i).toNat)
      case atStart => exact ⟨0, by omega, rfl, Or.inl rfl, HG.out, HB.out⟩
      case round =>
        obtain ⟨l, hl, rfl, hlg, hg, hb⟩ := hrel
        by_cases hlt2 : l < n
        · obtain ⟨b, o, rfl, hbb, hc⟩ := HX.out.2 (by omega)
          have hcx : wr.cell? ⟨b, o + l, none⟩ = some (.string (xs.getD l ⟨#[]⟩)) := (hb.cell (p := ⟨b, o + l, none⟩) hbb).trans (hc l hlt2)
          have hsc : wr.cell? ⟨w.heap.size, l, none⟩ = some (.bool (decide ((l : Int) ∈ ls))) := (hg.cell l).trans (seenC_get n _ l hlt2)
          have HGr := Lib.hid hg
          have HBr := Lib.hid hb
          have HXL := Lib.hid (HLEN.out l hlt2)
          generalize xs.getD l ⟨#[]⟩ = x at *
          clear hg hb hc
          by_cases hmem : (l : Int) ∈ ls
          · rw [decide_eq_true hmem] at hsc
            rcases hlg with rfl | rfl
            · go_wp2_with fail
              go_roundw
              case rel => exact ⟨l + 1, by omega, by go_num, Or.inl rfl, HGr.out, HBr.out⟩
              case measure => simp [RowKit.intOf]; omega
            · go_wp2_with fail
              go_roundw
              case rel => exact ⟨l + 1, by omega, by go_num, Or.inr rfl, HGr.out, HBr.out⟩
              case measure => simp [RowKit.intOf]; omega
          · rw [decide_eq_false hmem] at hsc
            have hxs : (x.size : Int) = (K : Int) := by rw [HXL.out hmem]
            rcases hlg with rfl | rfl
            · go_wp2_with fail
              go_roundw
              case rel => exact ⟨l + 1, by omega, by go_num, Or.inr (by simp), HGr.out, HBr.out⟩
              case measure => simp [RowKit.intOf]; omega
            · have hkk : ((K : Int) != (K : Int)) = false := by simp
              have hk0 : 0 ≤ (K : Int) := by omega
              go_wp2_with fail
              go_roundw
              case rel => exact ⟨l + 1, by omega, by go_num, Or.inr (by simp), HGr.out, HBr.out⟩
              case measure => simp [RowKit.intOf]; omega
        · obtain rfl : l = n := by omega
          have HBr := Lib.hid hb
          have HE := Lib.hid (show rfE ls = if 2 < j then 60 else 0 from by unfold rfE; rw [hm])
          clear hg hb hlg
          by_cases h2 : 2 < j
          · have HE2 := Lib.hid (HE.out.trans (if_pos h2))
            have h2' : (2 : Int) < j := by omega
            go_wp2_with fail
            go_ret
            exact ⟨ret_i64 HE2.out.symm, HBr.out⟩
          · have HE2 := Lib.hid (HE.out.trans (if_neg h2))
            have h2' : (j : Int) ≤ 2 := by omega
            go_wp2_with fail
            go_ret
            exact ⟨ret_i64 HE2.out.symm, HBr.out⟩
end Go.Proofs.YtmhmdoobadckkaaGreatDoor
/- slices.Collect(slices.Values(l)) at numbers. -/
namespace Go.Proofs.YtmhmdoobadckkaaGreatDoor
set_option maxRecDepth 20000
open Go.RowKit Go.OpenShut
attribute [local go_sem] Oper.semAt_some

theorem values_any (w : World) (A : Option Addr) (n c : Nat) :
    Calls Tryz.prog 241 #[.slice A n c] w fun e w' => e = .returned (.func (.func 312) #[] #[.pointer (some ⟨w.heap.size, 0, none⟩)]) ∧ w' = w.alloc (.cells #[.slice A n c] 30) := by
  go_enter Tryz.func241, Tryz.ntmps241
  go_wp2
  go_ret
  exact ⟨rfl, rfl⟩
def ivEnc (x : Int) : Array Value := #[.int .i64 x]
set_option maxRecDepth 100000 in
set_option maxHeartbeats 2000000 in
theorem values1_in (l Bs n₀ : Nat) (A : Option Addr) (n c : Nat) (ls : List Int) (hn : n ≤ 4294967295) (J Jx : List Int → World → Prop) (W : World)
    (hY : ∀ pre x W, J pre W → pre.length < n → YieldAt Fence.wide 3 Tryz.prog l (ivEnc x) W fun e W' =>
      (e = .returned (.bool true) ∧ J (pre ++ [x]) W' ∧ Below n₀ W W') ∨ (e = .returned (.bool false) ∧ Jx (pre ++ [x]) W'))
    (hBs : W.cell? ⟨Bs, 0, none⟩ = some (.slice A n c)) (hI : IntsA W n₀ .i64 A n ls) (h0 : J [] W) :
    CallsIn Fence.wide 4 Tryz.prog 312 #[.func (.yield l) #[] #[], .pointer (some ⟨Bs, 0, none⟩)] W fun e W' => (∃ v, e = .returned v) ∧
      ((∃ ys : List Int, ys = ls ∧ J ys W') ∨ (∃ pre : List Int, True ∧ Jx pre W')) := by
  have HL := Lib.hid hI.1
  have HI := Lib.hid hI
  have HJ := Lib.hid h0
  have HY := Lib.hid hY
  clear hI h0 hY
  refine callsIn_of_wp Tryz.func312 rfl trivial ?_ rfl
  simp only [Tryz.ntmps312, List.size_toArray, List.length_cons, List.length_nil, Nat.reduceAdd, Nat.reduceSub, Array.replicate_succ, Array.replicate_zero, List.push_toArray, List.append_toArray, List.nil_append, List.cons_append]
  gi_wp2
  gi_loopw [7] (fun i wr => ∃ k : Nat, k ≤ n ∧ i = .int .i64 k ∧ J (ls.take k) wr ∧ Below n₀ W wr) (fun i _ => n - (intOf i).toNat)
  case atStart => exact ⟨0, Nat.zero_le _, rfl, HJ.out, Below.refl _ _⟩
  case round =>
    obtain ⟨k, hk, rfl, hJ, hb⟩ := hrel
    by_cases hlt : k < n
    · obtain ⟨b, o, rfl, hbb, hc⟩ := HI.out.2 (by omega)
      have hck : wr.cell? ⟨b, o + k, none⟩ = some (.int .i64 (ls.getD k 0)) := (hb.cell (p := ⟨b, o + k, none⟩) hbb).trans (hc k hlt)
      have hkl : k < ls.length := by rw [HL.out]; exact hlt
      have HT := Lib.hid (show ls.take (k + 1) = ls.take k ++ [ls.getD k 0] from by
        rw [List.take_succ_eq_append_getElem hkl]
        simp [List.getD, hkl])
      obtain ⟨fn, tmps, assign, body, hy, hR⟩ := HY.out (ls.take k) (ls.getD k 0) wr hJ (by rw [List.length_take]; omega)
      generalize ls.getD k 0 = x at *
      dsimp only [ivEnc] at hy
      have HB := Lib.hid hb
      clear hb hc
      gi_wp2
      refine hR.mono ?_
      rintro e W3 (⟨rfl, hJ3, hk3⟩ | ⟨rfl, hJx3⟩)
      · gi_wp2
        go_roundw
        case rel => exact ⟨k + 1, by omega, by go_num, by rw [HT.out]; exact hJ3, HB.out.trans hk3⟩
        case measure => simp [intOf]; omega
      · gi_wp2
        refine bodyPost_ret (results_none rfl _ _ _) rfl ?_
        exact ⟨⟨_, rfl⟩, .inr ⟨_, trivial, hJx3⟩⟩
    · obtain rfl : k = n := by omega
      gi_wp2
      go_end0
      exact ⟨⟨_, rfl⟩, .inl ⟨_, List.take_of_length_le (by rw [HL.out]; exact Nat.le_refl _), hJ⟩⟩
theorem values_stops (Bs n₀ : Nat) (A : Option Addr) (n c : Nat) (ls : List Int) (hn : n ≤ 4294967295) (w : World) (hBs : Bs < w.heap.size) (hn₀ : n₀ ≤ w.heap.size) (hc : w.cell? ⟨Bs, 0, none⟩ = some (.slice A n c)) (hI : IntsA w n₀ .i64 A n ls) :
    SeqStopsK Fence.wide 4 Tryz.prog 312 #[.pointer (some ⟨Bs, 0, none⟩)] ivEnc (Below n₀) (fun ys => ys = ls) (fun _ => True) n w :=
  fun l J Jx W hW _ _ hY h0 => values1_in l Bs n₀ A n c ls hn J Jx W hY ((hW.cell (p := ⟨Bs, 0, none⟩) hBs).trans hc) (hI.below (hW.mono hn₀)) h0
set_option maxRecDepth 100000 in
set_option maxHeartbeats 2000000 in
theorem appendSeq_any (w : World) (Bs n₀ : Nat) (A : Option Addr) (n c : Nat) (ls : List Int) (hn : n ≤ 100000) (hBs : Bs < w.heap.size) (hn₀ : n₀ ≤ w.heap.size) (hc : w.cell? ⟨Bs, 0, none⟩ = some (.slice A n c)) (hI : IntsA w n₀ .i64 A n ls) :
    Calls Tryz.prog 237 #[.slice none 0 0, .func (.func 312) #[] #[.pointer (some ⟨Bs, 0, none⟩)]] w fun e w' => ∃ v, e = .returned v ∧ OwnV 3 w' w.heap.size v (ivs .i64 ls) ∧ Below w.heap.size w w' := by
  have HST := Lib.hid (fun V (hb : Below w.heap.size w V) => values_stops Bs n₀ A n c ls (by omega) V (Nat.lt_of_lt_of_le hBs hb.size) (Nat.le_trans hn₀ hb.size) ((hb.cell (p := ⟨Bs, 0, none⟩) hBs).trans hc) (hI.below (hb.mono hn₀)))
  clear hc hI
  refine calls_marks Tryz.func237 rfl ?_
  simp only [Tryz.ntmps237, List.size_toArray, List.length_cons, List.length_nil, Nat.reduceAdd, Nat.reduceSub, Array.replicate_succ, Array.replicate_zero, List.push_toArray, List.append_toArray, List.nil_append, List.cons_append]
  go_wp2_with fail
  have hb1 := Blk.new w 30 #[.slice none 0 0]
  have hk1 := (Below.refl w.heap.size w).alloc (Nat.le_refl _) (.cells #[.slice none 0 0] 30)
  have hs1 : (w.alloc (.cells #[.slice none 0 0] 30)).heap.size = w.heap.size + 1 := by simp
  generalize w.alloc (.cells #[.slice none 0 0] 30) = R at *
  refine wp_range n₀ (by omega) rfl (enters_of Tryz.func312 (by kernel_rfl) rfl) (HST.out R hk1) (fun _ => rfl)
    (fun pre V => ∃ v, Blk V w.heap.size 30 #[v] ∧ OwnV 3 V w.heap.size v (ivs .i64 pre) ∧ Below w.heap.size w V)
    (fun _ _ _ => False) ?hI (fun _ _ _ _ _ hs _ _ => hs) ⟨_, hb1, OwnV.nil_ _ _ _, hk1⟩ ?hround ?hdone (fun _ _ _ _ _ _ h => h.elim)
  case hI =>
    rintro s V V' row ⟨v, h1, h2, h3⟩ hg hr
    exact ⟨v, h1.turn hg hr, h2.turn hg hr, below_turn h3 (Nat.le_refl _) (by omega) hg hr⟩
  case hround =>
    apply Exists.intro
    constructor
    · intro l x V K hK
      dsimp only [ivEnc]
      gi_wp2
      exact hK
    · rintro l pre x V ⟨v, h1, h2, h3⟩ hlen
      obtain ⟨A1, c1, rfl, _⟩ := h2.shape
      have hl1 : (ivs .i64 pre).length = pre.length := by simp [ivs]
      rw [hl1] at h1 h2
      have q1 : V.cell? ⟨w.heap.size, 0, none⟩ = some (.slice A1 pre.length c1) := h1.cell 0
      have HB1 := Lib.hid h1
      have HB2 := Lib.hid h2
      have HB3 := Lib.hid h3
      have hz := h3.size
      have hRl : w.heap.size < R.heap.size := by omega
      clear h1 h2 h3 hb1 hk1
      gi_wp2_with (gi_at_builtin; (refine wpIn_push1 30 3 (.int .i64 0) 8 Tryz.underlying30 info_int rfl (by decide) rfl (.tmp 8) (.tmp 10) rfl w.heap.size _ _ (HB2.out.alloc _) rfl ⟨V.heap.size, 0, none⟩ 1 (.int .i64 x) rfl (cell_one _ _ _) rfl ?i1 ?i2 ?_); (case i1 => omega); (case i2 => simp; omega); (intro v4 w4 hv4 hg4 hb4); (have hk4 := (HB1.out.alloc (.cells #[.int .i64 x] 3)).grown hg4 ((HB2.out.alloc (.cells #[.int .i64 x] 3)).ne_blk' (HB1.out.alloc (.cells #[.int .i64 x] 3)) (by decide))); have hq4 := hk4.cell 0; have hf4 := hk4.frozen 0; obtain ⟨A4, n4, c4, rfl⟩ : ∃ A n c, v4 = .slice A n c := (by obtain ⟨A, c, h, _⟩ := hv4.shape; exact ⟨A, _, c, h⟩))
      have e1 : ivs .i64 (pre ++ [x]) = ivs .i64 pre ++ [.int .i64 x] := by simp [ivs]
      have hbb := (((Below.refl w.heap.size V).alloc hz (.cells #[.int .i64 x] 3)).trans hb4).setCell (p := ⟨w.heap.size, 0, none⟩) (Nat.le_refl _) (.slice A4 n4 c4)
      refine ⟨((keeps_alloc _ V _).trans (keeps_appV (HB2.out.alloc _) hg4)).trans (keeps_set (p := ⟨w.heap.size, 0, none⟩) hRl _ _), hbb.mono hn₀, _, hk4.set_ 0 _, ?_, HB3.out.trans hbb⟩
      rw [e1]
      exact hv4.far (hv4.ne_blk' hk4 (by decide)) _
  case hdone =>
    rintro D xs V hD rfl ⟨v, h1, h2, h3⟩ hdef
    obtain ⟨A1, c1, rfl, _⟩ := h2.shape
    have hv := h1.cell 0
    have H2 := Lib.hid h2
    have H3 := Lib.hid h3
    clear h1 h2 h3 hb1 hk1
    go_wp2_with fail
    refine ret_mark rfl hdef (results_tmp rfl _ _ _) ?_
    exact ⟨_, rfl, H2.out.put_ _ hdef rfl, H3.out.trans (belowK_b (w := w) (Nat.le_refl _) V D _ _ (by omega) hdef rfl rfl)⟩
end Go.Proofs.YtmhmdoobadckkaaGreatDoor
/- slices.Sorted(slices.Values(l)) at numbers. -/
namespace Go.Proofs.YtmhmdoobadckkaaGreatDoor
set_option maxRecDepth 20000
open Go.RowKit Go.OpenShut

def OwnIs (w : World) (ls : List Int) (e : Ending) (w' : World) : Prop := ∃ v, e = .returned v ∧ OwnV 3 w' w.heap.size v (ivs .i64 ls) ∧ Below w.heap.size w w'
theorem collect_any (w : World) (Bs n₀ : Nat) (A : Option Addr) (n c : Nat) (ls : List Int) (hn : n ≤ 100000) (hBs : Bs < w.heap.size) (hn₀ : n₀ ≤ w.heap.size) (hc : w.cell? ⟨Bs, 0, none⟩ = some (.slice A n c)) (hI : IntsA w n₀ .i64 A n ls) :
    Calls Tryz.prog 166 #[.func (.func 312) #[] #[.pointer (some ⟨Bs, 0, none⟩)]] w (OwnIs w ls) := by
  have HA := Lib.hid (appendSeq_any w Bs n₀ A n c ls hn hBs hn₀ hc hI)
  clear hc hI
  go_enter Tryz.func166, Tryz.ntmps166
  go_wp2_with fail
  refine HA.out.mono ?_
  rintro e w1 ⟨v, rfl, ho, hb⟩
  obtain ⟨A1, c1, rfl, _⟩ := ho.shape
  have HO := Lib.hid ho
  have HB := Lib.hid hb
  clear ho hb
  go_wp2_with fail
  go_ret
  exact ⟨_, rfl, HO.out, HB.out⟩
def srt (ls : List Int) : List Int := ls.mergeSort (fun x y => decide (x ≤ y))
theorem sortI_any (blk cap n : Nat) (ls : List Int) (hn : ls.length = n) (hl : n ≤ 100000) (w : World) (hH : Sort.Holds (Value.int .i64) w blk 0 ls.toArray) (hblk : blk < w.heap.size) :
    Calls Tryz.prog 167 #[.slice (some ⟨blk, 0, none⟩) n cap] w fun e w' => e = .returned (.tuple #[]) ∧ ∃ m os, w' = Sort.grow (Sort.putRow (Value.int .i64) (Sort.ahead w m) blk 0 (srt ls).toArray) os := by
  subst hn
  exact AnyM.slices_Sort_int Tryz.sortI blk 0 cap ls w hH hblk (by omega)
set_option maxHeartbeats 1000000 in
theorem sortedV_any (w : World) (Bs n₀ : Nat) (A : Option Addr) (n c : Nat) (ls : List Int) (hn : n ≤ 100000) (hBs : Bs < w.heap.size) (hn₀ : n₀ ≤ w.heap.size) (hc : w.cell? ⟨Bs, 0, none⟩ = some (.slice A n c)) (hI : IntsA w n₀ .i64 A n ls) :
    Calls Tryz.prog 73 #[.func (.func 312) #[] #[.pointer (some ⟨Bs, 0, none⟩)]] w (OwnIs w (srt ls)) := by
  have HC := Lib.hid (collect_any w Bs n₀ A n c ls hn hBs hn₀ hc hI)
  have hln : ls.length = n := hI.1
  have HSN := Lib.hid (fun p cap W => AnyM.slices_Sort_int_none Tryz.sortI p cap W)
  have HSI := Lib.hid (fun blk cap W hH hblk => sortI_any blk cap ls.length ls rfl (by omega) W hH hblk)
  have HLS := Lib.hid (show (srt ls).length = ls.length from (List.mergeSort_perm _ _).length_eq)
  have hl1 : (ivs .i64 ls).length = ls.length := by simp [ivs]
  clear hc hI hln
  go_enter Tryz.func73, Tryz.ntmps73
  go_wp2_with fail
  refine HC.out.mono ?_
  rintro e w1 ⟨v, rfl, ho, hb⟩
  have HB := Lib.hid hb
  have hsz := hb.size
  rcases ho.2 with ⟨rfl, h0⟩ | ⟨g, cap, cur, rfl, hg, hh, hcp, hcm, hcs, hct⟩
  · have hnil : ls = [] := List.eq_nil_of_length_eq_zero (by rw [hl1] at h0; exact h0)
    have HO := Lib.hid ho
    have HN := Lib.hid hnil
    clear ho hb h0 hnil
    go_wp2_with fail
    refine (HSN.out none 0 w1).mono ?_
    rintro e w2 ⟨rfl, rfl⟩
    go_wp2_with fail
    go_ret
    refine ⟨_, rfl, ?_, HB.out⟩
    have e1 : srt ls = ls := by rw [HN.out]; simp [srt]
    rw [e1]
    exact HO.out
  · rw [hl1] at hcp hct ⊢
    rw [Nat.mul_one] at hcs hct
    have hH : Sort.Holds (Value.int .i64) w1 g 0 ls.toArray := holds_of_blockI hh hct
    have hgl : g < w1.heap.size := (Array.getElem?_eq_some_iff.1 hh).1
    have HS := Lib.hid (HSI.out g cap w1 hH hgl)
    have HH := Lib.hid hh
    have HG := Lib.hid hg
    have HCP := Lib.hid hcp
    have HCM := Lib.hid hcm
    have HCS := Lib.hid hcs
    clear ho hb hH hh hg hcp hcm hcs hct hgl hl1
    go_wp2_with fail
    refine HS.out.mono ?_
    rintro e w2 ⟨rfl, m, os, hw2⟩
    have HW := Lib.hid hw2
    clear hw2
    go_wp2_with fail
    go_ret
    refine ⟨_, rfl, ?_, ?_⟩
    · rw [HW.out]
      unfold OwnV
      have h9 := ownsRow_sortedI (n := m) (os := os) (ss := ls) (ts := srt ls) HLS.out HG.out HH.out HCP.out HCM.out (by rw [Nat.mul_one]; exact HCS.out)
      have e2 : (ivs .i64 (srt ls)).length = ls.length := by unfold ivs; rw [List.length_map, HLS.out]
      rw [e2]
      exact h9
    · rw [HW.out]
      exact HB.out.grown (grownBy_sortedI _) hsz (fun k e => by cases e; exact HG.out)
end Go.Proofs.YtmhmdoobadckkaaGreatDoor
/- array.alive. -/
namespace Go.Proofs.YtmhmdoobadckkaaGreatDoor
set_option maxRecDepth 20000
open Go.RowKit Go.OpenShut

def aliveB (σ : Nat → Option Drv) (p : Option Nat) : Bool := match p with | none => false | some g => match σ g with | none => false | some D => !D.dead
theorem alive_any (w : World) (σ : Nat → Option Drv) (R : Nat → Prop) (h : Dsk w σ R) (p : Option Nat) (hp : PIn σ p) :
    Calls Tryz.prog 90 #[pv p] w fun e w' => e = .returned (.bool (aliveB σ p)) ∧ w = w' := by
  cases p with
  | none =>
    unfold pv aliveB
    clear h hp
    go_enter Tryz.func90, Tryz.ntmps90
    go_wp2_with fail
    go_ret
    exact ⟨rfl, rfl⟩
  | some g =>
    have hg := hp g rfl
    obtain ⟨D, hD⟩ := Option.isSome_iff_exists.1 hg
    have HS := Lib.hid (h.dead hD)
    have e1 : aliveB σ (some g) = !D.dead := by simp only [aliveB, hD]
    rw [e1]
    show Calls _ _ #[.pointer (some ⟨g, 0, none⟩)] _ _
    clear h hp e1 hg hD
    go_enter Tryz.func90, Tryz.ntmps90
    go_wp2_with fail
    refine HS.out.mono ?_
    rintro e w2 ⟨rfl, rfl⟩
    go_wp2_with fail
    go_ret
    exact ⟨rfl, rfl⟩
end Go.Proofs.YtmhmdoobadckkaaGreatDoor
/- slices.Clone at a slice of drives. -/
namespace Go.Proofs.YtmhmdoobadckkaaGreatDoor
set_option maxRecDepth 20000
open Go.RowKit Go.OpenShut

theorem infoPv : ∃ i, Tryz.prog.info? 33 = some i ∧ i.zero = some (.pointer none) ∧ i.size = 1 ∧ i.bytes = 8 := info_parts (by kernel_rfl)
theorem run_build0 (w : World) : (Instr.buildSlice 27 0 #[]).run Tryz.prog w = .ok (.slice (some ⟨w.heap.size, 0, none⟩) 0 0) (w.alloc (.cells #[] 33)) := by
  obtain ⟨i, hi, h0, h1, h2⟩ := infoPv
  simp [Instr.buildSlice, run_underlying Tryz.underlying27, sizeOf, typeInfo, hi, newRow, Instr.fill]
  exact congrArg (fun x => w.alloc (Obj.cells x _)) (Array.eq_empty_of_size_eq_zero (by simp))
set_option maxHeartbeats 1000000 in
theorem cloneD (w : World) (A : Option Addr) (n c : Nat) (ps : List (Option Nat)) (h : VA w (fun _ => False) A n (ps.map pv)) (hn : n ≤ 4294967) (hc0 : A = none → c = 0) :
    Calls Tryz.prog 93 #[.slice A n c] w fun e w' => ∃ v, e = .returned v ∧ OwnV 33 w' w.heap.size v (ps.map pv) ∧ Below w.heap.size w w' := by
  have HQ := fun w => Lib.run_eql_slice_nil (P := Tryz.prog) w 27 33 A n c 0 0 Tryz.underlying27
  have HB := run_build0
  cases A with
  | none =>
    have hl : ps = [] := by
      have h1 := h.1
      rcases Nat.eq_zero_or_pos n with e | e
      · rw [List.length_map] at h1
        exact List.eq_nil_of_length_eq_zero (h1.trans e)
      · obtain ⟨_, _, h0, _⟩ := h.2 e
        cases h0
    subst hl
    obtain rfl := hc0 rfl
    clear h HB hc0
    replace HQ : ∀ w, (binOp .eql 27 (.slice none n 0) (.slice none 0 0)).run Tryz.prog w = .ok (.bool true) w := HQ
    go_enter Tryz.func93, Tryz.ntmps93
    go_wp2_with fail
    go_ret
    exact ⟨_, rfl, OwnV.nil_ _ _ _, Below.refl _ _⟩
  | some a =>
    replace HQ : ∀ w, (binOp .eql 27 (.slice (some a) n c) (.slice none 0 0)).run Tryz.prog w = .ok (.bool false) w := HQ
    have ho := OwnV.new 33 w w.heap.size (Nat.le_refl _) [] (by simp)
    have hb0 := (Below.refl w.heap.size w).alloc (Nat.le_refl _) (.cells #[] 33)
    have hv := h.below hb0
    have hlen := h.1
    go_enter Tryz.func93, Tryz.ntmps93
    go_wp2_with (at_builtin; go_loud (refine wp_appV 27 33 (.pointer none) 8 Tryz.underlying27 ?i1 rfl (by decide) rfl (.tmp 5) (.tmp 6) rfl w.heap.size _ _ ho rfl (some a) n c (ps.map pv) rfl hv (fun u hu => by obtain ⟨p, _, rfl⟩ := List.mem_map.1 hu; rfl) (fun e => by cases e) ?i3 ?i4 ?_; (case i1 => kernel_rfl); (case i3 => simp; omega); (case i4 => simp); intro v4 w4 hv4 hg4 hb4 hk4))
    go_ret
    exact ⟨v4, rfl, hv4, hb0.trans hb4⟩
end Go.Proofs.YtmhmdoobadckkaaGreatDoor
/- slices.Clone at []string, slices.Contains at []int. -/
namespace Go.Proofs.YtmhmdoobadckkaaGreatDoor
set_option maxRecDepth 20000
open Go.RowKit Go.OpenShut

theorem run_buildS0 (w : World) : (Instr.buildSlice 22 0 #[]).run Tryz.prog w = .ok (.slice (some ⟨w.heap.size, 0, none⟩) 0 0) (w.alloc (.cells #[] 9)) := by
  obtain ⟨i, hi, h0, h1, h2⟩ := info_parts info_string
  simp [Instr.buildSlice, run_underlying Tryz.underlying22, sizeOf, typeInfo, hi, newRow, Instr.fill]
  exact congrArg (fun x => w.alloc (Obj.cells x _)) (Array.eq_empty_of_size_eq_zero (by simp))
set_option maxHeartbeats 1000000 in
theorem cloneS (w : World) (a : Addr) (n c : Nat) (xs : List ByteArray) (h : VA w (fun _ => False) (some a) n (svs xs)) (hn : n ≤ 4294967) :
    Calls Tryz.prog 242 #[.slice (some a) n c] w fun e w' => ∃ v, e = .returned v ∧ OwnV 9 w' w.heap.size v (svs xs) ∧ Below w.heap.size w w' := by
  have HQ := fun w => Lib.run_eql_slice_nil (P := Tryz.prog) w 22 9 (some a) n c 0 0 Tryz.underlying22
  have HB := run_buildS0
  replace HQ : ∀ w, (binOp .eql 22 (.slice (some a) n c) (.slice none 0 0)).run Tryz.prog w = .ok (.bool false) w := HQ
  have ho := OwnV.new 9 w w.heap.size (Nat.le_refl _) [] (by simp)
  have hb0 := (Below.refl w.heap.size w).alloc (Nat.le_refl _) (.cells #[] 9)
  have hv := h.below hb0
  have hlen := h.1
  go_enter Tryz.func242, Tryz.ntmps242
  go_wp2_with (at_builtin; go_loud (refine wp_appV 22 9 (.string ⟨#[]⟩) 16 Tryz.underlying22 ?i1 rfl (by decide) rfl (.tmp 5) (.tmp 6) rfl w.heap.size _ _ ho rfl (some a) n c (svs xs) rfl hv (fun u hu => svs_one xs u hu) (fun e => by cases e) ?i3 ?i4 ?_; (case i1 => kernel_rfl); (case i3 => simp; omega); (case i4 => simp); intro v4 w4 hv4 hg4 hb4 hk4))
  go_ret
  exact ⟨v4, rfl, hv4, hb0.trans hb4⟩
theorem indexI (w : World) (B : Nat) (A : Option Addr) (n c : Nat) (ls : List Int) (h : IntsA w B .i64 A n ls) (hn : n ≤ 4294967295) (q : Int) :
    Calls Tryz.prog 313 #[.slice A n c, .int .i64 q] w fun e w' => e = .returned (.int .i64 (idxB (fun p => decide (q = p)) ls 0)) ∧ w = w' := by
  have HLn := Lib.hid h.1
  have HV := Lib.hid h
  clear h
  go_enter Tryz.func313, Tryz.ntmps313
  go_wp2_with fail
  go_loop [8] (fun i => ∃ k : Nat, k ≤ n ∧ i = .int .i64 k ∧ ∀ j, j < k → decide (q = ls.getD j 0) = false) (fun i => n - (RowKit.intOf i).toNat)
  case atStart => exact ⟨0, by omega, rfl, fun j hj => by omega⟩
  case round =>
    obtain ⟨k, hk, rfl, hall⟩ := hrel
    have HA := Lib.hid hall
    clear hall
    by_cases hlt : k < n
    · obtain ⟨b, off, rfl, _, hc⟩ := HV.out.2 (by omega)
      have hcell := hc k hlt
      obtain ⟨p, hp⟩ : ∃ p, ls.getD k 0 = p := ⟨_, rfl⟩
      rw [hp] at hcell
      have HP := Lib.hid hp
      clear hp hc
      by_cases hz : q = p
      · have hzz : (q == p) = true := by simp [hz]
        have HZ := Lib.hid hz
        clear hz
        go_wp2_with fail
        go_ret
        refine ⟨ret_i64 ?_, rfl⟩
        rw [idxB_at 0 ls 0 k (by rw [HLn.out]; exact hlt) HA.out (by rw [HP.out]; exact decide_eq_true HZ.out)]
        simp
      · have hzz : (q == p) = false := by simp [hz]
        go_wp2_with fail
        go_round
        case rel =>
          refine ⟨k + 1, by omega, by go_num, fun j hj => ?_⟩
          by_cases e : j = k
          · rw [e, HP.out]; exact decide_eq_false hz
          · exact HA.out j (by omega)
        case measure => simp [RowKit.intOf]; omega
    · go_wp2_with fail
      go_ret
      refine ⟨ret_i64 ?_, rfl⟩
      rw [idxB_none ls 0 (fun x hx => ?_)]
      obtain ⟨j, hj, rfl⟩ := List.mem_iff_getElem.1 hx
      have := HA.out j (by have := HLn.out; omega)
      simpa [List.getD, hj] using this
theorem containsI (w : World) (B : Nat) (A : Option Addr) (n c : Nat) (ls : List Int) (h : IntsA w B .i64 A n ls) (hn : n ≤ 4294967295) (q : Int) :
    Calls Tryz.prog 243 #[.slice A n c, .int .i64 q] w fun e w' => e = .returned (.bool (decide (q ∈ ls))) ∧ w = w' := by
  have HI := Lib.hid (indexI w B A n c ls h hn q)
  have HB := Lib.hid (show decide (idxB (fun p => decide (q = p)) ls 0 ≥ 0) = decide (q ∈ ls) from by
    rw [idxB_any]
    rw [Bool.eq_iff_iff]
    simp)
  clear h hn
  generalize idxB (fun p => decide (q = p)) ls 0 = x at *
  go_enter Tryz.func243, Tryz.ntmps243
  go_wp2_with (go_at_call 313; refine HI.out.mono ?_; rintro e w1 ⟨rfl, rfl⟩)
  go_ret
  exact ⟨by rw [← HB.out]; simp, rfl⟩
end Go.Proofs.YtmhmdoobadckkaaGreatDoor
