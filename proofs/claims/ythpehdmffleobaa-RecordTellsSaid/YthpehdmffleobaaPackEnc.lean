import Derived.Test.YthpehdmffleobaaPackIt
namespace Go.Proofs.Ythpehdmffleobaa
open Go.RowKit Go.OpenShut
attribute [local go_sem] Oper.semAt_some

def allFit (ls ws : List Int) : Bool := (List.range ws.length).all fun i => fitsB (ls.getD i 0).toNat (ws.getD i 0)
def encE (ls ws : List Int) : Int := if wOK ws then (if ls.length = ws.length then (if allFit ls ws then 0 else 30) else 1) else 1
def encByte (ls : List Int) (p : Nat × Nat) : UInt8 := UInt8.ofNat ((ls.getD p.1 0).toNat / 256 ^ p.2)
def encL (ls ws : List Int) : List UInt8 := (placesF 0 ws).map (encByte ls)
def encS (ls ws : List Int) : ByteArray := if encE ls ws = 0 then ⟨(encL ls ws).toArray⟩ else ⟨#[]⟩
theorem enc_w {ls ws : List Int} (h : wOK ws = false) : encE ls ws = 1 ∧ encS ls ws = ⟨#[]⟩ := by
  have e : encE ls ws = 1 := by unfold encE; rw [h]; rfl
  exact ⟨e, by unfold encS; rw [e]; rfl⟩
theorem enc_l {ls ws : List Int} (h : ls.length ≠ ws.length) : encE ls ws = 1 ∧ encS ls ws = ⟨#[]⟩ := by
  have e : encE ls ws = 1 := by unfold encE; rw [if_neg h]; split <;> rfl
  exact ⟨e, by unfold encS; rw [e]; rfl⟩
theorem enc_f {ls ws : List Int} (h0 : wOK ws = true) (h1 : ls.length = ws.length) (h : allFit ls ws = false) : encE ls ws = 30 ∧ encS ls ws = ⟨#[]⟩ := by
  have e : encE ls ws = 30 := by unfold encE; rw [h0, if_pos rfl, if_pos h1, h]; rfl
  exact ⟨e, by unfold encS; rw [e]; rfl⟩
theorem enc_ok {ls ws : List Int} (h0 : wOK ws = true) (h1 : ls.length = ws.length) (h : allFit ls ws = true) : encE ls ws = 0 ∧ encS ls ws = ⟨(encL ls ws).toArray⟩ := by
  have e : encE ls ws = 0 := by unfold encE; rw [h0, if_pos rfl, if_pos h1, h]; rfl
  exact ⟨e, by unfold encS; rw [e]; rfl⟩

set_option maxHeartbeats 400000 in
theorem encode_w (w : World) (A A' : Option Addr) (n c m c' : Nat) (ws : List Int) (hw : IntsA w w.heap.size .i64 A' m ws) (hm : m ≤ 4294967295) (hno : wOK ws = false) :
    Calls Try.prog 55 #[.slice A n c, .slice A' m c'] w fun e w' => e = .returned (.tuple #[.string ⟨#[]⟩, .int .i64 1]) ∧ Below w.heap.size w w' := by
  have h1 := (size_no hno).1
  have h2 := (size_no hno).2
  go_enter Try.func55, Try.ntmps55
  go_wp2_with fail
  refine (size_any _ w.heap.size A' m c' ws (hw.below ((Below.refl _ _).alloc (Nat.le_refl _) _)) hm).mono ?_
  rintro e w1 ⟨rfl, rfl⟩
  rw [h1, h2]
  clear h1 h2
  go_wp2
  go_ret2
  exact ⟨rfl, (Below.refl _ _).alloc (Nat.le_refl _) _⟩

set_option maxHeartbeats 400000 in
theorem encode_l (w : World) (A A' : Option Addr) (n c m c' : Nat) (ws : List Int) (hw : IntsA w w.heap.size .i64 A' m ws) (hm : m ≤ 4294967295) (hok : wOK ws = true) (hne : n ≠ m) :
    Calls Try.prog 55 #[.slice A n c, .slice A' m c'] w fun e w' => e = .returned (.tuple #[.string ⟨#[]⟩, .int .i64 1]) ∧ Below w.heap.size w w' := by
  have h2 := (size_yes hok).2
  have hb : ((n : Int) != (m : Int)) = true := by rw [bne_iff_ne]; omega
  go_enter Try.func55, Try.ntmps55
  go_wp2_with fail
  refine (size_any _ w.heap.size A' m c' ws (hw.below ((Below.refl _ _).alloc (Nat.le_refl _) _)) hm).mono ?_
  rintro e w1 ⟨rfl, rfl⟩
  rw [h2]
  clear h2
  go_wp2
  go_ret2
  exact ⟨rfl, (Below.refl _ _).alloc (Nat.le_refl _) _⟩

set_option maxHeartbeats 1000000 in
theorem encode_f (w : World) (A A' : Option Addr) (n c m c' : Nat) (ls ws : List Int) (hl : IntsA w w.heap.size .u64 A n ls) (hw : IntsA w w.heap.size .i64 A' m ws) (hm : m ≤ 4294967295) (hu : ∀ x ∈ ls, 0 ≤ x ∧ x < 18446744073709551616)
    (hok : wOK ws = true) (hnm : n = m) (hno : allFit ls ws = false) :
    Calls Try.prog 55 #[.slice A n c, .slice A' m c'] w fun e w' => e = .returned (.tuple #[.string ⟨#[]⟩, .int .i64 30]) ∧ Below w.heap.size w w' := by
  subst hnm
  have h2 := (size_yes hok).2
  have HU := Lib.hid hu
  have HNO := Lib.hid hno
  have HL := Lib.hid hl.1
  have HW := Lib.hid hw.1
  clear hu hno
  go_enter Try.func55, Try.ntmps55
  go_wp2_with fail
  refine (size_any _ w.heap.size A' n c' ws (hw.below ((Below.refl _ _).alloc (Nat.le_refl _) _)) hm).mono ?_
  rintro e w1 ⟨rfl, rfl⟩
  rw [h2]
  clear h2
  go_wp2_with fail
  have hbe := (Below.refl w.heap.size w).alloc (Nat.le_refl _) (.cells #[.slice A n c] 70)
  have hbx := (Blk.new w 70 #[.slice A n c]).cell 0
  have hl2 := hl.below hbe
  have hw2 := hw.below hbe
  generalize w.alloc (.cells #[.slice A n c] 70) = W at *
  go_loop [30] (fun i => ∃ k : Nat, k ≤ n ∧ i = .int .i64 k ∧ ∀ j, j < k → fitsB (ls.getD j 0).toNat (ws.getD j 0) = true) (fun i => n - (intOf i).toNat)
  case atStart => exact ⟨0, by omega, rfl, fun j hj => by omega⟩
  case round =>
    obtain ⟨k, hk, rfl, hall⟩ := hrel
    have HA := Lib.hid hall
    clear hall
    by_cases hlt : k < n
    · obtain ⟨b, off, rfl, _, hc⟩ := hl2.2 (by omega)
      obtain ⟨b', off', rfl, _, hc'⟩ := hw2.2 (by omega)
      have hck := hc k hlt
      have hck' := hc' k hlt
      have hx : ls.getD k 0 ∈ ls := by
        have : k < ls.length := by rw [HL.out]; exact hlt
        simp [List.getD, this]
      have hxu := HU.out _ hx
      obtain ⟨x, hxe⟩ : ∃ x, ls.getD k 0 = x := ⟨_, rfl⟩
      obtain ⟨y, hye⟩ : ∃ y, ws.getD k 0 = y := ⟨_, rfl⟩
      rw [hxe] at hck hxu
      rw [hye] at hck'
      have HX := Lib.hid hxe
      have HY := Lib.hid hye
      obtain ⟨x', rfl⟩ := Int.eq_ofNat_of_zero_le hxu.1
      have hx' : x' < 18446744073709551616 := by omega
      have HXU := Lib.hid hx'
      clear hc hc' hxe hye hx hxu hx'
      go_wp2_with fail
      refine (fits_any _ x' HXU.out y).mono ?_
      rintro e w1 ⟨rfl, rfl⟩
      obtain ⟨f, hf⟩ : ∃ f, fitsB x' y = f := ⟨_, rfl⟩
      rw [hf]
      have HF := Lib.hid hf
      clear hf
      cases f
      · go_wp2
        go_ret2
        exact ⟨rfl, hbe⟩
      · go_wp2
        go_round
        case rel =>
          refine ⟨k + 1, by omega, by go_num, fun j hj => ?_⟩
          by_cases e : j = k
          · subst e
            rw [HX.out, HY.out]
            exact HF.out
          · exact HA.out j (by omega)
        case measure => simp [intOf]; omega
    · exfalso
      have : allFit ls ws = true := by
        unfold allFit
        rw [List.all_eq_true]
        intro j hj
        rw [List.mem_range, HW.out] at hj
        exact HA.out j (by omega)
      rw [HNO.out] at this
      cases this

theorem allFit_at {ls ws : List Int} (h : allFit ls ws = true) {j : Nat} (hj : j < ws.length) : fitsB (ls.getD j 0).toNat (ws.getD j 0) = true := by
  unfold allFit at h
  rw [List.all_eq_true] at h
  exact h j (List.mem_range.2 hj)

theorem OwnB.shape {w : World} {base : Nat} {v : Value} {l : List UInt8} (h : OwnB w base v l) : ∃ A c, v = .slice A l.length c := by
  rcases h.2 with ⟨rfl, h0⟩ | ⟨g, cap, cur, rfl, _⟩
  · exact ⟨none, 0, by rw [h0]⟩
  · exact ⟨_, _, rfl⟩
theorem OwnB.far {w : World} {base : Nat} {v : Value} {l : List UInt8} (h : OwnB w base v l) {p : Addr} (hp : some p.block ≠ v.ownBlock) (u : Value) : OwnB (w.setCell p u) base v l := by
  obtain ⟨h1, h2⟩ := h
  refine ⟨h1, ?_⟩
  rcases h2 with h2 | ⟨g, cap, cur, rfl, hg, hh, r⟩
  · exact Or.inl h2
  · refine Or.inr ⟨g, cap, cur, rfl, hg, ?_, r⟩
    rw [Below.heap_setCell w p u g (fun e => hp (by rw [← e]; rfl))]
    exact hh
theorem keeps_drew (B : Nat) (W : World) : KeepsFrom B W W.drew := ⟨Nat.le_refl _, fun _ _ _ h _ => h⟩
theorem keeps_alloc (B : Nat) (W : World) (o : Obj) : KeepsFrom B W (W.alloc o) :=
  ⟨by simp, fun k _ _ hk _ => (Below.heap_alloc W o k (Array.getElem?_eq_some_iff.1 hk).1).trans hk⟩
theorem keeps_set {B : Nat} {p : Addr} (hp : p.block < B) (W : World) (u : Value) : KeepsFrom B W (W.setCell p u) :=
  ⟨by simp [World.setCell], fun k _ hb hk _ => (Below.heap_setCell W p u k (by omega)).trans hk⟩
theorem OwnB.ne_blk {w : World} {g base : Nat} {t : TypeId} {cs : Array Value} {v : Value} {l : List UInt8} (h : OwnB w base v l) (hb : Blk w g t cs) (ht : t ≠ 5) : some g ≠ v.ownBlock := by
  rcases h.2 with ⟨rfl, _⟩ | ⟨g', cap, cur, rfl, _, hgb, _⟩
  · simp [Value.ownBlock]
  · intro e
    obtain rfl : g = g' := by simpa [Value.ownBlock] using e
    unfold Blk at hb
    rw [hb] at hgb
    cases hgb
    exact ht rfl

set_option maxHeartbeats 2000000 in
theorem encode_ok (w : World) (A A' : Option Addr) (n c m c' : Nat) (ls ws : List Int) (hl : IntsA w w.heap.size .u64 A n ls) (hw : IntsA w w.heap.size .i64 A' m ws) (hm : m ≤ 4294967295) (hu : ∀ x ∈ ls, 0 ≤ x ∧ x < 18446744073709551616)
    (hok : wOK ws = true) (hnm : n = m) (hyes : allFit ls ws = true) :
    Calls Try.prog 55 #[.slice A n c, .slice A' m c'] w fun e w' => e = .returned (.tuple #[.string ⟨(encL ls ws).toArray⟩, .int .i64 0]) ∧ Below w.heap.size w w' := by
  subst hnm
  have h1 := (size_yes hok).1
  have h2 := (size_yes hok).2
  have HU := Lib.hid hu
  have HYES := Lib.hid hyes
  have HL := Lib.hid hl.1
  have HW := Lib.hid hw.1
  clear hu hyes
  obtain ⟨N, hN⟩ : ∃ N : Nat, sumW ws = (N : Int) := by
    have := sumW_bd ws (by unfold wOK at hok; simp at hok; exact hok.1)
    exact ⟨(sumW ws).toNat, by omega⟩
  have hN512 : N ≤ 512 := by
    have h3 := sumW_bd ws (by unfold wOK at hok; simp at hok; exact hok.1)
    have h4 : ws.length ≤ 64 := by unfold wOK at hok; simp at hok; exact hok.2
    omega
  rw [hN] at h1
  have hmk := run_makeBc N (by omega)
  obtain ⟨z, hz⟩ : ∃ z, List.replicate N (0 : UInt8) = z := ⟨_, rfl⟩
  have hzl : z.length = N := by rw [← hz]; simp
  rw [hz] at hmk
  have HZL := Lib.hid hzl
  have HN := Lib.hid hN
  clear hz hzl hN
  refine calls_marks Try.func55 rfl ?_
  simp only [Try.ntmps55, List.size_toArray, List.length_cons, List.length_nil, Nat.reduceAdd, Nat.reduceSub, Array.replicate_succ, Array.replicate_zero, List.push_toArray, List.append_toArray, List.nil_append, List.cons_append]
  go_wp2_with fail
  refine (size_any _ w.heap.size A' n c' ws (hw.below ((Below.refl _ _).alloc (Nat.le_refl _) _)) hm).mono ?_
  rintro e w1 ⟨rfl, rfl⟩
  rw [h1, h2]
  clear h1 h2
  go_wp2_with fail
  have hbe := (Below.refl w.heap.size w).alloc (Nat.le_refl _) (.cells #[.slice A n c] 70)
  have hbk := Blk.new w 70 #[.slice A n c]
  have hbx := hbk.cell 0
  have hl2 := hl.below hbe
  have hw2 := hw.below hbe
  have hszW : (w.alloc (.cells #[.slice A n c] 70)).heap.size = w.heap.size + 1 := by simp
  generalize w.alloc (.cells #[.slice A n c] 70) = W at *
  go_loop [30] (fun i => ∃ k : Nat, k ≤ n ∧ i = .int .i64 k) (fun i => n - (intOf i).toNat)
  case atStart => exact ⟨0, by omega, rfl⟩
  case round =>
    obtain ⟨k, hk, rfl⟩ := hrel
    by_cases hlt : k < n
    · obtain ⟨b, off, rfl, _, hc⟩ := hl2.2 (by omega)
      obtain ⟨b', off', rfl, _, hc'⟩ := hw2.2 (by omega)
      have hck := hc k hlt
      have hck' := hc' k hlt
      have hf := allFit_at HYES.out (j := k) (by rw [HW.out]; exact hlt)
      have hx : ls.getD k 0 ∈ ls := by
        have : k < ls.length := by rw [HL.out]; exact hlt
        simp [List.getD, this]
      have hxu := HU.out _ hx
      generalize ls.getD k 0 = x at *
      generalize ws.getD k 0 = y at *
      obtain ⟨x', rfl⟩ := Int.eq_ofNat_of_zero_le hxu.1
      have hx' : x' < 18446744073709551616 := by omega
      have HXU := Lib.hid hx'
      rw [Int.toNat_natCast] at hf
      have HF := Lib.hid hf
      clear hc hc' hx hxu hx' hf hbe
      go_wp2_with fail
      refine (fits_any _ x' HXU.out y).mono ?_
      rintro e w1 ⟨rfl, rfl⟩
      rw [HF.out]
      go_wp2
      go_round
      case rel => exact ⟨k + 1, by omega, by go_num⟩
      case measure => simp [intOf]; omega
    · obtain rfl : k = n := by omega
      clear hlt hk
      go_wp2_with fail
      refine (places_any _ A' k c').mono ?_
      rintro e w1 ⟨rfl, rfl⟩
      go_wp2_with fail
      clear hmk
      have hz0 := Blk.new W 5 (bcs z).toArray
      have hb1 := hbe.alloc hbe.size (.cells (bcs z).toArray 5)
      have hs1 : (W.alloc (.cells (bcs z).toArray 5)).heap.size = w.heap.size + 1 + 1 := by simp; omega
      have hk1 := hbk.alloc (.cells (bcs z).toArray 5)
      rw [hszW] at hz0
      generalize W.alloc (.cells (bcs z).toArray 5) = W1 at *
      have hb2 := Blk.new W1 58 #[.slice (some ⟨w.heap.size + 1, 0, none⟩) 0 N]
      rw [hs1] at hb2
      have hz2 := hz0.alloc (.cells #[.slice (some ⟨w.heap.size + 1, 0, none⟩) 0 N] 58)
      have hk2 := hk1.alloc (.cells #[.slice (some ⟨w.heap.size + 1, 0, none⟩) 0 N] 58)
      have hbe2 := hb1.alloc hb1.size (.cells #[.slice (some ⟨w.heap.size + 1, 0, none⟩) 0 N] 58)
      have hs2 : (W1.alloc (.cells #[.slice (some ⟨w.heap.size + 1, 0, none⟩) 0 N] 58)).heap.size = w.heap.size + 1 + 1 + 1 := by simp; omega
      generalize W1.alloc (.cells #[.slice (some ⟨w.heap.size + 1, 0, none⟩) 0 N] 58) = W2 at *
      have hw3 := Blk.new W2 73 #[.slice A' k c']
      rw [hs2] at hw3
      have hz3 := hz2.alloc (.cells #[.slice A' k c'] 73)
      have hk3 := hk2.alloc (.cells #[.slice A' k c'] 73)
      have hb3 := hb2.alloc (.cells #[.slice A' k c'] 73)
      have hbe3 := hbe2.alloc hbe2.size (.cells #[.slice A' k c'] 73)
      have hs3 : (W2.alloc (.cells #[.slice A' k c'] 73)).heap.size = w.heap.size + 1 + 1 + 1 + 1 := by simp; omega
      generalize W2.alloc (.cells #[.slice A' k c'] 73) = R at *
      clear hbe hbx hbk hl2 hw2 hb1 hs1 hk1 hz0 hb2 hz2 hk2 hbe2 hs2 hszW
      have hown := hz3.ownB0 HZL.out (show w.heap.size ≤ w.heap.size + 1 by omega) (by unfold maxLen; omega)
      have hws : ∀ x ∈ ws, 1 ≤ x ∧ x ≤ 8 := by unfold wOK at hok; simp at hok; exact hok.1
      refine wp_range w.heap.size (by omega) rfl (enters_of Try.func60 (by kernel_rfl) rfl)
        (places_stops (w.heap.size + 1 + 1 + 1) w.heap.size A' k c' ws hws hm R (by omega) (by omega) (hw3.cell 0) (hw.below hbe3)) (fun _ => rfl)
        (fun pre V => (∃ v, Blk V (w.heap.size + 1 + 1) 58 #[v] ∧ OwnB V w.heap.size v (pre.map fun x => encByte ls x.1)) ∧ Blk V w.heap.size 70 #[.slice A k c] ∧ Below w.heap.size w V)
        (fun _ _ _ => False) ?hI (fun _ _ _ _ _ hs _ _ => hs) ⟨⟨_, hb3, hown⟩, hk3, hbe3⟩ ?hround ?hdone (fun _ _ _ _ _ _ h => h.elim)
      case hI =>
        rintro s V V' row ⟨⟨v, h1, h2⟩, h3, h4⟩ hg hr
        exact ⟨⟨v, h1.turn hg hr, h2.turn hg hr⟩, h3.turn hg hr, below_turn h4 (Nat.le_refl _) (by omega) hg hr⟩
      case hround =>
        apply Exists.intro
        constructor
        · intro l x V K hK
          dsimp only [plEnc]
          gi_wp2
          exact hK
        · rintro l pre x V ⟨⟨v, h1, h2⟩, h3, h4⟩ hlen
          gi_wp2
          obtain ⟨⟨i, kk⟩, hik, hkk⟩ := x
          replace hik : i < k := hik
          replace hkk : kk < 8 := hkk
          obtain ⟨b, off, rfl, hbw, hc⟩ := (hl.below h4).2 (by omega)
          have hci := hc i hik
          have hx : ls.getD i 0 ∈ ls := by
            have : i < ls.length := by rw [HL.out]; exact hik
            simp [List.getD, this]
          have hxu := HU.out _ hx
          obtain ⟨x, hxe⟩ : ∃ x, ls.getD i 0 = x := ⟨_, rfl⟩
          rw [hxe] at hci hxu
          have HX := Lib.hid hxe
          obtain ⟨x', rfl⟩ := Int.eq_ofNat_of_zero_le hxu.1
          have hx' : x' < 18446744073709551616 := by omega
          have hv := h1.cell 0
          have hbl := h3.cell 0
          clear hc hx hxe hxu
          refine wpIn_region_nf l (fun V' => V'.cell? ⟨w.heap.size + 1 + 1, 0, none⟩ = some v ∧ V'.cell? ⟨w.heap.size, 0, none⟩ = some (.slice (some ⟨b, off, none⟩) k c) ∧ V'.cell? ⟨b, off + i, none⟩ = some (.int .u64 x')) (fun j => j == 10)
            [(0, true), (1, true), (2, true), (3, true), (4, true), (5, true), (6, true), (7, true), (8, false), (9, false), (10, false)] (by kernel_rfl) rfl (by kernel_rfl) (by kernel_rfl) (fun d _ _ _ _ h => by cases d <;> exact h) (by kernel_rfl) (fun ⟨_, _, h⟩ => h) ?_
          have hS : V.drew.cell? ⟨w.heap.size + 1 + 1, 0, none⟩ = some v ∧ V.drew.cell? ⟨w.heap.size, 0, none⟩ = some (.slice (some ⟨b, off, none⟩) k c) ∧ V.drew.cell? ⟨b, off + i, none⟩ = some (.int .u64 x') := ⟨hv, hbl, hci⟩

          refine nf_pure rfl hS (fun w1 hS => by obtain ⟨g1, g2, g3⟩ := hS; go_wp2; exact ⟨rfl, rfl, rfl⟩) rfl ?_ ?_
          rfl
          refine nf_pure rfl hS (fun w1 hS => by obtain ⟨g1, g2, g3⟩ := hS; go_wp2; exact ⟨rfl, rfl, rfl⟩) rfl ?_ ?_
          rfl
          refine nf_pure rfl hS (fun w1 hS => by obtain ⟨g1, g2, g3⟩ := hS; go_wp2; exact ⟨rfl, rfl, rfl⟩) rfl ?_ ?_
          rfl
          refine nf_pure rfl hS (fun w1 hS => by obtain ⟨g1, g2, g3⟩ := hS; go_wp2; exact ⟨rfl, rfl, rfl⟩) rfl ?_ ?_
          rfl
          refine nf_pure rfl hS (fun w1 hS => by obtain ⟨g1, g2, g3⟩ := hS; go_wp2; exact ⟨rfl, rfl, rfl⟩) rfl ?_ ?_
          rfl
          refine nf_pure rfl hS (fun w1 hS => by obtain ⟨g1, g2, g3⟩ := hS; go_wp2; exact ⟨rfl, rfl, rfl⟩) rfl ?_ ?_
          rfl
          refine nf_pure rfl hS (fun w1 hS => by obtain ⟨g1, g2, g3⟩ := hS; go_wp2; exact ⟨rfl, rfl, rfl⟩) rfl ?_ ?_
          rfl
          obtain ⟨q, hq, hqe⟩ : ∃ q : Nat, (x' : Int) / 2 ^ (8 * kk) = (q : Int) ∧ encByte ls (i, kk) = UInt8.ofNat q := by
            refine ⟨x' / 256 ^ kk, ?_, ?_⟩
            · rw [Int.natCast_ediv, show (256 : Nat) = 2 ^ 8 from rfl, ← Nat.pow_mul, Int.natCast_pow]
              rfl
            · unfold encByte
              rw [HX.out]
              rfl
          rw [hq]
          clear hq
          refine nf_pure rfl hS (fun w1 hS => by obtain ⟨g1, g2, g3⟩ := hS; go_wp2; exact ⟨rfl, rfl, rfl⟩) rfl ?_ ?_
          rfl
          refine nf_imp rfl ?_
          go_wp2_with fail
          refine ⟨fun _ => ?_, ?_⟩
          · exact ⟨((h1.drew.alloc _).cell 0).trans rfl, ((h3.drew.alloc _).cell 0).trans rfl, (((Below.refl w.heap.size V).alloc h4.size (.cells #[.int .u8 ((q : Int) % 256)] 5)).cell (p := ⟨b, off + i, none⟩) hbw).trans hci⟩
          refine nf_imp rfl ?_
          have h1a := h1.drew.alloc (.cells #[.int .u8 ((q : Int) % 256)] 5)
          have h3a := h3.drew.alloc (.cells #[.int .u8 ((q : Int) % 256)] 5)
          have hba : Below w.heap.size V (V.drew.alloc (.cells #[.int .u8 ((q : Int) % 256)] 5)) := (Below.refl w.heap.size V).drew.alloc h4.size (.cells #[.int .u8 ((q : Int) % 256)] 5)
          have hne := h2.ne_blk h1 (by decide)
          have hne3 := h2.ne_blk h3 (by decide)
          have hkp := fun W5 => keeps_app (W' := W5) (B := R.heap.size) (h2.drew.alloc (.cells #[.int .u8 ((q : Int) % 256)] 5))
          refine wp_pushB rfl (.tmp 49) (.tmp 57) rfl w.heap.size v _ rfl (h2.drew.alloc _) ⟨V.drew.heap.size, 0, none⟩ 1 (UInt8.ofNat q) rfl ?_ ?_ ?_ ?_
          · refine ((Blk.new V.drew 5 #[.int .u8 ((q : Int) % 256)]).cell 0).trans ?_
            simp [bc]
          · simp
            have h9 := sumW_bd ws hws
            have h10 : ws.length ≤ 64 := by unfold wOK at hok; simp at hok; exact hok.2
            omega
          · simp
            have := h4.size
            omega
          rintro v' W4 ho hg hb
          have hkp := hkp _ hg
          obtain ⟨A2, c2, rfl⟩ := ho.shape
          have h1b := h1a.grown hg hne
          have h3b := h3a.grown hg hne3
          have hbb := hba.trans hb
          have hsz := hbb.size
          clear h1a h3a hba hb hg
          go_wp2_with fail
          refine ⟨fun _ => ⟨h1b.cell 0, h3b.cell 0, (hbb.cell (p := ⟨b, off + i, none⟩) hbw).trans hci⟩, ?_⟩
          have hb1 := h1b.cell 0
          have hb2 := h1b.frozen 0
          refine nf_imp rfl ?_
          go_wp2_with fail
          refine ⟨fun h => (by cases h), ?_⟩
          refine nf_nil ?_
          rw [show pre.length + 1 = (List.map (fun x : Pl k => encByte ls x.val) pre ++ [UInt8.ofNat q]).length by simp]
          refine ⟨(((keeps_drew _ V).trans (keeps_alloc _ V.drew _)).trans hkp).trans (keeps_set (p := ⟨w.heap.size + 1 + 1, 0, none⟩) (by show w.heap.size + 1 + 1 < _; omega) _ _), hbb.setCell (by show _ ≤ w.heap.size + 1 + 1; omega) _, ⟨_, h1b.set_ 0 _, ?_⟩, h3b.far (by show ¬ _ = w.heap.size + 1 + 1; omega) _, (h4.trans hbb).setCell (by show _ ≤ w.heap.size + 1 + 1; omega) _⟩
          rw [List.map_append, List.map_cons, List.map_nil, hqe]
          exact ho.far (ho.ne_blk h1b (by decide)) _
      case hdone =>
        rintro D xs V hD hxs ⟨⟨v, h1, h2⟩, h3, h4⟩ hdef
        obtain ⟨bl, hbl⟩ : ∃ bl, xs.map (fun x : Pl k => encByte ls x.1) = bl := ⟨_, rfl⟩
        rw [hbl] at h2
        have HB := Lib.hid hbl
        have HXS := Lib.hid hxs
        clear hbl hxs
        obtain ⟨A2, c2, rfl⟩ := h2.shape
        have hv := h1.cell 0
        have hcv := h2.conv
        go_wp2_with fail
        refine ret_mark rfl hdef (results_tmp2 rfl _ _ _) ?_
        have e : bl = encL ls ws := by
          rw [← HB.out]
          unfold encL
          rw [← HXS.out, List.map_map]
          rfl
        rw [← e]
        exact ⟨rfl, h4.trans (belowK_b (w := w) (Nat.le_refl _) V D _ _ (by omega) hdef rfl rfl)⟩

theorem encode_any (w : World) (A A' : Option Addr) (n c m c' : Nat) (ls ws : List Int) (hl : IntsA w w.heap.size .u64 A n ls) (hw : IntsA w w.heap.size .i64 A' m ws) (hm : m ≤ 4294967295) (hu : ∀ x ∈ ls, 0 ≤ x ∧ x < 18446744073709551616) :
    Calls Try.prog 55 #[.slice A n c, .slice A' m c'] w fun e w' => e = .returned (.tuple #[.string (encS ls ws), .int .i64 (encE ls ws)]) ∧ Below w.heap.size w w' := by
  have e1 := hl.1
  have e2 := hw.1
  by_cases h0 : wOK ws = true
  · by_cases h1 : n = m
    · by_cases h2 : allFit ls ws = true
      · rw [(enc_ok h0 (by omega) h2).1, (enc_ok h0 (by omega) h2).2]
        exact encode_ok w A A' n c m c' ls ws hl hw hm hu h0 h1 h2
      · have h2 : allFit ls ws = false := by simpa using h2
        rw [(enc_f h0 (by omega) h2).1, (enc_f h0 (by omega) h2).2]
        exact encode_f w A A' n c m c' ls ws hl hw hm hu h0 h1 h2
    · rw [(enc_l (ls := ls) (ws := ws) (by omega)).1, (enc_l (ls := ls) (ws := ws) (by omega)).2]
      exact encode_l w A A' n c m c' ws hw hm h0 h1
  · have h0 : wOK ws = false := by simpa using h0
    rw [(enc_w h0).1, (enc_w h0).2]
    exact encode_w w A A' n c m c' ws hw hm h0
end Go.Proofs.Ythpehdmffleobaa
