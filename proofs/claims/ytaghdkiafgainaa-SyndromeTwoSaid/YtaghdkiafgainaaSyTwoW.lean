/- revetmentlaw05.SyndromeTwo: its walk. -/
import Derived.Test.YtaghdkiafgainaaSyTwo
namespace Go.Proofs.Ytaghdkiafgainaa
open Go.RowKit Go.OpenShut

theorem conv_one (V : World) (g : Nat) (u : UInt8) (hg : V.heap.size = g) : (convert 30 9 (.slice (some ⟨g, 0, none⟩) 1 1)).run Try.prog (V.alloc (.cells #[.int .u8 (u.toNat : Int)] 5)) = .ok (.string ⟨#[u]⟩) (V.alloc (.cells #[.int .u8 (u.toNat : Int)] 5)) := by
  subst hg
  exact conv_cells (l := [u]) (fun i hi => by
    have : i = 0 := by simpa using hi
    subst this
    exact cell_new _ _ _)
theorem cell_g {V : World} {g : Nat} {v : Value} {t : TypeId} (hg : V.heap.size = g) : (V.alloc (.cells #[v] t)).cell? ⟨g, 0, none⟩ = some v := by subst hg; exact cell_new V v t
theorem OwnS.ne_new {w : World} {base g : Nat} {v : Value} {l : List ByteArray} {o : Option Nat} (h : OwnS w base v l) (e : o = some g) (hg : w.heap.size ≤ g) : v.ownBlock ≠ o := fun e' => by
  have := h.lt g (e'.trans e)
  omega
theorem mk_eq (l m : List UInt8) : ((⟨l.toArray⟩ : ByteArray).toList == (⟨m.toArray⟩ : ByteArray).toList) = decide (l = m) := by
  rw [Lib.toList_data, Lib.toList_data, Bool.eq_iff_iff, beq_iff_eq, decide_eq_true_eq]
theorem u8_eqB (a b : UInt8) : ((a.toNat : Int) == (b.toNat : Int)) = (a == b) := by
  rw [Bool.eq_iff_iff, beq_iff_eq, beq_iff_eq, ← UInt8.toNat_inj]
  omega
theorem two_snoc (x y : Nat) (a b : UInt8) (n : Nat) (hn : n < 8) : (twoL x y a b).take (n + 1) = (twoL x y a b).take n ++ [if n = y then ⟨#[b]⟩ else if n = x then ⟨#[a]⟩ else ⟨#[0]⟩] := by
  rw [take_snocS _ _ (by rw [twoL_len]; exact hn), twoL_at x y a b n hn]
theorem OwnS.keep {w w' : World} {base : Nat} {v : Value} {l : List ByteArray} {row : Option Nat} (h : OwnS w base v l) (hg : w.grownBy w' row) (hn : v.ownBlock ≠ row) : OwnS w' base v l := h.grown hg (Or.inr hn)
set_option maxHeartbeats 4000000 in
theorem two_go (a b c d : UInt8) (i k : Nat) (x y : Nat) (hx : x < 8) (hy : y < 8) (hne : x ≠ y) (hi : (i : Int) % 8 = (x : Int)) (hk : i < 256 ∧ k < 256)
    (hyy : ((k : Int) % 8 = (y : Int)) ∨ ((k : Int) % 8 = (x : Int) ∧ ((x : Int) + 1) % 8 = (y : Int))) (w : World) :
    Calls Try.prog 5 #[.int .u8 a.toNat, .int .u8 b.toNat, .int .u8 c.toNat, .int .u8 d.toNat, .int .u8 i, .int .u8 k] w fun e w' => e = .returned (.bool true) ∧ Below w.heap.size w w' := by
  obtain ⟨hi8, hk8⟩ := hk
  have hxy : ((x : Int) == (y : Int)) = false := by rw [beq_eq_false_iff_ne]; omega
  rcases hyy with hy1 | ⟨hy1, hy2⟩
  all_goals
    go_enter Try.func5, Try.ntmps5
    go_wp2_with fail
    rw [hi]
    first | rw [hy1] | skip
    first | rw [hy2] | skip
    have hu := OwnS.new w w.heap.size (Nat.le_refl _)
    have hb0 := (Below.refl w.heap.size w).alloc (Nat.le_refl _) (.cells #[] 9)
    have hz1 : (w.alloc (.cells #[] 9)).heap.size = w.heap.size + 1 := by simp
    generalize w.alloc (.cells #[] 9) = w1 at *
    have hv := OwnS.new w1 w.heap.size hb0.size
    rw [hz1] at hv
    replace hu := hu.alloc (.cells #[] 9)
    replace hb0 := hb0.alloc hb0.size (.cells #[] 9)
    generalize w1.alloc (.cells #[] 9) = w2 at *
    have hnb : (Value.slice (some ⟨w.heap.size, 0, none⟩) 0 0).ownBlock ≠ (Value.slice (some ⟨w.heap.size + 1, 0, none⟩) 0 0).ownBlock := by simp [Value.ownBlock]
    clear hi hy1 hz1
    go_loopw [15, 16, 17] (fun u v j wr => ∃ n : Nat, n ≤ 8 ∧ j = .int .i64 n ∧ OwnS wr w.heap.size u ((twoL x y a b).take n) ∧ OwnS wr w.heap.size v ((twoL x y c d).take n) ∧ u.ownBlock ≠ v.ownBlock ∧ u.ownBlock ≠ none ∧ v.ownBlock ≠ none ∧ Below w.heap.size w wr) (fun _ _ j _ => 8 - (intOf j).toNat)
    case atStart => exact ⟨0, by omega, rfl, hu, hv, hnb, by simp [Value.ownBlock], by simp [Value.ownBlock], hb0⟩
    case round =>
      obtain ⟨n, hn, rfl, hp, hq, hpq, hp0, hq0, hb⟩ := hrel
      clear hu hv hb0 hnb
      by_cases hlt : n < 8
      · have S1 := two_snoc x y a b n hlt
        have S2 := two_snoc x y c d n hlt
        have hcv1 := fun V u => conv_one V V.heap.size u rfl
        have hcv2 := fun (V : World) (o : Obj) u => conv_one (V.alloc o) (V.heap.size + 1) u (by simp)
        have L1 : ((twoL x y a b).take n).length < 4294967296 := by rw [List.length_take]; omega
        have L2 : ((twoL x y c d).take n).length < 4294967296 := by rw [List.length_take]; omega
        rcases (show (n = x ∧ n ≠ y) ∨ (n = y ∧ n ≠ x) ∨ (n ≠ x ∧ n ≠ y) by omega) with ⟨hnx, hny⟩ | ⟨hny, hnx⟩ | ⟨hnx, hny⟩
        · rw [if_neg hny, if_pos hnx] at S1 S2
          have e1 : ((n : Int) == (x : Int)) = true := by rw [beq_iff_eq]; omega
          have e2 : ((n : Int) == (y : Int)) = false := by rw [beq_eq_false_iff_ne]; omega
          have T1 := Lib.hid S1
          have T2 := Lib.hid S2
          clear S1 S2 hnx hny hne hx hy
          have hz0 := hb.size
          go_wp2_with (at_builtin; first | (refine wp_pushS rfl (.tmp 57) (.tmp 59) rfl w.heap.size _ _ (((hp.alloc _).alloc _).alloc _) rfl _ _ _ rfl (cell_g (by simp)) L1 ?c2 ?_; (case c2 => simp; omega); intro u4 w4 hu4 hg4 hb4 ha4; have hq4 := (((hq.alloc (.cells #[.int .u8 (a.toNat : Int)] 5)).alloc (.cells #[.int .u8 (c.toNat : Int)] 5)).alloc (.cells #[.string ⟨#[a]⟩] 9)).keep hg4 (Ne.symm hpq); have hne4 : u4.ownBlock ≠ u16.ownBlock := (by rcases ha4 with h | h; (rw [h]; exact hpq); exact Ne.symm ((((hq.alloc (.cells #[.int .u8 (a.toNat : Int)] 5)).alloc (.cells #[.int .u8 (c.toNat : Int)] 5)).alloc (.cells #[.string ⟨#[a]⟩] 9)).ne_new h (Nat.le_refl _))); have hbe4 := (((hb.alloc (hz0) (.cells #[.int .u8 (a.toNat : Int)] 5)).alloc (by simp; omega) (.cells #[.int .u8 (c.toNat : Int)] 5)).alloc (by simp; omega) (.cells #[.string ⟨#[a]⟩] 9)).trans hb4) | (refine wp_pushS rfl (.tmp 61) (.tmp 63) rfl w.heap.size _ _ (hq4.alloc _) rfl _ _ _ rfl (cell_g (by simp)) L2 ?c2 ?_; (case c2 => have := hbe4.size; simp; omega); intro v5 w5 hv5 hg5 hb5 ha5))
          have hu5 := (hu4.alloc _).keep hg5 hne4
          have hne5 : u4.ownBlock ≠ v5.ownBlock := by
            rcases ha5 with h | h
            · rw [h]; exact hne4
            · exact hu4.ne_new h (by simp)
          have hu0 : u4.ownBlock ≠ none := by
            rcases ha4 with h | h
            · rw [h]; exact hp0
            · rw [h]; simp
          have hv0 : v5.ownBlock ≠ none := by
            rcases ha5 with h | h
            · rw [h]; exact hq0
            · rw [h]; simp
          have hbe5 := (hbe4.alloc hbe4.size _).trans hb5
          go_roundw
          case rel => exact ⟨n + 1, by omega, by go_num, by rw [T1.out]; exact hu5, by rw [T2.out]; exact hv5, hne5, hu0, hv0, hbe5⟩
          case measure => simp [intOf]; omega
        · rw [if_pos hny] at S1 S2
          have e1 : ((n : Int) == (x : Int)) = false := by rw [beq_eq_false_iff_ne]; omega
          have e2 : ((n : Int) == (y : Int)) = true := by rw [beq_iff_eq]; omega
          have T1 := Lib.hid S1
          have T2 := Lib.hid S2
          clear S1 S2 hnx hny hne hx hy
          have hz0 := hb.size
          go_wp2_with (at_builtin; first | (refine wp_pushS rfl (.tmp 57) (.tmp 59) rfl w.heap.size _ _ (((hp.alloc _).alloc _).alloc _) rfl _ _ _ rfl (cell_g (by simp)) L1 ?c2 ?_; (case c2 => simp; omega); intro u4 w4 hu4 hg4 hb4 ha4; have hq4 := (((hq.alloc (.cells #[.int .u8 (b.toNat : Int)] 5)).alloc (.cells #[.int .u8 (d.toNat : Int)] 5)).alloc (.cells #[.string ⟨#[b]⟩] 9)).keep hg4 (Ne.symm hpq); have hne4 : u4.ownBlock ≠ u16.ownBlock := (by rcases ha4 with h | h; (rw [h]; exact hpq); exact Ne.symm ((((hq.alloc (.cells #[.int .u8 (b.toNat : Int)] 5)).alloc (.cells #[.int .u8 (d.toNat : Int)] 5)).alloc (.cells #[.string ⟨#[b]⟩] 9)).ne_new h (Nat.le_refl _))); have hbe4 := (((hb.alloc (hz0) (.cells #[.int .u8 (b.toNat : Int)] 5)).alloc (by simp; omega) (.cells #[.int .u8 (d.toNat : Int)] 5)).alloc (by simp; omega) (.cells #[.string ⟨#[b]⟩] 9)).trans hb4) | (refine wp_pushS rfl (.tmp 61) (.tmp 63) rfl w.heap.size _ _ (hq4.alloc _) rfl _ _ _ rfl (cell_g (by simp)) L2 ?c2 ?_; (case c2 => have := hbe4.size; simp; omega); intro v5 w5 hv5 hg5 hb5 ha5))
          have hu5 := (hu4.alloc _).keep hg5 hne4
          have hne5 : u4.ownBlock ≠ v5.ownBlock := by
            rcases ha5 with h | h
            · rw [h]; exact hne4
            · exact hu4.ne_new h (by simp)
          have hu0 : u4.ownBlock ≠ none := by
            rcases ha4 with h | h
            · rw [h]; exact hp0
            · rw [h]; simp
          have hv0 : v5.ownBlock ≠ none := by
            rcases ha5 with h | h
            · rw [h]; exact hq0
            · rw [h]; simp
          have hbe5 := (hbe4.alloc hbe4.size _).trans hb5
          go_roundw
          case rel => exact ⟨n + 1, by omega, by go_num, by rw [T1.out]; exact hu5, by rw [T2.out]; exact hv5, hne5, hu0, hv0, hbe5⟩
          case measure => simp [intOf]; omega
        · rw [if_neg hny, if_neg hnx] at S1 S2
          have e1 : ((n : Int) == (x : Int)) = false := by rw [beq_eq_false_iff_ne]; omega
          have e2 : ((n : Int) == (y : Int)) = false := by rw [beq_eq_false_iff_ne]; omega
          have T1 := Lib.hid S1
          have T2 := Lib.hid S2
          clear S1 S2 hnx hny hne hx hy
          have hz0 := hb.size
          go_wp2_with (at_builtin; first | (refine wp_pushS rfl (.tmp 57) (.tmp 59) rfl w.heap.size _ _ (hp.alloc _) rfl _ _ _ rfl (cell_g (by simp)) L1 ?c2 ?_; (case c2 => simp; omega); intro u4 w4 hu4 hg4 hb4 ha4; have hq4 := (hq.alloc (.cells #[.string ⟨#[0]⟩] 9)).keep hg4 (Ne.symm hpq); have hne4 : u4.ownBlock ≠ u16.ownBlock := (by rcases ha4 with h | h; (rw [h]; exact hpq); exact Ne.symm ((hq.alloc (.cells #[.string ⟨#[0]⟩] 9)).ne_new h (Nat.le_refl _))); have hbe4 := (hb.alloc (hz0) (.cells #[.string ⟨#[0]⟩] 9)).trans hb4) | (refine wp_pushS rfl (.tmp 61) (.tmp 63) rfl w.heap.size _ _ (hq4.alloc _) rfl _ _ _ rfl (cell_g (by simp)) L2 ?c2 ?_; (case c2 => have := hbe4.size; simp; omega); intro v5 w5 hv5 hg5 hb5 ha5))
          have hu5 := (hu4.alloc _).keep hg5 hne4
          have hne5 : u4.ownBlock ≠ v5.ownBlock := by
            rcases ha5 with h | h
            · rw [h]; exact hne4
            · exact hu4.ne_new h (by simp)
          have hu0 : u4.ownBlock ≠ none := by
            rcases ha4 with h | h
            · rw [h]; exact hp0
            · rw [h]; simp
          have hv0 : v5.ownBlock ≠ none := by
            rcases ha5 with h | h
            · rw [h]; exact hq0
            · rw [h]; simp
          have hbe5 := (hbe4.alloc hbe4.size _).trans hb5
          go_roundw
          case rel => exact ⟨n + 1, by omega, by go_num, by rw [T1.out]; exact hu5, by rw [T2.out]; exact hv5, hne5, hu0, hv0, hbe5⟩
          case measure => simp [intOf]; omega
      · obtain rfl : n = 8 := by omega
        rw [List.take_of_length_le (by rw [twoL_len]; exact Nat.le_refl _)] at hp hq
        obtain ⟨A, ca, rfl, hca⟩ := hp.shape
        obtain ⟨B, cb, rfl, hcb⟩ := hq.shape
        rw [twoL_len] at hp hq hca hcb ⊢
        have hs1 := hp.strs
        have hs2 := hq.strs
        have hsame := two_same a b c d x y hx hy hne
        have Z1 := Lib.hid (fun (s : ByteArray) (h : s ∈ twoL x y a b) => show s.size ≤ 200 by rw [twoL_size x y a b s h]; omega)
        have Z2 := Lib.hid (fun (s : ByteArray) (h : s ∈ twoL x y c d) => show s.size ≤ 200 by rw [twoL_size x y c d s h]; omega)
        have E3 := u8_eqB a c
        have E4 := u8_eqB b d
        have lX := twoL_len x y a b
        have lY := twoL_len x y c d
        generalize (a == c) = r1 at *
        generalize (b == d) = r2 at *
        have HSM := Lib.hid hsame
        generalize twoL x y a b = X at *
        generalize twoL x y c d = Y at *
        clear hp hq hpq hp0 hq0 hsame hx hy hne
        clear hi8 hk8 hxy
        go_wp2_with fail
        refine (P_any _ _ _ _ _ _ hs1 (Nat.le_refl _) (by omega) (fun s hs => by have := Z1.out s hs; omega)).mono ?_
        rintro e W3 ⟨rfl, hb3⟩
        replace hs1 := (hs1.below hb3).mono hb3.size
        replace hs2 := (hs2.below hb3).mono hb3.size
        replace hb := hb.trans (hb3.mono hb.size)
        clear hb3
        go_wp2_with fail
        refine (P_any _ _ _ _ _ _ hs2 (Nat.le_refl _) (by omega) (fun s hs => by have := Z2.out s hs; omega)).mono ?_
        rintro e W4 ⟨rfl, hb3⟩
        replace hs1 := (hs1.below hb3).mono hb3.size
        replace hs2 := (hs2.below hb3).mono hb3.size
        replace hb := hb.trans (hb3.mono hb.size)
        clear hb3
        by_cases hP : addL X = addL Y
        · have HR : (decide (qL X = qL Y)) = (r1 && r2) := by rw [← HSM.out, decide_eq_true hP]; simp
          clear HSM
          replace HR := Lib.hid HR
          go_wp2_with fail
          refine (Q_any _ _ _ _ _ hs1 (by omega) hca (fun s hs => by have := Z1.out s hs; omega)).mono ?_
          rintro e W5 ⟨rfl, hb3⟩
          replace hs1 := (hs1.below hb3).mono hb3.size
          replace hs2 := (hs2.below hb3).mono hb3.size
          replace hb := hb.trans (hb3.mono hb.size)
          clear hb3
          go_wp2_with fail
          refine (Q_any _ _ _ _ _ hs2 (by omega) hcb (fun s hs => by have := Z2.out s hs; omega)).mono ?_
          rintro e W6 ⟨rfl, hb3⟩
          replace hs1 := (hs1.below hb3).mono hb3.size
          replace hs2 := (hs2.below hb3).mono hb3.size
          replace hb := hb.trans (hb3.mono hb.size)
          clear hb3
          have hR := HR.out
          clear HR
          by_cases hQ : qL X = qL Y
          · rw [decide_eq_true hQ] at hR
            cases r1
            · cases hR
            · cases r2
              · cases hR
              · clear hR
                go_wp2_with fail
                refine (shown5_any _).mono ?_
                rintro e w1 ⟨rfl, hbs⟩
                go_wp2_with fail
                go_ret
                exact ⟨rfl, hb.trans (hbs.mono hb.size)⟩
          · rw [decide_eq_false hQ] at hR
            cases r1
            · clear hR
              go_wp2_with fail
              refine (shown5_any _).mono ?_
              rintro e w1 ⟨rfl, hbs⟩
              go_wp2_with fail
              go_ret
              exact ⟨congrArg (fun z => Ending.returned (Value.bool (!z))) (beq_eq_false_iff_ne.2 hQ), hb.trans (hbs.mono hb.size)⟩
            · cases r2
              · clear hR
                go_wp2_with fail
                refine (shown5_any _).mono ?_
                rintro e w1 ⟨rfl, hbs⟩
                go_wp2_with fail
                go_ret
                exact ⟨congrArg (fun z => Ending.returned (Value.bool (!z))) (beq_eq_false_iff_ne.2 hQ), hb.trans (hbs.mono hb.size)⟩
              · cases hR
        · have hR : (r1 && r2) = false := by rw [← HSM.out, decide_eq_false hP]; rfl
          clear HSM
          cases r1
          · clear hR
            go_wp2_with fail
            refine (shown5_any _).mono ?_
            rintro e w1 ⟨rfl, hbs⟩
            go_wp2_with fail
            go_ret
            exact ⟨rfl, hb.trans (hbs.mono hb.size)⟩
          · cases r2
            · clear hR
              go_wp2_with fail
              refine (shown5_any _).mono ?_
              rintro e w1 ⟨rfl, hbs⟩
              go_wp2_with fail
              go_ret
              exact ⟨rfl, hb.trans (hbs.mono hb.size)⟩
            · cases hR
theorem u8_of {a : Int} (h : (Lit.int .u8 a).wf = true) : ∃ u : UInt8, a = (u.toNat : Int) := by
  have h1 := bounds_u8 h
  obtain ⟨x, rfl⟩ := Int.eq_ofNat_of_zero_le h1.1
  refine ⟨UInt8.ofNat x, ?_⟩
  have h2 : (UInt8.ofNat x).toNat = x := by rw [UInt8.toNat_ofNat']; omega
  rw [h2]
theorem syndromeTwo_walk (a b c d i k : Int) (ha : (Lit.int .u8 a).wf = true) (hb : (Lit.int .u8 b).wf = true) (hc : (Lit.int .u8 c).wf = true) (hd : (Lit.int .u8 d).wf = true) (hi : (Lit.int .u8 i).wf = true) (hk : (Lit.int .u8 k).wf = true) (w : World) :
    Calls Try.prog 5 #[.int .u8 a, .int .u8 b, .int .u8 c, .int .u8 d, .int .u8 i, .int .u8 k] w fun e w' => e = .returned (.bool true) ∧ Below w.heap.size w w' := by
  obtain ⟨a, rfl⟩ := u8_of ha
  obtain ⟨b, rfl⟩ := u8_of hb
  obtain ⟨c, rfl⟩ := u8_of hc
  obtain ⟨d, rfl⟩ := u8_of hd
  have h1 := bounds_u8 hi
  have h2 := bounds_u8 hk
  obtain ⟨i, rfl⟩ := Int.eq_ofNat_of_zero_le h1.1
  obtain ⟨k, rfl⟩ := Int.eq_ofNat_of_zero_le h2.1
  by_cases h : k % 8 = i % 8
  · exact two_go a b c d i k (i % 8) ((i % 8 + 1) % 8) (by omega) (by omega) (by omega) (by omega) ⟨by omega, by omega⟩ (Or.inr ⟨by omega, by omega⟩) w
  · exact two_go a b c d i k (i % 8) (k % 8) (by omega) (by omega) (by omega) (by omega) ⟨by omega, by omega⟩ (Or.inl (by omega)) w
end Go.Proofs.Ytaghdkiafgainaa
