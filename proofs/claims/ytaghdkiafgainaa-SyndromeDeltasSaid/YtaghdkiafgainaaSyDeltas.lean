/- revetmentlaw05.SyndromeDeltas: the plain law, and its walk. -/
import Derived.Test.YtaghdkiafgainaaSyPlain
import Derived.Test.YtaghdkiafgainaaRXor
import Derived.Laws.OwnMore
namespace Go.Proofs.Ytaghdkiafgainaa
open Go.RowKit Go.OpenShut

def mixS (xs ys : List ByteArray) (k : Nat) : Nat → List ByteArray
  | 0 => xs
  | d + 1 => (mixS xs ys k d).set (k - 1 - d) (ys.getD (k - 1 - d) ⟨#[]⟩)
theorem mixS_len (xs ys : List ByteArray) (k : Nat) : ∀ d, (mixS xs ys k d).length = xs.length
  | 0 => rfl
  | d + 1 => by rw [mixS, List.length_set, mixS_len xs ys k d]
theorem mixS_at (xs ys : List ByteArray) (k : Nat) : ∀ d j, j + d < k → (mixS xs ys k d).getD j ⟨#[]⟩ = xs.getD j ⟨#[]⟩
  | 0, j, _ => rfl
  | d + 1, j, h => by
    rw [mixS, ← mixS_at xs ys k d j (by omega)]
    simp only [List.getD]
    rw [List.getElem?_set_ne (by omega)]
theorem mixS_size (xs ys : List ByteArray) (k M : Nat) (hl : ∀ x ∈ xs, x.size ≤ M) (hm : ∀ x ∈ ys, x.size ≤ M) (hk : k ≤ ys.length) : ∀ d, d ≤ k → ∀ x ∈ mixS xs ys k d, x.size ≤ M
  | 0, _, x, h => hl x h
  | d + 1, hd, x, h => by
    rcases List.mem_or_eq_of_mem_set h with h | rfl
    · exact mixS_size xs ys k M hl hm hk d (by omega) x h
    · exact hm _ (mem_getD (by omega))
theorem mixS_next (xs ys : List ByteArray) (k d r : Nat) (h : k - d = r + 1) : mixS xs ys k (d + 1) = (mixS xs ys k d).set r (ys.getD r ⟨#[]⟩) := by
  have e : k - 1 - d = r := by omega
  rw [mixS, e]
theorem mixS_p (xs ys : List ByteArray) (k d r : Nat) (h : k - d = r + 1) (hk : k ≤ xs.length) (p : List UInt8) (hp : ∀ j, p.getD j 0 = (addL (mixS xs ys k d)).getD j 0) :
    ∀ j, (xorL p (xorL (xs.getD r ⟨#[]⟩).data.toList (ys.getD r ⟨#[]⟩).data.toList)).getD j 0 = (addL (mixS xs ys k (d + 1))).getD j 0 := by
  intro j
  rw [mixS_next xs ys k d r h, addL_set j _ _ r (by rw [mixS_len]; omega), mixS_at xs ys k d r (by omega), xorL_getD, xorL_getD, hp, UInt8.xor_assoc]
theorem mixS_q (xs ys : List ByteArray) (k d r : Nat) (h : k - d = r + 1) (hk : k ≤ xs.length) (hr : r < 255) (q : List UInt8) (hq : ∀ j, q.getD j 0 = (qL (mixS xs ys k d)).getD j 0) :
    ∀ j, (xorL q (dL (xs.getD r ⟨#[]⟩).data.toList (ys.getD r ⟨#[]⟩).data.toList (r : Int))).getD j 0 = (qL (mixS xs ys k (d + 1))).getD j 0 := by
  intro j
  have e : (((r : Nat) : Int) % 255).toNat = r := by omega
  rw [mixS_next xs ys k d r h, qL_set j _ _ r (by rw [mixS_len]; omega), mixS_at xs ys k d r (by omega), xorL_getD, hq, dL, e, lin4 _ _ _ (pw_lt r), xorL_getD, UInt8.xor_assoc]
theorem dL_len (s t : List UInt8) (i : Int) : (dL s t i).length = max s.length t.length := by rw [dL, mulL_len, xorL_length]
theorem OwnS.put {w : World} {base g n c : Nat} {l : List ByteArray} (h : OwnS w base (.slice (some ⟨g, 0, none⟩) n c) l) (hl : l.length = n) (j : Nat) (u : ByteArray) :
    OwnS (w.setCell ⟨g, j, none⟩ (.string u)) base (.slice (some ⟨g, 0, none⟩) n c) (l.set j u) := by
  subst hl
  have h1 := (World.ownsRow.stored h j (.string u)).1
  unfold OwnS
  have e : svs (l.set j u) = (svs l).set j (.string u) := by simp [svs, List.map_set]
  rw [e, List.length_set]
  exact h1
theorem OwnS.base' {w : World} {base g n c : Nat} {l : List ByteArray} (h : OwnS w base (.slice (some ⟨g, 0, none⟩) n c) l) : base ≤ g := (World.ownsRow.lt h g rfl).1

set_option maxHeartbeats 1000000 in
theorem deltas_heavy (w : World) (A B : Option Addr) (n c m d : Nat) (xs ys : List ByteArray) (hx : StrsA w w.heap.size A n xs) (hy : StrsA w w.heap.size B m ys) (hn : n ≤ maxLen) (hm : m ≤ maxLen) (h : heavyB xs = true ∨ heavyB ys = true) :
    Calls Try.prog 6 #[.slice A n c, .slice B m d] w fun e w' => e = .returned (.bool true) ∧ Below w.heap.size w w' := by
  have HX := Lib.hid (fun w' (e : w = w') => e ▸ heavy_any w A n c xs hx hn)
  have HY := Lib.hid (fun w' (e : w = w') => e ▸ heavy_any w B m d ys hy hm)
  clear hx hy hn hm
  generalize heavyB xs = p at *
  generalize heavyB ys = q at *
  cases p
  · obtain rfl : q = true := by simpa using h
    clear h
    go_enter Try.func6, Try.ntmps6
    go_wp2_with fail
    refine (HX.out _ rfl).mono ?_
    rintro e w1 ⟨rfl, rfl⟩
    go_wp2_with fail
    refine (HY.out _ rfl).mono ?_
    rintro e w1 ⟨rfl, rfl⟩
    go_wp2_with fail
    refine (shown5_any _).mono ?_
    rintro e w1 ⟨rfl, hb⟩
    go_wp2_with fail
    go_ret
    exact ⟨rfl, hb⟩
  · clear h
    go_enter Try.func6, Try.ntmps6
    go_wp2_with fail
    refine (HX.out _ rfl).mono ?_
    rintro e w1 ⟨rfl, rfl⟩
    go_wp2_with fail
    refine (shown5_any _).mono ?_
    rintro e w1 ⟨rfl, hb⟩
    go_wp2_with fail
    go_ret
    exact ⟨rfl, hb⟩

set_option maxHeartbeats 8000000 in
theorem deltas_light (w : World) (A B : Option Addr) (n c m d : Nat) (xs ys : List ByteArray) (hx : StrsA w w.heap.size A n xs) (hy : StrsA w w.heap.size B m ys) (hn : n ≤ maxLen) (hm : m ≤ maxLen)
    (hnc : n ≤ c) (hmd : m ≤ d) (hA : A = none → c = 0) (hB : B = none → d = 0) (hc : c ≤ maxLen) (hd : d ≤ maxLen) (h1 : heavyB xs = false) (h2 : heavyB ys = false) :
    Calls Try.prog 6 #[.slice A n c, .slice B m d] w fun e w' => e = .returned (.bool true) ∧ Below w.heap.size w w' := by
  have hHX := heavy_any w A n c xs hx hn
  have hHY := heavy_any w B m d ys hy hm
  rw [h1] at hHX
  rw [h2] at hHY
  have HX := Lib.hid (fun w' (e : w = w') => e ▸ hHX)
  have HY := Lib.hid (fun w' (e : w = w') => e ▸ hHY)
  clear hHX hHY
  obtain ⟨l1, s1⟩ := (heavyB_no xs).1 h1
  obtain ⟨l2, s2⟩ := (heavyB_no ys).1 h2
  have S1 := Lib.hid s1
  have S2 := Lib.hid s2
  rw [hx.1] at l1
  rw [hy.1] at l2
  have LX := Lib.hid hx.1
  have LY := Lib.hid hy.1
  clear s1 s2 h1 h2 hn hm
  obtain ⟨k, hk, k1, k2⟩ : ∃ k : Nat, min (n : Int) (m : Int) = (k : Int) ∧ k ≤ n ∧ k ≤ m := ⟨min n m, by omega, by omega, by omega⟩
  go_enter Try.func6, Try.ntmps6
  go_wp2_with fail
  refine (HX.out _ rfl).mono ?_
  rintro e w1 ⟨rfl, rfl⟩
  go_wp2_with fail
  refine (HY.out _ rfl).mono ?_
  rintro e w1 ⟨rfl, rfl⟩
  go_wp2_with fail
  refine (shown5_any _).mono ?_
  rintro e w1 ⟨rfl, hb⟩
  have hv0 := OwnS.new w1 w.heap.size hb.size
  have hb0 := hb.alloc hb.size (.cells #[] 9)
  have hx0 := (hx.below hb0).mono hb0.size
  go_wp2_with (at_builtin; refine wp_appS rfl (.tmp 30) (.tmp 31) rfl w.heap.size _ _ hv0 rfl A n c _ rfl hx0 hA ?c1 hb0.size ?_; (case c1 => simp; omega); intro v4 w4 hv4 hg4 hb4; have hbe4 := hb0.trans hb4)
  rw [List.nil_append] at hv4
  obtain ⟨A5, c5, rfl, hc5⟩ := hv4.shape
  rw [LX.out] at hv4 hc5 ⊢
  clear hv0 hb0 hx0 hg4 hb4 hb
  have hx4 := (hx.below hbe4).mono hbe4.size
  refine (P_any _ _ _ _ _ _ hx4 (Nat.le_refl _) (by omega) (fun x hx => by have := S1.out x hx; omega)).mono ?_
  rintro e W1 ⟨rfl, hb3⟩
  replace hx4 := (hx4.below hb3).mono hb3.size
  replace hv4 := hv4.below hb3
  replace hbe4 := hbe4.trans (hb3.mono hbe4.size)
  clear hb3
  go_wp2_with fail
  refine (Q_any _ _ _ _ _ hx4 (by omega) hnc (fun x hx => by have := S1.out x hx; omega)).mono ?_
  rintro e W2 ⟨rfl, hb3⟩
  replace hv4 := hv4.below hb3
  replace hbe4 := hbe4.trans (hb3.mono hbe4.size)
  clear hb3 hx4
  go_wp2_with fail
  have hp0 := addL_len 200 xs S1.out
  have hq0 := qL_len 200 xs S1.out
  have HS := Lib.hid (mixS_size xs ys k 200 S1.out S2.out (by rw [LY.out]; exact k2))
  have HPN := Lib.hid (fun d r h => mixS_p xs ys k d r h (by rw [LX.out]; exact k1))
  have HQN := Lib.hid (fun d r h (hr : r < 255) => mixS_q xs ys k d r h (by rw [LX.out]; exact k1) hr)
  go_loopw [7, 8, 9] (fun p q i wr => ∃ (e : Nat) (pl ql : List UInt8), e ≤ k ∧ i = .int .i64 ((k - e : Nat) : Int) ∧ p = .string ⟨pl.toArray⟩ ∧ q = .string ⟨ql.toArray⟩ ∧ pl.length ≤ 200 ∧ ql.length ≤ 200 ∧ (∀ j, pl.getD j 0 = (addL (mixS xs ys k e)).getD j 0) ∧ (∀ j, ql.getD j 0 = (qL (mixS xs ys k e)).getD j 0) ∧ OwnS wr w.heap.size (.slice A5 n c5) (mixS xs ys k e) ∧ Below w.heap.size w wr) (fun _ _ i _ => (intOf i).toNat)
  case atStart => exact ⟨0, addL xs, qL xs, by omega, rfl, rfl, rfl, hp0, hq0, fun _ => rfl, fun _ => rfl, hv4, hbe4⟩
  case round =>
    obtain ⟨e, pl, ql, he, rfl, rfl, rfl, hpl, hql, hpe, hqe, hw, hbr⟩ := hrel
    clear hv4 hbe4 hp0 hq0
    have HP := Lib.hid hpe
    have HQ := Lib.hid hqe
    clear hpe hqe
    by_cases hlt : e < k
    · obtain ⟨r, hr⟩ : ∃ r, k - e = r + 1 := ⟨k - e - 1, by omega⟩
      have HR := Lib.hid hr
      rw [hr]
      clear hr
      have hsub : ((r + 1 : Nat) : Int) - 1 = (r : Int) := by omega
      have hpos : ((r + 1 : Nat) : Int) > 0 := by omega
      obtain ⟨b1, o1, rfl, hb1, hc1⟩ := hx.2 (by omega)
      obtain ⟨b2, o2, rfl, hb2, hc2⟩ := hy.2 (by omega)
      have hrk : r < k := by have := HR.out; omega
      have hrn : r < n := by omega
      have hrm : r < m := by omega
      have q1 := hc1 r (by omega)
      have q2 := hc2 r (by omega)
      have HS1 := Lib.hid (S1.out _ (mem_getD (xs := xs) (k := r) (by rw [LX.out]; omega)))
      have HS2 := Lib.hid (S2.out _ (mem_getD (xs := ys) (k := r) (by rw [LY.out]; omega)))
      have HPN1 := Lib.hid (HPN.out e r HR.out pl HP.out)
      have HQN1 := Lib.hid (HQN.out e r HR.out (by omega) ql HQ.out)
      have HNX := Lib.hid (mixS_next xs ys k e r HR.out)
      have HLM := Lib.hid ((mixS_len xs ys k e).trans LX.out)
      generalize xs.getD r ⟨#[]⟩ = x at *
      generalize ys.getD r ⟨#[]⟩ = y at *
      generalize mixS xs ys k e = M at *
      generalize hM' : mixS xs ys k (e + 1) = M' at *
      have HME := Lib.hid hM'
      clear hM'
      clear hc1 hc2 HP HQ
      have HQC := Lib.hid (fun (Y : World) (hY : Below w.heap.size w Y) => (⟨(hY.cell (p := ⟨b1, o1 + r, none⟩) hb1).trans q1, (hY.cell (p := ⟨b2, o2 + r, none⟩) hb2).trans q2⟩ : Y.cell? ⟨b1, o1 + r, none⟩ = some (.string x) ∧ Y.cell? ⟨b2, o2 + r, none⟩ = some (.string y)))
      clear q1 q2
      obtain ⟨g5, rfl⟩ : ∃ g5, A5 = some ⟨g5, 0, none⟩ := by
        rcases hw.2 with ⟨h, h0⟩ | ⟨g, cap, cur, h, _⟩
        · cases h; omega
        · cases h; exact ⟨_, rfl⟩
      go_wp2_with fail
      refine wp_region_nf (fun Y => Below w.heap.size w Y) (fun _ => false) [(0, true), (1, true), (2, true), (3, true), (4, true), (5, true), (6, true), (7, true), (8, true), (9, false), (10, true), (11, true), (12, true), (13, true), (14, true)] (by kernel_rfl) rfl (by kernel_rfl) (by kernel_rfl) (fun d _ _ _ _ h => by cases d <;> exact h) ?_
      have hbd := hbr.drew
      replace hw := hw.drew
      generalize wr.drew = V at *
      repeat (refine nf_pure rfl hbd (fun Y hY => by obtain ⟨g1, g2⟩ := HQC.out Y hY; clear hY; go_wp2; exact ⟨rfl, rfl, rfl⟩) rfl ?_ ?_; rfl)
      refine nf_imp rfl ?_
      go_wp2_with fail
      refine (delta_any _ x y (r : Int) (by have := HS1.out; omega) (by have := HS2.out; omega)).mono ?_
      rintro e w3 ⟨rfl, hb3⟩
      replace hw := hw.below hb3
      replace hbd := hbd.trans (hb3.mono hbd.size)
      clear hb3
      have lp : (xorL x.data.toList y.data.toList).length ≤ 200 := by
        rw [xorL_length]
        have h1 : x.data.toList.length = x.size := by simp
        have h2 : y.data.toList.length = y.size := by simp
        have := HS1.out
        have := HS2.out
        omega
      have lq : (dL x.data.toList y.data.toList r).length ≤ 200 := by
        rw [dL_len]
        have h1 : x.data.toList.length = x.size := by simp
        have h2 : y.data.toList.length = y.size := by simp
        have := HS1.out
        have := HS2.out
        omega
      generalize xorL x.data.toList y.data.toList = dp at *
      generalize dL x.data.toList y.data.toList r = dq at *
      go_wp2_with fail
      refine ⟨fun _ => hbd, ?_⟩
      repeat (refine nf_pure rfl hbd (fun Y hY => by clear hY; go_wp2; exact ⟨rfl, rfl, rfl⟩) rfl ?_ ?_; rfl)
      refine nf_nil ?_
      go_wp2_with fail
      refine (refXor_any _ ⟨pl.toArray⟩ ⟨dp.toArray⟩ (by rw [size_mk]; omega) (by rw [size_mk]; omega)).mono ?_
      rintro e w5 ⟨rfl, hb3⟩
      rw [mk_list, mk_list]
      replace hw := hw.below hb3
      replace hbd := hbd.trans (hb3.mono hbd.size)
      clear hb3
      go_wp2_with fail
      refine (refXor_any _ ⟨ql.toArray⟩ ⟨dq.toArray⟩ (by rw [size_mk]; omega) (by rw [size_mk]; omega)).mono ?_
      rintro e w6 ⟨rfl, hb3⟩
      rw [mk_list, mk_list]
      replace hw := hw.below hb3
      replace hbd := hbd.trans (hb3.mono hbd.size)
      clear hb3
      have hpx : (xorL pl dp).length ≤ 200 := by rw [xorL_length]; omega
      have hqx : (xorL ql dq).length ≤ 200 := by rw [xorL_length]; omega
      generalize xorL pl dp = pl' at *
      generalize xorL ql dq = ql' at *
      obtain ⟨g1, g2⟩ := HQC.out _ hbd
      have hw' := hw.put HLM.out r y
      have hbd' := hbd.setCell (p := ⟨g5, r, none⟩) (Nat.le_trans (Nat.le_refl _) hw.base') (.string y)
      have hfr := World.ownsRow.frozenAt (by have h := hw; unfold OwnS at h; rw [HLM.out] at h; exact h) r
      have hce := World.ownsRow.cellAt (by have h := hw; unfold OwnS at h; rw [HLM.out] at h; exact h) r (by omega)
      rw [svs_get (by rw [HLM.out]; exact hrn)] at hce
      go_wp2_with fail
      go_roundw
      case rel => exact ⟨e + 1, pl', ql', by omega, by have := HR.out; go_num, rfl, rfl, hpx, hqx, by rw [HME.out]; exact HPN1.out, by rw [HME.out]; exact HQN1.out, by rw [HME.out, HNX.out]; exact hw', hbd'⟩
      case measure => simp [intOf]
    · obtain rfl : e = k := by omega
      have hs := hw.strs
      have HSM := Lib.hid (HS.out e (Nat.le_refl _))
      have ZP := Lib.hid (zeroB_eq HP.out)
      have ZQ := Lib.hid (zeroB_eq HQ.out)
      have HLM := Lib.hid ((mixS_len xs ys e e).trans LX.out)
      generalize mixS xs ys e e = M at *
      have LA := addL_len 200 M HSM.out
      have LQ := qL_len 200 M HSM.out
      have LAx : (xorL pl (addL M)).length ≤ 200 := by rw [xorL_length]; omega
      have LQx : (xorL ql (qL M)).length ≤ 200 := by rw [xorL_length]; omega
      clear hw HPN HQN HP HQ HX HY
      have hkk : e - e = 0 := by omega
      rw [hkk]
      go_wp2_with fail
      refine (P_any _ _ _ _ _ _ hs (Nat.le_refl _) (by omega) (fun x hx => by have := HSM.out x hx; omega)).mono ?_
      rintro e W5 ⟨rfl, hb3⟩
      replace hs := (hs.below hb3).mono hb3.size
      replace hbr := hbr.trans (hb3.mono hbr.size)
      clear hb3
      go_wp2_with fail
      refine (refXor_any _ ⟨pl.toArray⟩ ⟨(addL M).toArray⟩ (by rw [size_mk]; omega) (by rw [size_mk]; omega)).mono ?_
      rintro e W6 ⟨rfl, hb3⟩
      rw [mk_list, mk_list]
      replace hs := (hs.below hb3).mono hb3.size
      replace hbr := hbr.trans (hb3.mono hbr.size)
      clear hb3
      go_wp2_with fail
      refine (zero_any _ ⟨(xorL pl (addL M)).toArray⟩ (by rw [size_mk]; omega)).mono ?_
      rintro e W7 ⟨rfl, rfl⟩
      rw [mk_list, ZP.out]
      go_wp2_with fail
      refine (Q_any _ _ _ _ _ hs (by omega) hc5 (fun x hx => by have := HSM.out x hx; omega)).mono ?_
      rintro e W8 ⟨rfl, hb3⟩
      replace hbr := hbr.trans (hb3.mono hbr.size)
      clear hb3
      go_wp2_with fail
      refine (refXor_any _ ⟨ql.toArray⟩ ⟨(qL M).toArray⟩ (by rw [size_mk]; omega) (by rw [size_mk]; omega)).mono ?_
      rintro e W9 ⟨rfl, hb3⟩
      rw [mk_list, mk_list]
      replace hbr := hbr.trans (hb3.mono hbr.size)
      clear hb3
      go_wp2_with fail
      refine (zero_any _ ⟨(xorL ql (qL M)).toArray⟩ (by rw [size_mk]; omega)).mono ?_
      rintro e W10 ⟨rfl, rfl⟩
      rw [mk_list, ZQ.out]
      go_wp2_with fail
      go_ret
      exact ⟨rfl, hbr⟩
theorem syndromeDeltas_walk (A : Option Addr) (n c : Nat) (xs : List ByteArray) (B : Option Addr) (m d : Nat) (ys : List ByteArray) (w : World) (hx : StrsIn w A n c xs) (hy : StrsIn w B m d ys) :
    Calls Try.prog 6 #[.slice A n c, .slice B m d] w fun e w' => e = .returned (.bool true) ∧ Below w.heap.size w w' := by
  obtain ⟨h1, h2, h3, h4, _⟩ := hx
  obtain ⟨g1, g2, g3, g4, _⟩ := hy
  by_cases h : heavyB xs = true ∨ heavyB ys = true
  · exact deltas_heavy w A B n c m d xs ys h1 g1 (by omega) (by omega) h
  · exact deltas_light w A B n c m d xs ys h1 g1 (by omega) (by omega) h2 g2 h4 g4 h3 g3 (by simpa using fun e => h (Or.inl e)) (by simpa using fun e => h (Or.inr e))
end Go.Proofs.Ytaghdkiafgainaa
