/- revetmentlaw05.SyndromeGood: the plain law, and its walk. -/
import Derived.Test.YtaghdkiafgainaaDoorSyGood
import Derived.Laws.OwnMore
namespace Go.Proofs.YtaghdkiafgainaaDoor
set_option maxRecDepth 20000
open Go.RowKit Go.OpenShut

/-! ### the plain law -/
def fullS (xs : List ByteArray) : List ByteArray := xs ++ [⟨(addL xs).toArray⟩, ⟨(qL xs).toArray⟩]
theorem fullS_len (xs : List ByteArray) : (fullS xs).length = xs.length + 2 := by simp [fullS]
theorem sums_at (xs ys : List ByteArray) (a b : ByteArray) (hl : ys.length = xs.length) : sumPL (ys ++ [a, b]) = xorL (addL ys) a.data.toList ∧ sumQL (ys ++ [a, b]) = xorL (qL ys) b.data.toList := by
  have h1 : (ys ++ [a, b]).length = ys.length + 2 := by simp
  have h2 : (ys ++ [a, b]).take ys.length = ys := by simp
  have h3 : (ys ++ [a, b]).getD ys.length ⟨#[]⟩ = a := by simp [List.getD]
  have h4 : (ys ++ [a, b]).getD (ys.length + 1) ⟨#[]⟩ = b := by simp [List.getD]
  unfold sumPL sumQL
  rw [h1, if_neg (by omega), if_neg (by omega), show ys.length + 2 - 2 = ys.length by omega, h2, h3, h4]
  exact ⟨rfl, rfl⟩
theorem good_full (xs : List ByteArray) : goodL (fullS xs) = true := by
  obtain ⟨h1, h2⟩ := sums_at xs xs ⟨(addL xs).toArray⟩ ⟨(qL xs).toArray⟩ rfl
  unfold goodL
  rw [fullS_len]
  unfold fullS
  rw [h1, h2, mk_list, mk_list, zeroB_self, zeroB_self]
  simp
theorem zeroB_not (l : List UInt8) (j : Nat) (h : l.getD j 0 ≠ 0) : zeroB l = false := by
  rw [Bool.eq_false_iff]
  intro e
  by_cases hj : j < l.length
  · exact h ((zeroB_iff l).1 e j hj)
  · exact h (getD_ge (by omega))
theorem good_spoilt (xs : List ByteArray) (i j : Nat) (s' : ByteArray) (by_ : UInt8) (hi : i < xs.length + 2) (hb : by_ ≠ 0)
    (hs : s'.data.toList.getD j 0 = ((fullS xs).getD i ⟨#[]⟩).data.toList.getD j 0 ^^^ by_) : goodL ((fullS xs).set i s') = false := by
  have hx : ∀ a : UInt8, a ^^^ (a ^^^ by_) = by_ := fun a => by rw [← UInt8.xor_assoc, UInt8.xor_self, UInt8.zero_xor]
  have hx2 : ∀ a b : UInt8, (a ^^^ b ^^^ (b ^^^ by_)) ^^^ a = by_ := fun a b => by
    have : (a ^^^ b ^^^ (b ^^^ by_)) ^^^ a = (a ^^^ a) ^^^ (b ^^^ b) ^^^ by_ := by ac_rfl
    rw [this, UInt8.xor_self, UInt8.xor_self, UInt8.xor_zero, UInt8.zero_xor]
  unfold goodL
  rw [Bool.and_eq_false_iff]
  right
  rw [Bool.and_eq_false_iff]
  rcases Nat.lt_or_ge i xs.length with h | h
  · left
    have e1 : (fullS xs).set i s' = xs.set i s' ++ [⟨(addL xs).toArray⟩, ⟨(qL xs).toArray⟩] := by unfold fullS; rw [List.set_append_left _ _ h]
    have e2 : (fullS xs).getD i ⟨#[]⟩ = xs.getD i ⟨#[]⟩ := by unfold fullS; simp [List.getD, List.getElem?_append_left h]
    rw [e2] at hs
    rw [e1, (sums_at xs _ _ _ (by simp)).1, mk_list]
    refine zeroB_not _ j ?_
    rw [xorL_getD, addL_set j s' xs i h, hs, hx2]
    exact hb
  · rcases (show i = xs.length ∨ i = xs.length + 1 by omega) with rfl | rfl
    · left
      have e1 : (fullS xs).set xs.length s' = xs ++ [s', ⟨(qL xs).toArray⟩] := by unfold fullS; rw [List.set_append_right _ _ (Nat.le_refl _)]; simp
      have e2 : (fullS xs).getD xs.length ⟨#[]⟩ = ⟨(addL xs).toArray⟩ := by unfold fullS; simp [List.getD]
      rw [e2, mk_list] at hs
      rw [e1, (sums_at xs _ _ _ rfl).1]
      refine zeroB_not _ j ?_
      rw [xorL_getD, hs, hx]
      exact hb
    · right
      have e1 : (fullS xs).set (xs.length + 1) s' = xs ++ [⟨(addL xs).toArray⟩, s'] := by unfold fullS; rw [List.set_append_right _ _ (by omega)]; simp
      have e2 : (fullS xs).getD (xs.length + 1) ⟨#[]⟩ = ⟨(qL xs).toArray⟩ := by unfold fullS; simp [List.getD]
      rw [e2, mk_list] at hs
      rw [e1, (sums_at xs _ _ _ rfl).2]
      refine zeroB_not _ j ?_
      rw [xorL_getD, hs, hx]
      exact hb
theorem fullS_size (xs : List ByteArray) (M : Nat) (h : ∀ x ∈ xs, x.size ≤ M) : ∀ x ∈ fullS xs, x.size ≤ M := by
  intro x hx
  unfold fullS at hx
  rw [List.mem_append] at hx
  rcases hx with hx | hx
  · exact h x hx
  · simp only [List.mem_cons, List.not_mem_nil, or_false] at hx
    rcases hx with rfl | rfl
    · rw [size_mk]; exact addL_len M xs h
    · rw [size_mk]; exact qL_len M xs h
def spoilS (s : ByteArray) (j : Nat) (b : UInt8) : ByteArray := s.extract 0 j ++ ByteArray.mk #[b] ++ s.extract (j + 1) s.size
theorem spoilS_list (s : ByteArray) (i : Nat) (b : UInt8) : (spoilS s i b).data.toList = s.data.toList.take i ++ b :: s.data.toList.drop (i + 1) := by
  unfold spoilS
  simp
  exact List.take_of_length_le (by simp)
theorem spoilS_size (s : ByteArray) (i : Nat) (b : UInt8) (h : i < s.size) : (spoilS s i b).size = s.size := by
  rw [← list_len, spoilS_list, ← list_len s]
  have := list_len s
  simp
  omega
theorem spoilS_at (s : ByteArray) (i : Nat) (b : UInt8) (h : i < s.size) : (spoilS s i b).data.toList.getD i 0 = b := by
  rw [spoilS_list]
  have h1 : (s.data.toList.take i).length = i := by rw [List.length_take, list_len]; omega
  simp [List.getD, List.getElem?_append_right, h1]

theorem OwnS.put {w : World} {base g n c : Nat} {l : List ByteArray} (h : OwnS w base (.slice (some ⟨g, 0, none⟩) n c) l) (hl : l.length = n) (j : Nat) (u : ByteArray) :
    OwnS (w.setCell ⟨g, j, none⟩ (.string u)) base (.slice (some ⟨g, 0, none⟩) n c) (l.set j u) := by
  subst hl
  have h1 := (World.ownsRow.stored h j (.string u)).1
  unfold OwnS
  have e : svs (l.set j u) = (svs l).set j (.string u) := by simp [svs, List.map_set]
  rw [e, List.length_set]
  exact h1
theorem OwnS.base' {w : World} {base g n c : Nat} {l : List ByteArray} (h : OwnS w base (.slice (some ⟨g, 0, none⟩) n c) l) : base ≤ g := (World.ownsRow.lt h g rfl).1
theorem conv_new (V : World) (g : Nat) (b : UInt8) (h : Blk V g 5 #[.int .u8 (b.toNat : Int)]) : (convert 26 9 (.slice (some ⟨g, 0, none⟩) 1 1)).run Tryd.prog V = .ok (.string ⟨#[b]⟩) V :=
  Blk.conv (l := [b]) h rfl

set_option maxHeartbeats 1000000 in
theorem good_heavy (w : World) (A : Option Addr) (n c : Nat) (k a b : Int) (xs : List ByteArray) (hx : StrsA w w.heap.size A n xs) (hn : n ≤ maxLen) (h : heavyB xs = true) :
    Calls Tryd.prog 3 #[.slice A n c, .int .u8 k, .int .u8 a, .int .u8 b] w fun e w' => e = .returned (.bool true) ∧ Below w.heap.size w w' := by
  have HX := Lib.hid (fun w' (e : w = w') => e ▸ heavy_any w A n c xs hx hn)
  rw [h] at HX
  clear hx hn
  go_enter Tryd.func3, Tryd.ntmps3
  go_wp2_with fail
  refine (HX.out _ rfl).mono ?_
  rintro e w1 ⟨rfl, rfl⟩
  go_wp2_with fail
  refine (shown5_any _).mono ?_
  rintro e w1 ⟨rfl, hb⟩
  go_wp2_with fail
  go_ret
  exact ⟨rfl, hb⟩

set_option maxHeartbeats 4000000 in
theorem good_light (w : World) (A : Option Addr) (n c : Nat) (k a : Nat) (b : UInt8) (hk : k < 256) (ha : a < 256) (xs : List ByteArray) (hx : StrsA w w.heap.size A n xs) (hn : n ≤ maxLen)
    (hnc : n ≤ c) (hA : A = none → c = 0) (hc : c ≤ maxLen) (h1 : heavyB xs = false) :
    Calls Tryd.prog 3 #[.slice A n c, .int .u8 k, .int .u8 a, .int .u8 b.toNat] w fun e w' => e = .returned (.bool true) ∧ Below w.heap.size w w' := by
  have HX := Lib.hid (fun w' (e : w = w') => e ▸ heavy_any w A n c xs hx hn)
  rw [h1] at HX
  obtain ⟨l1, s1⟩ := (heavyB_no xs).1 h1
  have S1 := Lib.hid s1
  rw [hx.1] at l1
  have LX := Lib.hid hx.1
  clear s1 h1 hn
  have hp0 := addL_len 200 xs S1.out
  have hq0 := qL_len 200 xs S1.out
  go_enter Tryd.func3, Tryd.ntmps3
  go_wp2_with fail
  refine (HX.out _ rfl).mono ?_
  rintro e w1 ⟨rfl, rfl⟩
  go_wp2_with fail
  refine (shown5_any _).mono ?_
  rintro e w1 ⟨rfl, hb⟩
  have hv0 := OwnS.new w1 w.heap.size hb.size
  have hb0 := hb.alloc hb.size (.cells #[] 9)
  have hx0 := (hx.below hb0).mono hb0.size
  go_wp2_with (at_builtin; refine wp_appS rfl (.tmp 21) (.tmp 22) rfl w.heap.size _ _ hv0 rfl A n c _ rfl hx0 hA ?c1 hb0.size ?_; (case c1 => simp; omega); intro v4 w4 hv4 hg4 hb4; have hbe4 := hb0.trans hb4)
  rw [List.nil_append] at hv4
  obtain ⟨A5, c5, rfl, hc5⟩ := hv4.shape
  rw [LX.out] at hv4 hc5 ⊢
  clear hv0 hb0 hx0 hg4 hb4 hb
  have hx4 := (hx.below hbe4).mono hbe4.size
  refine (P_any _ _ _ _ _ _ hx4 (Nat.le_refl _) (by omega) (fun x hx => by have := S1.out x hx; omega)).mono ?_
  rintro e W1 ⟨rfl, hb3⟩
  replace hx4 := (hx4.below hb3).mono hb3.size
  replace hv4 := hv4.below hb3
  replace hbe4 := hbe4.trans (hb3.mono hbe4.size)
  clear hb3
  go_wp2_with fail
  refine (Q_any _ _ _ _ _ hx4 (by omega) hnc (fun x hx => by have := S1.out x hx; omega)).mono ?_
  rintro e W2 ⟨rfl, hb3⟩
  replace hv4 := hv4.below hb3
  replace hbe4 := hbe4.trans (hb3.mono hbe4.size)
  clear hb3 hx4
  have HF := Lib.hid (rfl : fullS xs = xs ++ [⟨(addL xs).toArray⟩, ⟨(qL xs).toArray⟩])
  have HGF := Lib.hid (good_full xs)
  have HSP := Lib.hid (good_spoilt xs)
  have HFS := Lib.hid (fullS_size xs 200 S1.out)
  have HFL := Lib.hid ((fullS_len xs).trans (by rw [LX.out]))
  have hN := Blk.new W2 9 ([⟨(addL xs).toArray⟩, ⟨(qL xs).toArray⟩].map Value.string).toArray
  have hal := (Below.refl W2.heap.size W2).alloc (Nat.le_refl _) (.cells ([⟨(addL xs).toArray⟩, ⟨(qL xs).toArray⟩].map Value.string).toArray 9)
  simp only [List.map_cons, List.map_nil] at hN hal
  replace hv4 := hv4.below hal
  replace hbe4 := hbe4.trans (hal.mono hbe4.size)
  have hN2 := StrsA.blk (xs := [⟨(addL xs).toArray⟩, ⟨(qL xs).toArray⟩]) (B := (W2.alloc (.cells #[.string ⟨(addL xs).toArray⟩, .string ⟨(qL xs).toArray⟩] 9)).heap.size) hN rfl hN.lt
  clear hal
  go_wp2_with (at_builtin; refine wp_appS rfl (.tmp 24) (.tmp 29) rfl w.heap.size _ _ hv4 rfl _ 2 2 _ rfl hN2 (fun h => by cases h) ?c1 hbe4.size ?_; (case c1 => rw [LX.out]; omega); intro v5 w5 hv5 hg5 hb5; have hbe5 := hbe4.trans hb5)
  change OwnS w5 w.heap.size v5 (fullS xs) at hv5
  clear hN hN2 hv4 hbe4 hg5 hb5 HF hx hp0 hq0 HX
  replace HSP := Lib.hid (fun i j s' by_ (h : i < n + 2) => HSP.out i j s' by_ (by rw [LX.out]; exact h))
  generalize fullS xs = F at *
  obtain ⟨A6, c6, rfl, hc6⟩ := hv5.shape
  rw [HFL.out] at hv5 hc6 ⊢
  obtain ⟨g6, rfl, hcm6⟩ : ∃ g6, A6 = some ⟨g6, 0, none⟩ ∧ c6 ≤ maxLen := by
    have h5 := hv5.2
    rcases h5 with ⟨h, h0⟩ | ⟨g, cap, cur, h, _, _, _, h3, _⟩
    · rw [HFL.out] at h0; omega
    · injection h with e1 e2 e3; subst e1; subst e3; exact ⟨_, rfl, h3⟩
  have hs5 := hv5.strs
  refine (sgood_any _ _ _ _ _ hs5 (by omega) (by omega) hcm6 (fun x hx => by have := HFS.out x hx; omega)).mono ?_
  rintro e W6 ⟨rfl, hb3⟩
  rw [HGF.out]
  replace hv5 := hv5.below hb3
  replace hbe5 := hbe5.trans (hb3.mono hbe5.size)
  clear hb3 hs5
  obtain ⟨q, hq⟩ : ∃ q, k % (n + 2) = q := ⟨_, rfl⟩
  have hqn : q < n + 2 := by rw [← hq]; exact Nat.mod_lt _ (by omega)
  have hfr := World.ownsRow.frozenAt (by have h := hv5; unfold OwnS at h; rw [HFL.out] at h; exact h) q
  have hce := World.ownsRow.cellAt (by have h := hv5; unfold OwnS at h; rw [HFL.out] at h; exact h) q (by omega)
  rw [svs_get (by rw [HFL.out]; exact hqn)] at hce
  have hgq : F[q]'(by rw [HFL.out]; exact hqn) = F.getD q ⟨#[]⟩ := by simp [List.getD, HFL.out, hqn]
  rw [hgq] at hce
  have HS := Lib.hid (HFS.out _ (mem_getD (xs := F) (k := q) (by rw [HFL.out]; exact hqn)))
  replace HSP := Lib.hid (fun j s' by_ => HSP.out q j s' by_ hqn)
  clear hgq
  generalize F.getD q ⟨#[]⟩ = s at *
  have hrem : (k : Int) % ((n : Int) + 2) = (q : Int) := by rw [← hq]; rfl
  clear hq
  by_cases he : s.size = 0
  · have hse : s = ByteArray.empty := by
      have h1 := list_len s
      rw [he] at h1
      exact mk_of (List.eq_nil_of_length_eq_zero h1)
    subst hse
    go_wp2_with fail
    go_ret
    exact ⟨rfl, hbe5⟩
  · have hse : ¬ s = ByteArray.empty := fun e => he (by rw [e]; rfl)
    have hs0 : ((s.size : Int) == 0) = false := by rw [beq_eq_false_iff_ne]; omega
    by_cases hb : b = 0
    · subst hb
      go_wp2_with fail
      all_goals (go_ret; exact ⟨rfl, hbe5⟩)
    · have hb0 : ((b.toNat : Int) == 0) = false := by
        rw [beq_eq_false_iff_ne]
        intro e
        exact hb (UInt8.toNat_inj.1 (by simpa using e))
      obtain ⟨j, hj⟩ : ∃ j, a % s.size = j := ⟨_, rfl⟩
      have hjs : j < s.size := by rw [← hj]; exact Nat.mod_lt _ (by omega)
      have hrem2 : (a : Int) % (s.size : Int) = (j : Int) := by rw [← hj]; rfl
      clear hj
      have hss := HS.out
      obtain ⟨z, hzx, hzz⟩ : ∃ z : UInt8, bits BinOp.xor IntKind.u8 (s[j].toNat : Int) (b.toNat : Int) = (z.toNat : Int) ∧ s[j] ^^^ b = z := ⟨_, xor_u8 _ _, rfl⟩
      have hat := getD_at s j hjs
      obtain ⟨y, hy⟩ : ∃ y, s[j] = y := ⟨_, rfl⟩
      rw [hy] at hzx hzz hat
      have HY := Lib.hid (show (spoilS s j z).data.toList.getD j 0 = s.data.toList.getD j 0 ^^^ b by rw [spoilS_at s j z hjs, hat, hzz])
      have HYS := Lib.hid (spoilS_size s j z hjs)
      clear hzz hat
      go_wp2_with fail
      refine wp_region_nf (fun Y => Below w.heap.size w Y) (fun _ => false) [(0, true), (1, true), (2, true), (3, true), (4, true), (5, true), (6, true), (7, true), (8, true), (9, true), (13, true), (14, true), (15, true), (16, true), (10, false), (11, false), (12, true), (17, true), (18, true), (19, false)] (by kernel_rfl) rfl (by kernel_rfl) (by kernel_rfl) (fun d _ _ _ _ h => by cases d <;> exact h) ?_
      replace hbe5 := hbe5.drew
      replace hv5 := hv5.drew
      have hqq : W6.drew.cell? ⟨g6, q, none⟩ = some (.string s) := hce
      have hqf : W6.drew.frozen? ⟨g6, q, none⟩ = false := hfr
      clear hce hfr
      generalize W6.drew = V at *
      repeat (refine nf_pure rfl hbe5 (fun Y hY => by clear hY; go_wp2; exact ⟨rfl, rfl, rfl⟩) rfl ?_ ?_; rfl)
      refine nf_imp rfl ?_
      go_wp2_with fail
      have hN := Blk.new V 5 #[.int .u8 (z.toNat : Int)]
      have hal := (Below.refl V.heap.size V).alloc (Nat.le_refl _) (.cells #[.int .u8 (z.toNat : Int)] 5)
      replace hv5 := hv5.below hal
      replace hbe5 := hbe5.trans (hal.mono hbe5.size)
      have hgV : g6 < V.heap.size := by
        rcases Nat.lt_or_ge g6 V.heap.size with h | h
        · exact h
        · have e : V.cell? ⟨g6, q, none⟩ = none := by
            unfold World.cell?
            simp [Array.getElem?_eq_none h]
          rw [e] at hqq; cases hqq
      replace hqq := (hal.cell (p := ⟨g6, q, none⟩) hgV).trans hqq
      have hqf2 := World.ownsRow.frozenAt (by have h := hv5; unfold OwnS at h; rw [HFL.out] at h; exact h) q
      clear hqf hal
      generalize V.alloc (.cells #[.int .u8 (z.toNat : Int)] 5) = V1 at *
      refine ⟨fun _ => hbe5, ?_⟩
      refine nf_imp rfl ?_
      have hcv := conv_new _ _ _ hN
      go_wp2_with fail
      clear hcv hN
      refine ⟨fun _ => hbe5, ?_⟩
      repeat (refine nf_pure rfl hbe5 (fun Y hY => by clear hY; go_wp2; exact ⟨rfl, rfl, rfl⟩) rfl ?_ ?_; rfl)
      refine nf_imp rfl ?_
      rw [show s.extract 0 j ++ ByteArray.mk #[z] ++ s.extract (j + 1) s.size = spoilS s j z from rfl]
      have HSQ := Lib.hid (HSP.out j (spoilS s j z) b hb HY.out)
      have HSS : (spoilS s j z).size ≤ 200 := by rw [HYS.out]; exact hss
      generalize spoilS s j z = s' at *
      have hw' := hv5.put HFL.out q s'
      have hbe6 := hbe5.setCell (p := ⟨g6, q, none⟩) hv5.base' (.string s')
      go_wp2_with fail
      refine ⟨fun _ => hbe6, ?_⟩
      refine nf_nil ?_
      have HMS := Lib.hid (fun x (hm : x ∈ F.set q s') => show x.size ≤ 200 by
        rcases List.mem_or_eq_of_mem_set hm with h | h
        · exact HFS.out x h
        · rw [h]; exact HSS)
      have hs6 := hw'.strs
      clear hw' hqq hqf2 hv5
      generalize V1.setCell ⟨g6, q, none⟩ (.string s') = V2 at *
      go_wp2_with fail
      refine (sgood_any _ _ _ _ _ hs6 (by omega) (by omega) hcm6 (fun x hx => by have := HMS.out x hx; omega)).mono ?_
      rintro e W9 ⟨rfl, hb3⟩
      rw [HSQ.out]
      go_wp2_with fail
      go_ret
      exact ⟨rfl, hbe6.trans (hb3.mono hbe6.size)⟩
theorem syndromeGood_walk (A : Option Addr) (n c : Nat) (xs : List ByteArray) (k a b : Int) (w : World) (hx : StrsIn w A n c xs) (hk : (Lit.int .u8 k).wf = true) (ha : (Lit.int .u8 a).wf = true) (hb : (Lit.int .u8 b).wf = true) :
    Calls Tryd.prog 3 #[.slice A n c, .int .u8 k, .int .u8 a, .int .u8 b] w fun e w' => e = .returned (.bool true) ∧ Below w.heap.size w w' := by
  obtain ⟨h1, h2, h3, h4, _⟩ := hx
  have b1 := bounds_u8 hk
  have b2 := bounds_u8 ha
  have b3 := bounds_u8 hb
  obtain ⟨k, rfl⟩ := Int.eq_ofNat_of_zero_le b1.1
  obtain ⟨a, rfl⟩ := Int.eq_ofNat_of_zero_le b2.1
  obtain ⟨x, rfl⟩ := Int.eq_ofNat_of_zero_le b3.1
  cases h : heavyB xs
  · have e : (x : Int) = ((UInt8.ofNat x).toNat : Int) := by
      have h2 : (UInt8.ofNat x).toNat = x := by rw [UInt8.toNat_ofNat']; omega
      rw [h2]
    rw [e]
    exact good_light w A n c k a (UInt8.ofNat x) (by omega) (by omega) xs h1 (by omega) h2 h4 h3 h
  · exact good_heavy w A n c k a x xs h1 (by omega) h
end Go.Proofs.YtaghdkiafgainaaDoor
