/- revetmentlaw12.RecordSpoilt: its walk. -/
import Derived.Test.YthpehdmffleobaaRcSpPlain
import Derived.Test.YthpehdmffleobaaRcHeads
import Derived.Test.YthpehdmffleobaaNT
import Derived.Test.YthpehdmffleobaaXor0
import Derived.Deep.DeepCutAuto
namespace Go.Proofs.Ythpehdmffleobaa
open Go.RowKit Go.OpenShut

theorem open_of_E0 (b : ByteArray) (h : headE b = 0) : b.size = 64 ∧ openB b.data.toList = true := by
  unfold headE at h
  by_cases h1 : b.size = 64
  · rw [if_pos h1] at h
    refine ⟨h1, ?_⟩
    cases ho : openB b.data.toList with
    | true => rfl
    | false => rw [ho, if_neg (by simp)] at h; exact absurd h (by decide)
  · rw [if_neg h1] at h
    exact absurd h (by decide)
theorem StrsA.set3 {w : World} {B g n : Nat} {A : Option Addr} {xs : List ByteArray} (h : StrsA w B A n xs) (hg : B ≤ g) (x y z : Value) : StrsA (set3 w g x y z) B A n xs := by
  refine ⟨h.1, fun hn => ?_⟩
  obtain ⟨b, o, e, hb, hc⟩ := h.2 hn
  exact ⟨b, o, e, hb, fun j hj => (cell_set3 (p := ⟨b, o + j, none⟩) (by dsimp only; omega)).trans (hc j hj)⟩
theorem svs_set (l : List ByteArray) (j : Nat) (s : ByteArray) : (svs l).set j (.string s) = svs (l.set j s) := by simp [svs, List.map_set]
theorem OwnS.set {w : World} {base g n c : Nat} {l : List ByteArray} (h : OwnS w base (.slice (some ⟨g, 0, none⟩) n c) l) (hl : l.length = n) (j : Nat) (s : ByteArray) :
    OwnS (w.setCell ⟨g, j, none⟩ (.string s)) base (.slice (some ⟨g, 0, none⟩) n c) (l.set j s) := by
  subst hl
  have h1 := (World.ownsRow.stored h j (.string s)).1
  rw [svs_set] at h1
  unfold OwnS
  rw [List.length_set]
  exact h1
theorem OwnS.froz {w : World} {base g n c : Nat} {l : List ByteArray} (h : OwnS w base (.slice (some ⟨g, 0, none⟩) n c) l) (hl : l.length = n) (i : Nat) : w.frozen? ⟨g, i, none⟩ = false := by
  subst hl
  exact World.ownsRow.frozenAt h i
theorem OwnS.some_ {w : World} {base n c : Nat} {A : Option Addr} {l : List ByteArray} (h : OwnS w base (.slice A n c) l) (hn : 0 < n) : ∃ g, A = some ⟨g, 0, none⟩ ∧ base ≤ g ∧ g < w.heap.size := by
  have hlt := World.ownsRow.lt h
  rcases h.2 with ⟨e', h1⟩ | ⟨g, cap, cur, e', _⟩
  · cases e'
    have := h.1
    rw [svs_len] at this
    omega
  · cases e'
    exact ⟨g, rfl, hlt g rfl⟩
theorem xor_ne (x y : UInt8) (h : y ≠ 0) : x ≠ x ^^^ y := by
  intro e
  apply h
  have h6 : x ^^^ x = x ^^^ (x ^^^ y) := by rw [← e]
  rw [← UInt8.xor_assoc, UInt8.xor_self, UInt8.zero_xor] at h6
  exact h6.symm
theorem changed_set (s : ByteArray) (i : Nat) (b : UInt8) (h : i < s.size) : (s.extract 0 i ++ ByteArray.mk #[b] ++ s.extract (i + 1) s.size).data.toList = s.data.toList.set i b := by
  rw [list_changed s i b h, List.set_eq_take_append_cons_drop, if_pos (by simpa using h)]
theorem getD_at (s : ByteArray) (i : Nat) (h : i < s.size) : s.data.toList.getD i 0 = s[i] := by
  have hl : i < s.data.toList.length := by simpa using h
  simp only [List.getD, List.getElem?_eq_getElem hl, Option.getD_some]
  rfl
set_option maxRecDepth 8000 in
set_option maxHeartbeats 2000000 in
theorem spoilt_no (w : World) (sq rw_ fr at_ by_ : Int) (A : Option Addr) (n c : Nat) (xs : List ByteArray) (hx : StrsA w w.heap.size A n xs) (hn : n ≤ maxLen) (hb : heavyB xs = true ∨ n = 0 ∨ 40 < n ∨ by_ = 0) :
    Calls Try.prog 6 #[.int .u64 sq, .int .u8 rw_, .int .u8 fr, .slice A n c, .int .u16 at_, .int .u8 by_] w fun e w' => e = .returned (.bool true) ∧ Below w.heap.size w w' := by
  have HV := Lib.hid (heavy_any w A n c xs hx hn)
  by_cases h1 : heavyB xs = true
  · rw [h1] at HV
    clear hb h1
    go_enter Try.func6, Try.ntmps6
    go_wp2_with fail
    refine HV.out.mono ?_
    rintro e w1 ⟨rfl, rfl⟩
    go_wp2_with fail
    refine (shown12_any _).mono ?_
    rintro e w1 ⟨rfl, hb⟩
    go_wp2_with fail
    go_ret
    exact ⟨rfl, hb⟩
  · rw [Bool.not_eq_true] at h1
    rw [h1] at HV
    by_cases h2 : n = 0
    · subst h2
      clear hb h1
      go_enter Try.func6, Try.ntmps6
      go_wp2_with fail
      refine HV.out.mono ?_
      rintro e w1 ⟨rfl, rfl⟩
      go_wp2_with fail
      refine (shown12_any _).mono ?_
      rintro e w1 ⟨rfl, hb⟩
      go_wp2_with fail
      go_ret
      exact ⟨rfl, hb⟩
    · have h6 : ((n : Int) == 0) = false := by rw [beq_eq_false_iff_ne]; omega
      by_cases h40 : 40 < n
      · have h3 : (n : Int) > 40 := by omega
        clear hb h1
        go_enter Try.func6, Try.ntmps6
        go_wp2_with fail
        refine HV.out.mono ?_
        rintro e w1 ⟨rfl, rfl⟩
        go_wp2_with fail
        refine (shown12_any _).mono ?_
        rintro e w1 ⟨rfl, hb⟩
        go_wp2_with fail
        go_ret
        exact ⟨rfl, hb⟩
      · have h3 : ¬ ((n : Int) > 40) := by omega
        have hb0 : by_ = 0 := by
          rcases hb with e | e | e | e
          · rw [h1] at e; cases e
          · omega
          · omega
          · exact e
        subst hb0
        clear hb h1
        go_enter Try.func6, Try.ntmps6
        go_wp2_with fail
        refine HV.out.mono ?_
        rintro e w1 ⟨rfl, rfl⟩
        go_wp2_with fail
        refine (shown12_any _).mono ?_
        rintro e w1 ⟨rfl, hb⟩
        go_wp2_with fail
        go_ret
        exact ⟨rfl, hb⟩
set_option maxRecDepth 8000 in
set_option maxHeartbeats 8000000 in
theorem spoilt_yes (w : World) (sq row fr at_ : Nat) (by_ : UInt8) (hs : sq < 18446744073709551616) (hr : row < 256) (hf : fr < 256) (ha : at_ < 65536) (hby : by_ ≠ 0) (A : Option Addr) (n c : Nat) (xs : List ByteArray) (hx : StrsA w w.heap.size A n xs) (hv : heavyB xs = false) (n1 : 1 ≤ n) (n40 : n ≤ 40) :
    Calls Try.prog 6 #[.int .u64 sq, .int .u8 row, .int .u8 fr, .slice A n c, .int .u16 at_, .int .u8 by_.toNat] w fun e w' => e = .returned (.bool true) ∧ Below w.heap.size w w' := by
  have HV := Lib.hid (heavy_any w A n c xs hx (by unfold maxLen; omega))
  rw [hv] at HV
  have HST := Lib.hid (fun V (h : StrsA V V.heap.size A n xs) => some_any V sq row fr hr hf A n c xs h (by unfold maxLen; omega) (fun x hx => by have := ((heavyB_no xs).1 hv).2 x hx; omega))
  rw [Nat.min_eq_left n40] at HST
  have hmay := some_may row fr hr xs n n40
  rw [decide_eq_true (by omega)] at hmay
  have HPL := Lib.hid (someL_len fr xs n)
  generalize someL fr xs n = ps at *
  have hpl : placedB row ps = true := by
    unfold mayB at hmay
    rw [Bool.and_eq_true] at hmay
    exact hmay.1
  have hld : loadedB ps = true := by
    unfold mayB at hmay
    rw [Bool.and_eq_true] at hmay
    exact hmay.2
  have hsum : recSum ps < 4294967296 := cmore_lt _ _
  obtain ⟨hE, hR0⟩ := head_of hpl hs hsum
  have HEN := Lib.hid (fun V A1 c1 (h : PartsA V V.heap.size A1 n ps) => encode12_yes V sq row A1 n c1 ps h (by unfold maxLen; omega) hmay (by omega))
  have HSL := Lib.hid ((loadS_len ps).trans HPL.out)
  obtain ⟨k, hk, hkn⟩ : ∃ k : Nat, (at_ : Int) / 64 % (n : Int) = (k : Int) ∧ k < n := ⟨at_ / 64 % n, by simp, Nat.mod_lt _ (by omega)⟩
  obtain ⟨i, hi, hi64⟩ : ∃ i : Nat, (at_ : Int) % 64 = (i : Int) ∧ i < 64 := ⟨at_ % 64, by simp, Nat.mod_lt _ (by omega)⟩
  obtain ⟨hHz, hHo⟩ := open_of_E0 _ hE
  have HLS := fun i x hi s h1 h2 => load_spoilt (row := row) hmay hs k (by rw [HPL.out]; exact hkn) i x hi s h1 h2
  have HES := fun k x hk hx t ht => headE_spoilt _ hHz hHo k x hk hx t ht
  generalize (⟨(headB sq row (recSum ps) ps).toArray⟩ : ByteArray) = H at *
  generalize recSum ps = S at *
  have hgz : ((loadS ps).getD k ⟨#[]⟩).size = 64 := by
    have h1 := loadedB_zip ps (loadS ps) (loadS_len ps)
    rw [zipD_self, hld] at h1
    have hkl : k < (loadS ps).length := by rw [HSL.out]; exact hkn
    have h2 := List.all_eq_true.1 h1.symm ((loadS ps).getD k ⟨#[]⟩) (by simp [List.getD, hkl])
    simpa using h2
  generalize hgg : (loadS ps).getD k ⟨#[]⟩ = g at *
  have HG := Lib.hid hgg
  clear hgg
  have hlt' : i < H.size := by omega
  have hlg' : i < g.size := by omega
  obtain ⟨b, hx1, hbb⟩ : ∃ b : UInt8, bits BinOp.xor IntKind.u8 (H[i].toNat : Int) (by_.toNat : Int) = (b.toNat : Int) ∧ H[i] ^^^ by_ = b := ⟨_, xor_u8 _ _, rfl⟩
  obtain ⟨b2, hx2, hbb2⟩ : ∃ b : UInt8, bits BinOp.xor IntKind.u8 (g[i].toNat : Int) (by_.toNat : Int) = (b.toNat : Int) ∧ g[i] ^^^ by_ = b := ⟨_, xor_u8 _ _, rfl⟩
  have HCV : Hid (∀ (b : UInt8) (V : World) (g : Nat) (t : TypeId) (_ : Blk V g t #[.int .u8 (b.toNat : Int)]), (convert 58 9 (.slice (some ⟨g, 0, none⟩) 1 1)).run Try.prog V = .ok (.string ⟨#[b]⟩) V) :=
    Lib.hid (fun b V g t h => (conv_cells (l := [b]) (w := V) (b := g) (off := 0) (fun i hi => by
      have : i = 0 := by simpa using hi
      subst this
      exact h.cell 0)))
  obtain ⟨T, hT⟩ : ∃ T, H.extract 0 i ++ ByteArray.mk #[b] ++ H.extract (i + 1) H.size = T := ⟨_, rfl⟩
  obtain ⟨G, hG⟩ : ∃ T, g.extract 0 i ++ ByteArray.mk #[b2] ++ g.extract (i + 1) g.size = T := ⟨_, rfl⟩
  have hTE : headE T = 80 := HES i b hi64 (by rw [getD_at H i hlt', ← hbb]; exact xor_ne _ _ hby) T (by rw [← hT]; exact changed_set H i b hlt')
  have hDE : decE12 H ((loadS ps).set k G) = 80 := HLS i b2 hi64 G (by rw [← hG]; exact changed_set g i b2 hlg') (by rw [getD_at g i hlg', ← hbb2]; exact xor_ne _ _ hby)
  have hTD : ∀ ys, decE12 T ys = 80 := fun ys => by unfold decE12; rw [hTE]; rfl
  have HDT := Lib.hid (fun V A1 c1 (h : StrsA V V.heap.size A1 n (loadS ps)) h1 h2 h3 => decode12_any V T A1 n c1 (loadS ps) h h1 h2 h3)
  rw [hTD] at HDT
  have HDG := Lib.hid (fun V A1 c1 (h : StrsA V V.heap.size A1 n ((loadS ps).set k G)) h1 h2 h3 => decode12_any V H A1 n c1 ((loadS ps).set k G) h h1 h2 h3)
  rw [hDE] at HDG
  generalize decR12 T (loadS ps) = r5 at *
  generalize decR12 H ((loadS ps).set k G) = r6 at *
  rw [← hT] at HDT
  have hse : (i : Int) ≤ (H.size : Int) := by omega
  have hse2 : (i : Int) + 1 ≤ (H.size : Int) := by omega
  have h6 : ((n : Int) == 0) = false := by rw [beq_eq_false_iff_ne]; omega
  have h7 : ¬ ((n : Int) > 40) := by omega
  have h8 : ((by_.toNat : Int) == 0) = false := beq_eq_false_iff_ne.2 (fun h => hby (UInt8.toNat_inj.1 (by simpa using h)))
  have h9 : ((n : Int) != (n : Int)) = false := by simp
  have h10 : ((H.size : Int) != 64) = false := by rw [hHz]; rfl
  have HI := Lib.hid hi
  have HK := Lib.hid hk
  have HGT := Lib.hid hG
  have HX2 := Lib.hid hx2
  have HGZ := Lib.hid hgz
  have hHs : H.size ≤ 64 := by omega
  clear hHz
  clear hmay hpl hld hE hR0 hsum hv hHo HLS HES hTE hDE hTD hT hG hbb hbb2 hi hk hx2 hgz
  obtain ⟨c0, hc0⟩ : ∃ c, H[i] = c := ⟨_, rfl⟩
  rw [hc0] at hx1
  go_enter Try.func6, Try.ntmps6
  go_wp2_with fail
  refine HV.out.mono ?_
  rintro e w1 ⟨rfl, rfl⟩
  go_wp2_with fail
  refine (shown12_any _).mono ?_
  rintro e w1 ⟨rfl, hb⟩
  have hxs := (hx.below hb).mono hb.size
  go_wp2_with fail
  refine (HST.out _ hxs).mono ?_
  rintro e w2 ⟨A1, c1, rfl, hc1, hc1m, hA1, hP, hb2⟩
  have hbe := hb.trans (hb2.mono hb.size)
  clear hb hb2 hx hxs
  go_wp2_with fail
  refine (HEN.out _ _ _ hP).mono ?_
  rintro e w4 ⟨A2, c2, rfl, hc2, hc2m, hA2, hL, hb4⟩
  replace hbe := hbe.trans (hb4.mono hbe.size)
  clear hb4 hP
  go_wp2_with fail
  rw [HI.out]
  obtain ⟨B0, hB0e, hB0⟩ : ∃ B0, w4.heap.size = B0 ∧ B0 ≤ w4.drew.heap.size := ⟨_, rfl, Nat.le_refl _⟩
  have hLB : StrsA w4.drew B0 A2 n (loadS ps) := by rw [← hB0e]; exact hL
  have hbd := hbe.drew
  clear hL hbe hB0e HEN HST HV
  go_cut [18] (fun s18 wx => s18 = .int .i64 80 ∧ Below w.heap.size w wx ∧ StrsA wx B0 A2 n (loadS ps) ∧ B0 ≤ wx.heap.size)
  case rest =>
    clear hbd hLB hB0
    obtain ⟨rfl, hbd, hLB, hB0⟩ := hcut
    generalize wc = Vf at *
    obtain ⟨bl, ol, rfl, hbl, hcl⟩ := hLB.2 (by omega)
    have q0 := hcl k hkn
    rw [HG.out] at q0
    have hgs : g.size ≤ 64 := by have := HGZ.out; omega
    have hg64 : ((g.size : Int) != 64) = false := by rw [HGZ.out]; rfl
    have hse3 : (i : Int) ≤ (g.size : Int) := by omega
    have hse4 : (i : Int) + 1 ≤ (g.size : Int) := by omega
    have hk := HK.out
    clear HDT hcl
    have hLS := hLB.mono hB0
    clear hLB
    have hAL := (Below.refl Vf.heap.size Vf).alloc (Nat.le_refl _) (.cells #[] 9)
    have hLA := (hLS.below hAL).mono hAL.size
    have hON := OwnS.new Vf Vf.heap.size (Nat.le_refl _)
    go_wp2_with (at_builtin; refine wp_appS rfl (.tmp 107) (.tmp 108) rfl Vf.heap.size _ _ hON rfl _ _ _ _ rfl hLA (fun h => by cases h) ?c1 ?c2 ?_; (case c1 => show 0 + n < 4294967296; omega); (case c2 => exact hAL.size); intro v7 w7 hv7 hg7 hb7; rw [List.nil_append] at hv7; obtain ⟨A7, c7, rfl, hc7, hc7m, hA7⟩ := hv7.shape3; rw [HSL.out] at hv7 hc7 ⊢; obtain ⟨g7, rfl, hg71, hg72⟩ := hv7.some_ (by omega))
    have hbe7 := hbd.trans ((hAL.trans hb7).mono hbd.size)
    clear hg7 hb7 hAL hLA hON hLS q0 hk
    obtain ⟨cg, hcg⟩ : ∃ c, g[i] = c := ⟨_, rfl⟩
    have hx2 := HX2.out
    rw [hcg] at hx2
    go_wp2_with fail
    refine wp_region_nf (fun _ => True) (fun _ => false) [(0, true), (1, true), (2, true), (3, true), (4, true), (5, true), (6, true), (7, true), (8, true), (9, true), (13, true), (14, true), (15, true), (16, true), (10, false), (11, false), (12, true), (17, true), (18, true), (19, false)] (by kernel_rfl) rfl (by kernel_rfl) (by kernel_rfl) (fun d _ _ _ _ h => by cases d <;> exact h) ?_
    have hbe8 := hbe7.drew
    have hv8 := hv7.drew
    have hg8 : g7 < w7.drew.heap.size := hg72
    clear hbe7 hv7 hg72
    generalize w7.drew = X at *
    repeat (refine nf_pure rfl trivial (fun Y hY => by go_wp2; exact ⟨rfl, rfl, rfl⟩) rfl ?_ ?_; rfl)
    refine nf_imp rfl ?_
    go_wp2_with fail
    have hN2 := Blk.new X 5 #[.int .u8 (b2.toNat : Int)]
    have hal := (Below.refl X.heap.size X).alloc (Nat.le_refl _) (.cells #[.int .u8 (b2.toNat : Int)] 5)
    have hv9 := hv8.below hal
    have hbe9 := hbe8.trans (hal.mono hbe8.size)
    have hg9 := Nat.lt_of_lt_of_le hg8 hal.size
    clear hal hv8 hbe8 hg8
    generalize X.alloc (.cells #[.int .u8 (b2.toNat : Int)] 5) = X1 at *
    refine ⟨fun _ => trivial, ?_⟩
    refine nf_imp rfl ?_
    have hcv := HCV.out _ _ _ _ hN2
    go_wp2_with fail
    clear hcv hN2
    refine ⟨fun _ => trivial, ?_⟩
    repeat (refine nf_pure rfl trivial (fun Y hY => by go_wp2; exact ⟨rfl, rfl, rfl⟩) rfl ?_ ?_; rfl)
    refine nf_imp rfl ?_
    obtain ⟨bb7, oo7, e7, _, hcl7⟩ := hv9.strs.2 (by omega)
    cases e7
    have q7 := hcl7 k hkn
    have f7 := hv9.froz HSL.out
    rw [Nat.zero_add] at q7
    go_wp2_with fail
    refine ⟨fun _ => trivial, ?_⟩
    refine nf_nil ?_
    have hv10 := hv9.set HSL.out k (g.extract 0 i ++ ByteArray.mk #[b2] ++ g.extract (i + 1) g.size)
    rw [HGT.out] at hv10
    have hbe10 := hbe9.setCell (p := ⟨g7, k, none⟩) (by have := hbd.size; dsimp only; omega) (.string (g.extract 0 i ++ ByteArray.mk #[b2] ++ g.extract (i + 1) g.size))
    rw [HGT.out] at hbe10
    clear hcl7 q7 f7 hv9 hbe9 hx2
    rw [HGT.out]
    generalize X1.setCell ⟨g7, k, none⟩ (.string G) = X2 at *
    have hst := hv10.strs
    go_wp2_with fail
    refine (HDG.out _ _ _ hst hc7 hc7m (fun e => by cases e)).mono ?_
    rintro e X3 ⟨A10, c10, rfl, hv11, hb11⟩
    have hbe11 := hbe10.trans (hb11.mono hbe10.size)
    clear hv11 hb11 hst hv10 hbe10
    unfold recV
    go_wp2_with fail
    go_ret
    exact ⟨rfl, hbe11.alloc hbe11.size _⟩
  refine wp_region_nt (fun _ => True) (fun _ => false) (NT.pures [0, 1, 2, 3, 4, 5, 6, 7, 11, 12, 13, 14, 16] (.fork 8 (.fork 9 (NT.pures [10, 15] (.fork 17 (NT.pures [18, 19, 20] (.imp 21 (.imp 22 (NT.pures [23] .nil)))) 21 (.imp 17 (NT.pures [18, 19, 20] (.imp 22 (NT.pures [23] .nil)))))) 21 (.imp 9 (NT.pures [10, 15] (.imp 17 (NT.pures [18, 19, 20] (.imp 22 (NT.pures [23] .nil))))))) 21 (.imp 8 (.imp 9 (NT.pures [10, 15] (.imp 17 (NT.pures [18, 19, 20] (.imp 22 (NT.pures [23] .nil))))))))) (by kernel_rfl) (by kernel_rfl) (by kernel_rfl) (fun d _ _ _ _ h => by cases d <;> exact h) ?_
  generalize World.drew w4 = V at *
  repeat (refine nt_pure rfl trivial (fun w1 _ => by go_wp2; exact ⟨rfl, rfl, rfl⟩) rfl ?_ ?_; rfl)
  refine nt_fork rfl rfl ?_ ?_
  · go_wp2_with fail
    have hN := Blk.new V 5 #[.int .u8 (b.toNat : Int)]
    have hal := (Below.refl V.heap.size V).alloc (Nat.le_refl _) (.cells #[.int .u8 (b.toNat : Int)] 5)
    replace hLB := hLB.below (hal.mono hB0)
    replace hbd := hbd.trans (hal.mono hbd.size)
    replace hB0 := Nat.le_trans hB0 hal.size
    clear hal
    generalize V.alloc (.cells #[.int .u8 (b.toNat : Int)] 5) = V1 at *
    refine ⟨fun _ => trivial, ?_⟩
    refine nt_fork rfl rfl ?_ ?_
    · have hcv := HCV.out _ _ _ _ hN
      go_wp2_with fail
      clear hcv hN
      refine ⟨fun _ => trivial, ?_⟩
      repeat (refine nt_pure rfl trivial (fun w1 _ => by go_wp2; exact ⟨rfl, rfl, rfl⟩) rfl ?_ ?_; rfl)
      refine nt_fork rfl rfl ?_ ?_
      · go_wp2_with fail
        refine (HDT.out _ _ _ (hLB.mono hB0) hc2 hc2m hA2).mono ?_
        rintro e1 V2 ⟨A9, c9, rfl, hv9, hb⟩
        replace hLB := hLB.below (hb.mono hB0)
        replace hbd := hbd.trans (hb.mono hbd.size)
        replace hB0 := Nat.le_trans hB0 hb.size
        clear hb hv9
        unfold recV
        go_wp2_with fail
        refine ⟨fun _ => trivial, ?_⟩
        repeat (refine nt_pure rfl trivial (fun w1 _ => by go_wp2; exact ⟨rfl, rfl, rfl⟩) rfl ?_ ?_; rfl)
        refine nt_imp rfl ?_
        go_wp2_with fail
        have hR := Blk.new V2 26 #[.int .u64 0, .int .i64 0, .slice none 0 0]
        have hRp := hbd.size
        have hRB := hB0
        have hal := (Below.refl V2.heap.size V2).alloc (Nat.le_refl _) (.cells #[.int .u64 0, .int .i64 0, .slice none 0 0] 26)
        replace hLB := hLB.below (hal.mono hB0)
        replace hbd := hbd.trans (hal.mono hbd.size)
        replace hB0 := Nat.le_trans hB0 hal.size
        clear hal
        generalize V2.alloc (.cells #[.int .u64 0, .int .i64 0, .slice none 0 0] 26) = V3 at *
        generalize V2.heap.size = r17 at *
        refine ⟨fun _ => trivial, ?_⟩
        refine nt_imp rfl ?_
        have hq := hR.cell
        have hf := hR.frozen
        go_wp2_with fail
        clear hq hf hR
        replace hbd := below_set3 hbd hRp (.int .u64 r5.seq) (.int .i64 r5.row) (.slice A9 r5.ps.length c9)
        replace hLB := hLB.set3 hRB (.int .u64 r5.seq) (.int .i64 r5.row) (.slice A9 r5.ps.length c9)
        replace hB0 : B0 ≤ (set3 V3 r17 (.int .u64 r5.seq) (.int .i64 r5.row) (.slice A9 r5.ps.length c9)).heap.size := by simpa [set3] using hB0
        refine ⟨fun _ => trivial, ?_⟩
        show wpNT _ _ _ _ _ _ _ (set3 V3 r17 (.int .u64 r5.seq) (.int .i64 r5.row) (.slice A9 r5.ps.length c9))
        generalize set3 V3 r17 (.int .u64 r5.seq) (.int .i64 r5.row) (.slice A9 r5.ps.length c9) = Vf at *
        repeat (refine nt_pure rfl trivial (fun w1 _ => by go_wp2; exact ⟨rfl, rfl, rfl⟩) rfl ?_ ?_; rfl)
        refine nt_nil ?_
        go_wp2_with fail
        go_meet
        exact ⟨rfl, hbd, hLB, hB0⟩
      · go_wp2_with fail
        have hR := Blk.new V1 26 #[.int .u64 0, .int .i64 0, .slice none 0 0]
        have hRp := hbd.size
        have hRB := hB0
        have hal := (Below.refl V1.heap.size V1).alloc (Nat.le_refl _) (.cells #[.int .u64 0, .int .i64 0, .slice none 0 0] 26)
        replace hLB := hLB.below (hal.mono hB0)
        replace hbd := hbd.trans (hal.mono hbd.size)
        replace hB0 := Nat.le_trans hB0 hal.size
        clear hal
        generalize V1.alloc (.cells #[.int .u64 0, .int .i64 0, .slice none 0 0] 26) = V2 at *
        generalize V1.heap.size = r17 at *
        refine ⟨fun _ => trivial, ?_⟩
        refine nt_imp rfl ?_
        go_wp2_with fail
        refine (HDT.out _ _ _ (hLB.mono hB0) hc2 hc2m hA2).mono ?_
        rintro e1 V3 ⟨A9, c9, rfl, hv9, hb⟩
        replace hR := hR.below hb hR.lt
        replace hLB := hLB.below (hb.mono hB0)
        replace hbd := hbd.trans (hb.mono hbd.size)
        replace hB0 := Nat.le_trans hB0 hb.size
        clear hb hv9
        unfold recV
        go_wp2_with fail
        refine ⟨fun _ => trivial, ?_⟩
        repeat (refine nt_pure rfl trivial (fun w1 _ => by go_wp2; exact ⟨rfl, rfl, rfl⟩) rfl ?_ ?_; rfl)
        refine nt_imp rfl ?_
        have hq := hR.cell
        have hf := hR.frozen
        go_wp2_with fail
        clear hq hf hR
        replace hbd := below_set3 hbd hRp (.int .u64 r5.seq) (.int .i64 r5.row) (.slice A9 r5.ps.length c9)
        replace hLB := hLB.set3 hRB (.int .u64 r5.seq) (.int .i64 r5.row) (.slice A9 r5.ps.length c9)
        replace hB0 : B0 ≤ (set3 V3 r17 (.int .u64 r5.seq) (.int .i64 r5.row) (.slice A9 r5.ps.length c9)).heap.size := by simpa [set3] using hB0
        refine ⟨fun _ => trivial, ?_⟩
        show wpNT _ _ _ _ _ _ _ (set3 V3 r17 (.int .u64 r5.seq) (.int .i64 r5.row) (.slice A9 r5.ps.length c9))
        generalize set3 V3 r17 (.int .u64 r5.seq) (.int .i64 r5.row) (.slice A9 r5.ps.length c9) = Vf at *
        repeat (refine nt_pure rfl trivial (fun w1 _ => by go_wp2; exact ⟨rfl, rfl, rfl⟩) rfl ?_ ?_; rfl)
        refine nt_nil ?_
        go_wp2_with fail
        go_meet
        exact ⟨rfl, hbd, hLB, hB0⟩
    · go_wp2_with fail
      have hR := Blk.new V1 26 #[.int .u64 0, .int .i64 0, .slice none 0 0]
      have hRp := hbd.size
      have hRB := hB0
      have hal := (Below.refl V1.heap.size V1).alloc (Nat.le_refl _) (.cells #[.int .u64 0, .int .i64 0, .slice none 0 0] 26)
      replace hN := hN.below hal hN.lt
      replace hLB := hLB.below (hal.mono hB0)
      replace hbd := hbd.trans (hal.mono hbd.size)
      replace hB0 := Nat.le_trans hB0 hal.size
      clear hal
      generalize V1.alloc (.cells #[.int .u64 0, .int .i64 0, .slice none 0 0] 26) = V2 at *
      generalize V1.heap.size = r17 at *
      refine ⟨fun _ => trivial, ?_⟩
      refine nt_imp rfl ?_
      have hcv := HCV.out _ _ _ _ hN
      go_wp2_with fail
      clear hcv hN
      refine ⟨fun _ => trivial, ?_⟩
      repeat (refine nt_pure rfl trivial (fun w1 _ => by go_wp2; exact ⟨rfl, rfl, rfl⟩) rfl ?_ ?_; rfl)
      refine nt_imp rfl ?_
      go_wp2_with fail
      refine (HDT.out _ _ _ (hLB.mono hB0) hc2 hc2m hA2).mono ?_
      rintro e1 V3 ⟨A9, c9, rfl, hv9, hb⟩
      replace hR := hR.below hb hR.lt
      replace hLB := hLB.below (hb.mono hB0)
      replace hbd := hbd.trans (hb.mono hbd.size)
      replace hB0 := Nat.le_trans hB0 hb.size
      clear hb hv9
      unfold recV
      go_wp2_with fail
      refine ⟨fun _ => trivial, ?_⟩
      repeat (refine nt_pure rfl trivial (fun w1 _ => by go_wp2; exact ⟨rfl, rfl, rfl⟩) rfl ?_ ?_; rfl)
      refine nt_imp rfl ?_
      have hq := hR.cell
      have hf := hR.frozen
      go_wp2_with fail
      clear hq hf hR
      replace hbd := below_set3 hbd hRp (.int .u64 r5.seq) (.int .i64 r5.row) (.slice A9 r5.ps.length c9)
      replace hLB := hLB.set3 hRB (.int .u64 r5.seq) (.int .i64 r5.row) (.slice A9 r5.ps.length c9)
      replace hB0 : B0 ≤ (set3 V3 r17 (.int .u64 r5.seq) (.int .i64 r5.row) (.slice A9 r5.ps.length c9)).heap.size := by simpa [set3] using hB0
      refine ⟨fun _ => trivial, ?_⟩
      show wpNT _ _ _ _ _ _ _ (set3 V3 r17 (.int .u64 r5.seq) (.int .i64 r5.row) (.slice A9 r5.ps.length c9))
      generalize set3 V3 r17 (.int .u64 r5.seq) (.int .i64 r5.row) (.slice A9 r5.ps.length c9) = Vf at *
      repeat (refine nt_pure rfl trivial (fun w1 _ => by go_wp2; exact ⟨rfl, rfl, rfl⟩) rfl ?_ ?_; rfl)
      refine nt_nil ?_
      go_wp2_with fail
      go_meet
      exact ⟨rfl, hbd, hLB, hB0⟩
  · go_wp2_with fail
    have hR := Blk.new V 26 #[.int .u64 0, .int .i64 0, .slice none 0 0]
    have hRp := hbd.size
    have hRB := hB0
    have hal := (Below.refl V.heap.size V).alloc (Nat.le_refl _) (.cells #[.int .u64 0, .int .i64 0, .slice none 0 0] 26)
    replace hLB := hLB.below (hal.mono hB0)
    replace hbd := hbd.trans (hal.mono hbd.size)
    replace hB0 := Nat.le_trans hB0 hal.size
    clear hal
    generalize V.alloc (.cells #[.int .u64 0, .int .i64 0, .slice none 0 0] 26) = V1 at *
    generalize V.heap.size = r17 at *
    refine ⟨fun _ => trivial, ?_⟩
    refine nt_imp rfl ?_
    go_wp2_with fail
    have hN := Blk.new V1 5 #[.int .u8 (b.toNat : Int)]
    have hal := (Below.refl V1.heap.size V1).alloc (Nat.le_refl _) (.cells #[.int .u8 (b.toNat : Int)] 5)
    replace hR := hR.below hal hR.lt
    replace hLB := hLB.below (hal.mono hB0)
    replace hbd := hbd.trans (hal.mono hbd.size)
    replace hB0 := Nat.le_trans hB0 hal.size
    clear hal
    generalize V1.alloc (.cells #[.int .u8 (b.toNat : Int)] 5) = V2 at *
    refine ⟨fun _ => trivial, ?_⟩
    refine nt_imp rfl ?_
    have hcv := HCV.out _ _ _ _ hN
    go_wp2_with fail
    clear hcv hN
    refine ⟨fun _ => trivial, ?_⟩
    repeat (refine nt_pure rfl trivial (fun w1 _ => by go_wp2; exact ⟨rfl, rfl, rfl⟩) rfl ?_ ?_; rfl)
    refine nt_imp rfl ?_
    go_wp2_with fail
    refine (HDT.out _ _ _ (hLB.mono hB0) hc2 hc2m hA2).mono ?_
    rintro e1 V3 ⟨A9, c9, rfl, hv9, hb⟩
    replace hR := hR.below hb hR.lt
    replace hLB := hLB.below (hb.mono hB0)
    replace hbd := hbd.trans (hb.mono hbd.size)
    replace hB0 := Nat.le_trans hB0 hb.size
    clear hb hv9
    unfold recV
    go_wp2_with fail
    refine ⟨fun _ => trivial, ?_⟩
    repeat (refine nt_pure rfl trivial (fun w1 _ => by go_wp2; exact ⟨rfl, rfl, rfl⟩) rfl ?_ ?_; rfl)
    refine nt_imp rfl ?_
    have hq := hR.cell
    have hf := hR.frozen
    go_wp2_with fail
    clear hq hf hR
    replace hbd := below_set3 hbd hRp (.int .u64 r5.seq) (.int .i64 r5.row) (.slice A9 r5.ps.length c9)
    replace hLB := hLB.set3 hRB (.int .u64 r5.seq) (.int .i64 r5.row) (.slice A9 r5.ps.length c9)
    replace hB0 : B0 ≤ (set3 V3 r17 (.int .u64 r5.seq) (.int .i64 r5.row) (.slice A9 r5.ps.length c9)).heap.size := by simpa [set3] using hB0
    refine ⟨fun _ => trivial, ?_⟩
    show wpNT _ _ _ _ _ _ _ (set3 V3 r17 (.int .u64 r5.seq) (.int .i64 r5.row) (.slice A9 r5.ps.length c9))
    generalize set3 V3 r17 (.int .u64 r5.seq) (.int .i64 r5.row) (.slice A9 r5.ps.length c9) = Vf at *
    repeat (refine nt_pure rfl trivial (fun w1 _ => by go_wp2; exact ⟨rfl, rfl, rfl⟩) rfl ?_ ?_; rfl)
    refine nt_nil ?_
    go_wp2_with fail
    go_meet
    exact ⟨rfl, hbd, hLB, hB0⟩
theorem recordSpoilt_walk (sq rw_ fr : Int) (A : Option Addr) (n c : Nat) (xs : List ByteArray) (at_ by_ : Int) (w : World) (hs : (Lit.int .u64 sq).wf = true) (hr : (Lit.int .u8 rw_).wf = true) (hf : (Lit.int .u8 fr).wf = true) (hx : StrsIn w A n c xs) (ha : (Lit.int .u16 at_).wf = true) (hb : (Lit.int .u8 by_).wf = true) :
    Calls Try.prog 6 #[.int .u64 sq, .int .u8 rw_, .int .u8 fr, .slice A n c, .int .u16 at_, .int .u8 by_] w fun e w' => e = .returned (.bool true) ∧ Below w.heap.size w w' := by
  have b1 := bounds_u64 hs
  have b2 := bounds_u8 hr
  have b3 := bounds_u8 hf
  have b4 := bounds_u16 ha
  have b5 := bounds_u8 hb
  obtain ⟨sq, rfl⟩ := Int.eq_ofNat_of_zero_le b1.1
  obtain ⟨rw_, rfl⟩ := Int.eq_ofNat_of_zero_le b2.1
  obtain ⟨fr, rfl⟩ := Int.eq_ofNat_of_zero_le b3.1
  obtain ⟨at_, rfl⟩ := Int.eq_ofNat_of_zero_le b4.1
  obtain ⟨b', rfl⟩ := Int.eq_ofNat_of_zero_le b5.1
  obtain ⟨h1, h2, h3, _, _⟩ := hx
  by_cases h : heavyB xs = true ∨ n = 0 ∨ 40 < n ∨ (b' : Int) = 0
  · exact spoilt_no w sq rw_ fr at_ b' A n c xs h1 (by omega) h
  · simp only [not_or, Bool.not_eq_true] at h
    obtain ⟨by_, hby⟩ : ∃ x : UInt8, x.toNat = b' := ⟨UInt8.ofNat b', by simp; omega⟩
    subst hby
    exact spoilt_yes w sq rw_ fr at_ by_ (by omega) (by omega) (by omega) (by omega) (fun e => h.2.2.2 (by rw [e]; rfl)) A n c xs h1 h.1 (by omega) (by omega)
end Go.Proofs.Ythpehdmffleobaa
