/- syndrome.Q. -/
import Derived.Test.YtaghdkiafgainaaDoorSyAdd
import Derived.Test.YtaghdkiafgainaaDoorGTimes
import Derived.Test.YtaghdkiafgainaaDoorRangeB
namespace Go.Proofs.YtaghdkiafgainaaDoor
set_option maxRecDepth 20000
open Go.RowKit Go.OpenShut
attribute [local go_sem] Oper.semAt_some

theorem xorL_nil (l : List UInt8) : xorL [] l = l := by
  unfold xorL
  apply List.ext_getElem
  · simp
  · intro i h1 h2
    simp [List.getD, h2]
def qZ (xs : List ByteArray) (pre : List Nat) : List UInt8 := (xs.zip pre).foldl (fun s p => xorL s (mulL p.1.data.toList (pw p.2))) []
def qL (xs : List ByteArray) : List UInt8 := qZ xs (List.range xs.length)
theorem zip_snoc' {α β : Type} (ps : List α) (x : β) (bs : List β) (h : bs.length < ps.length) : ps.zip (bs ++ [x]) = ps.zip bs ++ [(ps[bs.length], x)] := by
  induction bs generalizing ps with
  | nil =>
    cases ps with
    | nil => simp at h
    | cons a l => simp
  | cons b bs ih =>
    cases ps with
    | nil => simp at h
    | cons a l =>
      simp only [List.cons_append, List.zip_cons_cons, List.length_cons, List.getElem_cons_succ]
      rw [ih l (by simpa using h)]
theorem qZ_snoc (xs : List ByteArray) (pre : List Nat) (x : Nat) (h : pre.length < xs.length) : qZ xs (pre ++ [x]) = xorL (qZ xs pre) (mulL (xs.getD pre.length ⟨#[]⟩).data.toList (pw x)) := by
  unfold qZ
  rw [zip_snoc' _ _ _ h, List.foldl_append]
  simp [List.getD, h]
theorem qZ_full (xs : List ByteArray) (pre : List Nat) (x : Nat) (h : pre.length = xs.length) : qZ xs (pre ++ [x]) = qZ xs pre := by
  unfold qZ
  congr 1
  induction pre generalizing xs with
  | nil =>
    have : xs = [] := List.eq_nil_of_length_eq_zero h.symm
    subst this
    rfl
  | cons b pre ih =>
    cases xs with
    | nil => simp at h
    | cons a l =>
      simp only [List.cons_append, List.zip_cons_cons]
      rw [ih l (by simpa using h)]
theorem mulL_len (l : List UInt8) (b : Nat) : (mulL l b).length = l.length := by simp [mulL]
theorem qZ_len (M : Nat) : ∀ (xs : List ByteArray) (pre : List Nat), (∀ x ∈ xs, x.size ≤ M) → (qZ xs pre).length ≤ M := by
  intro xs pre
  unfold qZ
  suffices h : ∀ (l : List (ByteArray × Nat)) (acc : List UInt8), acc.length ≤ M → (∀ p ∈ l, p.1.size ≤ M) → (l.foldl (fun s p => xorL s (mulL p.1.data.toList (pw p.2))) acc).length ≤ M from fun hx => h _ [] (by simp) (fun p hp => hx p.1 (List.of_mem_zip hp).1)
  intro l
  induction l with
  | nil => intro acc h _; exact h
  | cons a l ih =>
    intro acc h hx
    refine ih _ ?_ (fun x hm => hx x (by simp [hm]))
    rw [xorL_length, mulL_len]
    have h1 := hx a (by simp)
    have h2 : a.1.data.toList.length = a.1.size := by simp
    omega

theorem powers_any (w : World) :
    Calls Tryd.prog 18 #[] w fun e w' => e = .returned (.func (.func 28) #[] #[]) ∧ w = w' := by
  go_enter Tryd.func18, Tryd.ntmps18
  go_wp2
  go_ret
  exact ⟨rfl, rfl⟩
def pwEnc (k : Nat) : Array Value := #[.int .u8 (pw k : Nat)]

set_option maxRecDepth 100000 in
set_option maxHeartbeats 2000000 in
theorem powers1_in (l n₀ N : Nat) (hN : N ≤ 250) (J Jx : List Nat → World → Prop) (W : World) (hJN : ∀ pre V, J pre V → pre.length < N)
    (hY : ∀ pre x W, J pre W → YieldAt Fence.wide 3 Tryd.prog l (pwEnc x) W fun e W' =>
      (e = .returned (.bool true) ∧ J (pre ++ [x]) W' ∧ Below n₀ W W') ∨ (e = .returned (.bool false) ∧ Jx (pre ++ [x]) W'))
    (h0 : J [] W) :
    CallsIn Fence.wide 4 Tryd.prog 28 #[.func (.yield l) #[] #[]] W fun e W' => (∃ v, e = .returned v) ∧
      ((∃ ys : List Nat, False ∧ J ys W') ∨ (∃ pre : List Nat, pre = List.range pre.length ∧ Jx pre W')) := by
  refine callsIn_of_wp Tryd.func28 rfl trivial ?_ rfl
  simp only [Tryd.ntmps28, List.size_toArray, List.length_cons, List.length_nil, Nat.reduceAdd, Nat.reduceSub, Array.replicate_succ, Array.replicate_zero, List.push_toArray, List.append_toArray, List.nil_append, List.cons_append]
  gi_wp2
  gi_loopw [2] (fun x wr => ∃ k : Nat, k < N ∧ x = .int .u8 (pw k : Nat) ∧ J (List.range k) wr) (fun x _ => N - lg (intOf x).toNat)
  case atStart => exact ⟨0, hJN _ _ h0, rfl, h0⟩
  case round =>
    obtain ⟨k, hk, rfl, hJ⟩ := hrel
    obtain ⟨fn, tmps, assign, body, hy, hR⟩ := hY (List.range k) k wr hJ
    dsimp only [pwEnc] at hy
    have hp := pw_lt k
    have hsucc : gm (pw k) 2 = pw (k + 1) := by
      rw [show (2 : Nat) = pw 1 from rfl, gm_pp]
    have hl1 : lg (pw k) = k := lg_pw (by omega)
    have hl2 : lg (pw (k + 1)) = k + 1 := lg_pw (by omega)
    obtain ⟨q, hq⟩ : ∃ q, pw (k + 1) = q := ⟨_, rfl⟩
    have HQ := Lib.hid hq
    rw [hq] at hsucc hl2
    clear hq
    generalize pw k = p at *
    have HS := Lib.hid hsucc
    have HL1 := Lib.hid hl1
    have HL2 := Lib.hid hl2
    clear hsucc hl1 hl2
    gi_wp2
    refine hR.mono ?_
    rintro e W3 (⟨rfl, hJ3, hk3⟩ | ⟨rfl, hJx3⟩)
    · have hJ4 : J (List.range (k + 1)) W3 := by rw [List.range_succ]; exact hJ3
      have hk4 := hJN _ _ hJ4
      rw [List.length_range] at hk4
      gi_wp2_with fail
      refine ⟨trivial, (callsIn_wide.2 (mul_any _ p 2 hp (by omega))).mono ?_⟩
      rintro e W4 ⟨rfl, rfl⟩
      rw [HS.out]
      gi_wp2
      go_roundw
      case rel => exact ⟨k + 1, hk4, by rw [HQ.out], hJ4⟩
      case measure => simp [intOf]; rw [HL1.out, HL2.out]; omega
    · gi_wp2
      go_end0
      exact ⟨⟨_, rfl⟩, .inr ⟨List.range k ++ [k], by rw [← List.range_succ]; simp, hJx3⟩⟩
theorem powers_seq (n₀ N : Nat) (hN : N ≤ 250) (w : World) : SeqB Tryd.prog 28 #[] pwEnc n₀ (fun _ => False) (fun pre => pre = List.range pre.length) N w :=
  fun l J Jx W _ _ _ hJN hY h0 => powers1_in l n₀ N hN J Jx W hJN hY h0

theorem keeps_below {B : Nat} {V W : World} (h : Below V.heap.size V W) : KeepsFrom B V W :=
  ⟨h.size, fun k _ _ hk _ => (h.block k (Array.getElem?_eq_some_iff.1 hk).1).trans hk⟩
theorem keeps_setc {B : Nat} {p : Addr} (hp : p.block < B) (W : World) (u : Value) : KeepsFrom B W (W.setCell p u) :=
  ⟨by simp [World.setCell], fun k _ hb hk _ => (Below.heap_setCell W p u k (by omega)).trans hk⟩
theorem StrsA.zero (w : World) (B : Nat) (A : Option Addr) : StrsA w B A 0 [] := ⟨rfl, fun h => by omega⟩
set_option maxHeartbeats 4000000 in
theorem Q_any (w : World) (A : Option Addr) (n c : Nat) (xs : List ByteArray) (h : StrsA w w.heap.size A n xs) (hn : n ≤ 200) (hc : n ≤ c) (hx : ∀ x ∈ xs, x.size ≤ 4294967295) :
    Calls Tryd.prog 8 #[.slice A n c] w fun e w' => e = .returned (.string ⟨(qL xs).toArray⟩) ∧ Below w.heap.size w w' := by
  have HL := Lib.hid h.1
  have HX := Lib.hid hx
  have HM := Lib.hid (fun pre => qZ_len 4294967295 xs pre hx)
  clear hx
  refine calls_marks Tryd.func8 rfl ?_
  simp only [Tryd.ntmps8, List.size_toArray, List.length_cons, List.length_nil, Nat.reduceAdd, Nat.reduceSub, Array.replicate_succ, Array.replicate_zero, List.push_toArray, List.append_toArray, List.nil_append, List.cons_append]
  go_wp2_with fail
  refine (powers_any _).mono ?_
  rintro e w1 ⟨rfl, rfl⟩
  go_wp2_with fail
  have hD := (Blk.new w 22 #[.slice A n c]).alloc (.cells #[.string ⟨#[]⟩] 9)
  have hS := Blk.new (w.alloc (.cells #[.slice A n c] 22)) 9 #[.string ⟨#[]⟩]
  rw [show (w.alloc (.cells #[.slice A n c] 22)).heap.size = w.heap.size + 1 by simp] at hS
  have hbe := ((Below.refl w.heap.size w).alloc (Nat.le_refl _) (.cells #[.slice A n c] 22)).alloc (by simp) (.cells #[.string ⟨#[]⟩] 9)
  have hsz : ((w.alloc (.cells #[.slice A n c] 22)).alloc (.cells #[.string ⟨#[]⟩] 9)).heap.size = w.heap.size + 1 + 1 := by simp
  generalize (w.alloc (.cells #[.slice A n c] 22)).alloc (.cells #[.string ⟨#[]⟩] 9) = R at *
  refine wp_rangeB w.heap.size (by omega) rfl (enters_of Tryd.func28 (by kernel_rfl) rfl) (powers_seq w.heap.size (n + 1) (by omega) R) (fun _ => rfl)
    (fun pre V => pre.length ≤ n ∧ Blk V (w.heap.size + 1) 9 #[.string ⟨(qZ xs pre).toArray⟩] ∧ (∃ A' m c', Blk V w.heap.size 22 #[.slice A' m c'] ∧ m = n - pre.length ∧ m ≤ c' ∧ StrsA V w.heap.size A' m (xs.drop pre.length)) ∧ Below w.heap.size w V)
    (fun cd pre V => cd = .exit 0 ∧ pre.length = n + 1 ∧ Blk V (w.heap.size + 1) 9 #[.string ⟨(qZ xs pre).toArray⟩] ∧ Below w.heap.size w V)
    ?hI ?hIx (fun pre V hp => by have := hp.1; omega) ⟨by simp, (show qZ xs [] = [] by simp [qZ]) ▸ hS, ⟨A, n, c, hD, by simp, hc, h.below hbe⟩, hbe⟩ ?hround (fun _ _ _ _ hf => hf.elim) ?hstop
  case hI =>
    rintro s V V' row ⟨h1, h2, ⟨A', m, c', h3, h4, h5, h6⟩, h7⟩ hg hr
    have hbt := below_turn (Below.refl w.heap.size V) h7.size (show w.heap.size ≤ R.heap.size by omega) hg hr
    exact ⟨h1, h2.turn hg hr, ⟨A', m, c', h3.turn hg hr, h4, h5, h6.below hbt⟩, h7.trans hbt⟩
  case hIx =>
    rintro cd s V V' row ⟨h1, h2, h3, h7⟩ hg hr
    exact ⟨h1, h2, h3.turn hg hr, below_turn h7 (Nat.le_refl _) (by omega) hg hr⟩
  case hround =>
    apply Exists.intro
    constructor
    · intro l x V K hK
      dsimp only [pwEnc]
      gi_wp2
      exact hK
    · rintro l pre x V ⟨h1, h2, ⟨A', m, c', h3, rfl, h5, h6⟩, h7⟩
      have q3 := h3.cell 0
      by_cases he : pre.length = n
      · have hm0 : n - pre.length = 0 := by omega
        rw [hm0] at q3
        gi_wp2
        refine ⟨KeepsFrom.refl _ _, rfl, by rw [List.length_append, he]; rfl, ?_, h7⟩
        rw [qZ_full xs pre x (by rw [he, HL.out])]
        exact h2
      · obtain ⟨M, hM, hM0⟩ : ∃ M, n - pre.length = M + 1 ∧ M + 1 ≤ n := ⟨n - pre.length - 1, by omega, by omega⟩
        rw [hM] at q3 h6 h5 h3
        obtain ⟨b, off, rfl, hbB, hcc⟩ := h6.2 (by omega)
        have hc0 := hcc 0 (by omega)
        have hget : (xs.drop pre.length).getD 0 ⟨#[]⟩ = xs.getD pre.length ⟨#[]⟩ := by simp [List.getD]
        rw [hget, Nat.add_zero] at hc0
        have hpl : pre.length < xs.length := by rw [HL.out]; omega
        have hmem : xs.getD pre.length ⟨#[]⟩ ∈ xs := by simp [List.getD, hpl]
        have HSN := Lib.hid (qZ_snoc xs pre x hpl)
        have HXD := Lib.hid (HX.out _ hmem)
        have hdr := h6.drop 1 (by omega)
        rw [List.drop_drop] at hdr
        have HMM := Lib.hid (HM.out pre)
        have hpw := pw_lt x
        generalize xs.getD pre.length ⟨#[]⟩ = d at *
        have q2 := h2.cell 0
        generalize hacc : qZ xs pre = acc at *
        have HACC := Lib.hid hacc
        clear hacc hcc hget hmem hpl
        have hV1 : w.heap.size + 1 < V.heap.size := h2.lt
        have hV0 : w.heap.size < V.heap.size := h3.lt
        have hVb : b < V.heap.size := by omega
        have kV : ∀ (Y : World), Below V.heap.size V Y → Y.cell? ⟨w.heap.size + 1, 0, none⟩ = some (.string ⟨acc.toArray⟩) ∧ Y.cell? ⟨w.heap.size, 0, none⟩ = some (.slice (some ⟨b, off, none⟩) (M + 1) c') ∧ Y.cell? ⟨b, off, none⟩ = some (.string d) := fun Y hY =>
          ⟨(hY.cell (p := ⟨w.heap.size + 1, 0, none⟩) hV1).trans q2, (hY.cell (p := ⟨w.heap.size, 0, none⟩) hV0).trans q3, (hY.cell (p := ⟨b, off, none⟩) hVb).trans hc0⟩
        have KV := Lib.hid kV
        clear kV
        gi_wp2
        refine wpIn_region_nf l (fun Y => Y.cell? ⟨w.heap.size + 1, 0, none⟩ = some (.string ⟨acc.toArray⟩) ∧ Y.cell? ⟨w.heap.size, 0, none⟩ = some (.slice (some ⟨b, off, none⟩) (M + 1) c') ∧ Y.cell? ⟨b, off, none⟩ = some (.string d)) (fun j => j == 8)
          [(0, true), (1, true), (2, true), (3, true), (4, true), (5, false), (6, false), (7, false), (8, false)] (by kernel_rfl) rfl (by kernel_rfl) (by kernel_rfl) (fun d _ _ _ _ h => by cases d <;> exact h) (by kernel_rfl) (fun ⟨_, _, h⟩ => h) ?_
        have hb0 := (Below.refl V.heap.size V).drew
        have hS := KV.out _ hb0
        repeat (refine nf_pure rfl hS (fun w1 hS => by obtain ⟨g1, g2, g3⟩ := hS; go_wp2; exact ⟨rfl, rfl, rfl⟩) rfl ?_ ?_; rfl)
        refine nf_imp rfl ?_
        go_wp2_with fail
        refine (times_any _ d (pw x) HXD.out hpw).mono ?_
        rintro e w2 ⟨rfl, hb2⟩
        replace hb0 := hb0.trans (hb2.mono hb0.size)
        clear hb2 hS
        go_wp2_with fail
        refine ⟨fun _ => KV.out _ hb0, ?_⟩
        refine nf_imp rfl ?_
        go_wp2_with fail
        have hN := Blk.new w2 9 ([⟨acc.toArray⟩, ⟨(mulL d.data.toList (pw x)).toArray⟩].map Value.string).toArray
        replace hb0 := hb0.alloc hb0.size (.cells #[.string ⟨acc.toArray⟩, .string ⟨(mulL d.data.toList (pw x)).toArray⟩] 9)
        have hML : (mulL d.data.toList (pw x)).length ≤ 4294967295 := by rw [mulL_len]; simpa using HXD.out
        generalize hml : mulL d.data.toList (pw x) = ml at *
        have HMLE := Lib.hid hml
        clear hml
        have hsum : addL [⟨acc.toArray⟩, ⟨ml.toArray⟩] = xorL acc ml := by simp [addL, xorL_nil]
        have HSUM := Lib.hid hsum
        clear hsum
        have hN' : Blk (w2.alloc (.cells #[.string ⟨acc.toArray⟩, .string ⟨ml.toArray⟩] 9)) w2.heap.size 9 ([⟨acc.toArray⟩, ⟨ml.toArray⟩].map Value.string).toArray := hN
        clear hN
        generalize w2.alloc (.cells #[.string ⟨acc.toArray⟩, .string ⟨ml.toArray⟩] 9) = w3 at *
        refine ⟨fun _ => KV.out _ hb0, ?_⟩
        refine nf_imp rfl ?_
        go_wp2_with fail
        refine (added_any _ w3.heap.size _ 2 2 _ (StrsA.blk hN' rfl hN'.lt) (Nat.le_refl _) (by omega) (by simp; exact ⟨by simpa [size_mk] using HMM.out, by simpa [size_mk] using hML⟩)).mono ?_
        rintro e w4 ⟨rfl, hb4⟩
        rw [HSUM.out]
        replace hb0 := hb0.trans (hb4.mono hb0.size)
        clear hb4 hN'
        go_wp2_with fail
        refine ⟨fun _ => KV.out _ hb0, ?_⟩
        have hs4 := h2.below hb0 hV1
        have hd4 := h3.below hb0 hV0
        have qs4 := hs4.cell 0
        have fs4 := hs4.frozen 0
        have qd4 := hd4.cell 0
        have fd4 := hd4.frozen 0
        refine nf_imp rfl ?_
        go_wp2_with fail
        refine ⟨fun h => (by cases h), ?_⟩
        refine nf_nil ?_
        have hz0 : w.heap.size + 1 < R.heap.size := by omega
        have HZR := Lib.hid hsz
        clear hsz
        gi_wp2
        all_goals
          have hne : (w.heap.size + 1 : Nat) ≠ w.heap.size := by omega
          have hfin : ∀ v, KeepsFrom R.heap.size V ((w4.setCell ⟨w.heap.size + 1, 0, none⟩ (.string ⟨(xorL acc ml).toArray⟩)).setCell ⟨w.heap.size, 0, none⟩ v) ∧ Below w.heap.size V ((w4.setCell ⟨w.heap.size + 1, 0, none⟩ (.string ⟨(xorL acc ml).toArray⟩)).setCell ⟨w.heap.size, 0, none⟩ v) ∧
              Blk ((w4.setCell ⟨w.heap.size + 1, 0, none⟩ (.string ⟨(xorL acc ml).toArray⟩)).setCell ⟨w.heap.size, 0, none⟩ v) (w.heap.size + 1) 9 #[.string ⟨(qZ xs (pre ++ [x])).toArray⟩] ∧
              Blk ((w4.setCell ⟨w.heap.size + 1, 0, none⟩ (.string ⟨(xorL acc ml).toArray⟩)).setCell ⟨w.heap.size, 0, none⟩ v) w.heap.size 22 #[v] := fun v => by
            refine ⟨((keeps_below hb0).trans (keeps_setc (p := ⟨w.heap.size + 1, 0, none⟩) (by show w.heap.size + 1 < _; omega) _ _)).trans (keeps_setc (p := ⟨w.heap.size, 0, none⟩) (by show w.heap.size < _; omega) _ _), ?_, ?_, ?_⟩
            · exact (((hb0.mono (by omega))).setCell (by show _ ≤ w.heap.size + 1; omega) _).setCell (by show _ ≤ w.heap.size; omega) _
            · rw [HSN.out]
              exact (hs4.set_ 0 _).far hne _
            · exact (hd4.far (Ne.symm hne) _).set_ 0 v
        · obtain rfl : M = 0 := by omega
          obtain ⟨f1, f2, f3, f4⟩ := hfin (.slice (some ⟨b, off, none⟩) 0 0)
          have hdl : xs.drop (pre ++ [x]).length = [] := List.drop_eq_nil_of_le (by rw [HL.out, List.length_append]; show n ≤ pre.length + 1; omega)
          refine ⟨f1, f2, by rw [List.length_append]; show pre.length + 1 ≤ n; omega, f3, ⟨_, 0, _, f4, by rw [List.length_append]; show 0 = n - (pre.length + 1); omega, Nat.le_refl _, ?_⟩, h7.trans f2⟩
          rw [hdl]
          exact StrsA.zero _ _ _
        · obtain ⟨f1, f2, f3, f4⟩ := hfin (.slice (some ⟨b, off + 1, none⟩) M (c' - 1))
          refine ⟨f1, f2, by rw [List.length_append]; show pre.length + 1 ≤ n; omega, f3, ⟨_, M, _, f4, by rw [List.length_append]; show M = n - (pre.length + 1); omega, by omega, ?_⟩, h7.trans f2⟩
          rw [List.length_append]
          exact hdr.below f2
  case hstop =>
    rintro D cd pre V hD hpre ⟨rfl, hl, h2, h7⟩ hdef
    have q2 := h2.cell 0
    have hq : qZ xs pre = qL xs := by
      rw [hpre, hl, List.range_succ, qZ_full xs _ _ (by rw [List.length_range, HL.out])]
      unfold qL
      rw [HL.out]
    rw [hq] at q2
    clear hpre hq
    go_wp2_with fail
    refine ret_mark rfl hdef (results_tmp rfl _ _ _) ?_
    exact ⟨rfl, h7.trans (belowK_b (w := w) (Nat.le_refl _) V D _ _ (by omega) hdef rfl rfl)⟩
end Go.Proofs.YtaghdkiafgainaaDoor
