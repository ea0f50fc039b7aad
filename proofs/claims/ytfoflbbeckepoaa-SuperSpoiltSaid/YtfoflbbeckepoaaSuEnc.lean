/- super.Encode, for all superblocks. -/
import Derived.Test.YtfoflbbeckepoaaSuW
import Derived.Test.YtfoflbbeckepoaaCOpen
namespace Go.Proofs.Ytfoflbbeckepoaa
open Go.RowKit Go.OpenShut

def ws11 : List Int := [4, 8, 8, 1, 1, 1, 2, 1, 2, 1, 2]
def clN (b : Bool) : Int := if b then 1 else 0
def Sup.nums (s : Sup) : List Int := [827610706, s.u, s.e, s.r, s.c, s.k, s.n, clN s.cl, s.b, s.nw, s.gr]
def Sup.pV (s : Sup) : List Int := [s.r, s.c, s.k, s.n, clN s.cl, s.b, s.nw, s.gr]
structure Sup.wf (s : Sup) : Prop where
  u0 : 0 ≤ s.u
  u1 : s.u < 18446744073709551616
  e0 : 0 ≤ s.e
  e1 : s.e < 18446744073709551616
  nw1 : s.nw ≤ 9223372036854775807
def Sup.bytes (s : Sup) : List UInt8 := sealL (encL s.nums ws11) 60
def Sup.str (s : Sup) : ByteArray := if s.may then ⟨s.bytes.toArray⟩ else ⟨#[]⟩
def Sup.err (s : Sup) : Int := if s.may then 0 else 1

theorem may_any (w : World) (s : Sup) (h : s.wf) :
    Calls Try.prog 10 #[s.v] w fun e' w' => e' = .returned (.bool s.may) ∧ Below w.heap.size w w' := by
  obtain ⟨u, e, r, c, k, n, cl, b, nw, gr⟩ := s
  cases hu : (u == 0)
  · exact may1_any w u e r c k n b nw gr cl hu h.nw1
  · obtain rfl : u = 0 := by simpa using hu
    have : Sup.may ⟨0, e, r, c, k, n, cl, b, nw, gr⟩ = false := by simp [Sup.may]
    rw [this]
    exact may0_any w e r c k n b nw gr cl

structure Sup.small (s : Sup) : Prop where
  r0 : 0 ≤ s.r
  r1 : s.r ≤ 255
  c0 : 0 ≤ s.c
  c1 : s.c ≤ 10
  k0 : 0 ≤ s.k
  k1 : s.k ≤ 4
  n0 : 0 ≤ s.n
  n1 : s.n ≤ 256
  b0 : 0 ≤ s.b
  b1 : s.b ≤ 256
  nw0 : 0 ≤ s.nw
  nw1 : s.nw ≤ 10
  gr0 : 0 ≤ s.gr
  gr1 : s.gr ≤ 256
theorem may_small {s : Sup} (h : s.may = true) : s.small := by
  unfold Sup.may at h
  simp only [Bool.and_eq_true, Bool.or_eq_true, decide_eq_true_eq, wi_iff, geoOK_iff] at h
  obtain ⟨⟨⟨⟨⟨⟨h1, h2⟩, h3⟩, h4⟩, h5⟩, h6⟩, h7⟩ := h
  constructor <;> omega

theorem nums_next (s : Sup) (k : Nat) (hk : k < 8) : s.nums.take (3 + k + 1) = s.nums.take (3 + k) ++ [s.pV.getD k 0] :=
  eight (P := fun k => s.nums.take (3 + k + 1) = s.nums.take (3 + k) ++ [s.pV.getD k 0]) rfl rfl rfl rfl rfl rfl rfl rfl k hk
theorem nums_len (s : Sup) (k : Nat) : (s.nums.take k).length ≤ 11 := by
  have h := List.length_take_le k s.nums
  have h2 : s.nums.length = 11 := rfl
  rw [List.length_take]
  omega
theorem clN_bd (b : Bool) : 0 ≤ clN b ∧ clN b ≤ 1 := by cases b <;> simp [clN]
theorem pV_bd (s : Sup) (h : s.small) (k : Nat) (hk : k < 8) : 0 ≤ s.pV.getD k 0 ∧ s.pV.getD k 0 ≤ 256 := by
  have hc := clN_bd s.cl
  obtain ⟨_, _, _, _, _, _, _, _, _, _, _, _, _, _⟩ := h
  refine eight (P := fun k => 0 ≤ s.pV.getD k 0 ∧ s.pV.getD k 0 ≤ 256) ?_ ?_ ?_ ?_ ?_ ?_ ?_ ?_ k hk <;> (constructor <;> (simp only [Sup.pV, List.getD_cons_zero, List.getD_cons_succ]; omega))
theorem part_val {w : World} {g c : Nat} {s : Sup} {t t' : TypeId} (h : Blk w g t s.v.cells) (hc : Blk w c t' #[.int .i64 (clN s.cl)]) (k : Nat) (hk : k < 8) :
    ∃ b o, (pA g (some ⟨c, 0, none⟩)).getD k none = some ⟨b, o, none⟩ ∧ w.cell? ⟨b, o, none⟩ = some (.int .i64 (s.pV.getD k 0)) := by
  have q : ∀ i, w.cell? ⟨g, i, none⟩ = s.v.cells[i]? := h.cell
  exact eight (P := fun k => ∃ b o, (pA g (some ⟨c, 0, none⟩)).getD k none = some ⟨b, o, none⟩ ∧ w.cell? ⟨b, o, none⟩ = some (.int .i64 (s.pV.getD k 0)))
    ⟨g, 2, rfl, q 2⟩ ⟨g, 3, rfl, q 3⟩ ⟨g, 4, rfl, q 4⟩ ⟨g, 5, rfl, q 5⟩ ⟨c, 0, rfl, hc.cell 0⟩ ⟨g, 7, rfl, q 7⟩ ⟨g, 8, rfl, q 8⟩ ⟨g, 9, rfl, q 9⟩ k hk

theorem nums_u64 (s : Sup) (hw : s.wf) (hs : s.small) : ∀ x ∈ s.nums, 0 ≤ x ∧ x < 18446744073709551616 := by
  have hc := clN_bd s.cl
  obtain ⟨_, _, _, _, _⟩ := hw
  obtain ⟨_, _, _, _, _, _, _, _, _, _, _, _, _, _⟩ := hs
  intro x hx
  simp only [Sup.nums, List.mem_cons, List.not_mem_nil, or_false] at hx
  rcases hx with rfl | rfl | rfl | rfl | rfl | rfl | rfl | rfl | rfl | rfl | rfl <;> omega
theorem ws11_ok : wOK ws11 = true := by decide
theorem ws11_sum : sumW ws11 = 31 := by decide
theorem nums_fit (s : Sup) (hw : s.wf) (hs : s.small) : allFit s.nums ws11 = true := by
  have hc := clN_bd s.cl
  obtain ⟨_, _, _, _, _⟩ := hw
  obtain ⟨_, _, _, _, _, _, _, _, _, _, _, _, _, _⟩ := hs
  unfold allFit
  rw [List.all_eq_true]
  intro i hi
  rw [List.mem_range] at hi
  have hi' : i < 11 := hi
  rcases i with _ | _ | _ | _ | _ | _ | _ | _ | _ | _ | _ | i
  all_goals first
    | omega
    | (simp only [Sup.nums, ws11, List.getD_cons_zero, List.getD_cons_succ, fitsB, Bool.and_eq_true, decide_eq_true_eq]
       refine ⟨by omega, ?_⟩
       simp
       try omega)
theorem enc_sup (s : Sup) (hw : s.wf) (hs : s.small) : encE s.nums ws11 = 0 ∧ encS s.nums ws11 = ⟨(encL s.nums ws11).toArray⟩ := enc_ok ws11_ok rfl (nums_fit s hw hs)
theorem nums_encLen (s : Sup) (hw : s.wf) (hs : s.small) : (encL s.nums ws11).length = 31 := by
  have h1 := encS_size (ls := s.nums) (ws := ws11) ws11_ok rfl (nums_fit s hw hs)
  rw [(enc_sup s hw hs).2, ws11_sum] at h1
  have h2 : (ByteArray.mk (encL s.nums ws11).toArray).size = (encL s.nums ws11).length := by show Array.size _ = _; simp
  omega
theorem sup_seal (s : Sup) (hw : s.wf) (hs : s.small) : sealB ⟨(encL s.nums ws11).toArray⟩ 64 = true ∧ sealS ⟨(encL s.nums ws11).toArray⟩ 64 = ⟨s.bytes.toArray⟩ := by
  have h2 : (ByteArray.mk (encL s.nums ws11).toArray).size = 31 := by show Array.size _ = _; simp [nums_encLen s hw hs]
  have h3 : sealB ⟨(encL s.nums ws11).toArray⟩ 64 = true := sealB_yes (by omega)
  refine ⟨h3, ?_⟩
  unfold sealS
  rw [h3]
  rfl
theorem sup_bytes_len (s : Sup) (hw : s.wf) (hs : s.small) : s.bytes.length = 64 := sealL_length _ _ (by rw [nums_encLen s hw hs]; omega)
end Go.Proofs.Ytfoflbbeckepoaa
