/- superblocks as data: what '==' comes to, which ones may be. -/
import Derived.Test.YtfoflbbeckepoaaGeo
namespace Go.Proofs.Ytfoflbbeckepoaa
open Go.RowKit Go.OpenShut

theorem bcell {W w1 : World} (hb : Below W.heap.size W w1) : (∀ b o, b < W.heap.size → w1.cell? ⟨b, o, none⟩ = W.cell? ⟨b, o, none⟩) ∧ (∀ b o, b < W.heap.size → w1.frozen? ⟨b, o, none⟩ = W.frozen? ⟨b, o, none⟩) :=
  ⟨fun b o h => hb.cell (p := ⟨b, o, none⟩) h, fun b o h => hb.frozen (p := ⟨b, o, none⟩) h⟩
structure Sup where
  u : Int
  e : Int
  r : Int
  c : Int
  k : Int
  n : Int
  cl : Bool
  b : Int
  nw : Int
  gr : Int
def Sup.v (s : Sup) : Value := .agg #[.int .u64 s.u, .int .u64 s.e, .int .i64 s.r, .int .i64 s.c, .int .i64 s.k, .int .i64 s.n, .bool s.cl, .int .i64 s.b, .int .i64 s.nw, .int .i64 s.gr]
def Sup.zero : Sup := ⟨0, 0, 0, 0, 0, 0, false, 0, 0, 0⟩
def Sup.same (s t : Sup) : Bool := s.u == t.u && s.e == t.e && s.r == t.r && (s.c == t.c && s.k == t.k && s.n == t.n) && s.cl == t.cl && s.b == t.b && s.nw == t.nw && s.gr == t.gr
theorem Sup.same_iff (s t : Sup) : s.same t = true ↔ s = t := by
  obtain ⟨u, e, r, c, k, n, cl, b, nw, gr⟩ := s
  obtain ⟨u', e', r', c', k', n', cl', b', nw', gr'⟩ := t
  simp [Sup.same, and_assoc]
set_option maxHeartbeats 1000000 in
theorem eq_sup (w : World) (s t : Sup) : (binOp .eql 26 s.v t.v).run Try.prog w = .ok (.bool (s.same t)) w := by
  unfold Sup.v Sup.same
  go_simp
  (repeat' split) <;> simp_all

def wi (n lo hi : Int) : Bool := decide (lo ≤ n ∧ n ≤ hi)
theorem wi_yes {n lo hi : Int} (h1 : lo ≤ n) (h2 : n ≤ hi) : wi n lo hi = true := by unfold wi; exact decide_eq_true ⟨h1, h2⟩
theorem wi_no {n lo hi : Int} (h : n < lo ∨ hi < n) : wi n lo hi = false := by unfold wi; exact decide_eq_false (by omega)
theorem wi_iff {n lo hi : Int} : wi n lo hi = true ↔ lo ≤ n ∧ n ≤ hi := by unfold wi; exact decide_eq_true_iff
theorem ret_b {a b : Bool} (h : a = b) : Ending.returned (.bool a) = .returned (.bool b) := by rw [h]
theorem within_any (w : World) (n lo hi : Int) :
    Calls Try.prog 23 #[.int .i64 n, .int .i64 lo, .int .i64 hi] w fun e w' => e = .returned (.bool (wi n lo hi)) ∧ w = w' := by
  by_cases h1 : n < lo
  · have H := Lib.hid (wi_no (hi := hi) (Or.inl h1))
    go_enter Try.func23, Try.ntmps23
    go_wp2_with fail
    go_ret
    exact ⟨ret_b (by first | (rw [H.out]; done) | (rw [H.out]; simp; omega)), rfl⟩
  · by_cases h2 : hi < n
    · have H := Lib.hid (wi_no (lo := lo) (Or.inr h2))
      go_enter Try.func23, Try.ntmps23
      go_wp2_with fail
      go_ret
      exact ⟨ret_b (by first | (rw [H.out]; done) | (rw [H.out]; simp; omega)), rfl⟩
    · have H := Lib.hid (wi_yes (n := n) (lo := lo) (hi := hi) (by omega) (by omega))
      go_enter Try.func23, Try.ntmps23
      go_wp2_with fail
      go_ret
      exact ⟨ret_b (by first | (rw [H.out]; done) | (rw [H.out]; simp; omega)), rfl⟩

def Sup.may (s : Sup) : Bool :=
  !(s.u == 0) && geoOK s.c s.k s.n && (decide (s.nw = 0) || wi s.nw (s.c + 1) 10) && (decide (s.nw ≠ 0) || decide (s.gr = 0)) && (decide (s.r = 254) || decide (s.r = 255) || wi s.r 0 (max s.c s.nw - 1)) && wi s.b 0 s.n && wi s.gr 0 s.n


set_option maxHeartbeats 2000000 in
theorem may0_any (w : World) (e r c k n b nw gr : Int) (cl : Bool) :
    Calls Try.prog 10 #[Sup.v ⟨0, e, r, c, k, n, cl, b, nw, gr⟩] w fun e w' => e = .returned (.bool false) ∧ Below w.heap.size w w' := by
  have heq := fun w => eq_sup w ⟨0, e, r, c, k, n, cl, b, nw, gr⟩ Sup.zero
  generalize Sup.same ⟨0, e, r, c, k, n, cl, b, nw, gr⟩ Sup.zero = q at heq
  unfold Sup.v Sup.zero at *
  cases q
  all_goals
    go_enter Try.func10, Try.ntmps10
    go_wp2_with fail
    go_ret
    refine ⟨rfl, ?_⟩
    repeat (first | exact Below.refl _ _ | refine Below.alloc ?_ (by simp <;> omega) _)
end Go.Proofs.Ytfoflbbeckepoaa
