/-
  No cell of these rows narrows 'for every input' (looked for: loops, veiled, ifaces, maps, wideKeys, modest, calm, conditions, laid).
  DERIVED. THE GIVEN ROWS OF THIS SEAT. 6 by the template 'for every input the law returns true; each argument reads behind the call as it read before'; 0 by the template 'total and deterministic' (their statements: YtfoflbbeckepoaaTotals.lean).
  GIVEN WITH THE SEED: the statements are not yours to turn. If you find one false, say at which input.
  Laid BY PROGRAM, IN A SANDBOX (cutbox-rows.mjs): the forced cells as the released guide's own fill.sh prints them over the translation 81d94fa55d329e52… (all of the seat's roots in one cut). By AI agents, Wed Nov 11 2026. No macro, syntax, notation, axiom, sorry.
-/
import Derived.Test.YtfoflbbeckepoaaChecked
import GoSem.Claim
import GoSem.ClaimJoined
import GoSem.ClaimMapViews
import Derived.JoinedTies
import Derived.KernelRfl
namespace Go.Proofs.Ytfoflbbeckepoaa
/- THE CELL 'sum', in the pinned program and in every row, IS THE sha256 OF THE DUMP (.gsa) THAT YtfoflbbeckepoaaProg.lean LOADS. Nothing in Lean hashes anything: it is a label: what it is worth is what the hold of that sum in a sandbox is worth. -/
noncomputable def Try.pinned : Pinned := { name := "ytfoflbbeckepoaa", sum := "81d94fa55d329e523648ac25e9188327326f4428707fc1adb1557291cd10c9bb", checked := Try.checked }
namespace Rows
def none {H : Type} : Left H := { results := [], args := [] }

/-- 'revetmentlaw08.SuperNew': WHATEVER THE INPUT: true; the input reads as it did. -/
def superNewSpec : ChangeSpec := { name := "superNew", fn := fun _ => fun
  | [d1, d2, d3, d4, d5] => { results := [.lit (.bool true)], args := [d1, d2, d3, d4, d5] }
  | _ => none }
def superNewRow : OpenClaim := { program := "ytfoflbbeckepoaa", sum := "81d94fa55d329e523648ac25e9188327326f4428707fc1adb1557291cd10c9bb", func := "revetment/revetmentlaw08.SuperNew", spec := "superNew", unfollowed := true, recurses := true, apart := false }
def SuperNewSaid : Prop := superNewRow.holds Try.pinned (OpenSpec.ofChange superNewSpec)

/-- ITS FALSE NEIGHBOUR: 'it returns false'. Refute it at one input. -/
def superNewWrong : ChangeSpec := { name := "superNew", fn := fun _ => fun
  | [d1, d2, d3, d4, d5] => { results := [.lit (.bool false)], args := [d1, d2, d3, d4, d5] }
  | _ => none }
def SuperNewWrongFalsely : Prop := superNewRow.holds Try.pinned (OpenSpec.ofChange superNewWrong)

/-- 'revetmentlaw08.SuperRoles': WHATEVER THE INPUT: true; the input reads as it did. -/
def superRolesSpec : ChangeSpec := { name := "superRoles", fn := fun _ => fun
  | [d1, d2, d3] => { results := [.lit (.bool true)], args := [d1, d2, d3] }
  | _ => none }
def superRolesRow : OpenClaim := { program := "ytfoflbbeckepoaa", sum := "81d94fa55d329e523648ac25e9188327326f4428707fc1adb1557291cd10c9bb", func := "revetment/revetmentlaw08.SuperRoles", spec := "superRoles", unfollowed := true, recurses := true, apart := false }
def SuperRolesSaid : Prop := superRolesRow.holds Try.pinned (OpenSpec.ofChange superRolesSpec)

/-- ITS FALSE NEIGHBOUR: 'it returns false'. Refute it at one input. -/
def superRolesWrong : ChangeSpec := { name := "superRoles", fn := fun _ => fun
  | [d1, d2, d3] => { results := [.lit (.bool false)], args := [d1, d2, d3] }
  | _ => none }
def SuperRolesWrongFalsely : Prop := superRolesRow.holds Try.pinned (OpenSpec.ofChange superRolesWrong)

/-- 'revetmentlaw08.SuperWhole': WHATEVER THE INPUT: true; the input reads as it did. -/
def superWholeSpec : ChangeSpec := { name := "superWhole", fn := fun _ => fun
  | [d1, d2, d3] => { results := [.lit (.bool true)], args := [d1, d2, d3] }
  | _ => none }
def superWholeRow : OpenClaim := { program := "ytfoflbbeckepoaa", sum := "81d94fa55d329e523648ac25e9188327326f4428707fc1adb1557291cd10c9bb", func := "revetment/revetmentlaw08.SuperWhole", spec := "superWhole", unfollowed := true, recurses := true, apart := false }
def SuperWholeSaid : Prop := superWholeRow.holds Try.pinned (OpenSpec.ofChange superWholeSpec)

/-- ITS FALSE NEIGHBOUR: 'it returns false'. Refute it at one input. -/
def superWholeWrong : ChangeSpec := { name := "superWhole", fn := fun _ => fun
  | [d1, d2, d3] => { results := [.lit (.bool false)], args := [d1, d2, d3] }
  | _ => none }
def SuperWholeWrongFalsely : Prop := superWholeRow.holds Try.pinned (OpenSpec.ofChange superWholeWrong)

/-- 'revetmentlaw08.SuperBack': WHATEVER THE INPUT: true; the input reads as it did. -/
def superBackSpec : ChangeSpec := { name := "superBack", fn := fun _ => fun
  | [d1, d2, d3, d4, d5, d6] => { results := [.lit (.bool true)], args := [d1, d2, d3, d4, d5, d6] }
  | _ => none }
def superBackRow : OpenClaim := { program := "ytfoflbbeckepoaa", sum := "81d94fa55d329e523648ac25e9188327326f4428707fc1adb1557291cd10c9bb", func := "revetment/revetmentlaw08.SuperBack", spec := "superBack", unfollowed := true, recurses := true, apart := false }
def SuperBackSaid : Prop := superBackRow.holds Try.pinned (OpenSpec.ofChange superBackSpec)

/-- ITS FALSE NEIGHBOUR: 'it returns false'. Refute it at one input. -/
def superBackWrong : ChangeSpec := { name := "superBack", fn := fun _ => fun
  | [d1, d2, d3, d4, d5, d6] => { results := [.lit (.bool false)], args := [d1, d2, d3, d4, d5, d6] }
  | _ => none }
def SuperBackWrongFalsely : Prop := superBackRow.holds Try.pinned (OpenSpec.ofChange superBackWrong)

/-- 'revetmentlaw08.SuperSpoilt': WHATEVER THE INPUT: true; the input reads as it did. -/
def superSpoiltSpec : ChangeSpec := { name := "superSpoilt", fn := fun _ => fun
  | [d1, d2, d3, d4, d5] => { results := [.lit (.bool true)], args := [d1, d2, d3, d4, d5] }
  | _ => none }
def superSpoiltRow : OpenClaim := { program := "ytfoflbbeckepoaa", sum := "81d94fa55d329e523648ac25e9188327326f4428707fc1adb1557291cd10c9bb", func := "revetment/revetmentlaw08.SuperSpoilt", spec := "superSpoilt", unfollowed := true, recurses := true, apart := false }
def SuperSpoiltSaid : Prop := superSpoiltRow.holds Try.pinned (OpenSpec.ofChange superSpoiltSpec)

/-- ITS FALSE NEIGHBOUR: 'it returns false'. Refute it at one input. -/
def superSpoiltWrong : ChangeSpec := { name := "superSpoilt", fn := fun _ => fun
  | [d1, d2, d3, d4, d5] => { results := [.lit (.bool false)], args := [d1, d2, d3, d4, d5] }
  | _ => none }
def SuperSpoiltWrongFalsely : Prop := superSpoiltRow.holds Try.pinned (OpenSpec.ofChange superSpoiltWrong)

/-- 'revetmentlaw08.SuperTells': WHATEVER THE INPUT: true; the input reads as it did. -/
def superTellsSpec : ChangeSpec := { name := "superTells", fn := fun _ => fun
  | [d1, d2] => { results := [.lit (.bool true)], args := [d1, d2] }
  | _ => none }
def superTellsRow : OpenClaim := { program := "ytfoflbbeckepoaa", sum := "81d94fa55d329e523648ac25e9188327326f4428707fc1adb1557291cd10c9bb", func := "revetment/revetmentlaw08.SuperTells", spec := "superTells", unfollowed := true, recurses := true, apart := false }
def SuperTellsSaid : Prop := superTellsRow.holds Try.pinned (OpenSpec.ofChange superTellsSpec)

/-- ITS FALSE NEIGHBOUR: 'it returns false'. Refute it at one input. -/
def superTellsWrong : ChangeSpec := { name := "superTells", fn := fun _ => fun
  | [d1, d2] => { results := [.lit (.bool false)], args := [d1, d2] }
  | _ => none }
def SuperTellsWrongFalsely : Prop := superTellsRow.holds Try.pinned (OpenSpec.ofChange superTellsWrong)

/- THE SECOND FORM. 'bulk': how many values and letters a reading holds, each counted each time it is reached (what is shared counts as often as it is met; a slice's spare places count too). A statement '..UptoSaid' is the law's where the arguments, and the package variables that the reading takes, are together of bulk at most 1048576: NARROWER than '..Said'. Prove '..Said' where nothing that the law and all that it calls make is longer than what came in: it says more and counts as full. Else prove '..UptoSaid'. A law counts once. -/
mutual
def uptoBulk {H : Type} : DataW H → Nat
  | .lit (.string bytes) => bytes.length + 1
  | .lit _ => 1
  | .nil => 1
  | .ptr d => uptoBulk d + 1
  | .slice elems spare => uptoBulkAll elems + uptoBulkAll spare + 1
  | .agg parts => uptoBulkAll parts + 1
  | .iface _ d => uptoBulk d + 1
  | .map entries => uptoBulkEntries entries + 1
  | .held _ => 1
def uptoBulkAll {H : Type} : List (DataW H) → Nat
  | [] => 0
  | d :: r => uptoBulk d + uptoBulkAll r
def uptoBulkEntries {H : Type} : List (Lit × DataW H) → Nat
  | [] => 0
  | x :: r => uptoBulkEntry x + uptoBulkEntries r
def uptoBulkEntry {H : Type} : Lit × DataW H → Nat
  | (.string bytes, d) => bytes.length + uptoBulk d + 1
  | (_, d) => uptoBulk d + 1
 end
def uptoSmall : (H : Type) → List (DataW H) → Bool := fun _ ds => decide (uptoBulkAll ds ≤ 1048576)
def OpenSpec.upto (s : _root_.Go.ChangeSpec) : _root_.Go.OpenSpec := { _root_.Go.OpenSpec.ofChange s with cond := some uptoSmall }

/-- 'revetmentlaw08.SuperNew', WHERE WHAT IT READS IS OF BULK AT MOST 1048576: true; the input reads as it did. -/
def superNewUptoRow : OpenClaim := { program := "ytfoflbbeckepoaa", sum := "81d94fa55d329e523648ac25e9188327326f4428707fc1adb1557291cd10c9bb", func := "revetment/revetmentlaw08.SuperNew", spec := "superNew", unfollowed := true, recurses := true, apart := false, narrowed := true }
def SuperNewUptoSaid : Prop := superNewUptoRow.holds Try.pinned (OpenSpec.upto superNewSpec)

/-- 'revetmentlaw08.SuperRoles', WHERE WHAT IT READS IS OF BULK AT MOST 1048576: true; the input reads as it did. -/
def superRolesUptoRow : OpenClaim := { program := "ytfoflbbeckepoaa", sum := "81d94fa55d329e523648ac25e9188327326f4428707fc1adb1557291cd10c9bb", func := "revetment/revetmentlaw08.SuperRoles", spec := "superRoles", unfollowed := true, recurses := true, apart := false, narrowed := true }
def SuperRolesUptoSaid : Prop := superRolesUptoRow.holds Try.pinned (OpenSpec.upto superRolesSpec)

/-- 'revetmentlaw08.SuperWhole', WHERE WHAT IT READS IS OF BULK AT MOST 1048576: true; the input reads as it did. -/
def superWholeUptoRow : OpenClaim := { program := "ytfoflbbeckepoaa", sum := "81d94fa55d329e523648ac25e9188327326f4428707fc1adb1557291cd10c9bb", func := "revetment/revetmentlaw08.SuperWhole", spec := "superWhole", unfollowed := true, recurses := true, apart := false, narrowed := true }
def SuperWholeUptoSaid : Prop := superWholeUptoRow.holds Try.pinned (OpenSpec.upto superWholeSpec)

/-- 'revetmentlaw08.SuperBack', WHERE WHAT IT READS IS OF BULK AT MOST 1048576: true; the input reads as it did. -/
def superBackUptoRow : OpenClaim := { program := "ytfoflbbeckepoaa", sum := "81d94fa55d329e523648ac25e9188327326f4428707fc1adb1557291cd10c9bb", func := "revetment/revetmentlaw08.SuperBack", spec := "superBack", unfollowed := true, recurses := true, apart := false, narrowed := true }
def SuperBackUptoSaid : Prop := superBackUptoRow.holds Try.pinned (OpenSpec.upto superBackSpec)

/-- 'revetmentlaw08.SuperSpoilt', WHERE WHAT IT READS IS OF BULK AT MOST 1048576: true; the input reads as it did. -/
def superSpoiltUptoRow : OpenClaim := { program := "ytfoflbbeckepoaa", sum := "81d94fa55d329e523648ac25e9188327326f4428707fc1adb1557291cd10c9bb", func := "revetment/revetmentlaw08.SuperSpoilt", spec := "superSpoilt", unfollowed := true, recurses := true, apart := false, narrowed := true }
def SuperSpoiltUptoSaid : Prop := superSpoiltUptoRow.holds Try.pinned (OpenSpec.upto superSpoiltSpec)

/-- 'revetmentlaw08.SuperTells', WHERE WHAT IT READS IS OF BULK AT MOST 1048576: true; the input reads as it did. -/
def superTellsUptoRow : OpenClaim := { program := "ytfoflbbeckepoaa", sum := "81d94fa55d329e523648ac25e9188327326f4428707fc1adb1557291cd10c9bb", func := "revetment/revetmentlaw08.SuperTells", spec := "superTells", unfollowed := true, recurses := true, apart := false, narrowed := true }
def SuperTellsUptoSaid : Prop := superTellsUptoRow.holds Try.pinned (OpenSpec.upto superTellsSpec)

end Rows
end Go.Proofs.Ytfoflbbeckepoaa
