/-
  No cell of these rows narrows 'for every input' (looked for: loops, veiled, ifaces, maps, wideKeys, modest, calm, conditions, laid).
  DERIVED. THE GIVEN ROWS OF THIS SEAT. 4 by the template 'for every input the law returns true; each argument reads behind the call as it read before'; 0 by the template 'total and deterministic' (their statements: YtaghdkiafgainaaTotals.lean).
  GIVEN WITH THE SEED: the statements are not yours to turn. If you find one false, say at which input.
  Laid BY PROGRAM, IN A SANDBOX (cutbox-rows.mjs): the forced cells as the released guide's own fill.sh prints them over the translation 3d0a567d8f981b19… (all of the seat's roots in one cut). By AI agents, Wed Nov 11 2026. No macro, syntax, notation, axiom, sorry.
-/
import Derived.Test.YtaghdkiafgainaaChecked
import GoSem.Claim
import GoSem.ClaimJoined
import GoSem.ClaimMapViews
import Derived.JoinedTies
import Derived.KernelRfl
namespace Go.Proofs.Ytaghdkiafgainaa
/- THE CELL 'sum', in the pinned program and in every row, IS THE sha256 OF THE DUMP (.gsa) THAT YtaghdkiafgainaaProg.lean LOADS. Nothing in Lean hashes anything: it is a label: what it is worth is what the hold of that sum in a sandbox is worth. -/
noncomputable def Try.pinned : Pinned := { name := "ytaghdkiafgainaa", sum := "3d0a567d8f981b198f2087064208a37491434e2cdeb29430b9759e61bb3b0cab", checked := Try.checked }
namespace Rows
def none {H : Type} : Left H := { results := [], args := [] }

/-- 'revetmentlaw05.SyndromeSums': WHATEVER THE INPUT: true; the input reads as it did. -/
def syndromeSumsSpec : ChangeSpec := { name := "syndromeSums", fn := fun _ => fun
  | [d1, d2] => { results := [.lit (.bool true)], args := [d1, d2] }
  | _ => none }
def syndromeSumsRow : OpenClaim := { program := "ytaghdkiafgainaa", sum := "3d0a567d8f981b198f2087064208a37491434e2cdeb29430b9759e61bb3b0cab", func := "revetment/revetmentlaw05.SyndromeSums", spec := "syndromeSums", inPlace := ["sync/atomic.AddInt32", "sync/atomic.LoadUint32", "(*internal/sync.Mutex).Lock", "internal/race.Disable", "sync/atomic.CompareAndSwapInt32", "internal/race.Enable", "internal/race.Acquire", "(*internal/sync.Mutex).lockSlow", "internal/sync.runtime_canSpin", "internal/sync.runtime_doSpin", "internal/sync.throw", "internal/sync.runtime_nanotime", "internal/sync.runtime_SemacquireMutex", "(*internal/sync.Mutex).Unlock", "internal/race.ReleaseMerge", "(*internal/sync.Mutex).unlockSlow", "internal/sync.fatal", "internal/sync.runtime_Semrelease", "sync/atomic.StoreUint32"], unfollowed := true, recurses := true, apart := false }
def SyndromeSumsSaid : Prop := syndromeSumsRow.holds Try.pinned (OpenSpec.ofChange syndromeSumsSpec)

/-- ITS FALSE NEIGHBOUR: 'it returns false'. Refute it at one input. -/
def syndromeSumsWrong : ChangeSpec := { name := "syndromeSums", fn := fun _ => fun
  | [d1, d2] => { results := [.lit (.bool false)], args := [d1, d2] }
  | _ => none }
def SyndromeSumsWrongFalsely : Prop := syndromeSumsRow.holds Try.pinned (OpenSpec.ofChange syndromeSumsWrong)

/-- 'revetmentlaw05.SyndromeOrder': WHATEVER THE INPUT: true; the input reads as it did. -/
def syndromeOrderSpec : ChangeSpec := { name := "syndromeOrder", fn := fun _ => fun
  | [d] => { results := [.lit (.bool true)], args := [d] }
  | _ => none }
def syndromeOrderRow : OpenClaim := { program := "ytaghdkiafgainaa", sum := "3d0a567d8f981b198f2087064208a37491434e2cdeb29430b9759e61bb3b0cab", func := "revetment/revetmentlaw05.SyndromeOrder", spec := "syndromeOrder", inPlace := ["sync/atomic.AddInt32", "sync/atomic.LoadUint32", "(*internal/sync.Mutex).Lock", "internal/race.Disable", "sync/atomic.CompareAndSwapInt32", "internal/race.Enable", "internal/race.Acquire", "(*internal/sync.Mutex).lockSlow", "internal/sync.runtime_canSpin", "internal/sync.runtime_doSpin", "internal/sync.throw", "internal/sync.runtime_nanotime", "internal/sync.runtime_SemacquireMutex", "(*internal/sync.Mutex).Unlock", "internal/race.ReleaseMerge", "(*internal/sync.Mutex).unlockSlow", "internal/sync.fatal", "internal/sync.runtime_Semrelease", "sync/atomic.StoreUint32"], unfollowed := true, recurses := true, apart := false }
def SyndromeOrderSaid : Prop := syndromeOrderRow.holds Try.pinned (OpenSpec.ofChange syndromeOrderSpec)

/-- ITS FALSE NEIGHBOUR: 'it returns false'. Refute it at one input. -/
def syndromeOrderWrong : ChangeSpec := { name := "syndromeOrder", fn := fun _ => fun
  | [d] => { results := [.lit (.bool false)], args := [d] }
  | _ => none }
def SyndromeOrderWrongFalsely : Prop := syndromeOrderRow.holds Try.pinned (OpenSpec.ofChange syndromeOrderWrong)

/-- 'revetmentlaw05.SyndromeTwo': WHATEVER THE INPUT: true; the input reads as it did. -/
def syndromeTwoSpec : ChangeSpec := { name := "syndromeTwo", fn := fun _ => fun
  | [d1, d2, d3, d4, d5, d6] => { results := [.lit (.bool true)], args := [d1, d2, d3, d4, d5, d6] }
  | _ => none }
def syndromeTwoRow : OpenClaim := { program := "ytaghdkiafgainaa", sum := "3d0a567d8f981b198f2087064208a37491434e2cdeb29430b9759e61bb3b0cab", func := "revetment/revetmentlaw05.SyndromeTwo", spec := "syndromeTwo", inPlace := ["sync/atomic.AddInt32", "sync/atomic.LoadUint32", "(*internal/sync.Mutex).Lock", "internal/race.Disable", "sync/atomic.CompareAndSwapInt32", "internal/race.Enable", "internal/race.Acquire", "(*internal/sync.Mutex).lockSlow", "internal/sync.runtime_canSpin", "internal/sync.runtime_doSpin", "internal/sync.throw", "internal/sync.runtime_nanotime", "internal/sync.runtime_SemacquireMutex", "(*internal/sync.Mutex).Unlock", "internal/race.ReleaseMerge", "(*internal/sync.Mutex).unlockSlow", "internal/sync.fatal", "internal/sync.runtime_Semrelease", "sync/atomic.StoreUint32"], unfollowed := true, recurses := true, apart := false }
def SyndromeTwoSaid : Prop := syndromeTwoRow.holds Try.pinned (OpenSpec.ofChange syndromeTwoSpec)

/-- ITS FALSE NEIGHBOUR: 'it returns false'. Refute it at one input. -/
def syndromeTwoWrong : ChangeSpec := { name := "syndromeTwo", fn := fun _ => fun
  | [d1, d2, d3, d4, d5, d6] => { results := [.lit (.bool false)], args := [d1, d2, d3, d4, d5, d6] }
  | _ => none }
def SyndromeTwoWrongFalsely : Prop := syndromeTwoRow.holds Try.pinned (OpenSpec.ofChange syndromeTwoWrong)

/-- 'revetmentlaw05.SyndromeDeltas': WHATEVER THE INPUT: true; the input reads as it did. -/
def syndromeDeltasSpec : ChangeSpec := { name := "syndromeDeltas", fn := fun _ => fun
  | [d1, d2] => { results := [.lit (.bool true)], args := [d1, d2] }
  | _ => none }
def syndromeDeltasRow : OpenClaim := { program := "ytaghdkiafgainaa", sum := "3d0a567d8f981b198f2087064208a37491434e2cdeb29430b9759e61bb3b0cab", func := "revetment/revetmentlaw05.SyndromeDeltas", spec := "syndromeDeltas", inPlace := ["sync/atomic.AddInt32", "sync/atomic.LoadUint32", "(*internal/sync.Mutex).Lock", "internal/race.Disable", "sync/atomic.CompareAndSwapInt32", "internal/race.Enable", "internal/race.Acquire", "(*internal/sync.Mutex).lockSlow", "internal/sync.runtime_canSpin", "internal/sync.runtime_doSpin", "internal/sync.throw", "internal/sync.runtime_nanotime", "internal/sync.runtime_SemacquireMutex", "(*internal/sync.Mutex).Unlock", "internal/race.ReleaseMerge", "(*internal/sync.Mutex).unlockSlow", "internal/sync.fatal", "internal/sync.runtime_Semrelease", "sync/atomic.StoreUint32"], unfollowed := true, recurses := true, apart := false }
def SyndromeDeltasSaid : Prop := syndromeDeltasRow.holds Try.pinned (OpenSpec.ofChange syndromeDeltasSpec)

/-- ITS FALSE NEIGHBOUR: 'it returns false'. Refute it at one input. -/
def syndromeDeltasWrong : ChangeSpec := { name := "syndromeDeltas", fn := fun _ => fun
  | [d1, d2] => { results := [.lit (.bool false)], args := [d1, d2] }
  | _ => none }
def SyndromeDeltasWrongFalsely : Prop := syndromeDeltasRow.holds Try.pinned (OpenSpec.ofChange syndromeDeltasWrong)

/- THE SECOND FORM. 'bulk': how many values and letters a reading holds, each counted each time it is reached (what is shared counts as often as it is met; a slice's spare places count too). A statement '..UptoSaid' is the law's where the arguments, and the package variables that the reading takes, are together of bulk at most 1048576: NARROWER than '..Said'. Prove '..Said' where nothing that the law and all that it calls make is longer than what came in: it says more and counts as full. Else prove '..UptoSaid'. A law counts once. -/
mutual
def uptoBulk {H : Type} : DataW H → Nat
  | .lit (.string bytes) => bytes.length + 1
  | .lit _ => 1
  | .nil => 1
  | .ptr d => uptoBulk d + 1
  | .slice elems spare => uptoBulkAll elems + uptoBulkAll spare + 1
  | .agg parts => uptoBulkAll parts + 1
  | .iface _ d => uptoBulk d + 1
  | .map entries => uptoBulkEntries entries + 1
  | .held _ => 1
def uptoBulkAll {H : Type} : List (DataW H) → Nat
  | [] => 0
  | d :: r => uptoBulk d + uptoBulkAll r
def uptoBulkEntries {H : Type} : List (Lit × DataW H) → Nat
  | [] => 0
  | x :: r => uptoBulkEntry x + uptoBulkEntries r
def uptoBulkEntry {H : Type} : Lit × DataW H → Nat
  | (.string bytes, d) => bytes.length + uptoBulk d + 1
  | (_, d) => uptoBulk d + 1
 end
def uptoSmall : (H : Type) → List (DataW H) → Bool := fun _ ds => decide (uptoBulkAll ds ≤ 1048576)
def OpenSpec.upto (s : _root_.Go.ChangeSpec) : _root_.Go.OpenSpec := { _root_.Go.OpenSpec.ofChange s with cond := some uptoSmall }

/-- 'revetmentlaw05.SyndromeSums', WHERE WHAT IT READS IS OF BULK AT MOST 1048576: true; the input reads as it did. -/
def syndromeSumsUptoRow : OpenClaim := { program := "ytaghdkiafgainaa", sum := "3d0a567d8f981b198f2087064208a37491434e2cdeb29430b9759e61bb3b0cab", func := "revetment/revetmentlaw05.SyndromeSums", spec := "syndromeSums", inPlace := ["sync/atomic.AddInt32", "sync/atomic.LoadUint32", "(*internal/sync.Mutex).Lock", "internal/race.Disable", "sync/atomic.CompareAndSwapInt32", "internal/race.Enable", "internal/race.Acquire", "(*internal/sync.Mutex).lockSlow", "internal/sync.runtime_canSpin", "internal/sync.runtime_doSpin", "internal/sync.throw", "internal/sync.runtime_nanotime", "internal/sync.runtime_SemacquireMutex", "(*internal/sync.Mutex).Unlock", "internal/race.ReleaseMerge", "(*internal/sync.Mutex).unlockSlow", "internal/sync.fatal", "internal/sync.runtime_Semrelease", "sync/atomic.StoreUint32"], unfollowed := true, recurses := true, apart := false, narrowed := true }
def SyndromeSumsUptoSaid : Prop := syndromeSumsUptoRow.holds Try.pinned (OpenSpec.upto syndromeSumsSpec)

/-- 'revetmentlaw05.SyndromeOrder', WHERE WHAT IT READS IS OF BULK AT MOST 1048576: true; the input reads as it did. -/
def syndromeOrderUptoRow : OpenClaim := { program := "ytaghdkiafgainaa", sum := "3d0a567d8f981b198f2087064208a37491434e2cdeb29430b9759e61bb3b0cab", func := "revetment/revetmentlaw05.SyndromeOrder", spec := "syndromeOrder", inPlace := ["sync/atomic.AddInt32", "sync/atomic.LoadUint32", "(*internal/sync.Mutex).Lock", "internal/race.Disable", "sync/atomic.CompareAndSwapInt32", "internal/race.Enable", "internal/race.Acquire", "(*internal/sync.Mutex).lockSlow", "internal/sync.runtime_canSpin", "internal/sync.runtime_doSpin", "internal/sync.throw", "internal/sync.runtime_nanotime", "internal/sync.runtime_SemacquireMutex", "(*internal/sync.Mutex).Unlock", "internal/race.ReleaseMerge", "(*internal/sync.Mutex).unlockSlow", "internal/sync.fatal", "internal/sync.runtime_Semrelease", "sync/atomic.StoreUint32"], unfollowed := true, recurses := true, apart := false, narrowed := true }
def SyndromeOrderUptoSaid : Prop := syndromeOrderUptoRow.holds Try.pinned (OpenSpec.upto syndromeOrderSpec)

/-- 'revetmentlaw05.SyndromeTwo', WHERE WHAT IT READS IS OF BULK AT MOST 1048576: true; the input reads as it did. -/
def syndromeTwoUptoRow : OpenClaim := { program := "ytaghdkiafgainaa", sum := "3d0a567d8f981b198f2087064208a37491434e2cdeb29430b9759e61bb3b0cab", func := "revetment/revetmentlaw05.SyndromeTwo", spec := "syndromeTwo", inPlace := ["sync/atomic.AddInt32", "sync/atomic.LoadUint32", "(*internal/sync.Mutex).Lock", "internal/race.Disable", "sync/atomic.CompareAndSwapInt32", "internal/race.Enable", "internal/race.Acquire", "(*internal/sync.Mutex).lockSlow", "internal/sync.runtime_canSpin", "internal/sync.runtime_doSpin", "internal/sync.throw", "internal/sync.runtime_nanotime", "internal/sync.runtime_SemacquireMutex", "(*internal/sync.Mutex).Unlock", "internal/race.ReleaseMerge", "(*internal/sync.Mutex).unlockSlow", "internal/sync.fatal", "internal/sync.runtime_Semrelease", "sync/atomic.StoreUint32"], unfollowed := true, recurses := true, apart := false, narrowed := true }
def SyndromeTwoUptoSaid : Prop := syndromeTwoUptoRow.holds Try.pinned (OpenSpec.upto syndromeTwoSpec)

/-- 'revetmentlaw05.SyndromeDeltas', WHERE WHAT IT READS IS OF BULK AT MOST 1048576: true; the input reads as it did. -/
def syndromeDeltasUptoRow : OpenClaim := { program := "ytaghdkiafgainaa", sum := "3d0a567d8f981b198f2087064208a37491434e2cdeb29430b9759e61bb3b0cab", func := "revetment/revetmentlaw05.SyndromeDeltas", spec := "syndromeDeltas", inPlace := ["sync/atomic.AddInt32", "sync/atomic.LoadUint32", "(*internal/sync.Mutex).Lock", "internal/race.Disable", "sync/atomic.CompareAndSwapInt32", "internal/race.Enable", "internal/race.Acquire", "(*internal/sync.Mutex).lockSlow", "internal/sync.runtime_canSpin", "internal/sync.runtime_doSpin", "internal/sync.throw", "internal/sync.runtime_nanotime", "internal/sync.runtime_SemacquireMutex", "(*internal/sync.Mutex).Unlock", "internal/race.ReleaseMerge", "(*internal/sync.Mutex).unlockSlow", "internal/sync.fatal", "internal/sync.runtime_Semrelease", "sync/atomic.StoreUint32"], unfollowed := true, recurses := true, apart := false, narrowed := true }
def SyndromeDeltasUptoSaid : Prop := syndromeDeltasUptoRow.holds Try.pinned (OpenSpec.upto syndromeDeltasSpec)

end Rows
end Go.Proofs.Ytaghdkiafgainaa
