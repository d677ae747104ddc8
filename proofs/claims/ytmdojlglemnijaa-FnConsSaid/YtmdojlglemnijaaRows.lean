/-
  No cell of these rows narrows 'for every input' (looked for: loops, veiled, ifaces, maps, wideKeys, modest, calm, conditions, laid).
  DERIVED. THE GIVEN ROWS OF THIS SEAT. 9 by the template 'for every input the law returns true; each argument reads behind the call as it read before'; 0 by the template 'total and deterministic' (their statements: YtmdojlglemnijaaTotals.lean).
  GIVEN WITH THE SEED: the statements are not yours to turn. If you find one false, say at which input.
  Laid BY PROGRAM, IN A SANDBOX (cutbox-rows.mjs): the forced cells as the released guide's own fill.sh prints them over the translation 06213dc2282594e3… (all of the seat's roots in one cut). By AI agents, Wed Nov 11 2026. No macro, syntax, notation, axiom, sorry.
-/
import Derived.Test.YtmdojlglemnijaaChecked
import GoSem.Claim
import GoSem.ClaimJoined
import GoSem.ClaimMapViews
import Derived.JoinedTies
import Derived.KernelRfl
namespace Go.Proofs.Ytmdojlglemnijaa
/- THE CELL 'sum', in the pinned program and in every row, IS THE sha256 OF THE DUMP (.gsa) THAT YtmdojlglemnijaaProg.lean LOADS. Nothing in Lean hashes anything: it is a label: what it is worth is what the hold of that sum in a sandbox is worth. -/
noncomputable def Try.pinned : Pinned := { name := "ytmdojlglemnijaa", sum := "06213dc2282594e317de8c8744d2c3586161e7715d5868369349662c5d58b6b8", checked := Try.checked }
namespace Rows
def none {H : Type} : Left H := { results := [], args := [] }

/-- 'laws.FnCons': WHATEVER THE INPUT: true; the input reads as it did. -/
def fnConsSpec : ChangeSpec := { name := "fnCons", fn := fun _ => fun
  | [d] => { results := [.lit (.bool true)], args := [d] }
  | _ => none }
def fnConsRow : OpenClaim := { program := "ytmdojlglemnijaa", sum := "06213dc2282594e317de8c8744d2c3586161e7715d5868369349662c5d58b6b8", func := "loop.example/g00790/laws.FnCons", spec := "fnCons", recurses := true, apart := false }
def FnConsSaid : Prop := fnConsRow.holds Try.pinned (OpenSpec.ofChange fnConsSpec)

/-- ITS FALSE NEIGHBOUR: 'it returns false'. Refute it at one input. -/
def fnConsWrong : ChangeSpec := { name := "fnCons", fn := fun _ => fun
  | [d] => { results := [.lit (.bool false)], args := [d] }
  | _ => none }
def FnConsWrongFalsely : Prop := fnConsRow.holds Try.pinned (OpenSpec.ofChange fnConsWrong)

/-- 'laws.FnExactPathOf': WHATEVER THE INPUT: true; the input reads as it did. -/
def fnExactPathOfSpec : ChangeSpec := { name := "fnExactPathOf", fn := fun _ => fun
  | [d1, d2] => { results := [.lit (.bool true)], args := [d1, d2] }
  | _ => none }
def fnExactPathOfRow : OpenClaim := { program := "ytmdojlglemnijaa", sum := "06213dc2282594e317de8c8744d2c3586161e7715d5868369349662c5d58b6b8", func := "loop.example/g00790/laws.FnExactPathOf", spec := "fnExactPathOf", recurses := true, apart := false }
def FnExactPathOfSaid : Prop := fnExactPathOfRow.holds Try.pinned (OpenSpec.ofChange fnExactPathOfSpec)

/-- ITS FALSE NEIGHBOUR: 'it returns false'. Refute it at one input. -/
def fnExactPathOfWrong : ChangeSpec := { name := "fnExactPathOf", fn := fun _ => fun
  | [d1, d2] => { results := [.lit (.bool false)], args := [d1, d2] }
  | _ => none }
def FnExactPathOfWrongFalsely : Prop := fnExactPathOfRow.holds Try.pinned (OpenSpec.ofChange fnExactPathOfWrong)

/-- 'laws.FnExactPathOk': WHATEVER THE INPUT: true; the input reads as it did. -/
def fnExactPathOkSpec : ChangeSpec := { name := "fnExactPathOk", fn := fun _ => fun
  | [d1, d2, d3, d4, d5] => { results := [.lit (.bool true)], args := [d1, d2, d3, d4, d5] }
  | _ => none }
def fnExactPathOkRow : OpenClaim := { program := "ytmdojlglemnijaa", sum := "06213dc2282594e317de8c8744d2c3586161e7715d5868369349662c5d58b6b8", func := "loop.example/g00790/laws.FnExactPathOk", spec := "fnExactPathOk", recurses := true, apart := false }
def FnExactPathOkSaid : Prop := fnExactPathOkRow.holds Try.pinned (OpenSpec.ofChange fnExactPathOkSpec)

/-- ITS FALSE NEIGHBOUR: 'it returns false'. Refute it at one input. -/
def fnExactPathOkWrong : ChangeSpec := { name := "fnExactPathOk", fn := fun _ => fun
  | [d1, d2, d3, d4, d5] => { results := [.lit (.bool false)], args := [d1, d2, d3, d4, d5] }
  | _ => none }
def FnExactPathOkWrongFalsely : Prop := fnExactPathOkRow.holds Try.pinned (OpenSpec.ofChange fnExactPathOkWrong)

/-- 'laws.FnExactConsOf': WHATEVER THE INPUT: true; the input reads as it did. -/
def fnExactConsOfSpec : ChangeSpec := { name := "fnExactConsOf", fn := fun _ => fun
  | [d1, d2] => { results := [.lit (.bool true)], args := [d1, d2] }
  | _ => none }
def fnExactConsOfRow : OpenClaim := { program := "ytmdojlglemnijaa", sum := "06213dc2282594e317de8c8744d2c3586161e7715d5868369349662c5d58b6b8", func := "loop.example/g00790/laws.FnExactConsOf", spec := "fnExactConsOf", recurses := true, apart := false }
def FnExactConsOfSaid : Prop := fnExactConsOfRow.holds Try.pinned (OpenSpec.ofChange fnExactConsOfSpec)

/-- ITS FALSE NEIGHBOUR: 'it returns false'. Refute it at one input. -/
def fnExactConsOfWrong : ChangeSpec := { name := "fnExactConsOf", fn := fun _ => fun
  | [d1, d2] => { results := [.lit (.bool false)], args := [d1, d2] }
  | _ => none }
def FnExactConsOfWrongFalsely : Prop := fnExactConsOfRow.holds Try.pinned (OpenSpec.ofChange fnExactConsOfWrong)

/-- 'laws.FnExactPathRoot': WHATEVER THE INPUT: true; the input reads as it did. -/
def fnExactPathRootSpec : ChangeSpec := { name := "fnExactPathRoot", fn := fun _ => fun
  | [d1, d2, d3, d4] => { results := [.lit (.bool true)], args := [d1, d2, d3, d4] }
  | _ => none }
def fnExactPathRootRow : OpenClaim := { program := "ytmdojlglemnijaa", sum := "06213dc2282594e317de8c8744d2c3586161e7715d5868369349662c5d58b6b8", func := "loop.example/g00790/laws.FnExactPathRoot", spec := "fnExactPathRoot", recurses := true, apart := false }
def FnExactPathRootSaid : Prop := fnExactPathRootRow.holds Try.pinned (OpenSpec.ofChange fnExactPathRootSpec)

/-- ITS FALSE NEIGHBOUR: 'it returns false'. Refute it at one input. -/
def fnExactPathRootWrong : ChangeSpec := { name := "fnExactPathRoot", fn := fun _ => fun
  | [d1, d2, d3, d4] => { results := [.lit (.bool false)], args := [d1, d2, d3, d4] }
  | _ => none }
def FnExactPathRootWrongFalsely : Prop := fnExactPathRootRow.holds Try.pinned (OpenSpec.ofChange fnExactPathRootWrong)

/-- 'laws.FnExactConsOk': WHATEVER THE INPUT: true; the input reads as it did. -/
def fnExactConsOkSpec : ChangeSpec := { name := "fnExactConsOk", fn := fun _ => fun
  | [d1, d2, d3, d4, d5] => { results := [.lit (.bool true)], args := [d1, d2, d3, d4, d5] }
  | _ => none }
def fnExactConsOkRow : OpenClaim := { program := "ytmdojlglemnijaa", sum := "06213dc2282594e317de8c8744d2c3586161e7715d5868369349662c5d58b6b8", func := "loop.example/g00790/laws.FnExactConsOk", spec := "fnExactConsOk", recurses := true, apart := false }
def FnExactConsOkSaid : Prop := fnExactConsOkRow.holds Try.pinned (OpenSpec.ofChange fnExactConsOkSpec)

/-- ITS FALSE NEIGHBOUR: 'it returns false'. Refute it at one input. -/
def fnExactConsOkWrong : ChangeSpec := { name := "fnExactConsOk", fn := fun _ => fun
  | [d1, d2, d3, d4, d5] => { results := [.lit (.bool false)], args := [d1, d2, d3, d4, d5] }
  | _ => none }
def FnExactConsOkWrongFalsely : Prop := fnExactConsOkRow.holds Try.pinned (OpenSpec.ofChange fnExactConsOkWrong)

/-- 'laws.FnExactConsRoots': WHATEVER THE INPUT: true; the input reads as it did. -/
def fnExactConsRootsSpec : ChangeSpec := { name := "fnExactConsRoots", fn := fun _ => fun
  | [d1, d2, d3, d4] => { results := [.lit (.bool true)], args := [d1, d2, d3, d4] }
  | _ => none }
def fnExactConsRootsRow : OpenClaim := { program := "ytmdojlglemnijaa", sum := "06213dc2282594e317de8c8744d2c3586161e7715d5868369349662c5d58b6b8", func := "loop.example/g00790/laws.FnExactConsRoots", spec := "fnExactConsRoots", recurses := true, apart := false }
def FnExactConsRootsSaid : Prop := fnExactConsRootsRow.holds Try.pinned (OpenSpec.ofChange fnExactConsRootsSpec)

/-- ITS FALSE NEIGHBOUR: 'it returns false'. Refute it at one input. -/
def fnExactConsRootsWrong : ChangeSpec := { name := "fnExactConsRoots", fn := fun _ => fun
  | [d1, d2, d3, d4] => { results := [.lit (.bool false)], args := [d1, d2, d3, d4] }
  | _ => none }
def FnExactConsRootsWrongFalsely : Prop := fnExactConsRootsRow.holds Try.pinned (OpenSpec.ofChange fnExactConsRootsWrong)

/-- 'laws.FnExactBlockOk': WHATEVER THE INPUT: true; the input reads as it did. -/
def fnExactBlockOkSpec : ChangeSpec := { name := "fnExactBlockOk", fn := fun _ => fun
  | [d1, d2] => { results := [.lit (.bool true)], args := [d1, d2] }
  | _ => none }
def fnExactBlockOkRow : OpenClaim := { program := "ytmdojlglemnijaa", sum := "06213dc2282594e317de8c8744d2c3586161e7715d5868369349662c5d58b6b8", func := "loop.example/g00790/laws.FnExactBlockOk", spec := "fnExactBlockOk", recurses := true, apart := false }
def FnExactBlockOkSaid : Prop := fnExactBlockOkRow.holds Try.pinned (OpenSpec.ofChange fnExactBlockOkSpec)

/-- ITS FALSE NEIGHBOUR: 'it returns false'. Refute it at one input. -/
def fnExactBlockOkWrong : ChangeSpec := { name := "fnExactBlockOk", fn := fun _ => fun
  | [d1, d2] => { results := [.lit (.bool false)], args := [d1, d2] }
  | _ => none }
def FnExactBlockOkWrongFalsely : Prop := fnExactBlockOkRow.holds Try.pinned (OpenSpec.ofChange fnExactBlockOkWrong)

/-- 'laws.FnExactBlockPath': WHATEVER THE INPUT: true; the input reads as it did. -/
def fnExactBlockPathSpec : ChangeSpec := { name := "fnExactBlockPath", fn := fun _ => fun
  | [d1, d2, d3] => { results := [.lit (.bool true)], args := [d1, d2, d3] }
  | _ => none }
def fnExactBlockPathRow : OpenClaim := { program := "ytmdojlglemnijaa", sum := "06213dc2282594e317de8c8744d2c3586161e7715d5868369349662c5d58b6b8", func := "loop.example/g00790/laws.FnExactBlockPath", spec := "fnExactBlockPath", recurses := true, apart := false }
def FnExactBlockPathSaid : Prop := fnExactBlockPathRow.holds Try.pinned (OpenSpec.ofChange fnExactBlockPathSpec)

/-- ITS FALSE NEIGHBOUR: 'it returns false'. Refute it at one input. -/
def fnExactBlockPathWrong : ChangeSpec := { name := "fnExactBlockPath", fn := fun _ => fun
  | [d1, d2, d3] => { results := [.lit (.bool false)], args := [d1, d2, d3] }
  | _ => none }
def FnExactBlockPathWrongFalsely : Prop := fnExactBlockPathRow.holds Try.pinned (OpenSpec.ofChange fnExactBlockPathWrong)

/- THE SECOND FORM. 'bulk': how many values and letters a reading holds, each counted each time it is reached (what is shared counts as often as it is met; a slice's spare places count too). A statement '..UptoSaid' is the law's where the arguments, and the package variables that the reading takes, are together of bulk at most 1048576: NARROWER than '..Said'. Prove '..Said' where nothing that the law and all that it calls make is longer than what came in: it says more and counts as full. Else prove '..UptoSaid'. A law counts once. -/
mutual
def uptoBulk {H : Type} : DataW H → Nat
  | .lit (.string bytes) => bytes.length + 1
  | .lit _ => 1
  | .nil => 1
  | .ptr d => uptoBulk d + 1
  | .slice elems spare => uptoBulkAll elems + uptoBulkAll spare + 1
  | .agg parts => uptoBulkAll parts + 1
  | .iface _ d => uptoBulk d + 1
  | .map entries => uptoBulkEntries entries + 1
  | .held _ => 1
def uptoBulkAll {H : Type} : List (DataW H) → Nat
  | [] => 0
  | d :: r => uptoBulk d + uptoBulkAll r
def uptoBulkEntries {H : Type} : List (Lit × DataW H) → Nat
  | [] => 0
  | x :: r => uptoBulkEntry x + uptoBulkEntries r
def uptoBulkEntry {H : Type} : Lit × DataW H → Nat
  | (.string bytes, d) => bytes.length + uptoBulk d + 1
  | (_, d) => uptoBulk d + 1
 end
def uptoSmall : (H : Type) → List (DataW H) → Bool := fun _ ds => decide (uptoBulkAll ds ≤ 1048576)
def OpenSpec.upto (s : _root_.Go.ChangeSpec) : _root_.Go.OpenSpec := { _root_.Go.OpenSpec.ofChange s with cond := some uptoSmall }

/-- 'laws.FnCons', WHERE WHAT IT READS IS OF BULK AT MOST 1048576: true; the input reads as it did. -/
def fnConsUptoRow : OpenClaim := { program := "ytmdojlglemnijaa", sum := "06213dc2282594e317de8c8744d2c3586161e7715d5868369349662c5d58b6b8", func := "loop.example/g00790/laws.FnCons", spec := "fnCons", recurses := true, apart := false, narrowed := true }
def FnConsUptoSaid : Prop := fnConsUptoRow.holds Try.pinned (OpenSpec.upto fnConsSpec)

/-- 'laws.FnExactPathOf', WHERE WHAT IT READS IS OF BULK AT MOST 1048576: true; the input reads as it did. -/
def fnExactPathOfUptoRow : OpenClaim := { program := "ytmdojlglemnijaa", sum := "06213dc2282594e317de8c8744d2c3586161e7715d5868369349662c5d58b6b8", func := "loop.example/g00790/laws.FnExactPathOf", spec := "fnExactPathOf", recurses := true, apart := false, narrowed := true }
def FnExactPathOfUptoSaid : Prop := fnExactPathOfUptoRow.holds Try.pinned (OpenSpec.upto fnExactPathOfSpec)

/-- 'laws.FnExactPathOk', WHERE WHAT IT READS IS OF BULK AT MOST 1048576: true; the input reads as it did. -/
def fnExactPathOkUptoRow : OpenClaim := { program := "ytmdojlglemnijaa", sum := "06213dc2282594e317de8c8744d2c3586161e7715d5868369349662c5d58b6b8", func := "loop.example/g00790/laws.FnExactPathOk", spec := "fnExactPathOk", recurses := true, apart := false, narrowed := true }
def FnExactPathOkUptoSaid : Prop := fnExactPathOkUptoRow.holds Try.pinned (OpenSpec.upto fnExactPathOkSpec)

/-- 'laws.FnExactConsOf', WHERE WHAT IT READS IS OF BULK AT MOST 1048576: true; the input reads as it did. -/
def fnExactConsOfUptoRow : OpenClaim := { program := "ytmdojlglemnijaa", sum := "06213dc2282594e317de8c8744d2c3586161e7715d5868369349662c5d58b6b8", func := "loop.example/g00790/laws.FnExactConsOf", spec := "fnExactConsOf", recurses := true, apart := false, narrowed := true }
def FnExactConsOfUptoSaid : Prop := fnExactConsOfUptoRow.holds Try.pinned (OpenSpec.upto fnExactConsOfSpec)

/-- 'laws.FnExactPathRoot', WHERE WHAT IT READS IS OF BULK AT MOST 1048576: true; the input reads as it did. -/
def fnExactPathRootUptoRow : OpenClaim := { program := "ytmdojlglemnijaa", sum := "06213dc2282594e317de8c8744d2c3586161e7715d5868369349662c5d58b6b8", func := "loop.example/g00790/laws.FnExactPathRoot", spec := "fnExactPathRoot", recurses := true, apart := false, narrowed := true }
def FnExactPathRootUptoSaid : Prop := fnExactPathRootUptoRow.holds Try.pinned (OpenSpec.upto fnExactPathRootSpec)

/-- 'laws.FnExactConsOk', WHERE WHAT IT READS IS OF BULK AT MOST 1048576: true; the input reads as it did. -/
def fnExactConsOkUptoRow : OpenClaim := { program := "ytmdojlglemnijaa", sum := "06213dc2282594e317de8c8744d2c3586161e7715d5868369349662c5d58b6b8", func := "loop.example/g00790/laws.FnExactConsOk", spec := "fnExactConsOk", recurses := true, apart := false, narrowed := true }
def FnExactConsOkUptoSaid : Prop := fnExactConsOkUptoRow.holds Try.pinned (OpenSpec.upto fnExactConsOkSpec)

/-- 'laws.FnExactConsRoots', WHERE WHAT IT READS IS OF BULK AT MOST 1048576: true; the input reads as it did. -/
def fnExactConsRootsUptoRow : OpenClaim := { program := "ytmdojlglemnijaa", sum := "06213dc2282594e317de8c8744d2c3586161e7715d5868369349662c5d58b6b8", func := "loop.example/g00790/laws.FnExactConsRoots", spec := "fnExactConsRoots", recurses := true, apart := false, narrowed := true }
def FnExactConsRootsUptoSaid : Prop := fnExactConsRootsUptoRow.holds Try.pinned (OpenSpec.upto fnExactConsRootsSpec)

/-- 'laws.FnExactBlockOk', WHERE WHAT IT READS IS OF BULK AT MOST 1048576: true; the input reads as it did. -/
def fnExactBlockOkUptoRow : OpenClaim := { program := "ytmdojlglemnijaa", sum := "06213dc2282594e317de8c8744d2c3586161e7715d5868369349662c5d58b6b8", func := "loop.example/g00790/laws.FnExactBlockOk", spec := "fnExactBlockOk", recurses := true, apart := false, narrowed := true }
def FnExactBlockOkUptoSaid : Prop := fnExactBlockOkUptoRow.holds Try.pinned (OpenSpec.upto fnExactBlockOkSpec)

/-- 'laws.FnExactBlockPath', WHERE WHAT IT READS IS OF BULK AT MOST 1048576: true; the input reads as it did. -/
def fnExactBlockPathUptoRow : OpenClaim := { program := "ytmdojlglemnijaa", sum := "06213dc2282594e317de8c8744d2c3586161e7715d5868369349662c5d58b6b8", func := "loop.example/g00790/laws.FnExactBlockPath", spec := "fnExactBlockPath", recurses := true, apart := false, narrowed := true }
def FnExactBlockPathUptoSaid : Prop := fnExactBlockPathUptoRow.holds Try.pinned (OpenSpec.upto fnExactBlockPathSpec)

end Rows
end Go.Proofs.Ytmdojlglemnijaa
