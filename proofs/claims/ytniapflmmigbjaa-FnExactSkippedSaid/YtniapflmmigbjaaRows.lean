/-
  No cell of these rows narrows 'for every input' (looked for: loops, veiled, ifaces, maps, wideKeys, modest, calm, conditions, laid).
  DERIVED. THE GIVEN ROWS OF THIS SEAT. 12 by the template 'for every input the law returns true; each argument reads behind the call as it read before'; 0 by the template 'total and deterministic' (their statements: YtniapflmmigbjaaTotals.lean).
  GIVEN WITH THE SEED: the statements are not yours to turn. If you find one false, say at which input.
  Laid BY PROGRAM, IN A SANDBOX (cutbox-rows.mjs): the forced cells as the released guide's own fill.sh prints them over the translation 5476e5eaf6a869ec… (all of the seat's roots in one cut). By AI agents, Wed Nov 11 2026. No macro, syntax, notation, axiom, sorry.
-/
import Derived.Test.YtniapflmmigbjaaChecked
import GoSem.Claim
import GoSem.ClaimJoined
import GoSem.ClaimMapViews
import Derived.JoinedTies
import Derived.KernelRfl
namespace Go.Proofs.Ytniapflmmigbjaa
/- THE CELL 'sum', in the pinned program and in every row, IS THE sha256 OF THE DUMP (.gsa) THAT YtniapflmmigbjaaProg.lean LOADS. Nothing in Lean hashes anything: it is a label: what it is worth is what the hold of that sum in a sandbox is worth. -/
noncomputable def Try.pinned : Pinned := { name := "ytniapflmmigbjaa", sum := "5476e5eaf6a869ec9cd1c4171b8f74886ba93b131ffe69eced394d47c3fd75cf", checked := Try.checked }
namespace Rows
def none {H : Type} : Left H := { results := [], args := [] }

/-- 'laws.FnExactTcOk': WHATEVER THE INPUT: true; the input reads as it did. -/
def fnExactTcOkSpec : ChangeSpec := { name := "fnExactTcOk", fn := fun _ => fun
  | [d1, d2] => { results := [.lit (.bool true)], args := [d1, d2] }
  | _ => none }
def fnExactTcOkRow : OpenClaim := { program := "ytniapflmmigbjaa", sum := "5476e5eaf6a869ec9cd1c4171b8f74886ba93b131ffe69eced394d47c3fd75cf", func := "loop.example/g00790/laws.FnExactTcOk", spec := "fnExactTcOk", apart := false }
def FnExactTcOkSaid : Prop := fnExactTcOkRow.holds Try.pinned (OpenSpec.ofChange fnExactTcOkSpec)

/-- ITS FALSE NEIGHBOUR: 'it returns false'. Refute it at one input. -/
def fnExactTcOkWrong : ChangeSpec := { name := "fnExactTcOk", fn := fun _ => fun
  | [d1, d2] => { results := [.lit (.bool false)], args := [d1, d2] }
  | _ => none }
def FnExactTcOkWrongFalsely : Prop := fnExactTcOkRow.holds Try.pinned (OpenSpec.ofChange fnExactTcOkWrong)

/-- 'laws.FnExactInclOk': WHATEVER THE INPUT: true; the input reads as it did. -/
def fnExactInclOkSpec : ChangeSpec := { name := "fnExactInclOk", fn := fun _ => fun
  | [d1, d2] => { results := [.lit (.bool true)], args := [d1, d2] }
  | _ => none }
def fnExactInclOkRow : OpenClaim := { program := "ytniapflmmigbjaa", sum := "5476e5eaf6a869ec9cd1c4171b8f74886ba93b131ffe69eced394d47c3fd75cf", func := "loop.example/g00790/laws.FnExactInclOk", spec := "fnExactInclOk", recurses := true, apart := false }
def FnExactInclOkSaid : Prop := fnExactInclOkRow.holds Try.pinned (OpenSpec.ofChange fnExactInclOkSpec)

/-- ITS FALSE NEIGHBOUR: 'it returns false'. Refute it at one input. -/
def fnExactInclOkWrong : ChangeSpec := { name := "fnExactInclOk", fn := fun _ => fun
  | [d1, d2] => { results := [.lit (.bool false)], args := [d1, d2] }
  | _ => none }
def FnExactInclOkWrongFalsely : Prop := fnExactInclOkRow.holds Try.pinned (OpenSpec.ofChange fnExactInclOkWrong)

/-- 'laws.FnExactHeadSame': WHATEVER THE INPUT: true; the input reads as it did. -/
def fnExactHeadSameSpec : ChangeSpec := { name := "fnExactHeadSame", fn := fun _ => fun
  | [d1, d2] => { results := [.lit (.bool true)], args := [d1, d2] }
  | _ => none }
def fnExactHeadSameRow : OpenClaim := { program := "ytniapflmmigbjaa", sum := "5476e5eaf6a869ec9cd1c4171b8f74886ba93b131ffe69eced394d47c3fd75cf", func := "loop.example/g00790/laws.FnExactHeadSame", spec := "fnExactHeadSame", apart := false }
def FnExactHeadSameSaid : Prop := fnExactHeadSameRow.holds Try.pinned (OpenSpec.ofChange fnExactHeadSameSpec)

/-- ITS FALSE NEIGHBOUR: 'it returns false'. Refute it at one input. -/
def fnExactHeadSameWrong : ChangeSpec := { name := "fnExactHeadSame", fn := fun _ => fun
  | [d1, d2] => { results := [.lit (.bool false)], args := [d1, d2] }
  | _ => none }
def FnExactHeadSameWrongFalsely : Prop := fnExactHeadSameRow.holds Try.pinned (OpenSpec.ofChange fnExactHeadSameWrong)

/-- 'laws.FnExactQcOk': WHATEVER THE INPUT: true; the input reads as it did. -/
def fnExactQcOkSpec : ChangeSpec := { name := "fnExactQcOk", fn := fun _ => fun
  | [d1, d2] => { results := [.lit (.bool true)], args := [d1, d2] }
  | _ => none }
def fnExactQcOkRow : OpenClaim := { program := "ytniapflmmigbjaa", sum := "5476e5eaf6a869ec9cd1c4171b8f74886ba93b131ffe69eced394d47c3fd75cf", func := "loop.example/g00790/laws.FnExactQcOk", spec := "fnExactQcOk", apart := false }
def FnExactQcOkSaid : Prop := fnExactQcOkRow.holds Try.pinned (OpenSpec.ofChange fnExactQcOkSpec)

/-- ITS FALSE NEIGHBOUR: 'it returns false'. Refute it at one input. -/
def fnExactQcOkWrong : ChangeSpec := { name := "fnExactQcOk", fn := fun _ => fun
  | [d1, d2] => { results := [.lit (.bool false)], args := [d1, d2] }
  | _ => none }
def FnExactQcOkWrongFalsely : Prop := fnExactQcOkRow.holds Try.pinned (OpenSpec.ofChange fnExactQcOkWrong)

/-- 'laws.FnExactBlockSame': WHATEVER THE INPUT: true; the input reads as it did. -/
def fnExactBlockSameSpec : ChangeSpec := { name := "fnExactBlockSame", fn := fun _ => fun
  | [d1, d2] => { results := [.lit (.bool true)], args := [d1, d2] }
  | _ => none }
def fnExactBlockSameRow : OpenClaim := { program := "ytniapflmmigbjaa", sum := "5476e5eaf6a869ec9cd1c4171b8f74886ba93b131ffe69eced394d47c3fd75cf", func := "loop.example/g00790/laws.FnExactBlockSame", spec := "fnExactBlockSame", apart := false }
def FnExactBlockSameSaid : Prop := fnExactBlockSameRow.holds Try.pinned (OpenSpec.ofChange fnExactBlockSameSpec)

/-- ITS FALSE NEIGHBOUR: 'it returns false'. Refute it at one input. -/
def fnExactBlockSameWrong : ChangeSpec := { name := "fnExactBlockSame", fn := fun _ => fun
  | [d1, d2] => { results := [.lit (.bool false)], args := [d1, d2] }
  | _ => none }
def FnExactBlockSameWrongFalsely : Prop := fnExactBlockSameRow.holds Try.pinned (OpenSpec.ofChange fnExactBlockSameWrong)

/-- 'laws.FnExactQcVotes': WHATEVER THE INPUT: true; the input reads as it did. -/
def fnExactQcVotesSpec : ChangeSpec := { name := "fnExactQcVotes", fn := fun _ => fun
  | [d] => { results := [.lit (.bool true)], args := [d] }
  | _ => none }
def fnExactQcVotesRow : OpenClaim := { program := "ytniapflmmigbjaa", sum := "5476e5eaf6a869ec9cd1c4171b8f74886ba93b131ffe69eced394d47c3fd75cf", func := "loop.example/g00790/laws.FnExactQcVotes", spec := "fnExactQcVotes", apart := false }
def FnExactQcVotesSaid : Prop := fnExactQcVotesRow.holds Try.pinned (OpenSpec.ofChange fnExactQcVotesSpec)

/-- ITS FALSE NEIGHBOUR: 'it returns false'. Refute it at one input. -/
def fnExactQcVotesWrong : ChangeSpec := { name := "fnExactQcVotes", fn := fun _ => fun
  | [d] => { results := [.lit (.bool false)], args := [d] }
  | _ => none }
def FnExactQcVotesWrongFalsely : Prop := fnExactQcVotesRow.holds Try.pinned (OpenSpec.ofChange fnExactQcVotesWrong)

/-- 'laws.FnExactProofSame': WHATEVER THE INPUT: true; the input reads as it did. -/
def fnExactProofSameSpec : ChangeSpec := { name := "fnExactProofSame", fn := fun _ => fun
  | [d1, d2] => { results := [.lit (.bool true)], args := [d1, d2] }
  | _ => none }
def fnExactProofSameRow : OpenClaim := { program := "ytniapflmmigbjaa", sum := "5476e5eaf6a869ec9cd1c4171b8f74886ba93b131ffe69eced394d47c3fd75cf", func := "loop.example/g00790/laws.FnExactProofSame", spec := "fnExactProofSame", apart := false }
def FnExactProofSameSaid : Prop := fnExactProofSameRow.holds Try.pinned (OpenSpec.ofChange fnExactProofSameSpec)

/-- ITS FALSE NEIGHBOUR: 'it returns false'. Refute it at one input. -/
def fnExactProofSameWrong : ChangeSpec := { name := "fnExactProofSame", fn := fun _ => fun
  | [d1, d2] => { results := [.lit (.bool false)], args := [d1, d2] }
  | _ => none }
def FnExactProofSameWrongFalsely : Prop := fnExactProofSameRow.holds Try.pinned (OpenSpec.ofChange fnExactProofSameWrong)

/-- 'laws.FnExactHeadOk': WHATEVER THE INPUT: true; the input reads as it did. -/
def fnExactHeadOkSpec : ChangeSpec := { name := "fnExactHeadOk", fn := fun _ => fun
  | [d1, d2] => { results := [.lit (.bool true)], args := [d1, d2] }
  | _ => none }
def fnExactHeadOkRow : OpenClaim := { program := "ytniapflmmigbjaa", sum := "5476e5eaf6a869ec9cd1c4171b8f74886ba93b131ffe69eced394d47c3fd75cf", func := "loop.example/g00790/laws.FnExactHeadOk", spec := "fnExactHeadOk", apart := false }
def FnExactHeadOkSaid : Prop := fnExactHeadOkRow.holds Try.pinned (OpenSpec.ofChange fnExactHeadOkSpec)

/-- ITS FALSE NEIGHBOUR: 'it returns false'. Refute it at one input. -/
def fnExactHeadOkWrong : ChangeSpec := { name := "fnExactHeadOk", fn := fun _ => fun
  | [d1, d2] => { results := [.lit (.bool false)], args := [d1, d2] }
  | _ => none }
def FnExactHeadOkWrongFalsely : Prop := fnExactHeadOkRow.holds Try.pinned (OpenSpec.ofChange fnExactHeadOkWrong)

/-- 'laws.FnExactTcBits': WHATEVER THE INPUT: true; the input reads as it did. -/
def fnExactTcBitsSpec : ChangeSpec := { name := "fnExactTcBits", fn := fun _ => fun
  | [d1, d2] => { results := [.lit (.bool true)], args := [d1, d2] }
  | _ => none }
def fnExactTcBitsRow : OpenClaim := { program := "ytniapflmmigbjaa", sum := "5476e5eaf6a869ec9cd1c4171b8f74886ba93b131ffe69eced394d47c3fd75cf", func := "loop.example/g00790/laws.FnExactTcBits", spec := "fnExactTcBits", apart := false }
def FnExactTcBitsSaid : Prop := fnExactTcBitsRow.holds Try.pinned (OpenSpec.ofChange fnExactTcBitsSpec)

/-- ITS FALSE NEIGHBOUR: 'it returns false'. Refute it at one input. -/
def fnExactTcBitsWrong : ChangeSpec := { name := "fnExactTcBits", fn := fun _ => fun
  | [d1, d2] => { results := [.lit (.bool false)], args := [d1, d2] }
  | _ => none }
def FnExactTcBitsWrongFalsely : Prop := fnExactTcBitsRow.holds Try.pinned (OpenSpec.ofChange fnExactTcBitsWrong)

/-- 'laws.FnExactProofOk': WHATEVER THE INPUT: true; the input reads as it did. -/
def fnExactProofOkSpec : ChangeSpec := { name := "fnExactProofOk", fn := fun _ => fun
  | [d1, d2] => { results := [.lit (.bool true)], args := [d1, d2] }
  | _ => none }
def fnExactProofOkRow : OpenClaim := { program := "ytniapflmmigbjaa", sum := "5476e5eaf6a869ec9cd1c4171b8f74886ba93b131ffe69eced394d47c3fd75cf", func := "loop.example/g00790/laws.FnExactProofOk", spec := "fnExactProofOk", apart := false }
def FnExactProofOkSaid : Prop := fnExactProofOkRow.holds Try.pinned (OpenSpec.ofChange fnExactProofOkSpec)

/-- ITS FALSE NEIGHBOUR: 'it returns false'. Refute it at one input. -/
def fnExactProofOkWrong : ChangeSpec := { name := "fnExactProofOk", fn := fun _ => fun
  | [d1, d2] => { results := [.lit (.bool false)], args := [d1, d2] }
  | _ => none }
def FnExactProofOkWrongFalsely : Prop := fnExactProofOkRow.holds Try.pinned (OpenSpec.ofChange fnExactProofOkWrong)

/-- 'laws.FnExactQcFrom': WHATEVER THE INPUT: true; the input reads as it did. -/
def fnExactQcFromSpec : ChangeSpec := { name := "fnExactQcFrom", fn := fun _ => fun
  | [d1, d2] => { results := [.lit (.bool true)], args := [d1, d2] }
  | _ => none }
def fnExactQcFromRow : OpenClaim := { program := "ytniapflmmigbjaa", sum := "5476e5eaf6a869ec9cd1c4171b8f74886ba93b131ffe69eced394d47c3fd75cf", func := "loop.example/g00790/laws.FnExactQcFrom", spec := "fnExactQcFrom", apart := false }
def FnExactQcFromSaid : Prop := fnExactQcFromRow.holds Try.pinned (OpenSpec.ofChange fnExactQcFromSpec)

/-- ITS FALSE NEIGHBOUR: 'it returns false'. Refute it at one input. -/
def fnExactQcFromWrong : ChangeSpec := { name := "fnExactQcFrom", fn := fun _ => fun
  | [d1, d2] => { results := [.lit (.bool false)], args := [d1, d2] }
  | _ => none }
def FnExactQcFromWrongFalsely : Prop := fnExactQcFromRow.holds Try.pinned (OpenSpec.ofChange fnExactQcFromWrong)

/-- 'laws.FnExactSkipped': WHATEVER THE INPUT: true; the input reads as it did. -/
def fnExactSkippedSpec : ChangeSpec := { name := "fnExactSkipped", fn := fun _ => fun
  | [d] => { results := [.lit (.bool true)], args := [d] }
  | _ => none }
def fnExactSkippedRow : OpenClaim := { program := "ytniapflmmigbjaa", sum := "5476e5eaf6a869ec9cd1c4171b8f74886ba93b131ffe69eced394d47c3fd75cf", func := "loop.example/g00790/laws.FnExactSkipped", spec := "fnExactSkipped", apart := false }
def FnExactSkippedSaid : Prop := fnExactSkippedRow.holds Try.pinned (OpenSpec.ofChange fnExactSkippedSpec)

/-- ITS FALSE NEIGHBOUR: 'it returns false'. Refute it at one input. -/
def fnExactSkippedWrong : ChangeSpec := { name := "fnExactSkipped", fn := fun _ => fun
  | [d] => { results := [.lit (.bool false)], args := [d] }
  | _ => none }
def FnExactSkippedWrongFalsely : Prop := fnExactSkippedRow.holds Try.pinned (OpenSpec.ofChange fnExactSkippedWrong)

/- THE SECOND FORM. 'bulk': how many values and letters a reading holds, each counted each time it is reached (what is shared counts as often as it is met; a slice's spare places count too). A statement '..UptoSaid' is the law's where the arguments, and the package variables that the reading takes, are together of bulk at most 1048576: NARROWER than '..Said'. Prove '..Said' where nothing that the law and all that it calls make is longer than what came in: it says more and counts as full. Else prove '..UptoSaid'. A law counts once. -/
mutual
def uptoBulk {H : Type} : DataW H → Nat
  | .lit (.string bytes) => bytes.length + 1
  | .lit _ => 1
  | .nil => 1
  | .ptr d => uptoBulk d + 1
  | .slice elems spare => uptoBulkAll elems + uptoBulkAll spare + 1
  | .agg parts => uptoBulkAll parts + 1
  | .iface _ d => uptoBulk d + 1
  | .map entries => uptoBulkEntries entries + 1
  | .held _ => 1
def uptoBulkAll {H : Type} : List (DataW H) → Nat
  | [] => 0
  | d :: r => uptoBulk d + uptoBulkAll r
def uptoBulkEntries {H : Type} : List (Lit × DataW H) → Nat
  | [] => 0
  | x :: r => uptoBulkEntry x + uptoBulkEntries r
def uptoBulkEntry {H : Type} : Lit × DataW H → Nat
  | (.string bytes, d) => bytes.length + uptoBulk d + 1
  | (_, d) => uptoBulk d + 1
 end
def uptoSmall : (H : Type) → List (DataW H) → Bool := fun _ ds => decide (uptoBulkAll ds ≤ 1048576)
def OpenSpec.upto (s : _root_.Go.ChangeSpec) : _root_.Go.OpenSpec := { _root_.Go.OpenSpec.ofChange s with cond := some uptoSmall }

/-- 'laws.FnExactTcOk', WHERE WHAT IT READS IS OF BULK AT MOST 1048576: true; the input reads as it did. -/
def fnExactTcOkUptoRow : OpenClaim := { program := "ytniapflmmigbjaa", sum := "5476e5eaf6a869ec9cd1c4171b8f74886ba93b131ffe69eced394d47c3fd75cf", func := "loop.example/g00790/laws.FnExactTcOk", spec := "fnExactTcOk", apart := false, narrowed := true }
def FnExactTcOkUptoSaid : Prop := fnExactTcOkUptoRow.holds Try.pinned (OpenSpec.upto fnExactTcOkSpec)

/-- 'laws.FnExactInclOk', WHERE WHAT IT READS IS OF BULK AT MOST 1048576: true; the input reads as it did. -/
def fnExactInclOkUptoRow : OpenClaim := { program := "ytniapflmmigbjaa", sum := "5476e5eaf6a869ec9cd1c4171b8f74886ba93b131ffe69eced394d47c3fd75cf", func := "loop.example/g00790/laws.FnExactInclOk", spec := "fnExactInclOk", recurses := true, apart := false, narrowed := true }
def FnExactInclOkUptoSaid : Prop := fnExactInclOkUptoRow.holds Try.pinned (OpenSpec.upto fnExactInclOkSpec)

/-- 'laws.FnExactHeadSame', WHERE WHAT IT READS IS OF BULK AT MOST 1048576: true; the input reads as it did. -/
def fnExactHeadSameUptoRow : OpenClaim := { program := "ytniapflmmigbjaa", sum := "5476e5eaf6a869ec9cd1c4171b8f74886ba93b131ffe69eced394d47c3fd75cf", func := "loop.example/g00790/laws.FnExactHeadSame", spec := "fnExactHeadSame", apart := false, narrowed := true }
def FnExactHeadSameUptoSaid : Prop := fnExactHeadSameUptoRow.holds Try.pinned (OpenSpec.upto fnExactHeadSameSpec)

/-- 'laws.FnExactQcOk', WHERE WHAT IT READS IS OF BULK AT MOST 1048576: true; the input reads as it did. -/
def fnExactQcOkUptoRow : OpenClaim := { program := "ytniapflmmigbjaa", sum := "5476e5eaf6a869ec9cd1c4171b8f74886ba93b131ffe69eced394d47c3fd75cf", func := "loop.example/g00790/laws.FnExactQcOk", spec := "fnExactQcOk", apart := false, narrowed := true }
def FnExactQcOkUptoSaid : Prop := fnExactQcOkUptoRow.holds Try.pinned (OpenSpec.upto fnExactQcOkSpec)

/-- 'laws.FnExactBlockSame', WHERE WHAT IT READS IS OF BULK AT MOST 1048576: true; the input reads as it did. -/
def fnExactBlockSameUptoRow : OpenClaim := { program := "ytniapflmmigbjaa", sum := "5476e5eaf6a869ec9cd1c4171b8f74886ba93b131ffe69eced394d47c3fd75cf", func := "loop.example/g00790/laws.FnExactBlockSame", spec := "fnExactBlockSame", apart := false, narrowed := true }
def FnExactBlockSameUptoSaid : Prop := fnExactBlockSameUptoRow.holds Try.pinned (OpenSpec.upto fnExactBlockSameSpec)

/-- 'laws.FnExactQcVotes', WHERE WHAT IT READS IS OF BULK AT MOST 1048576: true; the input reads as it did. -/
def fnExactQcVotesUptoRow : OpenClaim := { program := "ytniapflmmigbjaa", sum := "5476e5eaf6a869ec9cd1c4171b8f74886ba93b131ffe69eced394d47c3fd75cf", func := "loop.example/g00790/laws.FnExactQcVotes", spec := "fnExactQcVotes", apart := false, narrowed := true }
def FnExactQcVotesUptoSaid : Prop := fnExactQcVotesUptoRow.holds Try.pinned (OpenSpec.upto fnExactQcVotesSpec)

/-- 'laws.FnExactProofSame', WHERE WHAT IT READS IS OF BULK AT MOST 1048576: true; the input reads as it did. -/
def fnExactProofSameUptoRow : OpenClaim := { program := "ytniapflmmigbjaa", sum := "5476e5eaf6a869ec9cd1c4171b8f74886ba93b131ffe69eced394d47c3fd75cf", func := "loop.example/g00790/laws.FnExactProofSame", spec := "fnExactProofSame", apart := false, narrowed := true }
def FnExactProofSameUptoSaid : Prop := fnExactProofSameUptoRow.holds Try.pinned (OpenSpec.upto fnExactProofSameSpec)

/-- 'laws.FnExactHeadOk', WHERE WHAT IT READS IS OF BULK AT MOST 1048576: true; the input reads as it did. -/
def fnExactHeadOkUptoRow : OpenClaim := { program := "ytniapflmmigbjaa", sum := "5476e5eaf6a869ec9cd1c4171b8f74886ba93b131ffe69eced394d47c3fd75cf", func := "loop.example/g00790/laws.FnExactHeadOk", spec := "fnExactHeadOk", apart := false, narrowed := true }
def FnExactHeadOkUptoSaid : Prop := fnExactHeadOkUptoRow.holds Try.pinned (OpenSpec.upto fnExactHeadOkSpec)

/-- 'laws.FnExactTcBits', WHERE WHAT IT READS IS OF BULK AT MOST 1048576: true; the input reads as it did. -/
def fnExactTcBitsUptoRow : OpenClaim := { program := "ytniapflmmigbjaa", sum := "5476e5eaf6a869ec9cd1c4171b8f74886ba93b131ffe69eced394d47c3fd75cf", func := "loop.example/g00790/laws.FnExactTcBits", spec := "fnExactTcBits", apart := false, narrowed := true }
def FnExactTcBitsUptoSaid : Prop := fnExactTcBitsUptoRow.holds Try.pinned (OpenSpec.upto fnExactTcBitsSpec)

/-- 'laws.FnExactProofOk', WHERE WHAT IT READS IS OF BULK AT MOST 1048576: true; the input reads as it did. -/
def fnExactProofOkUptoRow : OpenClaim := { program := "ytniapflmmigbjaa", sum := "5476e5eaf6a869ec9cd1c4171b8f74886ba93b131ffe69eced394d47c3fd75cf", func := "loop.example/g00790/laws.FnExactProofOk", spec := "fnExactProofOk", apart := false, narrowed := true }
def FnExactProofOkUptoSaid : Prop := fnExactProofOkUptoRow.holds Try.pinned (OpenSpec.upto fnExactProofOkSpec)

/-- 'laws.FnExactQcFrom', WHERE WHAT IT READS IS OF BULK AT MOST 1048576: true; the input reads as it did. -/
def fnExactQcFromUptoRow : OpenClaim := { program := "ytniapflmmigbjaa", sum := "5476e5eaf6a869ec9cd1c4171b8f74886ba93b131ffe69eced394d47c3fd75cf", func := "loop.example/g00790/laws.FnExactQcFrom", spec := "fnExactQcFrom", apart := false, narrowed := true }
def FnExactQcFromUptoSaid : Prop := fnExactQcFromUptoRow.holds Try.pinned (OpenSpec.upto fnExactQcFromSpec)

/-- 'laws.FnExactSkipped', WHERE WHAT IT READS IS OF BULK AT MOST 1048576: true; the input reads as it did. -/
def fnExactSkippedUptoRow : OpenClaim := { program := "ytniapflmmigbjaa", sum := "5476e5eaf6a869ec9cd1c4171b8f74886ba93b131ffe69eced394d47c3fd75cf", func := "loop.example/g00790/laws.FnExactSkipped", spec := "fnExactSkipped", apart := false, narrowed := true }
def FnExactSkippedUptoSaid : Prop := fnExactSkippedUptoRow.holds Try.pinned (OpenSpec.upto fnExactSkippedSpec)

end Rows
end Go.Proofs.Ytniapflmmigbjaa
