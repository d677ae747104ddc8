/-
  No cell of these rows narrows 'for every input' (looked for: loops, veiled, ifaces, maps, wideKeys, modest, calm, conditions, laid).
  DERIVED. THE GIVEN ROWS OF THIS SEAT. 12 by the template 'for every input the law returns true; each argument reads behind the call as it read before'; 0 by the template 'total and deterministic' (their statements: YthaagegnobegjaaTotals.lean).
  GIVEN WITH THE SEED: the statements are not yours to turn. If you find one false, say at which input.
  Laid BY PROGRAM, IN A SANDBOX (cutbox-rows.mjs): the forced cells as the released guide's own fill.sh prints them over the translation da05663a7b0bf5fc… (all of the seat's roots in one cut). By AI agents, Wed Nov 11 2026. No macro, syntax, notation, axiom, sorry.
-/
import Derived.Test.YthaagegnobegjaaChecked
import GoSem.Claim
import GoSem.ClaimJoined
import GoSem.ClaimMapViews
import Derived.JoinedTies
import Derived.KernelRfl
namespace Go.Proofs.Ythaagegnobegjaa
/- THE CELL 'sum', in the pinned program and in every row, IS THE sha256 OF THE DUMP (.gsa) THAT YthaagegnobegjaaProg.lean LOADS. Nothing in Lean hashes anything: it is a label: what it is worth is what the hold of that sum in a sandbox is worth. -/
noncomputable def Try.pinned : Pinned := { name := "ythaagegnobegjaa", sum := "da05663a7b0bf5fcfe4e36ac41ccbb8fe7dd99f64b34d86eda477d073b0f4806", checked := Try.checked }
namespace Rows
def none {H : Type} : Left H := { results := [], args := [] }

/-- 'laws.FnExactQcVotes': WHATEVER THE INPUT: true; the input reads as it did. -/
def fnExactQcVotesSpec : ChangeSpec := { name := "fnExactQcVotes", fn := fun _ => fun
  | [d] => { results := [.lit (.bool true)], args := [d] }
  | _ => none }
def fnExactQcVotesRow : OpenClaim := { program := "ythaagegnobegjaa", sum := "da05663a7b0bf5fcfe4e36ac41ccbb8fe7dd99f64b34d86eda477d073b0f4806", func := "loop.example/g00790/laws.FnExactQcVotes", spec := "fnExactQcVotes", apart := false }
def FnExactQcVotesSaid : Prop := fnExactQcVotesRow.holds Try.pinned (OpenSpec.ofChange fnExactQcVotesSpec)

/-- ITS FALSE NEIGHBOUR: 'it returns false'. Refute it at one input. -/
def fnExactQcVotesWrong : ChangeSpec := { name := "fnExactQcVotes", fn := fun _ => fun
  | [d] => { results := [.lit (.bool false)], args := [d] }
  | _ => none }
def FnExactQcVotesWrongFalsely : Prop := fnExactQcVotesRow.holds Try.pinned (OpenSpec.ofChange fnExactQcVotesWrong)

/-- 'laws.FnExactTcBits': WHATEVER THE INPUT: true; the input reads as it did. -/
def fnExactTcBitsSpec : ChangeSpec := { name := "fnExactTcBits", fn := fun _ => fun
  | [d1, d2] => { results := [.lit (.bool true)], args := [d1, d2] }
  | _ => none }
def fnExactTcBitsRow : OpenClaim := { program := "ythaagegnobegjaa", sum := "da05663a7b0bf5fcfe4e36ac41ccbb8fe7dd99f64b34d86eda477d073b0f4806", func := "loop.example/g00790/laws.FnExactTcBits", spec := "fnExactTcBits", apart := false }
def FnExactTcBitsSaid : Prop := fnExactTcBitsRow.holds Try.pinned (OpenSpec.ofChange fnExactTcBitsSpec)

/-- ITS FALSE NEIGHBOUR: 'it returns false'. Refute it at one input. -/
def fnExactTcBitsWrong : ChangeSpec := { name := "fnExactTcBits", fn := fun _ => fun
  | [d1, d2] => { results := [.lit (.bool false)], args := [d1, d2] }
  | _ => none }
def FnExactTcBitsWrongFalsely : Prop := fnExactTcBitsRow.holds Try.pinned (OpenSpec.ofChange fnExactTcBitsWrong)

/-- 'laws.FnExactQcFrom': WHATEVER THE INPUT: true; the input reads as it did. -/
def fnExactQcFromSpec : ChangeSpec := { name := "fnExactQcFrom", fn := fun _ => fun
  | [d1, d2] => { results := [.lit (.bool true)], args := [d1, d2] }
  | _ => none }
def fnExactQcFromRow : OpenClaim := { program := "ythaagegnobegjaa", sum := "da05663a7b0bf5fcfe4e36ac41ccbb8fe7dd99f64b34d86eda477d073b0f4806", func := "loop.example/g00790/laws.FnExactQcFrom", spec := "fnExactQcFrom", apart := false }
def FnExactQcFromSaid : Prop := fnExactQcFromRow.holds Try.pinned (OpenSpec.ofChange fnExactQcFromSpec)

/-- ITS FALSE NEIGHBOUR: 'it returns false'. Refute it at one input. -/
def fnExactQcFromWrong : ChangeSpec := { name := "fnExactQcFrom", fn := fun _ => fun
  | [d1, d2] => { results := [.lit (.bool false)], args := [d1, d2] }
  | _ => none }
def FnExactQcFromWrongFalsely : Prop := fnExactQcFromRow.holds Try.pinned (OpenSpec.ofChange fnExactQcFromWrong)

/-- 'laws.FnExactOfVote': WHATEVER THE INPUT: true; the input reads as it did. -/
def fnExactOfVoteSpec : ChangeSpec := { name := "fnExactOfVote", fn := fun _ => fun
  | [d] => { results := [.lit (.bool true)], args := [d] }
  | _ => none }
def fnExactOfVoteRow : OpenClaim := { program := "ythaagegnobegjaa", sum := "da05663a7b0bf5fcfe4e36ac41ccbb8fe7dd99f64b34d86eda477d073b0f4806", func := "loop.example/g00790/laws.FnExactOfVote", spec := "fnExactOfVote", apart := false }
def FnExactOfVoteSaid : Prop := fnExactOfVoteRow.holds Try.pinned (OpenSpec.ofChange fnExactOfVoteSpec)

/-- ITS FALSE NEIGHBOUR: 'it returns false'. Refute it at one input. -/
def fnExactOfVoteWrong : ChangeSpec := { name := "fnExactOfVote", fn := fun _ => fun
  | [d] => { results := [.lit (.bool false)], args := [d] }
  | _ => none }
def FnExactOfVoteWrongFalsely : Prop := fnExactOfVoteRow.holds Try.pinned (OpenSpec.ofChange fnExactOfVoteWrong)

/-- 'laws.FnExactPutVote': WHATEVER THE INPUT: true; the input reads as it did. -/
def fnExactPutVoteSpec : ChangeSpec := { name := "fnExactPutVote", fn := fun _ => fun
  | [d1, d2, d3] => { results := [.lit (.bool true)], args := [d1, d2, d3] }
  | _ => none }
def fnExactPutVoteRow : OpenClaim := { program := "ythaagegnobegjaa", sum := "da05663a7b0bf5fcfe4e36ac41ccbb8fe7dd99f64b34d86eda477d073b0f4806", func := "loop.example/g00790/laws.FnExactPutVote", spec := "fnExactPutVote", apart := false }
def FnExactPutVoteSaid : Prop := fnExactPutVoteRow.holds Try.pinned (OpenSpec.ofChange fnExactPutVoteSpec)

/-- ITS FALSE NEIGHBOUR: 'it returns false'. Refute it at one input. -/
def fnExactPutVoteWrong : ChangeSpec := { name := "fnExactPutVote", fn := fun _ => fun
  | [d1, d2, d3] => { results := [.lit (.bool false)], args := [d1, d2, d3] }
  | _ => none }
def FnExactPutVoteWrongFalsely : Prop := fnExactPutVoteRow.holds Try.pinned (OpenSpec.ofChange fnExactPutVoteWrong)

/-- 'laws.FnExactPutTc': WHATEVER THE INPUT: true; the input reads as it did. -/
def fnExactPutTcSpec : ChangeSpec := { name := "fnExactPutTc", fn := fun _ => fun
  | [d1, d2, d3] => { results := [.lit (.bool true)], args := [d1, d2, d3] }
  | _ => none }
def fnExactPutTcRow : OpenClaim := { program := "ythaagegnobegjaa", sum := "da05663a7b0bf5fcfe4e36ac41ccbb8fe7dd99f64b34d86eda477d073b0f4806", func := "loop.example/g00790/laws.FnExactPutTc", spec := "fnExactPutTc", apart := false }
def FnExactPutTcSaid : Prop := fnExactPutTcRow.holds Try.pinned (OpenSpec.ofChange fnExactPutTcSpec)

/-- ITS FALSE NEIGHBOUR: 'it returns false'. Refute it at one input. -/
def fnExactPutTcWrong : ChangeSpec := { name := "fnExactPutTc", fn := fun _ => fun
  | [d1, d2, d3] => { results := [.lit (.bool false)], args := [d1, d2, d3] }
  | _ => none }
def FnExactPutTcWrongFalsely : Prop := fnExactPutTcRow.holds Try.pinned (OpenSpec.ofChange fnExactPutTcWrong)

/-- 'laws.FnExactPutIncl': WHATEVER THE INPUT: true; the input reads as it did. -/
def fnExactPutInclSpec : ChangeSpec := { name := "fnExactPutIncl", fn := fun _ => fun
  | [d1, d2, d3] => { results := [.lit (.bool true)], args := [d1, d2, d3] }
  | _ => none }
def fnExactPutInclRow : OpenClaim := { program := "ythaagegnobegjaa", sum := "da05663a7b0bf5fcfe4e36ac41ccbb8fe7dd99f64b34d86eda477d073b0f4806", func := "loop.example/g00790/laws.FnExactPutIncl", spec := "fnExactPutIncl", recurses := true, apart := false }
def FnExactPutInclSaid : Prop := fnExactPutInclRow.holds Try.pinned (OpenSpec.ofChange fnExactPutInclSpec)

/-- ITS FALSE NEIGHBOUR: 'it returns false'. Refute it at one input. -/
def fnExactPutInclWrong : ChangeSpec := { name := "fnExactPutIncl", fn := fun _ => fun
  | [d1, d2, d3] => { results := [.lit (.bool false)], args := [d1, d2, d3] }
  | _ => none }
def FnExactPutInclWrongFalsely : Prop := fnExactPutInclRow.holds Try.pinned (OpenSpec.ofChange fnExactPutInclWrong)

/-- 'laws.FnExactPutQc': WHATEVER THE INPUT: true; the input reads as it did. -/
def fnExactPutQcSpec : ChangeSpec := { name := "fnExactPutQc", fn := fun _ => fun
  | [d1, d2, d3] => { results := [.lit (.bool true)], args := [d1, d2, d3] }
  | _ => none }
def fnExactPutQcRow : OpenClaim := { program := "ythaagegnobegjaa", sum := "da05663a7b0bf5fcfe4e36ac41ccbb8fe7dd99f64b34d86eda477d073b0f4806", func := "loop.example/g00790/laws.FnExactPutQc", spec := "fnExactPutQc", apart := false }
def FnExactPutQcSaid : Prop := fnExactPutQcRow.holds Try.pinned (OpenSpec.ofChange fnExactPutQcSpec)

/-- ITS FALSE NEIGHBOUR: 'it returns false'. Refute it at one input. -/
def fnExactPutQcWrong : ChangeSpec := { name := "fnExactPutQc", fn := fun _ => fun
  | [d1, d2, d3] => { results := [.lit (.bool false)], args := [d1, d2, d3] }
  | _ => none }
def FnExactPutQcWrongFalsely : Prop := fnExactPutQcRow.holds Try.pinned (OpenSpec.ofChange fnExactPutQcWrong)

/-- 'laws.FnExactPutHead': WHATEVER THE INPUT: true; the input reads as it did. -/
def fnExactPutHeadSpec : ChangeSpec := { name := "fnExactPutHead", fn := fun _ => fun
  | [d1, d2, d3] => { results := [.lit (.bool true)], args := [d1, d2, d3] }
  | _ => none }
def fnExactPutHeadRow : OpenClaim := { program := "ythaagegnobegjaa", sum := "da05663a7b0bf5fcfe4e36ac41ccbb8fe7dd99f64b34d86eda477d073b0f4806", func := "loop.example/g00790/laws.FnExactPutHead", spec := "fnExactPutHead", apart := false }
def FnExactPutHeadSaid : Prop := fnExactPutHeadRow.holds Try.pinned (OpenSpec.ofChange fnExactPutHeadSpec)

/-- ITS FALSE NEIGHBOUR: 'it returns false'. Refute it at one input. -/
def fnExactPutHeadWrong : ChangeSpec := { name := "fnExactPutHead", fn := fun _ => fun
  | [d1, d2, d3] => { results := [.lit (.bool false)], args := [d1, d2, d3] }
  | _ => none }
def FnExactPutHeadWrongFalsely : Prop := fnExactPutHeadRow.holds Try.pinned (OpenSpec.ofChange fnExactPutHeadWrong)

/-- 'laws.FnExactGetVote': WHATEVER THE INPUT: true; the input reads as it did. -/
def fnExactGetVoteSpec : ChangeSpec := { name := "fnExactGetVote", fn := fun _ => fun
  | [d1, d2, d3] => { results := [.lit (.bool true)], args := [d1, d2, d3] }
  | _ => none }
def fnExactGetVoteRow : OpenClaim := { program := "ythaagegnobegjaa", sum := "da05663a7b0bf5fcfe4e36ac41ccbb8fe7dd99f64b34d86eda477d073b0f4806", func := "loop.example/g00790/laws.FnExactGetVote", spec := "fnExactGetVote", unfollowed := true, recurses := true, apart := false }
def FnExactGetVoteSaid : Prop := fnExactGetVoteRow.holds Try.pinned (OpenSpec.ofChange fnExactGetVoteSpec)

/-- ITS FALSE NEIGHBOUR: 'it returns false'. Refute it at one input. -/
def fnExactGetVoteWrong : ChangeSpec := { name := "fnExactGetVote", fn := fun _ => fun
  | [d1, d2, d3] => { results := [.lit (.bool false)], args := [d1, d2, d3] }
  | _ => none }
def FnExactGetVoteWrongFalsely : Prop := fnExactGetVoteRow.holds Try.pinned (OpenSpec.ofChange fnExactGetVoteWrong)

/-- 'laws.FnExactGetTc': WHATEVER THE INPUT: true; the input reads as it did. -/
def fnExactGetTcSpec : ChangeSpec := { name := "fnExactGetTc", fn := fun _ => fun
  | [d1, d2, d3] => { results := [.lit (.bool true)], args := [d1, d2, d3] }
  | _ => none }
def fnExactGetTcRow : OpenClaim := { program := "ythaagegnobegjaa", sum := "da05663a7b0bf5fcfe4e36ac41ccbb8fe7dd99f64b34d86eda477d073b0f4806", func := "loop.example/g00790/laws.FnExactGetTc", spec := "fnExactGetTc", unfollowed := true, recurses := true, apart := false }
def FnExactGetTcSaid : Prop := fnExactGetTcRow.holds Try.pinned (OpenSpec.ofChange fnExactGetTcSpec)

/-- ITS FALSE NEIGHBOUR: 'it returns false'. Refute it at one input. -/
def fnExactGetTcWrong : ChangeSpec := { name := "fnExactGetTc", fn := fun _ => fun
  | [d1, d2, d3] => { results := [.lit (.bool false)], args := [d1, d2, d3] }
  | _ => none }
def FnExactGetTcWrongFalsely : Prop := fnExactGetTcRow.holds Try.pinned (OpenSpec.ofChange fnExactGetTcWrong)

/-- 'laws.FnExactGetIncl': WHATEVER THE INPUT: true; the input reads as it did. -/
def fnExactGetInclSpec : ChangeSpec := { name := "fnExactGetIncl", fn := fun _ => fun
  | [d1, d2, d3] => { results := [.lit (.bool true)], args := [d1, d2, d3] }
  | _ => none }
def fnExactGetInclRow : OpenClaim := { program := "ythaagegnobegjaa", sum := "da05663a7b0bf5fcfe4e36ac41ccbb8fe7dd99f64b34d86eda477d073b0f4806", func := "loop.example/g00790/laws.FnExactGetIncl", spec := "fnExactGetIncl", unfollowed := true, recurses := true, apart := false }
def FnExactGetInclSaid : Prop := fnExactGetInclRow.holds Try.pinned (OpenSpec.ofChange fnExactGetInclSpec)

/-- ITS FALSE NEIGHBOUR: 'it returns false'. Refute it at one input. -/
def fnExactGetInclWrong : ChangeSpec := { name := "fnExactGetIncl", fn := fun _ => fun
  | [d1, d2, d3] => { results := [.lit (.bool false)], args := [d1, d2, d3] }
  | _ => none }
def FnExactGetInclWrongFalsely : Prop := fnExactGetInclRow.holds Try.pinned (OpenSpec.ofChange fnExactGetInclWrong)

/- THE SECOND FORM. 'bulk': how many values and letters a reading holds, each counted each time it is reached (what is shared counts as often as it is met; a slice's spare places count too). A statement '..UptoSaid' is the law's where the arguments, and the package variables that the reading takes, are together of bulk at most 1048576: NARROWER than '..Said'. Prove '..Said' where nothing that the law and all that it calls make is longer than what came in: it says more and counts as full. Else prove '..UptoSaid'. A law counts once. -/
mutual
def uptoBulk {H : Type} : DataW H → Nat
  | .lit (.string bytes) => bytes.length + 1
  | .lit _ => 1
  | .nil => 1
  | .ptr d => uptoBulk d + 1
  | .slice elems spare => uptoBulkAll elems + uptoBulkAll spare + 1
  | .agg parts => uptoBulkAll parts + 1
  | .iface _ d => uptoBulk d + 1
  | .map entries => uptoBulkEntries entries + 1
  | .held _ => 1
def uptoBulkAll {H : Type} : List (DataW H) → Nat
  | [] => 0
  | d :: r => uptoBulk d + uptoBulkAll r
def uptoBulkEntries {H : Type} : List (Lit × DataW H) → Nat
  | [] => 0
  | x :: r => uptoBulkEntry x + uptoBulkEntries r
def uptoBulkEntry {H : Type} : Lit × DataW H → Nat
  | (.string bytes, d) => bytes.length + uptoBulk d + 1
  | (_, d) => uptoBulk d + 1
 end
def uptoSmall : (H : Type) → List (DataW H) → Bool := fun _ ds => decide (uptoBulkAll ds ≤ 1048576)
def OpenSpec.upto (s : _root_.Go.ChangeSpec) : _root_.Go.OpenSpec := { _root_.Go.OpenSpec.ofChange s with cond := some uptoSmall }

/-- 'laws.FnExactQcVotes', WHERE WHAT IT READS IS OF BULK AT MOST 1048576: true; the input reads as it did. -/
def fnExactQcVotesUptoRow : OpenClaim := { program := "ythaagegnobegjaa", sum := "da05663a7b0bf5fcfe4e36ac41ccbb8fe7dd99f64b34d86eda477d073b0f4806", func := "loop.example/g00790/laws.FnExactQcVotes", spec := "fnExactQcVotes", apart := false, narrowed := true }
def FnExactQcVotesUptoSaid : Prop := fnExactQcVotesUptoRow.holds Try.pinned (OpenSpec.upto fnExactQcVotesSpec)

/-- 'laws.FnExactTcBits', WHERE WHAT IT READS IS OF BULK AT MOST 1048576: true; the input reads as it did. -/
def fnExactTcBitsUptoRow : OpenClaim := { program := "ythaagegnobegjaa", sum := "da05663a7b0bf5fcfe4e36ac41ccbb8fe7dd99f64b34d86eda477d073b0f4806", func := "loop.example/g00790/laws.FnExactTcBits", spec := "fnExactTcBits", apart := false, narrowed := true }
def FnExactTcBitsUptoSaid : Prop := fnExactTcBitsUptoRow.holds Try.pinned (OpenSpec.upto fnExactTcBitsSpec)

/-- 'laws.FnExactQcFrom', WHERE WHAT IT READS IS OF BULK AT MOST 1048576: true; the input reads as it did. -/
def fnExactQcFromUptoRow : OpenClaim := { program := "ythaagegnobegjaa", sum := "da05663a7b0bf5fcfe4e36ac41ccbb8fe7dd99f64b34d86eda477d073b0f4806", func := "loop.example/g00790/laws.FnExactQcFrom", spec := "fnExactQcFrom", apart := false, narrowed := true }
def FnExactQcFromUptoSaid : Prop := fnExactQcFromUptoRow.holds Try.pinned (OpenSpec.upto fnExactQcFromSpec)

/-- 'laws.FnExactOfVote', WHERE WHAT IT READS IS OF BULK AT MOST 1048576: true; the input reads as it did. -/
def fnExactOfVoteUptoRow : OpenClaim := { program := "ythaagegnobegjaa", sum := "da05663a7b0bf5fcfe4e36ac41ccbb8fe7dd99f64b34d86eda477d073b0f4806", func := "loop.example/g00790/laws.FnExactOfVote", spec := "fnExactOfVote", apart := false, narrowed := true }
def FnExactOfVoteUptoSaid : Prop := fnExactOfVoteUptoRow.holds Try.pinned (OpenSpec.upto fnExactOfVoteSpec)

/-- 'laws.FnExactPutVote', WHERE WHAT IT READS IS OF BULK AT MOST 1048576: true; the input reads as it did. -/
def fnExactPutVoteUptoRow : OpenClaim := { program := "ythaagegnobegjaa", sum := "da05663a7b0bf5fcfe4e36ac41ccbb8fe7dd99f64b34d86eda477d073b0f4806", func := "loop.example/g00790/laws.FnExactPutVote", spec := "fnExactPutVote", apart := false, narrowed := true }
def FnExactPutVoteUptoSaid : Prop := fnExactPutVoteUptoRow.holds Try.pinned (OpenSpec.upto fnExactPutVoteSpec)

/-- 'laws.FnExactPutTc', WHERE WHAT IT READS IS OF BULK AT MOST 1048576: true; the input reads as it did. -/
def fnExactPutTcUptoRow : OpenClaim := { program := "ythaagegnobegjaa", sum := "da05663a7b0bf5fcfe4e36ac41ccbb8fe7dd99f64b34d86eda477d073b0f4806", func := "loop.example/g00790/laws.FnExactPutTc", spec := "fnExactPutTc", apart := false, narrowed := true }
def FnExactPutTcUptoSaid : Prop := fnExactPutTcUptoRow.holds Try.pinned (OpenSpec.upto fnExactPutTcSpec)

/-- 'laws.FnExactPutIncl', WHERE WHAT IT READS IS OF BULK AT MOST 1048576: true; the input reads as it did. -/
def fnExactPutInclUptoRow : OpenClaim := { program := "ythaagegnobegjaa", sum := "da05663a7b0bf5fcfe4e36ac41ccbb8fe7dd99f64b34d86eda477d073b0f4806", func := "loop.example/g00790/laws.FnExactPutIncl", spec := "fnExactPutIncl", recurses := true, apart := false, narrowed := true }
def FnExactPutInclUptoSaid : Prop := fnExactPutInclUptoRow.holds Try.pinned (OpenSpec.upto fnExactPutInclSpec)

/-- 'laws.FnExactPutQc', WHERE WHAT IT READS IS OF BULK AT MOST 1048576: true; the input reads as it did. -/
def fnExactPutQcUptoRow : OpenClaim := { program := "ythaagegnobegjaa", sum := "da05663a7b0bf5fcfe4e36ac41ccbb8fe7dd99f64b34d86eda477d073b0f4806", func := "loop.example/g00790/laws.FnExactPutQc", spec := "fnExactPutQc", apart := false, narrowed := true }
def FnExactPutQcUptoSaid : Prop := fnExactPutQcUptoRow.holds Try.pinned (OpenSpec.upto fnExactPutQcSpec)

/-- 'laws.FnExactPutHead', WHERE WHAT IT READS IS OF BULK AT MOST 1048576: true; the input reads as it did. -/
def fnExactPutHeadUptoRow : OpenClaim := { program := "ythaagegnobegjaa", sum := "da05663a7b0bf5fcfe4e36ac41ccbb8fe7dd99f64b34d86eda477d073b0f4806", func := "loop.example/g00790/laws.FnExactPutHead", spec := "fnExactPutHead", apart := false, narrowed := true }
def FnExactPutHeadUptoSaid : Prop := fnExactPutHeadUptoRow.holds Try.pinned (OpenSpec.upto fnExactPutHeadSpec)

/-- 'laws.FnExactGetVote', WHERE WHAT IT READS IS OF BULK AT MOST 1048576: true; the input reads as it did. -/
def fnExactGetVoteUptoRow : OpenClaim := { program := "ythaagegnobegjaa", sum := "da05663a7b0bf5fcfe4e36ac41ccbb8fe7dd99f64b34d86eda477d073b0f4806", func := "loop.example/g00790/laws.FnExactGetVote", spec := "fnExactGetVote", unfollowed := true, recurses := true, apart := false, narrowed := true }
def FnExactGetVoteUptoSaid : Prop := fnExactGetVoteUptoRow.holds Try.pinned (OpenSpec.upto fnExactGetVoteSpec)

/-- 'laws.FnExactGetTc', WHERE WHAT IT READS IS OF BULK AT MOST 1048576: true; the input reads as it did. -/
def fnExactGetTcUptoRow : OpenClaim := { program := "ythaagegnobegjaa", sum := "da05663a7b0bf5fcfe4e36ac41ccbb8fe7dd99f64b34d86eda477d073b0f4806", func := "loop.example/g00790/laws.FnExactGetTc", spec := "fnExactGetTc", unfollowed := true, recurses := true, apart := false, narrowed := true }
def FnExactGetTcUptoSaid : Prop := fnExactGetTcUptoRow.holds Try.pinned (OpenSpec.upto fnExactGetTcSpec)

/-- 'laws.FnExactGetIncl', WHERE WHAT IT READS IS OF BULK AT MOST 1048576: true; the input reads as it did. -/
def fnExactGetInclUptoRow : OpenClaim := { program := "ythaagegnobegjaa", sum := "da05663a7b0bf5fcfe4e36ac41ccbb8fe7dd99f64b34d86eda477d073b0f4806", func := "loop.example/g00790/laws.FnExactGetIncl", spec := "fnExactGetIncl", unfollowed := true, recurses := true, apart := false, narrowed := true }
def FnExactGetInclUptoSaid : Prop := fnExactGetInclUptoRow.holds Try.pinned (OpenSpec.upto fnExactGetInclSpec)

end Rows
end Go.Proofs.Ythaagegnobegjaa
