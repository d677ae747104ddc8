/-
  No cell of these rows narrows 'for every input' (looked for: loops, veiled, ifaces, maps, wideKeys, modest, calm, conditions, laid).
  DERIVED. THE GIVEN ROWS OF THIS SEAT. 12 by the template 'for every input the law returns true; each argument reads behind the call as it read before'; 0 by the template 'total and deterministic' (their statements: YthabpfhhfnibgaaTotals.lean).
  GIVEN WITH THE SEED: the statements are not yours to turn. If you find one false, say at which input.
  Laid BY PROGRAM, IN A SANDBOX (cutbox-rows.mjs): the forced cells as the released guide's own fill.sh prints them over the translation 8309b78ceb0b5946… (all of the seat's roots in one cut). By AI agents, Wed Nov 11 2026. No macro, syntax, notation, axiom, sorry.
-/
import Derived.Test.YthabpfhhfnibgaaChecked
import GoSem.Claim
import GoSem.ClaimJoined
import GoSem.ClaimMapViews
import Derived.JoinedTies
import Derived.KernelRfl
namespace Go.Proofs.Ythabpfhhfnibgaa
/- THE CELL 'sum', in the pinned program and in every row, IS THE sha256 OF THE DUMP (.gsa) THAT YthabpfhhfnibgaaProg.lean LOADS. Nothing in Lean hashes anything: it is a label: what it is worth is what the hold of that sum in a sandbox is worth. -/
noncomputable def Try.pinned : Pinned := { name := "ythabpfhhfnibgaa", sum := "8309b78ceb0b5946e55f4fdae4cf99c831749c086082d1c83f1c1f945545bc0f", checked := Try.checked }
namespace Rows
def none {H : Type} : Left H := { results := [], args := [] }

/-- 'laws.FnExactKindName': WHATEVER THE INPUT: true; the input reads as it did. -/
def fnExactKindNameSpec : ChangeSpec := { name := "fnExactKindName", fn := fun _ => fun
  | [d] => { results := [.lit (.bool true)], args := [d] }
  | _ => none }
def fnExactKindNameRow : OpenClaim := { program := "ythabpfhhfnibgaa", sum := "8309b78ceb0b5946e55f4fdae4cf99c831749c086082d1c83f1c1f945545bc0f", func := "loop.example/g00790/laws.FnExactKindName", spec := "fnExactKindName", apart := false }
def FnExactKindNameSaid : Prop := fnExactKindNameRow.holds Try.pinned (OpenSpec.ofChange fnExactKindNameSpec)

/-- ITS FALSE NEIGHBOUR: 'it returns false'. Refute it at one input. -/
def fnExactKindNameWrong : ChangeSpec := { name := "fnExactKindName", fn := fun _ => fun
  | [d] => { results := [.lit (.bool false)], args := [d] }
  | _ => none }
def FnExactKindNameWrongFalsely : Prop := fnExactKindNameRow.holds Try.pinned (OpenSpec.ofChange fnExactKindNameWrong)

/-- 'laws.FnExactLimitsOk': WHATEVER THE INPUT: true; the input reads as it did. -/
def fnExactLimitsOkSpec : ChangeSpec := { name := "fnExactLimitsOk", fn := fun _ => fun
  | [d] => { results := [.lit (.bool true)], args := [d] }
  | _ => none }
def fnExactLimitsOkRow : OpenClaim := { program := "ythabpfhhfnibgaa", sum := "8309b78ceb0b5946e55f4fdae4cf99c831749c086082d1c83f1c1f945545bc0f", func := "loop.example/g00790/laws.FnExactLimitsOk", spec := "fnExactLimitsOk", apart := false }
def FnExactLimitsOkSaid : Prop := fnExactLimitsOkRow.holds Try.pinned (OpenSpec.ofChange fnExactLimitsOkSpec)

/-- ITS FALSE NEIGHBOUR: 'it returns false'. Refute it at one input. -/
def fnExactLimitsOkWrong : ChangeSpec := { name := "fnExactLimitsOk", fn := fun _ => fun
  | [d] => { results := [.lit (.bool false)], args := [d] }
  | _ => none }
def FnExactLimitsOkWrongFalsely : Prop := fnExactLimitsOkRow.holds Try.pinned (OpenSpec.ofChange fnExactLimitsOkWrong)

/-- 'laws.FnExactConsLen': WHATEVER THE INPUT: true; the input reads as it did. -/
def fnExactConsLenSpec : ChangeSpec := { name := "fnExactConsLen", fn := fun _ => fun
  | [d1, d2] => { results := [.lit (.bool true)], args := [d1, d2] }
  | _ => none }
def fnExactConsLenRow : OpenClaim := { program := "ythabpfhhfnibgaa", sum := "8309b78ceb0b5946e55f4fdae4cf99c831749c086082d1c83f1c1f945545bc0f", func := "loop.example/g00790/laws.FnExactConsLen", spec := "fnExactConsLen", recurses := true, apart := false }
def FnExactConsLenSaid : Prop := fnExactConsLenRow.holds Try.pinned (OpenSpec.ofChange fnExactConsLenSpec)

/-- ITS FALSE NEIGHBOUR: 'it returns false'. Refute it at one input. -/
def fnExactConsLenWrong : ChangeSpec := { name := "fnExactConsLen", fn := fun _ => fun
  | [d1, d2] => { results := [.lit (.bool false)], args := [d1, d2] }
  | _ => none }
def FnExactConsLenWrongFalsely : Prop := fnExactConsLenRow.holds Try.pinned (OpenSpec.ofChange fnExactConsLenWrong)

/-- 'laws.FnExactVoteSame': WHATEVER THE INPUT: true; the input reads as it did. -/
def fnExactVoteSameSpec : ChangeSpec := { name := "fnExactVoteSame", fn := fun _ => fun
  | [d1, d2] => { results := [.lit (.bool true)], args := [d1, d2] }
  | _ => none }
def fnExactVoteSameRow : OpenClaim := { program := "ythabpfhhfnibgaa", sum := "8309b78ceb0b5946e55f4fdae4cf99c831749c086082d1c83f1c1f945545bc0f", func := "loop.example/g00790/laws.FnExactVoteSame", spec := "fnExactVoteSame", apart := false }
def FnExactVoteSameSaid : Prop := fnExactVoteSameRow.holds Try.pinned (OpenSpec.ofChange fnExactVoteSameSpec)

/-- ITS FALSE NEIGHBOUR: 'it returns false'. Refute it at one input. -/
def fnExactVoteSameWrong : ChangeSpec := { name := "fnExactVoteSame", fn := fun _ => fun
  | [d1, d2] => { results := [.lit (.bool false)], args := [d1, d2] }
  | _ => none }
def FnExactVoteSameWrongFalsely : Prop := fnExactVoteSameRow.holds Try.pinned (OpenSpec.ofChange fnExactVoteSameWrong)

/-- 'laws.FnExactVoteOk': WHATEVER THE INPUT: true; the input reads as it did. -/
def fnExactVoteOkSpec : ChangeSpec := { name := "fnExactVoteOk", fn := fun _ => fun
  | [d1, d2] => { results := [.lit (.bool true)], args := [d1, d2] }
  | _ => none }
def fnExactVoteOkRow : OpenClaim := { program := "ythabpfhhfnibgaa", sum := "8309b78ceb0b5946e55f4fdae4cf99c831749c086082d1c83f1c1f945545bc0f", func := "loop.example/g00790/laws.FnExactVoteOk", spec := "fnExactVoteOk", apart := false }
def FnExactVoteOkSaid : Prop := fnExactVoteOkRow.holds Try.pinned (OpenSpec.ofChange fnExactVoteOkSpec)

/-- ITS FALSE NEIGHBOUR: 'it returns false'. Refute it at one input. -/
def fnExactVoteOkWrong : ChangeSpec := { name := "fnExactVoteOk", fn := fun _ => fun
  | [d1, d2] => { results := [.lit (.bool false)], args := [d1, d2] }
  | _ => none }
def FnExactVoteOkWrongFalsely : Prop := fnExactVoteOkRow.holds Try.pinned (OpenSpec.ofChange fnExactVoteOkWrong)

/-- 'laws.FnExactTcHigh': WHATEVER THE INPUT: true; the input reads as it did. -/
def fnExactTcHighSpec : ChangeSpec := { name := "fnExactTcHigh", fn := fun _ => fun
  | [d] => { results := [.lit (.bool true)], args := [d] }
  | _ => none }
def fnExactTcHighRow : OpenClaim := { program := "ythabpfhhfnibgaa", sum := "8309b78ceb0b5946e55f4fdae4cf99c831749c086082d1c83f1c1f945545bc0f", func := "loop.example/g00790/laws.FnExactTcHigh", spec := "fnExactTcHigh", apart := false }
def FnExactTcHighSaid : Prop := fnExactTcHighRow.holds Try.pinned (OpenSpec.ofChange fnExactTcHighSpec)

/-- ITS FALSE NEIGHBOUR: 'it returns false'. Refute it at one input. -/
def fnExactTcHighWrong : ChangeSpec := { name := "fnExactTcHigh", fn := fun _ => fun
  | [d] => { results := [.lit (.bool false)], args := [d] }
  | _ => none }
def FnExactTcHighWrongFalsely : Prop := fnExactTcHighRow.holds Try.pinned (OpenSpec.ofChange fnExactTcHighWrong)

/-- 'laws.FnExactInclSame': WHATEVER THE INPUT: true; the input reads as it did. -/
def fnExactInclSameSpec : ChangeSpec := { name := "fnExactInclSame", fn := fun _ => fun
  | [d1, d2] => { results := [.lit (.bool true)], args := [d1, d2] }
  | _ => none }
def fnExactInclSameRow : OpenClaim := { program := "ythabpfhhfnibgaa", sum := "8309b78ceb0b5946e55f4fdae4cf99c831749c086082d1c83f1c1f945545bc0f", func := "loop.example/g00790/laws.FnExactInclSame", spec := "fnExactInclSame", apart := false }
def FnExactInclSameSaid : Prop := fnExactInclSameRow.holds Try.pinned (OpenSpec.ofChange fnExactInclSameSpec)

/-- ITS FALSE NEIGHBOUR: 'it returns false'. Refute it at one input. -/
def fnExactInclSameWrong : ChangeSpec := { name := "fnExactInclSame", fn := fun _ => fun
  | [d1, d2] => { results := [.lit (.bool false)], args := [d1, d2] }
  | _ => none }
def FnExactInclSameWrongFalsely : Prop := fnExactInclSameRow.holds Try.pinned (OpenSpec.ofChange fnExactInclSameWrong)

/-- 'laws.FnCons': WHATEVER THE INPUT: true; the input reads as it did. -/
def fnConsSpec : ChangeSpec := { name := "fnCons", fn := fun _ => fun
  | [d] => { results := [.lit (.bool true)], args := [d] }
  | _ => none }
def fnConsRow : OpenClaim := { program := "ythabpfhhfnibgaa", sum := "8309b78ceb0b5946e55f4fdae4cf99c831749c086082d1c83f1c1f945545bc0f", func := "loop.example/g00790/laws.FnCons", spec := "fnCons", recurses := true, apart := false }
def FnConsSaid : Prop := fnConsRow.holds Try.pinned (OpenSpec.ofChange fnConsSpec)

/-- ITS FALSE NEIGHBOUR: 'it returns false'. Refute it at one input. -/
def fnConsWrong : ChangeSpec := { name := "fnCons", fn := fun _ => fun
  | [d] => { results := [.lit (.bool false)], args := [d] }
  | _ => none }
def FnConsWrongFalsely : Prop := fnConsRow.holds Try.pinned (OpenSpec.ofChange fnConsWrong)

/-- 'laws.FnExactQcSame': WHATEVER THE INPUT: true; the input reads as it did. -/
def fnExactQcSameSpec : ChangeSpec := { name := "fnExactQcSame", fn := fun _ => fun
  | [d1, d2] => { results := [.lit (.bool true)], args := [d1, d2] }
  | _ => none }
def fnExactQcSameRow : OpenClaim := { program := "ythabpfhhfnibgaa", sum := "8309b78ceb0b5946e55f4fdae4cf99c831749c086082d1c83f1c1f945545bc0f", func := "loop.example/g00790/laws.FnExactQcSame", spec := "fnExactQcSame", apart := false }
def FnExactQcSameSaid : Prop := fnExactQcSameRow.holds Try.pinned (OpenSpec.ofChange fnExactQcSameSpec)

/-- ITS FALSE NEIGHBOUR: 'it returns false'. Refute it at one input. -/
def fnExactQcSameWrong : ChangeSpec := { name := "fnExactQcSame", fn := fun _ => fun
  | [d1, d2] => { results := [.lit (.bool false)], args := [d1, d2] }
  | _ => none }
def FnExactQcSameWrongFalsely : Prop := fnExactQcSameRow.holds Try.pinned (OpenSpec.ofChange fnExactQcSameWrong)

/-- 'laws.FnExactTcSame': WHATEVER THE INPUT: true; the input reads as it did. -/
def fnExactTcSameSpec : ChangeSpec := { name := "fnExactTcSame", fn := fun _ => fun
  | [d1, d2] => { results := [.lit (.bool true)], args := [d1, d2] }
  | _ => none }
def fnExactTcSameRow : OpenClaim := { program := "ythabpfhhfnibgaa", sum := "8309b78ceb0b5946e55f4fdae4cf99c831749c086082d1c83f1c1f945545bc0f", func := "loop.example/g00790/laws.FnExactTcSame", spec := "fnExactTcSame", apart := false }
def FnExactTcSameSaid : Prop := fnExactTcSameRow.holds Try.pinned (OpenSpec.ofChange fnExactTcSameSpec)

/-- ITS FALSE NEIGHBOUR: 'it returns false'. Refute it at one input. -/
def fnExactTcSameWrong : ChangeSpec := { name := "fnExactTcSame", fn := fun _ => fun
  | [d1, d2] => { results := [.lit (.bool false)], args := [d1, d2] }
  | _ => none }
def FnExactTcSameWrongFalsely : Prop := fnExactTcSameRow.holds Try.pinned (OpenSpec.ofChange fnExactTcSameWrong)

/-- 'laws.FnExactFrame': WHATEVER THE INPUT: true; the input reads as it did. -/
def fnExactFrameSpec : ChangeSpec := { name := "fnExactFrame", fn := fun _ => fun
  | [d1, d2] => { results := [.lit (.bool true)], args := [d1, d2] }
  | _ => none }
def fnExactFrameRow : OpenClaim := { program := "ythabpfhhfnibgaa", sum := "8309b78ceb0b5946e55f4fdae4cf99c831749c086082d1c83f1c1f945545bc0f", func := "loop.example/g00790/laws.FnExactFrame", spec := "fnExactFrame", apart := false }
def FnExactFrameSaid : Prop := fnExactFrameRow.holds Try.pinned (OpenSpec.ofChange fnExactFrameSpec)

/-- ITS FALSE NEIGHBOUR: 'it returns false'. Refute it at one input. -/
def fnExactFrameWrong : ChangeSpec := { name := "fnExactFrame", fn := fun _ => fun
  | [d1, d2] => { results := [.lit (.bool false)], args := [d1, d2] }
  | _ => none }
def FnExactFrameWrongFalsely : Prop := fnExactFrameRow.holds Try.pinned (OpenSpec.ofChange fnExactFrameWrong)

/-- 'laws.FnExactFrameAt': WHATEVER THE INPUT: true; the input reads as it did. -/
def fnExactFrameAtSpec : ChangeSpec := { name := "fnExactFrameAt", fn := fun _ => fun
  | [d1, d2, d3] => { results := [.lit (.bool true)], args := [d1, d2, d3] }
  | _ => none }
def fnExactFrameAtRow : OpenClaim := { program := "ythabpfhhfnibgaa", sum := "8309b78ceb0b5946e55f4fdae4cf99c831749c086082d1c83f1c1f945545bc0f", func := "loop.example/g00790/laws.FnExactFrameAt", spec := "fnExactFrameAt", apart := false }
def FnExactFrameAtSaid : Prop := fnExactFrameAtRow.holds Try.pinned (OpenSpec.ofChange fnExactFrameAtSpec)

/-- ITS FALSE NEIGHBOUR: 'it returns false'. Refute it at one input. -/
def fnExactFrameAtWrong : ChangeSpec := { name := "fnExactFrameAt", fn := fun _ => fun
  | [d1, d2, d3] => { results := [.lit (.bool false)], args := [d1, d2, d3] }
  | _ => none }
def FnExactFrameAtWrongFalsely : Prop := fnExactFrameAtRow.holds Try.pinned (OpenSpec.ofChange fnExactFrameAtWrong)

/- THE SECOND FORM. 'bulk': how many values and letters a reading holds, each counted each time it is reached (what is shared counts as often as it is met; a slice's spare places count too). A statement '..UptoSaid' is the law's where the arguments, and the package variables that the reading takes, are together of bulk at most 1048576: NARROWER than '..Said'. Prove '..Said' where nothing that the law and all that it calls make is longer than what came in: it says more and counts as full. Else prove '..UptoSaid'. A law counts once. -/
mutual
def uptoBulk {H : Type} : DataW H → Nat
  | .lit (.string bytes) => bytes.length + 1
  | .lit _ => 1
  | .nil => 1
  | .ptr d => uptoBulk d + 1
  | .slice elems spare => uptoBulkAll elems + uptoBulkAll spare + 1
  | .agg parts => uptoBulkAll parts + 1
  | .iface _ d => uptoBulk d + 1
  | .map entries => uptoBulkEntries entries + 1
  | .held _ => 1
def uptoBulkAll {H : Type} : List (DataW H) → Nat
  | [] => 0
  | d :: r => uptoBulk d + uptoBulkAll r
def uptoBulkEntries {H : Type} : List (Lit × DataW H) → Nat
  | [] => 0
  | x :: r => uptoBulkEntry x + uptoBulkEntries r
def uptoBulkEntry {H : Type} : Lit × DataW H → Nat
  | (.string bytes, d) => bytes.length + uptoBulk d + 1
  | (_, d) => uptoBulk d + 1
 end
def uptoSmall : (H : Type) → List (DataW H) → Bool := fun _ ds => decide (uptoBulkAll ds ≤ 1048576)
def OpenSpec.upto (s : _root_.Go.ChangeSpec) : _root_.Go.OpenSpec := { _root_.Go.OpenSpec.ofChange s with cond := some uptoSmall }

/-- 'laws.FnExactKindName', WHERE WHAT IT READS IS OF BULK AT MOST 1048576: true; the input reads as it did. -/
def fnExactKindNameUptoRow : OpenClaim := { program := "ythabpfhhfnibgaa", sum := "8309b78ceb0b5946e55f4fdae4cf99c831749c086082d1c83f1c1f945545bc0f", func := "loop.example/g00790/laws.FnExactKindName", spec := "fnExactKindName", apart := false, narrowed := true }
def FnExactKindNameUptoSaid : Prop := fnExactKindNameUptoRow.holds Try.pinned (OpenSpec.upto fnExactKindNameSpec)

/-- 'laws.FnExactLimitsOk', WHERE WHAT IT READS IS OF BULK AT MOST 1048576: true; the input reads as it did. -/
def fnExactLimitsOkUptoRow : OpenClaim := { program := "ythabpfhhfnibgaa", sum := "8309b78ceb0b5946e55f4fdae4cf99c831749c086082d1c83f1c1f945545bc0f", func := "loop.example/g00790/laws.FnExactLimitsOk", spec := "fnExactLimitsOk", apart := false, narrowed := true }
def FnExactLimitsOkUptoSaid : Prop := fnExactLimitsOkUptoRow.holds Try.pinned (OpenSpec.upto fnExactLimitsOkSpec)

/-- 'laws.FnExactConsLen', WHERE WHAT IT READS IS OF BULK AT MOST 1048576: true; the input reads as it did. -/
def fnExactConsLenUptoRow : OpenClaim := { program := "ythabpfhhfnibgaa", sum := "8309b78ceb0b5946e55f4fdae4cf99c831749c086082d1c83f1c1f945545bc0f", func := "loop.example/g00790/laws.FnExactConsLen", spec := "fnExactConsLen", recurses := true, apart := false, narrowed := true }
def FnExactConsLenUptoSaid : Prop := fnExactConsLenUptoRow.holds Try.pinned (OpenSpec.upto fnExactConsLenSpec)

/-- 'laws.FnExactVoteSame', WHERE WHAT IT READS IS OF BULK AT MOST 1048576: true; the input reads as it did. -/
def fnExactVoteSameUptoRow : OpenClaim := { program := "ythabpfhhfnibgaa", sum := "8309b78ceb0b5946e55f4fdae4cf99c831749c086082d1c83f1c1f945545bc0f", func := "loop.example/g00790/laws.FnExactVoteSame", spec := "fnExactVoteSame", apart := false, narrowed := true }
def FnExactVoteSameUptoSaid : Prop := fnExactVoteSameUptoRow.holds Try.pinned (OpenSpec.upto fnExactVoteSameSpec)

/-- 'laws.FnExactVoteOk', WHERE WHAT IT READS IS OF BULK AT MOST 1048576: true; the input reads as it did. -/
def fnExactVoteOkUptoRow : OpenClaim := { program := "ythabpfhhfnibgaa", sum := "8309b78ceb0b5946e55f4fdae4cf99c831749c086082d1c83f1c1f945545bc0f", func := "loop.example/g00790/laws.FnExactVoteOk", spec := "fnExactVoteOk", apart := false, narrowed := true }
def FnExactVoteOkUptoSaid : Prop := fnExactVoteOkUptoRow.holds Try.pinned (OpenSpec.upto fnExactVoteOkSpec)

/-- 'laws.FnExactTcHigh', WHERE WHAT IT READS IS OF BULK AT MOST 1048576: true; the input reads as it did. -/
def fnExactTcHighUptoRow : OpenClaim := { program := "ythabpfhhfnibgaa", sum := "8309b78ceb0b5946e55f4fdae4cf99c831749c086082d1c83f1c1f945545bc0f", func := "loop.example/g00790/laws.FnExactTcHigh", spec := "fnExactTcHigh", apart := false, narrowed := true }
def FnExactTcHighUptoSaid : Prop := fnExactTcHighUptoRow.holds Try.pinned (OpenSpec.upto fnExactTcHighSpec)

/-- 'laws.FnExactInclSame', WHERE WHAT IT READS IS OF BULK AT MOST 1048576: true; the input reads as it did. -/
def fnExactInclSameUptoRow : OpenClaim := { program := "ythabpfhhfnibgaa", sum := "8309b78ceb0b5946e55f4fdae4cf99c831749c086082d1c83f1c1f945545bc0f", func := "loop.example/g00790/laws.FnExactInclSame", spec := "fnExactInclSame", apart := false, narrowed := true }
def FnExactInclSameUptoSaid : Prop := fnExactInclSameUptoRow.holds Try.pinned (OpenSpec.upto fnExactInclSameSpec)

/-- 'laws.FnCons', WHERE WHAT IT READS IS OF BULK AT MOST 1048576: true; the input reads as it did. -/
def fnConsUptoRow : OpenClaim := { program := "ythabpfhhfnibgaa", sum := "8309b78ceb0b5946e55f4fdae4cf99c831749c086082d1c83f1c1f945545bc0f", func := "loop.example/g00790/laws.FnCons", spec := "fnCons", recurses := true, apart := false, narrowed := true }
def FnConsUptoSaid : Prop := fnConsUptoRow.holds Try.pinned (OpenSpec.upto fnConsSpec)

/-- 'laws.FnExactQcSame', WHERE WHAT IT READS IS OF BULK AT MOST 1048576: true; the input reads as it did. -/
def fnExactQcSameUptoRow : OpenClaim := { program := "ythabpfhhfnibgaa", sum := "8309b78ceb0b5946e55f4fdae4cf99c831749c086082d1c83f1c1f945545bc0f", func := "loop.example/g00790/laws.FnExactQcSame", spec := "fnExactQcSame", apart := false, narrowed := true }
def FnExactQcSameUptoSaid : Prop := fnExactQcSameUptoRow.holds Try.pinned (OpenSpec.upto fnExactQcSameSpec)

/-- 'laws.FnExactTcSame', WHERE WHAT IT READS IS OF BULK AT MOST 1048576: true; the input reads as it did. -/
def fnExactTcSameUptoRow : OpenClaim := { program := "ythabpfhhfnibgaa", sum := "8309b78ceb0b5946e55f4fdae4cf99c831749c086082d1c83f1c1f945545bc0f", func := "loop.example/g00790/laws.FnExactTcSame", spec := "fnExactTcSame", apart := false, narrowed := true }
def FnExactTcSameUptoSaid : Prop := fnExactTcSameUptoRow.holds Try.pinned (OpenSpec.upto fnExactTcSameSpec)

/-- 'laws.FnExactFrame', WHERE WHAT IT READS IS OF BULK AT MOST 1048576: true; the input reads as it did. -/
def fnExactFrameUptoRow : OpenClaim := { program := "ythabpfhhfnibgaa", sum := "8309b78ceb0b5946e55f4fdae4cf99c831749c086082d1c83f1c1f945545bc0f", func := "loop.example/g00790/laws.FnExactFrame", spec := "fnExactFrame", apart := false, narrowed := true }
def FnExactFrameUptoSaid : Prop := fnExactFrameUptoRow.holds Try.pinned (OpenSpec.upto fnExactFrameSpec)

/-- 'laws.FnExactFrameAt', WHERE WHAT IT READS IS OF BULK AT MOST 1048576: true; the input reads as it did. -/
def fnExactFrameAtUptoRow : OpenClaim := { program := "ythabpfhhfnibgaa", sum := "8309b78ceb0b5946e55f4fdae4cf99c831749c086082d1c83f1c1f945545bc0f", func := "loop.example/g00790/laws.FnExactFrameAt", spec := "fnExactFrameAt", apart := false, narrowed := true }
def FnExactFrameAtUptoSaid : Prop := fnExactFrameAtUptoRow.holds Try.pinned (OpenSpec.upto fnExactFrameAtSpec)

end Rows
end Go.Proofs.Ythabpfhhfnibgaa
