/-
  No cell of these rows narrows 'for every input' (looked for: loops, veiled, ifaces, maps, wideKeys, modest, calm, conditions, laid).
  DERIVED. THE GIVEN ROWS OF THIS SEAT. 5 by the template 'for every input the law returns true; each argument reads behind the call as it read before'; 0 by the template 'total and deterministic' (their statements: YtppldhkkhadngaaTotals.lean).
  GIVEN WITH THE SEED: the statements are not yours to turn. If you find one false, say at which input.
  Laid BY PROGRAM, IN A SANDBOX (cutbox-rows.mjs): the forced cells as the released guide's own fill.sh prints them over the translation d2b2d53bd722ccce… (all of the seat's roots in one cut). By AI agents, Wed Nov 11 2026. No macro, syntax, notation, axiom, sorry.
-/
import Derived.Test.YtppldhkkhadngaaChecked
import GoSem.Claim
import GoSem.ClaimJoined
import GoSem.ClaimMapViews
import Derived.JoinedTies
import Derived.KernelRfl
namespace Go.Proofs.Ytppldhkkhadngaa
/- THE CELL 'sum', in the pinned program and in every row, IS THE sha256 OF THE DUMP (.gsa) THAT YtppldhkkhadngaaProg.lean LOADS. Nothing in Lean hashes anything: it is a label: what it is worth is what the hold of that sum in a sandbox is worth. -/
noncomputable def Try.pinned : Pinned := { name := "ytppldhkkhadngaa", sum := "d2b2d53bd722cccefda4e3f089fe1e5e95845ae22e9a3f949cbd2971783eb5b6", checked := Try.checked }
namespace Rows
def none {H : Type} : Left H := { results := [], args := [] }

/-- 'laws.FnExactOfVote': WHATEVER THE INPUT: true; the input reads as it did. -/
def fnExactOfVoteSpec : ChangeSpec := { name := "fnExactOfVote", fn := fun _ => fun
  | [d] => { results := [.lit (.bool true)], args := [d] }
  | _ => none }
def fnExactOfVoteRow : OpenClaim := { program := "ytppldhkkhadngaa", sum := "d2b2d53bd722cccefda4e3f089fe1e5e95845ae22e9a3f949cbd2971783eb5b6", func := "loop.example/g00790/laws.FnExactOfVote", spec := "fnExactOfVote", apart := false }
def FnExactOfVoteSaid : Prop := fnExactOfVoteRow.holds Try.pinned (OpenSpec.ofChange fnExactOfVoteSpec)

/-- ITS FALSE NEIGHBOUR: 'it returns false'. Refute it at one input. -/
def fnExactOfVoteWrong : ChangeSpec := { name := "fnExactOfVote", fn := fun _ => fun
  | [d] => { results := [.lit (.bool false)], args := [d] }
  | _ => none }
def FnExactOfVoteWrongFalsely : Prop := fnExactOfVoteRow.holds Try.pinned (OpenSpec.ofChange fnExactOfVoteWrong)

/-- 'laws.FnExactMsgSame': WHATEVER THE INPUT: true; the input reads as it did. -/
def fnExactMsgSameSpec : ChangeSpec := { name := "fnExactMsgSame", fn := fun _ => fun
  | [d1, d2] => { results := [.lit (.bool true)], args := [d1, d2] }
  | _ => none }
def fnExactMsgSameRow : OpenClaim := { program := "ytppldhkkhadngaa", sum := "d2b2d53bd722cccefda4e3f089fe1e5e95845ae22e9a3f949cbd2971783eb5b6", func := "loop.example/g00790/laws.FnExactMsgSame", spec := "fnExactMsgSame", apart := false }
def FnExactMsgSameSaid : Prop := fnExactMsgSameRow.holds Try.pinned (OpenSpec.ofChange fnExactMsgSameSpec)

/-- ITS FALSE NEIGHBOUR: 'it returns false'. Refute it at one input. -/
def fnExactMsgSameWrong : ChangeSpec := { name := "fnExactMsgSame", fn := fun _ => fun
  | [d1, d2] => { results := [.lit (.bool false)], args := [d1, d2] }
  | _ => none }
def FnExactMsgSameWrongFalsely : Prop := fnExactMsgSameRow.holds Try.pinned (OpenSpec.ofChange fnExactMsgSameWrong)

/-- 'laws.FnExactEventSame': WHATEVER THE INPUT: true; the input reads as it did. -/
def fnExactEventSameSpec : ChangeSpec := { name := "fnExactEventSame", fn := fun _ => fun
  | [d1, d2] => { results := [.lit (.bool true)], args := [d1, d2] }
  | _ => none }
def fnExactEventSameRow : OpenClaim := { program := "ytppldhkkhadngaa", sum := "d2b2d53bd722cccefda4e3f089fe1e5e95845ae22e9a3f949cbd2971783eb5b6", func := "loop.example/g00790/laws.FnExactEventSame", spec := "fnExactEventSame", apart := false }
def FnExactEventSameSaid : Prop := fnExactEventSameRow.holds Try.pinned (OpenSpec.ofChange fnExactEventSameSpec)

/-- ITS FALSE NEIGHBOUR: 'it returns false'. Refute it at one input. -/
def fnExactEventSameWrong : ChangeSpec := { name := "fnExactEventSame", fn := fun _ => fun
  | [d1, d2] => { results := [.lit (.bool false)], args := [d1, d2] }
  | _ => none }
def FnExactEventSameWrongFalsely : Prop := fnExactEventSameRow.holds Try.pinned (OpenSpec.ofChange fnExactEventSameWrong)

/-- 'laws.FnExactEventsSame': WHATEVER THE INPUT: true; the input reads as it did. -/
def fnExactEventsSameSpec : ChangeSpec := { name := "fnExactEventsSame", fn := fun _ => fun
  | [d1, d2] => { results := [.lit (.bool true)], args := [d1, d2] }
  | _ => none }
def fnExactEventsSameRow : OpenClaim := { program := "ytppldhkkhadngaa", sum := "d2b2d53bd722cccefda4e3f089fe1e5e95845ae22e9a3f949cbd2971783eb5b6", func := "loop.example/g00790/laws.FnExactEventsSame", spec := "fnExactEventsSame", apart := false }
def FnExactEventsSameSaid : Prop := fnExactEventsSameRow.holds Try.pinned (OpenSpec.ofChange fnExactEventsSameSpec)

/-- ITS FALSE NEIGHBOUR: 'it returns false'. Refute it at one input. -/
def fnExactEventsSameWrong : ChangeSpec := { name := "fnExactEventsSame", fn := fun _ => fun
  | [d1, d2] => { results := [.lit (.bool false)], args := [d1, d2] }
  | _ => none }
def FnExactEventsSameWrongFalsely : Prop := fnExactEventsSameRow.holds Try.pinned (OpenSpec.ofChange fnExactEventsSameWrong)

/-- 'laws.FnExactFrameData': WHATEVER THE INPUT: true; the input reads as it did. -/
def fnExactFrameDataSpec : ChangeSpec := { name := "fnExactFrameData", fn := fun _ => fun
  | [d1, d2, d3] => { results := [.lit (.bool true)], args := [d1, d2, d3] }
  | _ => none }
def fnExactFrameDataRow : OpenClaim := { program := "ytppldhkkhadngaa", sum := "d2b2d53bd722cccefda4e3f089fe1e5e95845ae22e9a3f949cbd2971783eb5b6", func := "loop.example/g00790/laws.FnExactFrameData", spec := "fnExactFrameData", apart := false }
def FnExactFrameDataSaid : Prop := fnExactFrameDataRow.holds Try.pinned (OpenSpec.ofChange fnExactFrameDataSpec)

/-- ITS FALSE NEIGHBOUR: 'it returns false'. Refute it at one input. -/
def fnExactFrameDataWrong : ChangeSpec := { name := "fnExactFrameData", fn := fun _ => fun
  | [d1, d2, d3] => { results := [.lit (.bool false)], args := [d1, d2, d3] }
  | _ => none }
def FnExactFrameDataWrongFalsely : Prop := fnExactFrameDataRow.holds Try.pinned (OpenSpec.ofChange fnExactFrameDataWrong)

/- THE SECOND FORM. 'bulk': how many values and letters a reading holds, each counted each time it is reached (what is shared counts as often as it is met; a slice's spare places count too). A statement '..UptoSaid' is the law's where the arguments, and the package variables that the reading takes, are together of bulk at most 1048576: NARROWER than '..Said'. Prove '..Said' where nothing that the law and all that it calls make is longer than what came in: it says more and counts as full. Else prove '..UptoSaid'. A law counts once. -/
mutual
def uptoBulk {H : Type} : DataW H → Nat
  | .lit (.string bytes) => bytes.length + 1
  | .lit _ => 1
  | .nil => 1
  | .ptr d => uptoBulk d + 1
  | .slice elems spare => uptoBulkAll elems + uptoBulkAll spare + 1
  | .agg parts => uptoBulkAll parts + 1
  | .iface _ d => uptoBulk d + 1
  | .map entries => uptoBulkEntries entries + 1
  | .held _ => 1
def uptoBulkAll {H : Type} : List (DataW H) → Nat
  | [] => 0
  | d :: r => uptoBulk d + uptoBulkAll r
def uptoBulkEntries {H : Type} : List (Lit × DataW H) → Nat
  | [] => 0
  | x :: r => uptoBulkEntry x + uptoBulkEntries r
def uptoBulkEntry {H : Type} : Lit × DataW H → Nat
  | (.string bytes, d) => bytes.length + uptoBulk d + 1
  | (_, d) => uptoBulk d + 1
 end
def uptoSmall : (H : Type) → List (DataW H) → Bool := fun _ ds => decide (uptoBulkAll ds ≤ 1048576)
def OpenSpec.upto (s : _root_.Go.ChangeSpec) : _root_.Go.OpenSpec := { _root_.Go.OpenSpec.ofChange s with cond := some uptoSmall }

/-- 'laws.FnExactOfVote', WHERE WHAT IT READS IS OF BULK AT MOST 1048576: true; the input reads as it did. -/
def fnExactOfVoteUptoRow : OpenClaim := { program := "ytppldhkkhadngaa", sum := "d2b2d53bd722cccefda4e3f089fe1e5e95845ae22e9a3f949cbd2971783eb5b6", func := "loop.example/g00790/laws.FnExactOfVote", spec := "fnExactOfVote", apart := false, narrowed := true }
def FnExactOfVoteUptoSaid : Prop := fnExactOfVoteUptoRow.holds Try.pinned (OpenSpec.upto fnExactOfVoteSpec)

/-- 'laws.FnExactMsgSame', WHERE WHAT IT READS IS OF BULK AT MOST 1048576: true; the input reads as it did. -/
def fnExactMsgSameUptoRow : OpenClaim := { program := "ytppldhkkhadngaa", sum := "d2b2d53bd722cccefda4e3f089fe1e5e95845ae22e9a3f949cbd2971783eb5b6", func := "loop.example/g00790/laws.FnExactMsgSame", spec := "fnExactMsgSame", apart := false, narrowed := true }
def FnExactMsgSameUptoSaid : Prop := fnExactMsgSameUptoRow.holds Try.pinned (OpenSpec.upto fnExactMsgSameSpec)

/-- 'laws.FnExactEventSame', WHERE WHAT IT READS IS OF BULK AT MOST 1048576: true; the input reads as it did. -/
def fnExactEventSameUptoRow : OpenClaim := { program := "ytppldhkkhadngaa", sum := "d2b2d53bd722cccefda4e3f089fe1e5e95845ae22e9a3f949cbd2971783eb5b6", func := "loop.example/g00790/laws.FnExactEventSame", spec := "fnExactEventSame", apart := false, narrowed := true }
def FnExactEventSameUptoSaid : Prop := fnExactEventSameUptoRow.holds Try.pinned (OpenSpec.upto fnExactEventSameSpec)

/-- 'laws.FnExactEventsSame', WHERE WHAT IT READS IS OF BULK AT MOST 1048576: true; the input reads as it did. -/
def fnExactEventsSameUptoRow : OpenClaim := { program := "ytppldhkkhadngaa", sum := "d2b2d53bd722cccefda4e3f089fe1e5e95845ae22e9a3f949cbd2971783eb5b6", func := "loop.example/g00790/laws.FnExactEventsSame", spec := "fnExactEventsSame", apart := false, narrowed := true }
def FnExactEventsSameUptoSaid : Prop := fnExactEventsSameUptoRow.holds Try.pinned (OpenSpec.upto fnExactEventsSameSpec)

/-- 'laws.FnExactFrameData', WHERE WHAT IT READS IS OF BULK AT MOST 1048576: true; the input reads as it did. -/
def fnExactFrameDataUptoRow : OpenClaim := { program := "ytppldhkkhadngaa", sum := "d2b2d53bd722cccefda4e3f089fe1e5e95845ae22e9a3f949cbd2971783eb5b6", func := "loop.example/g00790/laws.FnExactFrameData", spec := "fnExactFrameData", apart := false, narrowed := true }
def FnExactFrameDataUptoSaid : Prop := fnExactFrameDataUptoRow.holds Try.pinned (OpenSpec.upto fnExactFrameDataSpec)

end Rows
end Go.Proofs.Ytppldhkkhadngaa
