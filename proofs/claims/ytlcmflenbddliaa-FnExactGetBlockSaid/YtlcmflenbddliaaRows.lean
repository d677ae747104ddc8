/-
  No cell of these rows narrows 'for every input' (looked for: loops, veiled, ifaces, maps, wideKeys, modest, calm, conditions, laid).
  DERIVED. THE GIVEN ROWS OF THIS SEAT. 12 by the template 'for every input the law returns true; each argument reads behind the call as it read before'; 0 by the template 'total and deterministic' (their statements: YtlcmflenbddliaaTotals.lean).
  GIVEN WITH THE SEED: the statements are not yours to turn. If you find one false, say at which input.
  Laid BY PROGRAM, IN A SANDBOX (cutbox-rows.mjs): the forced cells as the released guide's own fill.sh prints them over the translation aa7459772ad1b36d… (all of the seat's roots in one cut). By AI agents, Wed Nov 11 2026. No macro, syntax, notation, axiom, sorry.
-/
import Derived.Test.YtlcmflenbddliaaChecked
import GoSem.Claim
import GoSem.ClaimJoined
import GoSem.ClaimMapViews
import Derived.JoinedTies
import Derived.KernelRfl
namespace Go.Proofs.Ytlcmflenbddliaa
/- THE CELL 'sum', in the pinned program and in every row, IS THE sha256 OF THE DUMP (.gsa) THAT YtlcmflenbddliaaProg.lean LOADS. Nothing in Lean hashes anything: it is a label: what it is worth is what the hold of that sum in a sandbox is worth. -/
noncomputable def Try.pinned : Pinned := { name := "ytlcmflenbddliaa", sum := "aa7459772ad1b36d6c5157cb686c41326b84b631a8e9731a97277635b537b32b", checked := Try.checked }
namespace Rows
def none {H : Type} : Left H := { results := [], args := [] }

/-- 'laws.FnExactPutProof': WHATEVER THE INPUT: true; the input reads as it did. -/
def fnExactPutProofSpec : ChangeSpec := { name := "fnExactPutProof", fn := fun _ => fun
  | [d1, d2, d3] => { results := [.lit (.bool true)], args := [d1, d2, d3] }
  | _ => none }
def fnExactPutProofRow : OpenClaim := { program := "ytlcmflenbddliaa", sum := "aa7459772ad1b36d6c5157cb686c41326b84b631a8e9731a97277635b537b32b", func := "loop.example/g00790/laws.FnExactPutProof", spec := "fnExactPutProof", apart := false }
def FnExactPutProofSaid : Prop := fnExactPutProofRow.holds Try.pinned (OpenSpec.ofChange fnExactPutProofSpec)

/-- ITS FALSE NEIGHBOUR: 'it returns false'. Refute it at one input. -/
def fnExactPutProofWrong : ChangeSpec := { name := "fnExactPutProof", fn := fun _ => fun
  | [d1, d2, d3] => { results := [.lit (.bool false)], args := [d1, d2, d3] }
  | _ => none }
def FnExactPutProofWrongFalsely : Prop := fnExactPutProofRow.holds Try.pinned (OpenSpec.ofChange fnExactPutProofWrong)

/-- 'laws.FnExactPutBlock': WHATEVER THE INPUT: true; the input reads as it did. -/
def fnExactPutBlockSpec : ChangeSpec := { name := "fnExactPutBlock", fn := fun _ => fun
  | [d1, d2, d3] => { results := [.lit (.bool true)], args := [d1, d2, d3] }
  | _ => none }
def fnExactPutBlockRow : OpenClaim := { program := "ytlcmflenbddliaa", sum := "aa7459772ad1b36d6c5157cb686c41326b84b631a8e9731a97277635b537b32b", func := "loop.example/g00790/laws.FnExactPutBlock", spec := "fnExactPutBlock", recurses := true, apart := false }
def FnExactPutBlockSaid : Prop := fnExactPutBlockRow.holds Try.pinned (OpenSpec.ofChange fnExactPutBlockSpec)

/-- ITS FALSE NEIGHBOUR: 'it returns false'. Refute it at one input. -/
def fnExactPutBlockWrong : ChangeSpec := { name := "fnExactPutBlock", fn := fun _ => fun
  | [d1, d2, d3] => { results := [.lit (.bool false)], args := [d1, d2, d3] }
  | _ => none }
def FnExactPutBlockWrongFalsely : Prop := fnExactPutBlockRow.holds Try.pinned (OpenSpec.ofChange fnExactPutBlockWrong)

/-- 'laws.FnExactGetQc': WHATEVER THE INPUT: true; the input reads as it did. -/
def fnExactGetQcSpec : ChangeSpec := { name := "fnExactGetQc", fn := fun _ => fun
  | [d1, d2, d3] => { results := [.lit (.bool true)], args := [d1, d2, d3] }
  | _ => none }
def fnExactGetQcRow : OpenClaim := { program := "ytlcmflenbddliaa", sum := "aa7459772ad1b36d6c5157cb686c41326b84b631a8e9731a97277635b537b32b", func := "loop.example/g00790/laws.FnExactGetQc", spec := "fnExactGetQc", unfollowed := true, recurses := true, apart := false }
def FnExactGetQcSaid : Prop := fnExactGetQcRow.holds Try.pinned (OpenSpec.ofChange fnExactGetQcSpec)

/-- ITS FALSE NEIGHBOUR: 'it returns false'. Refute it at one input. -/
def fnExactGetQcWrong : ChangeSpec := { name := "fnExactGetQc", fn := fun _ => fun
  | [d1, d2, d3] => { results := [.lit (.bool false)], args := [d1, d2, d3] }
  | _ => none }
def FnExactGetQcWrongFalsely : Prop := fnExactGetQcRow.holds Try.pinned (OpenSpec.ofChange fnExactGetQcWrong)

/-- 'laws.FnExactGetHead': WHATEVER THE INPUT: true; the input reads as it did. -/
def fnExactGetHeadSpec : ChangeSpec := { name := "fnExactGetHead", fn := fun _ => fun
  | [d1, d2, d3] => { results := [.lit (.bool true)], args := [d1, d2, d3] }
  | _ => none }
def fnExactGetHeadRow : OpenClaim := { program := "ytlcmflenbddliaa", sum := "aa7459772ad1b36d6c5157cb686c41326b84b631a8e9731a97277635b537b32b", func := "loop.example/g00790/laws.FnExactGetHead", spec := "fnExactGetHead", unfollowed := true, recurses := true, apart := false }
def FnExactGetHeadSaid : Prop := fnExactGetHeadRow.holds Try.pinned (OpenSpec.ofChange fnExactGetHeadSpec)

/-- ITS FALSE NEIGHBOUR: 'it returns false'. Refute it at one input. -/
def fnExactGetHeadWrong : ChangeSpec := { name := "fnExactGetHead", fn := fun _ => fun
  | [d1, d2, d3] => { results := [.lit (.bool false)], args := [d1, d2, d3] }
  | _ => none }
def FnExactGetHeadWrongFalsely : Prop := fnExactGetHeadRow.holds Try.pinned (OpenSpec.ofChange fnExactGetHeadWrong)

/-- 'laws.FnExactGetProof': WHATEVER THE INPUT: true; the input reads as it did. -/
def fnExactGetProofSpec : ChangeSpec := { name := "fnExactGetProof", fn := fun _ => fun
  | [d1, d2, d3] => { results := [.lit (.bool true)], args := [d1, d2, d3] }
  | _ => none }
def fnExactGetProofRow : OpenClaim := { program := "ytlcmflenbddliaa", sum := "aa7459772ad1b36d6c5157cb686c41326b84b631a8e9731a97277635b537b32b", func := "loop.example/g00790/laws.FnExactGetProof", spec := "fnExactGetProof", unfollowed := true, recurses := true, apart := false }
def FnExactGetProofSaid : Prop := fnExactGetProofRow.holds Try.pinned (OpenSpec.ofChange fnExactGetProofSpec)

/-- ITS FALSE NEIGHBOUR: 'it returns false'. Refute it at one input. -/
def fnExactGetProofWrong : ChangeSpec := { name := "fnExactGetProof", fn := fun _ => fun
  | [d1, d2, d3] => { results := [.lit (.bool false)], args := [d1, d2, d3] }
  | _ => none }
def FnExactGetProofWrongFalsely : Prop := fnExactGetProofRow.holds Try.pinned (OpenSpec.ofChange fnExactGetProofWrong)

/-- 'laws.FnExactGetBlock': WHATEVER THE INPUT: true; the input reads as it did. -/
def fnExactGetBlockSpec : ChangeSpec := { name := "fnExactGetBlock", fn := fun _ => fun
  | [d1, d2, d3] => { results := [.lit (.bool true)], args := [d1, d2, d3] }
  | _ => none }
def fnExactGetBlockRow : OpenClaim := { program := "ytlcmflenbddliaa", sum := "aa7459772ad1b36d6c5157cb686c41326b84b631a8e9731a97277635b537b32b", func := "loop.example/g00790/laws.FnExactGetBlock", spec := "fnExactGetBlock", unfollowed := true, recurses := true, apart := false }
def FnExactGetBlockSaid : Prop := fnExactGetBlockRow.holds Try.pinned (OpenSpec.ofChange fnExactGetBlockSpec)

/-- ITS FALSE NEIGHBOUR: 'it returns false'. Refute it at one input. -/
def fnExactGetBlockWrong : ChangeSpec := { name := "fnExactGetBlock", fn := fun _ => fun
  | [d1, d2, d3] => { results := [.lit (.bool false)], args := [d1, d2, d3] }
  | _ => none }
def FnExactGetBlockWrongFalsely : Prop := fnExactGetBlockRow.holds Try.pinned (OpenSpec.ofChange fnExactGetBlockWrong)

/-- 'laws.FnExactHeadHash': WHATEVER THE INPUT: true; the input reads as it did. -/
def fnExactHeadHashSpec : ChangeSpec := { name := "fnExactHeadHash", fn := fun _ => fun
  | [d1, d2] => { results := [.lit (.bool true)], args := [d1, d2] }
  | _ => none }
def fnExactHeadHashRow : OpenClaim := { program := "ytlcmflenbddliaa", sum := "aa7459772ad1b36d6c5157cb686c41326b84b631a8e9731a97277635b537b32b", func := "loop.example/g00790/laws.FnExactHeadHash", spec := "fnExactHeadHash", apart := false }
def FnExactHeadHashSaid : Prop := fnExactHeadHashRow.holds Try.pinned (OpenSpec.ofChange fnExactHeadHashSpec)

/-- ITS FALSE NEIGHBOUR: 'it returns false'. Refute it at one input. -/
def fnExactHeadHashWrong : ChangeSpec := { name := "fnExactHeadHash", fn := fun _ => fun
  | [d1, d2] => { results := [.lit (.bool false)], args := [d1, d2] }
  | _ => none }
def FnExactHeadHashWrongFalsely : Prop := fnExactHeadHashRow.holds Try.pinned (OpenSpec.ofChange fnExactHeadHashWrong)

/-- 'laws.FnExactLinks': WHATEVER THE INPUT: true; the input reads as it did. -/
def fnExactLinksSpec : ChangeSpec := { name := "fnExactLinks", fn := fun _ => fun
  | [d1, d2, d3] => { results := [.lit (.bool true)], args := [d1, d2, d3] }
  | _ => none }
def fnExactLinksRow : OpenClaim := { program := "ytlcmflenbddliaa", sum := "aa7459772ad1b36d6c5157cb686c41326b84b631a8e9731a97277635b537b32b", func := "loop.example/g00790/laws.FnExactLinks", spec := "fnExactLinks", apart := false }
def FnExactLinksSaid : Prop := fnExactLinksRow.holds Try.pinned (OpenSpec.ofChange fnExactLinksSpec)

/-- ITS FALSE NEIGHBOUR: 'it returns false'. Refute it at one input. -/
def fnExactLinksWrong : ChangeSpec := { name := "fnExactLinks", fn := fun _ => fun
  | [d1, d2, d3] => { results := [.lit (.bool false)], args := [d1, d2, d3] }
  | _ => none }
def FnExactLinksWrongFalsely : Prop := fnExactLinksRow.holds Try.pinned (OpenSpec.ofChange fnExactLinksWrong)

/-- 'laws.FnExactPathOk': WHATEVER THE INPUT: true; the input reads as it did. -/
def fnExactPathOkSpec : ChangeSpec := { name := "fnExactPathOk", fn := fun _ => fun
  | [d1, d2, d3, d4, d5] => { results := [.lit (.bool true)], args := [d1, d2, d3, d4, d5] }
  | _ => none }
def fnExactPathOkRow : OpenClaim := { program := "ytlcmflenbddliaa", sum := "aa7459772ad1b36d6c5157cb686c41326b84b631a8e9731a97277635b537b32b", func := "loop.example/g00790/laws.FnExactPathOk", spec := "fnExactPathOk", recurses := true, apart := false }
def FnExactPathOkSaid : Prop := fnExactPathOkRow.holds Try.pinned (OpenSpec.ofChange fnExactPathOkSpec)

/-- ITS FALSE NEIGHBOUR: 'it returns false'. Refute it at one input. -/
def fnExactPathOkWrong : ChangeSpec := { name := "fnExactPathOk", fn := fun _ => fun
  | [d1, d2, d3, d4, d5] => { results := [.lit (.bool false)], args := [d1, d2, d3, d4, d5] }
  | _ => none }
def FnExactPathOkWrongFalsely : Prop := fnExactPathOkRow.holds Try.pinned (OpenSpec.ofChange fnExactPathOkWrong)

/-- 'laws.FnExactConsOk': WHATEVER THE INPUT: true; the input reads as it did. -/
def fnExactConsOkSpec : ChangeSpec := { name := "fnExactConsOk", fn := fun _ => fun
  | [d1, d2, d3, d4, d5] => { results := [.lit (.bool true)], args := [d1, d2, d3, d4, d5] }
  | _ => none }
def fnExactConsOkRow : OpenClaim := { program := "ytlcmflenbddliaa", sum := "aa7459772ad1b36d6c5157cb686c41326b84b631a8e9731a97277635b537b32b", func := "loop.example/g00790/laws.FnExactConsOk", spec := "fnExactConsOk", recurses := true, apart := false }
def FnExactConsOkSaid : Prop := fnExactConsOkRow.holds Try.pinned (OpenSpec.ofChange fnExactConsOkSpec)

/-- ITS FALSE NEIGHBOUR: 'it returns false'. Refute it at one input. -/
def fnExactConsOkWrong : ChangeSpec := { name := "fnExactConsOk", fn := fun _ => fun
  | [d1, d2, d3, d4, d5] => { results := [.lit (.bool false)], args := [d1, d2, d3, d4, d5] }
  | _ => none }
def FnExactConsOkWrongFalsely : Prop := fnExactConsOkRow.holds Try.pinned (OpenSpec.ofChange fnExactConsOkWrong)

/-- 'laws.FnExactPathOf': WHATEVER THE INPUT: true; the input reads as it did. -/
def fnExactPathOfSpec : ChangeSpec := { name := "fnExactPathOf", fn := fun _ => fun
  | [d1, d2] => { results := [.lit (.bool true)], args := [d1, d2] }
  | _ => none }
def fnExactPathOfRow : OpenClaim := { program := "ytlcmflenbddliaa", sum := "aa7459772ad1b36d6c5157cb686c41326b84b631a8e9731a97277635b537b32b", func := "loop.example/g00790/laws.FnExactPathOf", spec := "fnExactPathOf", recurses := true, apart := false }
def FnExactPathOfSaid : Prop := fnExactPathOfRow.holds Try.pinned (OpenSpec.ofChange fnExactPathOfSpec)

/-- ITS FALSE NEIGHBOUR: 'it returns false'. Refute it at one input. -/
def fnExactPathOfWrong : ChangeSpec := { name := "fnExactPathOf", fn := fun _ => fun
  | [d1, d2] => { results := [.lit (.bool false)], args := [d1, d2] }
  | _ => none }
def FnExactPathOfWrongFalsely : Prop := fnExactPathOfRow.holds Try.pinned (OpenSpec.ofChange fnExactPathOfWrong)

/-- 'laws.FnExactConsOf': WHATEVER THE INPUT: true; the input reads as it did. -/
def fnExactConsOfSpec : ChangeSpec := { name := "fnExactConsOf", fn := fun _ => fun
  | [d1, d2] => { results := [.lit (.bool true)], args := [d1, d2] }
  | _ => none }
def fnExactConsOfRow : OpenClaim := { program := "ytlcmflenbddliaa", sum := "aa7459772ad1b36d6c5157cb686c41326b84b631a8e9731a97277635b537b32b", func := "loop.example/g00790/laws.FnExactConsOf", spec := "fnExactConsOf", recurses := true, apart := false }
def FnExactConsOfSaid : Prop := fnExactConsOfRow.holds Try.pinned (OpenSpec.ofChange fnExactConsOfSpec)

/-- ITS FALSE NEIGHBOUR: 'it returns false'. Refute it at one input. -/
def fnExactConsOfWrong : ChangeSpec := { name := "fnExactConsOf", fn := fun _ => fun
  | [d1, d2] => { results := [.lit (.bool false)], args := [d1, d2] }
  | _ => none }
def FnExactConsOfWrongFalsely : Prop := fnExactConsOfRow.holds Try.pinned (OpenSpec.ofChange fnExactConsOfWrong)

/- THE SECOND FORM. 'bulk': how many values and letters a reading holds, each counted each time it is reached (what is shared counts as often as it is met; a slice's spare places count too). A statement '..UptoSaid' is the law's where the arguments, and the package variables that the reading takes, are together of bulk at most 1048576: NARROWER than '..Said'. Prove '..Said' where nothing that the law and all that it calls make is longer than what came in: it says more and counts as full. Else prove '..UptoSaid'. A law counts once. -/
mutual
def uptoBulk {H : Type} : DataW H → Nat
  | .lit (.string bytes) => bytes.length + 1
  | .lit _ => 1
  | .nil => 1
  | .ptr d => uptoBulk d + 1
  | .slice elems spare => uptoBulkAll elems + uptoBulkAll spare + 1
  | .agg parts => uptoBulkAll parts + 1
  | .iface _ d => uptoBulk d + 1
  | .map entries => uptoBulkEntries entries + 1
  | .held _ => 1
def uptoBulkAll {H : Type} : List (DataW H) → Nat
  | [] => 0
  | d :: r => uptoBulk d + uptoBulkAll r
def uptoBulkEntries {H : Type} : List (Lit × DataW H) → Nat
  | [] => 0
  | x :: r => uptoBulkEntry x + uptoBulkEntries r
def uptoBulkEntry {H : Type} : Lit × DataW H → Nat
  | (.string bytes, d) => bytes.length + uptoBulk d + 1
  | (_, d) => uptoBulk d + 1
 end
def uptoSmall : (H : Type) → List (DataW H) → Bool := fun _ ds => decide (uptoBulkAll ds ≤ 1048576)
def OpenSpec.upto (s : _root_.Go.ChangeSpec) : _root_.Go.OpenSpec := { _root_.Go.OpenSpec.ofChange s with cond := some uptoSmall }

/-- 'laws.FnExactPutProof', WHERE WHAT IT READS IS OF BULK AT MOST 1048576: true; the input reads as it did. -/
def fnExactPutProofUptoRow : OpenClaim := { program := "ytlcmflenbddliaa", sum := "aa7459772ad1b36d6c5157cb686c41326b84b631a8e9731a97277635b537b32b", func := "loop.example/g00790/laws.FnExactPutProof", spec := "fnExactPutProof", apart := false, narrowed := true }
def FnExactPutProofUptoSaid : Prop := fnExactPutProofUptoRow.holds Try.pinned (OpenSpec.upto fnExactPutProofSpec)

/-- 'laws.FnExactPutBlock', WHERE WHAT IT READS IS OF BULK AT MOST 1048576: true; the input reads as it did. -/
def fnExactPutBlockUptoRow : OpenClaim := { program := "ytlcmflenbddliaa", sum := "aa7459772ad1b36d6c5157cb686c41326b84b631a8e9731a97277635b537b32b", func := "loop.example/g00790/laws.FnExactPutBlock", spec := "fnExactPutBlock", recurses := true, apart := false, narrowed := true }
def FnExactPutBlockUptoSaid : Prop := fnExactPutBlockUptoRow.holds Try.pinned (OpenSpec.upto fnExactPutBlockSpec)

/-- 'laws.FnExactGetQc', WHERE WHAT IT READS IS OF BULK AT MOST 1048576: true; the input reads as it did. -/
def fnExactGetQcUptoRow : OpenClaim := { program := "ytlcmflenbddliaa", sum := "aa7459772ad1b36d6c5157cb686c41326b84b631a8e9731a97277635b537b32b", func := "loop.example/g00790/laws.FnExactGetQc", spec := "fnExactGetQc", unfollowed := true, recurses := true, apart := false, narrowed := true }
def FnExactGetQcUptoSaid : Prop := fnExactGetQcUptoRow.holds Try.pinned (OpenSpec.upto fnExactGetQcSpec)

/-- 'laws.FnExactGetHead', WHERE WHAT IT READS IS OF BULK AT MOST 1048576: true; the input reads as it did. -/
def fnExactGetHeadUptoRow : OpenClaim := { program := "ytlcmflenbddliaa", sum := "aa7459772ad1b36d6c5157cb686c41326b84b631a8e9731a97277635b537b32b", func := "loop.example/g00790/laws.FnExactGetHead", spec := "fnExactGetHead", unfollowed := true, recurses := true, apart := false, narrowed := true }
def FnExactGetHeadUptoSaid : Prop := fnExactGetHeadUptoRow.holds Try.pinned (OpenSpec.upto fnExactGetHeadSpec)

/-- 'laws.FnExactGetProof', WHERE WHAT IT READS IS OF BULK AT MOST 1048576: true; the input reads as it did. -/
def fnExactGetProofUptoRow : OpenClaim := { program := "ytlcmflenbddliaa", sum := "aa7459772ad1b36d6c5157cb686c41326b84b631a8e9731a97277635b537b32b", func := "loop.example/g00790/laws.FnExactGetProof", spec := "fnExactGetProof", unfollowed := true, recurses := true, apart := false, narrowed := true }
def FnExactGetProofUptoSaid : Prop := fnExactGetProofUptoRow.holds Try.pinned (OpenSpec.upto fnExactGetProofSpec)

/-- 'laws.FnExactGetBlock', WHERE WHAT IT READS IS OF BULK AT MOST 1048576: true; the input reads as it did. -/
def fnExactGetBlockUptoRow : OpenClaim := { program := "ytlcmflenbddliaa", sum := "aa7459772ad1b36d6c5157cb686c41326b84b631a8e9731a97277635b537b32b", func := "loop.example/g00790/laws.FnExactGetBlock", spec := "fnExactGetBlock", unfollowed := true, recurses := true, apart := false, narrowed := true }
def FnExactGetBlockUptoSaid : Prop := fnExactGetBlockUptoRow.holds Try.pinned (OpenSpec.upto fnExactGetBlockSpec)

/-- 'laws.FnExactHeadHash', WHERE WHAT IT READS IS OF BULK AT MOST 1048576: true; the input reads as it did. -/
def fnExactHeadHashUptoRow : OpenClaim := { program := "ytlcmflenbddliaa", sum := "aa7459772ad1b36d6c5157cb686c41326b84b631a8e9731a97277635b537b32b", func := "loop.example/g00790/laws.FnExactHeadHash", spec := "fnExactHeadHash", apart := false, narrowed := true }
def FnExactHeadHashUptoSaid : Prop := fnExactHeadHashUptoRow.holds Try.pinned (OpenSpec.upto fnExactHeadHashSpec)

/-- 'laws.FnExactLinks', WHERE WHAT IT READS IS OF BULK AT MOST 1048576: true; the input reads as it did. -/
def fnExactLinksUptoRow : OpenClaim := { program := "ytlcmflenbddliaa", sum := "aa7459772ad1b36d6c5157cb686c41326b84b631a8e9731a97277635b537b32b", func := "loop.example/g00790/laws.FnExactLinks", spec := "fnExactLinks", apart := false, narrowed := true }
def FnExactLinksUptoSaid : Prop := fnExactLinksUptoRow.holds Try.pinned (OpenSpec.upto fnExactLinksSpec)

/-- 'laws.FnExactPathOk', WHERE WHAT IT READS IS OF BULK AT MOST 1048576: true; the input reads as it did. -/
def fnExactPathOkUptoRow : OpenClaim := { program := "ytlcmflenbddliaa", sum := "aa7459772ad1b36d6c5157cb686c41326b84b631a8e9731a97277635b537b32b", func := "loop.example/g00790/laws.FnExactPathOk", spec := "fnExactPathOk", recurses := true, apart := false, narrowed := true }
def FnExactPathOkUptoSaid : Prop := fnExactPathOkUptoRow.holds Try.pinned (OpenSpec.upto fnExactPathOkSpec)

/-- 'laws.FnExactConsOk', WHERE WHAT IT READS IS OF BULK AT MOST 1048576: true; the input reads as it did. -/
def fnExactConsOkUptoRow : OpenClaim := { program := "ytlcmflenbddliaa", sum := "aa7459772ad1b36d6c5157cb686c41326b84b631a8e9731a97277635b537b32b", func := "loop.example/g00790/laws.FnExactConsOk", spec := "fnExactConsOk", recurses := true, apart := false, narrowed := true }
def FnExactConsOkUptoSaid : Prop := fnExactConsOkUptoRow.holds Try.pinned (OpenSpec.upto fnExactConsOkSpec)

/-- 'laws.FnExactPathOf', WHERE WHAT IT READS IS OF BULK AT MOST 1048576: true; the input reads as it did. -/
def fnExactPathOfUptoRow : OpenClaim := { program := "ytlcmflenbddliaa", sum := "aa7459772ad1b36d6c5157cb686c41326b84b631a8e9731a97277635b537b32b", func := "loop.example/g00790/laws.FnExactPathOf", spec := "fnExactPathOf", recurses := true, apart := false, narrowed := true }
def FnExactPathOfUptoSaid : Prop := fnExactPathOfUptoRow.holds Try.pinned (OpenSpec.upto fnExactPathOfSpec)

/-- 'laws.FnExactConsOf', WHERE WHAT IT READS IS OF BULK AT MOST 1048576: true; the input reads as it did. -/
def fnExactConsOfUptoRow : OpenClaim := { program := "ytlcmflenbddliaa", sum := "aa7459772ad1b36d6c5157cb686c41326b84b631a8e9731a97277635b537b32b", func := "loop.example/g00790/laws.FnExactConsOf", spec := "fnExactConsOf", recurses := true, apart := false, narrowed := true }
def FnExactConsOfUptoSaid : Prop := fnExactConsOfUptoRow.holds Try.pinned (OpenSpec.upto fnExactConsOfSpec)

end Rows
end Go.Proofs.Ytlcmflenbddliaa
