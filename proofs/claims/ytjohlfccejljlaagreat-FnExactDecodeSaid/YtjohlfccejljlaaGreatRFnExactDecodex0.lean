/- The functions that FnExactDecode calls, each held to what it answers. Printed by a program of this session; Lean checks it. -/
import Derived.Test.YtjohlfccejljlaaGreatProg
import Derived.Test.YtjohlfccejljlaaGreatTrFnExactDecodeb
namespace Go.Proofs.YtjohlfccejljlaaGreat.Rf
open Go.RowKit
set_option linter.unusedVariables false
set_option linter.unnecessarySimpa false
set_option linter.unusedSimpArgs false
set_option maxRecDepth 100000
set_option maxHeartbeats 40000000
@[ext] structure SLimits where
  f0 : Int
  f1 : Int
  f2 : Int
  f3 : Int
  f4 : Int
  deriving Inhabited, DecidableEq
def SLimits.cells (x : SLimits) : List D := [(.int .i64 x.f0), (.int .i64 x.f1), (.int .i64 x.f2), (.int .i64 x.f3), (.int .i64 x.f4)]
def SLimits.ok (x : SLimits) : Prop := (I64 x.f0) ∧ (I64 x.f1) ∧ (I64 x.f2) ∧ (I64 x.f3) ∧ (I64 x.f4)
@[ext] structure SVote where
  f0 : Int
  f1 : Int
  f2 : List Int
  f3 : Int
  f4 : List Int
  deriving Inhabited, DecidableEq
def SVote.cells (x : SVote) : List D := [(.int .i64 x.f0), (.int .i64 x.f1), (.ints .u8 x.f2), (.int .i64 x.f3), (.ints .u8 x.f4)]
def SVote.sm (x : SVote) : Prop := (x.f2.length ≤ 1048576) ∧ (x.f4.length ≤ 1048576)
def SVote.cm (x : SVote) : Int := (x.f2.length : Int) + (x.f4.length : Int)
def SVote.hm (a b : SVote) (k : Int) : Prop := (b.f2 = mkB a.f2 k) ∧ (b.f4 = mkB a.f4 (k + (a.f2.length : Int)))
theorem SVote.cm_nn (x : SVote) : 0 ≤ x.cm := by
  unfold SVote.cm
  omega
theorem SVote.cm_le {x : SVote} (h : x.sm) : x.cm ≤ 2097152 := by
  unfold SVote.cm
  obtain ⟨p2, p4⟩ := h
  have e2 := p2
  have e4 := p4
  omega
theorem SVote.sm_df : (default : SVote).sm := by (repeat' (first | exact Nat.zero_le _ | (intro y hy; exact absurd hy (List.not_mem_nil)) | apply And.intro))
@[ext] structure SQc where
  f0 : Int
  f1 : Int
  f2 : List Int
  f3 : List Int
  f4 : List (List Int)
  deriving Inhabited, DecidableEq
def SQc.cells (x : SQc) : List D := [(.int .i64 x.f0), (.int .i64 x.f1), (.ints .u8 x.f2), (.ints .u8 x.f3), (.bss x.f4)]
def SQc.sm (x : SQc) : Prop := (x.f2.length ≤ 1048576) ∧ (x.f3.length ≤ 1048576) ∧ (x.f4.length ≤ 1048576 ∧ ∀ y ∈ x.f4, y.length ≤ 1048576)
def SQc.ok (x : SQc) : Prop := (I64 x.f0) ∧ (I64 x.f1) ∧ (U8s x.f2) ∧ (U8s x.f3) ∧ (∀ y ∈ x.f4, U8s y)
def SQc.cm (x : SQc) : Int := (x.f2.length : Int) + (x.f3.length : Int) + cntL (fun x : List Int => (x.length : Int)) x.f4
def SQc.hm (a b : SQc) (k : Int) : Prop := (b.f2 = mkB a.f2 k) ∧ (b.f3 = mkB a.f3 (k + (a.f2.length : Int))) ∧ (b.f4 = mkBs a.f4 ((k + (a.f2.length : Int)) + (a.f3.length : Int)))
theorem SQc.cm_nn (x : SQc) : 0 ≤ x.cm := by
  unfold SQc.cm
  have n4 := cntBs_nonneg x.f4
  omega
theorem SQc.cm_le {x : SQc} (h : x.sm) : x.cm ≤ 1099513724928 := by
  unfold SQc.cm
  obtain ⟨p2, p3, p4⟩ := h
  have e2 := p2
  have e3 := p3
  have e4 := cntBs_le p4
  omega
theorem SQc.sm_df : (default : SQc).sm := by (repeat' (first | exact Nat.zero_le _ | (intro y hy; exact absurd hy (List.not_mem_nil)) | apply And.intro))
def SQc.ce (x : SQc) : Int := 1 + 1 + (x.f2.length : Int) + (x.f3.length : Int) + cntL (fun x : List Int => (x.length : Int)) x.f4
def SQc.me (x : SQc) (k : Int) : SQc := ⟨k, k + 1, mkB x.f2 ((k + 1) + 1), mkB x.f3 (((k + 1) + 1) + (x.f2.length : Int)), mkBs x.f4 ((((k + 1) + 1) + (x.f2.length : Int)) + (x.f3.length : Int))⟩
theorem SQc.ce_nn (x : SQc) : 0 ≤ x.ce := by
  unfold SQc.ce
  have n4 := cntBs_nonneg x.f4
  omega
theorem SQc.ce_le {x : SQc} (h : x.sm) : x.ce ≤ 1099513724930 := by
  unfold SQc.ce
  obtain ⟨p2, p3, p4⟩ := h
  have e2 := p2
  have e3 := p3
  have e4 := cntBs_le p4
  omega
@[ext] structure SHead where
  f0 : Int
  f1 : Int
  f2 : Int
  f3 : List Int
  f4 : List Int
  f5 : SQc
  deriving Inhabited, DecidableEq
def SHead.cells (x : SHead) : List D := [(.int .i64 x.f0), (.int .i64 x.f1), (.int .i64 x.f2), (.ints .u8 x.f3), (.ints .u8 x.f4), (.int .i64 x.f5.f0), (.int .i64 x.f5.f1), (.ints .u8 x.f5.f2), (.ints .u8 x.f5.f3), (.bss x.f5.f4)]
theorem SHead.len (x : SHead) : x.cells.length = 10 := rfl
def SHead.sm (x : SHead) : Prop := (x.f3.length ≤ 1048576) ∧ (x.f4.length ≤ 1048576) ∧ (x.f5.sm)
def SHead.ok (x : SHead) : Prop := (I64 x.f0) ∧ (I64 x.f1) ∧ (I64 x.f2) ∧ (U8s x.f3) ∧ (U8s x.f4) ∧ (x.f5.ok)
def SHead.cm (x : SHead) : Int := (x.f3.length : Int) + (x.f4.length : Int) + x.f5.cm
def SHead.hm (a b : SHead) (k : Int) : Prop := (b.f3 = mkB a.f3 k) ∧ (b.f4 = mkB a.f4 (k + (a.f3.length : Int))) ∧ (SQc.hm a.f5 b.f5 ((k + (a.f3.length : Int)) + (a.f4.length : Int)))
theorem SHead.cm_nn (x : SHead) : 0 ≤ x.cm := by
  unfold SHead.cm
  have n5 := SQc.cm_nn x.f5
  omega
theorem SHead.cm_le {x : SHead} (h : x.sm) : x.cm ≤ 1099515822080 := by
  unfold SHead.cm
  obtain ⟨p3, p4, p5⟩ := h
  have e3 := p3
  have e4 := p4
  have e5 := SQc.cm_le p5
  omega
theorem SHead.sm_df : (default : SHead).sm := by (repeat' (first | exact Nat.zero_le _ | (intro y hy; exact absurd hy (List.not_mem_nil)) | apply And.intro))
def SHead.ce (x : SHead) : Int := 1 + 1 + 1 + (x.f3.length : Int) + (x.f4.length : Int) + x.f5.ce
def SHead.me (x : SHead) (k : Int) : SHead := ⟨k, k + 1, (k + 1) + 1, mkB x.f3 (((k + 1) + 1) + 1), mkB x.f4 ((((k + 1) + 1) + 1) + (x.f3.length : Int)), x.f5.me (((((k + 1) + 1) + 1) + (x.f3.length : Int)) + (x.f4.length : Int))⟩
theorem SHead.ce_nn (x : SHead) : 0 ≤ x.ce := by
  unfold SHead.ce
  have n5 := SQc.ce_nn x.f5
  omega
theorem SHead.ce_le {x : SHead} (h : x.sm) : x.ce ≤ 1099515822085 := by
  unfold SHead.ce
  obtain ⟨p3, p4, p5⟩ := h
  have e3 := p3
  have e4 := p4
  have e5 := SQc.ce_le p5
  omega
theorem SHead.cL_le {xs : List SHead} (h : xs.length ≤ 1048576 ∧ ∀ y ∈ xs, SHead.sm y) : cntL SHead.ce xs ≤ 1152925902658600960 := by
  have h1 := cntL_le (cnt := SHead.ce) (n := 1099515822085) xs fun x hx => SHead.ce_le (h.2 x hx)
  have h2 := h.1
  omega
@[ext] structure SBlock where
  f0 : SHead
  f1 : List (List Int)
  deriving Inhabited, DecidableEq
def SBlock.cells (x : SBlock) : List D := [(.int .i64 x.f0.f0), (.int .i64 x.f0.f1), (.int .i64 x.f0.f2), (.ints .u8 x.f0.f3), (.ints .u8 x.f0.f4), (.int .i64 x.f0.f5.f0), (.int .i64 x.f0.f5.f1), (.ints .u8 x.f0.f5.f2), (.ints .u8 x.f0.f5.f3), (.bss x.f0.f5.f4), (.bss x.f1)]
def SBlock.sm (x : SBlock) : Prop := (x.f0.sm) ∧ (x.f1.length ≤ 1048576 ∧ ∀ y ∈ x.f1, y.length ≤ 1048576)
def SBlock.cm (x : SBlock) : Int := x.f0.cm + cntL (fun x : List Int => (x.length : Int)) x.f1
def SBlock.hm (a b : SBlock) (k : Int) : Prop := (SHead.hm a.f0 b.f0 k) ∧ (b.f1 = mkBs a.f1 (k + a.f0.cm))
theorem SBlock.cm_nn (x : SBlock) : 0 ≤ x.cm := by
  unfold SBlock.cm
  have n0 := SHead.cm_nn x.f0
  have n1 := cntBs_nonneg x.f1
  omega
theorem SBlock.cm_le {x : SBlock} (h : x.sm) : x.cm ≤ 2199027449856 := by
  unfold SBlock.cm
  obtain ⟨p0, p1⟩ := h
  have e0 := SHead.cm_le p0
  have e1 := cntBs_le p1
  omega
theorem SBlock.sm_df : (default : SBlock).sm := by (repeat' (first | exact Nat.zero_le _ | (intro y hy; exact absurd hy (List.not_mem_nil)) | apply And.intro))
@[ext] structure SEntry where
  f0 : Int
  f1 : Int
  f2 : List Int
  deriving Inhabited, DecidableEq
def SEntry.cells (x : SEntry) : List D := [(.int .i64 x.f0), (.int .i64 x.f1), (.ints .u8 x.f2)]
theorem SEntry.len (x : SEntry) : x.cells.length = 3 := rfl
def SEntry.sm (x : SEntry) : Prop := (x.f2.length ≤ 1048576)
def SEntry.ce (x : SEntry) : Int := 1 + 1 + (x.f2.length : Int)
def SEntry.me (x : SEntry) (k : Int) : SEntry := ⟨k, k + 1, mkB x.f2 ((k + 1) + 1)⟩
theorem SEntry.ce_nn (x : SEntry) : 0 ≤ x.ce := by
  unfold SEntry.ce
  omega
theorem SEntry.ce_le {x : SEntry} (h : x.sm) : x.ce ≤ 1048578 := by
  unfold SEntry.ce
  have p2 : x.f2.length ≤ 1048576 := h
  have e2 := p2
  omega
theorem SEntry.cL_le {xs : List SEntry} (h : xs.length ≤ 1048576 ∧ ∀ y ∈ xs, SEntry.sm y) : cntL SEntry.ce xs ≤ 1099513724928 := by
  have h1 := cntL_le (cnt := SEntry.ce) (n := 1048578) xs fun x hx => SEntry.ce_le (h.2 x hx)
  have h2 := h.1
  omega
@[ext] structure STc where
  f0 : Int
  f1 : List SEntry
  deriving Inhabited, DecidableEq
def STc.cells (x : STc) : List D := [(.int .i64 x.f0), (.sl 3 (x.f1.map SEntry.cells))]
def STc.sm (x : STc) : Prop := (x.f1.length ≤ 1048576 ∧ ∀ y ∈ x.f1, SEntry.sm y)
def STc.cm (x : STc) : Int := cntL SEntry.ce x.f1
def STc.hm (a b : STc) (k : Int) : Prop := (b.f1 = mkL SEntry.ce SEntry.me a.f1 k)
theorem STc.cm_nn (x : STc) : 0 ≤ x.cm := by
  unfold STc.cm
  have n1 := cntL_nonneg SEntry.ce_nn x.f1
  omega
theorem STc.cm_le {x : STc} (h : x.sm) : x.cm ≤ 1099513724928 := by
  unfold STc.cm
  have p1 : x.f1.length ≤ 1048576 ∧ ∀ y ∈ x.f1, SEntry.sm y := h
  have e1 := SEntry.cL_le p1
  omega
theorem STc.sm_df : (default : STc).sm := by (repeat' (first | exact Nat.zero_le _ | (intro y hy; exact absurd hy (List.not_mem_nil)) | apply And.intro))
@[ext] structure SProof where
  f0 : List SHead
  f1 : SQc
  deriving Inhabited, DecidableEq
def SProof.cells (x : SProof) : List D := [(.sl 10 (x.f0.map SHead.cells)), (.int .i64 x.f1.f0), (.int .i64 x.f1.f1), (.ints .u8 x.f1.f2), (.ints .u8 x.f1.f3), (.bss x.f1.f4)]
def SProof.sm (x : SProof) : Prop := (x.f0.length ≤ 1048576 ∧ ∀ y ∈ x.f0, SHead.sm y) ∧ (x.f1.sm)
def SProof.cm (x : SProof) : Int := cntL SHead.ce x.f0 + x.f1.cm
def SProof.hm (a b : SProof) (k : Int) : Prop := (b.f0 = mkL SHead.ce SHead.me a.f0 k) ∧ (SQc.hm a.f1 b.f1 (k + cntL SHead.ce a.f0))
theorem SProof.cm_nn (x : SProof) : 0 ≤ x.cm := by
  unfold SProof.cm
  have n0 := cntL_nonneg SHead.ce_nn x.f0
  have n1 := SQc.cm_nn x.f1
  omega
theorem SProof.cm_le {x : SProof} (h : x.sm) : x.cm ≤ 1152927002172325888 := by
  unfold SProof.cm
  obtain ⟨p0, p1⟩ := h
  have e0 := SHead.cL_le p0
  have e1 := SQc.cm_le p1
  omega
theorem SProof.sm_df : (default : SProof).sm := by (repeat' (first | exact Nat.zero_le _ | (intro y hy; exact absurd hy (List.not_mem_nil)) | apply And.intro))
@[ext] structure SIncl where
  f0 : Int
  f1 : Int
  f2 : Int
  f3 : List Int
  f4 : List (List Int)
  deriving Inhabited, DecidableEq
def SIncl.cells (x : SIncl) : List D := [(.int .i64 x.f0), (.int .i64 x.f1), (.int .i64 x.f2), (.ints .u8 x.f3), (.bss x.f4)]
def SIncl.sm (x : SIncl) : Prop := (x.f3.length ≤ 1048576) ∧ (x.f4.length ≤ 1048576 ∧ ∀ y ∈ x.f4, y.length ≤ 1048576)
def SIncl.cm (x : SIncl) : Int := (x.f3.length : Int) + cntL (fun x : List Int => (x.length : Int)) x.f4
def SIncl.hm (a b : SIncl) (k : Int) : Prop := (b.f3 = mkB a.f3 k) ∧ (b.f4 = mkBs a.f4 (k + (a.f3.length : Int)))
theorem SIncl.cm_nn (x : SIncl) : 0 ≤ x.cm := by
  unfold SIncl.cm
  have n4 := cntBs_nonneg x.f4
  omega
theorem SIncl.cm_le {x : SIncl} (h : x.sm) : x.cm ≤ 1099512676352 := by
  unfold SIncl.cm
  obtain ⟨p3, p4⟩ := h
  have e3 := p3
  have e4 := cntBs_le p4
  omega
theorem SIncl.sm_df : (default : SIncl).sm := by (repeat' (first | exact Nat.zero_le _ | (intro y hy; exact absurd hy (List.not_mem_nil)) | apply And.intro))
@[ext] structure SMsg where
  f0 : Int
  f1 : SVote
  f2 : SQc
  f3 : SHead
  f4 : SBlock
  f5 : STc
  f6 : SProof
  f7 : SIncl
  deriving Inhabited, DecidableEq
def SMsg.cells (x : SMsg) : List D := [(.int .i64 x.f0), (.int .i64 x.f1.f0), (.int .i64 x.f1.f1), (.ints .u8 x.f1.f2), (.int .i64 x.f1.f3), (.ints .u8 x.f1.f4), (.int .i64 x.f2.f0), (.int .i64 x.f2.f1), (.ints .u8 x.f2.f2), (.ints .u8 x.f2.f3), (.bss x.f2.f4), (.int .i64 x.f3.f0), (.int .i64 x.f3.f1), (.int .i64 x.f3.f2), (.ints .u8 x.f3.f3), (.ints .u8 x.f3.f4), (.int .i64 x.f3.f5.f0), (.int .i64 x.f3.f5.f1), (.ints .u8 x.f3.f5.f2), (.ints .u8 x.f3.f5.f3), (.bss x.f3.f5.f4), (.int .i64 x.f4.f0.f0), (.int .i64 x.f4.f0.f1), (.int .i64 x.f4.f0.f2), (.ints .u8 x.f4.f0.f3), (.ints .u8 x.f4.f0.f4), (.int .i64 x.f4.f0.f5.f0), (.int .i64 x.f4.f0.f5.f1), (.ints .u8 x.f4.f0.f5.f2), (.ints .u8 x.f4.f0.f5.f3), (.bss x.f4.f0.f5.f4), (.bss x.f4.f1), (.int .i64 x.f5.f0), (.sl 3 (x.f5.f1.map SEntry.cells)), (.sl 10 (x.f6.f0.map SHead.cells)), (.int .i64 x.f6.f1.f0), (.int .i64 x.f6.f1.f1), (.ints .u8 x.f6.f1.f2), (.ints .u8 x.f6.f1.f3), (.bss x.f6.f1.f4), (.int .i64 x.f7.f0), (.int .i64 x.f7.f1), (.int .i64 x.f7.f2), (.ints .u8 x.f7.f3), (.bss x.f7.f4)]
def SMsg.sm (x : SMsg) : Prop := (x.f1.sm) ∧ (x.f2.sm) ∧ (x.f3.sm) ∧ (x.f4.sm) ∧ (x.f5.sm) ∧ (x.f6.sm) ∧ (x.f7.sm)
def SMsg.cm (x : SMsg) : Int := x.f1.cm + x.f2.cm + x.f3.cm + x.f4.cm + x.f5.cm + x.f6.cm + x.f7.cm
def SMsg.hm (a b : SMsg) (k : Int) : Prop := (SVote.hm a.f1 b.f1 k) ∧ (SQc.hm a.f2 b.f2 (k + a.f1.cm)) ∧ (SHead.hm a.f3 b.f3 ((k + a.f1.cm) + a.f2.cm)) ∧ (SBlock.hm a.f4 b.f4 (((k + a.f1.cm) + a.f2.cm) + a.f3.cm)) ∧ (STc.hm a.f5 b.f5 ((((k + a.f1.cm) + a.f2.cm) + a.f3.cm) + a.f4.cm)) ∧ (SProof.hm a.f6 b.f6 (((((k + a.f1.cm) + a.f2.cm) + a.f3.cm) + a.f4.cm) + a.f5.cm)) ∧ (SIncl.hm a.f7 b.f7 ((((((k + a.f1.cm) + a.f2.cm) + a.f3.cm) + a.f4.cm) + a.f5.cm) + a.f6.cm))
theorem SMsg.cm_nn (x : SMsg) : 0 ≤ x.cm := by
  unfold SMsg.cm
  have n1 := SVote.cm_nn x.f1
  have n2 := SQc.cm_nn x.f2
  have n3 := SHead.cm_nn x.f3
  have n4 := SBlock.cm_nn x.f4
  have n5 := STc.cm_nn x.f5
  have n6 := SProof.cm_nn x.f6
  have n7 := SIncl.cm_nn x.f7
  omega
theorem SMsg.cm_le {x : SMsg} (h : x.sm) : x.cm ≤ 1152933599257821184 := by
  unfold SMsg.cm
  obtain ⟨p1, p2, p3, p4, p5, p6, p7⟩ := h
  have e1 := SVote.cm_le p1
  have e2 := SQc.cm_le p2
  have e3 := SHead.cm_le p3
  have e4 := SBlock.cm_le p4
  have e5 := STc.cm_le p5
  have e6 := SProof.cm_le p6
  have e7 := SIncl.cm_le p7
  omega
theorem SMsg.sm_df : (default : SMsg).sm := by (repeat' (first | exact Nat.zero_le _ | (intro y hy; exact absurd hy (List.not_mem_nil)) | apply And.intro))
@[ext] structure SStr where
  f0 : ByteArray
  deriving Inhabited, DecidableEq
def SStr.cells (x : SStr) : List D := [(.str x.f0)]
theorem SStr.len (x : SStr) : x.cells.length = 1 := rfl
def limOk (l : SLimits) : Bool := decide (1 ≤ l.f0 ∧ l.f0 ≤ 10) && decide (0 ≤ l.f1 ∧ l.f1 ≤ 40) && decide (0 ≤ l.f2 ∧ l.f2 ≤ 8) && decide (1 ≤ l.f3 ∧ l.f3 ≤ 4000) && decide (3 ≤ l.f4 ∧ l.f4 ≤ 5)
theorem limOk_n {l : SLimits} (h : limOk l = true) : 1 ≤ l.f0 ∧ l.f0 ≤ 10 := by simp [limOk] at h; omega
@[ext] structure SRS where
  f0 : Int
  f1 : Int
  deriving Inhabited, DecidableEq
theorem gv_cut {b : List Int} {a : Int} {i : Nat} (hi : i < 9) : ∃ d, 9 - i = d + 1 ∧ 9 - (i + 1) = d := ⟨8 - i, by omega, by omega⟩
theorem gvGo_short {b : List Int} {a n : Int} {i : Nat} (hi : i < 9) (h : (b.length : Int) ≤ a + i) : gvGo b a (9 - i) i n = (0, 0, 1) := by
  obtain ⟨d, e, _⟩ := gv_cut (b := b) (a := a) hi; rw [e, gvGo, if_pos h]
theorem gvGo_var {b : List Int} {a n : Int} {i : Nat} (hi : i < 9) (h : ¬ (b.length : Int) ≤ a + i) (h2 : (0 < i ∧ b.getD (a + i).toNat 0 = 0) ∨ (i = 8 ∧ 128 ≤ b.getD (a + i).toNat 0)) : gvGo b a (9 - i) i n = (0, 0, 2) := by
  obtain ⟨d, e, _⟩ := gv_cut (b := b) (a := a) hi; rw [e, gvGo, if_neg h, if_pos h2]
theorem gvGo_done {b : List Int} {a n : Int} {i : Nat} (hi : i < 9) (h : ¬ (b.length : Int) ≤ a + i) (h2 : ¬ ((0 < i ∧ b.getD (a + i).toNat 0 = 0) ∨ (i = 8 ∧ 128 ≤ b.getD (a + i).toNat 0))) (h3 : b.getD (a + i).toNat 0 < 128) (h4 : n + b.getD (a + i).toNat 0 % 128 * 128 ^ i ≤ 1152921504606846975) : gvGo b a (9 - i) i n = (n + b.getD (a + i).toNat 0 % 128 * 128 ^ i, a + i + 1, 0) := by
  obtain ⟨d, e, _⟩ := gv_cut (b := b) (a := a) hi; rw [e, gvGo, if_neg h, if_neg h2, if_pos h3, if_pos h4]
theorem gvGo_big {b : List Int} {a n : Int} {i : Nat} (hi : i < 9) (h : ¬ (b.length : Int) ≤ a + i) (h2 : ¬ ((0 < i ∧ b.getD (a + i).toNat 0 = 0) ∨ (i = 8 ∧ 128 ≤ b.getD (a + i).toNat 0))) (h3 : b.getD (a + i).toNat 0 < 128) (h4 : ¬ n + b.getD (a + i).toNat 0 % 128 * 128 ^ i ≤ 1152921504606846975) : gvGo b a (9 - i) i n = (0, 0, 2) := by
  obtain ⟨d, e, _⟩ := gv_cut (b := b) (a := a) hi; rw [e, gvGo, if_neg h, if_neg h2, if_pos h3, if_neg h4]
theorem gvGo_next {b : List Int} {a n : Int} {i : Nat} (hi : i < 9) (h : ¬ (b.length : Int) ≤ a + i) (h2 : ¬ ((0 < i ∧ b.getD (a + i).toNat 0 = 0) ∨ (i = 8 ∧ 128 ≤ b.getD (a + i).toNat 0))) (h3 : ¬ b.getD (a + i).toNat 0 < 128) : gvGo b a (9 - i) i n = gvGo b a (9 - (i + 1)) (i + 1) (n + b.getD (a + i).toNat 0 % 128 * 128 ^ i) := by
  obtain ⟨d, e, e2⟩ := gv_cut (b := b) (a := a) hi; rw [e, e2, gvGo, if_neg h, if_neg h2, if_neg h3]
theorem gvGo_end {b : List Int} {a n : Int} {i : Nat} (hi : ¬ i < 9) : gvGo b a (9 - i) i n = (0, 0, 2) := by rw [show 9 - i = 0 from by omega]; rfl
theorem getVar_in {b : List Int} {a : Int} (h : 0 ≤ a ∧ a ≤ (b.length : Int)) : getVar b a = gvGo b a 9 0 0 := if_pos h
theorem getVar_out {b : List Int} {a : Int} (h : ¬ (0 ≤ a ∧ a ≤ (b.length : Int))) : getVar b a = (0, 0, 1) := if_neg h
def av (b : List Int) (a n : Int) : List Int × Int × Int := if 0 ≤ a ∧ a ≤ (b.length : Int) ∧ 0 ≤ n ∧ n ≤ (b.length : Int) - a then ((b.drop a.toNat).take ((a + n).toNat - a.toNat), a + n, 0) else ([], 0, 1)
theorem getRaw_bd (b : List Int) (a n : Int) : (av b a n).1.length ≤ b.length ∧ 0 ≤ (av b a n).2.1 ∧ (av b a n).2.1 ≤ b.length ∧ (n ≤ 0 → (av b a n).1.length = 0) ∧ (0 ≤ n → ((av b a n).1.length : Int) ≤ n) := by
  unfold av
  split
  · simp only [List.length_take, List.length_drop]; omega
  · simp
theorem getRaw_u8 {b : List Int} (h : U8s b) (a n : Int) : U8s (av b a n).1 := by
  unfold av
  split
  · exact fun x hx => h x (List.mem_of_mem_drop (List.mem_of_mem_take hx))
  · exact fun x hx => by cases hx
def getText (b : List Int) (a m : Int) : List Int × Int × Int := if (getVar b a).2.2 = 0 then (if m < (getVar b a).1 then ([], 0, 3) else av b (getVar b a).2.1 (getVar b a).1) else ([], 0, (getVar b a).2.2)
theorem getText_bd (b : List Int) (a m : Int) : (getText b a m).1.length ≤ b.length ∧ 0 ≤ (getText b a m).2.1 ∧ (getText b a m).2.1 ≤ b.length := by
  unfold getText
  split
  · split
    · simp
    · have := getRaw_bd b (getVar b a).2.1 (getVar b a).1; omega
  · simp
def rs0 (l : SLimits) (a : Int) : SRS := ⟨a, if limOk l = true then 0 else 5⟩
theorem rs0_ok {l : SLimits} {a : Int} (h : limOk l = true) : rs0 l a = ⟨a, 0⟩ := by rw [rs0, if_pos h]
theorem rs0_no {l : SLimits} {a : Int} (h : limOk l = false) : rs0 l a = ⟨a, 5⟩ := by rw [rs0, h]; rfl
def ac (s : SRS) (k : Bool) (c : Int) : SRS := if s.f1 = 0 ∧ k = false then ⟨s.f0, c⟩ else s
def ab (b : List Int) (s : SRS) : SRS × Int := if s.f1 = 0 then (⟨(getVar b s.f0).2.1, (getVar b s.f0).2.2⟩, (getVar b s.f0).1) else (s, 0)
def ae (b : List Int) (s : SRS) (n : Int) : SRS × List Int := if s.f1 = 0 then (⟨(av b s.f0 n).2.1, (av b s.f0 n).2.2⟩, (av b s.f0 n).1) else (s, [])
def rdText (b : List Int) (s : SRS) (m : Int) : SRS × List Int := if s.f1 = 0 then (⟨(getText b s.f0 m).2.1, (getText b s.f0 m).2.2⟩, (getText b s.f0 m).1) else (s, [])
def ai (b : List Int) (s : SRS) (n c : Int) : SRS × Int := (ac (ab b s).1 (decide ((ab b s).2 < n)) c, (ab b s).2)
theorem rdMust_er {s : SRS} {k : Bool} {c : Int} (h : ¬ s.f1 = 0) : ac s k c = s := by rw [ac, if_neg (fun x => h x.1)]
theorem rdMust_hit {s : SRS} {k : Bool} {c : Int} (h : s.f1 = 0) (hk : k = false) : ac s k c = ⟨s.f0, c⟩ := by rw [ac, if_pos ⟨h, hk⟩]
theorem rdMust_ok {s : SRS} {k : Bool} {c : Int} (hk : k = true) : ac s k c = s := by subst hk; rw [ac, if_neg (fun x => by cases x.2)]
theorem rdNum_er {b : List Int} {s : SRS} (h : ¬ s.f1 = 0) : ab b s = (s, 0) := if_neg h
theorem rdRaw_er {b : List Int} {s : SRS} {n : Int} (h : ¬ s.f1 = 0) : ae b s n = (s, []) := if_neg h
theorem rdText_er {b : List Int} {s : SRS} {n : Int} (h : ¬ s.f1 = 0) : rdText b s n = (s, []) := if_neg h
theorem rdBelow_er {b : List Int} {s : SRS} {n c : Int} (h : ¬ s.f1 = 0) : ai b s n c = (s, 0) := by unfold ai; rw [rdNum_er h]; rw [rdMust_er h]
theorem ay {b : List Int} (hb : U8s b) (s : SRS) : 0 ≤ (ab b s).2 ∧ (ab b s).2 ≤ 1152921504606846975 := by
  unfold ab
  split
  · have := getVar_bd hb s.f0; dsimp only; omega
  · simp
theorem rdRaw_len (b : List Int) (s : SRS) (n : Int) : (ae b s n).2.length ≤ b.length ∧ (0 ≤ n → ((ae b s n).2.length : Int) ≤ n) := by
  unfold ae
  split
  · have := getRaw_bd b s.f0 n; exact ⟨this.1, this.2.2.2.2⟩
  · simp
theorem rdText_len (b : List Int) (s : SRS) (n : Int) : (rdText b s n).2.length ≤ b.length := by
  unfold rdText
  split
  · exact (getText_bd b s.f0 n).1
  · simp
def getOut {α : Type} (r : SRS × α) (d : α) : α × Int × Int := if r.1.f1 = 0 then (r.2, r.1.f0, 0) else (d, 0, r.1.f1)
theorem getOut_yes {α : Type} {r : SRS × α} {d : α} (h : ¬ r.1.f1 ≠ 0) : getOut r d = (r.2, r.1.f0, 0) := if_pos (Decidable.not_not.1 h)
theorem getOut_no {α : Type} {r : SRS × α} {d : α} (h : r.1.f1 ≠ 0) : getOut r d = (d, 0, r.1.f1) := if_neg h
theorem getOut_pr {α : Type} {p : α → Prop} {r : SRS × α} {d : α} (h1 : p r.2) (h2 : p d) : p (getOut r d).1 := by unfold getOut; split <;> assumption
theorem getOut_nr {α : Type} {r : SRS × α} {d : α} {s : SRS} (h : r.1 = s) (h5 : s.f1 = 5) : getOut r d = (d, 0, 5) := by rw [getOut_no (by rw [h, h5]; decide), h, h5]
def rdVote (l : SLimits) (b : List Int) (s : SRS) : SRS × SVote :=
  let r1 := ab b s
  let r2 := ab b r1.1
  let r3 := ae b r2.1 32
  let r4 := ai b r3.1 l.f0 5
  let r5 := ae b r4.1 32
  (r5.1, ⟨r1.2, r2.2, r3.2, r4.2, r5.2⟩)
def aq (l : SLimits) (b : List Int) (a : Int) : SVote × Int × Int := getOut (rdVote l b (rs0 l a)) default
theorem rdVote_er {l : SLimits} {b : List Int} {s : SRS} (h : ¬ s.f1 = 0) : (rdVote l b s).1 = s := by
  simp only [rdVote, rdNum_er h, rdRaw_er h, rdBelow_er h]
theorem rdVote_sm {l : SLimits} {b : List Int} {s : SRS} (h : b.length ≤ 1048576) : (rdVote l b s).2.sm := ⟨Nat.le_trans (rdRaw_len _ _ _).1 h, Nat.le_trans (rdRaw_len _ _ _).1 h⟩
theorem getVote_sm {l : SLimits} {b : List Int} (a : Int) (h : b.length ≤ 1048576) : (aq l b a).1.sm := getOut_pr (p := SVote.sm) (rdVote_sm h) SVote.sm_df
def bitsOk (b : List Int) (n : Int) : Bool := decide (1 ≤ n ∧ n ≤ 10) && decide ((b.length : Int) = bitsSize n) && (bitList b).all (fun x => decide (x < n))
theorem all_step {l : List Int} {n : Int} {i : Nat} (hi : i < l.length) (h : (l.take i).all (fun x => decide (x < n)) = true) (hx : l.getD i 0 < n) : (l.take (i + 1)).all (fun x => decide (x < n)) = true := by
  rw [take_succ' (df := 0) hi]; simp only [List.all_append, List.all_cons, List.all_nil, Bool.and_true, Bool.and_eq_true] at h ⊢; exact ⟨h, decide_eq_true hx⟩
theorem all_no {l : List Int} {n : Int} {i : Nat} (hi : i < l.length) (hx : ¬ l.getD i 0 < n) : l.all (fun x => decide (x < n)) = false := by
  cases h : l.all (fun x => decide (x < n)) with
  | false => rfl
  | true =>
    rw [List.all_eq_true] at h
    have := h (l.getD i 0) (by rw [List.getD_eq_getElem?_getD, List.getElem?_eq_getElem hi]; exact List.getElem_mem hi)
    exact absurd (of_decide_eq_true this) hx
theorem bits_last {b : List Int} {n : Int} (h : 0 < (bitList b).length) : (bitList b).all (fun x => decide (x < n)) = decide ((bitList b).getD (((bitList b).length : Int) - 1).toNat 0 < n) := by
  rw [show (((bitList b).length : Int) - 1).toNat = (bitList b).length - 1 from by omega]
  have h1 := bitsGo_last b n (8 * b.length) 0
  rw [show bitsGo b (8 * b.length) 0 = bitList b from rfl] at h1
  rw [h1, List.getLast?_eq_getElem?, List.getElem?_eq_getElem (by omega), List.getD_eq_getElem?_getD, List.getElem?_eq_getElem (by omega)]
  rfl
theorem bitsOk_len {b : List Int} {n : Int} (h : bitsOk b n = true) : b.length ≤ 2 := by
  simp only [bitsOk, Bool.and_eq_true, decide_eq_true_eq] at h
  have := h.1.2
  unfold bitsSize at this
  rw [if_neg (by omega)] at this
  omega
theorem rdRaw_u8 {b : List Int} (hb : U8s b) (s : SRS) (n : Int) : U8s (ae b s n).2 := by
  unfold ae
  split
  · exact getRaw_u8 hb _ _
  · exact fun x hx => by cases hx
def ao (b : List Int) (s : SRS) : Nat → SRS × List (List Int)
  | 0 => (s, [])
  | i + 1 => ((ae b (ao b s i).1 32).1, (ao b s i).2 ++ [(ae b (ao b s i).1 32).2])
theorem rdTags_len (b : List Int) (s : SRS) : ∀ i, (ao b s i).2.length = i
  | 0 => rfl
  | i + 1 => by rw [ao, List.length_append, rdTags_len b s i]; rfl
theorem rdTags_mem {b : List Int} {s : SRS} {p : List Int → Prop} (hp : ∀ s, p (ae b s 32).2) : ∀ i, ∀ y ∈ (ao b s i).2, p y
  | 0, y, h => by cases h
  | i + 1, y, h => by
    rcases List.mem_append.1 h with h | h
    · exact rdTags_mem hp i y h
    · rcases List.mem_singleton.1 h with rfl; exact hp _
theorem rdTags_er {b : List Int} {s : SRS} (h : ¬ s.f1 = 0) : ∀ i, (ao b s i).1 = s
  | 0 => rfl
  | i + 1 => by rw [ao, rdTags_er h i, rdRaw_er h]
def ah (b : List Int) (a n : Int) : List Int × Int × Int := if 1 ≤ n ∧ n ≤ 10 then (if (av b a (bitsSize n)).2.2 = 0 then (if bitsOk (av b a (bitsSize n)).1 n = true then ((av b a (bitsSize n)).1, (av b a (bitsSize n)).2.1, 0) else ([], 0, 4)) else ([], 0, (av b a (bitsSize n)).2.2)) else ([], 0, 5)
theorem getBits_val {b : List Int} {a n : Int} (h : ¬ (1 ≤ n ∧ n ≤ 10)) : ah b a n = ([], 0, 5) := if_neg h
theorem getBits_er {b : List Int} {a n : Int} (h : 1 ≤ n ∧ n ≤ 10) (h2 : ¬ (av b a (bitsSize n)).2.2 = 0) : ah b a n = ([], 0, (av b a (bitsSize n)).2.2) := by rw [ah, if_pos h, if_neg h2]
theorem getBits_pad {b : List Int} {a n : Int} (h : 1 ≤ n ∧ n ≤ 10) (h2 : (av b a (bitsSize n)).2.2 = 0) (h3 : bitsOk (av b a (bitsSize n)).1 n = false) : ah b a n = ([], 0, 4) := by rw [ah, if_pos h, if_pos h2, h3]; rfl
theorem getBits_ok {b : List Int} {a n : Int} (h : 1 ≤ n ∧ n ≤ 10) (h2 : (av b a (bitsSize n)).2.2 = 0) (h3 : bitsOk (av b a (bitsSize n)).1 n = true) : ah b a n = ((av b a (bitsSize n)).1, (av b a (bitsSize n)).2.1, 0) := by rw [ah, if_pos h, if_pos h2, if_pos h3]
theorem getBits_len (b : List Int) (a n : Int) : (ah b a n).1.length ≤ 2 := by
  unfold ah
  split
  · split
    · split
      · rename_i h; exact bitsOk_len h
      · simp
    · simp
  · simp
theorem getBits_u8 {b : List Int} (hb : U8s b) (a n : Int) : U8s (ah b a n).1 := by
  unfold ah
  split
  · split
    · split
      · exact getRaw_u8 hb _ _
      · exact fun x hx => by cases hx
    · exact fun x hx => by cases hx
  · exact fun x hx => by cases hx
def rdQc3 (b : List Int) (s : SRS) : SRS := (ae b (ab b (ab b s).1).1 32).1
def rdQcA (l : SLimits) (b : List Int) (s3 : SRS) : SRS × List Int × List (List Int) := if s3.f1 = 0 then ((ao b ⟨(ah b s3.f0 l.f0).2.1, (ah b s3.f0 l.f0).2.2⟩ (bitList (ah b s3.f0 l.f0).1).length).1, (ah b s3.f0 l.f0).1, (ao b ⟨(ah b s3.f0 l.f0).2.1, (ah b s3.f0 l.f0).2.2⟩ (bitList (ah b s3.f0 l.f0).1).length).2) else (s3, [], [])
def rdQc (l : SLimits) (b : List Int) (s : SRS) : SRS × SQc := ((rdQcA l b (rdQc3 b s)).1, ⟨(ab b s).2, (ab b (ab b s).1).2, (ae b (ab b (ab b s).1).1 32).2, (rdQcA l b (rdQc3 b s)).2.1, (rdQcA l b (rdQc3 b s)).2.2⟩)
theorem rdQcA_yes {l : SLimits} {b : List Int} {s : SRS} (h : s.f1 = 0) : rdQcA l b s = ((ao b ⟨(ah b s.f0 l.f0).2.1, (ah b s.f0 l.f0).2.2⟩ (bitList (ah b s.f0 l.f0).1).length).1, (ah b s.f0 l.f0).1, (ao b ⟨(ah b s.f0 l.f0).2.1, (ah b s.f0 l.f0).2.2⟩ (bitList (ah b s.f0 l.f0).1).length).2) := if_pos h
theorem rdQcA_no {l : SLimits} {b : List Int} {s : SRS} (h : ¬ s.f1 = 0) : rdQcA l b s = (s, [], []) := if_neg h
theorem rdQc3_er {b : List Int} {s : SRS} (h : ¬ s.f1 = 0) : rdQc3 b s = s := by simp only [rdQc3, rdNum_er h, rdRaw_er h]
theorem rdQc_er {l : SLimits} {b : List Int} {s : SRS} (h : ¬ s.f1 = 0) : (rdQc l b s).1 = s := by simp only [rdQc, rdQc3_er h, rdQcA_no h]
theorem rdQcA_sm {l : SLimits} {b : List Int} {s : SRS} (h : b.length ≤ 1048576) : (rdQcA l b s).2.1.length ≤ 1048576 ∧ (rdQcA l b s).2.2.length ≤ 1048576 ∧ ∀ y ∈ (rdQcA l b s).2.2, y.length ≤ 1048576 := by
  unfold rdQcA
  split
  · have h1 := getBits_len b s.f0 l.f0
    have h2 := bitList_len (ah b s.f0 l.f0).1
    refine ⟨by dsimp only; omega, by dsimp only; rw [rdTags_len]; omega, fun y hy => rdTags_mem (p := fun y => y.length ≤ 1048576) (fun s => Nat.le_trans (rdRaw_len b s 32).1 h) _ y hy⟩
  · exact ⟨Nat.zero_le _, Nat.zero_le _, fun y hy => by cases hy⟩
theorem rdQc_sm {l : SLimits} {b : List Int} {s : SRS} (h : b.length ≤ 1048576) : (rdQc l b s).2.sm := ⟨Nat.le_trans (rdRaw_len _ _ _).1 h, rdQcA_sm h⟩
theorem i64_num {b : List Int} (hb : U8s b) (s : SRS) : I64 (ab b s).2 := by have := ay hb s; exact ⟨by omega, by omega⟩
theorem rdQc_ok {l : SLimits} {b : List Int} {s : SRS} (h : U8s b) : (rdQc l b s).2.ok := by
  refine ⟨i64_num h _, i64_num h _, rdRaw_u8 h _ _, ?_, ?_⟩
  · show U8s (rdQcA l b (rdQc3 b s)).2.1
    unfold rdQcA
    split
    · exact getBits_u8 h _ _
    · exact fun x hx => by cases hx
  · show ∀ y ∈ (rdQcA l b (rdQc3 b s)).2.2, U8s y
    unfold rdQcA
    split
    · exact rdTags_mem (fun s => rdRaw_u8 h s 32) _
    · exact fun x hx => by cases hx
def getQc (l : SLimits) (b : List Int) (a : Int) : SQc × Int × Int := getOut (rdQc l b (rs0 l a)) default
theorem getQc_sm {l : SLimits} {b : List Int} (a : Int) (h : b.length ≤ 1048576) : (getQc l b a).1.sm := getOut_pr (p := SQc.sm) (rdQc_sm h) SQc.sm_df
def headFits (h : SHead) : Bool := decide (h.f5.f0 < h.f0) && decide (h.f5.f1 = IntKind.i64.wrap (h.f1 - 1)) && decide (h.f5.f2 = h.f3)
theorem rdMust_z {s : SRS} {k : Bool} {c : Int} (hc : c ≠ 0) (h : (ac s k c).f1 = 0) : s.f1 = 0 ∧ k = true := by
  by_cases hs : s.f1 = 0
  · cases k with
    | true => exact ⟨hs, rfl⟩
    | false => rw [rdMust_hit hs rfl] at h; exact absurd h hc
  · rw [rdMust_er hs] at h; exact absurd h hs
theorem rdNum_z {b : List Int} {s : SRS} (h : (ab b s).1.f1 = 0) : s.f1 = 0 := by
  by_cases hs : s.f1 = 0
  · exact hs
  · rw [rdNum_er hs] at h; exact h
theorem rdQc_z {l : SLimits} {b : List Int} {s : SRS} (h : (rdQc l b s).1.f1 = 0) : s.f1 = 0 := by
  by_cases hs : s.f1 = 0
  · exact hs
  · rw [rdQc_er hs] at h; exact h
def rdHead6 (l : SLimits) (b : List Int) (s : SRS) : SRS × SHead :=
  let r1 := ab b s
  let r2 := ab b r1.1
  let r3 := ac r2.1 (decide (r2.2 ≠ 0)) 5
  let r4 := ai b r3 l.f0 5
  let r5 := ae b r4.1 32
  let r6 := ae b r5.1 32
  let r7 := rdQc l b r6.1
  (r7.1, ⟨r1.2, r2.2, r4.2, r5.2, r6.2, r7.2⟩)
def af (l : SLimits) (b : List Int) (s : SRS) : SRS × SHead := (ac (rdHead6 l b s).1 (headFits (rdHead6 l b s).2) 6, (rdHead6 l b s).2)
theorem rdHead_er {l : SLimits} {b : List Int} {s : SRS} (h : ¬ s.f1 = 0) : (af l b s).1 = s := by
  have h6 : (rdHead6 l b s).1 = s := by simp only [rdHead6, rdNum_er h, rdMust_er h, rdBelow_er h, rdRaw_er h, rdQc_er h]
  simp only [af, h6, rdMust_er h]
theorem rdHead_sm {l : SLimits} {b : List Int} {s : SRS} (h : b.length ≤ 1048576) : (af l b s).2.sm := ⟨Nat.le_trans (rdRaw_len _ _ _).1 h, Nat.le_trans (rdRaw_len _ _ _).1 h, rdQc_sm h⟩
theorem rdHead_ok {l : SLimits} {b : List Int} {s : SRS} (h : U8s b) : (af l b s).2.ok := ⟨i64_num h _, i64_num h _, i64_num h _, rdRaw_u8 h _ _, rdRaw_u8 h _ _, rdQc_ok h⟩
def ax (l : SLimits) (b : List Int) (a : Int) : SHead × Int × Int := getOut (af l b (rs0 l a)) default
theorem getHead_sm {l : SLimits} {b : List Int} (a : Int) (h : b.length ≤ 1048576) : (ax l b a).1.sm := getOut_pr (p := SHead.sm) (rdHead_sm h) SHead.sm_df
def ag (n : Int) : Int := if n < 2 then 0 else splitAt n
theorem splitAtT_bd (n : Int) : (n < 2 → ag n = 0) ∧ (2 ≤ n → 1 ≤ ag n ∧ ag n < n) := by
  unfold ag
  refine ⟨fun h => by rw [if_pos h], fun h => ?_⟩
  rw [if_neg (by omega)]
  exact splitAt_bd n h
def aw (i n : Int) : Int := if 1 ≤ n ∧ n ≤ 1048576 ∧ 0 ≤ i ∧ i ≤ n - 1 then pathLen n.toNat i n else 0
theorem pathLen_fuel : ∀ (d e : Nat) (i n : Int), n ≤ d → n ≤ e → 1 ≤ n → pathLen d i n = pathLen e i n
  | 0, _, i, n, h, _, h1 => by omega
  | _, 0, i, n, _, h, h1 => by omega
  | d + 1, e + 1, i, n, h, h', h1 => by
    unfold pathLen
    by_cases h2 : n < 2
    · rw [if_pos h2, if_pos h2]
    · have := splitAt_bd n (by omega)
      rw [if_neg h2, if_neg h2]
      split
      · rw [pathLen_fuel d e _ _ (by omega) (by omega) (by omega)]
      · rw [pathLen_fuel d e _ _ (by omega) (by omega) (by omega)]
theorem pathLenT_bd (i n : Int) : 0 ≤ aw i n ∧ aw i n ≤ 1048576 := by
  unfold aw
  split
  · have := pathLen_bd n.toNat i n; omega
  · omega
theorem pathLenT_no {i n : Int} (h : ¬ (1 ≤ n ∧ n ≤ 1048576 ∧ 0 ≤ i ∧ i ≤ n - 1)) : aw i n = 0 := by unfold aw; rw [if_neg h]
theorem pathLenT_one {i n : Int} (h : n < 2) : aw i n = 0 := by
  unfold aw
  split
  · rw [show n = 1 from by omega]; rfl
  · rfl
theorem pathLenT_left {i n : Int} (h : 1 ≤ n ∧ n ≤ 1048576 ∧ 0 ≤ i ∧ i ≤ n - 1) (h2 : 2 ≤ n) (hi : i < ag n) : aw i n = 1 + aw i (ag n) := by
  have hb := splitAt_bd n h2
  have e : ag n = splitAt n := by unfold ag; rw [if_neg (by omega)]
  rw [e] at hi ⊢
  unfold aw
  rw [if_pos h, if_pos (by omega)]
  obtain ⟨d, hd⟩ : ∃ d, n.toNat = d + 1 := ⟨n.toNat - 1, by omega⟩
  rw [hd]
  conv => lhs; unfold pathLen
  rw [if_neg (by omega), if_pos hi, pathLen_fuel d (splitAt n).toNat _ _ (by omega) (by omega) (by omega)]
theorem pathLenT_right {i n : Int} (h : 1 ≤ n ∧ n ≤ 1048576 ∧ 0 ≤ i ∧ i ≤ n - 1) (h2 : 2 ≤ n) (hi : ¬ i < ag n) : aw i n = 1 + aw (i - ag n) (n - ag n) := by
  have hb := splitAt_bd n h2
  have e : ag n = splitAt n := by unfold ag; rw [if_neg (by omega)]
  rw [e] at hi ⊢
  unfold aw
  rw [if_pos h, if_pos (by omega)]
  obtain ⟨d, hd⟩ : ∃ d, n.toNat = d + 1 := ⟨n.toNat - 1, by omega⟩
  rw [hd]
  conv => lhs; unfold pathLen
  rw [if_neg (by omega), if_neg hi, pathLen_fuel d (n - splitAt n).toNat _ _ (by omega) (by omega) (by omega)]
def leafHash (x : List Int) : List Int := sha ([0] ++ x)
def nodeHash (a b : List Int) : List Int := sha ([1] ++ a ++ b)
theorem leafHash_len (x : List Int) : (leafHash x).length ≤ 32 := sha_len _
theorem leafHash_u8 (x : List Int) : U8s (leafHash x) := sha_u8 _
theorem nodeHash_len (a b : List Int) : (nodeHash a b).length ≤ 32 := sha_len _
theorem nodeHash_u8 (a b : List Int) : U8s (nodeHash a b) := sha_u8 _
theorem u8_cons {x : Int} {a : List Int} (h0 : 0 ≤ x ∧ x ≤ 255) (h : U8s a) : U8s ([x] ++ a) := fun y hy => by
  rcases List.mem_append.1 hy with hy | hy
  · rcases List.mem_singleton.1 hy with rfl; exact h0
  · exact h y hy
theorem u8_app {a b : List Int} (h : U8s a) (h' : U8s b) : U8s (a ++ b) := fun y hy => by
  rcases List.mem_append.1 hy with hy | hy
  · exact h y hy
  · exact h' y hy
theorem mem_sub {α : Type} {p : α → Prop} {l : List α} (h : ∀ y ∈ l, p y) (a b : Nat) : ∀ y ∈ (l.drop a).take b, p y := fun y hy => h y (List.mem_of_mem_drop (List.mem_of_mem_take hy))
theorem splitAtT_le (n : Int) : 0 ≤ ag n ∧ (0 ≤ n → ag n ≤ n) := by have := splitAtT_bd n; omega
theorem part_len {α : Type} (l : List α) : ((l.drop 0).take ((ag (l.length : Int)).toNat - 0)).length = (ag (l.length : Int)).toNat ∧ ((l.drop (ag (l.length : Int)).toNat).take (l.length - (ag (l.length : Int)).toNat)).length = l.length - (ag (l.length : Int)).toNat := by
  have := splitAtT_le (l.length : Int)
  simp only [List.length_take, List.length_drop]
  omega
def aj (l : List (List Int)) : List Int :=
  if h0 : l.length = 0 then sha [] else if h1 : l.length = 1 then leafHash (l.getD 0 []) else
  nodeHash (aj ((l.drop 0).take ((ag (l.length : Int)).toNat - 0))) (aj ((l.drop (ag (l.length : Int)).toNat).take (l.length - (ag (l.length : Int)).toNat)))
termination_by l.length
decreasing_by
  · have h1 := part_len l; have h2 := splitAtT_bd (l.length : Int); omega
  · have h1 := part_len l; have h2 := splitAtT_bd (l.length : Int); omega
theorem treeRoot_nil {l : List (List Int)} (h : (l.length : Int) = 0) : aj l = sha [] := by rw [aj, dif_pos (by omega)]
theorem treeRoot_one {l : List (List Int)} (h : (l.length : Int) = 1) : aj l = leafHash (l.getD 0 []) := by rw [aj, dif_neg (by omega), dif_pos (by omega)]
theorem treeRoot_two {l : List (List Int)} (h0 : ¬ (l.length : Int) = 0) (h1 : ¬ (l.length : Int) = 1) : aj l = nodeHash (aj ((l.drop 0).take ((ag (l.length : Int)).toNat - 0))) (aj ((l.drop (ag (l.length : Int)).toNat).take (l.length - (ag (l.length : Int)).toNat))) := by rw [aj, dif_neg (by omega), dif_neg (by omega)]
theorem treeRoot_len (l : List (List Int)) : (aj l).length ≤ 32 := by
  rw [aj]
  split
  · exact sha_len _
  · split
    · exact leafHash_len _
    · exact nodeHash_len _ _
theorem treeRoot_u8 (l : List (List Int)) : U8s (aj l) := by
  rw [aj]
  split
  · exact sha_u8 _
  · split
    · exact leafHash_u8 _
    · exact nodeHash_u8 _ _
theorem getText_u8 {b : List Int} (h : U8s b) (a m : Int) : U8s (getText b a m).1 := by
  unfold getText
  split
  · split
    · exact fun x hx => by cases hx
    · exact getRaw_u8 h _ _
  · exact fun x hx => by cases hx
theorem rdText_u8 {b : List Int} (h : U8s b) (s : SRS) (m : Int) : U8s (rdText b s m).2 := by
  unfold rdText
  split
  · exact getText_u8 h _ _
  · exact fun x hx => by cases hx
theorem mem_snoc {α : Type} {p : α → Prop} {l : List α} {x : α} (h : ∀ y ∈ l, p y) (hx : p x) : ∀ y ∈ l ++ [x], p y := fun y hy => by
  rcases List.mem_append.1 hy with hy | hy
  · exact h y hy
  · rcases List.mem_singleton.1 hy with rfl; exact hx
def rdTx (l : SLimits) (b : List Int) : Nat → SRS → List (List Int) → SRS × List (List Int)
  | 0, q, ts => (q, ts)
  | d + 1, q, ts => if q.f1 = 0 then rdTx l b d (rdText b q l.f1).1 (ts ++ [(rdText b q l.f1).2]) else (q, ts)
theorem rdTx_next {l : SLimits} {b : List Int} {n i : Nat} {q : SRS} {ts : List (List Int)} (hi : i < n) (h : q.f1 = 0) : rdTx l b (n - i) q ts = rdTx l b (n - (i + 1)) (rdText b q l.f1).1 (ts ++ [(rdText b q l.f1).2]) := by
  obtain ⟨d, e⟩ : ∃ d, n - i = d + 1 := ⟨n - i - 1, by omega⟩
  rw [e, show n - (i + 1) = d from by omega, rdTx, if_pos h]
theorem rdTx_out {l : SLimits} {b : List Int} {n i : Nat} {q : SRS} {ts : List (List Int)} (h : n ≤ i ∨ ¬ q.f1 = 0) : rdTx l b (n - i) q ts = (q, ts) := by
  generalize hd : n - i = d
  cases d with
  | zero => rfl
  | succ d => rw [rdTx, if_neg (by omega)]
theorem rdTx_er {l : SLimits} {b : List Int} {d : Nat} {q : SRS} {ts : List (List Int)} (h : ¬ q.f1 = 0) : rdTx l b d q ts = (q, ts) := by
  cases d with
  | zero => rfl
  | succ d => rw [rdTx, if_neg h]
theorem rdTx_len {l : SLimits} {b : List Int} : ∀ (d : Nat) (q : SRS) (ts : List (List Int)), (rdTx l b d q ts).2.length ≤ ts.length + d
  | 0, _, _ => Nat.le_refl _
  | d + 1, q, ts => by
    rw [rdTx]
    split
    · have := rdTx_len (l := l) (b := b) d (rdText b q l.f1).1 (ts ++ [(rdText b q l.f1).2]); simp only [List.length_append, List.length_cons, List.length_nil] at this; omega
    · simp
theorem rdTx_mem {l : SLimits} {b : List Int} {p : List Int → Prop} (hp : ∀ s, p (rdText b s l.f1).2) : ∀ (d : Nat) (q : SRS) (ts : List (List Int)), (∀ y ∈ ts, p y) → ∀ y ∈ (rdTx l b d q ts).2, p y
  | 0, _, _, h => h
  | d + 1, q, ts, h => by
    rw [rdTx]
    split
    · exact rdTx_mem hp d _ _ (mem_snoc h (hp _))
    · exact h
def rdB2 (l : SLimits) (b : List Int) (s : SRS) : SRS × Int := ai b (af l b s).1 (l.f2 + 1) 3
def rdB3 (l : SLimits) (b : List Int) (s : SRS) : SRS × List (List Int) := rdTx l b (rdB2 l b s).2.toNat (rdB2 l b s).1 []
def am (l : SLimits) (b : List Int) (s : SRS) : SRS × SBlock := (if (rdB3 l b s).1.f1 = 0 then ac (rdB3 l b s).1 (decide ((af l b s).2.f4 = aj (rdB3 l b s).2)) 7 else (rdB3 l b s).1, ⟨(af l b s).2, (rdB3 l b s).2⟩)
theorem rdB_out {l : SLimits} {b : List Int} {s q : SRS} {i : Nat} {ts : List (List Int)} (h4 : rdTx l b ((rdB2 l b s).2.toNat - i) q ts = rdTx l b (rdB2 l b s).2.toNat (rdB2 l b s).1 []) (h : (rdB2 l b s).2.toNat ≤ i ∨ ¬ q.f1 = 0) : rdB3 l b s = (q, ts) := h4.symm.trans (rdTx_out h)
theorem rdBlock_ok {l : SLimits} {b : List Int} {s q : SRS} {ts : List (List Int)} (h : rdB3 l b s = (q, ts)) (hq : q.f1 = 0) : am l b s = (ac q (decide ((af l b s).2.f4 = aj ts)) 7, ⟨(af l b s).2, ts⟩) := by unfold am; rw [h, if_pos hq]
theorem rdBlock_no {l : SLimits} {b : List Int} {s q : SRS} {ts : List (List Int)} (h : rdB3 l b s = (q, ts)) (hq : ¬ q.f1 = 0) : am l b s = (q, ⟨(af l b s).2, ts⟩) := by unfold am; rw [h, if_neg hq]
theorem rdB2_z {l : SLimits} {b : List Int} {s : SRS} (hl : s.f1 = 0 → limOk l = true) (h : (rdB2 l b s).1.f1 = 0) : (rdB2 l b s).2 ≤ 8 := by
  by_cases hs : s.f1 = 0
  · have h5 := hl hs
    simp [limOk] at h5
    have hm : (ac (ab b (af l b s).1).1 (decide ((ab b (af l b s).1).2 < l.f2 + 1)) 3).f1 = 0 := h
    obtain ⟨_, hk⟩ := rdMust_z (by decide) hm
    have := of_decide_eq_true hk
    show (ab b (af l b s).1).2 ≤ 8
    omega
  · have h1 : (rdB2 l b s).1 = s := by unfold rdB2; rw [rdBelow_er (by rw [rdHead_er hs]; exact hs), rdHead_er hs]
    rw [h1] at h; exact absurd h hs
theorem rdBlock_er {l : SLimits} {b : List Int} {s : SRS} (h : ¬ s.f1 = 0) : (am l b s).1 = s := by
  have h0 : (rdB2 l b s).1 = s := by unfold rdB2; rw [rdBelow_er (by rw [rdHead_er h]; exact h), rdHead_er h]
  have h3 : rdB3 l b s = (s, []) := by unfold rdB3; rw [h0, rdTx_er h]
  rw [rdBlock_no h3 h]
theorem rdBlock_sm {l : SLimits} {b : List Int} {s : SRS} (h : b.length ≤ 1048576) (hl : s.f1 = 0 → limOk l = true) : (am l b s).2.sm := by
  refine ⟨rdHead_sm h, ?_, rdTx_mem (fun s => Nat.le_trans (rdText_len b s l.f1) h) _ _ _ fun y hy => by cases hy⟩
  show (rdB3 l b s).2.length ≤ 1048576
  unfold rdB3
  by_cases hz : (rdB2 l b s).1.f1 = 0
  · have := rdB2_z hl hz
    have := rdTx_len (l := l) (b := b) (rdB2 l b s).2.toNat (rdB2 l b s).1 []
    simp only [List.length_nil] at this
    omega
  · rw [rdTx_er hz]; simp
theorem rs0_zb {l : SLimits} {a : Int} (h : (rs0 l a).f1 = 0) : limOk l = true := by
  cases hl : limOk l with
  | true => rfl
  | false => rw [rs0_no hl] at h; exact absurd h (show ¬ ((5 : Int) = 0) by decide)
def ar (l : SLimits) (b : List Int) (a : Int) : SBlock × Int × Int := getOut (am l b (rs0 l a)) default
theorem getBlock_sm {l : SLimits} {b : List Int} (a : Int) (h : b.length ≤ 1048576) : (ar l b a).1.sm := getOut_pr (p := SBlock.sm) (rdBlock_sm h rs0_zb) SBlock.sm_df
def rdEnt (l : SLimits) (b : List Int) (v : Int) (q : SRS) (la : Int) : SRS × SEntry :=
  let r1 := ai b q l.f0 5
  let q2 := ac r1.1 (decide (la < r1.2)) 6
  let r3 := ai b q2 v 6
  let r4 := ae b r3.1 32
  (r4.1, ⟨r1.2, r3.2, r4.2⟩)
theorem rdEnt_sm {l : SLimits} {b : List Int} {v : Int} {q : SRS} {la : Int} (h : b.length ≤ 1048576) : (rdEnt l b v q la).2.sm := Nat.le_trans (rdRaw_len _ _ _).1 h
def rdEs (l : SLimits) (b : List Int) (v : Int) : Nat → SRS → Int → List SEntry → SRS × List SEntry
  | 0, q, _, es => (q, es)
  | d + 1, q, la, es => if q.f1 = 0 then rdEs l b v d (rdEnt l b v q la).1 (rdEnt l b v q la).2.f0 (es ++ [(rdEnt l b v q la).2]) else (q, es)
theorem rdEs_next {l : SLimits} {b : List Int} {v : Int} {n i : Nat} {q : SRS} {la : Int} {es : List SEntry} (hi : i < n) (h : q.f1 = 0) : rdEs l b v (n - i) q la es = rdEs l b v (n - (i + 1)) (rdEnt l b v q la).1 (rdEnt l b v q la).2.f0 (es ++ [(rdEnt l b v q la).2]) := by
  obtain ⟨d, e⟩ : ∃ d, n - i = d + 1 := ⟨n - i - 1, by omega⟩
  rw [e, show n - (i + 1) = d from by omega, rdEs, if_pos h]
theorem rdEs_out {l : SLimits} {b : List Int} {v : Int} {n i : Nat} {q : SRS} {la : Int} {es : List SEntry} (h : n ≤ i ∨ ¬ q.f1 = 0) : rdEs l b v (n - i) q la es = (q, es) := by
  generalize hd : n - i = d
  cases d with
  | zero => rfl
  | succ d => rw [rdEs, if_neg (by omega)]
theorem rdEs_len {l : SLimits} {b : List Int} {v : Int} : ∀ (d : Nat) (q : SRS) (la : Int) (es : List SEntry), (rdEs l b v d q la es).2.length ≤ es.length + d
  | 0, _, _, _ => Nat.le_refl _
  | d + 1, q, la, es => by
    rw [rdEs]
    split
    · have := rdEs_len (l := l) (b := b) (v := v) d (rdEnt l b v q la).1 (rdEnt l b v q la).2.f0 (es ++ [(rdEnt l b v q la).2]); simp only [List.length_append, List.length_cons, List.length_nil] at this; omega
    · simp
theorem rdEs_mem {l : SLimits} {b : List Int} {v : Int} (h0 : b.length ≤ 1048576) : ∀ (d : Nat) (q : SRS) (la : Int) (es : List SEntry), (∀ y ∈ es, SEntry.sm y) → ∀ y ∈ (rdEs l b v d q la es).2, SEntry.sm y
  | 0, _, _, _, h => h
  | d + 1, q, la, es, h => by
    rw [rdEs]
    split
    · exact rdEs_mem h0 d _ _ _ fun y hy => by
        rcases List.mem_append.1 hy with hy | hy
        · exact h y hy
        · rcases List.mem_singleton.1 hy with rfl; exact rdEnt_sm h0
    · exact h
theorem rdEs_er {l : SLimits} {b : List Int} {v : Int} {d : Nat} {q : SRS} {la : Int} {es : List SEntry} (h : ¬ q.f1 = 0) : rdEs l b v d q la es = (q, es) := by
  cases d with
  | zero => rfl
  | succ d => rw [rdEs, if_neg h]
def rdTc1 (l : SLimits) (b : List Int) (s : SRS) : SRS × Int := ai b (ab b s).1 (l.f0 + 1) 3
def rdTc (l : SLimits) (b : List Int) (s : SRS) : SRS × STc := ((rdEs l b (ab b s).2 (rdTc1 l b s).2.toNat (rdTc1 l b s).1 (-1) []).1, ⟨(ab b s).2, (rdEs l b (ab b s).2 (rdTc1 l b s).2.toNat (rdTc1 l b s).1 (-1) []).2⟩)
theorem rdTc1_z {l : SLimits} {b : List Int} {s : SRS} (hl : s.f1 = 0 → limOk l = true) (h : (rdTc1 l b s).1.f1 = 0) : (rdTc1 l b s).2 ≤ 10 := by
  by_cases hs : s.f1 = 0
  · have h5 := hl hs
    simp [limOk] at h5
    have hm : (ac (ab b (ab b s).1).1 (decide ((ab b (ab b s).1).2 < l.f0 + 1)) 3).f1 = 0 := h
    have hk : decide ((ab b (ab b s).1).2 < l.f0 + 1) = true := by
      cases hk : decide ((ab b (ab b s).1).2 < l.f0 + 1) with
      | true => rfl
      | false =>
        rw [hk] at hm
        by_cases h1 : (ab b (ab b s).1).1.f1 = 0
        · rw [rdMust_hit h1 rfl] at hm; exact absurd hm (show ¬ ((3 : Int) = 0) by decide)
        · rw [rdMust_er h1] at hm; exact absurd hm h1
    have := of_decide_eq_true hk
    show (ab b (ab b s).1).2 ≤ 10
    omega
  · have h1 : (rdTc1 l b s).1 = s := by unfold rdTc1; rw [rdNum_er hs, rdBelow_er hs]
    rw [h1] at h; exact absurd h hs
theorem rdTc_er {l : SLimits} {b : List Int} {s : SRS} (h : ¬ s.f1 = 0) : (rdTc l b s).1 = s := by
  have h0 : (rdTc1 l b s).1 = s := by unfold rdTc1; rw [rdNum_er h, rdBelow_er h]
  unfold rdTc
  rw [h0, rdEs_er h]
theorem rdTc_sm {l : SLimits} {b : List Int} {s : SRS} (h : b.length ≤ 1048576) (hl : s.f1 = 0 → limOk l = true) : (rdTc l b s).2.sm := by
  show (rdEs l b (ab b s).2 (rdTc1 l b s).2.toNat (rdTc1 l b s).1 (-1) []).2.length ≤ 1048576 ∧ ∀ y ∈ (rdEs l b (ab b s).2 (rdTc1 l b s).2.toNat (rdTc1 l b s).1 (-1) []).2, SEntry.sm y
  refine ⟨?_, rdEs_mem h _ _ _ _ fun y hy => by cases hy⟩
  by_cases hz : (rdTc1 l b s).1.f1 = 0
  · have := rdTc1_z hl hz
    have := rdEs_len (l := l) (b := b) (v := (ab b s).2) (rdTc1 l b s).2.toNat (rdTc1 l b s).1 (-1) []
    simp only [List.length_nil] at this
    omega
  · rw [rdEs_er hz]; simp
theorem rs0_z' {l : SLimits} {a : Int} (h : (rs0 l a).f1 = 0) : limOk l = true := by
  cases hl : limOk l with
  | true => rfl
  | false => rw [rs0_no hl] at h; exact absurd h (show ¬ ((5 : Int) = 0) by decide)
def getTc (l : SLimits) (b : List Int) (a : Int) : STc × Int × Int := getOut (rdTc l b (rs0 l a)) default
theorem getTc_sm {l : SLimits} {b : List Int} (a : Int) (h : b.length ≤ 1048576) : (getTc l b a).1.sm := getOut_pr (p := STc.sm) (rdTc_sm h rs0_z') STc.sm_df
def closes (p : SProof) : Bool := decide (p.f1.f0 = (p.f0.getD ((p.f0.length : Int) - 1).toNat default).f0) && decide (p.f1.f1 = (p.f0.getD ((p.f0.length : Int) - 1).toNat default).f1)
def rdHs (l : SLimits) (b : List Int) : Nat → SRS → List SHead → SRS × List SHead
  | 0, q, hs => (q, hs)
  | d + 1, q, hs => if q.f1 = 0 then rdHs l b d (af l b q).1 (hs ++ [(af l b q).2]) else (q, hs)
theorem rdHs_next {l : SLimits} {b : List Int} {n i : Nat} {q : SRS} {hs : List SHead} (hi : i < n) (h : q.f1 = 0) : rdHs l b (n - i) q hs = rdHs l b (n - (i + 1)) (af l b q).1 (hs ++ [(af l b q).2]) := by
  obtain ⟨d, e⟩ : ∃ d, n - i = d + 1 := ⟨n - i - 1, by omega⟩
  rw [e, show n - (i + 1) = d from by omega, rdHs, if_pos h]
theorem rdHs_out {l : SLimits} {b : List Int} {n i : Nat} {q : SRS} {hs : List SHead} (h : n ≤ i ∨ ¬ q.f1 = 0) : rdHs l b (n - i) q hs = (q, hs) := by
  generalize hd : n - i = d
  cases d with
  | zero => rfl
  | succ d => rw [rdHs, if_neg (by omega)]
theorem rdHs_len {l : SLimits} {b : List Int} : ∀ (d : Nat) (q : SRS) (hs : List SHead), (rdHs l b d q hs).2.length ≤ hs.length + d
  | 0, _, _ => Nat.le_refl _
  | d + 1, q, hs => by
    rw [rdHs]
    split
    · have := rdHs_len (l := l) (b := b) d (af l b q).1 (hs ++ [(af l b q).2]); simp only [List.length_append, List.length_cons, List.length_nil] at this; omega
    · simp
theorem rdHs_mem {l : SLimits} {b : List Int} {p : SHead → Prop} (hp : ∀ s, p (af l b s).2) : ∀ (d : Nat) (q : SRS) (hs : List SHead), (∀ y ∈ hs, p y) → ∀ y ∈ (rdHs l b d q hs).2, p y
  | 0, _, _, h => h
  | d + 1, q, hs, h => by
    rw [rdHs]
    split
    · exact rdHs_mem hp d _ _ fun y hy => by
        rcases List.mem_append.1 hy with hy | hy
        · exact h y hy
        · rcases List.mem_singleton.1 hy with rfl; exact hp _
    · exact h
theorem rdHs_er {l : SLimits} {b : List Int} {d : Nat} {q : SRS} {hs : List SHead} (h : ¬ q.f1 = 0) : rdHs l b d q hs = (q, hs) := by
  cases d with
  | zero => rfl
  | succ d => rw [rdHs, if_neg h]
def rdProof2 (l : SLimits) (b : List Int) (x : SRS × List SHead) : SRS × SProof := (if (rdQc l b x.1).1.f1 = 0 then ac (rdQc l b x.1).1 (closes ⟨x.2, (rdQc l b x.1).2⟩) 6 else (rdQc l b x.1).1, ⟨x.2, (rdQc l b x.1).2⟩)
theorem rdProof2_yes {l : SLimits} {b : List Int} {q : SRS} {hs : List SHead} (h : (rdQc l b q).1.f1 = 0) : rdProof2 l b (q, hs) = (ac (rdQc l b q).1 (closes ⟨hs, (rdQc l b q).2⟩) 6, ⟨hs, (rdQc l b q).2⟩) := by unfold rdProof2; rw [if_pos h]
theorem rdProof2_no {l : SLimits} {b : List Int} {q : SRS} {hs : List SHead} (h : ¬ (rdQc l b q).1.f1 = 0) : rdProof2 l b (q, hs) = ((rdQc l b q).1, ⟨hs, (rdQc l b q).2⟩) := by unfold rdProof2; rw [if_neg h]
def rdProof0 (l : SLimits) (b : List Int) (s : SRS) : SRS := ac (ac (ab b s).1 (decide (3 ≤ (ab b s).2)) 5) (decide ((ab b s).2 ≤ l.f4)) 3
def au (l : SLimits) (b : List Int) (s : SRS) : SRS × SProof := rdProof2 l b (rdHs l b (ab b s).2.toNat (rdProof0 l b s) [])
theorem rdProof0_z {l : SLimits} {b : List Int} {s : SRS} (hl : s.f1 = 0 → limOk l = true) (h : (rdProof0 l b s).f1 = 0) : 3 ≤ (ab b s).2 ∧ (ab b s).2 ≤ 5 := by
  obtain ⟨h1, h2⟩ := rdMust_z (by decide) h
  obtain ⟨h3, h4⟩ := rdMust_z (by decide) h1
  have h5 := hl (rdNum_z h3)
  simp [limOk] at h5
  have h2 := of_decide_eq_true h2
  have h4 := of_decide_eq_true h4
  omega
theorem rdProof_er {l : SLimits} {b : List Int} {s : SRS} (h : ¬ s.f1 = 0) : (au l b s).1 = s := by
  have h0 : rdProof0 l b s = s := by simp only [rdProof0, rdNum_er h, rdMust_er h]
  unfold au
  rw [h0, rdHs_er h, rdProof2_no (by rw [rdQc_er h]; exact h)]
  exact rdQc_er h
theorem rdProof_sm {l : SLimits} {b : List Int} {s : SRS} (h : b.length ≤ 1048576) (hl : s.f1 = 0 → limOk l = true) : (au l b s).2.sm := by
  refine ⟨⟨?_, ?_⟩, rdQc_sm h⟩
  · show (rdHs l b (ab b s).2.toNat (rdProof0 l b s) []).2.length ≤ 1048576
    by_cases hz : (rdProof0 l b s).f1 = 0
    · have := rdProof0_z hl hz
      have := rdHs_len (l := l) (b := b) (ab b s).2.toNat (rdProof0 l b s) []
      simp only [List.length_nil] at this
      omega
    · rw [rdHs_er hz]; simp
  · exact rdHs_mem (fun s => rdHead_sm h) _ _ _ fun y hy => by cases hy
theorem rs0_z {l : SLimits} {a : Int} (h : (rs0 l a).f1 = 0) : limOk l = true := by
  cases hl : limOk l with
  | true => rfl
  | false => rw [rs0_no hl] at h; exact absurd h (show ¬ ((5 : Int) = 0) by decide)
def getProof (l : SLimits) (b : List Int) (a : Int) : SProof × Int × Int := getOut (au l b (rs0 l a)) default
theorem getProof_sm {l : SLimits} {b : List Int} (a : Int) (h : b.length ≤ 1048576) : (getProof l b a).1.sm := getOut_pr (p := SProof.sm) (rdProof_sm h rs0_z) SProof.sm_df
def rdTg (b : List Int) : Nat → SRS → List (List Int) → SRS × List (List Int)
  | 0, q, ts => (q, ts)
  | d + 1, q, ts => if q.f1 = 0 then rdTg b d (ae b q 32).1 (ts ++ [(ae b q 32).2]) else (q, ts)
theorem rdTg_next {b : List Int} {n i : Nat} {q : SRS} {ts : List (List Int)} (hi : i < n) (h : q.f1 = 0) : rdTg b (n - i) q ts = rdTg b (n - (i + 1)) (ae b q 32).1 (ts ++ [(ae b q 32).2]) := by
  obtain ⟨d, e⟩ : ∃ d, n - i = d + 1 := ⟨n - i - 1, by omega⟩
  rw [e, show n - (i + 1) = d from by omega, rdTg, if_pos h]
theorem rdTg_out {b : List Int} {n i : Nat} {q : SRS} {ts : List (List Int)} (h : n ≤ i ∨ ¬ q.f1 = 0) : rdTg b (n - i) q ts = (q, ts) := by
  generalize hd : n - i = d
  cases d with
  | zero => rfl
  | succ d => rw [rdTg, if_neg (by omega)]
theorem rdTags_front (b : List Int) (q : SRS) : ∀ d, ao b q (d + 1) = ((ao b (ae b q 32).1 d).1, (ae b q 32).2 :: (ao b (ae b q 32).1 d).2)
  | 0 => rfl
  | d + 1 => by
    have ih := rdTags_front b q d
    show ((ae b (ao b q (d + 1)).1 32).1, (ao b q (d + 1)).2 ++ [(ae b (ao b q (d + 1)).1 32).2]) = _
    rw [ih]; rfl
theorem rdTg_eq (b : List Int) : ∀ (d : Nat) (q : SRS) (ts : List (List Int)), (rdTg b d q ts).1 = (ao b q d).1 ∧ ((ao b q d).1.f1 = 0 → (rdTg b d q ts).2 = ts ++ (ao b q d).2)
  | 0, q, ts => ⟨rfl, fun _ => by simp [rdTg, ao]⟩
  | d + 1, q, ts => by
    rw [rdTg]
    split
    · obtain ⟨h1, h2⟩ := rdTg_eq b d (ae b q 32).1 (ts ++ [(ae b q 32).2])
      rw [rdTags_front]
      exact ⟨h1, fun h => by rw [h2 h, List.append_assoc]; rfl⟩
    · rename_i hq
      rw [rdTags_er hq]
      exact ⟨rfl, fun h => absurd h hq⟩
theorem rdTg_mem {b : List Int} {p : List Int → Prop} (hp : ∀ s, p (ae b s 32).2) : ∀ (d : Nat) (q : SRS) (ts : List (List Int)), (∀ y ∈ ts, p y) → ∀ y ∈ (rdTg b d q ts).2, p y
  | 0, _, _, h => h
  | d + 1, q, ts, h => by
    rw [rdTg]
    split
    · exact rdTg_mem hp d _ _ fun y hy => by
        rcases List.mem_append.1 hy with hy | hy
        · exact h y hy
        · rcases List.mem_singleton.1 hy with rfl; exact hp _
    · exact h
theorem rdTg_len {b : List Int} : ∀ (d : Nat) (q : SRS) (ts : List (List Int)), (rdTg b d q ts).2.length ≤ ts.length + d
  | 0, _, _ => Nat.le_refl _
  | d + 1, q, ts => by
    rw [rdTg]
    split
    · have := rdTg_len (b := b) d (ae b q 32).1 (ts ++ [(ae b q 32).2]); simp only [List.length_append, List.length_cons, List.length_nil] at this; omega
    · simp
def rdI1 (l : SLimits) (b : List Int) (s : SRS) : SRS := ac (ac (ab b (ab b s).1).1 (decide (0 < (ab b (ab b s).1).2)) 5) (decide ((ab b (ab b s).1).2 ≤ l.f2)) 3
def rdI2 (l : SLimits) (b : List Int) (s : SRS) : SRS × Int := ai b (rdI1 l b s) (ab b (ab b s).1).2 5
def rdI3 (l : SLimits) (b : List Int) (s : SRS) : SRS × List Int := rdText b (rdI2 l b s).1 l.f1
def rdIn (l : SLimits) (b : List Int) (s : SRS) : Nat := (aw (rdI2 l b s).2 (ab b (ab b s).1).2).toNat
def rdIA (l : SLimits) (b : List Int) (s : SRS) : SRS × List (List Int) := if (rdI3 l b s).1.f1 = 0 then ao b (rdI3 l b s).1 (rdIn l b s) else ((rdI3 l b s).1, [])
def rdIncl (l : SLimits) (b : List Int) (s : SRS) : SRS × SIncl := ((rdIA l b s).1, ⟨(ab b s).2, (ab b (ab b s).1).2, (rdI2 l b s).2, (rdI3 l b s).2, (rdIA l b s).2⟩)
def rdInclS (l : SLimits) (b : List Int) (s : SRS) : SRS × SIncl := ((rdTg b (rdIn l b s) (rdI3 l b s).1 []).1, ⟨(ab b s).2, (ab b (ab b s).1).2, (rdI2 l b s).2, (rdI3 l b s).2, (rdTg b (rdIn l b s) (rdI3 l b s).1 []).2⟩)
theorem rdIA_yes {l : SLimits} {b : List Int} {s : SRS} (h : (rdI3 l b s).1.f1 = 0) : rdIA l b s = ao b (rdI3 l b s).1 (rdIn l b s) := if_pos h
theorem rdIA_no {l : SLimits} {b : List Int} {s : SRS} (h : ¬ (rdI3 l b s).1.f1 = 0) : rdIA l b s = ((rdI3 l b s).1, []) := if_neg h
theorem rdIncl_S (l : SLimits) (b : List Int) (s : SRS) (d : SIncl) : getOut (rdIncl l b s) d = getOut (rdInclS l b s) d := by
  obtain ⟨h1, h2⟩ := rdTg_eq b (rdIn l b s) (rdI3 l b s).1 []
  have e : (rdIA l b s).1 = (ao b (rdI3 l b s).1 (rdIn l b s)).1 := by
    by_cases h : (rdI3 l b s).1.f1 = 0
    · rw [rdIA_yes h]
    · rw [rdIA_no h, rdTags_er h]
  by_cases hz : (ao b (rdI3 l b s).1 (rdIn l b s)).1.f1 = 0
  · have h3 : (rdI3 l b s).1.f1 = 0 := by
      by_cases h : (rdI3 l b s).1.f1 = 0
      · exact h
      · rw [rdTags_er h] at hz; exact hz
    have h4 := h2 hz
    unfold rdIncl rdInclS
    rw [h1, h4, rdIA_yes h3]
    rfl
  · rw [getOut_no (r := rdIncl l b s) (by show ¬ (rdIA l b s).1.f1 = 0; rw [e]; exact hz), getOut_no (r := rdInclS l b s) (by show ¬ (rdTg b (rdIn l b s) (rdI3 l b s).1 []).1.f1 = 0; rw [h1]; exact hz)]
    show (d, (0 : Int), (rdIA l b s).1.f1) = (d, 0, (rdTg b (rdIn l b s) (rdI3 l b s).1 []).1.f1)
    rw [e, h1]
theorem rdIncl_er {l : SLimits} {b : List Int} {s : SRS} (h : ¬ s.f1 = 0) : (rdIncl l b s).1 = s := by
  have h1 : rdI1 l b s = s := by simp only [rdI1, rdNum_er h, rdMust_er h]
  have h2 : (rdI2 l b s).1 = s := by unfold rdI2; rw [h1, rdBelow_er h]
  have h3 : (rdI3 l b s).1 = s := by unfold rdI3; rw [h2, rdText_er h]
  show (rdIA l b s).1 = s
  rw [rdIA_no (by rw [h3]; exact h), h3]
theorem rdIn_le (l : SLimits) (b : List Int) (s : SRS) : rdIn l b s ≤ 1048576 := by
  have := pathLenT_bd (rdI2 l b s).2 (ab b (ab b s).1).2
  unfold rdIn; omega
theorem rdIncl_sm {l : SLimits} {b : List Int} {s : SRS} (h : b.length ≤ 1048576) : (rdIncl l b s).2.sm := by
  refine ⟨Nat.le_trans (rdText_len _ _ _) h, ?_⟩
  show (rdIA l b s).2.length ≤ 1048576 ∧ ∀ y ∈ (rdIA l b s).2, y.length ≤ 1048576
  have := rdIn_le l b s
  by_cases hz : (rdI3 l b s).1.f1 = 0
  · rw [rdIA_yes hz]
    exact ⟨by rw [rdTags_len]; exact this, rdTags_mem (fun s => Nat.le_trans (rdRaw_len b s 32).1 h) _⟩
  · rw [rdIA_no hz]
    exact ⟨Nat.zero_le _, fun y hy => by cases hy⟩
theorem rdInclS_sm {l : SLimits} {b : List Int} {s : SRS} (h : b.length ≤ 1048576) : (rdInclS l b s).2.sm := by
  refine ⟨Nat.le_trans (rdText_len _ _ _) h, ?_⟩
  show (rdTg b (rdIn l b s) (rdI3 l b s).1 []).2.length ≤ 1048576 ∧ ∀ y ∈ (rdTg b (rdIn l b s) (rdI3 l b s).1 []).2, y.length ≤ 1048576
  have := rdIn_le l b s
  refine ⟨?_, rdTg_mem (fun s => Nat.le_trans (rdRaw_len b s 32).1 h) _ _ _ fun y hy => by cases hy⟩
  have h1 := rdTg_len (b := b) (rdIn l b s) (rdI3 l b s).1 []
  simp only [List.length_nil] at h1
  omega
def getIncl (l : SLimits) (b : List Int) (a : Int) : SIncl × Int × Int := getOut (rdIncl l b (rs0 l a)) default
theorem getIncl_sm {l : SLimits} {b : List Int} (a : Int) (h : b.length ≤ 1048576) : (getIncl l b a).1.sm := getOut_pr (p := SIncl.sm) (rdIncl_sm h) SIncl.sm_df
def nameW (k : Int) (ns : List SStr) : ByteArray := if 0 ≤ k ∧ k ≤ (ns.length : Int) - 1 then (ns.getD k.toNat default).f0 else ByteArray.empty
def kindNs : List SStr := [⟨⟨#[]⟩⟩, ⟨⟨#[118, 111, 116, 101]⟩⟩, ⟨⟨#[113, 99]⟩⟩, ⟨⟨#[104, 101, 97, 100]⟩⟩, ⟨⟨#[98, 108, 111, 99, 107]⟩⟩, ⟨⟨#[116, 99]⟩⟩, ⟨⟨#[112, 114, 111, 111, 102]⟩⟩, ⟨⟨#[105, 110, 99, 108]⟩⟩]
theorem kind_eq {k : Int} (h0 : 0 ≤ k) (h1 : k ≤ 255) : ((nameW k kindNs).toList == ByteArray.empty.toList) = !decide (1 ≤ k ∧ k ≤ 7) := by
  have : ∀ n : Fin 256, ((nameW ((n.val : Nat) : Int) kindNs).data.toList == ByteArray.empty.data.toList) = !decide (1 ≤ ((n.val : Nat) : Int) ∧ ((n.val : Nat) : Int) ≤ 7) := by decide +kernel
  have := this ⟨k.toNat, by omega⟩
  rw [show ((k.toNat : Nat) : Int) = k from by omega] at this
  rw [ByteArray.toList_eq, ByteArray.toList_eq]
  exact this
def dec3 {α : Type} (n : Int) (r : α × Int × Int) (f : α → SMsg) : SMsg × Int := if r.2.2 = 0 then (if r.2.1 = n then (f r.1, 0) else (default, 9)) else (default, r.2.2)
theorem dec3_er {α : Type} {n : Int} {r : α × Int × Int} {f : α → SMsg} (h : ¬ r.2.2 = 0) : dec3 n r f = (default, r.2.2) := if_neg h
theorem dec3_left {α : Type} {n : Int} {r : α × Int × Int} {f : α → SMsg} (h : r.2.2 = 0) (h2 : ¬ r.2.1 = n) : dec3 n r f = (default, 9) := by unfold dec3; rw [if_pos h, if_neg h2]
theorem dec3_ok {α : Type} {n : Int} {r : α × Int × Int} {f : α → SMsg} (h : r.2.2 = 0) (h2 : r.2.1 = n) : dec3 n r f = (f r.1, 0) := by unfold dec3; rw [if_pos h, if_pos h2]
def mVote (x : SVote) : SMsg := ⟨1, x, default, default, default, default, default, default⟩
def mQc (x : SQc) : SMsg := ⟨2, default, x, default, default, default, default, default⟩
def mHead (x : SHead) : SMsg := ⟨3, default, default, x, default, default, default, default⟩
def mBlock (x : SBlock) : SMsg := ⟨4, default, default, default, x, default, default, default⟩
def mTc (x : STc) : SMsg := ⟨5, default, default, default, default, x, default, default⟩
def mProof (x : SProof) : SMsg := ⟨6, default, default, default, default, default, x, default⟩
def mIncl (x : SIncl) : SMsg := ⟨7, default, default, default, default, default, default, x⟩
def aa (l : SLimits) (b : List Int) : SMsg × Int := if limOk l = true then (if b.length = 0 then (default, 1) else if b.getD 0 0 = 1 then dec3 b.length (aq l b 1) mVote else if b.getD 0 0 = 2 then dec3 b.length (getQc l b 1) mQc else if b.getD 0 0 = 3 then dec3 b.length (ax l b 1) mHead else if b.getD 0 0 = 4 then dec3 b.length (ar l b 1) mBlock else if b.getD 0 0 = 5 then dec3 b.length (getTc l b 1) mTc else if b.getD 0 0 = 6 then dec3 b.length (getProof l b 1) mProof else if b.getD 0 0 = 7 then dec3 b.length (getIncl l b 1) mIncl else (default, 8)) else (default, 5)
theorem dec_lim {l : SLimits} {b : List Int} (h : limOk l = false) : aa l b = (default, 5) := by unfold aa; rw [if_neg (fun e => bool_ne e h)]
theorem dec_nil {l : SLimits} {b : List Int} (h : limOk l = true) (h0 : b.length = 0) : aa l b = (default, 1) := by unfold aa; rw [if_pos h, if_pos h0]
theorem dec_kd {l : SLimits} {b : List Int} (h : limOk l = true) (h0 : ¬ b.length = 0) (hk : ¬ (1 ≤ b.getD 0 0 ∧ b.getD 0 0 ≤ 7)) : aa l b = (default, 8) := by unfold aa; rw [if_pos h, if_neg h0, if_neg (by omega), if_neg (by omega), if_neg (by omega), if_neg (by omega), if_neg (by omega), if_neg (by omega), if_neg (by omega)]
theorem dec_1 {l : SLimits} {b : List Int} (h : limOk l = true) (h0 : ¬ b.length = 0) (hk : b.getD 0 0 = 1) : aa l b = dec3 b.length (aq l b 1) mVote := by unfold aa; rw [if_pos h, if_neg h0, if_pos hk]
theorem dec_2 {l : SLimits} {b : List Int} (h : limOk l = true) (h0 : ¬ b.length = 0) (hk : b.getD 0 0 = 2) : aa l b = dec3 b.length (getQc l b 1) mQc := by unfold aa; rw [if_pos h, if_neg h0, if_neg (by omega), if_pos hk]
theorem dec_3 {l : SLimits} {b : List Int} (h : limOk l = true) (h0 : ¬ b.length = 0) (hk : b.getD 0 0 = 3) : aa l b = dec3 b.length (ax l b 1) mHead := by unfold aa; rw [if_pos h, if_neg h0, if_neg (by omega), if_neg (by omega), if_pos hk]
theorem dec_4 {l : SLimits} {b : List Int} (h : limOk l = true) (h0 : ¬ b.length = 0) (hk : b.getD 0 0 = 4) : aa l b = dec3 b.length (ar l b 1) mBlock := by unfold aa; rw [if_pos h, if_neg h0, if_neg (by omega), if_neg (by omega), if_neg (by omega), if_pos hk]
theorem dec_5 {l : SLimits} {b : List Int} (h : limOk l = true) (h0 : ¬ b.length = 0) (hk : b.getD 0 0 = 5) : aa l b = dec3 b.length (getTc l b 1) mTc := by unfold aa; rw [if_pos h, if_neg h0, if_neg (by omega), if_neg (by omega), if_neg (by omega), if_neg (by omega), if_pos hk]
theorem dec_6 {l : SLimits} {b : List Int} (h : limOk l = true) (h0 : ¬ b.length = 0) (hk : b.getD 0 0 = 6) : aa l b = dec3 b.length (getProof l b 1) mProof := by unfold aa; rw [if_pos h, if_neg h0, if_neg (by omega), if_neg (by omega), if_neg (by omega), if_neg (by omega), if_neg (by omega), if_pos hk]
theorem dec_7 {l : SLimits} {b : List Int} (h : limOk l = true) (h0 : ¬ b.length = 0) (hk : b.getD 0 0 = 7) : aa l b = dec3 b.length (getIncl l b 1) mIncl := by unfold aa; rw [if_pos h, if_neg h0, if_neg (by omega), if_neg (by omega), if_neg (by omega), if_neg (by omega), if_neg (by omega), if_neg (by omega), if_pos hk]
theorem decS_er {α : Type} {n : Int} {r : SRS × α} {d : α} {f : α → SMsg} (h : ¬ (ac r.1 (decide (r.1.f0 = n)) 9).f1 = 0) : dec3 n (getOut r d) f = (default, (ac r.1 (decide (r.1.f0 = n)) 9).f1) := by
  unfold dec3 getOut ac at *
  by_cases h1 : r.1.f1 = 0
  · by_cases h2 : r.1.f0 = n
    · simp_all
    · simp_all
  · simp_all
theorem decS_ok {α : Type} {n : Int} {r : SRS × α} {d : α} {f : α → SMsg} (h : (ac r.1 (decide (r.1.f0 = n)) 9).f1 = 0) : dec3 n (getOut r d) f = (f r.2, 0) := by
  unfold dec3 getOut ac at *
  by_cases h1 : r.1.f1 = 0
  · by_cases h2 : r.1.f0 = n
    · simp_all
    · simp_all
  · simp_all
theorem decT_er {α : Type} {n : Int} {r : α × Int × Int} {f : α → SMsg} (h : ¬ (ac ⟨r.2.1, r.2.2⟩ (decide (r.2.1 = n)) 9).f1 = 0) : dec3 n r f = (default, (ac ⟨r.2.1, r.2.2⟩ (decide (r.2.1 = n)) 9).f1) := by
  unfold dec3 ac at *
  by_cases h1 : r.2.2 = 0
  · by_cases h2 : r.2.1 = n
    · simp_all
    · simp_all
  · simp_all
theorem decT_ok {α : Type} {n : Int} {r : α × Int × Int} {f : α → SMsg} (h : (ac ⟨r.2.1, r.2.2⟩ (decide (r.2.1 = n)) 9).f1 = 0) : dec3 n r f = (f r.1, 0) := by
  unfold dec3 ac at *
  by_cases h1 : r.2.2 = 0
  · by_cases h2 : r.2.1 = n
    · simp_all
    · simp_all
  · simp_all
theorem dec_S {l : SLimits} {b : List Int} (h : limOk l = true) (h0 : ¬ b.length = 0) (hk : b.getD 0 0 = 7) : aa l b = dec3 b.length (getOut (rdInclS l b (rs0 l 1)) default) mIncl := by rw [dec_7 h h0 hk, getIncl, rdIncl_S]
theorem dec3_sm {α : Type} {n : Int} {r : α × Int × Int} {f : α → SMsg} (h : (f r.1).sm) : (dec3 n r f).1.sm := by
  unfold dec3
  split
  · split
    · exact h
    · exact SMsg.sm_df
  · exact SMsg.sm_df
theorem decode_sm (l : SLimits) {b : List Int} (h : b.length ≤ 1048576) : (aa l b).1.sm := by
  unfold aa
  repeat' split
  all_goals first | exact SMsg.sm_df | exact dec3_sm ⟨getVote_sm 1 h, SQc.sm_df, SHead.sm_df, SBlock.sm_df, STc.sm_df, SProof.sm_df, SIncl.sm_df⟩ | exact dec3_sm ⟨SVote.sm_df, getQc_sm 1 h, SHead.sm_df, SBlock.sm_df, STc.sm_df, SProof.sm_df, SIncl.sm_df⟩ | exact dec3_sm ⟨SVote.sm_df, SQc.sm_df, getHead_sm 1 h, SBlock.sm_df, STc.sm_df, SProof.sm_df, SIncl.sm_df⟩ | exact dec3_sm ⟨SVote.sm_df, SQc.sm_df, SHead.sm_df, getBlock_sm 1 h, STc.sm_df, SProof.sm_df, SIncl.sm_df⟩ | exact dec3_sm ⟨SVote.sm_df, SQc.sm_df, SHead.sm_df, SBlock.sm_df, getTc_sm 1 h, SProof.sm_df, SIncl.sm_df⟩ | exact dec3_sm ⟨SVote.sm_df, SQc.sm_df, SHead.sm_df, SBlock.sm_df, STc.sm_df, getProof_sm 1 h, SIncl.sm_df⟩ | exact dec3_sm ⟨SVote.sm_df, SQc.sm_df, SHead.sm_df, SBlock.sm_df, STc.sm_df, SProof.sm_df, getIncl_sm 1 h⟩
theorem decV {l : SLimits} {b : List Int} {y : SMsg × Int} (h : aa l b = y := by first | exact dec_lim (by assumption) | exact dec_nil (by assumption) (by omega) | exact dec_kd (by assumption) (by omega) (by omega) | exact (dec_1 (by assumption) (by omega) (by omega)).trans (dec3_er (by assumption)) | exact (dec_1 (by assumption) (by omega) (by omega)).trans (dec3_left (by omega) (by assumption)) | exact (dec_1 (by assumption) (by omega) (by omega)).trans (dec3_ok (by omega) (by omega)) | exact (dec_2 (by assumption) (by omega) (by omega)).trans (dec3_er (by assumption)) | exact (dec_2 (by assumption) (by omega) (by omega)).trans (dec3_left (by omega) (by assumption)) | exact (dec_2 (by assumption) (by omega) (by omega)).trans (dec3_ok (by omega) (by omega)) | exact (dec_3 (by assumption) (by omega) (by omega)).trans (dec3_er (by assumption)) | exact (dec_3 (by assumption) (by omega) (by omega)).trans (dec3_left (by omega) (by assumption)) | exact (dec_3 (by assumption) (by omega) (by omega)).trans (dec3_ok (by omega) (by omega)) | exact (dec_4 (by assumption) (by omega) (by omega)).trans (dec3_er (by assumption)) | exact (dec_4 (by assumption) (by omega) (by omega)).trans (dec3_left (by omega) (by assumption)) | exact (dec_4 (by assumption) (by omega) (by omega)).trans (dec3_ok (by omega) (by omega)) | exact (dec_5 (by assumption) (by omega) (by omega)).trans (dec3_er (by assumption)) | exact (dec_5 (by assumption) (by omega) (by omega)).trans (dec3_left (by omega) (by assumption)) | exact (dec_5 (by assumption) (by omega) (by omega)).trans (dec3_ok (by omega) (by omega)) | exact (dec_6 (by assumption) (by omega) (by omega)).trans (dec3_er (by assumption)) | exact (dec_6 (by assumption) (by omega) (by omega)).trans (dec3_left (by omega) (by assumption)) | exact (dec_6 (by assumption) (by omega) (by omega)).trans (dec3_ok (by omega) (by omega)) | exact (dec_7 (by assumption) (by omega) (by omega)).trans (dec3_er (by assumption)) | exact (dec_7 (by assumption) (by omega) (by omega)).trans (dec3_left (by omega) (by assumption)) | exact (dec_7 (by assumption) (by omega) (by omega)).trans (dec3_ok (by omega) (by omega)) | exact (dec_2 (by assumption) (by omega) (by omega)).trans (decS_er (by assumption)) | exact (dec_2 (by assumption) (by omega) (by omega)).trans (decS_ok (by omega)) | exact (dec_3 (by assumption) (by omega) (by omega)).trans (decS_er (by assumption)) | exact (dec_3 (by assumption) (by omega) (by omega)).trans (decS_ok (by omega)) | exact (dec_4 (by assumption) (by omega) (by omega)).trans (decS_er (by assumption)) | exact (dec_4 (by assumption) (by omega) (by omega)).trans (decS_ok (by omega)) | exact (dec_5 (by assumption) (by omega) (by omega)).trans (decS_er (by assumption)) | exact (dec_5 (by assumption) (by omega) (by omega)).trans (decS_ok (by omega)) | exact (dec_6 (by assumption) (by omega) (by omega)).trans (decS_er (by assumption)) | exact (dec_6 (by assumption) (by omega) (by omega)).trans (decS_ok (by omega)) | exact (dec_1 (by assumption) (by omega) (by omega)).trans (decT_er (by assumption)) | exact (dec_1 (by assumption) (by omega) (by omega)).trans (decT_ok (by omega)) | exact (dec_S (by assumption) (by omega) (by omega)).trans (decS_er (by assumption)) | exact (dec_S (by assumption) (by omega) (by omega)).trans (decS_ok (by omega))) : aa l b = y := h
theorem p_0 {p : Prop} (h : p := by first | omega | assumption | (simp only [List.length_append] at *; omega)) : p := h
theorem p_1 {p : Prop} (h : p := by (congr 1; first | (rw [getVar_out (by omega)]; done) | (rw [getVar_in (by omega), ← hx4]; first | (rw [gvGo_short (by omega) (by omega)]; done) | (rw [gvGo_var (by omega) (by omega) (by omega)]; done) | (rw [gvGo_done (by omega) (by omega) (by omega) (by omega) (by omega)]; done) | (rw [gvGo_big (by omega) (by omega) (by omega) (by omega) (by omega)]; done) | (rw [gvGo_end (by omega)]; done)))) : p := h
theorem p_2 {p : Prop} (h : p := by first | rfl | exact congrArg (D.int .i64) (by assumption) | exact congrArg (D.int .i64) (show b.getD 0 0 = 7 by omega) | (show List.length _ = 0; rfl) | (exfalso; omega)) : p := h
theorem p_3 {p : Prop} (h : p := by assumption) : p := h
theorem p_4 {p : Prop} (h : p := by omega) : p := h
theorem p_5 {p : Prop} (h : p := by first | omega | (simp; omega) | (simp [w16_len, wN_len]; omega)) : p := h
theorem p_6 {p : Prop} (h : p := by kernel_rfl) : p := h
theorem p_7 {p : Prop} (h : p := by first | (congr 1; symm; unfold bitsOk; rw [bits_last (by omega), decide_eq_true (p := (1 ≤ n ∧ n ≤ 10)) (by omega), decide_eq_true (p := ((b.length : Int) = bitsSize n)) (by omega)]; rfl) | (congr 1; symm; simp only [bitsOk, *, Bool.and_true, Bool.true_and, Bool.and_false, Bool.false_and, decide_true, decide_false, and_true, true_and, and_self, and_false, false_and, Bool.and_self, not_true, not_false, Bool.not_true, Bool.not_false, ge_iff_le, gt_iff_lt, if_true, if_false, Bool.false_eq_true, ite_true, ite_false, reduceIte]; done) | (congr 1; symm; unfold bitsOk; rw [decide_eq_false (p := (1 ≤ n ∧ n ≤ 10)) (by omega)]; rfl) | (congr 1; symm; unfold bitsOk; rw [decide_eq_false (p := ((b.length : Int) = bitsSize n)) (by omega)]; simp; done) | (congr 1; symm; unfold bitsOk; rw [all_no (i := i) (by omega) (by omega)]; simp; done) | (congr 1; symm; unfold bitsOk; rw [List.take_of_length_le (by omega)] at hx2; rw [hx2, decide_eq_true (p := (1 ≤ n ∧ n ≤ 10)) (by omega), decide_eq_true (p := ((b.length : Int) = bitsSize n)) (by omega)]; rfl) | (congr 1; unfold bitsOk; rw [bits_last (by omega), decide_eq_true (p := (1 ≤ n ∧ n ≤ 10)) (by omega), decide_eq_true (p := ((b.length : Int) = bitsSize n)) (by omega)]; simp only [Bool.true_and]; rfl) | (congr 1; symm; unfold bitsOk; rw [List.eq_nil_of_length_eq_zero (l := bitList b) (by omega), decide_eq_true (p := (1 ≤ n ∧ n ≤ 10)) (by omega), decide_eq_true (p := ((b.length : Int) = bitsSize n)) (by omega)]; rfl)) : p := h
theorem p_8 {p : Prop} (h : p := by first | rfl | (congr 1; unfold au; rw [← hx4, rdHs_out (by omega)]; first | (rw [rdProof2_yes (by omega)]; first | done | rfl) | (rw [rdProof2_no (by omega)]; first | done | rfl) | (rw [rdProof2_no (by omega), rdMust_ok rfl]; first | done | rfl)) | (simp only [D.size, List.length_map]; unfold au; rw [← hx4, rdHs_out (by omega)]; first | (rw [rdProof2_yes (by omega)]; first | done | rfl) | (rw [rdProof2_no (by omega)]; first | done | rfl) | (rw [rdProof2_no (by omega), rdMust_ok rfl]; first | done | rfl)) | (congr 1; unfold au; rw [← hx4, rdHs_out (by omega)]; rw [rdMust_ok rfl, rdProof2_no (by omega)])) : p := h
theorem p_9 {p : Prop} (h : p := by (first | (congr 1; first | (rw [getBits_val (by omega)]; first | done | rfl) | (rw [getBits_er (by omega) (by omega)]; first | done | rfl) | (rw [getBits_pad (by omega) (by omega) (by assumption)]; first | done | rfl) | (rw [getBits_ok (by omega) (by omega) (by assumption)]; first | done | rfl)) | (simp only [D.size]; first | (rw [getBits_val (by omega)]; first | done | rfl) | (rw [getBits_er (by omega) (by omega)]; first | done | rfl) | (rw [getBits_pad (by omega) (by omega) (by assumption)]; first | done | rfl) | (rw [getBits_ok (by omega) (by omega) (by assumption)]; first | done | rfl)))) : p := h
theorem p_10 {p : Prop} (h : p := by first | exact wrap_ok (by first | omega | (simp; omega) | (simp [w16_len, wN_len]; omega)) (by first | omega | (simp; omega) | (simp [w16_len, wN_len]; omega)) | rfl) : p := h
theorem p_11 {p : Prop} (h : p := by first | rfl | (congr 1; symm; simp only [limOk, *, Bool.and_true, Bool.true_and, Bool.and_false, Bool.false_and, decide_true, decide_false, and_true, true_and, and_self, and_false, false_and, Bool.and_self, not_true, not_false, Bool.not_true, Bool.not_false, ge_iff_le, gt_iff_lt, if_true, if_false, Bool.false_eq_true, ite_true, ite_false, reduceIte]; done) | (congr 1; symm; simp_all [limOk]; done) | (congr 1; symm; simp_all [limOk]; omega)) : p := h
theorem p_12 {p : Prop} (h : p := by first | rfl | (congr 1; unfold aq; first | (rw [getOut_yes (by assumption)]; first | done | rfl) | (rw [getOut_no (by assumption)]; first | done | rfl) | (rw [rs0_ok (by assumption), getOut_yes (by assumption)]; first | done | rfl) | (rw [rs0_ok (by assumption), getOut_no (by assumption)]; first | done | rfl) | (rw [rs0_no (by assumption), getOut_nr (rdVote_er (show ¬ ((5 : Int) = 0) by decide)) rfl]; first | done | rfl)) | (simp only [D.size, List.length_map]; unfold aq; first | (rw [getOut_yes (by assumption)]; first | done | rfl) | (rw [getOut_no (by assumption)]; first | done | rfl) | (rw [rs0_ok (by assumption), getOut_yes (by assumption)]; first | done | rfl) | (rw [rs0_ok (by assumption), getOut_no (by assumption)]; first | done | rfl) | (rw [rs0_no (by assumption), getOut_nr (rdVote_er (show ¬ ((5 : Int) = 0) by decide)) rfl]; first | done | rfl))) : p := h
theorem p_13 {p : Prop} (h : p := by first | exact trivial | exact D.wf_nil _ | exact wf_map SEntry.len _) : p := h
theorem p_14 {p : Prop} (h : p := by first | exact trivial | exact D.wf_nil _ | exact wf_map SHead.len _) : p := h
theorem p_15 {p : Prop} (h : p := by first | rfl | (rw [Bool.eq_iff_iff]; simp only [Bool.not_eq_true', Bool.not_eq_false', decide_eq_true_eq, decide_eq_false_iff_not]; omega) | (simp; done)) : p := h
theorem p_16 {p : Prop} (h : p := by first | rfl | (congr 1; unfold rdQc; first | (rw [Nat.le_antisymm hx (by omega)]; first | (rw [rdQcA_yes (s := rdQc3 b s) (by show (ae b (ab b (ab b s).1).1 32).1.f1 = 0; omega)]; first | done | rfl) | (rw [rdQcA_no (s := rdQc3 b s) (by assumption)]; first | done | rfl)) | (rw [rdQcA_yes (s := rdQc3 b s) (by show (ae b (ab b (ab b s).1).1 32).1.f1 = 0; omega)]; first | done | rfl) | (rw [rdQcA_no (s := rdQc3 b s) (by assumption)]; first | done | rfl)) | (simp only [D.size, List.length_map]; unfold rdQc; first | (rw [Nat.le_antisymm hx (by omega)]; first | (rw [rdQcA_yes (s := rdQc3 b s) (by show (ae b (ab b (ab b s).1).1 32).1.f1 = 0; omega)]; first | done | rfl) | (rw [rdQcA_no (s := rdQc3 b s) (by assumption)]; first | done | rfl)) | (rw [rdQcA_yes (s := rdQc3 b s) (by show (ae b (ab b (ab b s).1).1 32).1.f1 = 0; omega)]; first | done | rfl) | (rw [rdQcA_no (s := rdQc3 b s) (by assumption)]; first | done | rfl))) : p := h
theorem p_17 {p : Prop} (h : p := by first | omega | (simp; omega)) : p := h
theorem p_18 {p : Prop} (h : p := by first | (congr 1; symm; simp only [bitsOk, *, Bool.and_true, Bool.true_and, Bool.and_false, Bool.false_and, decide_true, decide_false, and_true, true_and, and_self, and_false, false_and, Bool.and_self, not_true, not_false, Bool.not_true, Bool.not_false, ge_iff_le, gt_iff_lt, if_true, if_false, Bool.false_eq_true, ite_true, ite_false, reduceIte]; done) | (congr 1; symm; unfold bitsOk; rw [decide_eq_false (p := (1 ≤ n ∧ n ≤ 10)) (by omega)]; rfl) | (congr 1; symm; unfold bitsOk; rw [decide_eq_false (p := ((b.length : Int) = bitsSize n)) (by omega)]; simp; done) | (congr 1; symm; unfold bitsOk; rw [all_no (i := i) (by omega) (by omega)]; simp; done) | (congr 1; symm; unfold bitsOk; rw [List.take_of_length_le (by omega)] at hx2; rw [hx2, decide_eq_true (p := (1 ≤ n ∧ n ≤ 10)) (by omega), decide_eq_true (p := ((b.length : Int) = bitsSize n)) (by omega)]; rfl)) : p := h
theorem p_19 {p : Prop} (h : p := by simp only [D.size, List.length_map]; first | omega | (simp only [List.length_append, List.length_cons, List.length_nil]; omega) | (simp; omega) | (simp only [List.length_append] at *; omega)) : p := h
theorem p_20 {p : Prop} (h : p := by first | rfl | (congr 1; first | (rw [rdBlock_ok (rdB_out hx4 (by omega)) (by omega)]; first | done | rfl) | (rw [rdBlock_no (rdB_out hx4 (by omega)) (by omega)]; first | done | rfl | (rw [rdMust_ok rfl]; first | done | rfl))) | (simp only [D.size, List.length_map]; first | (rw [rdBlock_ok (rdB_out hx4 (by omega)) (by omega)]; first | done | rfl) | (rw [rdBlock_no (rdB_out hx4 (by omega)) (by omega)]; first | done | rfl))) : p := h
theorem p_21 {p : Prop} (h : p := by exact lt_ok rfl) : p := h
theorem p_22 {p : Prop} (h : p := by first | rfl | (refine congrArg (fun n => PV.one (.d (.int .i64 n))) ?_; first | rfl | omega | (simp; done))) : p := h
theorem p_23 {p : Prop} (h : p := by (congr 1; symm; first | (apply decide_eq_false; rintro rfl; first | exact absurd rfl ‹¬ _ = _› | exact absurd rfl (of_decide_eq_false (by assumption)) | contradiction | simp_all) | (apply decide_eq_true; exact take_all hx2 (by omega) hx3))) : p := h
theorem p_24 {p : Prop} (h : p := by first | rfl | (congr 1; symm; simp only [headFits, *, Bool.and_true, Bool.true_and, Bool.and_false, Bool.false_and, decide_true, decide_false, and_true, true_and, and_self, and_false, false_and, Bool.and_self, not_true, not_false, Bool.not_true, Bool.not_false, ge_iff_le, gt_iff_lt, if_true, if_false, Bool.false_eq_true, ite_true, ite_false, reduceIte]; done) | (congr 1; symm; simp_all [headFits]; done) | (congr 1; symm; simp_all [headFits]; omega)) : p := h
theorem p_25 {p : Prop} (h : p := by first | (rw [shaBlock_yes (h := h) (b := b) ⟨by omega, by omega, hwo_⟩, show i = 8 from by omega]; done) | (simp only [D.size]; first | (rw [shaBlock_no (fun h_ => by have := h_.1; have := h_.2.1; omega)]; rfl) | (rw [shaBlock_no (fun h_ => by have := h_.2.2; rw [words_no (i := i) (by omega) (by omega)] at this; cases this)]; rfl))) : p := h
theorem p_26 {p : Prop} (h : p := by first | rfl | (congr 1; unfold ar; first | (rw [getOut_yes (by assumption)]; first | done | rfl) | (rw [getOut_no (by assumption)]; first | done | rfl) | (rw [rs0_ok (by assumption), getOut_yes (by assumption)]; first | done | rfl) | (rw [rs0_ok (by assumption), getOut_no (by assumption)]; first | done | rfl) | (rw [rs0_no (by assumption), getOut_nr (rdBlock_er (show ¬ ((5 : Int) = 0) by decide)) rfl]; first | done | rfl)) | (simp only [D.size, List.length_map]; unfold ar; first | (rw [getOut_yes (by assumption)]; first | done | rfl) | (rw [getOut_no (by assumption)]; first | done | rfl) | (rw [rs0_ok (by assumption), getOut_yes (by assumption)]; first | done | rfl) | (rw [rs0_ok (by assumption), getOut_no (by assumption)]; first | done | rfl) | (rw [rs0_no (by assumption), getOut_nr (rdBlock_er (show ¬ ((5 : Int) = 0) by decide)) rfl]; first | done | rfl))) : p := h
theorem p_27 {p : Prop} (h : p := by first | rfl | (congr 1; unfold getProof; first | (rw [getOut_yes (by assumption)]; first | done | rfl) | (rw [getOut_no (by assumption)]; first | done | rfl) | (rw [rs0_ok (by assumption), getOut_yes (by assumption)]; first | done | rfl) | (rw [rs0_ok (by assumption), getOut_no (by assumption)]; first | done | rfl) | (rw [rs0_no (by assumption), getOut_nr (rdProof_er (show ¬ ((5 : Int) = 0) by decide)) rfl]; first | done | rfl)) | (simp only [D.size, List.length_map]; unfold getProof; first | (rw [getOut_yes (by assumption)]; first | done | rfl) | (rw [getOut_no (by assumption)]; first | done | rfl) | (rw [rs0_ok (by assumption), getOut_yes (by assumption)]; first | done | rfl) | (rw [rs0_ok (by assumption), getOut_no (by assumption)]; first | done | rfl) | (rw [rs0_no (by assumption), getOut_nr (rdProof_er (show ¬ ((5 : Int) = 0) by decide)) rfl]; first | done | rfl))) : p := h
theorem p_28 {p : Prop} (h : p := by first | rfl | (congr 1; unfold ax; first | (rw [getOut_yes (by assumption)]; first | done | rfl) | (rw [getOut_no (by assumption)]; first | done | rfl) | (rw [rs0_ok (by assumption), getOut_yes (by assumption)]; first | done | rfl) | (rw [rs0_ok (by assumption), getOut_no (by assumption)]; first | done | rfl) | (rw [rs0_no (by assumption), getOut_nr (rdHead_er (show ¬ ((5 : Int) = 0) by decide)) rfl]; first | done | rfl)) | (simp only [D.size, List.length_map]; unfold ax; first | (rw [getOut_yes (by assumption)]; first | done | rfl) | (rw [getOut_no (by assumption)]; first | done | rfl) | (rw [rs0_ok (by assumption), getOut_yes (by assumption)]; first | done | rfl) | (rw [rs0_ok (by assumption), getOut_no (by assumption)]; first | done | rfl) | (rw [rs0_no (by assumption), getOut_nr (rdHead_er (show ¬ ((5 : Int) = 0) by decide)) rfl]; first | done | rfl))) : p := h
theorem p_29 {p : Prop} (h : p := by first | rfl | (congr 1; unfold getIncl; first | (rw [getOut_yes (by assumption)]; first | done | rfl) | (rw [getOut_no (by assumption)]; first | done | rfl) | (rw [rs0_ok (by assumption), getOut_yes (by assumption)]; first | done | rfl) | (rw [rs0_ok (by assumption), getOut_no (by assumption)]; first | done | rfl) | (rw [rs0_no (by assumption), getOut_nr (rdIncl_er (show ¬ ((5 : Int) = 0) by decide)) rfl]; first | done | rfl)) | (simp only [D.size, List.length_map]; unfold getIncl; first | (rw [getOut_yes (by assumption)]; first | done | rfl) | (rw [getOut_no (by assumption)]; first | done | rfl) | (rw [rs0_ok (by assumption), getOut_yes (by assumption)]; first | done | rfl) | (rw [rs0_ok (by assumption), getOut_no (by assumption)]; first | done | rfl) | (rw [rs0_no (by assumption), getOut_nr (rdIncl_er (show ¬ ((5 : Int) = 0) by decide)) rfl]; first | done | rfl))) : p := h
theorem p_30 {p : Prop} (h : p := by (congr 1; first | (rw [pathLenT_no (i := i) (n := n) (by omega)]; done) | (rw [pathLenT_one (i := i) (n := n) (by omega)]; done) | (rw [pathLenT_left (i := i) (n := n) (by omega) (by omega) (by omega)]; done) | (rw [pathLenT_right (i := i) (n := n) (by omega) (by omega) (by omega)]; done))) : p := h
theorem p_31 {p : Prop} (h : p := by first | rfl | (congr 1; unfold getQc; first | (rw [getOut_yes (by assumption)]; first | done | rfl) | (rw [getOut_no (by assumption)]; first | done | rfl) | (rw [rs0_ok (by assumption), getOut_yes (by assumption)]; first | done | rfl) | (rw [rs0_ok (by assumption), getOut_no (by assumption)]; first | done | rfl) | (rw [rs0_no (by assumption), getOut_nr (rdQc_er (show ¬ ((5 : Int) = 0) by decide)) rfl]; first | done | rfl)) | (simp only [D.size, List.length_map]; unfold getQc; first | (rw [getOut_yes (by assumption)]; first | done | rfl) | (rw [getOut_no (by assumption)]; first | done | rfl) | (rw [rs0_ok (by assumption), getOut_yes (by assumption)]; first | done | rfl) | (rw [rs0_ok (by assumption), getOut_no (by assumption)]; first | done | rfl) | (rw [rs0_no (by assumption), getOut_nr (rdQc_er (show ¬ ((5 : Int) = 0) by decide)) rfl]; first | done | rfl))) : p := h
theorem p_32 {p : Prop} (h : p := by first | rfl | (congr 1; unfold getTc; first | (rw [getOut_yes (by assumption)]; first | done | rfl) | (rw [getOut_no (by assumption)]; first | done | rfl) | (rw [rs0_ok (by assumption), getOut_yes (by assumption)]; first | done | rfl) | (rw [rs0_ok (by assumption), getOut_no (by assumption)]; first | done | rfl) | (rw [rs0_no (by assumption), getOut_nr (rdTc_er (show ¬ ((5 : Int) = 0) by decide)) rfl]; first | done | rfl)) | (simp only [D.size, List.length_map]; unfold getTc; first | (rw [getOut_yes (by assumption)]; first | done | rfl) | (rw [getOut_no (by assumption)]; first | done | rfl) | (rw [rs0_ok (by assumption), getOut_yes (by assumption)]; first | done | rfl) | (rw [rs0_ok (by assumption), getOut_no (by assumption)]; first | done | rfl) | (rw [rs0_no (by assumption), getOut_nr (rdTc_er (show ¬ ((5 : Int) = 0) by decide)) rfl]; first | done | rfl))) : p := h
theorem p_33 {p : Prop} (h : p := by (congr 1; symm; unfold bitHas; first | (rw [decide_eq_false (p := 0 ≤ i) (by omega)]; rfl) | (rw [decide_eq_true (p := 0 ≤ i) (by omega), decide_eq_false (p := i / 8 < (b.length : Int)) (by omega)]; rfl) | (rw [decide_eq_true (p := 0 ≤ i) (by omega), decide_eq_true (p := i / 8 < (b.length : Int)) (by omega)]; rfl) | (by_cases hi_ : 0 ≤ i; (rw [decide_eq_true (p := 0 ≤ i) (by omega), decide_eq_false (p := i / 8 < (b.length : Int)) (by omega)]; rfl); (rw [decide_eq_false (p := 0 ≤ i) hi_]; rfl)))) : p := h
theorem p_34 {p : Prop} (h : p := by simp only [List.range, List.range.loop, List.map_cons, List.map_nil]; rw [cell_map default (by first | omega | (simp; omega)), cell_map default (by first | omega | (simp; omega)), cell_map default (by first | omega | (simp; omega)), cell_map default (by first | omega | (simp; omega)), cell_map default (by first | omega | (simp; omega)), cell_map default (by first | omega | (simp; omega)), cell_map default (by first | omega | (simp; omega)), cell_map default (by first | omega | (simp; omega)), cell_map default (by first | omega | (simp; omega)), cell_map default (by first | omega | (simp; omega))]; rfl) : p := h
theorem p_35 {p : Prop} (h : p := by simp only [D.size]; first | omega | (simp; omega) | (simp [w16_len, wN_len]; omega)) : p := h
theorem p_36 {p : Prop} (h : p := by first | rfl | (congr 1; first | (rw [rdMust_er (by omega)]; done) | (rw [rdMust_ok (by first | assumption | (rw [hk_, show bad = true from by assumption]; rfl) | (rw [hk_, show bad = false from by assumption]; rfl))]; done) | (rw [rdMust_hit (by omega) (by first | assumption | (rw [hk_, show bad = true from by assumption]; rfl) | (rw [hk_, show bad = false from by assumption]; rfl))]; done))) : p := h
theorem p_37 {p : Prop} (h : p := by first | rfl | assumption | (repeat' (first | rfl | apply And.intro))) : p := h
theorem p_38 {p : Prop} (h : p := by first | assumption | exact sha_u8 _ | exact treeRoot_u8 _ | exact nodeHash_u8 _ _ | exact leafHash_u8 _ | exact u8_cons (by decide) (by assumption) | exact mem_getD (p := U8s) (by assumption) (by omega) | exact u8_app (u8_cons (by decide) (by assumption)) (by assumption) | exact fun x hx => by cases hx | exact putHead_u8 u8_72 (by assumption)) : p := h
theorem p_39 {p : Prop} (h : p := by simp only [D.size]; first | omega | (simp; omega)) : p := h
theorem p_40 {p : Prop} (h : p := by (congr 1; symm; first | (apply decide_eq_false; rintro rfl; first | exact absurd rfl ‹¬ _ = _› | contradiction) | (apply decide_eq_true; apply SMsg.ext <;> first | assumption | exact Decidable.not_not.1 (by assumption)))) : p := h
theorem p_41 {p : Prop} (h : p := by first | rfl | (congr 1; unfold rdIncl; first | (rw [show rdIA l b s = _ from rdIA_yes (by show (rdI3 l b s).1.f1 = 0; assumption)]; first | (rw [show i = rdIn l b s from by omega]; first | done | rfl) | (rw [show i = rdIn l b s from Nat.le_antisymm hx (by have : ¬ (i : Int) < aw (rdI2 l b s).2 (ab b (ab b s).1).2 := (by assumption); omega)]; first | done | rfl)) | (rw [show rdIA l b s = _ from rdIA_no (by show ¬ (rdI3 l b s).1.f1 = 0; assumption)]; first | done | rfl)) | (simp only [D.size, List.length_map]; unfold rdIncl; first | (rw [show rdIA l b s = _ from rdIA_yes (by show (rdI3 l b s).1.f1 = 0; assumption)]; first | (rw [show i = rdIn l b s from by omega]; first | done | rfl) | (rw [show i = rdIn l b s from Nat.le_antisymm hx (by have : ¬ (i : Int) < aw (rdI2 l b s).2 (ab b (ab b s).1).2 := (by assumption); omega)]; first | done | rfl)) | (rw [show rdIA l b s = _ from rdIA_no (by show ¬ (rdI3 l b s).1.f1 = 0; assumption)]; first | done | rfl))) : p := h
theorem p_42 {p : Prop} (h : p := by first | (congr 1; unfold getText; first | (rw [if_pos (by omega), if_pos (by omega)]; done) | (rw [if_pos (by omega), if_neg (by omega)]; done) | (rw [if_neg (by omega)]; done)) | (simp only [D.size]; unfold getText; first | (rw [if_pos (by omega), if_pos (by omega)]; rfl) | (rw [if_neg (by omega)]; rfl))) : p := h
theorem p_43 {p : Prop} (h : p := by first | assumption | exact sha_u8 _ | exact treeRoot_u8 _ | exact nodeHash_u8 _ _ | exact leafHash_u8 _ | exact u8_cons (by decide) (by assumption) | exact mem_getD (p := U8s) (by assumption) (by omega) | exact u8_app (u8_cons (by decide) (by assumption)) (by assumption) | exact fun x hx => by cases hx) : p := h
theorem p_44 {p : Prop} (h : p := by first | rfl | (congr 1; symm; simp only [closes, *, Bool.and_true, Bool.true_and, Bool.and_false, Bool.false_and, decide_true, decide_false, and_true, true_and, and_self, and_false, false_and, Bool.and_self, not_true, not_false, Bool.not_true, Bool.not_false, ge_iff_le, gt_iff_lt, if_true, if_false, Bool.false_eq_true, ite_true, ite_false, reduceIte]; done) | (congr 1; symm; simp_all [closes]; done) | (congr 1; symm; simp_all [closes]; omega)) : p := h
theorem p_45 {p : Prop} (h : p := by simp [D.size, mkL_length]) : p := h
theorem p_46 {p : Prop} (h : p := by first | rfl | (refine congrArg (fun x => some (_, D.ints .u8 x)) ?_; first | (simp; done) | (rw [List.replicate_succ', List.append_assoc, List.append_assoc]; first | done | rfl) | (simp only [List.append_assoc, List.replicate_succ', padB]; done) | (rw [show i = padK b.length from by unfold padK at *; omega]; simp [padB]; done)) | (refine congrArg (fun n => PV.one (.d (.int .i64 n))) ?_; first | rfl | omega | (simp; done))) : p := h
theorem p_47 {p : Prop} (h : p := by first | (exact congrArg (fun x => some (_, D.ints .i64 (vN h (wN b 48) x))) (show i = 64 by omega)) | (exact congrArg (fun x => PV.one (.d (.ints .i64 (vN h (wN b 48) x)))) (show i = 64 by omega)) | rfl | (refine congrArg (fun x => some (_, D.ints .i64 x)) ?_; first | rfl | (rw [show i = 64 from by omega]; first | done | rfl)) | (refine congrArg (fun n => PV.one (.d (.int .i64 n))) ?_; first | rfl | omega | (simp; done))) : p := h
theorem p_48 {p : Prop} (h : p := by first | rfl | (refine congrArg (fun x => some (_, D.ints .u8 x)) ?_; first | (simp; done) | (rw [List.replicate_succ', List.append_assoc, List.append_assoc]; first | done | rfl) | (simp only [List.append_assoc, List.replicate_succ', padB]; done) | (rw [show i = padK b.length from by unfold padK; omega]; simp [padB]; done)) | (refine congrArg (fun n => PV.one (.d (.int .i64 n))) ?_; first | rfl | omega | (simp; done))) : p := h
theorem p_49 {p : Prop} (h : p := by simp only [D.at_, D.cell, D.size, List.length_set, List.length_map, upTo_length]; first | omega | (simp; omega)) : p := h
theorem p_50 {p : Prop} (h : p := by (congr 1; symm; first | (apply decide_eq_false; rintro rfl; first | exact absurd rfl ‹¬ _ = _› | contradiction) | (apply decide_eq_true; apply SHead.ext <;> first | assumption | exact Decidable.not_not.1 (by assumption)))) : p := h
theorem p_52 {p : Prop} (h : p := by simp only [upTo_length]; first | omega | (simp; omega)) : p := h
theorem p_53 {p : Prop} (h : p := by first | (congr 1; unfold av; first | (rw [if_pos (by omega)]; done) | (rw [if_neg (by omega)]; done)) | (simp only [D.size]; unfold av; rw [if_neg (by omega)]; rfl)) : p := h
theorem p_54 {p : Prop} (h : p := by (congr 1; symm; first | (apply decide_eq_false; rintro rfl; first | exact absurd rfl ‹¬ _ = _› | contradiction) | (apply decide_eq_true; apply SVote.ext <;> first | assumption | exact Decidable.not_not.1 (by assumption)))) : p := h
theorem p_55 {p : Prop} (h : p := by (congr 1; symm; first | (apply decide_eq_false; rintro rfl; first | exact absurd rfl ‹¬ _ = _› | contradiction) | (apply decide_eq_true; apply SIncl.ext <;> first | assumption | exact Decidable.not_not.1 (by assumption)))) : p := h
theorem p_56 {p : Prop} (h : p := by (congr 1; symm; first | (apply decide_eq_false; rintro rfl; first | exact absurd rfl ‹¬ _ = _› | contradiction) | (apply decide_eq_true; apply SQc.ext <;> first | assumption | exact Decidable.not_not.1 (by assumption)))) : p := h
theorem p_57 {p : Prop} (h : p := by first | omega | (have := (by assumption); omega)) : p := h
theorem p_58 {p : Prop} (h : p := by first | exact wrap_ok (by first | omega | (simp only [List.length_take, List.length_drop]; omega) | (simp; omega)) (by first | omega | (simp only [List.length_take, List.length_drop]; omega) | (simp; omega)) | rfl) : p := h
theorem p_59 {p : Prop} (h : p := by first | rfl | (refine congrArg (fun x => some (_, D.ints .i64 x)) ?_; unfold shaH; rw [show i = (shaPad b).length / 64 from by omega]) | (refine congrArg (fun n => PV.one (.d (.int .i64 n))) ?_; first | rfl | omega | (unfold shaH; rw [show i = (shaPad b).length / 64 from by omega]; first | done | rfl) | (simp; done))) : p := h
theorem p_60 {p : Prop} (h : p := by first | assumption | omega) : p := h
theorem p_61 {p : Prop} (h : p := by (congr 1; first | (rw [treeRoot_nil (l := l) (by omega)]; done) | (rw [treeRoot_one (l := l) (by omega)]; done) | (rw [treeRoot_two (l := l) (by omega) (by omega)]; done))) : p := h
theorem p_62 {p : Prop} (h : p := by first | rfl | (refine congrArg (fun x => some (_, D.ints .i64 x)) ?_; rfl) | (refine congrArg (fun n => PV.one (.d (.int .i64 n))) ?_; first | omega | (simp; done))) : p := h
theorem p_63 {p : Prop} (h : p := by first | rfl | (refine congrArg (fun n => PV.one (.d (.int .i64 n))) ?_; first | omega | (simp; done) | (simp [cntL]; done))) : p := h
theorem p_65 {p : Prop} (h : p := by first | exact hvl_ | exact hvl_.symm | rfl | (simp; done)) : p := h
theorem p_66 {p : Prop} (h : p := by (congr 1; symm; first | (apply decide_eq_false; rintro rfl; first | exact absurd rfl ‹¬ _ = _› | contradiction) | (apply decide_eq_true; apply SEntry.ext <;> first | assumption | exact Decidable.not_not.1 (by assumption)))) : p := h
theorem p_67 {p : Prop} (h : p := by first | rfl | (refine congrArg (fun n => PV.one (.d (.int .i64 n))) ?_; first | omega | (simp; done))) : p := h
theorem p_68 {p : Prop} (h : p := by first | rfl | (congr 1; unfold rdInclS; rw [← hx4, rdTg_out (by first | omega | (have : ¬ (i : Int) < aw (rdI2 l b s).2 (ab b (ab b s).1).2 := (by assumption); omega))]) | (simp only [D.size, List.length_map]; unfold rdInclS; rw [← hx4, rdTg_out (by first | omega | (have : ¬ (i : Int) < aw (rdI2 l b s).2 (ab b (ab b s).1).2 := (by assumption); omega))])) : p := h
theorem p_69 {p : Prop} (h : p := by first | exact congrArg (fun x => some (_, D.ints .i64 (wI b x))) (show i = 48 by omega) | exact congrArg (fun x => some (_, D.ints .i64 x)) ((stepI_eq (hV_ 4)).trans (congrArg (stepV _ _) (hwq_ _))) | rfl | (refine congrArg (fun x => some (_, D.ints .i64 x)) ?_; first | rfl | fail) | (refine congrArg (fun n => PV.one (.d (.int .i64 n))) ?_; first | rfl | omega | (simp; done))) : p := h
theorem p_70 {p : Prop} (h : p := by first | exact congrArg (fun x => some (_, D.ints .i64 x)) ((congrArg (aI b) (show i = 16 by omega)).trans (wI_zero b)) | exact congrArg (fun x => some (_, D.ints .i64 x)) (wI_set b (by omega)) | rfl | (refine congrArg (fun x => some (_, D.ints .i64 x)) ?_; first | rfl | fail) | (refine congrArg (fun n => PV.one (.d (.int .i64 n))) ?_; first | rfl | omega | (simp; done))) : p := h
theorem p_71 {p : Prop} (h : p := by first | omega | exact hp_.1 | exact hp_.2 | (simp; omega)) : p := h
theorem p_72 {p : Prop} (h : p := by first | rfl | (congr 1; unfold rdText; first | (rw [if_pos (by omega)]; done) | (rw [if_neg (by omega)]; done)) | (simp only [D.size]; unfold rdText; rw [if_neg (by omega)]; rfl)) : p := h
theorem p_73 {p : Prop} (h : p := by rw [Int.tdiv_eq_ediv_of_nonneg (by first | omega | exact hp_.1 | exact hp_.2 | (simp; omega))]; exact wrap_ok (by first | omega | exact hp_.1 | exact hp_.2 | (simp; omega)) (by first | omega | exact hp_.1 | exact hp_.2 | (simp; omega))) : p := h
theorem p_74 {p : Prop} (h : p := by first | rfl | (congr 1; unfold ab; first | (rw [if_pos (by omega)]; done) | (rw [if_neg (by omega)]; done)) | (simp only [D.size]; unfold ab; rw [if_neg (by omega)]; rfl)) : p := h
theorem p_75 {p : Prop} (h : p := by first | rfl | (congr 1; unfold ae; first | (rw [if_pos (by omega)]; done) | (rw [if_neg (by omega)]; done)) | (simp only [D.size]; unfold ae; rw [if_neg (by omega)]; rfl)) : p := h
theorem p_76 {p : Prop} (h : p := by simp only [D.at_, D.cell, D.size]; first | omega | (simp; omega) | (simp [w16_len, wN_len]; omega)) : p := h
theorem p_77 {p : Prop} (h : p := by first | exact congrArg (fun x => some (Ts 0, D.sl 3 (List.map SEntry.cells x))) (upTo_next (df := default) (by omega) rfl) | exact congrArg (fun x => some (Ts 0, D.sl 3 (List.map SEntry.cells x))) (upTo_first a k default) | rfl | (refine congrArg (fun n => PV.one (.d (.int .i64 n))) ?_; first | omega | (simp; done) | (simp [cntL]; done))) : p := h
theorem p_78 {p : Prop} (h : p := by first | exact congrArg (fun x => some (Ts 0, D.sl 10 (List.map SHead.cells x))) (upTo_next (df := default) (by omega) rfl) | exact congrArg (fun x => some (Ts 0, D.sl 10 (List.map SHead.cells x))) (upTo_first a k default) | rfl | (refine congrArg (fun n => PV.one (.d (.int .i64 n))) ?_; first | omega | (simp; done) | (simp [cntL]; done))) : p := h
theorem p_79 {p : Prop} (h : p := by (congr 1; unfold ag; first | (rw [if_pos (by omega)]; done) | (rw [if_neg (by omega)]; rw [if_neg (by omega)] at hx4; exact hx4) | (rw [if_neg (by omega)]; omega))) : p := h
theorem p_80 {p : Prop} (h : p := by (congr 1; symm; first | (apply decide_eq_false; rintro rfl; first | exact absurd rfl ‹¬ _ = _› | contradiction) | (apply decide_eq_true; apply SBlock.ext <;> first | assumption | exact Decidable.not_not.1 (by assumption)))) : p := h
theorem p_81 {p : Prop} (h : p := by (congr 1; symm; first | (apply decide_eq_false; rintro rfl; first | exact absurd rfl ‹¬ _ = _› | contradiction) | (apply decide_eq_true; apply SProof.ext <;> first | assumption | exact Decidable.not_not.1 (by assumption)))) : p := h
theorem p_82 {p : Prop} (h : p := by first | exact congrArg (fun x => some (Ts 0, D.ints .u8 x)) (upTo_set (df := 0) (by omega) (by simp only [cntL_one_take a i (by omega)])) | exact congrArg (fun x => some (Ts 0, D.ints .u8 x)) (upTo_zero _ _).symm | rfl | (refine congrArg (fun n => PV.one (.d (.int .i64 n))) ?_; first | omega | (simp; done) | (simp [cntL]; done))) : p := h
theorem p_83 {p : Prop} (h : p := by (congr 1; symm; first | (apply decide_eq_false; rintro rfl; first | exact absurd rfl ‹¬ _ = _› | contradiction) | (apply decide_eq_true; apply STc.ext <;> first | assumption | exact Decidable.not_not.1 (by assumption)))) : p := h
theorem p_84 {p : Prop} (h : p := by first | exact congrArg (fun x => some (_, D.ints .i64 x)) (aI_zero b) | exact congrArg (fun x => some (_, D.ints .i64 x)) (aI_set b (by omega)) | rfl | (refine congrArg (fun x => some (_, D.ints .i64 x)) ?_; first | rfl | fail) | (refine congrArg (fun n => PV.one (.d (.int .i64 n))) ?_; first | rfl | omega | (simp; done))) : p := h
theorem p_85 {p : Prop} (h : p := by first | assumption | exact mem_sub (by assumption) _ _ | exact s0.2 | exact s1.2) : p := h
theorem p_86 {p : Prop} (h : p := by first | rfl | (simp; done) | (congr 3; omega)) : p := h
theorem p_87 {p : Prop} (h : p := by first | omega | assumption | (simp only [List.length_append] at *; omega) | (simp; done) | (simp; omega)) : p := h
theorem p_88 {p : Prop} (h : p := by first | assumption | exact mem_sub (by assumption) _ _ | exact s0.2 | exact o1) : p := h
theorem p_89 {p : Prop} (h : p := by first | rfl | (congr 1; unfold rdTc; rw [← hx4, rdEs_out (by omega)]) | (simp only [D.size, List.length_map]; unfold rdTc; rw [← hx4, rdEs_out (by omega)])) : p := h
theorem p_90 {p : Prop} (h : p := by first | (congr 1; rw [cntL_all (by omega)]) | (exfalso; omega)) : p := h
theorem p_91 {p : Prop} (h : p := by first | exact congrArg (fun x => some (Ts 0, D.bss x)) (upTo_next (df := []) (by omega) rfl) | exact congrArg (fun x => some (Ts 0, D.bss x)) (upTo_first a k []) | rfl | (refine congrArg (fun n => PV.one (.d (.int .i64 n))) ?_; first | omega | (simp; done) | (simp [cntL]; done))) : p := h
theorem p_92 {p : Prop} (h : p := by first | assumption | exact hW_ _ | exact hV_ _ | omega) : p := h
theorem p_93 {p : Prop} (h : p := by first | exact congrArg (fun x => some (_, D.ints .i64 (w16 b x))) (show i = 16 by omega) | rfl | (refine congrArg (fun x => some (_, D.ints .i64 x)) ?_; first | rfl | fail) | (refine congrArg (fun n => PV.one (.d (.int .i64 n))) ?_; first | rfl | omega | (simp; done))) : p := h
theorem p_94 {p : Prop} (h : p := by first | exact congrArg (fun x => some (_, D.ints .i64 (wN b x))) (show i = 48 by omega) | rfl | (refine congrArg (fun x => some (_, D.ints .i64 x)) ?_; first | rfl | fail) | (refine congrArg (fun n => PV.one (.d (.int .i64 n))) ?_; first | rfl | omega | (simp; done))) : p := h
theorem p_95 {p : Prop} (h : p := by first | omega | (simp only [List.length_take, List.length_drop]; omega) | (simp; omega)) : p := h
theorem p_96 {p : Prop} (h : p := by exact (congrArg PV.flat (A.g 37 (p := (.agg [cI (af l b q).2.f0, cI (af l b q).2.f1, cI (af l b q).2.f2, .row 7037 [], .row 8037 [], cI (af l b q).2.f5.f0, cI (af l b q).2.f5.f1, .row 11037 [], .row 12037 [], .row 13037 []])))).trans rfl) : p := h
theorem p_97 {p : Prop} (h : p := by (congr 1; unfold bitsSize; first | rw [if_pos (by omega)] | (rw [if_neg (by omega)]; done) | (rw [if_neg (by omega)]; omega))) : p := h
theorem p_98 {p : Prop} (h : p := by exact (A.row 7 (by kernel_rfl)).trans rfl) : p := h
theorem p_99 {p : Prop} (h : p := by first | exact wrap_ok (by first | omega | (simp; omega)) (by first | omega | (simp; omega)) | rfl) : p := h
theorem p_100 {p : Prop} (h : p := by simp only [List.range, List.range.loop, List.map_cons, List.map_nil]; rw [cell_map default (by first | omega | (simp; omega)), cell_map default (by first | omega | (simp; omega)), cell_map default (by first | omega | (simp; omega))]; rfl) : p := h
theorem p_101 {p : Prop} (h : p := by simp [D.flat, D.val]) : p := h
theorem p_103 {p : Prop} (h : p := by first | omega | decide) : p := h
theorem p_104 {p : Prop} (h : p := by simp) : p := h
theorem p_105 {p : Prop} (h : p := by have h7_ := pow128 (i := i + 1) (by omega); rw [← Int.pow_succ]; exact wrap_ok (by omega) (by omega)) : p := h
theorem p_106 {p : Prop} (h : p := by first | assumption | omega | exact treeRoot_u8 _) : p := h
theorem p_108 {p : Prop} (h : p := by first | rfl | (refine congrArg (fun x => some (_, D.ints .i64 x)) ?_; first | rfl | fail) | (refine congrArg (fun n => PV.one (.d (.int .i64 n))) ?_; first | rfl | omega | (simp; done))) : p := h
theorem p_109 {p : Prop} (h : p := by simp [rowsOf, rid]) : p := h
theorem p_110 {p : Prop} (h : p := by first | omega | assumption | (simp only [List.length_take, List.length_drop]; omega)) : p := h
theorem p_111 {p : Prop} (h : p := by exact (A.row 9 (by kernel_rfl)).trans rfl) : p := h
theorem p_112 {p : Prop} (h : p := by simp only [D.at_, D.cell, D.size]; first | omega | (simp; omega)) : p := h
theorem p_113 {p : Prop} (h : p := by first | rfl | (refine congrArg (fun n => PV.one (.d (.int .i64 n))) ?_; rfl)) : p := h
theorem p_114 {p : Prop} (h : p := by first | assumption | exact Decidable.not_not.1 (by assumption) | omega) : p := h
theorem p_115 {p : Prop} (h : p := by first | omega | (have := cntBs_le (xs := a.f4) (by assumption); omega)) : p := h
theorem p_116 {p : Prop} (h : p := by first | omega | assumption | (simp only [List.length_append] at *; omega) | (simp; done)) : p := h
theorem p_117 {p : Prop} (h : p := by exact (A.row 41 (by kernel_rfl)).trans rfl) : p := h
theorem p_118 {p : Prop} (h : p := by first | assumption | exact rs0_z | exact fun _ => by assumption) : p := h
theorem p_119 {p : Prop} (h : p := by first | (congr 1; simp_all; done) | (congr 1; simp_all; omega)) : p := h
theorem p_120 {p : Prop} (h : p := by simp [D.size]) : p := h
theorem p_121 {p : Prop} (h : p := by first | omega | assumption | exact mem_getD h0_.2 (by omega)) : p := h
theorem p_122 {p : Prop} (h : p := by rfl) : p := h
theorem p_123 {p : Prop} (h : p := by refine ⟨_, (.cons rfl (.cons rfl .nil)), rfl, _, (.r ?_ (.r ?_ (.r ?_ (.nn ?_ (.r ?_ (.nn ?_ (.r ?_ (.r ?_ (.nn ?_ (.nn ?_ (.nn ?_ (.r ?_ (.r ?_ (.r ?_ (.nn ?_ (.nn ?_ (.r ?_ (.r ?_ (.nn ?_ (.nn ?_ (.nn ?_ (.r ?_ (.r ?_ (.r ?_ (.nn ?_ (.nn ?_ (.r ?_ (.r ?_ (.nn ?_ (.nn ?_ (.nn ?_ (.nn ?_ (.r ?_ (RetC.nilown' rfl ?_ p_13 (RetC.nilown' rfl ?_ p_14 (.r ?_ (.r ?_ (.nn ?_ (.nn ?_ (.nn ?_ (.r ?_ (.r ?_ (.r ?_ (.nn ?_ (.nn ?_ (.r ?_ .nil))))))))))))))))))))))))))))))))))))))))))))))⟩ <;> exact p_2) : p := h
theorem p_124 {p : Prop} (h : p := by refine ⟨_, (.cons rfl (.cons rfl (.cons rfl .nil))), rfl, _, (.r ?_ (.r ?_ (.r ?_ .nil)))⟩ <;> exact p_1) : p := h
theorem p_125 {p : Prop} (h : p := by refine ⟨_, (.cons rfl (.cons rfl .nil)), rfl, _, (.r ?_ (.r ?_ (.r ?_ (.o ?_ (.r ?_ (.o ?_ (.r ?_ (.r ?_ (.nn ?_ (.nn ?_ (.nn ?_ (.r ?_ (.r ?_ (.r ?_ (.nn ?_ (.nn ?_ (.r ?_ (.r ?_ (.nn ?_ (.nn ?_ (.nn ?_ (.r ?_ (.r ?_ (.r ?_ (.nn ?_ (.nn ?_ (.r ?_ (.r ?_ (.nn ?_ (.nn ?_ (.nn ?_ (.nn ?_ (.r ?_ (RetC.nilown' rfl ?_ p_13 (RetC.nilown' rfl ?_ p_14 (.r ?_ (.r ?_ (.nn ?_ (.nn ?_ (.nn ?_ (.r ?_ (.r ?_ (.r ?_ (.nn ?_ (.nn ?_ (.r ?_ .nil))))))))))))))))))))))))))))))))))))))))))))))⟩ <;> exact p_2) : p := h
theorem p_126 {p : Prop} (h : p := by refine ⟨_, (.cons rfl (.cons rfl .nil)), rfl, _, (.r ?_ (.r ?_ (.r ?_ (.nn ?_ (.r ?_ (.nn ?_ (.r ?_ (.r ?_ (.nn ?_ (.nn ?_ (.nn ?_ (.r ?_ (.r ?_ (.r ?_ (.nn ?_ (.nn ?_ (.r ?_ (.r ?_ (.nn ?_ (.nn ?_ (.nn ?_ (.r ?_ (.r ?_ (.r ?_ (.nn ?_ (.nn ?_ (.r ?_ (.r ?_ (.nn ?_ (.nn ?_ (.nn ?_ (.nn ?_ (.r ?_ (RetC.nilown' rfl ?_ p_13 (RetC.nilown' rfl ?_ p_14 (.r ?_ (.r ?_ (.nn ?_ (.nn ?_ (.nn ?_ (.r ?_ (.r ?_ (.r ?_ (.o ?_ (.o ?_ (.r ?_ .nil))))))))))))))))))))))))))))))))))))))))))))))⟩ <;> exact p_2) : p := h
theorem p_127 {p : Prop} (h : p := by refine ⟨_, (.cons rfl (.cons rfl .nil)), rfl, _, (.r ?_ (.r ?_ (.r ?_ (.nn ?_ (.r ?_ (.nn ?_ (.r ?_ (.r ?_ (.o ?_ (.o ?_ (.o ?_ (.r ?_ (.r ?_ (.r ?_ (.nn ?_ (.nn ?_ (.r ?_ (.r ?_ (.nn ?_ (.nn ?_ (.nn ?_ (.r ?_ (.r ?_ (.r ?_ (.nn ?_ (.nn ?_ (.r ?_ (.r ?_ (.nn ?_ (.nn ?_ (.nn ?_ (.nn ?_ (.r ?_ (RetC.nilown' rfl ?_ p_13 (RetC.nilown' rfl ?_ p_14 (.r ?_ (.r ?_ (.nn ?_ (.nn ?_ (.nn ?_ (.r ?_ (.r ?_ (.r ?_ (.nn ?_ (.nn ?_ (.r ?_ .nil))))))))))))))))))))))))))))))))))))))))))))))⟩ <;> exact p_2) : p := h
theorem p_128 {p : Prop} (h : p := by refine ⟨_, (.cons rfl (.cons rfl .nil)), rfl, _, (.r ?_ (.r ?_ (.r ?_ (.nn ?_ (.r ?_ (.nn ?_ (.r ?_ (.r ?_ (.nn ?_ (.nn ?_ (.nn ?_ (.r ?_ (.r ?_ (.r ?_ (.o ?_ (.o ?_ (.r ?_ (.r ?_ (.o ?_ (.o ?_ (.o ?_ (.r ?_ (.r ?_ (.r ?_ (.nn ?_ (.nn ?_ (.r ?_ (.r ?_ (.nn ?_ (.nn ?_ (.nn ?_ (.nn ?_ (.r ?_ (RetC.nilown' rfl ?_ p_13 (RetC.nilown' rfl ?_ p_14 (.r ?_ (.r ?_ (.nn ?_ (.nn ?_ (.nn ?_ (.r ?_ (.r ?_ (.r ?_ (.nn ?_ (.nn ?_ (.r ?_ .nil))))))))))))))))))))))))))))))))))))))))))))))⟩ <;> exact p_2) : p := h
theorem p_129 {p : Prop} (h : p := by refine ⟨_, (.cons rfl (.cons rfl .nil)), rfl, _, (.r ?_ (.r ?_ (.r ?_ (.nn ?_ (.r ?_ (.nn ?_ (.r ?_ (.r ?_ (.nn ?_ (.nn ?_ (.nn ?_ (.r ?_ (.r ?_ (.r ?_ (.nn ?_ (.nn ?_ (.r ?_ (.r ?_ (.nn ?_ (.nn ?_ (.nn ?_ (.r ?_ (.r ?_ (.r ?_ (.o ?_ (.o ?_ (.r ?_ (.r ?_ (.o ?_ (.o ?_ (.o ?_ (.o ?_ (.r ?_ (RetC.nilown' rfl ?_ p_13 (RetC.nilown' rfl ?_ p_14 (.r ?_ (.r ?_ (.nn ?_ (.nn ?_ (.nn ?_ (.r ?_ (.r ?_ (.r ?_ (.nn ?_ (.nn ?_ (.r ?_ .nil))))))))))))))))))))))))))))))))))))))))))))))⟩ <;> exact p_2) : p := h
theorem p_130 {p : Prop} (h : p := by refine ⟨_, (.cons rfl (.cons rfl .nil)), rfl, _, (.r ?_ (.r ?_ (.r ?_ (.nn ?_ (.r ?_ (.nn ?_ (.r ?_ (.r ?_ (.nn ?_ (.nn ?_ (.nn ?_ (.r ?_ (.r ?_ (.r ?_ (.nn ?_ (.nn ?_ (.r ?_ (.r ?_ (.nn ?_ (.nn ?_ (.nn ?_ (.r ?_ (.r ?_ (.r ?_ (.nn ?_ (.nn ?_ (.r ?_ (.r ?_ (.nn ?_ (.nn ?_ (.nn ?_ (.nn ?_ (.r ?_ (.o ?_ (RetC.nilown' rfl ?_ p_14 (.r ?_ (.r ?_ (.nn ?_ (.nn ?_ (.nn ?_ (.r ?_ (.r ?_ (.r ?_ (.nn ?_ (.nn ?_ (.r ?_ .nil))))))))))))))))))))))))))))))))))))))))))))))⟩ <;> exact p_2) : p := h
theorem p_131 {p : Prop} (h : p := by refine ⟨_, (.cons rfl (.cons rfl .nil)), rfl, _, (.r ?_ (.r ?_ (.r ?_ (.nn ?_ (.r ?_ (.nn ?_ (.r ?_ (.r ?_ (.nn ?_ (.nn ?_ (.nn ?_ (.r ?_ (.r ?_ (.r ?_ (.nn ?_ (.nn ?_ (.r ?_ (.r ?_ (.nn ?_ (.nn ?_ (.nn ?_ (.r ?_ (.r ?_ (.r ?_ (.nn ?_ (.nn ?_ (.r ?_ (.r ?_ (.nn ?_ (.nn ?_ (.nn ?_ (.nn ?_ (.r ?_ (RetC.nilown' rfl ?_ p_13 (.o ?_ (.r ?_ (.r ?_ (.o ?_ (.o ?_ (.o ?_ (.r ?_ (.r ?_ (.r ?_ (.nn ?_ (.nn ?_ (.r ?_ .nil))))))))))))))))))))))))))))))))))))))))))))))⟩ <;> exact p_2) : p := h
theorem p_132 {p : Prop} (h : p := by refine ⟨_, _, rfl, rfl, (.cons rfl .nil), rfl, _, (.r rfl (.r ?_ (.r ?_ (.r ?_ (.r ?_ (.r ?_ (.o ?_ (.o ?_ (.r ?_ (.r ?_ (.o ?_ (.o ?_ (.o ?_ (.o ?_ .nil))))))))))))))⟩ <;> exact p_20) : p := h
theorem p_133 {p : Prop} (h : p := by refine ⟨_, _, rfl, rfl, (.cons rfl .nil), rfl, _, (.r rfl (.r ?_ (.r ?_ (.o ?_ (.r ?_ (.r ?_ (.o ?_ (.o ?_ (.o ?_ .nil)))))))))⟩ <;> exact p_8) : p := h
theorem p_134 {p : Prop} (h : p := by refine ⟨_, (.cons rfl .nil), rfl, _, (.r ?_ .nil)⟩ <;> exact p_23) : p := h
theorem p_135 {p : Prop} (h : p := by refine ⟨_, (.cons rfl .nil), rfl, _, (.o ?_ .nil)⟩ <;> exact p_122) : p := h
theorem p_136 {p : Prop} (h : p := by refine ⟨_, (.cons rfl .nil), rfl, _, (.r ?_ .nil)⟩ <;> exact p_11) : p := h
theorem p_137 {p : Prop} (h : p := by refine ⟨_, (.cons rfl .nil), rfl, _, (.r ?_ .nil)⟩ <;> exact p_90) : p := h
theorem p_138 {p : Prop} (h : p := by refine ⟨_, (.cons rfl (.cons rfl (.cons rfl .nil))), rfl, _, (.nn ?_ (.r ?_ (.r ?_ .nil)))⟩ <;> exact p_53) : p := h
theorem p_139 {p : Prop} (h : p := by refine ⟨_, (.cons rfl (.cons rfl (.cons rfl .nil))), rfl, _, (.nn ?_ (.r ?_ (.r ?_ .nil)))⟩ <;> exact p_9) : p := h
theorem p_140 {p : Prop} (h : p := by refine ⟨_, (.cons rfl .nil), rfl, _, (.r ?_ .nil)⟩ <;> exact p_30) : p := h
theorem p_141 {p : Prop} (h : p := by refine ⟨_, (.cons rfl .nil), rfl, _, (.r ?_ .nil)⟩ <;> exact p_40) : p := h
theorem p_142 {p : Prop} (h : p := by refine ⟨_, _, rfl, rfl, .nil, rfl, _, (.r rfl (.r ?_ (.r ?_ .nil)))⟩ <;> exact p_36) : p := h
theorem p_143 {p : Prop} (h : p := by refine ⟨_, (.cons rfl .nil), rfl, _, (.r ?_ .nil)⟩ <;> exact p_50) : p := h
theorem p_144 {p : Prop} (h : p := by refine ⟨_, _, rfl, rfl, (.cons rfl .nil), rfl, _, (.r rfl (.r ?_ (.r ?_ (.r ?_ (.o ?_ .nil)))))⟩ <;> exact p_89) : p := h
theorem p_145 {p : Prop} (h : p := by refine ⟨_, (.cons rfl (.cons rfl (.cons rfl .nil))), rfl, _, (.nn ?_ (.r ?_ (.r ?_ .nil)))⟩ <;> exact p_42) : p := h
theorem p_146 {p : Prop} (h : p := by refine ⟨_, (.cons rfl (.cons rfl (.cons rfl .nil))), rfl, _, (.r ?_ (.r ?_ (.nn ?_ (.r ?_ (.nn ?_ (.r ?_ (.r ?_ .nil)))))))⟩ <;> exact p_12) : p := h
theorem p_147 {p : Prop} (h : p := by refine ⟨_, _, rfl, rfl, (.cons rfl .nil), rfl, _, (.r rfl (.r ?_ (.r ?_ (.r ?_ .nil))))⟩ <;> exact p_74) : p := h
theorem p_148 {p : Prop} (h : p := by refine ⟨_, (.cons rfl .nil), rfl, _, (.nn ?_ .nil)⟩ <;> exact p_25) : p := h
theorem p_149 {p : Prop} (h : p := by refine ⟨_, (.cons rfl .nil), rfl, _, (.r ?_ .nil)⟩ <;> exact p_24) : p := h
theorem p_150 {p : Prop} (h : p := by refine ⟨_, (.cons rfl .nil), rfl, _, (.o ?_ .nil)⟩ <;> exact p_61) : p := h
theorem p_151 {p : Prop} (h : p := by refine ⟨_, (.cons rfl .nil), rfl, _, (.r ?_ .nil)⟩ <;> exact p_54) : p := h
theorem p_152 {p : Prop} (h : p := by refine ⟨_, (.cons rfl .nil), rfl, _, (.r ?_ .nil)⟩ <;> exact p_56) : p := h
theorem p_153 {p : Prop} (h : p := by refine ⟨_, (.cons rfl .nil), rfl, _, (.r ?_ .nil)⟩ <;> exact p_55) : p := h
theorem p_154 {p : Prop} (h : p := by refine ⟨_, (.cons rfl (.cons rfl (.cons rfl .nil))), rfl, _, (.r ?_ (.r ?_ (.r ?_ (.nn ?_ (.nn ?_ (.r ?_ (.r ?_ (.nn ?_ (.nn ?_ (.nn ?_ (.nn ?_ (.r ?_ (.r ?_ .nil)))))))))))))⟩ <;> exact p_26) : p := h
theorem p_155 {p : Prop} (h : p := by refine ⟨_, (.cons rfl (.cons rfl (.cons rfl .nil))), rfl, _, (.r ?_ (.r ?_ (.r ?_ (.nn ?_ (.nn ?_ (.r ?_ (.r ?_ (.nn ?_ (.nn ?_ (.nn ?_ (.r ?_ (.r ?_ .nil))))))))))))⟩ <;> exact p_28) : p := h
theorem p_156 {p : Prop} (h : p := by refine ⟨_, _, rfl, rfl, (.cons rfl .nil), rfl, _, (.r rfl (.r ?_ (.r ?_ (.r ?_ (.r ?_ (.r ?_ (.o ?_ (.o ?_ (.r ?_ (.r ?_ (.o ?_ (.o ?_ (.o ?_ .nil)))))))))))))⟩ <;> exact p_122) : p := h
theorem p_157 {p : Prop} (h : p := by refine ⟨_, (.cons rfl (.cons rfl (.cons rfl .nil))), rfl, _, (RetC.nilown' rfl ?_ p_14 (.r ?_ (.r ?_ (.nn ?_ (.nn ?_ (.nn ?_ (.r ?_ (.r ?_ .nil))))))))⟩ <;> exact p_27) : p := h
theorem p_158 {p : Prop} (h : p := by refine ⟨_, (.cons rfl .nil), rfl, _, (.r ?_ .nil)⟩ <;> exact p_33) : p := h
theorem p_159 {p : Prop} (h : p := by refine ⟨_, (.cons rfl .nil), rfl, _, (.r ?_ .nil)⟩ <;> ((congr 1; unfold nameW; first | (rw [if_neg p_4]; done) | (rw [if_pos p_4]; done) | rfl))) : p := h
theorem p_160 {p : Prop} (h : p := by refine ⟨_, (.cons rfl (.cons rfl (.cons rfl .nil))), rfl, _, (.r ?_ (.r ?_ (.nn ?_ (.nn ?_ (.nn ?_ (.r ?_ (.r ?_ .nil)))))))⟩ <;> exact p_31) : p := h
theorem p_161 {p : Prop} (h : p := by refine ⟨_, (.cons rfl (.cons rfl (.cons rfl .nil))), rfl, _, (.r ?_ (.r ?_ (.r ?_ (.nn ?_ (.nn ?_ (.r ?_ (.r ?_ .nil)))))))⟩ <;> exact p_29) : p := h
theorem p_162 {p : Prop} (h : p := by refine ⟨_, (.cons rfl (.cons rfl (.cons rfl .nil))), rfl, _, (.r ?_ (.r ?_ (.o ?_ (.r ?_ (.o ?_ (.r ?_ (.r ?_ .nil)))))))⟩ <;> exact p_12) : p := h
theorem p_163 {p : Prop} (h : p := by refine ⟨_, _, rfl, rfl, (.cons rfl .nil), rfl, _, (.r rfl (.r ?_ (.r ?_ (.r ?_ (.r ?_ (.o ?_ (.o ?_ (.o ?_ .nil))))))))⟩ <;> exact p_16) : p := h
theorem p_164 {p : Prop} (h : p := by refine ⟨_, _, rfl, rfl, (.cons rfl .nil), rfl, _, (.r rfl (.r ?_ (.r ?_ (.r ?_ (.r ?_ (.r ?_ (.o ?_ (.o ?_ .nil))))))))⟩ <;> exact p_68) : p := h
theorem p_165 {p : Prop} (h : p := by refine ⟨_, (.cons rfl .nil), rfl, _, (.r ?_ .nil)⟩ <;> exact p_119) : p := h
theorem p_166 {p : Prop} (h : p := by refine ⟨_, (.cons rfl (.cons rfl (.cons rfl .nil))), rfl, _, (.r ?_ (RetC.nilown' rfl ?_ p_13 (.r ?_ (.r ?_ .nil))))⟩ <;> exact p_32) : p := h
theorem p_167 {p : Prop} (h : p := by refine ⟨_, (.cons rfl .nil), rfl, _, (.r ?_ .nil)⟩ <;> (first | rfl | (exfalso; omega))) : p := h
theorem p_168 {p : Prop} (h : p := by refine ⟨_, (.cons rfl .nil), rfl, _, (.r ?_ .nil)⟩ <;> exact p_97) : p := h
theorem p_169 {p : Prop} (h : p := by refine ⟨_, (.cons rfl .nil), rfl, _, (.r ?_ .nil)⟩ <;> exact p_79) : p := h
theorem p_170 {p : Prop} (h : p := by refine ⟨_, (.cons rfl .nil), rfl, _, (.r ?_ .nil)⟩ <;> exact p_44) : p := h
theorem p_171 {p : Prop} (h : p := by refine ⟨_, (.cons rfl .nil), rfl, _, (.r ?_ .nil)⟩ <;> exact p_18) : p := h
theorem p_172 {p : Prop} (h : p := by refine ⟨_, (.cons rfl .nil), rfl, _, (.r ?_ .nil)⟩ <;> exact p_66) : p := h
theorem p_173 {p : Prop} (h : p := by refine ⟨_, (.cons rfl .nil), rfl, _, (.r ?_ .nil)⟩ <;> exact p_7) : p := h
theorem p_174 {p : Prop} (h : p := by refine ⟨_, (.cons rfl .nil), rfl, _, (.r ?_ .nil)⟩ <;> (first | rfl | (congr 1; simp [*]; done) | (congr 1; simp_all; done))) : p := h
theorem p_175 {p : Prop} (h : p := by refine ⟨_, (.cons rfl .nil), rfl, _, (.o ?_ .nil)⟩ <;> ((congr 1; unfold sha; rw [show i = (shaH b).length from by omega]))) : p := h
theorem p_176 {p : Prop} (h : p := by refine ⟨_, (.cons rfl .nil), rfl, _, (.r ?_ .nil)⟩ <;> (first | (congr 1; omega) | (exfalso; have := hg_ i p_4; omega))) : p := h
theorem p_177 {p : Prop} (h : p := by refine ⟨_, (.cons rfl .nil), rfl, _, (.o ?_ .nil)⟩ <;> ((congr 1; rw [← hx2, bitsGo_end b p_4, List.append_nil]))) : p := h
theorem p_178 {p : Prop} (h : p := by refine ⟨_, (.cons rfl .nil), rfl, _, (.o ?_ .nil)⟩ <;> ((congr 1; unfold shaPad; rw [show i = 8 from by omega]))) : p := h
theorem p_179 {p : Prop} (h : p := by refine ⟨_, (.cons rfl (.cons rfl (.cons rfl .nil))), rfl, _, (.o ?_ (.r ?_ (.r ?_ .nil)))⟩ <;> exact p_53) : p := h
theorem p_180 {p : Prop} (h : p := by refine ⟨_, (.cons rfl (.cons rfl (.cons rfl .nil))), rfl, _, (.o ?_ (.r ?_ (.r ?_ .nil)))⟩ <;> exact p_42) : p := h
theorem p_181 {p : Prop} (h : p := by refine ⟨_, _, rfl, rfl, (.cons rfl .nil), rfl, _, (.r rfl (.r ?_ (.r ?_ (.nn ?_ .nil))))⟩ <;> exact p_75) : p := h
theorem p_182 {p : Prop} (h : p := by refine ⟨_, (.cons rfl (.cons rfl (.cons rfl .nil))), rfl, _, (.o ?_ (.r ?_ (.r ?_ .nil)))⟩ <;> exact p_9) : p := h
theorem p_183 {p : Prop} (h : p := by refine ⟨_, _, rfl, rfl, (.cons rfl .nil), rfl, _, (.r rfl (.r ?_ (.r ?_ (.nn ?_ .nil))))⟩ <;> exact p_72) : p := h
theorem p_184 {p : Prop} (h : p := by refine ⟨_, _, rfl, rfl, (.cons rfl .nil), rfl, _, (.r rfl (.r ?_ (.r ?_ (.o ?_ .nil))))⟩ <;> exact p_75) : p := h
theorem p_185 {p : Prop} (h : p := by refine ⟨_, _, rfl, rfl, (.cons rfl .nil), rfl, _, (.r rfl (.r ?_ (.r ?_ (.o ?_ .nil))))⟩ <;> exact p_72) : p := h
theorem p_186 {p : Prop} (h : p := by refine ⟨_, (.cons rfl .nil), rfl, _, (.r ?_ .nil)⟩ <;> exact p_80) : p := h
theorem p_187 {p : Prop} (h : p := by refine ⟨_, (.cons rfl .nil), rfl, _, (.r ?_ .nil)⟩ <;> exact p_83) : p := h
theorem p_188 {p : Prop} (h : p := by refine ⟨_, (.cons rfl .nil), rfl, _, (.r ?_ .nil)⟩ <;> exact p_81) : p := h
theorem p_189 {p : Prop} (h : p := by refine ⟨_, (.cons rfl .nil), rfl, _, (.r ?_ .nil)⟩ <;> (exact congrArg D.bool (str_eq h0_ h1_))) : p := h
abbrev c_72 (b : List Int) (q : SRS) : List PC := [cS b, cI q.f0, cI q.f1]
abbrev c_46 : List PC := [cI 0, cI 0, .nil, .nil, .nil]
abbrev c_50 : List PC := [cI 0, cI 0, cI 0, .nil, .nil]
abbrev c_58 : List PC := [cI 0, cI 0, .nil, cI 0, .nil]
abbrev c_71 (b : List Int) (s : SRS) : List PC := [cI (ab b s).2, .row 100501 []]
abbrev c_40 : List PC := [.nil, cI 0, cI 0, .nil, .nil, .nil]
abbrev c_3 (l : SLimits) : List PC := [cI l.f0, cI l.f1, cI l.f2, cI l.f3, cI l.f4]
abbrev c_81 : List PC := [.row 500039 [], cI 0, cI 0, .nil, .nil, .nil]
abbrev c_66 (a : Int) (b : List Int) (l : SLimits) : List PC := [cI (rdTc l b (⟨a, 0⟩ : SRS)).2.f0, .row 5025 []]
abbrev c_59 (aL : SLimits) : List PC := [cI aL.f0, cI aL.f1, cI aL.f2, cI aL.f3, cI aL.f4]
abbrev c_79 (b : List Int) (q : SRS) : List PC := [cS b, cI (ac q true 7).f0, cI (ac q true 7).f1]
abbrev c_45 : List PC := [cI 0, cI 0, cI 0, .nil, .nil, cI 0, cI 0, .nil, .nil, .nil]
abbrev c_76 (b : List Int) (l : SLimits) (q : SRS) : List PC := [cS b, cI (rdText b q l.f1).1.f0, cI (rdText b q l.f1).1.f1]
abbrev c_19 : List PC := [cI 0, cI 0, cI 0, .nil, .nil, cI 0, cI 0, .nil, .nil, .nil, .nil]
abbrev c_69 (b : List Int) (l : SLimits) (s : SRS) : List PC := [cI (ah b (ae b (ab b (ab b s).1).1 32).1.f0 l.f0).2.1]
abbrev c_70 (b : List Int) (l : SLimits) (s : SRS) : List PC := [cI (ah b (ae b (ab b (ab b s).1).1 32).1.f0 l.f0).2.2]
abbrev c_80 (b : List Int) (s : SRS) : List PC := [cI (ab b s).2, cI (ab b (ab b s).1).2, .row 4017 [], .nil, .nil]
abbrev c_77 (a : List SEntry) (i : Nat) : List PC := [cI (a.getD i default).f0, cI (a.getD i default).f1, cS (a.getD i default).f2]
abbrev c_78 (b : List SEntry) (i : Nat) : List PC := [cI (b.getD i default).f0, cI (b.getD i default).f1, cS (b.getD i default).f2]
abbrev c_75 (b : List Int) (s : SRS) : List PC := [cI (ab b s).2, cI (ab b (ab b s).1).2, .row 4011 [], .row 1032 [], .nil]
abbrev c_10 (b : List Int) (l : SLimits) (q : SRS) : List PC := [.row 100500 [], cI (rdQc l b q).2.f0, cI (rdQc l b q).2.f1, .row 6043 [], .row 7043 [], .row 8043 []]
abbrev c_65 (b : List Int) (s : SRS) : List PC := [cS b, cI (ae b (ab b (ab b s).1).1 32).1.f0, cI (ae b (ab b (ab b s).1).1 32).1.f1]
abbrev c_43 (a : Int) (b : List Int) (l : SLimits) : List PC := [cI (rdQc l b (⟨a, 0⟩ : SRS)).2.f0, cI (rdQc l b (⟨a, 0⟩ : SRS)).2.f1, .row 6025 [], .row 7025 [], .row 8025 []]
abbrev c_73 (a : SBlock) : List PC := [cI a.f0.f0, cI a.f0.f1, cI a.f0.f2, .row 903 [], .row 904 [], cI a.f0.f5.f0, cI a.f0.f5.f1, .row 907 [], .row 908 [], .row 909 []]
abbrev c_74 (a : SMsg) : List PC := [cI a.f3.f0, cI a.f3.f1, cI a.f3.f2, .row 914 [], .row 915 [], cI a.f3.f5.f0, cI a.f3.f5.f1, .row 918 [], .row 919 [], .row 920 []]
abbrev c_36 (a : Int) (b : List Int) (l : SLimits) : List PC := [.row 4025 [], cI (au l b (⟨a, 0⟩ : SRS)).2.f1.f0, cI (au l b (⟨a, 0⟩ : SRS)).2.f1.f1, .row 7025 [], .row 8025 [], .row 9025 []]
abbrev c_34 (a : Int) (b : List Int) (l : SLimits) : List PC := [cI (rdVote l b (⟨a, 0⟩ : SRS)).2.f0, cI (rdVote l b (⟨a, 0⟩ : SRS)).2.f1, .row 6025 [], cI (rdVote l b (⟨a, 0⟩ : SRS)).2.f3, .row 8025 []]
abbrev c_35 (a : Int) (b : List Int) (l : SLimits) : List PC := [cI (rdIncl l b (⟨a, 0⟩ : SRS)).2.f0, cI (rdIncl l b (⟨a, 0⟩ : SRS)).2.f1, cI (rdIncl l b (⟨a, 0⟩ : SRS)).2.f2, .row 7025 [], .row 8025 []]
abbrev c_25 (b : List Int) (l : SLimits) (q : SRS) (s : SRS) (ts : List (List Int)) : List PC := [cS b, cI (ac q (decide ((af l b s).2.f4 = (aj ts))) 7).f0, cI (ac q (decide ((af l b s).2.f4 = (aj ts))) 7).f1]
abbrev c_57 (b : List Int) (l : SLimits) (s : SRS) : List PC := [cI (ab b s).2, cI (ab b (ab b s).1).2, .row 4010 [], cI (ai b (ae b (ab b (ab b s).1).1 32).1 l.f0 5).2, .row 4016 []]
abbrev c_67 (b : SBlock) : List PC := [cI b.f0.f0, cI b.f0.f1, cI b.f0.f2, cS b.f0.f3, cS b.f0.f4, cI b.f0.f5.f0, cI b.f0.f5.f1, cS b.f0.f5.f2, cS b.f0.f5.f3, .d (.bss b.f0.f5.f4)]
abbrev c_68 (b : SMsg) : List PC := [cI b.f3.f0, cI b.f3.f1, cI b.f3.f2, cS b.f3.f3, cS b.f3.f4, cI b.f3.f5.f0, cI b.f3.f5.f1, cS b.f3.f5.f2, cS b.f3.f5.f3, .d (.bss b.f3.f5.f4)]
abbrev c_54 (b : List Int) (l : SLimits) (s : SRS) : List PC := [cS b, cI (ah b (ae b (ab b (ab b s).1).1 32).1.f0 l.f0).2.1, cI (ah b (ae b (ab b (ab b s).1).1 32).1.f0 l.f0).2.2]
abbrev c_52 (b : List Int) (l : SLimits) (la : Int) (q : SRS) : List PC := [cI (ab b q).2, cI (ab b (ac (ac (ab b q).1 (decide ((ab b q).2 < l.f0)) 5) (decide (la < (ab b q).2)) 6)).2, .row 4062 []]
abbrev c_51 (b : List Int) (l : SLimits) (la : Int) (q : SRS) (s : SRS) : List PC := [cI (ai b q l.f0 5).2, cI (ai b (ac (ai b q l.f0 5).1 (decide (la < (ai b q l.f0 5).2)) 6) (ab b s).2 6).2, .row 4049 []]
abbrev c_29 (a : Int) (b : List Int) (l : SLimits) : List PC := [cI (ab b (rs0 l a)).2, cI (ab b (ab b (rs0 l a)).1).2, .row 4022 [], cI (ab b (ae b (ab b (ab b (rs0 l a)).1).1 32).1).2, .row 4035 []]
abbrev c_64 (b : SBlock) : List PC := [cI b.f0.f0, cI b.f0.f1, cI b.f0.f2, cS b.f0.f3, cS b.f0.f4, cI b.f0.f5.f0, cI b.f0.f5.f1, cS b.f0.f5.f2, cS b.f0.f5.f3, .d (.bss b.f0.f5.f4), .d (.bss b.f1)]
abbrev c_63 (a : SMsg) : List PC := [cI a.f4.f0.f0, cI a.f4.f0.f1, cI a.f4.f0.f2, .row 924 [], .row 925 [], cI a.f4.f0.f5.f0, cI a.f4.f0.f5.f1, .row 928 [], .row 929 [], .row 930 [], .row 931 []]
abbrev c_62 (b : List Int) (i : Nat) (s : SRS) : List PC := [cS b, cI (ae b (ao b (ae b (ab b (ab b s).1).1 32).1 i).1 32).1.f0, cI (ae b (ao b (ae b (ab b (ab b s).1).1 32).1 i).1 32).1.f1]
abbrev c_61 (b : List Int) (l : SLimits) (s : SRS) : List PC := [cS b, cI (ae b (ai b (ae b (ab b (ab b s).1).1 32).1 l.f0 5).1 32).1.f0, cI (ae b (ai b (ae b (ab b (ab b s).1).1 32).1 l.f0 5).1 32).1.f1]
abbrev c_60 (b : SMsg) : List PC := [cI b.f4.f0.f0, cI b.f4.f0.f1, cI b.f4.f0.f2, cS b.f4.f0.f3, cS b.f4.f0.f4, cI b.f4.f0.f5.f0, cI b.f4.f0.f5.f1, cS b.f4.f0.f5.f2, cS b.f4.f0.f5.f3, .d (.bss b.f4.f0.f5.f4), .d (.bss b.f4.f1)]
abbrev c_38 (b : List Int) (l : SLimits) (q : SRS) : List PC := [cI (af l b q).2.f0, cI (af l b q).2.f1, cI (af l b q).2.f2, .row 7037 [], .row 8037 [], cI (af l b q).2.f5.f0, cI (af l b q).2.f5.f1, .row 11037 [], .row 12037 [], .row 13037 []]
abbrev c_37 (b : List Int) (l : SLimits) (s : SRS) : List PC := [cI (af l b s).2.f0, cI (af l b s).2.f1, cI (af l b s).2.f2, .row 7010 [], .row 8010 [], cI (af l b s).2.f5.f0, cI (af l b s).2.f5.f1, .row 11010 [], .row 12010 [], .row 13010 [], .nil]
abbrev c_4 (b : List Int) (l : SLimits) (s : SRS) : List PC := [cI (af l b s).2.f0, cI (af l b s).2.f1, cI (af l b s).2.f2, .row 7010 [], .row 8010 [], cI (af l b s).2.f5.f0, cI (af l b s).2.f5.f1, .row 11010 [], .row 12010 [], .row 13010 [], .row 100510 []]
abbrev c_55 (b : List Int) (l : SLimits) (s : SRS) : List PC := [cI (af l b s).2.f0, cI (af l b s).2.f1, cI (af l b s).2.f2, .row 7010 [], .row 8010 [], cI (af l b s).2.f5.f0, cI (af l b s).2.f5.f1, .row 11010 [], .row 12010 [], .row 13010 [], .row 500039 []]
abbrev c_56 (b : List Int) (l : SLimits) (s : SRS) : List PC := [cI (af l b s).2.f0, cI (af l b s).2.f1, cI (af l b s).2.f2, .row 7010 [], .row 8010 [], cI (af l b s).2.f5.f0, cI (af l b s).2.f5.f1, .row 11010 [], .row 12010 [], .row 13010 [], .row 500036 []]
abbrev c_53 (b : List Int) (l : SLimits) (s : SRS) : List PC := [cI (ab b s).2, cI (ab b (ab b s).1).2, cI (ab b (ac (ac (ab b (ab b s).1).1 (decide (0 < (ab b (ab b s).1).2)) 5) (decide ((ab b (ab b s).1).2 ≤ l.f2)) 3)).2, .row 4038 [], .nil]
abbrev c_42 (b : List Int) (l : SLimits) (s : SRS) : List PC := [cI (ab b s).2, cI (ab b (ab b s).1).2, cI (ab b (ac (ac (ab b (ab b s).1).1 (decide (0 < (ab b (ab b s).1).2)) 5) (decide ((ab b (ab b s).1).2 ≤ l.f2)) 3)).2, .row 4038 [], .row 100504 []]
abbrev c_49 (b : List Int) (l : SLimits) (s : SRS) : List PC := [cI (ab b s).2, cI (ab b (ab b s).1).2, cI (ab b (ac (ac (ab b (ab b s).1).1 (decide (0 < (ab b (ab b s).1).2)) 5) (decide ((ab b (ab b s).1).2 ≤ l.f2)) 3)).2, .row 4038 [], .row 500061 []]
abbrev c_39 (b : List Int) (l : SLimits) (s : SRS) : List PC := [cI (ab b s).2, cI (ab b (ab b s).1).2, cI (ai b (ac (ac (ab b (ab b s).1).1 (decide (0 < (ab b (ab b s).1).2)) 5) (decide ((ab b (ab b s).1).2 ≤ l.f2)) 3) (ab b (ab b s).1).2 5).2, .row 4031 [], .nil]
abbrev c_47 (b : List Int) (l : SLimits) (s : SRS) : List PC := [cI (ab b s).2, cI (ab b (ab b s).1).2, cI (ai b (ac (ac (ab b (ab b s).1).1 (decide (0 < (ab b (ab b s).1).2)) 5) (decide ((ab b (ab b s).1).2 ≤ l.f2)) 3) (ab b (ab b s).1).2 5).2, .row 4031 [], .row 100504 []]
abbrev c_48 (b : List Int) (l : SLimits) (s : SRS) : List PC := [cI (ab b s).2, cI (ab b (ab b s).1).2, cI (ai b (ac (ac (ab b (ab b s).1).1 (decide (0 < (ab b (ab b s).1).2)) 5) (decide ((ab b (ab b s).1).2 ≤ l.f2)) 3) (ab b (ab b s).1).2 5).2, .row 4031 [], .row 500050 []]
abbrev c_13 (a : Int) (b : List Int) (l : SLimits) : List PC := [cI (af l b (⟨a, 0⟩ : SRS)).2.f0, cI (af l b (⟨a, 0⟩ : SRS)).2.f1, cI (af l b (⟨a, 0⟩ : SRS)).2.f2, .row 7025 [], .row 8025 [], cI (af l b (⟨a, 0⟩ : SRS)).2.f5.f0, cI (af l b (⟨a, 0⟩ : SRS)).2.f5.f1, .row 11025 [], .row 12025 [], .row 13025 []]
abbrev c_0 : List PC := [cI 0, cI 0, cI 0, .nil, cI 0, .nil, cI 0, cI 0, .nil, .nil, .nil, cI 0, cI 0, cI 0, .nil, .nil, cI 0, cI 0, .nil, .nil, .nil, cI 0, cI 0, cI 0, .nil, .nil, cI 0, cI 0, .nil, .nil, .nil, .nil, cI 0, .nil, .nil, cI 0, cI 0, .nil, .nil, .nil, cI 0, cI 0, cI 0, .nil, .nil]
abbrev c_33 (b : List Int) : List PC := [cI (b.getD 0 0), cI 0, cI 0, .nil, cI 0, .nil, cI 0, cI 0, .nil, .nil, .nil, cI 0, cI 0, cI 0, .nil, .nil, cI 0, cI 0, .nil, .nil, .nil, cI 0, cI 0, cI 0, .nil, .nil, cI 0, cI 0, .nil, .nil, .nil, .nil, cI 0, .nil, .nil, cI 0, cI 0, .nil, .nil, .nil, cI 0, cI 0, cI 0, .nil, .nil]
abbrev c_31 (a : List SHead) (i : Nat) : List PC := [cI (a.getD i default).f0, cI (a.getD i default).f1, cI (a.getD i default).f2, cS (a.getD i default).f3, cS (a.getD i default).f4, cI (a.getD i default).f5.f0, cI (a.getD i default).f5.f1, cS (a.getD i default).f5.f2, cS (a.getD i default).f5.f3, .d (.bss (a.getD i default).f5.f4)]
abbrev c_32 (b : List SHead) (i : Nat) : List PC := [cI (b.getD i default).f0, cI (b.getD i default).f1, cI (b.getD i default).f2, cS (b.getD i default).f3, cS (b.getD i default).f4, cI (b.getD i default).f5.f0, cI (b.getD i default).f5.f1, cS (b.getD i default).f5.f2, cS (b.getD i default).f5.f3, .d (.bss (b.getD i default).f5.f4)]
abbrev c_11 (a : Int) (b : List Int) (l : SLimits) : List PC := [cI (am l b (⟨a, 0⟩ : SRS)).2.f0.f0, cI (am l b (⟨a, 0⟩ : SRS)).2.f0.f1, cI (am l b (⟨a, 0⟩ : SRS)).2.f0.f2, .row 7025 [], .row 8025 [], cI (am l b (⟨a, 0⟩ : SRS)).2.f0.f5.f0, cI (am l b (⟨a, 0⟩ : SRS)).2.f0.f5.f1, .row 11025 [], .row 12025 [], .row 13025 [], .row 14025 []]
abbrev c_22 (b : List Int) (l : SLimits) : List PC := [cI (b.getD 0 0), cI 0, cI 0, .nil, cI 0, .nil, cI 0, cI 0, .nil, .nil, .nil, cI 0, cI 0, cI 0, .nil, .nil, cI 0, cI 0, .nil, .nil, .nil, cI 0, cI 0, cI 0, .nil, .nil, cI 0, cI 0, .nil, .nil, .nil, .nil, cI (getTc l b 1).1.f0, .row 2087 [], .nil, cI 0, cI 0, .nil, .nil, .nil, cI 0, cI 0, cI 0, .nil, .nil]
abbrev c_30 (b : List Int) (l : SLimits) : List PC := [cI (b.getD 0 0), cI 0, cI 0, .nil, cI 0, .nil, cI 0, cI 0, .nil, .nil, .nil, cI 0, cI 0, cI 0, .nil, .nil, cI 0, cI 0, .nil, .nil, .nil, cI 0, cI 0, cI 0, .nil, .nil, cI 0, cI 0, .nil, .nil, .nil, .nil, cI (rdTc l b (rs0 l 1)).2.f0, .row 5073 [], .nil, cI 0, cI 0, .nil, .nil, .nil, cI 0, cI 0, cI 0, .nil, .nil]
abbrev c_44 (b : List Int) (i : Nat) (l : SLimits) (s : SRS) : List PC := [cS b, cI (ao b (⟨(ah b (ae b (ab b (ab b s).1).1 32).1.f0 l.f0).2.1, (ah b (ae b (ab b (ab b s).1).1 32).1.f0 l.f0).2.2⟩ : SRS) i).1.f0, cI (ao b (⟨(ah b (ae b (ab b (ab b s).1).1 32).1.f0 l.f0).2.1, (ah b (ae b (ab b (ab b s).1).1 32).1.f0 l.f0).2.2⟩ : SRS) i).1.f1]
abbrev c_21 (b : List Int) (l : SLimits) : List PC := [cI (b.getD 0 0), cI 0, cI 0, .nil, cI 0, .nil, cI (getQc l b 1).1.f0, cI (getQc l b 1).1.f1, .row 3057 [], .row 4057 [], .row 5057 [], cI 0, cI 0, cI 0, .nil, .nil, cI 0, cI 0, .nil, .nil, .nil, cI 0, cI 0, cI 0, .nil, .nil, cI 0, cI 0, .nil, .nil, .nil, .nil, cI 0, .nil, .nil, cI 0, cI 0, .nil, .nil, .nil, cI 0, cI 0, cI 0, .nil, .nil]
abbrev c_41 (a : Int) (b : List Int) (l : SLimits) : List PC := [cS b, cI (ae b (ac (ab b (ae b (ab b (ab b (rs0 l a)).1).1 32).1).1 (decide ((ab b (ae b (ab b (ab b (rs0 l a)).1).1 32).1).2 < l.f0)) 5) 32).1.f0, cI (ae b (ac (ab b (ae b (ab b (ab b (rs0 l a)).1).1 32).1).1 (decide ((ab b (ae b (ab b (ab b (rs0 l a)).1).1 32).1).2 < l.f0)) 5) 32).1.f1]
abbrev c_28 (b : List Int) (l : SLimits) : List PC := [cI (b.getD 0 0), cI 0, cI 0, .nil, cI 0, .nil, cI (rdQc l b (rs0 l 1)).2.f0, cI (rdQc l b (rs0 l 1)).2.f1, .row 6055 [], .row 7055 [], .row 8055 [], cI 0, cI 0, cI 0, .nil, .nil, cI 0, cI 0, .nil, .nil, .nil, cI 0, cI 0, cI 0, .nil, .nil, cI 0, cI 0, .nil, .nil, .nil, .nil, cI 0, .nil, .nil, cI 0, cI 0, .nil, .nil, .nil, cI 0, cI 0, cI 0, .nil, .nil]
abbrev c_17 (b : List Int) (l : SLimits) : List PC := [cI (b.getD 0 0), cI (aq l b 1).1.f0, cI (aq l b 1).1.f1, .row 3047 [], cI (aq l b 1).1.f3, .row 5047 [], cI 0, cI 0, .nil, .nil, .nil, cI 0, cI 0, cI 0, .nil, .nil, cI 0, cI 0, .nil, .nil, .nil, cI 0, cI 0, cI 0, .nil, .nil, cI 0, cI 0, .nil, .nil, .nil, .nil, cI 0, .nil, .nil, cI 0, cI 0, .nil, .nil, .nil, cI 0, cI 0, cI 0, .nil, .nil]
abbrev c_18 (b : List Int) (l : SLimits) : List PC := [cI (b.getD 0 0), cI 0, cI 0, .nil, cI 0, .nil, cI 0, cI 0, .nil, .nil, .nil, cI 0, cI 0, cI 0, .nil, .nil, cI 0, cI 0, .nil, .nil, .nil, cI 0, cI 0, cI 0, .nil, .nil, cI 0, cI 0, .nil, .nil, .nil, .nil, cI 0, .nil, .nil, cI 0, cI 0, .nil, .nil, .nil, cI (getIncl l b 1).1.f0, cI (getIncl l b 1).1.f1, cI (getIncl l b 1).1.f2, .row 4037 [], .row 5037 []]
abbrev c_27 (b : List Int) (l : SLimits) : List PC := [cI (b.getD 0 0), cI (aq l b 1).1.f0, cI (aq l b 1).1.f1, .row 3037 [], cI (aq l b 1).1.f3, .row 5037 [], cI 0, cI 0, .nil, .nil, .nil, cI 0, cI 0, cI 0, .nil, .nil, cI 0, cI 0, .nil, .nil, .nil, cI 0, cI 0, cI 0, .nil, .nil, cI 0, cI 0, .nil, .nil, .nil, .nil, cI 0, .nil, .nil, cI 0, cI 0, .nil, .nil, .nil, cI 0, cI 0, cI 0, .nil, .nil]
abbrev c_16 (b : List Int) (l : SLimits) : List PC := [cI (b.getD 0 0), cI 0, cI 0, .nil, cI 0, .nil, cI 0, cI 0, .nil, .nil, .nil, cI 0, cI 0, cI 0, .nil, .nil, cI 0, cI 0, .nil, .nil, .nil, cI 0, cI 0, cI 0, .nil, .nil, cI 0, cI 0, .nil, .nil, .nil, .nil, cI 0, .nil, .row 1097 [], cI (getProof l b 1).1.f1.f0, cI (getProof l b 1).1.f1.f1, .row 4097 [], .row 5097 [], .row 6097 [], cI 0, cI 0, cI 0, .nil, .nil]
abbrev c_15 (b : List Int) (i : Nat) (l : SLimits) (s : SRS) : List PC := [cS b, cI (ae b (ao b (⟨(ah b (ae b (ab b (ab b s).1).1 32).1.f0 l.f0).2.1, (ah b (ae b (ab b (ab b s).1).1 32).1.f0 l.f0).2.2⟩ : SRS) i).1 32).1.f0, cI (ae b (ao b (⟨(ah b (ae b (ab b (ab b s).1).1 32).1.f0 l.f0).2.1, (ah b (ae b (ab b (ab b s).1).1 32).1.f0 l.f0).2.2⟩ : SRS) i).1 32).1.f1]
abbrev c_26 (b : List Int) (l : SLimits) : List PC := [cI (b.getD 0 0), cI 0, cI 0, .nil, cI 0, .nil, cI 0, cI 0, .nil, .nil, .nil, cI 0, cI 0, cI 0, .nil, .nil, cI 0, cI 0, .nil, .nil, .nil, cI 0, cI 0, cI 0, .nil, .nil, cI 0, cI 0, .nil, .nil, .nil, .nil, cI 0, .nil, .row 4079 [], cI (au l b (rs0 l 1)).2.f1.f0, cI (au l b (rs0 l 1)).2.f1.f1, .row 7079 [], .row 8079 [], .row 9079 [], cI 0, cI 0, cI 0, .nil, .nil]
abbrev c_24 (b : List Int) (l : SLimits) : List PC := [cI (b.getD 0 0), cI 0, cI 0, .nil, cI 0, .nil, cI 0, cI 0, .nil, .nil, .nil, cI 0, cI 0, cI 0, .nil, .nil, cI 0, cI 0, .nil, .nil, .nil, cI 0, cI 0, cI 0, .nil, .nil, cI 0, cI 0, .nil, .nil, .nil, .nil, cI 0, .nil, .nil, cI 0, cI 0, .nil, .nil, .nil, cI (rdInclS l b (rs0 l 1)).2.f0, cI (rdInclS l b (rs0 l 1)).2.f1, cI (rdInclS l b (rs0 l 1)).2.f2, .row 7085 [], .row 8085 []]
abbrev c_12 (b : List Int) (l : SLimits) : List PC := [cI (b.getD 0 0), cI 0, cI 0, .nil, cI 0, .nil, cI 0, cI 0, .nil, .nil, .nil, cI (ax l b 1).1.f0, cI (ax l b 1).1.f1, cI (ax l b 1).1.f2, .row 4067 [], .row 5067 [], cI (ax l b 1).1.f5.f0, cI (ax l b 1).1.f5.f1, .row 8067 [], .row 9067 [], .row 10067 [], cI 0, cI 0, cI 0, .nil, .nil, cI 0, cI 0, .nil, .nil, .nil, .nil, cI 0, .nil, .nil, cI 0, cI 0, .nil, .nil, .nil, cI 0, cI 0, cI 0, .nil, .nil]
abbrev c_7 (b : List Int) (l : SLimits) : List PC := [cI (b.getD 0 0), cI 0, cI 0, .nil, cI 0, .nil, cI 0, cI 0, .nil, .nil, .nil, cI 0, cI 0, cI 0, .nil, .nil, cI 0, cI 0, .nil, .nil, .nil, cI (ar l b 1).1.f0.f0, cI (ar l b 1).1.f0.f1, cI (ar l b 1).1.f0.f2, .row 4077 [], .row 5077 [], cI (ar l b 1).1.f0.f5.f0, cI (ar l b 1).1.f0.f5.f1, .row 8077 [], .row 9077 [], .row 10077 [], .row 11077 [], cI 0, .nil, .nil, cI 0, cI 0, .nil, .nil, .nil, cI 0, cI 0, cI 0, .nil, .nil]
abbrev c_20 (b : List Int) (l : SLimits) : List PC := [cI (b.getD 0 0), cI 0, cI 0, .nil, cI 0, .nil, cI 0, cI 0, .nil, .nil, .nil, cI (af l b (rs0 l 1)).2.f0, cI (af l b (rs0 l 1)).2.f1, cI (af l b (rs0 l 1)).2.f2, .row 7061 [], .row 8061 [], cI (af l b (rs0 l 1)).2.f5.f0, cI (af l b (rs0 l 1)).2.f5.f1, .row 11061 [], .row 12061 [], .row 13061 [], cI 0, cI 0, cI 0, .nil, .nil, cI 0, cI 0, .nil, .nil, .nil, .nil, cI 0, .nil, .nil, cI 0, cI 0, .nil, .nil, .nil, cI 0, cI 0, cI 0, .nil, .nil]
abbrev c_14 (b : List Int) (l : SLimits) : List PC := [cI (b.getD 0 0), cI 0, cI 0, .nil, cI 0, .nil, cI 0, cI 0, .nil, .nil, .nil, cI 0, cI 0, cI 0, .nil, .nil, cI 0, cI 0, .nil, .nil, .nil, cI (am l b (rs0 l 1)).2.f0.f0, cI (am l b (rs0 l 1)).2.f0.f1, cI (am l b (rs0 l 1)).2.f0.f2, .row 7067 [], .row 8067 [], cI (am l b (rs0 l 1)).2.f0.f5.f0, cI (am l b (rs0 l 1)).2.f0.f5.f1, .row 11067 [], .row 12067 [], .row 13067 [], .row 14067 [], cI 0, .nil, .nil, cI 0, cI 0, .nil, .nil, .nil, cI 0, cI 0, cI 0, .nil, .nil]
abbrev c_9 (b : List Int) (l : SLimits) (s : SRS) : List PC := [cI (ab b s).2, cI (ab b (ab b s).1).2, cI (ai b (ac (ab b (ab b s).1).1 (decide ((ab b (ab b s).1).2 ≠ 0)) 5) l.f0 5).2, .row 4022 [], .row 4024 [], cI (rdQc l b (ae b (ae b (ai b (ac (ab b (ab b s).1).1 (decide ((ab b (ab b s).1).2 ≠ 0)) 5) l.f0 5).1 32).1 32).1).2.f0, cI (rdQc l b (ae b (ae b (ai b (ac (ab b (ab b s).1).1 (decide ((ab b (ab b s).1).2 ≠ 0)) 5) l.f0 5).1 32).1 32).1).2.f1, .row 6029 [], .row 7029 [], .row 8029 []]
abbrev c_23 (a : SMsg) : List PC := [cI a.f0, cI a.f1.f0, cI a.f1.f1, .row 903 [], cI a.f1.f3, .row 905 [], cI a.f2.f0, cI a.f2.f1, .row 908 [], .row 909 [], .row 910 [], cI a.f3.f0, cI a.f3.f1, cI a.f3.f2, .row 914 [], .row 915 [], cI a.f3.f5.f0, cI a.f3.f5.f1, .row 918 [], .row 919 [], .row 920 [], cI a.f4.f0.f0, cI a.f4.f0.f1, cI a.f4.f0.f2, .row 924 [], .row 925 [], cI a.f4.f0.f5.f0, cI a.f4.f0.f5.f1, .row 928 [], .row 929 [], .row 930 [], .row 931 [], cI a.f5.f0, .row 933 [], .row 934 [], cI a.f6.f1.f0, cI a.f6.f1.f1, .row 937 [], .row 938 [], .row 939 [], cI a.f7.f0, cI a.f7.f1, cI a.f7.f2, .row 943 [], .row 944 []]
abbrev c_8 (p : SProof) : List PC := [cI (p.f0.getD ((p.f0.length : Int) - 1).toNat default).f0, cI (p.f0.getD ((p.f0.length : Int) - 1).toNat default).f1, cI (p.f0.getD ((p.f0.length : Int) - 1).toNat default).f2, cS (p.f0.getD ((p.f0.length : Int) - 1).toNat default).f3, cS (p.f0.getD ((p.f0.length : Int) - 1).toNat default).f4, cI (p.f0.getD ((p.f0.length : Int) - 1).toNat default).f5.f0, cI (p.f0.getD ((p.f0.length : Int) - 1).toNat default).f5.f1, cS (p.f0.getD ((p.f0.length : Int) - 1).toNat default).f5.f2, cS (p.f0.getD ((p.f0.length : Int) - 1).toNat default).f5.f3, .d (.bss (p.f0.getD ((p.f0.length : Int) - 1).toNat default).f5.f4)]
abbrev c_5 (b : List Int) (l : SLimits) (s : SRS) : List PC := [cI (ab b s).2, cI (ab b (ab b s).1).2, cI (ab b (ac (ab b (ab b s).1).1 (decide ((ab b (ab b s).1).2 ≠ 0)) 5)).2, .row 4028 [], .row 4031 [], cI (rdQc l b (ae b (ae b (ac (ab b (ac (ab b (ab b s).1).1 (decide ((ab b (ab b s).1).2 ≠ 0)) 5)).1 (decide ((ab b (ac (ab b (ab b s).1).1 (decide ((ab b (ab b s).1).2 ≠ 0)) 5)).2 < l.f0)) 5) 32).1 32).1).2.f0, cI (rdQc l b (ae b (ae b (ac (ab b (ac (ab b (ab b s).1).1 (decide ((ab b (ab b s).1).2 ≠ 0)) 5)).1 (decide ((ab b (ac (ab b (ab b s).1).1 (decide ((ab b (ab b s).1).2 ≠ 0)) 5)).2 < l.f0)) 5) 32).1 32).1).2.f1, .row 6035 [], .row 7035 [], .row 8035 []]
abbrev c_1 (aB : List Int) (aL : SLimits) : List PC := [cI (aa aL aB).1.f0, cI (aa aL aB).1.f1.f0, cI (aa aL aB).1.f1.f1, .row 4032 [], cI (aa aL aB).1.f1.f3, .row 6032 [], cI (aa aL aB).1.f2.f0, cI (aa aL aB).1.f2.f1, .row 9032 [], .row 10032 [], .row 11032 [], cI (aa aL aB).1.f3.f0, cI (aa aL aB).1.f3.f1, cI (aa aL aB).1.f3.f2, .row 15032 [], .row 16032 [], cI (aa aL aB).1.f3.f5.f0, cI (aa aL aB).1.f3.f5.f1, .row 19032 [], .row 20032 [], .row 21032 [], cI (aa aL aB).1.f4.f0.f0, cI (aa aL aB).1.f4.f0.f1, cI (aa aL aB).1.f4.f0.f2, .row 25032 [], .row 26032 [], cI (aa aL aB).1.f4.f0.f5.f0, cI (aa aL aB).1.f4.f0.f5.f1, .row 29032 [], .row 30032 [], .row 31032 [], .row 32032 [], cI (aa aL aB).1.f5.f0, .row 34032 [], .row 35032 [], cI (aa aL aB).1.f6.f1.f0, cI (aa aL aB).1.f6.f1.f1, .row 38032 [], .row 39032 [], .row 40032 [], cI (aa aL aB).1.f7.f0, cI (aa aL aB).1.f7.f1, cI (aa aL aB).1.f7.f2, .row 44032 [], .row 45032 []]
abbrev c_2 (aB : List Int) (aL : SLimits) : List PC := [cI (aa aL aB).1.f0, cI (aa aL aB).1.f1.f0, cI (aa aL aB).1.f1.f1, .row 4023 [], cI (aa aL aB).1.f1.f3, .row 6023 [], cI (aa aL aB).1.f2.f0, cI (aa aL aB).1.f2.f1, .row 9023 [], .row 10023 [], .row 11023 [], cI (aa aL aB).1.f3.f0, cI (aa aL aB).1.f3.f1, cI (aa aL aB).1.f3.f2, .row 15023 [], .row 16023 [], cI (aa aL aB).1.f3.f5.f0, cI (aa aL aB).1.f3.f5.f1, .row 19023 [], .row 20023 [], .row 21023 [], cI (aa aL aB).1.f4.f0.f0, cI (aa aL aB).1.f4.f0.f1, cI (aa aL aB).1.f4.f0.f2, .row 25023 [], .row 26023 [], cI (aa aL aB).1.f4.f0.f5.f0, cI (aa aL aB).1.f4.f0.f5.f1, .row 29023 [], .row 30023 [], .row 31023 [], .row 32023 [], cI (aa aL aB).1.f5.f0, .row 34023 [], .row 35023 [], cI (aa aL aB).1.f6.f1.f0, cI (aa aL aB).1.f6.f1.f1, .row 38023 [], .row 39023 [], .row 40023 [], cI (aa aL aB).1.f7.f0, cI (aa aL aB).1.f7.f1, cI (aa aL aB).1.f7.f2, .row 44023 [], .row 45023 []]
abbrev c_6 (aB : List Int) (aL : SLimits) : List PC := [cI (aa aL aB).1.f0, cI (aa aL aB).1.f1.f0, cI (aa aL aB).1.f1.f1, .row 4081 [], cI (aa aL aB).1.f1.f3, .row 6081 [], cI (aa aL aB).1.f2.f0, cI (aa aL aB).1.f2.f1, .row 9081 [], .row 10081 [], .row 11081 [], cI (aa aL aB).1.f3.f0, cI (aa aL aB).1.f3.f1, cI (aa aL aB).1.f3.f2, .row 15081 [], .row 16081 [], cI (aa aL aB).1.f3.f5.f0, cI (aa aL aB).1.f3.f5.f1, .row 19081 [], .row 20081 [], .row 21081 [], cI (aa aL aB).1.f4.f0.f0, cI (aa aL aB).1.f4.f0.f1, cI (aa aL aB).1.f4.f0.f2, .row 25081 [], .row 26081 [], cI (aa aL aB).1.f4.f0.f5.f0, cI (aa aL aB).1.f4.f0.f5.f1, .row 29081 [], .row 30081 [], .row 31081 [], .row 32081 [], cI (aa aL aB).1.f5.f0, .row 34081 [], .row 35081 [], cI (aa aL aB).1.f6.f1.f0, cI (aa aL aB).1.f6.f1.f1, .row 38081 [], .row 39081 [], .row 40081 [], cI (aa aL aB).1.f7.f0, cI (aa aL aB).1.f7.f1, cI (aa aL aB).1.f7.f2, .row 44081 [], .row 45081 []]
theorem ok_spec_l01In (n : Int) (lo : Int) (hi : Int) : RO Tryz.prog 59 [.one (.int .i64 n), .one (.int .i64 lo), .one (.int .i64 hi)] [(false, [.rd (.bool (decide (lo ≤ n ∧ n ≤ hi)))])] := by
 refine RO.intro Tryz.func59 rfl 15 rfl (le_ok rfl) fun w Z => ?_
 refine T.sr [(6, (pB false))] [] ?_
 refine T.sg ?_
 refine TL.rx 4 [(10, (pB (decide (lo ≤ n))))] [] ?_
 rcases Bool.eq_false_or_eq_true (decide (lo ≤ n)) with hb1 | hb1
 ·refine TL.known 10 hb1 rfl ?_
  refine TL.rl [(6, (pB (decide (n ≤ hi))))] [] ?_
  refine T.ret ?_
  exact p_165
 refine TL.known 10 hb1 rfl ?_
 refine TL.rl [(6, (pB false))] [] ?_
 refine T.ret ?_
 exact p_165
theorem ok_spec_l02Signers (n : Int) : RO Tryz.prog 58 [.one (.int .i64 n)] [(false, [.rd (.bool (decide (1 ≤ n ∧ n ≤ 10)))])] := by
 refine RO.intro Tryz.func58 rfl 5 rfl (le_ok rfl) fun w Z => ?_
 refine T.sr [(2, (pB false))] [] ?_
 refine T.sg ?_
 refine TL.rx 1 [(3, (pI n))] [] ?_
 refine TL.c (Step.cz (ok_spec_l01In n 1 10)) ?_
 refine TL.rl [(2, (pB (decide (1 ≤ n ∧ n ≤ 10))))] [] ?_
 refine T.ret ?_
 exact ⟨_, (.cons rfl .nil), rfl, _, (.r rfl .nil)⟩
theorem ok_spec_LimitsOk (l : SLimits) : RO Tryz.prog 16 [.agg l.cells] [(false, [.rd (.bool (limOk l))])] := by
 refine RO.intro Tryz.func16 rfl 26 rfl (le_ok rfl) fun w Z => ?_
 refine T.sr [(1, (.one (.ptr 1 0))), (2, (pB false))] [(1, (46, (c_3 l)))] ?_
 refine T.sg ?_
 refine TL.rx 2 [(4, (pI l.f0))] [] ?_
 refine TL.c (Step.cz (ok_spec_l02Signers l.f0)) ?_
 refine TL.rx 1 [(6, (pB (decide (1 ≤ l.f0 ∧ l.f0 ≤ 10))))] [] ?_
 rcases Bool.eq_false_or_eq_true (decide (1 ≤ l.f0 ∧ l.f0 ≤ 10)) with hb1 | hb1
 ·refine TL.known 6 hb1 rfl ?_
  refine TL.rx 2 [(8, (pI l.f1))] [] ?_
  refine TL.gy 6 (Step.cz (ok_spec_l01In l.f1 0 40)) ?_
  refine TL.rx 2 [(11, (pB (decide (0 ≤ l.f1 ∧ l.f1 ≤ 40))))] [] ?_
  rcases Bool.eq_false_or_eq_true (decide (0 ≤ l.f1 ∧ l.f1 ≤ 40)) with hb2 | hb2
  ·refine TL.known 11 hb2 rfl ?_
   refine TL.rx 2 [(13, (pI l.f2))] [] ?_
   refine TL.gy 11 (Step.cz (ok_spec_l01In l.f2 0 8)) ?_
   refine TL.rx 2 [(16, (pB (decide (0 ≤ l.f2 ∧ l.f2 ≤ 8))))] [] ?_
   rcases Bool.eq_false_or_eq_true (decide (0 ≤ l.f2 ∧ l.f2 ≤ 8)) with hb3 | hb3
   ·refine TL.known 16 hb3 rfl ?_
    refine TL.rx 2 [(18, (pI l.f3))] [] ?_
    refine TL.gy 16 (Step.cz (ok_spec_l01In l.f3 1 4000)) ?_
    refine TL.rx 2 [(21, (pB (decide (1 ≤ l.f3 ∧ l.f3 ≤ 4000))))] [] ?_
    rcases Bool.eq_false_or_eq_true (decide (1 ≤ l.f3 ∧ l.f3 ≤ 4000)) with hb4 | hb4
    ·refine TL.known 21 hb4 rfl ?_
     refine TL.rx 2 [(23, (pI l.f4))] [] ?_
     refine TL.gy 21 (Step.cz (ok_spec_l01In l.f4 3 5)) ?_
     refine TL.rl [(2, (pB (decide (3 ≤ l.f4 ∧ l.f4 ≤ 5))))] [] ?_
     refine T.ret ?_
     exact p_136
    refine TL.known 21 hb4 rfl ?_
    refine TL.rl [(2, (pB false))] [] ?_
    refine T.ret ?_
    exact p_136
   refine TL.known 16 hb3 rfl ?_
   refine TL.rl [(2, (pB false))] [] ?_
   refine T.ret ?_
   exact p_136
  refine TL.known 11 hb2 rfl ?_
  refine TL.rl [(2, (pB false))] [] ?_
  refine T.ret ?_
  exact p_136
 refine TL.known 6 hb1 rfl ?_
 refine TL.rl [(2, (pB false))] [] ?_
 refine T.ret ?_
 exact p_136
theorem ok_spec_l11New (l : SLimits) (b : List Int) (a : Int)  : NX Tryz.prog 17 [.agg l.cells, .one (.ints .u8 b), .one (.int .i64 a)] 62 [(.ints .u8 b), (.int .i64 (rs0 l a).f0), (.int .i64 (rs0 l a).f1)] := by
 refine NX.intro 6 Tryz.func17 rfl 19 rfl (le_ok rfl) rfl fun w Z => ?_
 refine T.sr [(3, (.one (.ptr 3 0)))] [(3, (46, (c_3 l)))] ?_
 refine T.sr [(7, (.one (.ptr 11 0)))] [(11, (62, [cS b, cI a, cI 0]))] ?_
 refine T.seq (T.sg ?_)
 refine TL.rx 1 [(12, (.agg (c_3 l)))] [] ?_
 refine TL.c (Step.cz (ok_spec_LimitsOk l)) ?_
 refine TL.rl [(14, (pB (!(limOk l))))] [] ?_
 refine T.cn rfl (fun h1 => ?_) (fun h1 => ?_)
 ·refine T.rr [] [(11, (62, [cS b, cI a, cI 5]))] ?_
  refine T.sr [(6, (.one (.ptr 11 0)))] [] ?_
  refine T.ret ?_
  exact ⟨11, rfl, by first | (rw [rs0_ok p_3]; rfl) | (rw [rs0_no (by first | assumption | simp [*])]; rfl)⟩
 refine T.skip ?_
 refine T.sr [(6, (.one (.ptr 11 0)))] [] ?_
 refine T.ret ?_
 exact ⟨11, rfl, by first | (rw [rs0_ok p_3]; rfl) | (rw [rs0_no (by first | assumption | simp [*])]; rfl)⟩
theorem ok_spec_l11Fail (k : Bool) (b : List Int) (s : SRS) (bad : Bool) (c : Int) (h0_ : U8s b) (h1_ : b.length ≤ 1048576) (h2_ : bad = !k) : BX Tryz.prog 25 [.bx, .rd (.one (.bool bad)), .rd (.one (.int .i64 c))] 62 [.rd (.ints .u8 b), .rd (.int .i64 s.f0), .rd (.int .i64 s.f1)] [.rd (.ints .u8 b), .rd (.int .i64 (ac s k c).f0), .rd (.int .i64 (ac s k c).f1)] [] := by
 refine BX.intro Tryz.func25 rfl 18 rfl (le_ok rfl) (le_ok rfl) fun w Z IX pin hp => ?_
 have hk_ : k = !bad := by rw [h2_, Bool.not_not]
 clear h2_
 refine T.sg ?_
 refine TL.rx 6 [(11, (pB (decide (s.f1 = 0))))] [] ?_
 rcases Bool.eq_false_or_eq_true (decide (s.f1 = 0)) with hb1 | hb1
 ·refine TL.known 11 hb1 rfl ?_
  have hb1' := hb1
  replace hb1' := of_decide_eq_true hb1'
  refine TL.rl [(13, (pB bad))] [] ?_
  refine T.cond (b := bad) rfl (fun h2 => ?_) (fun h2 => ?_)
  ·refine T.rr [] [(800, (62, [cS b, cI s.f0, cI c]))] ?_
   exact p_142
  refine T.skip ?_
  exact p_142
 refine TL.known 11 hb1 rfl ?_
 have hb1' := hb1
 replace hb1' := of_decide_eq_false hb1'
 refine TL.rl [(13, (pB false))] [] ?_
 refine T.cf (T.skip ?_)
 exact p_142
theorem ok_spec_GetVar (b : List Int) (a : Int) (h0_ : U8s b) (h1_ : b.length ≤ 1099511627776) : RO Tryz.prog 99 [.one (.ints .u8 b), .one (.int .i64 a)] [(false, [.rd (.int .i64 (getVar b a).1)]), (false, [.rd (.int .i64 (getVar b a).2.1)]), (false, [.rd (.int .i64 (getVar b a).2.2)])] := by
 refine RO.intro Tryz.func99 rfl 67 rfl (le_ok rfl) fun w Z => ?_
 refine T.bnd 0 0 rfl rfl fun hb_0_0 => ?_
 simp only [D.size, List.length_map] at hb_0_0
 refine T.sr [(4, (pI 0)), (5, (pI 0)), (6, (pI 0))] [] ?_
 refine T.seq (T.sg ?_)
 refine TL.rx 3 [(13, (pB (decide (a < 0))))] [] ?_
 rcases Bool.eq_false_or_eq_true (decide (a < 0)) with hb1 | hb1
 ·refine TL.known 13 hb1 rfl ?_
  have hb1' := hb1
  replace hb1' := of_decide_eq_true hb1'
  refine TL.rl [(18, (pB true))] [] ?_
  refine T.ct ?_
  refine T.sr [(4, (pI 0)), (5, (pI 0)), (6, (pI 1))] [] ?_
  refine T.ret ?_
  exact p_124
 refine TL.known 13 hb1 rfl ?_
 have hb1' := hb1
 replace hb1' := of_decide_eq_false hb1'
 refine TL.rx 2 [(14, (pI a)), (15, (pS b))] [] ?_
 refine TL.gy 13 (Step.ln 5 1 (.ints .u8 b)) ?_
 refine TL.rl [(18, (pB (decide ((b.length : Int) < a))))] [] ?_
 refine T.ci rfl (fun h2 => ?_) (fun h2 => ?_)
 ·refine T.sr [(4, (pI 0)), (5, (pI 0)), (6, (pI 1))] [] ?_
  refine T.ret ?_
  exact p_124
 refine T.skip ?_
 refine T.sr [(7, (pI 0))] [] ?_
 refine T.sr [(8, (pI 1))] [] ?_
 refine T.seq ?_
 refine T.sr [(9, (pI 0))] [] ?_
 refine T.block ?_
 refine T.loop (ι := Nat × Int) (fun xx_ => { tm := [(0, (pS b)), (1, (pI a)), (9, (pI ((xx_.1) : Int))), (7, (pI (xx_.2))), (8, (pI (128 ^ (xx_.1))))], rows := [], boxes := [] }) (fun xx_ => (xx_.1) ≤ 9 ∧ 0 ≤ (xx_.2) ∧ (xx_.2) < 128 ^ (xx_.1) ∧ gvGo b a (9 - (xx_.1)) (xx_.1) (xx_.2) = gvGo b a 9 0 0) (fun xx_ => 9 - (xx_.1)) (0, 0) ?_ ?_ ?_
 · refine Env.le_mk ⟨rfl, rfl, ?_, ?_, ?_, trivial⟩ trivial trivial <;> exact p_22
 · (dsimp only; refine ⟨by omega, by omega, by simp, rfl⟩)
 intro xx_ hx
 obtain ⟨i, n⟩ := xx_
 try dsimp only at hx ⊢
 obtain ⟨hx1, hx2, hx3, hx4⟩ := hx
 have hu_ := getD_u8 h0_ (a + (i : Int)).toNat
 have hm_ := gv_mul hu_.1 i
 refine T.seq ?_
 refine T.sr [(20, (pB (decide ((i : Int) < 9))))] [] ?_
 refine T.ci rfl (fun h3 => ?_) (fun h3 => ?_)
 ·have hp_ := pow128 (i := i) p_4
  refine T.skip (T.seq (T.block (T.seq (T.sg ?_))))
  refine TL.rx 2 [(23, (pI a)), (24, (pI (i : Int)))] [] ?_
  refine TL.ad (a + (i : Int)) ?_
  refine TL.rx 1 [(26, (pS b))] [] ?_
  refine TL.c (Step.ln 5 1 (.ints .u8 b)) ?_
  refine TL.rl [(28, (pB (decide ((b.length : Int) ≤ (a + (i : Int))))))] [] ?_
  refine T.ci rfl (fun h4 => ?_) (fun h4 => ?_)
  ·refine T.sr [(4, (pI 0)), (5, (pI 0)), (6, (pI 1))] [] ?_
   refine T.ret ?_
   exact p_124
  refine T.skip (T.sg ?_)
  refine TL.rx 3 [(29, (pS b)), (30, (pI a)), (31, (pI (i : Int)))] [] ?_
  refine TL.ad (a + (i : Int)) ?_
  refine TL.c (Step.index (e := 5) (z := 1) (i := (a + (i : Int))) rfl rfl (lt_ok rfl) p_6 rfl rfl rfl (lt_ok rfl) rfl p_17 p_39) ?_
  refine TL.c (Step.load (e := (.int .u8 (b.getD (a + (i : Int)).toNat 0))) rfl rfl (lt_ok rfl) p_6 rfl rfl) ?_
  refine TL.c (Step.conv (c := (b.getD (a + (i : Int)).toNat 0)) rfl rfl (lt_ok rfl) p_6 p_6 rfl (wrap_ok p_17 p_17)) ?_
  refine TL.rl [(10, (pI (b.getD (a + (i : Int)).toNat 0)))] [] ?_
  refine T.seq (T.sg ?_)
  refine TL.rx 3 [(38, (pB (decide (0 < (i : Int)))))] [] ?_
  rcases Bool.eq_false_or_eq_true (decide (0 < (i : Int))) with hb5 | hb5
  ·refine TL.known 38 hb5 rfl ?_
   have hb5' := hb5
   replace hb5' := of_decide_eq_true hb5'
   refine TL.rx 4 [(42, (pB (decide ((b.getD (a + (i : Int)).toNat 0) = 0))))] [] ?_
   rcases Bool.eq_false_or_eq_true (decide ((b.getD (a + (i : Int)).toNat 0) = 0)) with hb6 | hb6
   ·refine TL.known 42 hb6 rfl ?_
    have hb6' := hb6
    replace hb6' := of_decide_eq_true hb6'
    refine TL.rl [(49, (pB true))] [] ?_
    refine T.ct ?_
    refine T.sr [(4, (pI 0)), (5, (pI 0)), (6, (pI 2))] [] ?_
    refine T.ret ?_
    exact p_124
   refine TL.known 42 hb6 rfl ?_
   have hb6' := hb6
   replace hb6' := of_decide_eq_false hb6'
   refine TL.rx 3 [(45, (pB (decide ((i : Int) = 8))))] [] ?_
   rcases Bool.eq_false_or_eq_true (decide ((i : Int) = 8)) with hb7 | hb7
   ·refine TL.known 45 hb7 rfl ?_
    have hb7' := hb7
    replace hb7' := of_decide_eq_true hb7'
    refine TL.rl [(49, (pB (decide (128 ≤ (b.getD (a + (i : Int)).toNat 0)))))] [] ?_
    refine T.ci rfl (fun h8 => ?_) (fun h8 => ?_)
    ·refine T.sr [(4, (pI 0)), (5, (pI 0)), (6, (pI 2))] [] ?_
     refine T.ret ?_
     exact p_124
    refine T.skip (T.sg ?_)
    refine TL.rx 2 [(50, (pI n)), (51, (pI (b.getD (a + (i : Int)).toNat 0)))] [] ?_
    refine TL.c (Step.bin (r := .int .i64 ((b.getD (a + (i : Int)).toNat 0) % 128)) rfl rfl (lt_ok rfl) rfl rfl (Bin.rem (k := .i64) (a := (b.getD (a + (i : Int)).toNat 0)) (b := 128) (by decide) (Int.tmod_eq_emod_of_nonneg p_17))) ?_
    refine TL.rx 1 [(53, (pI (128 ^ i)))] [] ?_
    refine TL.ml (((b.getD (a + (i : Int)).toNat 0) % 128) * (128 ^ i)) ?_
    refine TL.ad (n + (((b.getD (a + (i : Int)).toNat 0) % 128) * (128 ^ i))) ?_
    refine TL.rl [(7, (pI (n + (((b.getD (a + (i : Int)).toNat 0) % 128) * (128 ^ i)))))] [] ?_
    refine T.seq ?_
    refine T.sr [(57, (pB (decide ((b.getD (a + (i : Int)).toNat 0) < 128))))] [] ?_
    refine T.ci rfl (fun h9 => ?_) (fun h9 => ?_)
    ·refine T.seq ?_
     refine T.sr [(59, (pB (decide (1152921504606846975 < (n + (((b.getD (a + (i : Int)).toNat 0) % 128) * (128 ^ i)))))))] [] ?_
     refine T.ci rfl (fun h10 => ?_) (fun h10 => ?_)
     ·refine T.sr [(4, (pI 0)), (5, (pI 0)), (6, (pI 2))] [] ?_
      refine T.ret ?_
      exact p_124
     refine T.skip (T.sg ?_)
     refine TL.rx 3 [(60, (pI (n + (((b.getD (a + (i : Int)).toNat 0) % 128) * (128 ^ i))))), (61, (pI a)), (62, (pI (i : Int)))] [] ?_
     refine TL.ad (a + (i : Int)) ?_
     refine TL.ad ((a + (i : Int)) + 1) ?_
     refine TL.rl [(4, (pI (n + (((b.getD (a + (i : Int)).toNat 0) % 128) * (128 ^ i))))), (5, (pI ((a + (i : Int)) + 1))), (6, (pI 0))] [] ?_
     refine T.ret ?_
     exact p_124
    refine T.skip (T.region ?_)
    refine TL.rx 1 [(65, (pI (128 ^ i)))] [] ?_
    refine TL.c (Step.bin (r := .int .i64 (128 ^ (i + 1))) rfl rfl (lt_ok rfl) rfl rfl (Bin.mul (a := (128 ^ i)) (b := 128) p_105)) ?_
    refine TL.rl [(8, (pI (128 ^ (i + 1))))] [] ?_
    refine T.region ?_
    refine TL.rx 1 [(21, (pI (i : Int)))] [] ?_
    refine TL.ad ((i : Int) + 1) ?_
    refine TL.rl [(9, (pI ((i : Int) + 1)))] [] ?_
    refine ⟨(i + 1, n + (((b.getD (a + (i : Int)).toNat 0) % 128) * (128 ^ i))), by (try dsimp only); (refine ⟨by omega, by omega, by rw [Int.pow_succ]; omega, ?_⟩; exact (gvGo_next (n := n) p_4 p_4 p_4 p_4).symm.trans hx4), by (dsimp only; omega), Env.le_mk ⟨rfl, rfl, ?_, ?_, ?_, trivial⟩ trivial trivial⟩ <;> exact p_22
   refine TL.known 45 hb7 rfl ?_
   have hb7' := hb7
   replace hb7' := of_decide_eq_false hb7'
   refine TL.rl [(49, (pB false))] [] ?_
   refine T.cf (T.skip (T.sg ?_))
   refine TL.rx 2 [(50, (pI n)), (51, (pI (b.getD (a + (i : Int)).toNat 0)))] [] ?_
   refine TL.c (Step.bin (r := .int .i64 ((b.getD (a + (i : Int)).toNat 0) % 128)) rfl rfl (lt_ok rfl) rfl rfl (Bin.rem (k := .i64) (a := (b.getD (a + (i : Int)).toNat 0)) (b := 128) (by decide) (Int.tmod_eq_emod_of_nonneg p_17))) ?_
   refine TL.rx 1 [(53, (pI (128 ^ i)))] [] ?_
   refine TL.ml (((b.getD (a + (i : Int)).toNat 0) % 128) * (128 ^ i)) ?_
   refine TL.ad (n + (((b.getD (a + (i : Int)).toNat 0) % 128) * (128 ^ i))) ?_
   refine TL.rl [(7, (pI (n + (((b.getD (a + (i : Int)).toNat 0) % 128) * (128 ^ i)))))] [] ?_
   refine T.seq ?_
   refine T.sr [(57, (pB (decide ((b.getD (a + (i : Int)).toNat 0) < 128))))] [] ?_
   refine T.ci rfl (fun h11 => ?_) (fun h11 => ?_)
   ·refine T.seq ?_
    refine T.sr [(59, (pB (decide (1152921504606846975 < (n + (((b.getD (a + (i : Int)).toNat 0) % 128) * (128 ^ i)))))))] [] ?_
    refine T.ci rfl (fun h12 => ?_) (fun h12 => ?_)
    ·refine T.sr [(4, (pI 0)), (5, (pI 0)), (6, (pI 2))] [] ?_
     refine T.ret ?_
     exact p_124
    refine T.skip (T.sg ?_)
    refine TL.rx 3 [(60, (pI (n + (((b.getD (a + (i : Int)).toNat 0) % 128) * (128 ^ i))))), (61, (pI a)), (62, (pI (i : Int)))] [] ?_
    refine TL.ad (a + (i : Int)) ?_
    refine TL.ad ((a + (i : Int)) + 1) ?_
    refine TL.rl [(4, (pI (n + (((b.getD (a + (i : Int)).toNat 0) % 128) * (128 ^ i))))), (5, (pI ((a + (i : Int)) + 1))), (6, (pI 0))] [] ?_
    refine T.ret ?_
    exact p_124
   refine T.skip (T.region ?_)
   refine TL.rx 1 [(65, (pI (128 ^ i)))] [] ?_
   refine TL.c (Step.bin (r := .int .i64 (128 ^ (i + 1))) rfl rfl (lt_ok rfl) rfl rfl (Bin.mul (a := (128 ^ i)) (b := 128) p_105)) ?_
   refine TL.rl [(8, (pI (128 ^ (i + 1))))] [] ?_
   refine T.region ?_
   refine TL.rx 1 [(21, (pI (i : Int)))] [] ?_
   refine TL.ad ((i : Int) + 1) ?_
   refine TL.rl [(9, (pI ((i : Int) + 1)))] [] ?_
   refine ⟨(i + 1, n + (((b.getD (a + (i : Int)).toNat 0) % 128) * (128 ^ i))), by (try dsimp only); (refine ⟨by omega, by omega, by rw [Int.pow_succ]; omega, ?_⟩; exact (gvGo_next (n := n) p_4 p_4 p_4 p_4).symm.trans hx4), by (dsimp only; omega), Env.le_mk ⟨rfl, rfl, ?_, ?_, ?_, trivial⟩ trivial trivial⟩ <;> exact p_22
  refine TL.known 38 hb5 rfl ?_
  have hb5' := hb5
  replace hb5' := of_decide_eq_false hb5'
  refine TL.rx 7 [(42, (pB false)), (45, (pB (decide ((i : Int) = 8))))] [] ?_
  rcases Bool.eq_false_or_eq_true (decide ((i : Int) = 8)) with hb13 | hb13
  ·refine TL.known 45 hb13 rfl ?_
   have hb13' := hb13
   replace hb13' := of_decide_eq_true hb13'
   refine TL.rl [(49, (pB (decide (128 ≤ (b.getD (a + (i : Int)).toNat 0)))))] [] ?_
   refine T.ci rfl (fun h14 => ?_) (fun h14 => ?_)
   ·refine T.sr [(4, (pI 0)), (5, (pI 0)), (6, (pI 2))] [] ?_
    refine T.ret ?_
    exact p_124
   refine T.skip (T.sg ?_)
   refine TL.rx 2 [(50, (pI n)), (51, (pI (b.getD (a + (i : Int)).toNat 0)))] [] ?_
   refine TL.c (Step.bin (r := .int .i64 ((b.getD (a + (i : Int)).toNat 0) % 128)) rfl rfl (lt_ok rfl) rfl rfl (Bin.rem (k := .i64) (a := (b.getD (a + (i : Int)).toNat 0)) (b := 128) (by decide) (Int.tmod_eq_emod_of_nonneg p_17))) ?_
   refine TL.rx 1 [(53, (pI (128 ^ i)))] [] ?_
   refine TL.ml (((b.getD (a + (i : Int)).toNat 0) % 128) * (128 ^ i)) ?_
   refine TL.ad (n + (((b.getD (a + (i : Int)).toNat 0) % 128) * (128 ^ i))) ?_
   refine TL.rl [(7, (pI (n + (((b.getD (a + (i : Int)).toNat 0) % 128) * (128 ^ i)))))] [] ?_
   refine T.seq ?_
   refine T.sr [(57, (pB (decide ((b.getD (a + (i : Int)).toNat 0) < 128))))] [] ?_
   refine T.ci rfl (fun h15 => ?_) (fun h15 => ?_)
   ·refine T.seq ?_
    refine T.sr [(59, (pB (decide (1152921504606846975 < (n + (((b.getD (a + (i : Int)).toNat 0) % 128) * (128 ^ i)))))))] [] ?_
    refine T.ci rfl (fun h16 => ?_) (fun h16 => ?_)
    ·refine T.sr [(4, (pI 0)), (5, (pI 0)), (6, (pI 2))] [] ?_
     refine T.ret ?_
     exact p_124
    refine T.skip (T.sg ?_)
    refine TL.rx 3 [(60, (pI (n + (((b.getD (a + (i : Int)).toNat 0) % 128) * (128 ^ i))))), (61, (pI a)), (62, (pI (i : Int)))] [] ?_
    refine TL.ad (a + (i : Int)) ?_
    refine TL.ad ((a + (i : Int)) + 1) ?_
    refine TL.rl [(4, (pI (n + (((b.getD (a + (i : Int)).toNat 0) % 128) * (128 ^ i))))), (5, (pI ((a + (i : Int)) + 1))), (6, (pI 0))] [] ?_
    refine T.ret ?_
    exact p_124
   refine T.skip (T.region ?_)
   refine TL.rx 1 [(65, (pI (128 ^ i)))] [] ?_
   refine TL.c (Step.bin (r := .int .i64 (128 ^ (i + 1))) rfl rfl (lt_ok rfl) rfl rfl (Bin.mul (a := (128 ^ i)) (b := 128) p_105)) ?_
   refine TL.rl [(8, (pI (128 ^ (i + 1))))] [] ?_
   refine T.region ?_
   refine TL.rx 1 [(21, (pI (i : Int)))] [] ?_
   refine TL.ad ((i : Int) + 1) ?_
   refine TL.rl [(9, (pI ((i : Int) + 1)))] [] ?_
   refine ⟨(i + 1, n + (((b.getD (a + (i : Int)).toNat 0) % 128) * (128 ^ i))), by (try dsimp only); (refine ⟨by omega, by omega, by rw [Int.pow_succ]; omega, ?_⟩; exact (gvGo_next (n := n) p_4 p_4 p_4 p_4).symm.trans hx4), by (dsimp only; omega), Env.le_mk ⟨rfl, rfl, ?_, ?_, ?_, trivial⟩ trivial trivial⟩ <;> exact p_22
  refine TL.known 45 hb13 rfl ?_
  have hb13' := hb13
  replace hb13' := of_decide_eq_false hb13'
  refine TL.rl [(49, (pB false))] [] ?_
  refine T.cf (T.skip (T.sg ?_))
  refine TL.rx 2 [(50, (pI n)), (51, (pI (b.getD (a + (i : Int)).toNat 0)))] [] ?_
  refine TL.c (Step.bin (r := .int .i64 ((b.getD (a + (i : Int)).toNat 0) % 128)) rfl rfl (lt_ok rfl) rfl rfl (Bin.rem (k := .i64) (a := (b.getD (a + (i : Int)).toNat 0)) (b := 128) (by decide) (Int.tmod_eq_emod_of_nonneg p_17))) ?_
  refine TL.rx 1 [(53, (pI (128 ^ i)))] [] ?_
  refine TL.ml (((b.getD (a + (i : Int)).toNat 0) % 128) * (128 ^ i)) ?_
  refine TL.ad (n + (((b.getD (a + (i : Int)).toNat 0) % 128) * (128 ^ i))) ?_
  refine TL.rl [(7, (pI (n + (((b.getD (a + (i : Int)).toNat 0) % 128) * (128 ^ i)))))] [] ?_
  refine T.seq ?_
  refine T.sr [(57, (pB (decide ((b.getD (a + (i : Int)).toNat 0) < 128))))] [] ?_
  refine T.ci rfl (fun h17 => ?_) (fun h17 => ?_)
  ·refine T.seq ?_
   refine T.sr [(59, (pB (decide (1152921504606846975 < (n + (((b.getD (a + (i : Int)).toNat 0) % 128) * (128 ^ i)))))))] [] ?_
   refine T.ci rfl (fun h18 => ?_) (fun h18 => ?_)
   ·refine T.sr [(4, (pI 0)), (5, (pI 0)), (6, (pI 2))] [] ?_
    refine T.ret ?_
    exact p_124
   refine T.skip (T.sg ?_)
   refine TL.rx 3 [(60, (pI (n + (((b.getD (a + (i : Int)).toNat 0) % 128) * (128 ^ i))))), (61, (pI a)), (62, (pI (i : Int)))] [] ?_
   refine TL.ad (a + (i : Int)) ?_
   refine TL.ad ((a + (i : Int)) + 1) ?_
   refine TL.rl [(4, (pI (n + (((b.getD (a + (i : Int)).toNat 0) % 128) * (128 ^ i))))), (5, (pI ((a + (i : Int)) + 1))), (6, (pI 0))] [] ?_
   refine T.ret ?_
   exact p_124
  refine T.skip (T.region ?_)
  refine TL.rx 1 [(65, (pI (128 ^ i)))] [] ?_
  refine TL.c (Step.bin (r := .int .i64 (128 ^ (i + 1))) rfl rfl (lt_ok rfl) rfl rfl (Bin.mul (a := (128 ^ i)) (b := 128) p_105)) ?_
  refine TL.rl [(8, (pI (128 ^ (i + 1))))] [] ?_
  refine T.region ?_
  refine TL.rx 1 [(21, (pI (i : Int)))] [] ?_
  refine TL.ad ((i : Int) + 1) ?_
  refine TL.rl [(9, (pI ((i : Int) + 1)))] [] ?_
  refine ⟨(i + 1, n + (((b.getD (a + (i : Int)).toNat 0) % 128) * (128 ^ i))), by (try dsimp only); (refine ⟨by omega, by omega, by rw [Int.pow_succ]; omega, ?_⟩; exact (gvGo_next (n := n) p_4 p_4 p_4 p_4).symm.trans hx4), by (dsimp only; omega), Env.le_mk ⟨rfl, rfl, ?_, ?_, ?_, trivial⟩ trivial trivial⟩ <;> exact p_22
 refine T.exit ?_
 refine T.sr [(4, (pI 0)), (5, (pI 0)), (6, (pI 2))] [] ?_
 refine T.ret ?_
 exact p_124
theorem ok_spec_l11Var (b : List Int) (s : SRS) (h0_ : U8s b) (h1_ : b.length ≤ 1048576) : BX Tryz.prog 60 [.bx] 62 [.rd (.ints .u8 b), .rd (.int .i64 s.f0), .rd (.int .i64 s.f1)] [.rd (.ints .u8 b), .rd (.int .i64 (ab b s).1.f0), .rd (.int .i64 (ab b s).1.f1)] [(false, [.rd (.int .i64 (ab b s).2)])] := by
 refine BX.intro Tryz.func60 rfl 33 rfl (le_ok rfl) (le_ok rfl) fun w Z IX pin hp => ?_
 refine T.sr [(2, (pI 0))] [] ?_
 refine T.seq ?_
 refine T.sr [(10, (pB (decide (s.f1 ≠ 0))))] [] ?_
 refine T.ci rfl (fun h1 => ?_) (fun h1 => ?_)
 ·refine T.sr [(2, (pI 0))] [] ?_
  refine T.ret ?_
  exact p_147
 refine T.skip (T.seq ?_)
 have nn2 := @getVar_bd b p_3 s.f0
 refine T.draw [⟨12, (.one (.ptr 800 0)), []⟩, ⟨13, (.one (.ptr 800 0)), []⟩, ⟨14, (.one (.ptr 800 0)), []⟩, ⟨15, (pS b), []⟩, ⟨16, (.one (.ptr 800 0)), []⟩, ⟨17, (.one (.ptr 800 0)), []⟩, ⟨18, (.one (.ptr 800 1)), []⟩, ⟨19, (pI s.f0), []⟩, ⟨20, (.tup [(false, [cI (getVar b s.f0).1]), (false, [cI (getVar b s.f0).2.1]), (false, [cI (getVar b s.f0).2.2])]), []⟩, ⟨11, (.tup [(false, [cI (getVar b s.f0).1]), (false, [cI (getVar b s.f0).2.1]), (false, [cI (getVar b s.f0).2.2])]), []⟩, ⟨21, (pI (getVar b s.f0).1), []⟩, ⟨22, (pI (getVar b s.f0).2.1), []⟩, ⟨23, (pI (getVar b s.f0).2.2), []⟩, ⟨3, (pI (getVar b s.f0).1), []⟩, ⟨4, (pI (getVar b s.f0).2.1), []⟩, ⟨5, (pI (getVar b s.f0).2.2), []⟩] p_6 p_6 ?_ ?_
 ·refine .cons (fun E A => A.mv 0 12) ?_
  refine .cons (fun E A => OpStep.plain rfl (Step.nilCheck (t := 13) rfl rfl p_21 (A.g 12 rfl))) ?_
  refine .cons (fun E A => OpStep.plain rfl (Step.fa (off := 0) (n := 1) (one := true) 0 14 (A.g 13 rfl))) ?_
  refine .cons (fun E A => OpStep.plain rfl (Step.load_box (c := cS b) (t := 15) rfl rfl p_21 p_6 (A.g 14 rfl) (by exact A.box rfl) rfl)) ?_
  refine .cons (fun E A => A.mv 0 16) ?_
  refine .cons (fun E A => OpStep.plain rfl (Step.nilCheck (t := 17) rfl rfl p_21 (A.g 16 rfl))) ?_
  refine .cons (fun E A => OpStep.plain rfl (Step.fa (off := 1) (n := 1) (one := true) 0 18 (A.g 17 rfl))) ?_
  refine .cons (fun E A => OpStep.plain rfl (Step.load_box (c := cI s.f0) (t := 19) rfl rfl p_21 p_6 (A.g 18 rfl) (by exact A.box rfl) rfl)) ?_
  refine .cons (fun E A => OpStep.plain rfl (Step.call (f := 99) (xs := [.tmp 15, .tmp 19]) (ps := [(pS b), (pI s.f0)]) false (g := .func 99) (t := 20) rfl rfl p_21 rfl p_6 (evs_cons (A.g 15 rfl) (evs_cons (A.g 19 rfl) (rfl))) (.cons (.one (.d _)) (.cons (.one (.d _)) .nil)) (ok_spec_GetVar b s.f0 p_3 p_0) (.inr rfl) (At.freshRows A rfl) (fun x hx => by have := hp x hx; omega) rfl)) ?_
  refine .cons (fun E A => A.mv 20 11) ?_
  refine .cons (fun E A => OpStep.plain rfl (Step.extract (p := (pI (getVar b s.f0).1)) (t := 21) rfl rfl p_21 (A.g 11 rfl) rfl)) ?_
  refine .cons (fun E A => OpStep.plain rfl (Step.extract (p := (pI (getVar b s.f0).2.1)) (t := 22) rfl rfl p_21 (A.g 11 rfl) rfl)) ?_
  refine .cons (fun E A => OpStep.plain rfl (Step.extract (p := (pI (getVar b s.f0).2.2)) (t := 23) rfl rfl p_21 (A.g 11 rfl) rfl)) ?_
  refine .cons (fun E A => A.as 21 3) ?_
  refine .cons (fun E A => A.as 22 4) ?_
  refine .cons (fun E A => A.as 23 5) ?_
  exact .nil _ _
 refine TL.nil ?_
 refine T.sr [] [(800, (62, [cS b, cI s.f0, cI (getVar b s.f0).2.2]))] ?_
 refine T.sr [] [(800, (62, [cS b, cI (getVar b s.f0).2.1, cI (getVar b s.f0).2.2]))] ?_
 refine T.sr [(2, (pI (getVar b s.f0).1))] [] ?_
 refine T.ret ?_
 exact p_147
theorem ok_spec_l01Copy (a : List Int) (h0_ : a.length ≤ 17592186044416) : RO Tryz.prog 128 [.one (.ints .u8 a)] [(false, [.own 5 (.ints .u8 a)])] := by
 refine RO.intro Tryz.func128 rfl 6 rfl (le_ok rfl) fun w Z => ?_
 refine T.bnd 0 0 rfl rfl fun hb_0_0 => ?_
 simp only [D.size, List.length_map] at hb_0_0
 refine T.sr [(2, (.one (.nil)))] [] ?_
 refine T.sg ?_
 refine TL.c (Step.lt 5 1 1 [] [] (.ints .u8 [])) ?_
 refine TL.rx 1 [(4, (pS a))] [] ?_
 refine TL.c (Step.ap 5 1 1 (.ints .u8 a) (.ints .u8 ([] ++ a)) (.froz rfl p_101)) ?_
 refine TL.rl [(2, (.one (.row 3 [])))] [] ?_
 refine T.ret ?_
 exact p_135
theorem ok_spec_GetRaw (b : List Int) (a : Int) (n : Int) (h0_ : b.length ≤ 1099511627776) : RO Tryz.prog 100 [.one (.ints .u8 b), .one (.int .i64 a), .one (.int .i64 n)] [(false, [.own 5 (.ints .u8 (av b a n).1)]), (false, [.rd (.int .i64 (av b a n).2.1)]), (false, [.rd (.int .i64 (av b a n).2.2)])] := by
 refine RO.intro Tryz.func100 rfl 39 rfl (le_ok rfl) fun w Z => ?_
 refine T.bnd 0 0 rfl rfl fun hb_0_0 => ?_
 simp only [D.size, List.length_map] at hb_0_0
 refine T.sr [(6, (.one (.nil))), (7, (pI 0)), (8, (pI 0))] [] ?_
 refine T.seq (T.sg ?_)
 refine TL.rx 3 [(11, (pB (decide (a < 0))))] [] ?_
 rcases Bool.eq_false_or_eq_true (decide (a < 0)) with hb1 | hb1
 ·refine TL.known 11 hb1 rfl ?_
  have hb1' := hb1
  replace hb1' := of_decide_eq_true hb1'
  refine TL.rl [(28, (pB true))] [] ?_
  refine T.ct ?_
  refine T.sr [(6, (.one (.nil))), (7, (pI 0)), (8, (pI 1))] [] ?_
  refine T.ret ?_
  exact p_138
 refine TL.known 11 hb1 rfl ?_
 have hb1' := hb1
 replace hb1' := of_decide_eq_false hb1'
 refine TL.rx 4 [(15, (pB (decide (n < 0))))] [] ?_
 rcases Bool.eq_false_or_eq_true (decide (n < 0)) with hb2 | hb2
 ·refine TL.known 15 hb2 rfl ?_
  have hb2' := hb2
  replace hb2' := of_decide_eq_true hb2'
  refine TL.rl [(28, (pB true))] [] ?_
  refine T.ct ?_
  refine T.sr [(6, (.one (.nil))), (7, (pI 0)), (8, (pI 1))] [] ?_
  refine T.ret ?_
  exact p_138
 refine TL.known 15 hb2 rfl ?_
 have hb2' := hb2
 replace hb2' := of_decide_eq_false hb2'
 refine TL.rx 2 [(16, (pI a)), (17, (pS b))] [] ?_
 refine TL.gy 15 (Step.ln 5 1 (.ints .u8 b)) ?_
 refine TL.rx 3 [(21, (pB (decide ((b.length : Int) < a))))] [] ?_
 rcases Bool.eq_false_or_eq_true (decide ((b.length : Int) < a)) with hb3 | hb3
 ·refine TL.known 21 hb3 rfl ?_
  have hb3' := hb3
  replace hb3' := of_decide_eq_true hb3'
  refine TL.rl [(28, (pB true))] [] ?_
  refine T.ct ?_
  refine T.sr [(6, (.one (.nil))), (7, (pI 0)), (8, (pI 1))] [] ?_
  refine T.ret ?_
  exact p_138
 refine TL.known 21 hb3 rfl ?_
 have hb3' := hb3
 replace hb3' := of_decide_eq_false hb3'
 refine TL.rx 2 [(22, (pI n)), (23, (pS b))] [] ?_
 refine TL.gy 21 (Step.ln 5 1 (.ints .u8 b)) ?_
 refine TL.rx 1 [(25, (pI a))] [] ?_
 refine TL.gy 21 (Step.bin (r := .int .i64 ((b.length : Int) - a)) rfl rfl (lt_ok rfl) rfl rfl (Bin.sub (a := (b.length : Int)) (b := a) p_58)) ?_
 refine TL.rl [(28, (pB (decide (((b.length : Int) - a) < n))))] [] ?_
 refine T.ci rfl (fun h4 => ?_) (fun h4 => ?_)
 ·refine T.sr [(6, (.one (.nil))), (7, (pI 0)), (8, (pI 1))] [] ?_
  refine T.ret ?_
  exact p_138
 refine T.skip (T.sg ?_)
 refine TL.rx 4 [(29, (pS b)), (30, (pI a)), (31, (pI a)), (32, (pI n))] [] ?_
 refine TL.c (Step.bin (r := .int .i64 (a + n)) rfl rfl (lt_ok rfl) rfl rfl (Bin.add (a := a) (b := n) p_58)) ?_
 refine TL.c (Step.slice (e := 5) (z := 1) (l := (a).toNat) (h := (a + n).toNat) rfl rfl (lt_ok rfl) p_6 rfl rfl rfl ((.some (i := a) rfl p_95)) ((.some (i := (a + n)) rfl p_95)) p_95 (by simp only [D.size]; first | omega | (simp only [List.length_take, List.length_drop]; omega) | (simp; omega)) rfl) ?_
 refine TL.c (Step.cz (ok_spec_l01Copy ((b.drop (a).toNat).take ((a + n).toNat - (a).toNat)) p_110)) ?_
 refine TL.rx 2 [(36, (pI a)), (37, (pI n))] [] ?_
 refine TL.c (Step.bin (r := .int .i64 (a + n)) rfl rfl (lt_ok rfl) rfl rfl (Bin.add (a := a) (b := n) p_58)) ?_
 refine TL.rl [(6, (.one (.row 1035 []))), (7, (pI (a + n))), (8, (pI 0))] [] ?_
 refine T.ret ?_
 exact p_179
theorem ok_spec_l11Raw (b : List Int) (s : SRS) (h0_ : U8s b) (h1_ : b.length ≤ 1048576) : BX Tryz.prog 61 [.bx] 62 [.rd (.ints .u8 b), .rd (.int .i64 s.f0), .rd (.int .i64 s.f1)] [.rd (.ints .u8 b), .rd (.int .i64 (ae b s 32).1.f0), .rd (.int .i64 (ae b s 32).1.f1)] [(false, [.own 5 (.ints .u8 (ae b s 32).2)])] := by
 refine BX.intro Tryz.func61 rfl 33 rfl (le_ok rfl) (le_ok rfl) fun w Z IX pin hp => ?_
 refine T.sr [(2, (.one (.nil)))] [] ?_
 refine T.seq ?_
 refine T.sr [(10, (pB (decide (s.f1 ≠ 0))))] [] ?_
 refine T.ci rfl (fun h1 => ?_) (fun h1 => ?_)
 ·refine T.sr [(2, (.one (.nil)))] [] ?_
  refine T.ret ?_
  exact p_181
 refine T.skip (T.seq ?_)
 have nn2 := getRaw_bd b s.f0 32
 refine T.draw [⟨12, (.one (.ptr 800 0)), []⟩, ⟨13, (.one (.ptr 800 0)), []⟩, ⟨14, (.one (.ptr 800 0)), []⟩, ⟨15, (pS b), []⟩, ⟨16, (.one (.ptr 800 0)), []⟩, ⟨17, (.one (.ptr 800 0)), []⟩, ⟨18, (.one (.ptr 800 1)), []⟩, ⟨19, (pI s.f0), []⟩, ⟨20, (.tup [(false, [.row 1020 []]), (false, [cI (av b s.f0 32).2.1]), (false, [cI (av b s.f0 32).2.2])]), [(1020, (5, (.ints .u8 (av b s.f0 32).1)))]⟩, ⟨11, (.tup [(false, [.row 1020 []]), (false, [cI (av b s.f0 32).2.1]), (false, [cI (av b s.f0 32).2.2])]), []⟩, ⟨21, (.one (.row 1020 [])), []⟩, ⟨22, (pI (av b s.f0 32).2.1), []⟩, ⟨23, (pI (av b s.f0 32).2.2), []⟩, ⟨3, (.one (.row 1020 [])), []⟩, ⟨4, (pI (av b s.f0 32).2.1), []⟩, ⟨5, (pI (av b s.f0 32).2.2), []⟩] p_6 p_6 ?_ ?_
 ·refine .cons (fun E A => A.mv 0 12) ?_
  refine .cons (fun E A => OpStep.plain rfl (Step.nilCheck (t := 13) rfl rfl p_21 (A.g 12 rfl))) ?_
  refine .cons (fun E A => OpStep.plain rfl (Step.fa (off := 0) (n := 1) (one := true) 0 14 (A.g 13 rfl))) ?_
  refine .cons (fun E A => OpStep.plain rfl (Step.load_box (c := cS b) (t := 15) rfl rfl p_21 p_6 (A.g 14 rfl) (by exact A.box rfl) rfl)) ?_
  refine .cons (fun E A => A.mv 0 16) ?_
  refine .cons (fun E A => OpStep.plain rfl (Step.nilCheck (t := 17) rfl rfl p_21 (A.g 16 rfl))) ?_
  refine .cons (fun E A => OpStep.plain rfl (Step.fa (off := 1) (n := 1) (one := true) 0 18 (A.g 17 rfl))) ?_
  refine .cons (fun E A => OpStep.plain rfl (Step.load_box (c := cI s.f0) (t := 19) rfl rfl p_21 p_6 (A.g 18 rfl) (by exact A.box rfl) rfl)) ?_
  refine .cons (fun E A => OpStep.plain rfl (Step.call (f := 100) (xs := [.tmp 15, .tmp 19, .const (.int .i64 32)]) (ps := [(pS b), (pI s.f0), (pI 32)]) false (g := .func 100) (t := 20) rfl rfl p_21 rfl p_6 (evs_cons (A.g 15 rfl) (evs_cons (A.g 19 rfl) (evs_cons rfl (rfl)))) (.cons (.one (.d _)) (.cons (.one (.d _)) (.cons (.one (.d _)) .nil))) (ok_spec_GetRaw b s.f0 32 p_0) (.inr rfl) (At.freshRows A rfl) (fun x hx => by have := hp x hx; omega) rfl)) ?_
  refine .cons (fun E A => A.mv 20 11) ?_
  refine .cons (fun E A => OpStep.plain rfl (Step.extract (p := (.one (.row 1020 []))) (t := 21) rfl rfl p_21 (A.g 11 rfl) rfl)) ?_
  refine .cons (fun E A => OpStep.plain rfl (Step.extract (p := (pI (av b s.f0 32).2.1)) (t := 22) rfl rfl p_21 (A.g 11 rfl) rfl)) ?_
  refine .cons (fun E A => OpStep.plain rfl (Step.extract (p := (pI (av b s.f0 32).2.2)) (t := 23) rfl rfl p_21 (A.g 11 rfl) rfl)) ?_
  refine .cons (fun E A => A.as 21 3) ?_
  refine .cons (fun E A => A.as 22 4) ?_
  refine .cons (fun E A => A.as 23 5) ?_
  exact .nil _ _
 refine TL.nil ?_
 refine T.sr [] [(800, (62, [cS b, cI s.f0, cI (av b s.f0 32).2.2]))] ?_
 refine T.sr [] [(800, (62, [cS b, cI (av b s.f0 32).2.1, cI (av b s.f0 32).2.2]))] ?_
 refine T.sr [(2, (.one (.row 1020 [])))] [] ?_
 refine T.ret ?_
 exact p_184
theorem ok_spec_GetVote (l : SLimits) (b : List Int) (a : Int) (h0_ : U8s b) (h1_ : b.length ≤ 1048576) : RO Tryz.prog 18 [.agg l.cells, .one (.ints .u8 b), .one (.int .i64 a)] [(true, [.rd (.int .i64 (aq l b a).1.f0), .rd (.int .i64 (aq l b a).1.f1), .own 5 (.ints .u8 (aq l b a).1.f2), .rd (.int .i64 (aq l b a).1.f3), .own 5 (.ints .u8 (aq l b a).1.f4)]), (false, [.rd (.int .i64 (aq l b a).2.1)]), (false, [.rd (.int .i64 (aq l b a).2.2)])] := by
 refine RO.intro Tryz.func18 rfl 52 rfl (le_ok rfl) fun w Z => ?_
 refine T.bnd 1 0 rfl rfl fun hb_1_0 => ?_
 simp only [D.size, List.length_map] at hb_1_0
 refine T.sr [(3, (.one (.ptr 3 0))), (6, (.one (.ptr 6 0))), (7, (pI 0)), (8, (pI 0))] [(3, (46, (c_3 l))), (6, (26, c_58))] ?_
 refine T.sg ?_
 refine TL.rx 3 [(11, (.agg (c_3 l))), (12, (pS b)), (13, (pI a))] [] ?_
 refine TL.c (Step.callN (f := 17) (xs := [.tmp 11, .tmp 12, .tmp 13]) (ps := [(.agg (c_3 l)), (pS b), (pI a)]) (T := 62) (ds := [(.ints .u8 b), (.int .i64 (rs0 l a).f0), (.int .i64 (rs0 l a).f1)]) (g := .func 17) rfl rfl (lt_ok rfl) rfl p_6 rfl (.cons (.agg (.cons (.d _) (.cons (.d _) (.cons (.d _) (.cons (.d _) (.cons (.d _) .nil)))))) (.cons (.one (.d _)) (.cons (.one (.d _)) .nil))) (ok_spec_l11New l b a) rfl) ?_
 refine TL.rl [(9, (.one (.ptr 14 0)))] [] ?_
 refine T.sg ?_
 refine TL.rx 1 [(15, (.one (.ptr 14 0)))] [] ?_
 have nn1 := @ay b p_3 (rs0 l a)
 refine TL.c (Step.x2 14 (ok_spec_l11Var b (rs0 l a) p_3 p_0)) ?_
 refine TL.rl [(10, (.one (.ptr 10 0)))] [(10, (26, [cI (ab b (rs0 l a)).2, cI 0, .nil, cI 0, .nil]))] ?_
 refine T.sg ?_
 refine TL.rx 1 [(18, (.one (.ptr 14 0)))] [] ?_
 have nn2 := @ay b p_3 (ab b (rs0 l a)).1
 refine TL.c (Step.x2 14 (ok_spec_l11Var b (ab b (rs0 l a)).1 p_3 p_0)) ?_
 refine TL.rl [] [(10, (26, [cI (ab b (rs0 l a)).2, cI (ab b (ab b (rs0 l a)).1).2, .nil, cI 0, .nil]))] ?_
 refine T.sg ?_
 refine TL.rx 1 [(21, (.one (.ptr 14 0)))] [] ?_
 have nn3 := rdRaw_len b (ab b (ab b (rs0 l a)).1).1 32
 refine TL.c (Step.x2 14 (ok_spec_l11Raw b (ab b (ab b (rs0 l a)).1).1 p_3 p_0)) ?_
 refine TL.rl [] [(10, (26, [cI (ab b (rs0 l a)).2, cI (ab b (ab b (rs0 l a)).1).2, .row 4022 [], cI 0, .nil]))] ?_
 refine T.sg ?_
 refine TL.rx 1 [(24, (.one (.ptr 14 0)))] [] ?_
 have nn4 := @ay b p_3 (ae b (ab b (ab b (rs0 l a)).1).1 32).1
 refine TL.c (Step.x2 14 (ok_spec_l11Var b (ae b (ab b (ab b (rs0 l a)).1).1 32).1 p_3 p_0)) ?_
 refine TL.rl [] [(10, (26, [cI (ab b (rs0 l a)).2, cI (ab b (ab b (rs0 l a)).1).2, .row 4022 [], cI (ab b (ae b (ab b (ab b (rs0 l a)).1).1 32).1).2, .nil]))] ?_
 refine T.sg ?_
 refine TL.rx 6 [(27, (.one (.ptr 14 0))), (32, (pB (decide (l.f0 ≤ (ab b (ae b (ab b (ab b (rs0 l a)).1).1 32).1).2))))] [] ?_
 refine TL.c (Step.x2 14 (ok_spec_l11Fail (decide ((ab b (ae b (ab b (ab b (rs0 l a)).1).1 32).1).2 < l.f0)) b (ab b (ae b (ab b (ab b (rs0 l a)).1).1 32).1).1 (decide (l.f0 ≤ (ab b (ae b (ab b (ab b (rs0 l a)).1).1 32).1).2)) 5 p_3 p_0 p_15)) ?_
 refine TL.nil (T.sg ?_)
 refine TL.rx 1 [(34, (.one (.ptr 14 0)))] [] ?_
 have nn5 := rdRaw_len b (ac (ab b (ae b (ab b (ab b (rs0 l a)).1).1 32).1).1 (decide ((ab b (ae b (ab b (ab b (rs0 l a)).1).1 32).1).2 < l.f0)) 5) 32
 refine TL.c (Step.x2 14 (ok_spec_l11Raw b (ac (ab b (ae b (ab b (ab b (rs0 l a)).1).1 32).1).1 (decide ((ab b (ae b (ab b (ab b (rs0 l a)).1).1 32).1).2 < l.f0)) 5) p_3 p_0)) ?_
 refine TL.rl [] [(10, (26, (c_29 a b l)))] ?_
 refine T.seq ?_
 refine T.sr [(41, (pB (decide ((ae b (ac (ab b (ae b (ab b (ab b (rs0 l a)).1).1 32).1).1 (decide ((ab b (ae b (ab b (ab b (rs0 l a)).1).1 32).1).2 < l.f0)) 5) 32).1.f1 ≠ 0))))] [] ?_
 refine T.ci rfl (fun h6 => ?_) (fun h6 => ?_)
 ·refine T.seq ?_
  refine T.drawX [{ dst := some 42, pv := (.agg c_58) }, { dst := some 43, pv := (.one (.ptr 14 0)) }, { dst := some 44, pv := (.one (.ptr 14 0)) }, { dst := some 45, pv := (.one (.ptr 14 2)) }, { dst := some 46, pv := (pI (ae b (ac (ab b (ae b (ab b (ab b (rs0 l a)).1).1 32).1).1 (decide ((ab b (ae b (ab b (ab b (rs0 l a)).1).1 32).1).2 < l.f0)) 5) 32).1.f1) }, { box := some (6, (26, c_58)) }, { dst := some 7, pv := (pI 0) }, { dst := some 8, pv := (pI (ae b (ac (ab b (ae b (ab b (ab b (rs0 l a)).1).1 32).1).1 (decide ((ab b (ae b (ab b (ab b (rs0 l a)).1).1 32).1).2 < l.f0)) 5) 32).1.f1) }] p_6 p_6 ?_ ?_
  ·refine .sk 8 ?_
   exact .nil _ _
  refine TL.wk [(6, (.one (.ptr 6 0))), (7, (pI 0)), (8, (pI (ae b (ac (ab b (ae b (ab b (ab b (rs0 l a)).1).1 32).1).1 (decide ((ab b (ae b (ab b (ab b (rs0 l a)).1).1 32).1).2 < l.f0)) 5) 32).1.f1)), (9, (.one (.ptr 14 0))), (10, (.one (.ptr 10 0)))] [(4022, (5, (.ints .u8 (ae b (ab b (ab b (rs0 l a)).1).1 32).2))), (4035, (5, (.ints .u8 (ae b (ac (ab b (ae b (ab b (ab b (rs0 l a)).1).1 32).1).1 (decide ((ab b (ae b (ab b (ab b (rs0 l a)).1).1 32).1).2 < l.f0)) 5) 32).2)))] [(3, (46, (c_3 l))), (6, (26, c_58)), (14, (62, (c_41 a b l))), (10, (26, (c_29 a b l)))] ?_
  refine TL.nil (T.ret ?_)
  exact p_146
 refine T.skip (T.seq ?_)
 refine T.drawX [{ dst := some 47, pv := (.agg (c_29 a b l)) }, { dst := some 48, pv := (.one (.ptr 14 0)) }, { dst := some 49, pv := (.one (.ptr 14 0)) }, { dst := some 50, pv := (.one (.ptr 14 1)) }, { dst := some 51, pv := (pI (ae b (ac (ab b (ae b (ab b (ab b (rs0 l a)).1).1 32).1).1 (decide ((ab b (ae b (ab b (ab b (rs0 l a)).1).1 32).1).2 < l.f0)) 5) 32).1.f0) }, { box := some (6, (26, (c_29 a b l))) }, { dst := some 7, pv := (pI (ae b (ac (ab b (ae b (ab b (ab b (rs0 l a)).1).1 32).1).1 (decide ((ab b (ae b (ab b (ab b (rs0 l a)).1).1 32).1).2 < l.f0)) 5) 32).1.f0) }, { dst := some 8, pv := (pI 0) }] p_6 p_6 ?_ ?_
 ·refine .sk 8 ?_
  exact .nil _ _
 refine TL.wk [(6, (.one (.ptr 6 0))), (7, (pI (ae b (ac (ab b (ae b (ab b (ab b (rs0 l a)).1).1 32).1).1 (decide ((ab b (ae b (ab b (ab b (rs0 l a)).1).1 32).1).2 < l.f0)) 5) 32).1.f0)), (8, (pI 0))] [(4022, (5, (.ints .u8 (ae b (ab b (ab b (rs0 l a)).1).1 32).2))), (4035, (5, (.ints .u8 (ae b (ac (ab b (ae b (ab b (ab b (rs0 l a)).1).1 32).1).1 (decide ((ab b (ae b (ab b (ab b (rs0 l a)).1).1 32).1).2 < l.f0)) 5) 32).2)))] [(3, (46, (c_3 l))), (6, (26, (c_29 a b l))), (14, (62, (c_41 a b l))), (10, (26, (c_29 a b l)))] ?_
 refine TL.nil (T.ret ?_)
 exact p_162
theorem ok_spec_BitsSize (n : Int) (h0_ : n ≤ 9223372036854775807) : RO Tryz.prog 101 [.one (.int .i64 n)] [(false, [.rd (.int .i64 (bitsSize n))])] := by
 refine RO.intro Tryz.func101 rfl 9 rfl (le_ok rfl) fun w Z => ?_
 refine T.sr [(2, (pI 0))] [] ?_
 refine T.seq ?_
 refine T.sr [(4, (pB (decide (n < 1))))] [] ?_
 refine T.ci rfl (fun h1 => ?_) (fun h1 => ?_)
 ·refine T.sr [(2, (pI 0))] [] ?_
  refine T.ret ?_
  exact p_168
 refine T.skip (T.sg ?_)
 refine TL.rx 1 [(5, (pI n))] [] ?_
 refine TL.sb (n - 1) ?_
 refine TL.c (Step.bin (r := .int .i64 ((n - 1) / 8)) rfl rfl (lt_ok rfl) rfl rfl (Bin.quo (k := .i64) (a := (n - 1)) (b := 8) (by decide) (by rw [Int.tdiv_eq_ediv_of_nonneg (by first | omega | (simp; omega))]; exact wrap_ok (by first | omega | (simp; omega)) (by first | omega | (simp; omega))))) ?_
 refine TL.ad (((n - 1) / 8) + 1) ?_
 refine TL.rl [(2, (pI (((n - 1) / 8) + 1)))] [] ?_
 refine T.ret ?_
 exact p_168
theorem ok_spec_BitsHas (b : List Int) (i : Int) (h0_ : U8s b) (h1_ : b.length ≤ 17592186044416) (h2_ : i ≤ 9223372036854775807) : RO Tryz.prog 129 [.one (.ints .u8 b), .one (.int .i64 i)] [(false, [.rd (.bool (bitHas b i))])] := by
 refine RO.intro Tryz.func129 rfl 27 rfl (le_ok rfl) fun w Z => ?_
 refine T.bnd 0 0 rfl rfl fun hb_0_0 => ?_
 simp only [D.size, List.length_map] at hb_0_0
 have hu_ := getD_u8 h0_ (i / 8).toNat
 have hp_ := div_pow_bd hu_.1 hu_.2 (i % 8).toNat
 refine T.sr [(4, (pB false))] [] ?_
 refine T.sg ?_
 refine TL.rx 3 [(7, (pB (decide (0 ≤ i))))] [] ?_
 rcases Bool.eq_false_or_eq_true (decide (0 ≤ i)) with hb1 | hb1
 ·refine TL.known 7 hb1 rfl ?_
  have hb1' := hb1
  replace hb1' := of_decide_eq_true hb1'
  refine TL.rx 1 [(8, (pI i))] [] ?_
  refine TL.gy 7 (Step.bin (r := .int .i64 (i / 8)) rfl rfl (lt_ok rfl) rfl rfl (Bin.quo (k := .i64) (a := i) (b := 8) (by decide) p_73)) ?_
  refine TL.rx 1 [(10, (pS b))] [] ?_
  refine TL.gy 7 (Step.ln 5 1 (.ints .u8 b)) ?_
  refine TL.rx 3 [(14, (pB (decide ((i / 8) < (b.length : Int)))))] [] ?_
  rcases Bool.eq_false_or_eq_true (decide ((i / 8) < (b.length : Int))) with hb2 | hb2
  ·refine TL.known 14 hb2 rfl ?_
   have hb2' := hb2
   replace hb2' := of_decide_eq_true hb2'
   refine TL.rx 2 [(15, (pS b)), (16, (pI i))] [] ?_
   refine TL.gy 14 (Step.bin (r := .int .i64 (i / 8)) rfl rfl (lt_ok rfl) rfl rfl (Bin.quo (k := .i64) (a := i) (b := 8) (by decide) p_73)) ?_
   refine TL.gy 14 (Step.index (e := 5) (z := 1) (i := (i / 8)) rfl rfl (lt_ok rfl) p_6 rfl rfl rfl (lt_ok rfl) rfl p_71 (by simp only [D.size]; first | omega | exact hp_.1 | exact hp_.2 | (simp; omega))) ?_
   refine TL.gy 14 (Step.load (e := (.int .u8 (b.getD (i / 8).toNat 0))) rfl rfl (lt_ok rfl) p_6 rfl rfl) ?_
   refine TL.gy 14 (Step.conv (c := (b.getD (i / 8).toNat 0)) rfl rfl (lt_ok rfl) p_6 p_6 rfl (wrap_ok p_71 p_71)) ?_
   refine TL.rx 1 [(21, (pI i))] [] ?_
   refine TL.gy 14 (Step.bin (r := .int .i64 (i % 8)) rfl rfl (lt_ok rfl) rfl rfl (Bin.rem (k := .i64) (a := i) (b := 8) (by decide) (Int.tmod_eq_emod_of_nonneg p_71))) ?_
   refine TL.gy 14 (Step.bin (r := .int .i64 ((b.getD (i / 8).toNat 0) / 2 ^ ((i % 8)).toNat)) rfl rfl (lt_ok rfl) rfl rfl (Bin.shr (k := .i64) (k' := .i64) (a := (b.getD (i / 8).toNat 0)) (b := (i % 8)) p_71 (shr_ok p_71 (by show _ < ((64 : Nat) : Int); first | omega | exact hp_.1 | exact hp_.2 | (simp; omega))))) ?_
   refine TL.gy 14 (Step.bin (r := .int .i64 (((b.getD (i / 8).toNat 0) / 2 ^ ((i % 8)).toNat) % 2)) rfl rfl (lt_ok rfl) rfl rfl (Bin.rem (k := .i64) (a := ((b.getD (i / 8).toNat 0) / 2 ^ ((i % 8)).toNat)) (b := 2) (by decide) (Int.tmod_eq_emod_of_nonneg p_71))) ?_
   refine TL.rl [(4, (pB (decide ((((b.getD (i / 8).toNat 0) / 2 ^ ((i % 8)).toNat) % 2) = 1))))] [] ?_
   refine T.ret ?_
   exact p_158
  refine TL.known 14 hb2 rfl ?_
  have hb2' := hb2
  replace hb2' := of_decide_eq_false hb2'
  refine TL.rl [(4, (pB false))] [] ?_
  refine T.ret ?_
  exact p_158
 refine TL.known 7 hb1 rfl ?_
 have hb1' := hb1
 replace hb1' := of_decide_eq_false hb1'
 refine TL.rl [(4, (pB false))] [] ?_
 refine T.ret ?_
 exact p_158
theorem ok_spec_BitsList (b : List Int) (h0_ : U8s b) (h1_ : b.length ≤ 1099511627776) : RO Tryz.prog 103 [.one (.ints .u8 b)] [(false, [.own 3 (.ints .i64 (bitList b))])] := by
 refine RO.intro Tryz.func103 rfl 21 rfl (le_ok rfl) fun w Z => ?_
 refine T.bnd 0 0 rfl rfl fun hb_0_0 => ?_
 simp only [D.size, List.length_map] at hb_0_0
 refine T.sr [(2, (.one (.nil)))] [] ?_
 refine T.sg ?_
 refine TL.c (Step.lt 3 1 8 [] [] (.ints .i64 [])) ?_
 refine TL.rl [(3, (.one (.row 5 [])))] [] ?_
 refine T.seq ?_
 refine T.sr [(4, (pI 0))] [] ?_
 refine T.block ?_
 refine T.loop (ι := Nat × (List Int)) (fun xx_ => { tm := [(0, (pS b)), (2, (.one (.nil))), (4, (pI ((xx_.1) : Int))), (3, (.one (.row 5 [])))], rows := [(5, (3, (.ints .i64 (xx_.2))))], boxes := [] }) (fun xx_ => (xx_.1) ≤ 8 * b.length ∧ (xx_.2) ++ bitsGo b (8 * b.length - (xx_.1)) (xx_.1) = bitList b ∧ (xx_.2).length ≤ (xx_.1)) (fun xx_ => 8 * b.length - (xx_.1)) (0, []) ?_ ?_ ?_
 · refine Env.le_mk ⟨rfl, rfl, ?_, rfl, trivial⟩ ⟨?_, trivial⟩ trivial <;> exact p_62
 · (dsimp only; refine ⟨Nat.zero_le _, rfl, Nat.zero_le _⟩)
 intro xx_ hx
 obtain ⟨i, o⟩ := xx_
 try dsimp only at hx ⊢
 obtain ⟨hx1, hx2, hx3⟩ := hx
 refine T.seq (T.sg ?_)
 refine TL.rx 2 [(6, (pI (i : Int))), (7, (pS b))] [] ?_
 refine TL.c (Step.ln 5 1 (.ints .u8 b)) ?_
 refine TL.ml (8 * (b.length : Int)) ?_
 refine TL.rl [(10, (pB (decide ((i : Int) < (8 * (b.length : Int))))))] [] ?_
 refine T.ci rfl (fun h1 => ?_) (fun h1 => ?_)
 ·refine T.skip (T.seq (T.block (T.sg ?_)))
  refine TL.rx 2 [(13, (pS b)), (14, (pI (i : Int)))] [] ?_
  refine TL.c (Step.cz (ok_spec_BitsHas b (i : Int) p_3 p_0 (by first | omega | (have := hn_ (by first | assumption | simpa using ‹(!bitsOk b n) = false›); omega)))) ?_
  refine TL.nil ?_
  refine T.cond (b := bitHas b (i : Int)) rfl (fun h2 => ?_) (fun h2 => ?_)
  ·refine T.region ?_
   refine TL.rx 2 [(16, (.one (.row 5 []))), (17, (pI (i : Int)))] [] ?_
   refine TL.c (Step.lt 3 1 8 [.tmp 17] [[cI (i : Int)]] (.ints .i64 [(i : Int)])) ?_
   refine TL.c (Step.ap 3 1 8 (.ints .i64 [(i : Int)]) (.ints .i64 (o ++ [(i : Int)])) (.copy rfl rfl rfl p_101)) ?_
   refine TL.rl [(3, (.one (.row 5 [])))] [] ?_
   refine T.region ?_
   refine TL.rx 1 [(11, (pI (i : Int)))] [] ?_
   refine TL.ad ((i : Int) + 1) ?_
   refine TL.rl [(4, (pI ((i : Int) + 1)))] [] ?_
   refine ⟨(i + 1, o ++ [(i : Int)]), by (refine ⟨by omega, ?_, by simp only [List.length_append, List.length_cons, List.length_nil]; omega⟩; rw [← hx2, bitsGo_next b (n := 8 * b.length) (i := i) p_4]; first | (rw [if_pos p_3]; simp only [List.append_assoc]; done) | (rw [if_neg (by simp [*])]; rfl)), by (dsimp only; omega), Env.le_mk ⟨rfl, rfl, ?_, rfl, trivial⟩ ⟨?_, trivial⟩ trivial⟩ <;> exact p_62
  refine T.skip (T.region ?_)
  refine TL.rx 1 [(11, (pI (i : Int)))] [] ?_
  refine TL.ad ((i : Int) + 1) ?_
  refine TL.rl [(4, (pI ((i : Int) + 1)))] [] ?_
  refine ⟨(i + 1, o), by (refine ⟨by omega, ?_, by simp only [List.length_append, List.length_cons, List.length_nil]; omega⟩; rw [← hx2, bitsGo_next b (n := 8 * b.length) (i := i) p_4]; first | (rw [if_pos p_3]; simp only [List.append_assoc]; done) | (rw [if_neg (by simp [*])]; rfl)), by (dsimp only; omega), Env.le_mk ⟨rfl, rfl, ?_, rfl, trivial⟩ ⟨rfl, trivial⟩ trivial⟩ <;> exact p_62
 refine T.exit ?_
 refine T.sr [(2, (.one (.row 5 [])))] [] ?_
 refine T.ret ?_
 exact p_177
theorem ok_spec_BitsOk (b : List Int) (n : Int) (h0_ : U8s b) (h1_ : b.length ≤ 1099511627776) : RO Tryz.prog 102 [.one (.ints .u8 b), .one (.int .i64 n)] [(false, [.rd (.bool (bitsOk b n))])] := by
 refine RO.intro Tryz.func102 rfl 31 rfl (le_ok rfl) fun w Z => ?_
 refine T.bnd 0 0 rfl rfl fun hb_0_0 => ?_
 simp only [D.size, List.length_map] at hb_0_0
 refine T.sr [(4, (pB false))] [] ?_
 refine T.seq (T.sg ?_)
 refine TL.rx 1 [(6, (pI n))] [] ?_
 refine TL.c (Step.cz (ok_spec_l02Signers n)) ?_
 refine TL.rx 2 [(9, (pB (!(decide (1 ≤ n ∧ n ≤ 10)))))] [] ?_
 rcases Bool.eq_false_or_eq_true (!(decide (1 ≤ n ∧ n ≤ 10))) with hb1 | hb1
 ·refine TL.known 9 hb1 rfl ?_
  have hb1' := hb1
  replace hb1' : (decide (1 ≤ n ∧ n ≤ 10)) = false := by simpa only [Bool.not_eq_true', Bool.not_eq_false'] using hb1'
  replace hb1' := of_decide_eq_false hb1'
  refine TL.rl [(15, (pB true))] [] ?_
  refine T.ct ?_
  refine T.sr [(4, (pB false))] [] ?_
  refine T.ret ?_
  exact p_173
 refine TL.known 9 hb1 rfl ?_
 have hb1' := hb1
 replace hb1' : (decide (1 ≤ n ∧ n ≤ 10)) = true := by simpa only [Bool.not_eq_true', Bool.not_eq_false'] using hb1'
 replace hb1' := of_decide_eq_true hb1'
 refine TL.rx 1 [(10, (pS b))] [] ?_
 refine TL.gy 9 (Step.ln 5 1 (.ints .u8 b)) ?_
 refine TL.rx 1 [(12, (pI n))] [] ?_
 refine TL.gy 9 (Step.cz (ok_spec_BitsSize n p_0)) ?_
 refine TL.rl [(15, (pB (decide ((b.length : Int) ≠ (bitsSize n)))))] [] ?_
 refine T.ci rfl (fun h2 => ?_) (fun h2 => ?_)
 ·refine T.sr [(4, (pB false))] [] ?_
  refine T.ret ?_
  exact p_173
 refine T.skip (T.sg ?_)
 refine TL.rx 1 [(16, (pS b))] [] ?_
 have nn3 := bitList_len b
 refine TL.c (Step.cz (ok_spec_BitsList b p_3 p_0)) ?_
 refine TL.rl [(5, (.one (.row 1017 [])))] [] ?_
 refine T.sg ?_
 refine TL.rx 1 [(18, (.one (.row 1017 [])))] [] ?_
 refine TL.c (Step.ln 3 1 (.ints .i64 (bitList b))) ?_
 refine TL.rx 2 [(21, (pB (decide (((bitList b).length : Int) = 0))))] [] ?_
 rcases Bool.eq_false_or_eq_true (decide (((bitList b).length : Int) = 0)) with hb4 | hb4
 ·refine TL.known 21 hb4 rfl ?_
  have hb4' := hb4
  replace hb4' := of_decide_eq_true hb4'
  refine TL.rl [(4, (pB true))] [] ?_
  refine T.ret ?_
  exact p_173
 refine TL.known 21 hb4 rfl ?_
 have hb4' := hb4
 replace hb4' := of_decide_eq_false hb4'
 refine TL.rx 2 [(22, (.one (.row 1017 []))), (23, (.one (.row 1017 [])))] [] ?_
 refine TL.gy 21 (Step.ln 3 1 (.ints .i64 (bitList b))) ?_
 refine TL.gy 21 (Step.bin (r := .int .i64 (((bitList b).length : Int) - 1)) rfl rfl (lt_ok rfl) rfl rfl (Bin.sub (a := ((bitList b).length : Int)) (b := 1) p_99)) ?_
 refine TL.gy 21 (Step.index_row (e := 3) (z := 1) (i := (((bitList b).length : Int) - 1)) rfl rfl (lt_ok rfl) p_6 rfl rfl rfl rfl (lt_ok rfl) rfl p_17 p_112) ?_
 refine TL.gy 21 (Step.load_row (c := cI ((bitList b).getD (((bitList b).length : Int) - 1).toNat 0)) rfl rfl (lt_ok rfl) p_6 rfl rfl rfl) ?_
 refine TL.rl [(4, (pB (decide (((bitList b).getD (((bitList b).length : Int) - 1).toNat 0) < n))))] [] ?_
 refine T.ret ?_
 exact p_173
theorem ok_spec_GetBits (b : List Int) (a : Int) (n : Int) (h0_ : U8s b) (h1_ : b.length ≤ 1048576) : RO Tryz.prog 62 [.one (.ints .u8 b), .one (.int .i64 a), .one (.int .i64 n)] [(false, [.own 5 (.ints .u8 (ah b a n).1)]), (false, [.rd (.int .i64 (ah b a n).2.1)]), (false, [.rd (.int .i64 (ah b a n).2.2)])] := by
 refine RO.intro Tryz.func62 rfl 33 rfl (le_ok rfl) fun w Z => ?_
 refine T.bnd 0 0 rfl rfl fun hb_0_0 => ?_
 simp only [D.size, List.length_map] at hb_0_0
 have hu_ := getRaw_u8 h0_ a (bitsSize n)
 refine T.sr [(6, (.one (.nil))), (7, (pI 0)), (8, (pI 0))] [] ?_
 refine T.seq (T.sg ?_)
 refine TL.rx 1 [(12, (pI n))] [] ?_
 refine TL.c (Step.cz (ok_spec_l02Signers n)) ?_
 refine TL.rl [(14, (pB (!(decide (1 ≤ n ∧ n ≤ 10)))))] [] ?_
 refine T.cni rfl (fun h1 => ?_) (fun h1 => ?_)
 ·refine T.sr [(6, (.one (.nil))), (7, (pI 0)), (8, (pI 5))] [] ?_
  refine T.ret ?_
  exact p_139
 refine T.skip (T.sg ?_)
 refine TL.rx 3 [(16, (pS b)), (17, (pI a)), (18, (pI n))] [] ?_
 refine TL.c (Step.cz (ok_spec_BitsSize n p_0)) ?_
 have nn2 := getRaw_bd b a (bitsSize n)
 refine TL.c (Step.cz (ok_spec_GetRaw b a (bitsSize n) p_0)) ?_
 refine TL.rl [(9, (.one (.row 1020 []))), (10, (pI (av b a (bitsSize n)).2.1)), (11, (pI (av b a (bitsSize n)).2.2))] [] ?_
 refine T.seq ?_
 refine T.sr [(25, (pB (decide ((av b a (bitsSize n)).2.2 ≠ 0))))] [] ?_
 refine T.ci rfl (fun h3 => ?_) (fun h3 => ?_)
 ·refine T.sr [(6, (.one (.nil))), (7, (pI 0)), (8, (pI (av b a (bitsSize n)).2.2))] [] ?_
  refine T.ret ?_
  exact p_139
 refine T.skip (T.seq (T.sg ?_))
 refine TL.rx 2 [(27, (.one (.row 1020 []))), (28, (pI n))] [] ?_
 refine TL.c (Step.cz (ok_spec_BitsOk (av b a (bitsSize n)).1 n p_3 p_0)) ?_
 refine TL.rl [(30, (pB (!(bitsOk (av b a (bitsSize n)).1 n))))] [] ?_
 refine T.cn rfl (fun h4 => ?_) (fun h4 => ?_)
 ·refine T.sr [(6, (.one (.nil))), (7, (pI 0)), (8, (pI 4))] [] ?_
  refine T.ret ?_
  exact p_139
 refine T.skip ?_
 refine T.sr [(6, (.one (.row 1020 []))), (7, (pI (av b a (bitsSize n)).2.1)), (8, (pI 0))] [] ?_
 refine T.ret ?_
 exact p_182
theorem ok_spec_BitsCount (b : List Int) (h0_ : U8s b) (h1_ : b.length ≤ 1099511627776) : RO Tryz.prog 63 [.one (.ints .u8 b)] [(false, [.rd (.int .i64 ((bitList b).length : Int))])] := by
 refine RO.intro Tryz.func63 rfl 6 rfl (le_ok rfl) fun w Z => ?_
 refine T.bnd 0 0 rfl rfl fun hb_0_0 => ?_
 simp only [D.size, List.length_map] at hb_0_0
 refine T.sr [(2, (pI 0))] [] ?_
 refine T.sg ?_
 refine TL.rx 1 [(3, (pS b))] [] ?_
 have nn1 := bitList_len b
 refine TL.c (Step.cz (ok_spec_BitsList b p_3 p_0)) ?_
 refine TL.c (Step.ln 3 1 (.ints .i64 (bitList b))) ?_
 refine TL.rl [(2, (pI ((bitList b).length : Int)))] [] ?_
 refine T.ret ?_
 exact ⟨_, (.cons rfl .nil), rfl, _, (.r rfl .nil)⟩
theorem ok_spec_l12Get (b : List Int) (s : SRS) (l : SLimits) (h0_ : U8s b) (h1_ : b.length ≤ 1048576) : BX Tryz.prog 19 [.bx, .rd (.agg [(.int .i64 l.f0), (.int .i64 l.f1), (.int .i64 l.f2), (.int .i64 l.f3), (.int .i64 l.f4)])] 62 [.rd (.ints .u8 b), .rd (.int .i64 s.f0), .rd (.int .i64 s.f1)] [.rd (.ints .u8 b), .rd (.int .i64 (rdQc l b s).1.f0), .rd (.int .i64 (rdQc l b s).1.f1)] [(true, [.rd (.int .i64 (rdQc l b s).2.f0), .rd (.int .i64 (rdQc l b s).2.f1), .own 5 (.ints .u8 (rdQc l b s).2.f2), .own 5 (.ints .u8 (rdQc l b s).2.f3), .own 24 (.bss (rdQc l b s).2.f4)])] := by
 refine BX.intro Tryz.func19 rfl 64 rfl (le_ok rfl) (le_ok rfl) fun w Z IX pin hp => ?_
 refine T.sr [(3, (.one (.ptr 3 0))), (4, (.one (.ptr 4 0)))] [(3, (46, (c_3 l))), (4, (29, c_46))] ?_
 refine T.sg ?_
 refine TL.rx 1 [(10, (.one (.ptr 800 0)))] [] ?_
 have nn1 := @ay b p_3 s
 refine TL.c (Step.x2 800 (ok_spec_l11Var b s p_3 p_0)) ?_
 refine TL.rl [(5, (.one (.ptr 5 0)))] [(5, (29, [cI (ab b s).2, cI 0, .nil, .nil, .nil]))] ?_
 refine T.sg ?_
 refine TL.rx 1 [(13, (.one (.ptr 800 0)))] [] ?_
 have nn2 := @ay b p_3 (ab b s).1
 refine TL.c (Step.x2 800 (ok_spec_l11Var b (ab b s).1 p_3 p_0)) ?_
 refine TL.rl [] [(5, (29, [cI (ab b s).2, cI (ab b (ab b s).1).2, .nil, .nil, .nil]))] ?_
 refine T.sg ?_
 refine TL.rx 1 [(16, (.one (.ptr 800 0)))] [] ?_
 have nn3 := rdRaw_len b (ab b (ab b s).1).1 32
 refine TL.c (Step.x2 800 (ok_spec_l11Raw b (ab b (ab b s).1).1 p_3 p_0)) ?_
 refine TL.rl [] [(5, (29, (c_80 b s)))] ?_
 refine T.seq ?_
 refine T.sr [(23, (pB (decide ((ae b (ab b (ab b s).1).1 32).1.f1 = 0))))] [] ?_
 refine T.ci rfl (fun h4 => ?_) (fun h4 => ?_)
 ·refine T.seq ?_
  have nn5 := @getBits_u8 b p_3 (ae b (ab b (ab b s).1).1 32).1.f0 l.f0
  have nn6 := getBits_len b (ae b (ab b (ab b s).1).1 32).1.f0 l.f0
  refine T.drawX [{ dst := some 25, pv := (.one (.ptr 800 0)) }, { dst := some 26, pv := (.one (.ptr 800 0)) }, { dst := some 27, pv := (.one (.ptr 800 0)) }, { dst := some 28, pv := (pS b) }, { dst := some 29, pv := (.one (.ptr 800 0)) }, { dst := some 30, pv := (.one (.ptr 800 0)) }, { dst := some 31, pv := (.one (.ptr 800 1)) }, { dst := some 32, pv := (pI (ae b (ab b (ab b s).1).1 32).1.f0) }, { dst := some 33, pv := (.one (.ptr 3 0)) }, { dst := some 34, pv := (pI l.f0) }, { dst := some 35, pv := (.tup [(false, [.row 1035 []]), (false, (c_69 b l s)), (false, (c_70 b l s))]), rows := [(1035, (5, (.ints .u8 (ah b (ae b (ab b (ab b s).1).1 32).1.f0 l.f0).1)))] }, { dst := some 24, pv := (.tup [(false, [.row 1035 []]), (false, (c_69 b l s)), (false, (c_70 b l s))]) }, { dst := some 36, pv := (.one (.row 1035 [])) }, { dst := some 37, pv := (pI (ah b (ae b (ab b (ab b s).1).1 32).1.f0 l.f0).2.1) }, { dst := some 38, pv := (pI (ah b (ae b (ab b (ab b s).1).1 32).1.f0 l.f0).2.2) }, { dst := some 6, pv := (.one (.row 1035 [])) }, { dst := some 7, pv := (pI (ah b (ae b (ab b (ab b s).1).1 32).1.f0 l.f0).2.1) }, { dst := some 8, pv := (pI (ah b (ae b (ab b (ab b s).1).1 32).1.f0 l.f0).2.2) }] p_6 p_6 ?_ ?_
  ·refine .sk 10 ?_
   refine .cons (fun E A => OpStep.plain rfl (Step.call (f := 62) (xs := [.tmp 28, .tmp 32, .tmp 34]) (ps := [(pS b), (pI (ae b (ab b (ab b s).1).1 32).1.f0), (pI l.f0)]) false (g := .func 62) (t := 35) rfl rfl p_21 rfl p_6 (evs_cons (A.g 28) (evs_cons (A.g 32) (evs_cons (A.g 34) (rfl)))) (.cons (.one (.d _)) (.cons (.one (.d _)) (.cons (.one (.d _)) .nil))) (ok_spec_GetBits b (ae b (ab b (ab b s).1).1 32).1.f0 l.f0 p_3 p_0) (.inr rfl) (AtX.frs A) (fun x hx => by have := hp x hx; omega) rfl)) ?_
   refine .sk 7 ?_
   exact .nil _ _
  refine TL.wk [(0, (.one (.ptr 800 0))), (4, (.one (.ptr 4 0))), (5, (.one (.ptr 5 0))), (6, (.one (.row 1035 []))), (7, (pI (ah b (ae b (ab b (ab b s).1).1 32).1.f0 l.f0).2.1)), (8, (pI (ah b (ae b (ab b (ab b s).1).1 32).1.f0 l.f0).2.2))] [(4017, (5, (.ints .u8 (ae b (ab b (ab b s).1).1 32).2))), (1035, (5, (.ints .u8 (ah b (ae b (ab b (ab b s).1).1 32).1.f0 l.f0).1)))] [(800, (62, (c_65 b s))), (3, (46, (c_3 l))), (4, (29, c_46)), (5, (29, (c_80 b s)))] ?_
  refine TL.nil ?_
  refine T.sr [] [(800, (62, [cS b, cI (ae b (ab b (ab b s).1).1 32).1.f0, cI (ah b (ae b (ab b (ab b s).1).1 32).1.f0 l.f0).2.2]))] ?_
  refine T.sr [] [(800, (62, (c_54 b l s)))] ?_
  refine T.rr [] [(5, (29, [cI (ab b s).2, cI (ab b (ab b s).1).2, .row 4017 [], .row 1035 [], .nil]))] ?_
  refine T.seq (T.sg ?_)
  refine TL.rx 2 [(50, (.one (.row 1035 [])))] [] ?_
  have nn7 := bitList_len (ah b (ae b (ab b (ab b s).1).1 32).1.f0 l.f0).1
  refine TL.c (Step.call (f := 63) (xs := [.tmp 50]) (ps := [(.one (.row 1035 []))]) false (g := .func 63) rfl rfl (lt_ok rfl) rfl p_6 rfl (.cons (.one (.row rfl rfl rfl rfl)) .nil) (ok_spec_BitsCount (ah b (ae b (ab b (ab b s).1).1 32).1.f0 l.f0).1 (by first | assumption | exact fun x hx => by cases hx) p_116) (.inr rfl) rfl (fun x hx => by have := hp x hx; omega) rfl) ?_
  refine TL.rl [(9, (pI ((bitList (ah b (ae b (ab b (ab b s).1).1 32).1.f0 l.f0).1).length : Int)))] [] ?_
  refine T.block ?_
  refine T.nilrow 5 4 100504 24 29 (.bss []) [cI (ab b s).2, cI (ab b (ab b s).1).2, .row 4017 [], .row 1035 [], .nil] rfl rfl rfl (fun x hx => by have := hp x hx; omega) rfl rfl trivial ?_
  refine T.loop (ι := Nat) (fun xx_ => { tm := [(0, (.one (.ptr 800 0))), (4, (.one (.ptr 4 0))), (5, (.one (.ptr 5 0))), (9, (pI (((bitList (ah b (ae b (ab b (ab b s).1).1 32).1.f0 l.f0).1).length : Int) - (xx_ : Int))))], rows := [(4017, (5, (.ints .u8 (ae b (ab b (ab b s).1).1 32).2))), (1035, (5, (.ints .u8 (ah b (ae b (ab b (ab b s).1).1 32).1.f0 l.f0).1))), (100504, (24, (.bss (ao b (⟨(ah b (ae b (ab b (ab b s).1).1 32).1.f0 l.f0).2.1, (ah b (ae b (ab b (ab b s).1).1 32).1.f0 l.f0).2.2⟩ : SRS) xx_).2)))], boxes := [(800, (62, [cS b, cI (ao b (⟨(ah b (ae b (ab b (ab b s).1).1 32).1.f0 l.f0).2.1, (ah b (ae b (ab b (ab b s).1).1 32).1.f0 l.f0).2.2⟩ : SRS) xx_).1.f0, cI (ao b (⟨(ah b (ae b (ab b (ab b s).1).1 32).1.f0 l.f0).2.1, (ah b (ae b (ab b (ab b s).1).1 32).1.f0 l.f0).2.2⟩ : SRS) xx_).1.f1])), (3, (46, (c_3 l))), (4, (29, c_46)), (5, (29, [cI (ab b s).2, cI (ab b (ab b s).1).2, .row 4017 [], .row 1035 [], .row 100504 []]))] }) (fun xx_ => xx_ ≤ (bitList (ah b (ae b (ab b (ab b s).1).1 32).1.f0 l.f0).1).length) (fun xx_ => (bitList (ah b (ae b (ab b (ab b s).1).1 32).1.f0 l.f0).1).length - xx_) 0 ?_ ?_ ?_
  · refine Env.le_mk ⟨rfl, rfl, rfl, ?_, trivial⟩ ⟨rfl, rfl, ?_, trivial⟩ ⟨?_, rfl, rfl, rfl, trivial⟩ <;> exact p_67
  · exact Nat.zero_le _
  intro i hx
  try dsimp only at hx ⊢
  have hl_ := rdTags_len b (⟨(ah b (ae b (ab b (ab b s).1).1 32).1.f0 l.f0).2.1, (ah b (ae b (ab b (ab b s).1).1 32).1.f0 l.f0).2.2⟩ : SRS) i
  have hz_ : (bitList []).length = 0 := rfl
  have hn_ := bitList_len (ah b (ae b (ab b (ab b s).1).1 32).1.f0 l.f0).1
  refine T.seq ?_
  refine T.sr [(53, (pB (decide (0 < (((bitList (ah b (ae b (ab b (ab b s).1).1 32).1.f0 l.f0).1).length : Int) - (i : Int))))))] [] ?_
  refine T.ci rfl (fun h8 => ?_) (fun h8 => ?_)
  ·refine T.skip (T.seq (T.block ?_))
   have nn9 := rdRaw_len b (ao b (⟨(ah b (ae b (ab b (ab b s).1).1 32).1.f0 l.f0).2.1, (ah b (ae b (ab b (ab b s).1).1 32).1.f0 l.f0).2.2⟩ : SRS) i).1 32
   refine T.drawX [{ dst := some 56, pv := (.one (.ptr 5 4)) }, { dst := some 57, pv := (.one (.row 100504 [])) }, { dst := some 58, pv := (.one (.ptr 800 0)) }, { dst := some 59, pv := (.one (.row 4059 [])), rows := [(4059, (5, (.ints .u8 (ae b (ao b (⟨(ah b (ae b (ab b (ab b s).1).1 32).1.f0 l.f0).2.1, (ah b (ae b (ab b (ab b s).1).1 32).1.f0 l.f0).2.2⟩ : SRS) i).1 32).2)))], box := some (800, (62, (c_15 b i l s))) }, { dst := some 60, pv := (.one (.row 60 [])), rows := [(60, (24, (.bss [(ae b (ao b (⟨(ah b (ae b (ab b (ab b s).1).1 32).1.f0 l.f0).2.1, (ah b (ae b (ab b (ab b s).1).1 32).1.f0 l.f0).2.2⟩ : SRS) i).1 32).2])))], dead := [4059] }, { dst := some 61, pv := (.one (.row 500061 [])), rows := [(500061, (24, (.bss ((ao b (⟨(ah b (ae b (ab b (ab b s).1).1 32).1.f0 l.f0).2.1, (ah b (ae b (ab b (ab b s).1).1 32).1.f0 l.f0).2.2⟩ : SRS) i).2 ++ [(ae b (ao b (⟨(ah b (ae b (ab b (ab b s).1).1 32).1.f0 l.f0).2.1, (ah b (ae b (ab b (ab b s).1).1 32).1.f0 l.f0).2.2⟩ : SRS) i).1 32).2]))))], dead := [100504, 60] }, { dst := some 62, pv := (.one (.ptr 5 4)) }, { box := some (5, (29, [cI (ab b s).2, cI (ab b (ab b s).1).2, .row 4017 [], .row 1035 [], .row 500061 []])) }] p_6 p_6 ?_ ?_
   ·refine .sk 3 ?_
    refine .cons (fun E A => OpStep.plain rfl (Step.callXX2 (b := 800) (xs := [.tmp 58]) (ps := [(.one (.ptr 800 0))]) (bps := (c_44 b i l s)) (ss := []) (g := .func 61) (t := 59) (ok_spec_l11Raw b (ao b (⟨(ah b (ae b (ab b (ab b s).1).1 32).1.f0 l.f0).2.1, (ah b (ae b (ab b (ab b s).1).1 32).1.f0 l.f0).2.2⟩ : SRS) i).1 p_3 p_0) rfl rfl p_21 rfl p_6 (evs_cons (A.g 58) (rfl)) (.cons (.bx) .nil) (A.b 800 (x := (62, _))) (.rd (.rd (.rd .nil))) rfl (handX_fresh (fun x_ hx_ => A.fresh x_ (by exact hx_))) (fun x hx => by have := hp x hx; omega) rfl p_109)) ?_
    refine .cons (fun E A => OpStep.plain rfl (Step.litX (e := 24) (z := 1) (by_ := 24) (xs := [.tmp 59]) (pss := [[.row 4059 []]]) (es := [(.ints .u8 (ae b (ao b (⟨(ah b (ae b (ab b (ab b s).1).1 32).1.f0 l.f0).2.1, (ah b (ae b (ab b (ab b s).1).1 32).1.f0 l.f0).2.2⟩ : SRS) i).1 32).2)]) (ss := [4059]) (d := (.bss [(ae b (ao b (⟨(ah b (ae b (ab b (ab b s).1).1 32).1.f0 l.f0).2.1, (ah b (ae b (ab b (ab b s).1).1 32).1.f0 l.f0).2.2⟩ : SRS) i).1 32).2])) (t := 60) rfl rfl p_21 p_6 rfl rfl (.cons (by exact (congrArg PV.flat (A.g 59 (p := (.one (.row 4059 []))))).trans rfl) .nil) p_104 (le_ok rfl) (le_ok rfl) A.fn (.row (A.r 4059 (x := (5, _))) p_104 .nil) (A.fresh _ (List.mem_singleton.2 rfl)) p_104 (fun x_ hx_ => by have := hp x_ hx_; omega) rfl trivial rfl rfl)) ?_
    refine .cons (fun E A => OpStep.plain rfl (Step.appendX (e := 24) (z := 1) (by_ := 24) (d := (.bss (ao b (⟨(ah b (ae b (ab b (ab b s).1).1 32).1.f0 l.f0).2.1, (ah b (ae b (ab b (ab b s).1).1 32).1.f0 l.f0).2.2⟩ : SRS) i).2)) (dy := (.bss [(ae b (ao b (⟨(ah b (ae b (ab b (ab b s).1).1 32).1.f0 l.f0).2.1, (ah b (ae b (ab b (ab b s).1).1 32).1.f0 l.f0).2.2⟩ : SRS) i).1 32).2])) (d' := (.bss ((ao b (⟨(ah b (ae b (ab b (ab b s).1).1 32).1.f0 l.f0).2.1, (ah b (ae b (ab b (ab b s).1).1 32).1.f0 l.f0).2.2⟩ : SRS) i).2 ++ [(ae b (ao b (⟨(ah b (ae b (ab b (ab b s).1).1 32).1.f0 l.f0).2.1, (ah b (ae b (ab b (ab b s).1).1 32).1.f0 l.f0).2.2⟩ : SRS) i).1 32).2]))) (ss := [60]) 500061 (t := 61) rfl rfl p_21 p_6 (A.g 57) (A.r 100504 (x := (24, _))) rfl (lt_ok rfl) (A.g 60) (.move (A.r 60 (x := (24, _)))) p_104 rfl p_19 p_19 (fun x_ hx_ => by have := hp x_ hx_; omega) (A.fresh _ (List.mem_singleton.2 rfl)) p_104 (fun x_ hx_ => by have := hp x_ hx_; omega))) ?_
    refine .sk 2 ?_
    exact .nil _ _
   refine TL.wk [(0, (.one (.ptr 800 0))), (4, (.one (.ptr 4 0))), (5, (.one (.ptr 5 0))), (9, (pI (((bitList (ah b (ae b (ab b (ab b s).1).1 32).1.f0 l.f0).1).length : Int) - (i : Int))))] [(4017, (5, (.ints .u8 (ae b (ab b (ab b s).1).1 32).2))), (1035, (5, (.ints .u8 (ah b (ae b (ab b (ab b s).1).1 32).1.f0 l.f0).1))), (500061, (24, (.bss ((ao b (⟨(ah b (ae b (ab b (ab b s).1).1 32).1.f0 l.f0).2.1, (ah b (ae b (ab b (ab b s).1).1 32).1.f0 l.f0).2.2⟩ : SRS) i).2 ++ [(ae b (ao b (⟨(ah b (ae b (ab b (ab b s).1).1 32).1.f0 l.f0).2.1, (ah b (ae b (ab b (ab b s).1).1 32).1.f0 l.f0).2.2⟩ : SRS) i).1 32).2]))))] [(800, (62, (c_15 b i l s))), (3, (46, (c_3 l))), (4, (29, c_46)), (5, (29, [cI (ab b s).2, cI (ab b (ab b s).1).2, .row 4017 [], .row 1035 [], .row 500061 []]))] ?_
   refine TL.ren 500061 100504 rfl (fun x hx => by have := hp x hx; omega) ?_
   refine TL.nil (T.region ?_)
   refine TL.rx 1 [(54, (pI (((bitList (ah b (ae b (ab b (ab b s).1).1 32).1.f0 l.f0).1).length : Int) - (i : Int))))] [] ?_
   refine TL.sb ((((bitList (ah b (ae b (ab b (ab b s).1).1 32).1.f0 l.f0).1).length : Int) - (i : Int)) - 1) ?_
   refine TL.rl [(9, (pI ((((bitList (ah b (ae b (ab b (ab b s).1).1 32).1.f0 l.f0).1).length : Int) - (i : Int)) - 1)))] [] ?_
   refine ⟨i + 1, by omega, by first | omega | (dsimp only; omega), Env.le_mk ⟨rfl, rfl, rfl, ?_, trivial⟩ ⟨rfl, rfl, ?_, trivial⟩ ⟨?_, rfl, rfl, rfl, trivial⟩⟩ <;> exact p_67
  refine T.exit ?_
  refine T.sr [] [(4, (29, [cI (ab b s).2, cI (ab b (ab b s).1).2, .row 4017 [], .row 1035 [], .row 100504 []]))] ?_
  refine T.ret ?_
  exact p_163
 refine T.skip (T.seq (T.sg ?_))
 refine TL.rx 2 [(50, (.one (.nil)))] [] ?_
 have nn10 := bitList_len []
 refine TL.c (Step.call (f := 63) (xs := [.tmp 50]) (ps := [(.one (.nil))]) false (g := .func 63) rfl rfl (lt_ok rfl) rfl p_6 rfl (.cons (.one (.nil rfl rfl (by first | exact trivial | exact D.wf_nil _))) .nil) (ok_spec_BitsCount [] (by first | assumption | exact fun x hx => by cases hx) p_116) (.inr rfl) rfl (fun x hx => by have := hp x hx; omega) rfl) ?_
 refine TL.rl [(9, (pI ((bitList []).length : Int)))] [] ?_
 refine T.block ?_
 refine T.nilrow 5 4 100504 24 29 (.bss []) (c_80 b s) rfl rfl rfl (fun x hx => by have := hp x hx; omega) rfl rfl trivial ?_
 refine T.loop (ι := Nat) (fun xx_ => { tm := [(0, (.one (.ptr 800 0))), (4, (.one (.ptr 4 0))), (5, (.one (.ptr 5 0))), (9, (pI (((bitList ([] : List Int)).length : Int) - (xx_ : Int))))], rows := [(4017, (5, (.ints .u8 (ae b (ab b (ab b s).1).1 32).2))), (100504, (24, (.bss (ao b (ae b (ab b (ab b s).1).1 32).1 xx_).2)))], boxes := [(800, (62, [cS b, cI (ao b (ae b (ab b (ab b s).1).1 32).1 xx_).1.f0, cI (ao b (ae b (ab b (ab b s).1).1 32).1 xx_).1.f1])), (3, (46, (c_3 l))), (4, (29, c_46)), (5, (29, [cI (ab b s).2, cI (ab b (ab b s).1).2, .row 4017 [], .nil, .row 100504 []]))] }) (fun xx_ => xx_ ≤ (bitList ([] : List Int)).length) (fun xx_ => (bitList ([] : List Int)).length - xx_) 0 ?_ ?_ ?_
 · refine Env.le_mk ⟨rfl, rfl, rfl, ?_, trivial⟩ ⟨rfl, ?_, trivial⟩ ⟨?_, rfl, rfl, rfl, trivial⟩ <;> exact p_67
 · exact Nat.zero_le _
 intro i hx
 try dsimp only at hx ⊢
 have hl_ := rdTags_len b (ae b (ab b (ab b s).1).1 32).1 i
 have hz_ : (bitList []).length = 0 := rfl
 have hn_ := bitList_len ([] : List Int)
 refine T.seq ?_
 refine T.sr [(53, (pB (decide (0 < (((bitList ([] : List Int)).length : Int) - (i : Int))))))] [] ?_
 refine T.ci rfl (fun h11 => ?_) (fun h11 => ?_)
 ·refine T.skip (T.seq (T.block ?_))
  have nn12 := rdRaw_len b (ao b (ae b (ab b (ab b s).1).1 32).1 i).1 32
  refine T.drawX [{ dst := some 56, pv := (.one (.ptr 5 4)) }, { dst := some 57, pv := (.one (.row 100504 [])) }, { dst := some 58, pv := (.one (.ptr 800 0)) }, { dst := some 59, pv := (.one (.row 4059 [])), rows := [(4059, (5, (.ints .u8 (ae b (ao b (ae b (ab b (ab b s).1).1 32).1 i).1 32).2)))], box := some (800, (62, (c_62 b i s))) }, { dst := some 60, pv := (.one (.row 60 [])), rows := [(60, (24, (.bss [(ae b (ao b (ae b (ab b (ab b s).1).1 32).1 i).1 32).2])))], dead := [4059] }, { dst := some 61, pv := (.one (.row 500061 [])), rows := [(500061, (24, (.bss ((ao b (ae b (ab b (ab b s).1).1 32).1 i).2 ++ [(ae b (ao b (ae b (ab b (ab b s).1).1 32).1 i).1 32).2]))))], dead := [100504, 60] }, { dst := some 62, pv := (.one (.ptr 5 4)) }, { box := some (5, (29, [cI (ab b s).2, cI (ab b (ab b s).1).2, .row 4017 [], .nil, .row 500061 []])) }] p_6 p_6 ?_ ?_
  ·refine .sk 3 ?_
   refine .cons (fun E A => OpStep.plain rfl (Step.callXX2 (b := 800) (xs := [.tmp 58]) (ps := [(.one (.ptr 800 0))]) (bps := [cS b, cI (ao b (ae b (ab b (ab b s).1).1 32).1 i).1.f0, cI (ao b (ae b (ab b (ab b s).1).1 32).1 i).1.f1]) (ss := []) (g := .func 61) (t := 59) (ok_spec_l11Raw b (ao b (ae b (ab b (ab b s).1).1 32).1 i).1 p_3 p_0) rfl rfl p_21 rfl p_6 (evs_cons (A.g 58) (rfl)) (.cons (.bx) .nil) (A.b 800 (x := (62, _))) (.rd (.rd (.rd .nil))) rfl (handX_fresh (fun x_ hx_ => A.fresh x_ (by exact hx_))) (fun x hx => by have := hp x hx; omega) rfl p_109)) ?_
   refine .cons (fun E A => OpStep.plain rfl (Step.litX (e := 24) (z := 1) (by_ := 24) (xs := [.tmp 59]) (pss := [[.row 4059 []]]) (es := [(.ints .u8 (ae b (ao b (ae b (ab b (ab b s).1).1 32).1 i).1 32).2)]) (ss := [4059]) (d := (.bss [(ae b (ao b (ae b (ab b (ab b s).1).1 32).1 i).1 32).2])) (t := 60) rfl rfl p_21 p_6 rfl rfl (.cons (by exact (congrArg PV.flat (A.g 59 (p := (.one (.row 4059 []))))).trans rfl) .nil) p_104 (le_ok rfl) (le_ok rfl) A.fn (.row (A.r 4059 (x := (5, _))) p_104 .nil) (A.fresh _ (List.mem_singleton.2 rfl)) p_104 (fun x_ hx_ => by have := hp x_ hx_; omega) rfl trivial rfl rfl)) ?_
   refine .cons (fun E A => OpStep.plain rfl (Step.appendX (e := 24) (z := 1) (by_ := 24) (d := (.bss (ao b (ae b (ab b (ab b s).1).1 32).1 i).2)) (dy := (.bss [(ae b (ao b (ae b (ab b (ab b s).1).1 32).1 i).1 32).2])) (d' := (.bss ((ao b (ae b (ab b (ab b s).1).1 32).1 i).2 ++ [(ae b (ao b (ae b (ab b (ab b s).1).1 32).1 i).1 32).2]))) (ss := [60]) 500061 (t := 61) rfl rfl p_21 p_6 (A.g 57) (A.r 100504 (x := (24, _))) rfl (lt_ok rfl) (A.g 60) (.move (A.r 60 (x := (24, _)))) p_104 rfl p_19 p_19 (fun x_ hx_ => by have := hp x_ hx_; omega) (A.fresh _ (List.mem_singleton.2 rfl)) p_104 (fun x_ hx_ => by have := hp x_ hx_; omega))) ?_
   refine .sk 2 ?_
   exact .nil _ _
  refine TL.wk [(0, (.one (.ptr 800 0))), (4, (.one (.ptr 4 0))), (5, (.one (.ptr 5 0))), (9, (pI (((bitList ([] : List Int)).length : Int) - (i : Int))))] [(4017, (5, (.ints .u8 (ae b (ab b (ab b s).1).1 32).2))), (500061, (24, (.bss ((ao b (ae b (ab b (ab b s).1).1 32).1 i).2 ++ [(ae b (ao b (ae b (ab b (ab b s).1).1 32).1 i).1 32).2]))))] [(800, (62, (c_62 b i s))), (3, (46, (c_3 l))), (4, (29, c_46)), (5, (29, [cI (ab b s).2, cI (ab b (ab b s).1).2, .row 4017 [], .nil, .row 500061 []]))] ?_
  refine TL.ren 500061 100504 rfl (fun x hx => by have := hp x hx; omega) ?_
  refine TL.nil (T.region ?_)
  refine TL.rx 1 [(54, (pI (((bitList ([] : List Int)).length : Int) - (i : Int))))] [] ?_
  refine TL.sb ((((bitList ([] : List Int)).length : Int) - (i : Int)) - 1) ?_
  refine TL.rl [(9, (pI ((((bitList ([] : List Int)).length : Int) - (i : Int)) - 1)))] [] ?_
  refine ⟨i + 1, by omega, by first | omega | (dsimp only; omega), Env.le_mk ⟨rfl, rfl, rfl, ?_, trivial⟩ ⟨rfl, ?_, trivial⟩ ⟨?_, rfl, rfl, rfl, trivial⟩⟩ <;> exact p_67
 refine T.exit ?_
 refine T.sr [] [(4, (29, [cI (ab b s).2, cI (ab b (ab b s).1).2, .row 4017 [], .nil, .row 100504 []]))] ?_
 refine T.ret ?_
 refine ⟨_, _, rfl, rfl, (.cons rfl .nil), rfl, _, (.r rfl (.r ?_ (.r ?_ (.r ?_ (.r ?_ (.o ?_ (.nn ?_ (.o ?_ .nil))))))))⟩ <;> exact p_16
theorem ok_spec_SameBytes (a : List Int) (b : List Int) (h0_ : U8s a) (h1_ : U8s b) : RO Tryz.prog 66 [.one (.ints .u8 a), .one (.ints .u8 b)] [(false, [.rd (.bool (decide (a = b)))])] := by
 refine RO.intro Tryz.func66 rfl 10 rfl (le_ok rfl) fun w Z => ?_
 refine T.bnd 0 0 rfl rfl fun hb_0_0 => ?_
 simp only [D.size, List.length_map] at hb_0_0
 refine T.bnd 1 0 rfl rfl fun hb_1_0 => ?_
 simp only [D.size, List.length_map] at hb_1_0
 refine T.sr [(4, (pB false))] [] ?_
 refine T.sg ?_
 refine TL.rx 1 [(5, (pS a))] [] ?_
 refine TL.c (Step.toStr (e := 5) (xs := a) rfl rfl (lt_ok rfl) p_6 p_6 p_6 rfl rfl) ?_
 refine TL.rx 1 [(7, (pS b))] [] ?_
 refine TL.c (Step.toStr (e := 5) (xs := b) rfl rfl (lt_ok rfl) p_6 p_6 p_6 rfl rfl) ?_
 refine TL.rl [(4, (pB ((strOfNums a).toList == (strOfNums b).toList)))] [] ?_
 refine T.ret ?_
 exact p_189
theorem ok_spec_l13Fits (h : SHead) (h0_ : h.ok) : RO Tryz.prog 64 [.agg h.cells] [(false, [.rd (.bool (headFits h))])] := by
 refine RO.intro Tryz.func64 rfl 26 rfl (le_ok rfl) fun w Z => ?_
 obtain ⟨o0, o1, o2, o3, o4, o5, o6, o7, o8, o9⟩ := h0_
 refine T.sr [(1, (.one (.ptr 1 0))), (2, (pB false))] [(1, (31, [cI h.f0, cI h.f1, cI h.f2, cS h.f3, cS h.f4, cI h.f5.f0, cI h.f5.f1, cS h.f5.f2, cS h.f5.f3, .d (.bss h.f5.f4)]))] ?_
 refine T.sg ?_
 refine TL.rx 7 [(9, (pB (decide (h.f5.f0 < h.f0))))] [] ?_
 rcases Bool.eq_false_or_eq_true (decide (h.f5.f0 < h.f0)) with hb1 | hb1
 ·refine TL.known 9 hb1 rfl ?_
  refine TL.rx 5 [(12, (pI h.f5.f1)), (14, (pI h.f1))] [] ?_
  refine TL.gy 9 (Step.bin (r := .int .i64 (IntKind.i64.wrap (h.f1 - 1))) rfl rfl (lt_ok rfl) rfl rfl (Bin.sub (a := h.f1) (b := 1) (rfl))) ?_
  refine TL.rx 3 [(18, (pB (decide (h.f5.f1 = (IntKind.i64.wrap (h.f1 - 1))))))] [] ?_
  rcases Bool.eq_false_or_eq_true (decide (h.f5.f1 = (IntKind.i64.wrap (h.f1 - 1)))) with hb2 | hb2
  ·refine TL.known 18 hb2 rfl ?_
   refine TL.rx 5 [(21, (pS h.f5.f2)), (23, (pS h.f3))] [] ?_
   refine TL.gy 18 (Step.cz (ok_spec_SameBytes h.f5.f2 h.f3 p_60 p_60)) ?_
   refine TL.rl [(2, (pB (decide (h.f5.f2 = h.f3))))] [] ?_
   refine T.ret ?_
   exact p_149
  refine TL.known 18 hb2 rfl ?_
  refine TL.rl [(2, (pB false))] [] ?_
  refine T.ret ?_
  exact p_149
 refine TL.known 9 hb1 rfl ?_
 refine TL.rl [(2, (pB false))] [] ?_
 refine T.ret ?_
 exact p_149
theorem ok_spec_l13Get (b : List Int) (s : SRS) (l : SLimits) (h0_ : U8s b) (h1_ : b.length ≤ 1048576) : BX Tryz.prog 20 [.bx, .rd (.agg [(.int .i64 l.f0), (.int .i64 l.f1), (.int .i64 l.f2), (.int .i64 l.f3), (.int .i64 l.f4)])] 62 [.rd (.ints .u8 b), .rd (.int .i64 s.f0), .rd (.int .i64 s.f1)] [.rd (.ints .u8 b), .rd (.int .i64 (af l b s).1.f0), .rd (.int .i64 (af l b s).1.f1)] [(true, [.rd (.int .i64 (af l b s).2.f0), .rd (.int .i64 (af l b s).2.f1), .rd (.int .i64 (af l b s).2.f2), .own 5 (.ints .u8 (af l b s).2.f3), .own 5 (.ints .u8 (af l b s).2.f4), .rd (.int .i64 (af l b s).2.f5.f0), .rd (.int .i64 (af l b s).2.f5.f1), .own 5 (.ints .u8 (af l b s).2.f5.f2), .own 5 (.ints .u8 (af l b s).2.f5.f3), .own 24 (.bss (af l b s).2.f5.f4)])] := by
 refine BX.intro Tryz.func20 rfl 43 rfl (le_ok rfl) (le_ok rfl) fun w Z IX pin hp => ?_
 refine T.sr [(3, (.one (.ptr 3 0))), (4, (.one (.ptr 4 0)))] [(3, (46, (c_3 l))), (4, (31, c_45))] ?_
 refine T.sg ?_
 refine TL.rx 1 [(6, (.one (.ptr 800 0)))] [] ?_
 have nn1 := @ay b p_3 s
 refine TL.c (Step.x2 800 (ok_spec_l11Var b s p_3 p_0)) ?_
 refine TL.rl [(5, (.one (.ptr 5 0)))] [(5, (31, [cI (ab b s).2, cI 0, cI 0, .nil, .nil, cI 0, cI 0, .nil, .nil, .nil]))] ?_
 refine T.sg ?_
 refine TL.rx 1 [(9, (.one (.ptr 800 0)))] [] ?_
 have nn2 := @ay b p_3 (ab b s).1
 refine TL.c (Step.x2 800 (ok_spec_l11Var b (ab b s).1 p_3 p_0)) ?_
 refine TL.rl [] [(5, (31, [cI (ab b s).2, cI (ab b (ab b s).1).2, cI 0, .nil, .nil, cI 0, cI 0, .nil, .nil, .nil]))] ?_
 refine T.sg ?_
 refine TL.rx 4 [(12, (.one (.ptr 800 0))), (15, (pB (decide ((ab b (ab b s).1).2 = 0))))] [] ?_
 refine TL.c (Step.x2 800 (ok_spec_l11Fail (decide ((ab b (ab b s).1).2 ≠ 0)) b (ab b (ab b s).1).1 (decide ((ab b (ab b s).1).2 = 0)) 5 p_3 p_0 p_15)) ?_
 refine TL.nil (T.sg ?_)
 refine TL.rx 1 [(17, (.one (.ptr 800 0)))] [] ?_
 have nn3 := @ay b p_3 (ac (ab b (ab b s).1).1 (decide ((ab b (ab b s).1).2 ≠ 0)) 5)
 refine TL.c (Step.x2 800 (ok_spec_l11Var b (ac (ab b (ab b s).1).1 (decide ((ab b (ab b s).1).2 ≠ 0)) 5) p_3 p_0)) ?_
 refine TL.rl [] [(5, (31, [cI (ab b s).2, cI (ab b (ab b s).1).2, cI (ab b (ac (ab b (ab b s).1).1 (decide ((ab b (ab b s).1).2 ≠ 0)) 5)).2, .nil, .nil, cI 0, cI 0, .nil, .nil, .nil]))] ?_
 refine T.sg ?_
 refine TL.rx 6 [(20, (.one (.ptr 800 0))), (25, (pB (decide (l.f0 ≤ (ab b (ac (ab b (ab b s).1).1 (decide ((ab b (ab b s).1).2 ≠ 0)) 5)).2))))] [] ?_
 refine TL.c (Step.x2 800 (ok_spec_l11Fail (decide ((ab b (ac (ab b (ab b s).1).1 (decide ((ab b (ab b s).1).2 ≠ 0)) 5)).2 < l.f0)) b (ab b (ac (ab b (ab b s).1).1 (decide ((ab b (ab b s).1).2 ≠ 0)) 5)).1 (decide (l.f0 ≤ (ab b (ac (ab b (ab b s).1).1 (decide ((ab b (ab b s).1).2 ≠ 0)) 5)).2)) 5 p_3 p_0 p_15)) ?_
 refine TL.nil (T.sg ?_)
 refine TL.rx 1 [(27, (.one (.ptr 800 0)))] [] ?_
 have nn4 := rdRaw_len b (ac (ab b (ac (ab b (ab b s).1).1 (decide ((ab b (ab b s).1).2 ≠ 0)) 5)).1 (decide ((ab b (ac (ab b (ab b s).1).1 (decide ((ab b (ab b s).1).2 ≠ 0)) 5)).2 < l.f0)) 5) 32
 refine TL.c (Step.x2 800 (ok_spec_l11Raw b (ac (ab b (ac (ab b (ab b s).1).1 (decide ((ab b (ab b s).1).2 ≠ 0)) 5)).1 (decide ((ab b (ac (ab b (ab b s).1).1 (decide ((ab b (ab b s).1).2 ≠ 0)) 5)).2 < l.f0)) 5) p_3 p_0)) ?_
 refine TL.rl [] [(5, (31, [cI (ab b s).2, cI (ab b (ab b s).1).2, cI (ab b (ac (ab b (ab b s).1).1 (decide ((ab b (ab b s).1).2 ≠ 0)) 5)).2, .row 4028 [], .nil, cI 0, cI 0, .nil, .nil, .nil]))] ?_
 refine T.sg ?_
 refine TL.rx 1 [(30, (.one (.ptr 800 0)))] [] ?_
 have nn5 := rdRaw_len b (ae b (ac (ab b (ac (ab b (ab b s).1).1 (decide ((ab b (ab b s).1).2 ≠ 0)) 5)).1 (decide ((ab b (ac (ab b (ab b s).1).1 (decide ((ab b (ab b s).1).2 ≠ 0)) 5)).2 < l.f0)) 5) 32).1 32
 refine TL.c (Step.x2 800 (ok_spec_l11Raw b (ae b (ac (ab b (ac (ab b (ab b s).1).1 (decide ((ab b (ab b s).1).2 ≠ 0)) 5)).1 (decide ((ab b (ac (ab b (ab b s).1).1 (decide ((ab b (ab b s).1).2 ≠ 0)) 5)).2 < l.f0)) 5) 32).1 p_3 p_0)) ?_
 refine TL.rl [] [(5, (31, [cI (ab b s).2, cI (ab b (ab b s).1).2, cI (ab b (ac (ab b (ab b s).1).1 (decide ((ab b (ab b s).1).2 ≠ 0)) 5)).2, .row 4028 [], .row 4031 [], cI 0, cI 0, .nil, .nil, .nil]))] ?_
 refine T.sg ?_
 refine TL.rx 2 [(33, (.one (.ptr 800 0))), (34, (.agg (c_3 l)))] [] ?_
 have nn6 := @rdQc_sm l b (ae b (ae b (ac (ab b (ac (ab b (ab b s).1).1 (decide ((ab b (ab b s).1).2 ≠ 0)) 5)).1 (decide ((ab b (ac (ab b (ab b s).1).1 (decide ((ab b (ab b s).1).2 ≠ 0)) 5)).2 < l.f0)) 5) 32).1 32).1 p_60
 have nn7 := @rdQc_ok l b (ae b (ae b (ac (ab b (ac (ab b (ab b s).1).1 (decide ((ab b (ab b s).1).2 ≠ 0)) 5)).1 (decide ((ab b (ac (ab b (ab b s).1).1 (decide ((ab b (ab b s).1).2 ≠ 0)) 5)).2 < l.f0)) 5) 32).1 32).1 p_3
 refine TL.c (Step.x2 800 (ok_spec_l12Get b (ae b (ae b (ac (ab b (ac (ab b (ab b s).1).1 (decide ((ab b (ab b s).1).2 ≠ 0)) 5)).1 (decide ((ab b (ac (ab b (ab b s).1).1 (decide ((ab b (ab b s).1).2 ≠ 0)) 5)).2 < l.f0)) 5) 32).1 32).1 l p_3 p_0)) ?_
 refine TL.rl [] [(5, (31, (c_5 b l s)))] ?_
 refine T.sg ?_
 refine TL.rx 2 [(37, (.one (.ptr 800 0))), (38, (.agg (c_5 b l s)))] [] ?_
 refine TL.c (Step.call (f := 64) (xs := [.tmp 38]) (ps := [(.agg (c_5 b l s))]) false (g := .func 64) rfl rfl (lt_ok rfl) rfl p_6 rfl (.cons (.agg (.cons (.d _) (.cons (.d _) (.cons (.d _) (.cons (.row rfl rfl rfl rfl) (.cons (.row rfl rfl rfl rfl) (.cons (.d _) (.cons (.d _) (.cons (.row rfl rfl rfl rfl) (.cons (.row rfl rfl rfl rfl) (.cons (.row rfl rfl rfl rfl) .nil))))))))))) .nil) (ok_spec_l13Fits (⟨(ab b s).2, (ab b (ab b s).1).2, (ab b (ac (ab b (ab b s).1).1 (decide ((ab b (ab b s).1).2 ≠ 0)) 5)).2, (ae b (ac (ab b (ac (ab b (ab b s).1).1 (decide ((ab b (ab b s).1).2 ≠ 0)) 5)).1 (decide ((ab b (ac (ab b (ab b s).1).1 (decide ((ab b (ab b s).1).2 ≠ 0)) 5)).2 < l.f0)) 5) 32).2, (ae b (ae b (ac (ab b (ac (ab b (ab b s).1).1 (decide ((ab b (ab b s).1).2 ≠ 0)) 5)).1 (decide ((ab b (ac (ab b (ab b s).1).1 (decide ((ab b (ab b s).1).2 ≠ 0)) 5)).2 < l.f0)) 5) 32).1 32).2, (rdQc l b (ae b (ae b (ac (ab b (ac (ab b (ab b s).1).1 (decide ((ab b (ab b s).1).2 ≠ 0)) 5)).1 (decide ((ab b (ac (ab b (ab b s).1).1 (decide ((ab b (ab b s).1).2 ≠ 0)) 5)).2 < l.f0)) 5) 32).1 32).1).2⟩ : SHead) (by first | assumption | exact rdHead_ok (l := l) (s := s) h0_)) (.inr rfl) rfl (fun x hx => by have := hp x hx; omega) rfl) ?_
 refine TL.rx 1 [(40, (pB (!(headFits (⟨(ab b s).2, (ab b (ab b s).1).2, (ab b (ac (ab b (ab b s).1).1 (decide ((ab b (ab b s).1).2 ≠ 0)) 5)).2, (ae b (ac (ab b (ac (ab b (ab b s).1).1 (decide ((ab b (ab b s).1).2 ≠ 0)) 5)).1 (decide ((ab b (ac (ab b (ab b s).1).1 (decide ((ab b (ab b s).1).2 ≠ 0)) 5)).2 < l.f0)) 5) 32).2, (ae b (ae b (ac (ab b (ac (ab b (ab b s).1).1 (decide ((ab b (ab b s).1).2 ≠ 0)) 5)).1 (decide ((ab b (ac (ab b (ab b s).1).1 (decide ((ab b (ab b s).1).2 ≠ 0)) 5)).2 < l.f0)) 5) 32).1 32).2, (rdQc l b (ae b (ae b (ac (ab b (ac (ab b (ab b s).1).1 (decide ((ab b (ab b s).1).2 ≠ 0)) 5)).1 (decide ((ab b (ac (ab b (ab b s).1).1 (decide ((ab b (ab b s).1).2 ≠ 0)) 5)).2 < l.f0)) 5) 32).1 32).1).2⟩ : SHead)))))] [] ?_
 refine TL.c (Step.x2 800 (ok_spec_l11Fail (headFits (⟨(ab b s).2, (ab b (ab b s).1).2, (ab b (ac (ab b (ab b s).1).1 (decide ((ab b (ab b s).1).2 ≠ 0)) 5)).2, (ae b (ac (ab b (ac (ab b (ab b s).1).1 (decide ((ab b (ab b s).1).2 ≠ 0)) 5)).1 (decide ((ab b (ac (ab b (ab b s).1).1 (decide ((ab b (ab b s).1).2 ≠ 0)) 5)).2 < l.f0)) 5) 32).2, (ae b (ae b (ac (ab b (ac (ab b (ab b s).1).1 (decide ((ab b (ab b s).1).2 ≠ 0)) 5)).1 (decide ((ab b (ac (ab b (ab b s).1).1 (decide ((ab b (ab b s).1).2 ≠ 0)) 5)).2 < l.f0)) 5) 32).1 32).2, (rdQc l b (ae b (ae b (ac (ab b (ac (ab b (ab b s).1).1 (decide ((ab b (ab b s).1).2 ≠ 0)) 5)).1 (decide ((ab b (ac (ab b (ab b s).1).1 (decide ((ab b (ab b s).1).2 ≠ 0)) 5)).2 < l.f0)) 5) 32).1 32).1).2⟩ : SHead)) b (rdQc l b (ae b (ae b (ac (ab b (ac (ab b (ab b s).1).1 (decide ((ab b (ab b s).1).2 ≠ 0)) 5)).1 (decide ((ab b (ac (ab b (ab b s).1).1 (decide ((ab b (ab b s).1).2 ≠ 0)) 5)).2 < l.f0)) 5) 32).1 32).1).1 (!(headFits (⟨(ab b s).2, (ab b (ab b s).1).2, (ab b (ac (ab b (ab b s).1).1 (decide ((ab b (ab b s).1).2 ≠ 0)) 5)).2, (ae b (ac (ab b (ac (ab b (ab b s).1).1 (decide ((ab b (ab b s).1).2 ≠ 0)) 5)).1 (decide ((ab b (ac (ab b (ab b s).1).1 (decide ((ab b (ab b s).1).2 ≠ 0)) 5)).2 < l.f0)) 5) 32).2, (ae b (ae b (ac (ab b (ac (ab b (ab b s).1).1 (decide ((ab b (ab b s).1).2 ≠ 0)) 5)).1 (decide ((ab b (ac (ab b (ab b s).1).1 (decide ((ab b (ab b s).1).2 ≠ 0)) 5)).2 < l.f0)) 5) 32).1 32).2, (rdQc l b (ae b (ae b (ac (ab b (ac (ab b (ab b s).1).1 (decide ((ab b (ab b s).1).2 ≠ 0)) 5)).1 (decide ((ab b (ac (ab b (ab b s).1).1 (decide ((ab b (ab b s).1).2 ≠ 0)) 5)).2 < l.f0)) 5) 32).1 32).1).2⟩ : SHead))) 6 p_3 p_0 p_15)) ?_
 refine TL.nil ?_
 refine T.sr [] [(4, (31, (c_5 b l s)))] ?_
 refine T.ret ?_
 exact p_156
theorem ok_spec_GetText (b : List Int) (a : Int) (m : Int) (h0_ : U8s b) (h1_ : b.length ≤ 1099511627776) : RO Tryz.prog 104 [.one (.ints .u8 b), .one (.int .i64 a), .one (.int .i64 m)] [(false, [.own 5 (.ints .u8 (getText b a m).1)]), (false, [.rd (.int .i64 (getText b a m).2.1)]), (false, [.rd (.int .i64 (getText b a m).2.2)])] := by
 refine RO.intro Tryz.func104 rfl 32 rfl (le_ok rfl) fun w Z => ?_
 refine T.bnd 0 0 rfl rfl fun hb_0_0 => ?_
 simp only [D.size, List.length_map] at hb_0_0
 refine T.sr [(6, (.one (.nil))), (7, (pI 0)), (8, (pI 0))] [] ?_
 refine T.sg ?_
 refine TL.rx 2 [(13, (pS b)), (14, (pI a))] [] ?_
 have nn1 := @getVar_bd b p_3 a
 refine TL.c (Step.cz (ok_spec_GetVar b a p_3 p_0)) ?_
 refine TL.rl [(9, (pI (getVar b a).1)), (10, (pI (getVar b a).2.1)), (11, (pI (getVar b a).2.2))] [] ?_
 refine T.seq ?_
 refine T.sr [(20, (pB (decide ((getVar b a).2.2 ≠ 0))))] [] ?_
 refine T.ci rfl (fun h2 => ?_) (fun h2 => ?_)
 ·refine T.sr [(6, (.one (.nil))), (7, (pI 0)), (8, (pI (getVar b a).2.2))] [] ?_
  refine T.ret ?_
  exact p_145
 refine T.skip (T.seq ?_)
 refine T.sr [(24, (pB (decide (m < (getVar b a).1))))] [] ?_
 refine T.ci rfl (fun h3 => ?_) (fun h3 => ?_)
 ·refine T.sr [(6, (.one (.nil))), (7, (pI 0)), (8, (pI 3))] [] ?_
  refine T.ret ?_
  exact p_145
 refine T.skip (T.sg ?_)
 refine TL.rx 3 [(25, (pS b)), (26, (pI (getVar b a).2.1)), (27, (pI (getVar b a).1))] [] ?_
 have nn4 := getRaw_bd b (getVar b a).2.1 (getVar b a).1
 refine TL.c (Step.cz (ok_spec_GetRaw b (getVar b a).2.1 (getVar b a).1 p_0)) ?_
 refine TL.rl [(6, (.one (.row 1028 []))), (7, (pI (av b (getVar b a).2.1 (getVar b a).1).2.1)), (8, (pI (av b (getVar b a).2.1 (getVar b a).1).2.2))] [] ?_
 refine T.ret ?_
 exact p_180
theorem ok_spec_l11Text (b : List Int) (s : SRS) (m : Int) (h0_ : U8s b) (h1_ : b.length ≤ 1048576) : BX Tryz.prog 65 [.bx, .rd (.one (.int .i64 m))] 62 [.rd (.ints .u8 b), .rd (.int .i64 s.f0), .rd (.int .i64 s.f1)] [.rd (.ints .u8 b), .rd (.int .i64 (rdText b s m).1.f0), .rd (.int .i64 (rdText b s m).1.f1)] [(false, [.own 5 (.ints .u8 (rdText b s m).2)])] := by
 refine BX.intro Tryz.func65 rfl 36 rfl (le_ok rfl) (le_ok rfl) fun w Z IX pin hp => ?_
 refine T.sr [(4, (.one (.nil)))] [] ?_
 refine T.seq ?_
 refine T.sr [(12, (pB (decide (s.f1 ≠ 0))))] [] ?_
 refine T.ci rfl (fun h1 => ?_) (fun h1 => ?_)
 ·refine T.sr [(4, (.one (.nil)))] [] ?_
  refine T.ret ?_
  exact p_183
 refine T.skip (T.seq ?_)
 have nn2 := getText_bd b s.f0 m
 refine T.draw [⟨14, (.one (.ptr 800 0)), []⟩, ⟨15, (.one (.ptr 800 0)), []⟩, ⟨16, (.one (.ptr 800 0)), []⟩, ⟨17, (pS b), []⟩, ⟨18, (.one (.ptr 800 0)), []⟩, ⟨19, (.one (.ptr 800 0)), []⟩, ⟨20, (.one (.ptr 800 1)), []⟩, ⟨21, (pI s.f0), []⟩, ⟨22, (pI m), []⟩, ⟨23, (.tup [(false, [.row 1023 []]), (false, [cI (getText b s.f0 m).2.1]), (false, [cI (getText b s.f0 m).2.2])]), [(1023, (5, (.ints .u8 (getText b s.f0 m).1)))]⟩, ⟨13, (.tup [(false, [.row 1023 []]), (false, [cI (getText b s.f0 m).2.1]), (false, [cI (getText b s.f0 m).2.2])]), []⟩, ⟨24, (.one (.row 1023 [])), []⟩, ⟨25, (pI (getText b s.f0 m).2.1), []⟩, ⟨26, (pI (getText b s.f0 m).2.2), []⟩, ⟨5, (.one (.row 1023 [])), []⟩, ⟨6, (pI (getText b s.f0 m).2.1), []⟩, ⟨7, (pI (getText b s.f0 m).2.2), []⟩] p_6 p_6 ?_ ?_
 ·refine .cons (fun E A => A.mv 0 14) ?_
  refine .cons (fun E A => OpStep.plain rfl (Step.nilCheck (t := 15) rfl rfl p_21 (A.g 14 rfl))) ?_
  refine .cons (fun E A => OpStep.plain rfl (Step.fa (off := 0) (n := 1) (one := true) 0 16 (A.g 15 rfl))) ?_
  refine .cons (fun E A => OpStep.plain rfl (Step.load_box (c := cS b) (t := 17) rfl rfl p_21 p_6 (A.g 16 rfl) (by exact A.box rfl) rfl)) ?_
  refine .cons (fun E A => A.mv 0 18) ?_
  refine .cons (fun E A => OpStep.plain rfl (Step.nilCheck (t := 19) rfl rfl p_21 (A.g 18 rfl))) ?_
  refine .cons (fun E A => OpStep.plain rfl (Step.fa (off := 1) (n := 1) (one := true) 0 20 (A.g 19 rfl))) ?_
  refine .cons (fun E A => OpStep.plain rfl (Step.load_box (c := cI s.f0) (t := 21) rfl rfl p_21 p_6 (A.g 20 rfl) (by exact A.box rfl) rfl)) ?_
  refine .cons (fun E A => A.mv 1 22) ?_
  refine .cons (fun E A => OpStep.plain rfl (Step.call (f := 104) (xs := [.tmp 17, .tmp 21, .tmp 22]) (ps := [(pS b), (pI s.f0), (pI m)]) false (g := .func 104) (t := 23) rfl rfl p_21 rfl p_6 (evs_cons (A.g 17 rfl) (evs_cons (A.g 21 rfl) (evs_cons (A.g 22 rfl) (rfl)))) (.cons (.one (.d _)) (.cons (.one (.d _)) (.cons (.one (.d _)) .nil))) (ok_spec_GetText b s.f0 m p_3 p_0) (.inr rfl) (At.freshRows A rfl) (fun x hx => by have := hp x hx; omega) rfl)) ?_
  refine .cons (fun E A => A.mv 23 13) ?_
  refine .cons (fun E A => OpStep.plain rfl (Step.extract (p := (.one (.row 1023 []))) (t := 24) rfl rfl p_21 (A.g 13 rfl) rfl)) ?_
  refine .cons (fun E A => OpStep.plain rfl (Step.extract (p := (pI (getText b s.f0 m).2.1)) (t := 25) rfl rfl p_21 (A.g 13 rfl) rfl)) ?_
  refine .cons (fun E A => OpStep.plain rfl (Step.extract (p := (pI (getText b s.f0 m).2.2)) (t := 26) rfl rfl p_21 (A.g 13 rfl) rfl)) ?_
  refine .cons (fun E A => A.as 24 5) ?_
  refine .cons (fun E A => A.as 25 6) ?_
  refine .cons (fun E A => A.as 26 7) ?_
  exact .nil _ _
 refine TL.nil ?_
 refine T.sr [] [(800, (62, [cS b, cI s.f0, cI (getText b s.f0 m).2.2]))] ?_
 refine T.sr [] [(800, (62, [cS b, cI (getText b s.f0 m).2.1, cI (getText b s.f0 m).2.2]))] ?_
 refine T.sr [(4, (.one (.row 1023 [])))] [] ?_
 refine T.ret ?_
 exact p_185
theorem ok_spec_ShaInit  : RO Tryz.prog 130 [] [(false, [.own 3 (.ints .i64 shaInit)])] := by
 refine RO.intro Tryz.func130 rfl 2 rfl (le_ok rfl) fun w Z => ?_
 refine T.sr [(0, (.one (.nil)))] [] ?_
 refine T.sg ?_
 refine TL.c (Step.lt 3 1 8 [.const (.int .i64 1779033703), .const (.int .i64 3144134277), .const (.int .i64 1013904242), .const (.int .i64 2773480762), .const (.int .i64 1359893119), .const (.int .i64 2600822924), .const (.int .i64 528734635), .const (.int .i64 1541459225)] [[cI 1779033703], [cI 3144134277], [cI 1013904242], [cI 2773480762], [cI 1359893119], [cI 2600822924], [cI 528734635], [cI 1541459225]] (.ints .i64 [1779033703, 3144134277, 1013904242, 2773480762, 1359893119, 2600822924, 528734635, 1541459225])) ?_
 refine TL.rl [(0, (.one (.row 1 [])))] [] ?_
 refine T.ret ?_
 exact p_135
theorem ok_spec_ShaPad (b : List Int) (h0_ : b.length ≤ 17592186040000) : RO Tryz.prog 131 [.one (.ints .u8 b)] [(false, [.own 5 (.ints .u8 (shaPad b))])] := by
 refine RO.intro Tryz.func131 rfl 33 rfl (le_ok rfl) fun w Z => ?_
 refine T.bnd 0 0 rfl rfl fun hb_0_0 => ?_
 simp only [D.size, List.length_map] at hb_0_0
 refine T.sr [(2, (.one (.nil)))] [] ?_
 refine T.sg ?_
 refine TL.rx 1 [(6, (pS b))] [] ?_
 refine TL.c (Step.cz (ok_spec_l01Copy b p_110)) ?_
 refine TL.c (Step.lt 5 1 1 [.const (.int .u8 128)] [[.d (.int .u8 128)]] (.ints .u8 [128])) ?_
 refine TL.c (Step.ap 5 1 1 (.ints .u8 [128]) (.ints .u8 (b ++ [128])) (.copy rfl rfl rfl p_101)) ?_
 refine TL.rl [(3, (.one (.row 1007 [])))] [] ?_
 refine T.seq (T.block ?_)
 refine T.loop (ι := Nat) (fun xx_ => { tm := [(0, (pS b)), (2, (.one (.nil))), (3, (.one (.row 1007 [])))], rows := [(1007, (5, (.ints .u8 (b ++ [128] ++ List.replicate xx_ 0)))), (8, (5, (.ints .u8 [128])))], boxes := [] }) (fun xx_ => xx_ ≤ padK b.length) (fun xx_ => padK b.length - xx_) 0 ?_ ?_ ?_
 · refine Env.le_mk ⟨rfl, rfl, rfl, trivial⟩ ⟨?_, rfl, trivial⟩ trivial <;> exact p_48
 · exact Nat.zero_le _
 intro i hx
 try dsimp only at hx ⊢
 have hl_ : (b ++ [128] ++ List.replicate i 0).length = b.length + 1 + i := by simp; omega
 have hk_ : padK b.length ≤ 63 := by unfold padK; omega
 refine T.seq (T.sg ?_)
 refine TL.rx 1 [(10, (.one (.row 1007 [])))] [] ?_
 refine TL.c (Step.ln 5 1 (.ints .u8 (b ++ [128] ++ List.replicate i 0))) ?_
 refine TL.c (Step.bin (r := .int .i64 (((b ++ [128] ++ List.replicate i 0).length : Int) % 64)) rfl rfl (lt_ok rfl) rfl rfl (Bin.rem (k := .i64) (a := ((b ++ [128] ++ List.replicate i 0).length : Int)) (b := 64) (by decide) (Int.tmod_eq_emod_of_nonneg p_17))) ?_
 refine TL.rl [(13, (pB (decide ((((b ++ [128] ++ List.replicate i 0).length : Int) % 64) ≠ 56))))] [] ?_
 refine T.ci rfl (fun h1 => ?_) (fun h1 => ?_)
 ·refine T.skip (T.block (T.region ?_))
  refine TL.rx 1 [(14, (.one (.row 1007 [])))] [] ?_
  refine TL.c (Step.lt 5 1 1 [.const (.int .u8 0)] [[.d (.int .u8 0)]] (.ints .u8 [0])) ?_
  refine TL.c (Step.ap 5 1 1 (.ints .u8 [0]) (.ints .u8 ((b ++ [128] ++ List.replicate i 0) ++ [0])) (.copy rfl rfl rfl p_101)) ?_
  refine TL.rl [(3, (.one (.row 1007 [])))] [] ?_
  refine ⟨i + 1, by (unfold padK at *; omega), by (unfold padK at *; omega), Env.le_mk ⟨rfl, rfl, rfl, trivial⟩ ⟨?_, rfl, trivial⟩ trivial⟩ <;> exact p_48
 refine T.exit (T.sg ?_)
 refine TL.rx 1 [(17, (pS b))] [] ?_
 refine TL.c (Step.ln 5 1 (.ints .u8 b)) ?_
 refine TL.ml (8 * (b.length : Int)) ?_
 refine TL.rl [(4, (pI (8 * (b.length : Int))))] [] ?_
 refine T.seq ?_
 refine T.sr [(5, (pI 7))] [] ?_
 refine T.block ?_
 refine T.loop (ι := Nat) (fun xx_ => { tm := [(2, (.one (.nil))), (4, (pI (8 * (b.length : Int)))), (3, (.one (.row 1007 []))), (5, (pI (7 - (xx_ : Int))))], rows := [(1007, (5, (.ints .u8 (b ++ [128] ++ List.replicate (padK b.length) 0 ++ padB b.length xx_)))), (8, (5, (.ints .u8 [128])))], boxes := [] }) (fun xx_ => xx_ ≤ 8) (fun xx_ => 8 - xx_) 0 ?_ ?_ ?_
 · refine Env.le_mk ⟨rfl, rfl, rfl, ?_, trivial⟩ ⟨?_, rfl, trivial⟩ trivial <;> exact p_46
 · exact Nat.zero_le _
 intro i hx
 try dsimp only at hx ⊢
 have hl_ : (b ++ [128] ++ List.replicate (padK b.length) 0 ++ padB b.length i).length = b.length + 1 + padK b.length + i := by simp [padB_len]; omega
 have hl3_ := padB_len b.length i
 have hk_ : padK b.length ≤ 63 := by unfold padK; omega
 refine T.seq ?_
 refine T.sr [(21, (pB (decide (0 ≤ (7 - (i : Int))))))] [] ?_
 refine T.ci rfl (fun h2 => ?_) (fun h2 => ?_)
 ·refine T.skip (T.seq (T.block (T.region ?_)))
  refine TL.rx 3 [(24, (.one (.row 1007 []))), (25, (pI (8 * (b.length : Int)))), (26, (pI (7 - (i : Int))))] [] ?_
  refine TL.ml (8 * (7 - (i : Int))) ?_
  refine TL.c (Step.bin (r := .int .i64 (bshr (8 * (b.length : Int)) (8 * (7 - (i : Int))))) rfl rfl (lt_ok rfl) rfl rfl (Bin.shr (k := .i64) (k' := .i64) (a := (8 * (b.length : Int))) (b := (8 * (7 - (i : Int)))) p_17 (rfl))) ?_
  refine TL.c (Step.conv (c := ((bshr (8 * (b.length : Int)) (8 * (7 - (i : Int)))) % 256)) rfl rfl (lt_ok rfl) p_6 p_6 rfl (wrap_byte _)) ?_
  refine TL.c (Step.lt 5 1 1 [.tmp 29] [[.d (.int .u8 ((bshr (8 * (b.length : Int)) (8 * (7 - (i : Int)))) % 256))]] (.ints .u8 [(bshr (8 * (b.length : Int)) (8 * (7 - (i : Int)))) % 256])) ?_
  refine TL.c (Step.ap 5 1 1 (.ints .u8 [(bshr (8 * (b.length : Int)) (8 * (7 - (i : Int)))) % 256]) (.ints .u8 ((b ++ [128] ++ List.replicate (padK b.length) 0 ++ padB b.length i) ++ [(bshr (8 * (b.length : Int)) (8 * (7 - (i : Int)))) % 256])) (.copy rfl rfl rfl p_101)) ?_
  refine TL.rl [(3, (.one (.row 1007 [])))] [] ?_
  refine T.region ?_
  refine TL.rx 1 [(22, (pI (7 - (i : Int))))] [] ?_
  refine TL.sb ((7 - (i : Int)) - 1) ?_
  refine TL.rl [(5, (pI ((7 - (i : Int)) - 1)))] [] ?_
  refine ⟨i + 1, by omega, by omega, Env.le_mk ⟨rfl, rfl, rfl, ?_, trivial⟩ ⟨?_, rfl, trivial⟩ trivial⟩ <;> exact p_46
 refine T.exit ?_
 refine T.sr [(2, (.one (.row 1007 [])))] [] ?_
 refine T.ret ?_
 exact p_178
theorem ok_spec_l04Word (x : Int) : RO Tryz.prog 146 [.one (.int .i64 x)] [(false, [.rd (.bool (decide (0 ≤ x ∧ x ≤ 4294967295)))])] := by
 refine RO.intro Tryz.func146 rfl 5 rfl (le_ok rfl) fun w Z => ?_
 refine T.sr [(2, (pB false))] [] ?_
 refine T.sg ?_
 refine TL.rx 1 [(3, (pI x))] [] ?_
 refine TL.c (Step.cz (ok_spec_l01In x 0 4294967295)) ?_
 refine TL.rl [(2, (pB (decide (0 ≤ x ∧ x ≤ 4294967295))))] [] ?_
 refine T.ret ?_
 exact ⟨_, (.cons rfl .nil), rfl, _, (.r rfl .nil)⟩
theorem ok_spec_l04Turn (x : Int) (n : Int) (h0_ : 0 ≤ n ∧ n ≤ 31) : RO Tryz.prog 147 [.one (.int .i64 x), .one (.int .i64 n)] [(false, [.rd (.int .i64 (turnW x n))])] := by
 refine RO.intro Tryz.func147 rfl 14 rfl (le_ok rfl) fun w Z => ?_
 refine T.sr [(4, (pI 0))] [] ?_
 refine T.seq ?_
 refine T.draw [⟨5, (pI x), []⟩, ⟨6, (pI n), []⟩, ⟨7, (pI (bshr x n)), []⟩, ⟨8, (pI x), []⟩, ⟨9, (pI n), []⟩, ⟨10, (pI (32 - n)), []⟩, ⟨11, (pI (bshl x (32 - n))), []⟩, ⟨12, (pI (bor (bshr x n) (bshl x (32 - n)))), []⟩, ⟨13, (pI (band (bor (bshr x n) (bshl x (32 - n))) 4294967295)), []⟩, ⟨4, (pI (band (bor (bshr x n) (bshl x (32 - n))) 4294967295)), []⟩] p_6 p_6 ?_ ?_
 ·refine .cons (fun E A => A.mv 0 5) ?_
  refine .cons (fun E A => A.mv 1 6) ?_
  refine .cons (fun E A => OpStep.plain rfl (Step.bd (r := .int .i64 (bshr x n)) 7 (A.g 5 rfl) (A.g 6 rfl) (Bin.shr (k := .i64) (k' := .i64) (a := x) (b := n) p_17 (rfl)))) ?_
  refine .cons (fun E A => A.mv 0 8) ?_
  refine .cons (fun E A => A.mv 1 9) ?_
  refine .cons (fun E A => OpStep.plain rfl (Step.bd (r := .int .i64 (32 - n)) 10 rfl (A.g 9 rfl) (Bin.sub (a := 32) (b := n) p_99))) ?_
  refine .cons (fun E A => OpStep.plain rfl (Step.bd (r := .int .i64 (bshl x (32 - n))) 11 (A.g 8 rfl) (A.g 10 rfl) (Bin.shl (k := .i64) (k' := .i64) (a := x) (b := (32 - n)) p_17 (rfl)))) ?_
  refine .cons (fun E A => OpStep.plain rfl (Step.bd (r := .int .i64 (bor (bshr x n) (bshl x (32 - n)))) 12 (A.g 7 rfl) (A.g 11 rfl) (Bin.or (k := .i64) (a := (bshr x n)) (b := (bshl x (32 - n))) (rfl)))) ?_
  refine .cons (fun E A => OpStep.plain rfl (Step.bd (r := .int .i64 (band (bor (bshr x n) (bshl x (32 - n))) 4294967295)) 13 (A.g 12 rfl) rfl (Bin.and (k := .i64) (a := (bor (bshr x n) (bshl x (32 - n)))) (b := 4294967295) (rfl)))) ?_
  refine .cons (fun E A => A.as 13 4) ?_
  exact .nil _ _
 refine TL.nil (T.ret ?_)
 refine ⟨_, (.cons rfl .nil), rfl, _, (.r ?_ .nil)⟩ <;> exact p_122
theorem ok_spec_l04K  : RO Tryz.prog 148 [] [(false, [.own 3 (.ints .i64 shaK)])] := by
 refine RO.intro Tryz.func148 rfl 2 rfl (le_ok rfl) fun w Z => ?_
 refine T.sr [(0, (.one (.nil)))] [] ?_
 refine T.sg ?_
 refine TL.c (Step.lt 3 1 8 [.const (.int .i64 1116352408), .const (.int .i64 1899447441), .const (.int .i64 3049323471), .const (.int .i64 3921009573), .const (.int .i64 961987163), .const (.int .i64 1508970993), .const (.int .i64 2453635748), .const (.int .i64 2870763221), .const (.int .i64 3624381080), .const (.int .i64 310598401), .const (.int .i64 607225278), .const (.int .i64 1426881987), .const (.int .i64 1925078388), .const (.int .i64 2162078206), .const (.int .i64 2614888103), .const (.int .i64 3248222580), .const (.int .i64 3835390401), .const (.int .i64 4022224774), .const (.int .i64 264347078), .const (.int .i64 604807628), .const (.int .i64 770255983), .const (.int .i64 1249150122), .const (.int .i64 1555081692), .const (.int .i64 1996064986), .const (.int .i64 2554220882), .const (.int .i64 2821834349), .const (.int .i64 2952996808), .const (.int .i64 3210313671), .const (.int .i64 3336571891), .const (.int .i64 3584528711), .const (.int .i64 113926993), .const (.int .i64 338241895), .const (.int .i64 666307205), .const (.int .i64 773529912), .const (.int .i64 1294757372), .const (.int .i64 1396182291), .const (.int .i64 1695183700), .const (.int .i64 1986661051), .const (.int .i64 2177026350), .const (.int .i64 2456956037), .const (.int .i64 2730485921), .const (.int .i64 2820302411), .const (.int .i64 3259730800), .const (.int .i64 3345764771), .const (.int .i64 3516065817), .const (.int .i64 3600352804), .const (.int .i64 4094571909), .const (.int .i64 275423344), .const (.int .i64 430227734), .const (.int .i64 506948616), .const (.int .i64 659060556), .const (.int .i64 883997877), .const (.int .i64 958139571), .const (.int .i64 1322822218), .const (.int .i64 1537002063), .const (.int .i64 1747873779), .const (.int .i64 1955562222), .const (.int .i64 2024104815), .const (.int .i64 2227730452), .const (.int .i64 2361852424), .const (.int .i64 2428436474), .const (.int .i64 2756734187), .const (.int .i64 3204031479), .const (.int .i64 3329325298)] [[cI 1116352408], [cI 1899447441], [cI 3049323471], [cI 3921009573], [cI 961987163], [cI 1508970993], [cI 2453635748], [cI 2870763221], [cI 3624381080], [cI 310598401], [cI 607225278], [cI 1426881987], [cI 1925078388], [cI 2162078206], [cI 2614888103], [cI 3248222580], [cI 3835390401], [cI 4022224774], [cI 264347078], [cI 604807628], [cI 770255983], [cI 1249150122], [cI 1555081692], [cI 1996064986], [cI 2554220882], [cI 2821834349], [cI 2952996808], [cI 3210313671], [cI 3336571891], [cI 3584528711], [cI 113926993], [cI 338241895], [cI 666307205], [cI 773529912], [cI 1294757372], [cI 1396182291], [cI 1695183700], [cI 1986661051], [cI 2177026350], [cI 2456956037], [cI 2730485921], [cI 2820302411], [cI 3259730800], [cI 3345764771], [cI 3516065817], [cI 3600352804], [cI 4094571909], [cI 275423344], [cI 430227734], [cI 506948616], [cI 659060556], [cI 883997877], [cI 958139571], [cI 1322822218], [cI 1537002063], [cI 1747873779], [cI 1955562222], [cI 2024104815], [cI 2227730452], [cI 2361852424], [cI 2428436474], [cI 2756734187], [cI 3204031479], [cI 3329325298]] (.ints .i64 [1116352408, 1899447441, 3049323471, 3921009573, 961987163, 1508970993, 2453635748, 2870763221, 3624381080, 310598401, 607225278, 1426881987, 1925078388, 2162078206, 2614888103, 3248222580, 3835390401, 4022224774, 264347078, 604807628, 770255983, 1249150122, 1555081692, 1996064986, 2554220882, 2821834349, 2952996808, 3210313671, 3336571891, 3584528711, 113926993, 338241895, 666307205, 773529912, 1294757372, 1396182291, 1695183700, 1986661051, 2177026350, 2456956037, 2730485921, 2820302411, 3259730800, 3345764771, 3516065817, 3600352804, 4094571909, 275423344, 430227734, 506948616, 659060556, 883997877, 958139571, 1322822218, 1537002063, 1747873779, 1955562222, 2024104815, 2227730452, 2361852424, 2428436474, 2756734187, 3204031479, 3329325298])) ?_
 refine TL.rl [(0, (.one (.row 1 [])))] [] ?_
 refine T.ret ?_
 exact p_135
end Go.Proofs.YtjohlfccejljlaaGreat.Rf
