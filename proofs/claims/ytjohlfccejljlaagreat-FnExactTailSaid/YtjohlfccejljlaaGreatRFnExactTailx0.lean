/- The functions that FnExactTail calls, each held to what it answers. Printed by a program of this session; Lean checks it. -/
import Derived.Test.YtjohlfccejljlaaGreatProg
import Derived.Test.YtjohlfccejljlaaGreatTrFnExactTailc
namespace Go.Proofs.YtjohlfccejljlaaGreat.Rf
open Go.RowKit
set_option linter.unusedVariables false
set_option linter.unnecessarySimpa false
set_option linter.unusedSimpArgs false
set_option maxRecDepth 100000
set_option maxHeartbeats 40000000
@[ext] structure SLimits where
  f0 : Int
  f1 : Int
  f2 : Int
  f3 : Int
  f4 : Int
  deriving Inhabited, DecidableEq
def SLimits.cells (x : SLimits) : List D := [(.int .i64 x.f0), (.int .i64 x.f1), (.int .i64 x.f2), (.int .i64 x.f3), (.int .i64 x.f4)]
theorem SLimits.len (x : SLimits) : x.cells.length = 5 := rfl
def SLimits.sz (x : SLimits) (l : Int) : Int := l
def SLimits.sm (x : SLimits) : Prop := True
def SLimits.ok (x : SLimits) : Prop := (I64 x.f0) ∧ (I64 x.f1) ∧ (I64 x.f2) ∧ (I64 x.f3) ∧ (I64 x.f4)
theorem SLimits.sz_le (x : SLimits) {l : Int} (h : 0 ≤ l) : x.sz l ≤ l := by
  unfold SLimits.sz
  exact Int.le_refl _
theorem SLimits.sz_sm (x : SLimits) {l : Int} (h0 : 0 ≤ l) (hl : l ≤ 1048576) (h : 0 ≤ x.sz l) : x.sm := by
  unfold SLimits.sz at h
  exact trivial
def SLimits.cm (x : SLimits) : Int := 0
def SLimits.hm (a b : SLimits) (k : Int) : Prop := True
theorem SLimits.cm_nn (x : SLimits) : 0 ≤ x.cm := by
  unfold SLimits.cm
  omega
theorem SLimits.cm_le {x : SLimits} (h : x.sm) : x.cm ≤ 0 := by
  unfold SLimits.cm
  omega
def SLimits.ce (x : SLimits) : Int := 1 + 1 + 1 + 1 + 1
def SLimits.me (x : SLimits) (k : Int) : SLimits := ⟨k, k + 1, (k + 1) + 1, ((k + 1) + 1) + 1, (((k + 1) + 1) + 1) + 1⟩
theorem SLimits.ce_nn (x : SLimits) : 0 ≤ x.ce := by
  unfold SLimits.ce
  omega
theorem SLimits.ce_le {x : SLimits} (h : x.sm) : x.ce ≤ 5 := by
  unfold SLimits.ce
  omega
theorem SLimits.cL_le {xs : List SLimits} (h : xs.length ≤ 1048576 ∧ ∀ y ∈ xs, SLimits.sm y) : cntL SLimits.ce xs ≤ 5242880 := by
  have h1 := cntL_le (cnt := SLimits.ce) (n := 5) xs fun x hx => SLimits.ce_le (h.2 x hx)
  have h2 := h.1
  omega
@[ext] structure SVote where
  f0 : Int
  f1 : Int
  f2 : List Int
  f3 : Int
  f4 : List Int
  deriving Inhabited, DecidableEq
def SVote.cells (x : SVote) : List D := [(.int .i64 x.f0), (.int .i64 x.f1), (.ints .u8 x.f2), (.int .i64 x.f3), (.ints .u8 x.f4)]
theorem SVote.len (x : SVote) : x.cells.length = 5 := rfl
def SVote.sz (x : SVote) (l : Int) : Int := szThen (szB x.f2 l) fun l0 => szThen (szB x.f4 l0) fun l1 => l1
def SVote.sm (x : SVote) : Prop := (x.f2.length ≤ 1048576) ∧ (x.f4.length ≤ 1048576)
def SVote.ok (x : SVote) : Prop := (I64 x.f0) ∧ (I64 x.f1) ∧ (U8s x.f2) ∧ (I64 x.f3) ∧ (U8s x.f4)
theorem SVote.sz_le (x : SVote) {l : Int} (h : 0 ≤ l) : x.sz l ≤ l := by
  unfold SVote.sz
  exact szThen_le' (szB_le _ h) h fun l0 h0 => szThen_le' (szB_le _ h0) h0 fun l1 h1 => Int.le_refl _
theorem SVote.sz_sm (x : SVote) {l : Int} (h0 : 0 ≤ l) (hl : l ≤ 1048576) (h : 0 ≤ x.sz l) : x.sm := by
  unfold SVote.sz at h
  have ⟨p0, h⟩ := szThen_nn h
  have e0 : (szB x.f2 l) ≤ l := szB_le _ h0
  have s0 := szB_sm p0 hl
  have c0 := Int.le_trans e0 hl
  have ⟨p1, h⟩ := szThen_nn h
  have e1 : (szB x.f4 (szB x.f2 l)) ≤ (szB x.f2 l) := szB_le _ p0
  have s1 := szB_sm p1 c0
  have c1 := Int.le_trans e1 c0
  exact ⟨s0, s1⟩
def SVote.cm (x : SVote) : Int := (x.f2.length : Int) + (x.f4.length : Int)
def SVote.hm (a b : SVote) (k : Int) : Prop := (b.f2 = mkB a.f2 k) ∧ (b.f4 = mkB a.f4 (k + (a.f2.length : Int)))
theorem SVote.cm_nn (x : SVote) : 0 ≤ x.cm := by
  unfold SVote.cm
  omega
theorem SVote.cm_le {x : SVote} (h : x.sm) : x.cm ≤ 2097152 := by
  unfold SVote.cm
  obtain ⟨p2, p4⟩ := h
  have e2 := p2
  have e4 := p4
  omega
theorem SVote.sm_df : (default : SVote).sm := by (repeat' (first | exact Nat.zero_le _ | (intro y hy; exact absurd hy (List.not_mem_nil)) | apply And.intro))
def SVote.ce (x : SVote) : Int := 1 + 1 + (x.f2.length : Int) + 1 + (x.f4.length : Int)
def SVote.me (x : SVote) (k : Int) : SVote := ⟨k, k + 1, mkB x.f2 ((k + 1) + 1), ((k + 1) + 1) + (x.f2.length : Int), mkB x.f4 ((((k + 1) + 1) + (x.f2.length : Int)) + 1)⟩
theorem SVote.ce_nn (x : SVote) : 0 ≤ x.ce := by
  unfold SVote.ce
  omega
theorem SVote.ce_le {x : SVote} (h : x.sm) : x.ce ≤ 2097155 := by
  unfold SVote.ce
  obtain ⟨p2, p4⟩ := h
  have e2 := p2
  have e4 := p4
  omega
theorem SVote.cL_le {xs : List SVote} (h : xs.length ≤ 1048576 ∧ ∀ y ∈ xs, SVote.sm y) : cntL SVote.ce xs ≤ 2199026401280 := by
  have h1 := cntL_le (cnt := SVote.ce) (n := 2097155) xs fun x hx => SVote.ce_le (h.2 x hx)
  have h2 := h.1
  omega
@[ext] structure SQc where
  f0 : Int
  f1 : Int
  f2 : List Int
  f3 : List Int
  f4 : List (List Int)
  deriving Inhabited, DecidableEq
def SQc.cells (x : SQc) : List D := [(.int .i64 x.f0), (.int .i64 x.f1), (.ints .u8 x.f2), (.ints .u8 x.f3), (.bss x.f4)]
theorem SQc.len (x : SQc) : x.cells.length = 5 := rfl
def SQc.sz (x : SQc) (l : Int) : Int := szThen (szB x.f2 l) fun l0 => szThen (szB x.f3 l0) fun l1 => szThen (szLs szB x.f4 l1) fun l2 => l2
def SQc.sm (x : SQc) : Prop := (x.f2.length ≤ 1048576) ∧ (x.f3.length ≤ 1048576) ∧ (x.f4.length ≤ 1048576 ∧ ∀ y ∈ x.f4, y.length ≤ 1048576)
def SQc.ok (x : SQc) : Prop := (I64 x.f0) ∧ (I64 x.f1) ∧ (U8s x.f2) ∧ (U8s x.f3) ∧ (∀ y ∈ x.f4, U8s y)
theorem SQc.sz_le (x : SQc) {l : Int} (h : 0 ≤ l) : x.sz l ≤ l := by
  unfold SQc.sz
  exact szThen_le' (szB_le _ h) h fun l0 h0 => szThen_le' (szB_le _ h0) h0 fun l1 h1 => szThen_le' (szLs_le (fun x l h => szB_le x h) _ h1) h1 fun l2 h2 => Int.le_refl _
theorem SQc.sz_sm (x : SQc) {l : Int} (h0 : 0 ≤ l) (hl : l ≤ 1048576) (h : 0 ≤ x.sz l) : x.sm := by
  unfold SQc.sz at h
  have ⟨p0, h⟩ := szThen_nn h
  have e0 : (szB x.f2 l) ≤ l := szB_le _ h0
  have s0 := szB_sm p0 hl
  have c0 := Int.le_trans e0 hl
  have ⟨p1, h⟩ := szThen_nn h
  have e1 : (szB x.f3 (szB x.f2 l)) ≤ (szB x.f2 l) := szB_le _ p0
  have s1 := szB_sm p1 c0
  have c1 := Int.le_trans e1 c0
  have ⟨p2, h⟩ := szThen_nn h
  have e2 : (szLs szB x.f4 (szB x.f3 (szB x.f2 l))) ≤ (szB x.f3 (szB x.f2 l)) := szLs_le (fun x l h => szB_le x h) _ p1
  have s2 := szLs_sm (p := fun y => y.length ≤ 1048576) (fun x l h => szB_le x h) (fun x l h h0 hl => szB_sm h hl) p2 c1
  have c2 := Int.le_trans e2 c1
  exact ⟨s0, s1, s2⟩
def SQc.cm (x : SQc) : Int := (x.f2.length : Int) + (x.f3.length : Int) + cntL (fun x : List Int => (x.length : Int)) x.f4
def SQc.hm (a b : SQc) (k : Int) : Prop := (b.f2 = mkB a.f2 k) ∧ (b.f3 = mkB a.f3 (k + (a.f2.length : Int))) ∧ (b.f4 = mkBs a.f4 ((k + (a.f2.length : Int)) + (a.f3.length : Int)))
theorem SQc.cm_nn (x : SQc) : 0 ≤ x.cm := by
  unfold SQc.cm
  have n4 := cntBs_nonneg x.f4
  omega
theorem SQc.cm_le {x : SQc} (h : x.sm) : x.cm ≤ 1099513724928 := by
  unfold SQc.cm
  obtain ⟨p2, p3, p4⟩ := h
  have e2 := p2
  have e3 := p3
  have e4 := cntBs_le p4
  omega
theorem SQc.sm_df : (default : SQc).sm := by (repeat' (first | exact Nat.zero_le _ | (intro y hy; exact absurd hy (List.not_mem_nil)) | apply And.intro))
def SQc.ce (x : SQc) : Int := 1 + 1 + (x.f2.length : Int) + (x.f3.length : Int) + cntL (fun x : List Int => (x.length : Int)) x.f4
def SQc.me (x : SQc) (k : Int) : SQc := ⟨k, k + 1, mkB x.f2 ((k + 1) + 1), mkB x.f3 (((k + 1) + 1) + (x.f2.length : Int)), mkBs x.f4 ((((k + 1) + 1) + (x.f2.length : Int)) + (x.f3.length : Int))⟩
theorem SQc.ce_nn (x : SQc) : 0 ≤ x.ce := by
  unfold SQc.ce
  have n4 := cntBs_nonneg x.f4
  omega
theorem SQc.ce_le {x : SQc} (h : x.sm) : x.ce ≤ 1099513724930 := by
  unfold SQc.ce
  obtain ⟨p2, p3, p4⟩ := h
  have e2 := p2
  have e3 := p3
  have e4 := cntBs_le p4
  omega
theorem SQc.cL_le {xs : List SQc} (h : xs.length ≤ 1048576 ∧ ∀ y ∈ xs, SQc.sm y) : cntL SQc.ce xs ≤ 1152923703632199680 := by
  have h1 := cntL_le (cnt := SQc.ce) (n := 1099513724930) xs fun x hx => SQc.ce_le (h.2 x hx)
  have h2 := h.1
  omega
@[ext] structure SHead where
  f0 : Int
  f1 : Int
  f2 : Int
  f3 : List Int
  f4 : List Int
  f5 : SQc
  deriving Inhabited, DecidableEq
def SHead.cells (x : SHead) : List D := [(.int .i64 x.f0), (.int .i64 x.f1), (.int .i64 x.f2), (.ints .u8 x.f3), (.ints .u8 x.f4), (.int .i64 x.f5.f0), (.int .i64 x.f5.f1), (.ints .u8 x.f5.f2), (.ints .u8 x.f5.f3), (.bss x.f5.f4)]
theorem SHead.len (x : SHead) : x.cells.length = 10 := rfl
def SHead.sz (x : SHead) (l : Int) : Int := szThen (szB x.f3 l) fun l0 => szThen (szB x.f4 l0) fun l1 => szThen (SQc.sz x.f5 l1) fun l2 => l2
def SHead.sm (x : SHead) : Prop := (x.f3.length ≤ 1048576) ∧ (x.f4.length ≤ 1048576) ∧ (x.f5.sm)
def SHead.ok (x : SHead) : Prop := (I64 x.f0) ∧ (I64 x.f1) ∧ (I64 x.f2) ∧ (U8s x.f3) ∧ (U8s x.f4) ∧ (x.f5.ok)
theorem SHead.sz_le (x : SHead) {l : Int} (h : 0 ≤ l) : x.sz l ≤ l := by
  unfold SHead.sz
  exact szThen_le' (szB_le _ h) h fun l0 h0 => szThen_le' (szB_le _ h0) h0 fun l1 h1 => szThen_le' (SQc.sz_le _ h1) h1 fun l2 h2 => Int.le_refl _
theorem SHead.sz_sm (x : SHead) {l : Int} (h0 : 0 ≤ l) (hl : l ≤ 1048576) (h : 0 ≤ x.sz l) : x.sm := by
  unfold SHead.sz at h
  have ⟨p0, h⟩ := szThen_nn h
  have e0 : (szB x.f3 l) ≤ l := szB_le _ h0
  have s0 := szB_sm p0 hl
  have c0 := Int.le_trans e0 hl
  have ⟨p1, h⟩ := szThen_nn h
  have e1 : (szB x.f4 (szB x.f3 l)) ≤ (szB x.f3 l) := szB_le _ p0
  have s1 := szB_sm p1 c0
  have c1 := Int.le_trans e1 c0
  have ⟨p2, h⟩ := szThen_nn h
  have e2 : (SQc.sz x.f5 (szB x.f4 (szB x.f3 l))) ≤ (szB x.f4 (szB x.f3 l)) := SQc.sz_le _ p1
  have s2 := SQc.sz_sm _ p1 c1 p2
  have c2 := Int.le_trans e2 c1
  exact ⟨s0, s1, s2⟩
def SHead.cm (x : SHead) : Int := (x.f3.length : Int) + (x.f4.length : Int) + x.f5.cm
def SHead.hm (a b : SHead) (k : Int) : Prop := (b.f3 = mkB a.f3 k) ∧ (b.f4 = mkB a.f4 (k + (a.f3.length : Int))) ∧ (SQc.hm a.f5 b.f5 ((k + (a.f3.length : Int)) + (a.f4.length : Int)))
theorem SHead.cm_nn (x : SHead) : 0 ≤ x.cm := by
  unfold SHead.cm
  have n5 := SQc.cm_nn x.f5
  omega
theorem SHead.cm_le {x : SHead} (h : x.sm) : x.cm ≤ 1099515822080 := by
  unfold SHead.cm
  obtain ⟨p3, p4, p5⟩ := h
  have e3 := p3
  have e4 := p4
  have e5 := SQc.cm_le p5
  omega
theorem SHead.sm_df : (default : SHead).sm := by (repeat' (first | exact Nat.zero_le _ | (intro y hy; exact absurd hy (List.not_mem_nil)) | apply And.intro))
def SHead.ce (x : SHead) : Int := 1 + 1 + 1 + (x.f3.length : Int) + (x.f4.length : Int) + x.f5.ce
def SHead.me (x : SHead) (k : Int) : SHead := ⟨k, k + 1, (k + 1) + 1, mkB x.f3 (((k + 1) + 1) + 1), mkB x.f4 ((((k + 1) + 1) + 1) + (x.f3.length : Int)), x.f5.me (((((k + 1) + 1) + 1) + (x.f3.length : Int)) + (x.f4.length : Int))⟩
theorem SHead.ce_nn (x : SHead) : 0 ≤ x.ce := by
  unfold SHead.ce
  have n5 := SQc.ce_nn x.f5
  omega
theorem SHead.ce_le {x : SHead} (h : x.sm) : x.ce ≤ 1099515822085 := by
  unfold SHead.ce
  obtain ⟨p3, p4, p5⟩ := h
  have e3 := p3
  have e4 := p4
  have e5 := SQc.ce_le p5
  omega
theorem SHead.cL_le {xs : List SHead} (h : xs.length ≤ 1048576 ∧ ∀ y ∈ xs, SHead.sm y) : cntL SHead.ce xs ≤ 1152925902658600960 := by
  have h1 := cntL_le (cnt := SHead.ce) (n := 1099515822085) xs fun x hx => SHead.ce_le (h.2 x hx)
  have h2 := h.1
  omega
@[ext] structure SBlock where
  f0 : SHead
  f1 : List (List Int)
  deriving Inhabited, DecidableEq
def SBlock.cells (x : SBlock) : List D := [(.int .i64 x.f0.f0), (.int .i64 x.f0.f1), (.int .i64 x.f0.f2), (.ints .u8 x.f0.f3), (.ints .u8 x.f0.f4), (.int .i64 x.f0.f5.f0), (.int .i64 x.f0.f5.f1), (.ints .u8 x.f0.f5.f2), (.ints .u8 x.f0.f5.f3), (.bss x.f0.f5.f4), (.bss x.f1)]
theorem SBlock.len (x : SBlock) : x.cells.length = 11 := rfl
def SBlock.sz (x : SBlock) (l : Int) : Int := szThen (SHead.sz x.f0 l) fun l0 => szThen (szLs szB x.f1 l0) fun l1 => l1
def SBlock.sm (x : SBlock) : Prop := (x.f0.sm) ∧ (x.f1.length ≤ 1048576 ∧ ∀ y ∈ x.f1, y.length ≤ 1048576)
def SBlock.ok (x : SBlock) : Prop := (x.f0.ok) ∧ (∀ y ∈ x.f1, U8s y)
theorem SBlock.sz_le (x : SBlock) {l : Int} (h : 0 ≤ l) : x.sz l ≤ l := by
  unfold SBlock.sz
  exact szThen_le' (SHead.sz_le _ h) h fun l0 h0 => szThen_le' (szLs_le (fun x l h => szB_le x h) _ h0) h0 fun l1 h1 => Int.le_refl _
theorem SBlock.sz_sm (x : SBlock) {l : Int} (h0 : 0 ≤ l) (hl : l ≤ 1048576) (h : 0 ≤ x.sz l) : x.sm := by
  unfold SBlock.sz at h
  have ⟨p0, h⟩ := szThen_nn h
  have e0 : (SHead.sz x.f0 l) ≤ l := SHead.sz_le _ h0
  have s0 := SHead.sz_sm _ h0 hl p0
  have c0 := Int.le_trans e0 hl
  have ⟨p1, h⟩ := szThen_nn h
  have e1 : (szLs szB x.f1 (SHead.sz x.f0 l)) ≤ (SHead.sz x.f0 l) := szLs_le (fun x l h => szB_le x h) _ p0
  have s1 := szLs_sm (p := fun y => y.length ≤ 1048576) (fun x l h => szB_le x h) (fun x l h h0 hl => szB_sm h hl) p1 c0
  have c1 := Int.le_trans e1 c0
  exact ⟨s0, s1⟩
def SBlock.cm (x : SBlock) : Int := x.f0.cm + cntL (fun x : List Int => (x.length : Int)) x.f1
def SBlock.hm (a b : SBlock) (k : Int) : Prop := (SHead.hm a.f0 b.f0 k) ∧ (b.f1 = mkBs a.f1 (k + a.f0.cm))
theorem SBlock.cm_nn (x : SBlock) : 0 ≤ x.cm := by
  unfold SBlock.cm
  have n0 := SHead.cm_nn x.f0
  have n1 := cntBs_nonneg x.f1
  omega
theorem SBlock.cm_le {x : SBlock} (h : x.sm) : x.cm ≤ 2199027449856 := by
  unfold SBlock.cm
  obtain ⟨p0, p1⟩ := h
  have e0 := SHead.cm_le p0
  have e1 := cntBs_le p1
  omega
theorem SBlock.sm_df : (default : SBlock).sm := by (repeat' (first | exact Nat.zero_le _ | (intro y hy; exact absurd hy (List.not_mem_nil)) | apply And.intro))
def SBlock.ce (x : SBlock) : Int := x.f0.ce + cntL (fun x : List Int => (x.length : Int)) x.f1
def SBlock.me (x : SBlock) (k : Int) : SBlock := ⟨x.f0.me k, mkBs x.f1 ((((((((((k + 1) + 1) + 1) + (x.f0.f3.length : Int)) + (x.f0.f4.length : Int)) + 1) + 1) + (x.f0.f5.f2.length : Int)) + (x.f0.f5.f3.length : Int)) + cntL (fun x : List Int => (x.length : Int)) x.f0.f5.f4)⟩
theorem SBlock.ce_nn (x : SBlock) : 0 ≤ x.ce := by
  unfold SBlock.ce
  have n0 := SHead.ce_nn x.f0
  have n1 := cntBs_nonneg x.f1
  omega
theorem SBlock.ce_le {x : SBlock} (h : x.sm) : x.ce ≤ 2199027449861 := by
  unfold SBlock.ce
  obtain ⟨p0, p1⟩ := h
  have e0 := SHead.ce_le p0
  have e1 := cntBs_le p1
  omega
theorem SBlock.cL_le {xs : List SBlock} (h : xs.length ≤ 1048576 ∧ ∀ y ∈ xs, SBlock.sm y) : cntL SBlock.ce xs ≤ 2305847407265447936 := by
  have h1 := cntL_le (cnt := SBlock.ce) (n := 2199027449861) xs fun x hx => SBlock.ce_le (h.2 x hx)
  have h2 := h.1
  omega
@[ext] structure SEntry where
  f0 : Int
  f1 : Int
  f2 : List Int
  deriving Inhabited, DecidableEq
def SEntry.cells (x : SEntry) : List D := [(.int .i64 x.f0), (.int .i64 x.f1), (.ints .u8 x.f2)]
theorem SEntry.len (x : SEntry) : x.cells.length = 3 := rfl
def SEntry.sz (x : SEntry) (l : Int) : Int := szThen (szB x.f2 l) fun l0 => l0
def SEntry.sm (x : SEntry) : Prop := (x.f2.length ≤ 1048576)
def SEntry.ok (x : SEntry) : Prop := (I64 x.f0) ∧ (I64 x.f1) ∧ (U8s x.f2)
theorem SEntry.sz_le (x : SEntry) {l : Int} (h : 0 ≤ l) : x.sz l ≤ l := by
  unfold SEntry.sz
  exact szThen_le' (szB_le _ h) h fun l0 h0 => Int.le_refl _
theorem SEntry.sz_sm (x : SEntry) {l : Int} (h0 : 0 ≤ l) (hl : l ≤ 1048576) (h : 0 ≤ x.sz l) : x.sm := by
  unfold SEntry.sz at h
  have ⟨p0, h⟩ := szThen_nn h
  have e0 : (szB x.f2 l) ≤ l := szB_le _ h0
  have s0 := szB_sm p0 hl
  have c0 := Int.le_trans e0 hl
  exact s0
def SEntry.cm (x : SEntry) : Int := (x.f2.length : Int)
def SEntry.hm (a b : SEntry) (k : Int) : Prop := (b.f2 = mkB a.f2 k)
theorem SEntry.cm_nn (x : SEntry) : 0 ≤ x.cm := by
  unfold SEntry.cm
  omega
theorem SEntry.cm_le {x : SEntry} (h : x.sm) : x.cm ≤ 1048576 := by
  unfold SEntry.cm
  have p2 : x.f2.length ≤ 1048576 := h
  have e2 := p2
  omega
theorem SEntry.sm_df : (default : SEntry).sm := by (repeat' (first | exact Nat.zero_le _ | (intro y hy; exact absurd hy (List.not_mem_nil)) | apply And.intro))
def SEntry.ce (x : SEntry) : Int := 1 + 1 + (x.f2.length : Int)
def SEntry.me (x : SEntry) (k : Int) : SEntry := ⟨k, k + 1, mkB x.f2 ((k + 1) + 1)⟩
theorem SEntry.ce_nn (x : SEntry) : 0 ≤ x.ce := by
  unfold SEntry.ce
  omega
theorem SEntry.ce_le {x : SEntry} (h : x.sm) : x.ce ≤ 1048578 := by
  unfold SEntry.ce
  have p2 : x.f2.length ≤ 1048576 := h
  have e2 := p2
  omega
theorem SEntry.cL_le {xs : List SEntry} (h : xs.length ≤ 1048576 ∧ ∀ y ∈ xs, SEntry.sm y) : cntL SEntry.ce xs ≤ 1099513724928 := by
  have h1 := cntL_le (cnt := SEntry.ce) (n := 1048578) xs fun x hx => SEntry.ce_le (h.2 x hx)
  have h2 := h.1
  omega
@[ext] structure STc where
  f0 : Int
  f1 : List SEntry
  deriving Inhabited, DecidableEq
def STc.cells (x : STc) : List D := [(.int .i64 x.f0), (.sl 3 (x.f1.map SEntry.cells))]
theorem STc.len (x : STc) : x.cells.length = 2 := rfl
def STc.sz (x : STc) (l : Int) : Int := szThen (szLs SEntry.sz x.f1 l) fun l0 => l0
def STc.sm (x : STc) : Prop := (x.f1.length ≤ 1048576 ∧ ∀ y ∈ x.f1, SEntry.sm y)
def STc.ok (x : STc) : Prop := (I64 x.f0) ∧ (∀ y ∈ x.f1, SEntry.ok y)
theorem STc.sz_le (x : STc) {l : Int} (h : 0 ≤ l) : x.sz l ≤ l := by
  unfold STc.sz
  exact szThen_le' (szLs_le (fun x l h => SEntry.sz_le x h) _ h) h fun l0 h0 => Int.le_refl _
theorem STc.sz_sm (x : STc) {l : Int} (h0 : 0 ≤ l) (hl : l ≤ 1048576) (h : 0 ≤ x.sz l) : x.sm := by
  unfold STc.sz at h
  have ⟨p0, h⟩ := szThen_nn h
  have e0 : (szLs SEntry.sz x.f1 l) ≤ l := szLs_le (fun x l h => SEntry.sz_le x h) _ h0
  have s0 := szLs_sm (p := SEntry.sm) (fun x l h => SEntry.sz_le x h) (fun x l h h0 hl => SEntry.sz_sm x h0 hl h) p0 hl
  have c0 := Int.le_trans e0 hl
  exact s0
def STc.cm (x : STc) : Int := cntL SEntry.ce x.f1
def STc.hm (a b : STc) (k : Int) : Prop := (b.f1 = mkL SEntry.ce SEntry.me a.f1 k)
theorem STc.cm_nn (x : STc) : 0 ≤ x.cm := by
  unfold STc.cm
  have n1 := cntL_nonneg SEntry.ce_nn x.f1
  omega
theorem STc.cm_le {x : STc} (h : x.sm) : x.cm ≤ 1099513724928 := by
  unfold STc.cm
  have p1 : x.f1.length ≤ 1048576 ∧ ∀ y ∈ x.f1, SEntry.sm y := h
  have e1 := SEntry.cL_le p1
  omega
theorem STc.sm_df : (default : STc).sm := by (repeat' (first | exact Nat.zero_le _ | (intro y hy; exact absurd hy (List.not_mem_nil)) | apply And.intro))
def STc.ce (x : STc) : Int := 1 + cntL SEntry.ce x.f1
def STc.me (x : STc) (k : Int) : STc := ⟨k, mkL SEntry.ce SEntry.me x.f1 (k + 1)⟩
theorem STc.ce_nn (x : STc) : 0 ≤ x.ce := by
  unfold STc.ce
  have n1 := cntL_nonneg SEntry.ce_nn x.f1
  omega
theorem STc.ce_le {x : STc} (h : x.sm) : x.ce ≤ 1099513724929 := by
  unfold STc.ce
  have p1 : x.f1.length ≤ 1048576 ∧ ∀ y ∈ x.f1, SEntry.sm y := h
  have e1 := SEntry.cL_le p1
  omega
theorem STc.cL_le {xs : List STc} (h : xs.length ≤ 1048576 ∧ ∀ y ∈ xs, STc.sm y) : cntL STc.ce xs ≤ 1152923703631151104 := by
  have h1 := cntL_le (cnt := STc.ce) (n := 1099513724929) xs fun x hx => STc.ce_le (h.2 x hx)
  have h2 := h.1
  omega
@[ext] structure SProof where
  f0 : List SHead
  f1 : SQc
  deriving Inhabited, DecidableEq
def SProof.cells (x : SProof) : List D := [(.sl 10 (x.f0.map SHead.cells)), (.int .i64 x.f1.f0), (.int .i64 x.f1.f1), (.ints .u8 x.f1.f2), (.ints .u8 x.f1.f3), (.bss x.f1.f4)]
theorem SProof.len (x : SProof) : x.cells.length = 6 := rfl
def SProof.sz (x : SProof) (l : Int) : Int := szThen (szLs SHead.sz x.f0 l) fun l0 => szThen (SQc.sz x.f1 l0) fun l1 => l1
def SProof.sm (x : SProof) : Prop := (x.f0.length ≤ 1048576 ∧ ∀ y ∈ x.f0, SHead.sm y) ∧ (x.f1.sm)
def SProof.ok (x : SProof) : Prop := (∀ y ∈ x.f0, SHead.ok y) ∧ (x.f1.ok)
theorem SProof.sz_le (x : SProof) {l : Int} (h : 0 ≤ l) : x.sz l ≤ l := by
  unfold SProof.sz
  exact szThen_le' (szLs_le (fun x l h => SHead.sz_le x h) _ h) h fun l0 h0 => szThen_le' (SQc.sz_le _ h0) h0 fun l1 h1 => Int.le_refl _
theorem SProof.sz_sm (x : SProof) {l : Int} (h0 : 0 ≤ l) (hl : l ≤ 1048576) (h : 0 ≤ x.sz l) : x.sm := by
  unfold SProof.sz at h
  have ⟨p0, h⟩ := szThen_nn h
  have e0 : (szLs SHead.sz x.f0 l) ≤ l := szLs_le (fun x l h => SHead.sz_le x h) _ h0
  have s0 := szLs_sm (p := SHead.sm) (fun x l h => SHead.sz_le x h) (fun x l h h0 hl => SHead.sz_sm x h0 hl h) p0 hl
  have c0 := Int.le_trans e0 hl
  have ⟨p1, h⟩ := szThen_nn h
  have e1 : (SQc.sz x.f1 (szLs SHead.sz x.f0 l)) ≤ (szLs SHead.sz x.f0 l) := SQc.sz_le _ p0
  have s1 := SQc.sz_sm _ p0 c0 p1
  have c1 := Int.le_trans e1 c0
  exact ⟨s0, s1⟩
def SProof.cm (x : SProof) : Int := cntL SHead.ce x.f0 + x.f1.cm
def SProof.hm (a b : SProof) (k : Int) : Prop := (b.f0 = mkL SHead.ce SHead.me a.f0 k) ∧ (SQc.hm a.f1 b.f1 (k + cntL SHead.ce a.f0))
theorem SProof.cm_nn (x : SProof) : 0 ≤ x.cm := by
  unfold SProof.cm
  have n0 := cntL_nonneg SHead.ce_nn x.f0
  have n1 := SQc.cm_nn x.f1
  omega
theorem SProof.cm_le {x : SProof} (h : x.sm) : x.cm ≤ 1152927002172325888 := by
  unfold SProof.cm
  obtain ⟨p0, p1⟩ := h
  have e0 := SHead.cL_le p0
  have e1 := SQc.cm_le p1
  omega
theorem SProof.sm_df : (default : SProof).sm := by (repeat' (first | exact Nat.zero_le _ | (intro y hy; exact absurd hy (List.not_mem_nil)) | apply And.intro))
def SProof.ce (x : SProof) : Int := cntL SHead.ce x.f0 + x.f1.ce
def SProof.me (x : SProof) (k : Int) : SProof := ⟨mkL SHead.ce SHead.me x.f0 k, x.f1.me (k + cntL SHead.ce x.f0)⟩
theorem SProof.ce_nn (x : SProof) : 0 ≤ x.ce := by
  unfold SProof.ce
  have n0 := cntL_nonneg SHead.ce_nn x.f0
  have n1 := SQc.ce_nn x.f1
  omega
theorem SProof.ce_le {x : SProof} (h : x.sm) : x.ce ≤ 1152927002172325890 := by
  unfold SProof.ce
  obtain ⟨p0, p1⟩ := h
  have e0 := SHead.cL_le p0
  have e1 := SQc.ce_le p1
  omega
theorem SProof.cL_le {xs : List SProof} (h : xs.length ≤ 1048576 ∧ ∀ y ∈ xs, SProof.sm y) : cntL SProof.ce xs ≤ 1208931584229848792432640 := by
  have h1 := cntL_le (cnt := SProof.ce) (n := 1152927002172325890) xs fun x hx => SProof.ce_le (h.2 x hx)
  have h2 := h.1
  omega
@[ext] structure SIncl where
  f0 : Int
  f1 : Int
  f2 : Int
  f3 : List Int
  f4 : List (List Int)
  deriving Inhabited, DecidableEq
def SIncl.cells (x : SIncl) : List D := [(.int .i64 x.f0), (.int .i64 x.f1), (.int .i64 x.f2), (.ints .u8 x.f3), (.bss x.f4)]
theorem SIncl.len (x : SIncl) : x.cells.length = 5 := rfl
def SIncl.sz (x : SIncl) (l : Int) : Int := szThen (szB x.f3 l) fun l0 => szThen (szLs szB x.f4 l0) fun l1 => l1
def SIncl.sm (x : SIncl) : Prop := (x.f3.length ≤ 1048576) ∧ (x.f4.length ≤ 1048576 ∧ ∀ y ∈ x.f4, y.length ≤ 1048576)
def SIncl.ok (x : SIncl) : Prop := (I64 x.f0) ∧ (I64 x.f1) ∧ (I64 x.f2) ∧ (U8s x.f3) ∧ (∀ y ∈ x.f4, U8s y)
theorem SIncl.sz_le (x : SIncl) {l : Int} (h : 0 ≤ l) : x.sz l ≤ l := by
  unfold SIncl.sz
  exact szThen_le' (szB_le _ h) h fun l0 h0 => szThen_le' (szLs_le (fun x l h => szB_le x h) _ h0) h0 fun l1 h1 => Int.le_refl _
theorem SIncl.sz_sm (x : SIncl) {l : Int} (h0 : 0 ≤ l) (hl : l ≤ 1048576) (h : 0 ≤ x.sz l) : x.sm := by
  unfold SIncl.sz at h
  have ⟨p0, h⟩ := szThen_nn h
  have e0 : (szB x.f3 l) ≤ l := szB_le _ h0
  have s0 := szB_sm p0 hl
  have c0 := Int.le_trans e0 hl
  have ⟨p1, h⟩ := szThen_nn h
  have e1 : (szLs szB x.f4 (szB x.f3 l)) ≤ (szB x.f3 l) := szLs_le (fun x l h => szB_le x h) _ p0
  have s1 := szLs_sm (p := fun y => y.length ≤ 1048576) (fun x l h => szB_le x h) (fun x l h h0 hl => szB_sm h hl) p1 c0
  have c1 := Int.le_trans e1 c0
  exact ⟨s0, s1⟩
def SIncl.cm (x : SIncl) : Int := (x.f3.length : Int) + cntL (fun x : List Int => (x.length : Int)) x.f4
def SIncl.hm (a b : SIncl) (k : Int) : Prop := (b.f3 = mkB a.f3 k) ∧ (b.f4 = mkBs a.f4 (k + (a.f3.length : Int)))
theorem SIncl.cm_nn (x : SIncl) : 0 ≤ x.cm := by
  unfold SIncl.cm
  have n4 := cntBs_nonneg x.f4
  omega
theorem SIncl.cm_le {x : SIncl} (h : x.sm) : x.cm ≤ 1099512676352 := by
  unfold SIncl.cm
  obtain ⟨p3, p4⟩ := h
  have e3 := p3
  have e4 := cntBs_le p4
  omega
theorem SIncl.sm_df : (default : SIncl).sm := by (repeat' (first | exact Nat.zero_le _ | (intro y hy; exact absurd hy (List.not_mem_nil)) | apply And.intro))
def SIncl.ce (x : SIncl) : Int := 1 + 1 + 1 + (x.f3.length : Int) + cntL (fun x : List Int => (x.length : Int)) x.f4
def SIncl.me (x : SIncl) (k : Int) : SIncl := ⟨k, k + 1, (k + 1) + 1, mkB x.f3 (((k + 1) + 1) + 1), mkBs x.f4 ((((k + 1) + 1) + 1) + (x.f3.length : Int))⟩
theorem SIncl.ce_nn (x : SIncl) : 0 ≤ x.ce := by
  unfold SIncl.ce
  have n4 := cntBs_nonneg x.f4
  omega
theorem SIncl.ce_le {x : SIncl} (h : x.sm) : x.ce ≤ 1099512676355 := by
  unfold SIncl.ce
  obtain ⟨p3, p4⟩ := h
  have e3 := p3
  have e4 := cntBs_le p4
  omega
theorem SIncl.cL_le {xs : List SIncl} (h : xs.length ≤ 1048576 ∧ ∀ y ∈ xs, SIncl.sm y) : cntL SIncl.ce xs ≤ 1152922604121620480 := by
  have h1 := cntL_le (cnt := SIncl.ce) (n := 1099512676355) xs fun x hx => SIncl.ce_le (h.2 x hx)
  have h2 := h.1
  omega
@[ext] structure SMsg where
  f0 : Int
  f1 : SVote
  f2 : SQc
  f3 : SHead
  f4 : SBlock
  f5 : STc
  f6 : SProof
  f7 : SIncl
  deriving Inhabited, DecidableEq
def SMsg.cells (x : SMsg) : List D := [(.int .i64 x.f0), (.int .i64 x.f1.f0), (.int .i64 x.f1.f1), (.ints .u8 x.f1.f2), (.int .i64 x.f1.f3), (.ints .u8 x.f1.f4), (.int .i64 x.f2.f0), (.int .i64 x.f2.f1), (.ints .u8 x.f2.f2), (.ints .u8 x.f2.f3), (.bss x.f2.f4), (.int .i64 x.f3.f0), (.int .i64 x.f3.f1), (.int .i64 x.f3.f2), (.ints .u8 x.f3.f3), (.ints .u8 x.f3.f4), (.int .i64 x.f3.f5.f0), (.int .i64 x.f3.f5.f1), (.ints .u8 x.f3.f5.f2), (.ints .u8 x.f3.f5.f3), (.bss x.f3.f5.f4), (.int .i64 x.f4.f0.f0), (.int .i64 x.f4.f0.f1), (.int .i64 x.f4.f0.f2), (.ints .u8 x.f4.f0.f3), (.ints .u8 x.f4.f0.f4), (.int .i64 x.f4.f0.f5.f0), (.int .i64 x.f4.f0.f5.f1), (.ints .u8 x.f4.f0.f5.f2), (.ints .u8 x.f4.f0.f5.f3), (.bss x.f4.f0.f5.f4), (.bss x.f4.f1), (.int .i64 x.f5.f0), (.sl 3 (x.f5.f1.map SEntry.cells)), (.sl 10 (x.f6.f0.map SHead.cells)), (.int .i64 x.f6.f1.f0), (.int .i64 x.f6.f1.f1), (.ints .u8 x.f6.f1.f2), (.ints .u8 x.f6.f1.f3), (.bss x.f6.f1.f4), (.int .i64 x.f7.f0), (.int .i64 x.f7.f1), (.int .i64 x.f7.f2), (.ints .u8 x.f7.f3), (.bss x.f7.f4)]
theorem SMsg.len (x : SMsg) : x.cells.length = 45 := rfl
def SMsg.sz (x : SMsg) (l : Int) : Int := szThen (SVote.sz x.f1 l) fun l0 => szThen (SQc.sz x.f2 l0) fun l1 => szThen (SHead.sz x.f3 l1) fun l2 => szThen (SBlock.sz x.f4 l2) fun l3 => szThen (STc.sz x.f5 l3) fun l4 => szThen (SProof.sz x.f6 l4) fun l5 => szThen (SIncl.sz x.f7 l5) fun l6 => l6
def SMsg.sm (x : SMsg) : Prop := (x.f1.sm) ∧ (x.f2.sm) ∧ (x.f3.sm) ∧ (x.f4.sm) ∧ (x.f5.sm) ∧ (x.f6.sm) ∧ (x.f7.sm)
def SMsg.ok (x : SMsg) : Prop := (I64 x.f0) ∧ (x.f1.ok) ∧ (x.f2.ok) ∧ (x.f3.ok) ∧ (x.f4.ok) ∧ (x.f5.ok) ∧ (x.f6.ok) ∧ (x.f7.ok)
theorem SMsg.sz_le (x : SMsg) {l : Int} (h : 0 ≤ l) : x.sz l ≤ l := by
  unfold SMsg.sz
  exact szThen_le' (SVote.sz_le _ h) h fun l0 h0 => szThen_le' (SQc.sz_le _ h0) h0 fun l1 h1 => szThen_le' (SHead.sz_le _ h1) h1 fun l2 h2 => szThen_le' (SBlock.sz_le _ h2) h2 fun l3 h3 => szThen_le' (STc.sz_le _ h3) h3 fun l4 h4 => szThen_le' (SProof.sz_le _ h4) h4 fun l5 h5 => szThen_le' (SIncl.sz_le _ h5) h5 fun l6 h6 => Int.le_refl _
theorem SMsg.sz_sm (x : SMsg) {l : Int} (h0 : 0 ≤ l) (hl : l ≤ 1048576) (h : 0 ≤ x.sz l) : x.sm := by
  unfold SMsg.sz at h
  have ⟨p0, h⟩ := szThen_nn h
  have e0 : (SVote.sz x.f1 l) ≤ l := SVote.sz_le _ h0
  have s0 := SVote.sz_sm _ h0 hl p0
  have c0 := Int.le_trans e0 hl
  have ⟨p1, h⟩ := szThen_nn h
  have e1 : (SQc.sz x.f2 (SVote.sz x.f1 l)) ≤ (SVote.sz x.f1 l) := SQc.sz_le _ p0
  have s1 := SQc.sz_sm _ p0 c0 p1
  have c1 := Int.le_trans e1 c0
  have ⟨p2, h⟩ := szThen_nn h
  have e2 : (SHead.sz x.f3 (SQc.sz x.f2 (SVote.sz x.f1 l))) ≤ (SQc.sz x.f2 (SVote.sz x.f1 l)) := SHead.sz_le _ p1
  have s2 := SHead.sz_sm _ p1 c1 p2
  have c2 := Int.le_trans e2 c1
  have ⟨p3, h⟩ := szThen_nn h
  have e3 : (SBlock.sz x.f4 (SHead.sz x.f3 (SQc.sz x.f2 (SVote.sz x.f1 l)))) ≤ (SHead.sz x.f3 (SQc.sz x.f2 (SVote.sz x.f1 l))) := SBlock.sz_le _ p2
  have s3 := SBlock.sz_sm _ p2 c2 p3
  have c3 := Int.le_trans e3 c2
  have ⟨p4, h⟩ := szThen_nn h
  have e4 : (STc.sz x.f5 (SBlock.sz x.f4 (SHead.sz x.f3 (SQc.sz x.f2 (SVote.sz x.f1 l))))) ≤ (SBlock.sz x.f4 (SHead.sz x.f3 (SQc.sz x.f2 (SVote.sz x.f1 l)))) := STc.sz_le _ p3
  have s4 := STc.sz_sm _ p3 c3 p4
  have c4 := Int.le_trans e4 c3
  have ⟨p5, h⟩ := szThen_nn h
  have e5 : (SProof.sz x.f6 (STc.sz x.f5 (SBlock.sz x.f4 (SHead.sz x.f3 (SQc.sz x.f2 (SVote.sz x.f1 l)))))) ≤ (STc.sz x.f5 (SBlock.sz x.f4 (SHead.sz x.f3 (SQc.sz x.f2 (SVote.sz x.f1 l))))) := SProof.sz_le _ p4
  have s5 := SProof.sz_sm _ p4 c4 p5
  have c5 := Int.le_trans e5 c4
  have ⟨p6, h⟩ := szThen_nn h
  have e6 : (SIncl.sz x.f7 (SProof.sz x.f6 (STc.sz x.f5 (SBlock.sz x.f4 (SHead.sz x.f3 (SQc.sz x.f2 (SVote.sz x.f1 l))))))) ≤ (SProof.sz x.f6 (STc.sz x.f5 (SBlock.sz x.f4 (SHead.sz x.f3 (SQc.sz x.f2 (SVote.sz x.f1 l)))))) := SIncl.sz_le _ p5
  have s6 := SIncl.sz_sm _ p5 c5 p6
  have c6 := Int.le_trans e6 c5
  exact ⟨s0, s1, s2, s3, s4, s5, s6⟩
def SMsg.cm (x : SMsg) : Int := x.f1.cm + x.f2.cm + x.f3.cm + x.f4.cm + x.f5.cm + x.f6.cm + x.f7.cm
def SMsg.hm (a b : SMsg) (k : Int) : Prop := (SVote.hm a.f1 b.f1 k) ∧ (SQc.hm a.f2 b.f2 (k + a.f1.cm)) ∧ (SHead.hm a.f3 b.f3 ((k + a.f1.cm) + a.f2.cm)) ∧ (SBlock.hm a.f4 b.f4 (((k + a.f1.cm) + a.f2.cm) + a.f3.cm)) ∧ (STc.hm a.f5 b.f5 ((((k + a.f1.cm) + a.f2.cm) + a.f3.cm) + a.f4.cm)) ∧ (SProof.hm a.f6 b.f6 (((((k + a.f1.cm) + a.f2.cm) + a.f3.cm) + a.f4.cm) + a.f5.cm)) ∧ (SIncl.hm a.f7 b.f7 ((((((k + a.f1.cm) + a.f2.cm) + a.f3.cm) + a.f4.cm) + a.f5.cm) + a.f6.cm))
theorem SMsg.cm_nn (x : SMsg) : 0 ≤ x.cm := by
  unfold SMsg.cm
  have n1 := SVote.cm_nn x.f1
  have n2 := SQc.cm_nn x.f2
  have n3 := SHead.cm_nn x.f3
  have n4 := SBlock.cm_nn x.f4
  have n5 := STc.cm_nn x.f5
  have n6 := SProof.cm_nn x.f6
  have n7 := SIncl.cm_nn x.f7
  omega
theorem SMsg.cm_le {x : SMsg} (h : x.sm) : x.cm ≤ 1152933599257821184 := by
  unfold SMsg.cm
  obtain ⟨p1, p2, p3, p4, p5, p6, p7⟩ := h
  have e1 := SVote.cm_le p1
  have e2 := SQc.cm_le p2
  have e3 := SHead.cm_le p3
  have e4 := SBlock.cm_le p4
  have e5 := STc.cm_le p5
  have e6 := SProof.cm_le p6
  have e7 := SIncl.cm_le p7
  omega
theorem SMsg.sm_df : (default : SMsg).sm := by (repeat' (first | exact Nat.zero_le _ | (intro y hy; exact absurd hy (List.not_mem_nil)) | apply And.intro))
def SMsg.ce (x : SMsg) : Int := 1 + x.f1.ce + x.f2.ce + x.f3.ce + x.f4.ce + x.f5.ce + x.f6.ce + x.f7.ce
def SMsg.me (x : SMsg) (k : Int) : SMsg := ⟨k, x.f1.me (k + 1), x.f2.me ((((((k + 1) + 1) + 1) + (x.f1.f2.length : Int)) + 1) + (x.f1.f4.length : Int)), x.f3.me (((((((((((k + 1) + 1) + 1) + (x.f1.f2.length : Int)) + 1) + (x.f1.f4.length : Int)) + 1) + 1) + (x.f2.f2.length : Int)) + (x.f2.f3.length : Int)) + cntL (fun x : List Int => (x.length : Int)) x.f2.f4), x.f4.me (((((((((((((((((((((k + 1) + 1) + 1) + (x.f1.f2.length : Int)) + 1) + (x.f1.f4.length : Int)) + 1) + 1) + (x.f2.f2.length : Int)) + (x.f2.f3.length : Int)) + cntL (fun x : List Int => (x.length : Int)) x.f2.f4) + 1) + 1) + 1) + (x.f3.f3.length : Int)) + (x.f3.f4.length : Int)) + 1) + 1) + (x.f3.f5.f2.length : Int)) + (x.f3.f5.f3.length : Int)) + cntL (fun x : List Int => (x.length : Int)) x.f3.f5.f4), x.f5.me ((((((((((((((((((((((((((((((((k + 1) + 1) + 1) + (x.f1.f2.length : Int)) + 1) + (x.f1.f4.length : Int)) + 1) + 1) + (x.f2.f2.length : Int)) + (x.f2.f3.length : Int)) + cntL (fun x : List Int => (x.length : Int)) x.f2.f4) + 1) + 1) + 1) + (x.f3.f3.length : Int)) + (x.f3.f4.length : Int)) + 1) + 1) + (x.f3.f5.f2.length : Int)) + (x.f3.f5.f3.length : Int)) + cntL (fun x : List Int => (x.length : Int)) x.f3.f5.f4) + 1) + 1) + 1) + (x.f4.f0.f3.length : Int)) + (x.f4.f0.f4.length : Int)) + 1) + 1) + (x.f4.f0.f5.f2.length : Int)) + (x.f4.f0.f5.f3.length : Int)) + cntL (fun x : List Int => (x.length : Int)) x.f4.f0.f5.f4) + cntL (fun x : List Int => (x.length : Int)) x.f4.f1), x.f6.me ((((((((((((((((((((((((((((((((((k + 1) + 1) + 1) + (x.f1.f2.length : Int)) + 1) + (x.f1.f4.length : Int)) + 1) + 1) + (x.f2.f2.length : Int)) + (x.f2.f3.length : Int)) + cntL (fun x : List Int => (x.length : Int)) x.f2.f4) + 1) + 1) + 1) + (x.f3.f3.length : Int)) + (x.f3.f4.length : Int)) + 1) + 1) + (x.f3.f5.f2.length : Int)) + (x.f3.f5.f3.length : Int)) + cntL (fun x : List Int => (x.length : Int)) x.f3.f5.f4) + 1) + 1) + 1) + (x.f4.f0.f3.length : Int)) + (x.f4.f0.f4.length : Int)) + 1) + 1) + (x.f4.f0.f5.f2.length : Int)) + (x.f4.f0.f5.f3.length : Int)) + cntL (fun x : List Int => (x.length : Int)) x.f4.f0.f5.f4) + cntL (fun x : List Int => (x.length : Int)) x.f4.f1) + 1) + cntL SEntry.ce x.f5.f1), x.f7.me ((((((((((((((((((((((((((((((((((((((((k + 1) + 1) + 1) + (x.f1.f2.length : Int)) + 1) + (x.f1.f4.length : Int)) + 1) + 1) + (x.f2.f2.length : Int)) + (x.f2.f3.length : Int)) + cntL (fun x : List Int => (x.length : Int)) x.f2.f4) + 1) + 1) + 1) + (x.f3.f3.length : Int)) + (x.f3.f4.length : Int)) + 1) + 1) + (x.f3.f5.f2.length : Int)) + (x.f3.f5.f3.length : Int)) + cntL (fun x : List Int => (x.length : Int)) x.f3.f5.f4) + 1) + 1) + 1) + (x.f4.f0.f3.length : Int)) + (x.f4.f0.f4.length : Int)) + 1) + 1) + (x.f4.f0.f5.f2.length : Int)) + (x.f4.f0.f5.f3.length : Int)) + cntL (fun x : List Int => (x.length : Int)) x.f4.f0.f5.f4) + cntL (fun x : List Int => (x.length : Int)) x.f4.f1) + 1) + cntL SEntry.ce x.f5.f1) + cntL SHead.ce x.f6.f0) + 1) + 1) + (x.f6.f1.f2.length : Int)) + (x.f6.f1.f3.length : Int)) + cntL (fun x : List Int => (x.length : Int)) x.f6.f1.f4)⟩
theorem SMsg.ce_nn (x : SMsg) : 0 ≤ x.ce := by
  unfold SMsg.ce
  have n1 := SVote.ce_nn x.f1
  have n2 := SQc.ce_nn x.f2
  have n3 := SHead.ce_nn x.f3
  have n4 := SBlock.ce_nn x.f4
  have n5 := STc.ce_nn x.f5
  have n6 := SProof.ce_nn x.f6
  have n7 := SIncl.ce_nn x.f7
  omega
theorem SMsg.ce_le {x : SMsg} (h : x.sm) : x.ce ≤ 1152933599257821206 := by
  unfold SMsg.ce
  obtain ⟨p1, p2, p3, p4, p5, p6, p7⟩ := h
  have e1 := SVote.ce_le p1
  have e2 := SQc.ce_le p2
  have e3 := SHead.ce_le p3
  have e4 := SBlock.ce_le p4
  have e5 := STc.ce_le p5
  have e6 := SProof.ce_le p6
  have e7 := SIncl.ce_le p7
  omega
theorem SMsg.cL_le {xs : List SMsg} (h : xs.length ≤ 1048576 ∧ ∀ y ∈ xs, SMsg.sm y) : cntL SMsg.ce xs ≤ 1208938501775369128902656 := by
  have h1 := cntL_le (cnt := SMsg.ce) (n := 1152933599257821206) xs fun x hx => SMsg.ce_le (h.2 x hx)
  have h2 := h.1
  omega
@[ext] structure SEvent where
  f0 : Int
  f1 : Int
  f2 : SMsg
  deriving Inhabited, DecidableEq
def SEvent.cells (x : SEvent) : List D := [(.int .i64 x.f0), (.int .i64 x.f1), (.int .i64 x.f2.f0), (.int .i64 x.f2.f1.f0), (.int .i64 x.f2.f1.f1), (.ints .u8 x.f2.f1.f2), (.int .i64 x.f2.f1.f3), (.ints .u8 x.f2.f1.f4), (.int .i64 x.f2.f2.f0), (.int .i64 x.f2.f2.f1), (.ints .u8 x.f2.f2.f2), (.ints .u8 x.f2.f2.f3), (.bss x.f2.f2.f4), (.int .i64 x.f2.f3.f0), (.int .i64 x.f2.f3.f1), (.int .i64 x.f2.f3.f2), (.ints .u8 x.f2.f3.f3), (.ints .u8 x.f2.f3.f4), (.int .i64 x.f2.f3.f5.f0), (.int .i64 x.f2.f3.f5.f1), (.ints .u8 x.f2.f3.f5.f2), (.ints .u8 x.f2.f3.f5.f3), (.bss x.f2.f3.f5.f4), (.int .i64 x.f2.f4.f0.f0), (.int .i64 x.f2.f4.f0.f1), (.int .i64 x.f2.f4.f0.f2), (.ints .u8 x.f2.f4.f0.f3), (.ints .u8 x.f2.f4.f0.f4), (.int .i64 x.f2.f4.f0.f5.f0), (.int .i64 x.f2.f4.f0.f5.f1), (.ints .u8 x.f2.f4.f0.f5.f2), (.ints .u8 x.f2.f4.f0.f5.f3), (.bss x.f2.f4.f0.f5.f4), (.bss x.f2.f4.f1), (.int .i64 x.f2.f5.f0), (.sl 3 (x.f2.f5.f1.map SEntry.cells)), (.sl 10 (x.f2.f6.f0.map SHead.cells)), (.int .i64 x.f2.f6.f1.f0), (.int .i64 x.f2.f6.f1.f1), (.ints .u8 x.f2.f6.f1.f2), (.ints .u8 x.f2.f6.f1.f3), (.bss x.f2.f6.f1.f4), (.int .i64 x.f2.f7.f0), (.int .i64 x.f2.f7.f1), (.int .i64 x.f2.f7.f2), (.ints .u8 x.f2.f7.f3), (.bss x.f2.f7.f4)]
theorem SEvent.len (x : SEvent) : x.cells.length = 47 := rfl
def SEvent.sz (x : SEvent) (l : Int) : Int := szThen (SMsg.sz x.f2 l) fun l0 => l0
def SEvent.sm (x : SEvent) : Prop := (x.f2.sm)
def SEvent.ok (x : SEvent) : Prop := (I64 x.f0) ∧ (I64 x.f1) ∧ (x.f2.ok)
theorem SEvent.sz_le (x : SEvent) {l : Int} (h : 0 ≤ l) : x.sz l ≤ l := by
  unfold SEvent.sz
  exact szThen_le' (SMsg.sz_le _ h) h fun l0 h0 => Int.le_refl _
theorem SEvent.sz_sm (x : SEvent) {l : Int} (h0 : 0 ≤ l) (hl : l ≤ 1048576) (h : 0 ≤ x.sz l) : x.sm := by
  unfold SEvent.sz at h
  have ⟨p0, h⟩ := szThen_nn h
  have e0 : (SMsg.sz x.f2 l) ≤ l := SMsg.sz_le _ h0
  have s0 := SMsg.sz_sm _ h0 hl p0
  have c0 := Int.le_trans e0 hl
  exact s0
def SEvent.cm (x : SEvent) : Int := x.f2.cm
def SEvent.hm (a b : SEvent) (k : Int) : Prop := (SMsg.hm a.f2 b.f2 k)
theorem SEvent.cm_nn (x : SEvent) : 0 ≤ x.cm := by
  unfold SEvent.cm
  have n2 := SMsg.cm_nn x.f2
  omega
theorem SEvent.cm_le {x : SEvent} (h : x.sm) : x.cm ≤ 1152933599257821184 := by
  unfold SEvent.cm
  have p2 : x.f2.sm := h
  have e2 := SMsg.cm_le p2
  omega
theorem SEvent.sm_df : (default : SEvent).sm := by (repeat' (first | exact Nat.zero_le _ | (intro y hy; exact absurd hy (List.not_mem_nil)) | apply And.intro))
def SEvent.ce (x : SEvent) : Int := 1 + 1 + x.f2.ce
def SEvent.me (x : SEvent) (k : Int) : SEvent := ⟨k, k + 1, x.f2.me ((k + 1) + 1)⟩
theorem SEvent.ce_nn (x : SEvent) : 0 ≤ x.ce := by
  unfold SEvent.ce
  have n2 := SMsg.ce_nn x.f2
  omega
theorem SEvent.ce_le {x : SEvent} (h : x.sm) : x.ce ≤ 1152933599257821208 := by
  unfold SEvent.ce
  have p2 : x.f2.sm := h
  have e2 := SMsg.ce_le p2
  omega
theorem SEvent.cL_le {xs : List SEvent} (h : xs.length ≤ 1048576 ∧ ∀ y ∈ xs, SEvent.sm y) : cntL SEvent.ce xs ≤ 1208938501775369130999808 := by
  have h1 := cntL_le (cnt := SEvent.ce) (n := 1152933599257821208) xs fun x hx => SEvent.ce_le (h.2 x hx)
  have h2 := h.1
  omega
@[ext] structure SStr where
  f0 : ByteArray
  deriving Inhabited, DecidableEq
def SStr.cells (x : SStr) : List D := [(.str x.f0)]
theorem SStr.len (x : SStr) : x.cells.length = 1 := rfl
def SStr.sz (x : SStr) (l : Int) : Int := l
def SStr.sm (x : SStr) : Prop := True
def SStr.ok (x : SStr) : Prop := (x.f0.size ≤ 9223372036854775807)
theorem SStr.sz_le (x : SStr) {l : Int} (h : 0 ≤ l) : x.sz l ≤ l := by
  unfold SStr.sz
  exact Int.le_refl _
theorem SStr.sz_sm (x : SStr) {l : Int} (h0 : 0 ≤ l) (hl : l ≤ 1048576) (h : 0 ≤ x.sz l) : x.sm := by
  unfold SStr.sz at h
  exact trivial
def mdg (n : Int) : ByteArray := if h : 0 < n then mdg (n / 10) ++ strOfNums [48 + n % 10] else ByteArray.empty
termination_by n.toNat
decreasing_by omega
def markT (k : Int) : ByteArray := if k ≤ 0 then ⟨#[109, 48]⟩ else ⟨#[109]⟩ ++ mdg k
theorem mdg_zero {n : Int} (h : n ≤ 0) : mdg n = ByteArray.empty := by rw [mdg, dif_neg (by omega)]
theorem mdg_next {m : Int} (h : 0 < m) (s : ByteArray) : mdg (m / 10) ++ (strOfNums [48 + m % 10] ++ s) = mdg m ++ s := by
  rw [← ByteArray.append_assoc]
  congr 1
  rw [mdg.eq_def m, dif_pos h]
theorem mdg_size : ∀ (d : Nat) (n : Int), n < 10 ^ d → (mdg n).size ≤ d
  | 0, n, h => by rw [mdg_zero (by simp at h; omega)]; show ByteArray.empty.size ≤ 0; rw [ByteArray.size_empty]; omega
  | d + 1, n, h => by
    by_cases h0 : 0 < n
    · rw [mdg, dif_pos h0, ByteArray.size_append, strOfNums_size]
      have := mdg_size d (n / 10) (by rw [Int.pow_succ] at h; omega)
      simp only [List.length_cons, List.length_nil]; omega
    · rw [mdg_zero (by omega), ByteArray.size_empty]; omega
theorem mdg_size63 {n : Int} (h : n ≤ 9223372036854775807) : (mdg n).size ≤ 19 := mdg_size 19 n (by rw [show (10 : Int) ^ 19 = 10000000000000000000 from by decide]; omega)
theorem ofRow_d {r : Nat} {p : List (Nat × Nat)} {i j : Nat} {e e' : D} (h : e = e') (hs : e'.isSl = false) : PC.ofRow r p i j e = .d e' := by subst h; simp [PC.ofRow, hs]
def SStr.ce (_x : SStr) : Int := 1
def SStr.me (_x : SStr) (k : Int) : SStr := ⟨markT k⟩
theorem SStr.ce_nn (x : SStr) : 0 ≤ x.ce := by unfold SStr.ce; omega
theorem str_elem {x y : SStr} (h : x.f0.toList = y.f0.toList) : x = y := by
  rw [ByteArray.toList_eq, ByteArray.toList_eq] at h
  obtain ⟨⟨⟨l⟩⟩⟩ := x
  obtain ⟨⟨⟨m⟩⟩⟩ := y
  simp only at h
  subst h
  rfl
theorem cntS_len : ∀ xs : List SStr, cntL SStr.ce xs = xs.length
  | [] => rfl
  | x :: xs => by simp only [cntL, cntS_len xs, SStr.ce, List.length_cons, Int.natCast_succ]; omega
def limOk (l : SLimits) : Bool := decide (1 ≤ l.f0 ∧ l.f0 ≤ 10) && decide (0 ≤ l.f1 ∧ l.f1 ≤ 40) && decide (0 ≤ l.f2 ∧ l.f2 ≤ 8) && decide (1 ≤ l.f3 ∧ l.f3 ≤ 4000) && decide (3 ≤ l.f4 ∧ l.f4 ≤ 5)
theorem limOk_n {l : SLimits} (h : limOk l = true) : 1 ≤ l.f0 ∧ l.f0 ≤ 10 := by simp [limOk] at h; omega
@[ext] structure SRS where
  f0 : Int
  f1 : Int
  deriving Inhabited, DecidableEq
theorem gv_cut {b : List Int} {a : Int} {i : Nat} (hi : i < 9) : ∃ d, 9 - i = d + 1 ∧ 9 - (i + 1) = d := ⟨8 - i, by omega, by omega⟩
theorem gvGo_short {b : List Int} {a n : Int} {i : Nat} (hi : i < 9) (h : (b.length : Int) ≤ a + i) : gvGo b a (9 - i) i n = (0, 0, 1) := by
  obtain ⟨d, e, _⟩ := gv_cut (b := b) (a := a) hi; rw [e, gvGo, if_pos h]
theorem gvGo_var {b : List Int} {a n : Int} {i : Nat} (hi : i < 9) (h : ¬ (b.length : Int) ≤ a + i) (h2 : (0 < i ∧ b.getD (a + i).toNat 0 = 0) ∨ (i = 8 ∧ 128 ≤ b.getD (a + i).toNat 0)) : gvGo b a (9 - i) i n = (0, 0, 2) := by
  obtain ⟨d, e, _⟩ := gv_cut (b := b) (a := a) hi; rw [e, gvGo, if_neg h, if_pos h2]
theorem gvGo_done {b : List Int} {a n : Int} {i : Nat} (hi : i < 9) (h : ¬ (b.length : Int) ≤ a + i) (h2 : ¬ ((0 < i ∧ b.getD (a + i).toNat 0 = 0) ∨ (i = 8 ∧ 128 ≤ b.getD (a + i).toNat 0))) (h3 : b.getD (a + i).toNat 0 < 128) (h4 : n + b.getD (a + i).toNat 0 % 128 * 128 ^ i ≤ 1152921504606846975) : gvGo b a (9 - i) i n = (n + b.getD (a + i).toNat 0 % 128 * 128 ^ i, a + i + 1, 0) := by
  obtain ⟨d, e, _⟩ := gv_cut (b := b) (a := a) hi; rw [e, gvGo, if_neg h, if_neg h2, if_pos h3, if_pos h4]
theorem gvGo_big {b : List Int} {a n : Int} {i : Nat} (hi : i < 9) (h : ¬ (b.length : Int) ≤ a + i) (h2 : ¬ ((0 < i ∧ b.getD (a + i).toNat 0 = 0) ∨ (i = 8 ∧ 128 ≤ b.getD (a + i).toNat 0))) (h3 : b.getD (a + i).toNat 0 < 128) (h4 : ¬ n + b.getD (a + i).toNat 0 % 128 * 128 ^ i ≤ 1152921504606846975) : gvGo b a (9 - i) i n = (0, 0, 2) := by
  obtain ⟨d, e, _⟩ := gv_cut (b := b) (a := a) hi; rw [e, gvGo, if_neg h, if_neg h2, if_pos h3, if_neg h4]
theorem gvGo_next {b : List Int} {a n : Int} {i : Nat} (hi : i < 9) (h : ¬ (b.length : Int) ≤ a + i) (h2 : ¬ ((0 < i ∧ b.getD (a + i).toNat 0 = 0) ∨ (i = 8 ∧ 128 ≤ b.getD (a + i).toNat 0))) (h3 : ¬ b.getD (a + i).toNat 0 < 128) : gvGo b a (9 - i) i n = gvGo b a (9 - (i + 1)) (i + 1) (n + b.getD (a + i).toNat 0 % 128 * 128 ^ i) := by
  obtain ⟨d, e, e2⟩ := gv_cut (b := b) (a := a) hi; rw [e, e2, gvGo, if_neg h, if_neg h2, if_neg h3]
theorem gvGo_end {b : List Int} {a n : Int} {i : Nat} (hi : ¬ i < 9) : gvGo b a (9 - i) i n = (0, 0, 2) := by rw [show 9 - i = 0 from by omega]; rfl
theorem getVar_in {b : List Int} {a : Int} (h : 0 ≤ a ∧ a ≤ (b.length : Int)) : getVar b a = gvGo b a 9 0 0 := if_pos h
theorem getVar_out {b : List Int} {a : Int} (h : ¬ (0 ≤ a ∧ a ≤ (b.length : Int))) : getVar b a = (0, 0, 1) := if_neg h
def au (b : List Int) (a n : Int) : List Int × Int × Int := if 0 ≤ a ∧ a ≤ (b.length : Int) ∧ 0 ≤ n ∧ n ≤ (b.length : Int) - a then ((b.drop a.toNat).take ((a + n).toNat - a.toNat), a + n, 0) else ([], 0, 1)
theorem getRaw_bd (b : List Int) (a n : Int) : (au b a n).1.length ≤ b.length ∧ 0 ≤ (au b a n).2.1 ∧ (au b a n).2.1 ≤ b.length ∧ (n ≤ 0 → (au b a n).1.length = 0) ∧ (0 ≤ n → ((au b a n).1.length : Int) ≤ n) := by
  unfold au
  split
  · simp only [List.length_take, List.length_drop]; omega
  · simp
theorem getRaw_u8 {b : List Int} (h : U8s b) (a n : Int) : U8s (au b a n).1 := by
  unfold au
  split
  · exact fun x hx => h x (List.mem_of_mem_drop (List.mem_of_mem_take hx))
  · exact fun x hx => by cases hx
def getText (b : List Int) (a m : Int) : List Int × Int × Int := if (getVar b a).2.2 = 0 then (if m < (getVar b a).1 then ([], 0, 3) else au b (getVar b a).2.1 (getVar b a).1) else ([], 0, (getVar b a).2.2)
theorem getText_bd (b : List Int) (a m : Int) : (getText b a m).1.length ≤ b.length ∧ 0 ≤ (getText b a m).2.1 ∧ (getText b a m).2.1 ≤ b.length := by
  unfold getText
  split
  · split
    · simp
    · have := getRaw_bd b (getVar b a).2.1 (getVar b a).1; omega
  · simp
def rs0 (l : SLimits) (a : Int) : SRS := ⟨a, if limOk l = true then 0 else 5⟩
theorem rs0_ok {l : SLimits} {a : Int} (h : limOk l = true) : rs0 l a = ⟨a, 0⟩ := by rw [rs0, if_pos h]
theorem rs0_no {l : SLimits} {a : Int} (h : limOk l = false) : rs0 l a = ⟨a, 5⟩ := by rw [rs0, h]; rfl
def ae (s : SRS) (k : Bool) (c : Int) : SRS := if s.f1 = 0 ∧ k = false then ⟨s.f0, c⟩ else s
def aa (b : List Int) (s : SRS) : SRS × Int := if s.f1 = 0 then (⟨(getVar b s.f0).2.1, (getVar b s.f0).2.2⟩, (getVar b s.f0).1) else (s, 0)
def af (b : List Int) (s : SRS) (n : Int) : SRS × List Int := if s.f1 = 0 then (⟨(au b s.f0 n).2.1, (au b s.f0 n).2.2⟩, (au b s.f0 n).1) else (s, [])
def rdText (b : List Int) (s : SRS) (m : Int) : SRS × List Int := if s.f1 = 0 then (⟨(getText b s.f0 m).2.1, (getText b s.f0 m).2.2⟩, (getText b s.f0 m).1) else (s, [])
def am (b : List Int) (s : SRS) (n c : Int) : SRS × Int := (ae (aa b s).1 (decide ((aa b s).2 < n)) c, (aa b s).2)
theorem rdMust_er {s : SRS} {k : Bool} {c : Int} (h : ¬ s.f1 = 0) : ae s k c = s := by rw [ae, if_neg (fun x => h x.1)]
theorem rdMust_hit {s : SRS} {k : Bool} {c : Int} (h : s.f1 = 0) (hk : k = false) : ae s k c = ⟨s.f0, c⟩ := by rw [ae, if_pos ⟨h, hk⟩]
theorem rdMust_ok {s : SRS} {k : Bool} {c : Int} (hk : k = true) : ae s k c = s := by subst hk; rw [ae, if_neg (fun x => by cases x.2)]
theorem rdNum_er {b : List Int} {s : SRS} (h : ¬ s.f1 = 0) : aa b s = (s, 0) := if_neg h
theorem rdRaw_er {b : List Int} {s : SRS} {n : Int} (h : ¬ s.f1 = 0) : af b s n = (s, []) := if_neg h
theorem rdText_er {b : List Int} {s : SRS} {n : Int} (h : ¬ s.f1 = 0) : rdText b s n = (s, []) := if_neg h
theorem rdBelow_er {b : List Int} {s : SRS} {n c : Int} (h : ¬ s.f1 = 0) : am b s n c = (s, 0) := by unfold am; rw [rdNum_er h]; rw [rdMust_er h]
theorem bf {b : List Int} (hb : U8s b) (s : SRS) : 0 ≤ (aa b s).2 ∧ (aa b s).2 ≤ 1152921504606846975 := by
  unfold aa
  split
  · have := getVar_bd hb s.f0; dsimp only; omega
  · simp
theorem rdRaw_len (b : List Int) (s : SRS) (n : Int) : (af b s n).2.length ≤ b.length ∧ (0 ≤ n → ((af b s n).2.length : Int) ≤ n) := by
  unfold af
  split
  · have := getRaw_bd b s.f0 n; exact ⟨this.1, this.2.2.2.2⟩
  · simp
theorem rdText_len (b : List Int) (s : SRS) (n : Int) : (rdText b s n).2.length ≤ b.length := by
  unfold rdText
  split
  · exact (getText_bd b s.f0 n).1
  · simp
def getOut {α : Type} (r : SRS × α) (d : α) : α × Int × Int := if r.1.f1 = 0 then (r.2, r.1.f0, 0) else (d, 0, r.1.f1)
theorem getOut_yes {α : Type} {r : SRS × α} {d : α} (h : ¬ r.1.f1 ≠ 0) : getOut r d = (r.2, r.1.f0, 0) := if_pos (Decidable.not_not.1 h)
theorem getOut_no {α : Type} {r : SRS × α} {d : α} (h : r.1.f1 ≠ 0) : getOut r d = (d, 0, r.1.f1) := if_neg h
theorem getOut_pr {α : Type} {p : α → Prop} {r : SRS × α} {d : α} (h1 : p r.2) (h2 : p d) : p (getOut r d).1 := by unfold getOut; split <;> assumption
theorem getOut_nr {α : Type} {r : SRS × α} {d : α} {s : SRS} (h : r.1 = s) (h5 : s.f1 = 5) : getOut r d = (d, 0, 5) := by rw [getOut_no (by rw [h, h5]; decide), h, h5]
def rdVote (l : SLimits) (b : List Int) (s : SRS) : SRS × SVote :=
  let r1 := aa b s
  let r2 := aa b r1.1
  let r3 := af b r2.1 32
  let r4 := am b r3.1 l.f0 5
  let r5 := af b r4.1 32
  (r5.1, ⟨r1.2, r2.2, r3.2, r4.2, r5.2⟩)
def aw (l : SLimits) (b : List Int) (a : Int) : SVote × Int × Int := getOut (rdVote l b (rs0 l a)) default
theorem rdVote_er {l : SLimits} {b : List Int} {s : SRS} (h : ¬ s.f1 = 0) : (rdVote l b s).1 = s := by
  simp only [rdVote, rdNum_er h, rdRaw_er h, rdBelow_er h]
theorem rdVote_sm {l : SLimits} {b : List Int} {s : SRS} (h : b.length ≤ 1048576) : (rdVote l b s).2.sm := ⟨Nat.le_trans (rdRaw_len _ _ _).1 h, Nat.le_trans (rdRaw_len _ _ _).1 h⟩
theorem getVote_sm {l : SLimits} {b : List Int} (a : Int) (h : b.length ≤ 1048576) : (aw l b a).1.sm := getOut_pr (p := SVote.sm) (rdVote_sm h) SVote.sm_df
def bitsOk (b : List Int) (n : Int) : Bool := decide (1 ≤ n ∧ n ≤ 10) && decide ((b.length : Int) = bitsSize n) && (bitList b).all (fun x => decide (x < n))
theorem all_step {l : List Int} {n : Int} {i : Nat} (hi : i < l.length) (h : (l.take i).all (fun x => decide (x < n)) = true) (hx : l.getD i 0 < n) : (l.take (i + 1)).all (fun x => decide (x < n)) = true := by
  rw [take_succ' (df := 0) hi]; simp only [List.all_append, List.all_cons, List.all_nil, Bool.and_true, Bool.and_eq_true] at h ⊢; exact ⟨h, decide_eq_true hx⟩
theorem all_no {l : List Int} {n : Int} {i : Nat} (hi : i < l.length) (hx : ¬ l.getD i 0 < n) : l.all (fun x => decide (x < n)) = false := by
  cases h : l.all (fun x => decide (x < n)) with
  | false => rfl
  | true =>
    rw [List.all_eq_true] at h
    have := h (l.getD i 0) (by rw [List.getD_eq_getElem?_getD, List.getElem?_eq_getElem hi]; exact List.getElem_mem hi)
    exact absurd (of_decide_eq_true this) hx
theorem bits_last {b : List Int} {n : Int} (h : 0 < (bitList b).length) : (bitList b).all (fun x => decide (x < n)) = decide ((bitList b).getD (((bitList b).length : Int) - 1).toNat 0 < n) := by
  rw [show (((bitList b).length : Int) - 1).toNat = (bitList b).length - 1 from by omega]
  have h1 := bitsGo_last b n (8 * b.length) 0
  rw [show bitsGo b (8 * b.length) 0 = bitList b from rfl] at h1
  rw [h1, List.getLast?_eq_getElem?, List.getElem?_eq_getElem (by omega), List.getD_eq_getElem?_getD, List.getElem?_eq_getElem (by omega)]
  rfl
theorem bitsOk_len {b : List Int} {n : Int} (h : bitsOk b n = true) : b.length ≤ 2 := by
  simp only [bitsOk, Bool.and_eq_true, decide_eq_true_eq] at h
  have := h.1.2
  unfold bitsSize at this
  rw [if_neg (by omega)] at this
  omega
def hashes (l : List (List Int)) : Bool := l.all fun x => decide ((x.length : Int) = 32)
theorem hashes_step {l : List (List Int)} {i : Nat} (hi : i < l.length) (h : hashes (l.take i) = true) (hx : ((l.getD i []).length : Int) = 32) : hashes (l.take (i + 1)) = true := by
  rw [take_succ' (df := []) hi]; simp only [hashes, List.all_append, List.all_cons, List.all_nil, Bool.and_true, Bool.and_eq_true] at h ⊢; exact ⟨h, decide_eq_true hx⟩
theorem hashes_no {l : List (List Int)} {i : Nat} (hi : i < l.length) (hx : ¬ ((l.getD i []).length : Int) = 32) : hashes l = false := by
  cases h : hashes l with
  | false => rfl
  | true =>
    rw [hashes, List.all_eq_true] at h
    have := h (l.getD i []) (by rw [List.getD_eq_getElem?_getD, List.getElem?_eq_getElem hi]; exact List.getElem_mem hi)
    exact absurd (of_decide_eq_true this) hx
theorem rdRaw_u8 {b : List Int} (hb : U8s b) (s : SRS) (n : Int) : U8s (af b s n).2 := by
  unfold af
  split
  · exact getRaw_u8 hb _ _
  · exact fun x hx => by cases hx
def av (b : List Int) (s : SRS) : Nat → SRS × List (List Int)
  | 0 => (s, [])
  | i + 1 => ((af b (av b s i).1 32).1, (av b s i).2 ++ [(af b (av b s i).1 32).2])
theorem rdTags_len (b : List Int) (s : SRS) : ∀ i, (av b s i).2.length = i
  | 0 => rfl
  | i + 1 => by rw [av, List.length_append, rdTags_len b s i]; rfl
theorem rdTags_mem {b : List Int} {s : SRS} {p : List Int → Prop} (hp : ∀ s, p (af b s 32).2) : ∀ i, ∀ y ∈ (av b s i).2, p y
  | 0, y, h => by cases h
  | i + 1, y, h => by
    rcases List.mem_append.1 h with h | h
    · exact rdTags_mem hp i y h
    · rcases List.mem_singleton.1 h with rfl; exact hp _
theorem rdTags_er {b : List Int} {s : SRS} (h : ¬ s.f1 = 0) : ∀ i, (av b s i).1 = s
  | 0 => rfl
  | i + 1 => by rw [av, rdTags_er h i, rdRaw_er h]
def ai (b : List Int) (a n : Int) : List Int × Int × Int := if 1 ≤ n ∧ n ≤ 10 then (if (au b a (bitsSize n)).2.2 = 0 then (if bitsOk (au b a (bitsSize n)).1 n = true then ((au b a (bitsSize n)).1, (au b a (bitsSize n)).2.1, 0) else ([], 0, 4)) else ([], 0, (au b a (bitsSize n)).2.2)) else ([], 0, 5)
theorem getBits_val {b : List Int} {a n : Int} (h : ¬ (1 ≤ n ∧ n ≤ 10)) : ai b a n = ([], 0, 5) := if_neg h
theorem getBits_er {b : List Int} {a n : Int} (h : 1 ≤ n ∧ n ≤ 10) (h2 : ¬ (au b a (bitsSize n)).2.2 = 0) : ai b a n = ([], 0, (au b a (bitsSize n)).2.2) := by rw [ai, if_pos h, if_neg h2]
theorem getBits_pad {b : List Int} {a n : Int} (h : 1 ≤ n ∧ n ≤ 10) (h2 : (au b a (bitsSize n)).2.2 = 0) (h3 : bitsOk (au b a (bitsSize n)).1 n = false) : ai b a n = ([], 0, 4) := by rw [ai, if_pos h, if_pos h2, h3]; rfl
theorem getBits_ok {b : List Int} {a n : Int} (h : 1 ≤ n ∧ n ≤ 10) (h2 : (au b a (bitsSize n)).2.2 = 0) (h3 : bitsOk (au b a (bitsSize n)).1 n = true) : ai b a n = ((au b a (bitsSize n)).1, (au b a (bitsSize n)).2.1, 0) := by rw [ai, if_pos h, if_pos h2, if_pos h3]
theorem getBits_len (b : List Int) (a n : Int) : (ai b a n).1.length ≤ 2 := by
  unfold ai
  split
  · split
    · split
      · rename_i h; exact bitsOk_len h
      · simp
    · simp
  · simp
theorem getBits_u8 {b : List Int} (hb : U8s b) (a n : Int) : U8s (ai b a n).1 := by
  unfold ai
  split
  · split
    · split
      · exact getRaw_u8 hb _ _
      · exact fun x hx => by cases hx
    · exact fun x hx => by cases hx
  · exact fun x hx => by cases hx
def rdQc3 (b : List Int) (s : SRS) : SRS := (af b (aa b (aa b s).1).1 32).1
def rdQcA (l : SLimits) (b : List Int) (s3 : SRS) : SRS × List Int × List (List Int) := if s3.f1 = 0 then ((av b ⟨(ai b s3.f0 l.f0).2.1, (ai b s3.f0 l.f0).2.2⟩ (bitList (ai b s3.f0 l.f0).1).length).1, (ai b s3.f0 l.f0).1, (av b ⟨(ai b s3.f0 l.f0).2.1, (ai b s3.f0 l.f0).2.2⟩ (bitList (ai b s3.f0 l.f0).1).length).2) else (s3, [], [])
def rdQc (l : SLimits) (b : List Int) (s : SRS) : SRS × SQc := ((rdQcA l b (rdQc3 b s)).1, ⟨(aa b s).2, (aa b (aa b s).1).2, (af b (aa b (aa b s).1).1 32).2, (rdQcA l b (rdQc3 b s)).2.1, (rdQcA l b (rdQc3 b s)).2.2⟩)
theorem rdQcA_yes {l : SLimits} {b : List Int} {s : SRS} (h : s.f1 = 0) : rdQcA l b s = ((av b ⟨(ai b s.f0 l.f0).2.1, (ai b s.f0 l.f0).2.2⟩ (bitList (ai b s.f0 l.f0).1).length).1, (ai b s.f0 l.f0).1, (av b ⟨(ai b s.f0 l.f0).2.1, (ai b s.f0 l.f0).2.2⟩ (bitList (ai b s.f0 l.f0).1).length).2) := if_pos h
theorem rdQcA_no {l : SLimits} {b : List Int} {s : SRS} (h : ¬ s.f1 = 0) : rdQcA l b s = (s, [], []) := if_neg h
theorem rdQc3_er {b : List Int} {s : SRS} (h : ¬ s.f1 = 0) : rdQc3 b s = s := by simp only [rdQc3, rdNum_er h, rdRaw_er h]
theorem rdQc_er {l : SLimits} {b : List Int} {s : SRS} (h : ¬ s.f1 = 0) : (rdQc l b s).1 = s := by simp only [rdQc, rdQc3_er h, rdQcA_no h]
theorem rdQcA_sm {l : SLimits} {b : List Int} {s : SRS} (h : b.length ≤ 1048576) : (rdQcA l b s).2.1.length ≤ 1048576 ∧ (rdQcA l b s).2.2.length ≤ 1048576 ∧ ∀ y ∈ (rdQcA l b s).2.2, y.length ≤ 1048576 := by
  unfold rdQcA
  split
  · have h1 := getBits_len b s.f0 l.f0
    have h2 := bitList_len (ai b s.f0 l.f0).1
    refine ⟨by dsimp only; omega, by dsimp only; rw [rdTags_len]; omega, fun y hy => rdTags_mem (p := fun y => y.length ≤ 1048576) (fun s => Nat.le_trans (rdRaw_len b s 32).1 h) _ y hy⟩
  · exact ⟨Nat.zero_le _, Nat.zero_le _, fun y hy => by cases hy⟩
theorem rdQc_sm {l : SLimits} {b : List Int} {s : SRS} (h : b.length ≤ 1048576) : (rdQc l b s).2.sm := ⟨Nat.le_trans (rdRaw_len _ _ _).1 h, rdQcA_sm h⟩
theorem i64_num {b : List Int} (hb : U8s b) (s : SRS) : I64 (aa b s).2 := by have := bf hb s; exact ⟨by omega, by omega⟩
theorem rdQc_ok {l : SLimits} {b : List Int} {s : SRS} (h : U8s b) : (rdQc l b s).2.ok := by
  refine ⟨i64_num h _, i64_num h _, rdRaw_u8 h _ _, ?_, ?_⟩
  · show U8s (rdQcA l b (rdQc3 b s)).2.1
    unfold rdQcA
    split
    · exact getBits_u8 h _ _
    · exact fun x hx => by cases hx
  · show ∀ y ∈ (rdQcA l b (rdQc3 b s)).2.2, U8s y
    unfold rdQcA
    split
    · exact rdTags_mem (fun s => rdRaw_u8 h s 32) _
    · exact fun x hx => by cases hx
def getQc (l : SLimits) (b : List Int) (a : Int) : SQc × Int × Int := getOut (rdQc l b (rs0 l a)) default
theorem getQc_sm {l : SLimits} {b : List Int} (a : Int) (h : b.length ≤ 1048576) : (getQc l b a).1.sm := getOut_pr (p := SQc.sm) (rdQc_sm h) SQc.sm_df
def qcOk (l : SLimits) (q : SQc) : Bool := limOk l && decide (0 ≤ q.f0 ∧ q.f0 ≤ 1152921504606846975) && decide (0 ≤ q.f1 ∧ q.f1 ≤ 1152921504606846975) && decide ((q.f2.length : Int) = 32) && bitsOk q.f3 l.f0 && decide ((q.f4.length : Int) = ((bitList q.f3).length : Int)) && hashes q.f4
def varW (n : Int) : List Int := if h : n < 128 then [n] else (n % 128 + 128) :: varW (n / 128)
termination_by n.toNat
decreasing_by omega
theorem varW_last {n : Int} (h : n < 128) : varW n = [n] := by rw [varW, dif_pos h]
theorem varW_next {n : Int} (h : ¬ n < 128) : varW n = (n % 128 + 128) :: varW (n / 128) := by rw [varW, dif_neg h]
theorem varW_len : ∀ (k : Nat) (n : Int), n < 128 ^ (k + 1) → (varW n).length ≤ k + 1
  | 0, n, h => by rw [varW_last (by simpa using h)]; simp
  | k + 1, n, h => by
    by_cases h0 : n < 128
    · rw [varW_last h0]; simp
    · rw [varW_next h0, List.length_cons]
      have := varW_len k (n / 128) (by rw [Int.pow_succ] at h; omega)
      omega
theorem varW_len9 {n : Int} (h : n ≤ 1152921504606846975) : (varW n).length ≤ 9 := by
  have e : (128 : Int) ^ (8 + 1) = 9223372036854775808 := by decide
  exact varW_len 8 n (by rw [e]; omega)
def putVar (b : List Int) (n : Int) : List Int := if decide (0 ≤ n ∧ n ≤ 1152921504606846975) = true then b ++ varW n else []
theorem putVar_len (b : List Int) (n : Int) : (putVar b n).length ≤ b.length + 9 := by
  unfold putVar
  split
  · rename_i h
    have := varW_len9 (of_decide_eq_true h).2
    rw [List.length_append]; omega
  · simp
theorem foldl_take_succ {α β : Type} (g : β → α → β) (b : β) (xs : List α) (i : Nat) (df : α) (h : i < xs.length) : (xs.take (i + 1)).foldl g b = g ((xs.take i).foldl g b) (xs.getD i df) := by
  rw [take_succ' (df := df) h, List.foldl_append]; rfl
theorem foldl_len {α : Type} (g : List Int → α → List Int) (c : Nat) (p : α → Prop) (hg : ∀ b x, p x → (g b x).length ≤ b.length + c) : ∀ (xs : List α) (b : List Int), (∀ x ∈ xs, p x) → (xs.foldl g b).length ≤ b.length + xs.length * c
  | [], b, _ => by simp
  | x :: xs, b, h => by
    have h1 := foldl_len g c p hg xs (g b x) fun y hy => h y (by simp [hy])
    have h2 := hg b x (h x (by simp))
    simp only [List.foldl_cons, List.length_cons, Nat.add_mul]
    omega
theorem foldl_take_len {α : Type} (g : List Int → α → List Int) (c : Nat) (p : α → Prop) (hg : ∀ b x, p x → (g b x).length ≤ b.length + c) (xs : List α) (b : List Int) (h : ∀ x ∈ xs, p x) (i : Nat) (n : Nat) (hn : xs.length ≤ n) : ((xs.take i).foldl g b).length ≤ b.length + n * c := by
  have h1 := foldl_len g c p hg (xs.take i) b fun x hx => h x (List.mem_of_mem_take hx)
  have h2 : (xs.take i).length * c ≤ n * c := Nat.mul_le_mul_right _ (by simp; omega)
  omega
theorem foldl_all {α β : Type} (g : β → α → β) (b : β) (xs : List α) (i : Nat) (h : xs.length ≤ i) : (xs.take i).foldl g b = xs.foldl g b := by rw [List.take_of_length_le h]
def rawsB (b : List Int) (l : List (List Int)) : List Int := l.foldl (fun b x => b ++ x) b
theorem raws_len {b : List Int} {l : List (List Int)} {n : Nat} (hn : l.length ≤ n) (h : ∀ x ∈ l, x.length ≤ 1048576) (i : Nat) : ((l.take i).foldl (fun b x => b ++ x) b).length ≤ b.length + n * 1048576 :=
  foldl_take_len _ 1048576 (fun x => x.length ≤ 1048576) (fun b x hx => by simp only [List.length_append]; omega) l b h i n hn
def putQcB (b : List Int) (q : SQc) : List Int := rawsB (putVar (putVar b q.f0) q.f1 ++ q.f2 ++ q.f3) q.f4
def putQc (l : SLimits) (b : List Int) (q : SQc) : List Int := if qcOk l q = true then putQcB b q else []
theorem putQcB_len {b : List Int} {q : SQc} (h : q.sm) : (putQcB b q).length ≤ b.length + 1099513724946 := by
  obtain ⟨s0, s1, s2⟩ := h
  have h1 := putVar_len b q.f0
  have h2 := putVar_len (putVar b q.f0) q.f1
  have h3 := raws_len (b := putVar (putVar b q.f0) q.f1 ++ q.f2 ++ q.f3) s2.1 s2.2 q.f4.length
  rw [List.take_length] at h3
  simp only [List.length_append] at h3
  unfold putQcB rawsB
  omega
theorem putQc_len {l : SLimits} {b : List Int} {q : SQc} (h : q.sm) : (putQc l b q).length ≤ b.length + 1099513724946 := by
  unfold putQc
  split
  · exact putQcB_len h
  · simp
def headFits (h : SHead) : Bool := decide (h.f5.f0 < h.f0) && decide (h.f5.f1 = IntKind.i64.wrap (h.f1 - 1)) && decide (h.f5.f2 = h.f3)
def headOk (l : SLimits) (h : SHead) : Bool := qcOk l h.f5 && decide (0 ≤ h.f0 ∧ h.f0 ≤ 1152921504606846975) && decide (1 ≤ h.f1 ∧ h.f1 ≤ 1152921504606846975) && decide (0 ≤ h.f2 ∧ h.f2 ≤ IntKind.i64.wrap (l.f0 - 1)) && decide ((h.f3.length : Int) = 32) && decide ((h.f4.length : Int) = 32) && headFits h
theorem headOk_qc {l : SLimits} {h : SHead} (k : headOk l h = true) : qcOk l h.f5 = true := by simp only [headOk, Bool.and_eq_true] at k; exact k.1.1.1.1.1.1
theorem qcOk_lim {l : SLimits} {q : SQc} (k : qcOk l q = true) : limOk l = true := by simp only [qcOk, Bool.and_eq_true] at k; exact k.1.1.1.1.1.1
theorem qcOk_no {l : SLimits} {q : SQc} (k : limOk l = false) : qcOk l q = false := by simp [qcOk, k]
def putHeadB (b : List Int) (h : SHead) : List Int := putQcB (putVar (putVar (putVar b h.f0) h.f1) h.f2 ++ h.f3 ++ h.f4) h.f5
def putHead (l : SLimits) (b : List Int) (h : SHead) : List Int := if headOk l h = true then putHeadB b h else []
theorem putHeadB_len {b : List Int} {h : SHead} (k : h.sm) : (putHeadB b h).length ≤ b.length + 1099515822130 := by
  obtain ⟨s0, s1, s2⟩ := k
  have h1 := putVar_len b h.f0
  have h2 := putVar_len (putVar b h.f0) h.f1
  have h3 := putVar_len (putVar (putVar b h.f0) h.f1) h.f2
  have h4 := @putQcB_len (putVar (putVar (putVar b h.f0) h.f1) h.f2 ++ h.f3 ++ h.f4) h.f5 s2
  simp only [List.length_append] at h4
  unfold putHeadB
  omega
theorem putHead_len {l : SLimits} {b : List Int} {h : SHead} (k : h.sm) : (putHead l b h).length ≤ b.length + 1099515822130 := by
  unfold putHead
  split
  · exact putHeadB_len k
  · simp
theorem rdMust_z {s : SRS} {k : Bool} {c : Int} (hc : c ≠ 0) (h : (ae s k c).f1 = 0) : s.f1 = 0 ∧ k = true := by
  by_cases hs : s.f1 = 0
  · cases k with
    | true => exact ⟨hs, rfl⟩
    | false => rw [rdMust_hit hs rfl] at h; exact absurd h hc
  · rw [rdMust_er hs] at h; exact absurd h hs
theorem rdNum_z {b : List Int} {s : SRS} (h : (aa b s).1.f1 = 0) : s.f1 = 0 := by
  by_cases hs : s.f1 = 0
  · exact hs
  · rw [rdNum_er hs] at h; exact h
theorem rdQc_z {l : SLimits} {b : List Int} {s : SRS} (h : (rdQc l b s).1.f1 = 0) : s.f1 = 0 := by
  by_cases hs : s.f1 = 0
  · exact hs
  · rw [rdQc_er hs] at h; exact h
def rdHead6 (l : SLimits) (b : List Int) (s : SRS) : SRS × SHead :=
  let r1 := aa b s
  let r2 := aa b r1.1
  let r3 := ae r2.1 (decide (r2.2 ≠ 0)) 5
  let r4 := am b r3 l.f0 5
  let r5 := af b r4.1 32
  let r6 := af b r5.1 32
  let r7 := rdQc l b r6.1
  (r7.1, ⟨r1.2, r2.2, r4.2, r5.2, r6.2, r7.2⟩)
def ag (l : SLimits) (b : List Int) (s : SRS) : SRS × SHead := (ae (rdHead6 l b s).1 (headFits (rdHead6 l b s).2) 6, (rdHead6 l b s).2)
theorem rdHead_er {l : SLimits} {b : List Int} {s : SRS} (h : ¬ s.f1 = 0) : (ag l b s).1 = s := by
  have h6 : (rdHead6 l b s).1 = s := by simp only [rdHead6, rdNum_er h, rdMust_er h, rdBelow_er h, rdRaw_er h, rdQc_er h]
  simp only [ag, h6, rdMust_er h]
theorem rdHead_sm {l : SLimits} {b : List Int} {s : SRS} (h : b.length ≤ 1048576) : (ag l b s).2.sm := ⟨Nat.le_trans (rdRaw_len _ _ _).1 h, Nat.le_trans (rdRaw_len _ _ _).1 h, rdQc_sm h⟩
theorem rdHead_ok {l : SLimits} {b : List Int} {s : SRS} (h : U8s b) : (ag l b s).2.ok := ⟨i64_num h _, i64_num h _, i64_num h _, rdRaw_u8 h _ _, rdRaw_u8 h _ _, rdQc_ok h⟩
def bc (l : SLimits) (b : List Int) (a : Int) : SHead × Int × Int := getOut (ag l b (rs0 l a)) default
theorem getHead_sm {l : SLimits} {b : List Int} (a : Int) (h : b.length ≤ 1048576) : (bc l b a).1.sm := getOut_pr (p := SHead.sm) (rdHead_sm h) SHead.sm_df
def ah (n : Int) : Int := if n < 2 then 0 else splitAt n
theorem splitAtT_bd (n : Int) : (n < 2 → ah n = 0) ∧ (2 ≤ n → 1 ≤ ah n ∧ ah n < n) := by
  unfold ah
  refine ⟨fun h => by rw [if_pos h], fun h => ?_⟩
  rw [if_neg (by omega)]
  exact splitAt_bd n h
def az (i n : Int) : Int := if 1 ≤ n ∧ n ≤ 1048576 ∧ 0 ≤ i ∧ i ≤ n - 1 then pathLen n.toNat i n else 0
theorem pathLen_fuel : ∀ (d e : Nat) (i n : Int), n ≤ d → n ≤ e → 1 ≤ n → pathLen d i n = pathLen e i n
  | 0, _, i, n, h, _, h1 => by omega
  | _, 0, i, n, _, h, h1 => by omega
  | d + 1, e + 1, i, n, h, h', h1 => by
    unfold pathLen
    by_cases h2 : n < 2
    · rw [if_pos h2, if_pos h2]
    · have := splitAt_bd n (by omega)
      rw [if_neg h2, if_neg h2]
      split
      · rw [pathLen_fuel d e _ _ (by omega) (by omega) (by omega)]
      · rw [pathLen_fuel d e _ _ (by omega) (by omega) (by omega)]
theorem pathLenT_bd (i n : Int) : 0 ≤ az i n ∧ az i n ≤ 1048576 := by
  unfold az
  split
  · have := pathLen_bd n.toNat i n; omega
  · omega
theorem pathLenT_no {i n : Int} (h : ¬ (1 ≤ n ∧ n ≤ 1048576 ∧ 0 ≤ i ∧ i ≤ n - 1)) : az i n = 0 := by unfold az; rw [if_neg h]
theorem pathLenT_one {i n : Int} (h : n < 2) : az i n = 0 := by
  unfold az
  split
  · rw [show n = 1 from by omega]; rfl
  · rfl
theorem pathLenT_left {i n : Int} (h : 1 ≤ n ∧ n ≤ 1048576 ∧ 0 ≤ i ∧ i ≤ n - 1) (h2 : 2 ≤ n) (hi : i < ah n) : az i n = 1 + az i (ah n) := by
  have hb := splitAt_bd n h2
  have e : ah n = splitAt n := by unfold ah; rw [if_neg (by omega)]
  rw [e] at hi ⊢
  unfold az
  rw [if_pos h, if_pos (by omega)]
  obtain ⟨d, hd⟩ : ∃ d, n.toNat = d + 1 := ⟨n.toNat - 1, by omega⟩
  rw [hd]
  conv => lhs; unfold pathLen
  rw [if_neg (by omega), if_pos hi, pathLen_fuel d (splitAt n).toNat _ _ (by omega) (by omega) (by omega)]
theorem pathLenT_right {i n : Int} (h : 1 ≤ n ∧ n ≤ 1048576 ∧ 0 ≤ i ∧ i ≤ n - 1) (h2 : 2 ≤ n) (hi : ¬ i < ah n) : az i n = 1 + az (i - ah n) (n - ah n) := by
  have hb := splitAt_bd n h2
  have e : ah n = splitAt n := by unfold ah; rw [if_neg (by omega)]
  rw [e] at hi ⊢
  unfold az
  rw [if_pos h, if_pos (by omega)]
  obtain ⟨d, hd⟩ : ∃ d, n.toNat = d + 1 := ⟨n.toNat - 1, by omega⟩
  rw [hd]
  conv => lhs; unfold pathLen
  rw [if_neg (by omega), if_neg hi, pathLen_fuel d (n - splitAt n).toNat _ _ (by omega) (by omega) (by omega)]
def leafHash (x : List Int) : List Int := sha ([0] ++ x)
def nodeHash (a b : List Int) : List Int := sha ([1] ++ a ++ b)
theorem leafHash_len (x : List Int) : (leafHash x).length ≤ 32 := sha_len _
theorem leafHash_u8 (x : List Int) : U8s (leafHash x) := sha_u8 _
theorem nodeHash_len (a b : List Int) : (nodeHash a b).length ≤ 32 := sha_len _
theorem nodeHash_u8 (a b : List Int) : U8s (nodeHash a b) := sha_u8 _
theorem u8_cons {x : Int} {a : List Int} (h0 : 0 ≤ x ∧ x ≤ 255) (h : U8s a) : U8s ([x] ++ a) := fun y hy => by
  rcases List.mem_append.1 hy with hy | hy
  · rcases List.mem_singleton.1 hy with rfl; exact h0
  · exact h y hy
theorem u8_app {a b : List Int} (h : U8s a) (h' : U8s b) : U8s (a ++ b) := fun y hy => by
  rcases List.mem_append.1 hy with hy | hy
  · exact h y hy
  · exact h' y hy
theorem mem_sub {α : Type} {p : α → Prop} {l : List α} (h : ∀ y ∈ l, p y) (a b : Nat) : ∀ y ∈ (l.drop a).take b, p y := fun y hy => h y (List.mem_of_mem_drop (List.mem_of_mem_take hy))
theorem splitAtT_le (n : Int) : 0 ≤ ah n ∧ (0 ≤ n → ah n ≤ n) := by have := splitAtT_bd n; omega
theorem part_len {α : Type} (l : List α) : ((l.drop 0).take ((ah (l.length : Int)).toNat - 0)).length = (ah (l.length : Int)).toNat ∧ ((l.drop (ah (l.length : Int)).toNat).take (l.length - (ah (l.length : Int)).toNat)).length = l.length - (ah (l.length : Int)).toNat := by
  have := splitAtT_le (l.length : Int)
  simp only [List.length_take, List.length_drop]
  omega
theorem pre_len {α : Type} (l : List α) : ((l.drop 0).take (((l.length : Int) - 1).toNat - 0)).length = l.length - 1 := by
  simp only [List.length_take, List.length_drop]
  omega
def aq (l : List (List Int)) : List Int :=
  if h0 : l.length = 0 then sha [] else if h1 : l.length = 1 then leafHash (l.getD 0 []) else
  nodeHash (aq ((l.drop 0).take ((ah (l.length : Int)).toNat - 0))) (aq ((l.drop (ah (l.length : Int)).toNat).take (l.length - (ah (l.length : Int)).toNat)))
termination_by l.length
decreasing_by
  · have h1 := part_len l; have h2 := splitAtT_bd (l.length : Int); omega
  · have h1 := part_len l; have h2 := splitAtT_bd (l.length : Int); omega
theorem treeRoot_nil {l : List (List Int)} (h : (l.length : Int) = 0) : aq l = sha [] := by rw [aq, dif_pos (by omega)]
theorem treeRoot_one {l : List (List Int)} (h : (l.length : Int) = 1) : aq l = leafHash (l.getD 0 []) := by rw [aq, dif_neg (by omega), dif_pos (by omega)]
theorem treeRoot_two {l : List (List Int)} (h0 : ¬ (l.length : Int) = 0) (h1 : ¬ (l.length : Int) = 1) : aq l = nodeHash (aq ((l.drop 0).take ((ah (l.length : Int)).toNat - 0))) (aq ((l.drop (ah (l.length : Int)).toNat).take (l.length - (ah (l.length : Int)).toNat))) := by rw [aq, dif_neg (by omega), dif_neg (by omega)]
theorem treeRoot_len (l : List (List Int)) : (aq l).length ≤ 32 := by
  rw [aq]
  split
  · exact sha_len _
  · split
    · exact leafHash_len _
    · exact nodeHash_len _ _
theorem treeRoot_u8 (l : List (List Int)) : U8s (aq l) := by
  rw [aq]
  split
  · exact sha_u8 _
  · split
    · exact leafHash_u8 _
    · exact nodeHash_u8 _ _
def pathOf (l : List (List Int)) (i : Int) : List (List Int) :=
  if h0 : 0 ≤ i ∧ i ≤ (l.length : Int) - 1 then if h1 : (l.length : Int) = 1 then [] else
  if i < ah (l.length : Int) then pathOf ((l.drop 0).take ((ah (l.length : Int)).toNat - 0)) i ++ [aq ((l.drop (ah (l.length : Int)).toNat).take (l.length - (ah (l.length : Int)).toNat))]
  else pathOf ((l.drop (ah (l.length : Int)).toNat).take (l.length - (ah (l.length : Int)).toNat)) (i - ah (l.length : Int)) ++ [aq ((l.drop 0).take ((ah (l.length : Int)).toNat - 0))] else []
termination_by l.length
decreasing_by
  · have h1 := part_len l; have h2 := splitAtT_bd (l.length : Int); omega
  · have h1 := part_len l; have h2 := splitAtT_bd (l.length : Int); omega
theorem pathOf_no {l : List (List Int)} {i : Int} (h : ¬ (0 ≤ i ∧ i ≤ (l.length : Int) - 1)) : pathOf l i = [] := by rw [pathOf, dif_neg h]
theorem pathOf_one {l : List (List Int)} {i : Int} (h : (l.length : Int) = 1) : pathOf l i = [] := by
  by_cases c : 0 ≤ i ∧ i ≤ (l.length : Int) - 1
  · rw [pathOf, dif_pos c, dif_pos h]
  · exact pathOf_no c
theorem pathOf_left {l : List (List Int)} {i : Int} (h : 0 ≤ i ∧ i ≤ (l.length : Int) - 1) (h1 : ¬ (l.length : Int) = 1) (h2 : i < ah (l.length : Int)) : pathOf l i = pathOf ((l.drop 0).take ((ah (l.length : Int)).toNat - 0)) i ++ [aq ((l.drop (ah (l.length : Int)).toNat).take (l.length - (ah (l.length : Int)).toNat))] := by
  rw [pathOf, dif_pos h, dif_neg h1, if_pos h2]
theorem pathOf_right {l : List (List Int)} {i : Int} (h : 0 ≤ i ∧ i ≤ (l.length : Int) - 1) (h1 : ¬ (l.length : Int) = 1) (h2 : ¬ i < ah (l.length : Int)) : pathOf l i = pathOf ((l.drop (ah (l.length : Int)).toNat).take (l.length - (ah (l.length : Int)).toNat)) (i - ah (l.length : Int)) ++ [aq ((l.drop 0).take ((ah (l.length : Int)).toNat - 0))] := by
  rw [pathOf, dif_pos h, dif_neg h1, if_neg h2]
theorem pathOf_len : ∀ (d : Nat) (l : List (List Int)) (i : Int), l.length ≤ d → (pathOf l i).length ≤ l.length - 1
  | 0, l, i, h => by rw [pathOf_no (by omega)]; simp
  | d + 1, l, i, h => by
    by_cases c : 0 ≤ i ∧ i ≤ (l.length : Int) - 1
    · by_cases c1 : (l.length : Int) = 1
      · rw [pathOf_one c1]; simp
      · have hb := splitAtT_bd (l.length : Int)
        have hp := part_len l
        by_cases c2 : i < ah (l.length : Int)
        · rw [pathOf_left c c1 c2, List.length_append]
          have := pathOf_len d ((l.drop 0).take ((ah (l.length : Int)).toNat - 0)) i (by omega)
          simp only [List.length_cons, List.length_nil]
          omega
        · rw [pathOf_right c c1 c2, List.length_append]
          have := pathOf_len d ((l.drop (ah (l.length : Int)).toNat).take (l.length - (ah (l.length : Int)).toNat)) (i - ah (l.length : Int)) (by omega)
          simp only [List.length_cons, List.length_nil]
          omega
    · rw [pathOf_no c]; simp
theorem pathOf_mem {p : List Int → Prop} (hp : ∀ l, p (aq l)) : ∀ (d : Nat) (l : List (List Int)) (i : Int), l.length ≤ d → ∀ y ∈ pathOf l i, p y
  | 0, l, i, h, y, hy => by rw [pathOf_no (by omega)] at hy; cases hy
  | d + 1, l, i, h, y, hy => by
    by_cases c : 0 ≤ i ∧ i ≤ (l.length : Int) - 1
    · by_cases c1 : (l.length : Int) = 1
      · rw [pathOf_one c1] at hy; cases hy
      · have hb := splitAtT_bd (l.length : Int)
        have hq := part_len l
        by_cases c2 : i < ah (l.length : Int)
        · rw [pathOf_left c c1 c2] at hy
          rcases List.mem_append.1 hy with hy | hy
          · exact pathOf_mem hp d _ i (by omega) y hy
          · rcases List.mem_singleton.1 hy with rfl; exact hp _
        · rw [pathOf_right c c1 c2] at hy
          rcases List.mem_append.1 hy with hy | hy
          · exact pathOf_mem hp d _ _ (by omega) y hy
          · rcases List.mem_singleton.1 hy with rfl; exact hp _
    · rw [pathOf_no c] at hy; cases hy
theorem pathOf_sm {l : List (List Int)} {i : Int} (h : l.length ≤ 1048576) : (pathOf l i).length ≤ 1048576 ∧ ∀ y ∈ pathOf l i, y.length ≤ 1048576 := by
  have := pathOf_len l.length l i (Nat.le_refl _)
  exact ⟨by omega, pathOf_mem (p := fun y => y.length ≤ 1048576) (fun l => Nat.le_trans (treeRoot_len l) (by decide)) l.length l i (Nat.le_refl _)⟩
theorem getText_u8 {b : List Int} (h : U8s b) (a m : Int) : U8s (getText b a m).1 := by
  unfold getText
  split
  · split
    · exact fun x hx => by cases hx
    · exact getRaw_u8 h _ _
  · exact fun x hx => by cases hx
theorem rdText_u8 {b : List Int} (h : U8s b) (s : SRS) (m : Int) : U8s (rdText b s m).2 := by
  unfold rdText
  split
  · exact getText_u8 h _ _
  · exact fun x hx => by cases hx
theorem mem_snoc {α : Type} {p : α → Prop} {l : List α} {x : α} (h : ∀ y ∈ l, p y) (hx : p x) : ∀ y ∈ l ++ [x], p y := fun y hy => by
  rcases List.mem_append.1 hy with hy | hy
  · exact h y hy
  · rcases List.mem_singleton.1 hy with rfl; exact hx
def rdTx (l : SLimits) (b : List Int) : Nat → SRS → List (List Int) → SRS × List (List Int)
  | 0, q, ts => (q, ts)
  | d + 1, q, ts => if q.f1 = 0 then rdTx l b d (rdText b q l.f1).1 (ts ++ [(rdText b q l.f1).2]) else (q, ts)
theorem rdTx_next {l : SLimits} {b : List Int} {n i : Nat} {q : SRS} {ts : List (List Int)} (hi : i < n) (h : q.f1 = 0) : rdTx l b (n - i) q ts = rdTx l b (n - (i + 1)) (rdText b q l.f1).1 (ts ++ [(rdText b q l.f1).2]) := by
  obtain ⟨d, e⟩ : ∃ d, n - i = d + 1 := ⟨n - i - 1, by omega⟩
  rw [e, show n - (i + 1) = d from by omega, rdTx, if_pos h]
theorem rdTx_out {l : SLimits} {b : List Int} {n i : Nat} {q : SRS} {ts : List (List Int)} (h : n ≤ i ∨ ¬ q.f1 = 0) : rdTx l b (n - i) q ts = (q, ts) := by
  generalize hd : n - i = d
  cases d with
  | zero => rfl
  | succ d => rw [rdTx, if_neg (by omega)]
theorem rdTx_er {l : SLimits} {b : List Int} {d : Nat} {q : SRS} {ts : List (List Int)} (h : ¬ q.f1 = 0) : rdTx l b d q ts = (q, ts) := by
  cases d with
  | zero => rfl
  | succ d => rw [rdTx, if_neg h]
theorem rdTx_len {l : SLimits} {b : List Int} : ∀ (d : Nat) (q : SRS) (ts : List (List Int)), (rdTx l b d q ts).2.length ≤ ts.length + d
  | 0, _, _ => Nat.le_refl _
  | d + 1, q, ts => by
    rw [rdTx]
    split
    · have := rdTx_len (l := l) (b := b) d (rdText b q l.f1).1 (ts ++ [(rdText b q l.f1).2]); simp only [List.length_append, List.length_cons, List.length_nil] at this; omega
    · simp
theorem rdTx_mem {l : SLimits} {b : List Int} {p : List Int → Prop} (hp : ∀ s, p (rdText b s l.f1).2) : ∀ (d : Nat) (q : SRS) (ts : List (List Int)), (∀ y ∈ ts, p y) → ∀ y ∈ (rdTx l b d q ts).2, p y
  | 0, _, _, h => h
  | d + 1, q, ts, h => by
    rw [rdTx]
    split
    · exact rdTx_mem hp d _ _ (mem_snoc h (hp _))
    · exact h
def rdB2 (l : SLimits) (b : List Int) (s : SRS) : SRS × Int := am b (ag l b s).1 (l.f2 + 1) 3
def rdB3 (l : SLimits) (b : List Int) (s : SRS) : SRS × List (List Int) := rdTx l b (rdB2 l b s).2.toNat (rdB2 l b s).1 []
def ar (l : SLimits) (b : List Int) (s : SRS) : SRS × SBlock := (if (rdB3 l b s).1.f1 = 0 then ae (rdB3 l b s).1 (decide ((ag l b s).2.f4 = aq (rdB3 l b s).2)) 7 else (rdB3 l b s).1, ⟨(ag l b s).2, (rdB3 l b s).2⟩)
theorem rdB_out {l : SLimits} {b : List Int} {s q : SRS} {i : Nat} {ts : List (List Int)} (h4 : rdTx l b ((rdB2 l b s).2.toNat - i) q ts = rdTx l b (rdB2 l b s).2.toNat (rdB2 l b s).1 []) (h : (rdB2 l b s).2.toNat ≤ i ∨ ¬ q.f1 = 0) : rdB3 l b s = (q, ts) := h4.symm.trans (rdTx_out h)
theorem rdBlock_ok {l : SLimits} {b : List Int} {s q : SRS} {ts : List (List Int)} (h : rdB3 l b s = (q, ts)) (hq : q.f1 = 0) : ar l b s = (ae q (decide ((ag l b s).2.f4 = aq ts)) 7, ⟨(ag l b s).2, ts⟩) := by unfold ar; rw [h, if_pos hq]
theorem rdBlock_no {l : SLimits} {b : List Int} {s q : SRS} {ts : List (List Int)} (h : rdB3 l b s = (q, ts)) (hq : ¬ q.f1 = 0) : ar l b s = (q, ⟨(ag l b s).2, ts⟩) := by unfold ar; rw [h, if_neg hq]
theorem rdB2_z {l : SLimits} {b : List Int} {s : SRS} (hl : s.f1 = 0 → limOk l = true) (h : (rdB2 l b s).1.f1 = 0) : (rdB2 l b s).2 ≤ 8 := by
  by_cases hs : s.f1 = 0
  · have h5 := hl hs
    simp [limOk] at h5
    have hm : (ae (aa b (ag l b s).1).1 (decide ((aa b (ag l b s).1).2 < l.f2 + 1)) 3).f1 = 0 := h
    obtain ⟨_, hk⟩ := rdMust_z (by decide) hm
    have := of_decide_eq_true hk
    show (aa b (ag l b s).1).2 ≤ 8
    omega
  · have h1 : (rdB2 l b s).1 = s := by unfold rdB2; rw [rdBelow_er (by rw [rdHead_er hs]; exact hs), rdHead_er hs]
    rw [h1] at h; exact absurd h hs
theorem rdBlock_er {l : SLimits} {b : List Int} {s : SRS} (h : ¬ s.f1 = 0) : (ar l b s).1 = s := by
  have h0 : (rdB2 l b s).1 = s := by unfold rdB2; rw [rdBelow_er (by rw [rdHead_er h]; exact h), rdHead_er h]
  have h3 : rdB3 l b s = (s, []) := by unfold rdB3; rw [h0, rdTx_er h]
  rw [rdBlock_no h3 h]
theorem rdBlock_sm {l : SLimits} {b : List Int} {s : SRS} (h : b.length ≤ 1048576) (hl : s.f1 = 0 → limOk l = true) : (ar l b s).2.sm := by
  refine ⟨rdHead_sm h, ?_, rdTx_mem (fun s => Nat.le_trans (rdText_len b s l.f1) h) _ _ _ fun y hy => by cases hy⟩
  show (rdB3 l b s).2.length ≤ 1048576
  unfold rdB3
  by_cases hz : (rdB2 l b s).1.f1 = 0
  · have := rdB2_z hl hz
    have := rdTx_len (l := l) (b := b) (rdB2 l b s).2.toNat (rdB2 l b s).1 []
    simp only [List.length_nil] at this
    omega
  · rw [rdTx_er hz]; simp
theorem rs0_zb {l : SLimits} {a : Int} (h : (rs0 l a).f1 = 0) : limOk l = true := by
  cases hl : limOk l with
  | true => rfl
  | false => rw [rs0_no hl] at h; exact absurd h (show ¬ ((5 : Int) = 0) by decide)
def ax (l : SLimits) (b : List Int) (a : Int) : SBlock × Int × Int := getOut (ar l b (rs0 l a)) default
theorem getBlock_sm {l : SLimits} {b : List Int} (a : Int) (h : b.length ≤ 1048576) : (ax l b a).1.sm := getOut_pr (p := SBlock.sm) (rdBlock_sm h rs0_zb) SBlock.sm_df
def rdEnt (l : SLimits) (b : List Int) (v : Int) (q : SRS) (la : Int) : SRS × SEntry :=
  let r1 := am b q l.f0 5
  let q2 := ae r1.1 (decide (la < r1.2)) 6
  let r3 := am b q2 v 6
  let r4 := af b r3.1 32
  (r4.1, ⟨r1.2, r3.2, r4.2⟩)
theorem rdEnt_sm {l : SLimits} {b : List Int} {v : Int} {q : SRS} {la : Int} (h : b.length ≤ 1048576) : (rdEnt l b v q la).2.sm := Nat.le_trans (rdRaw_len _ _ _).1 h
def rdEs (l : SLimits) (b : List Int) (v : Int) : Nat → SRS → Int → List SEntry → SRS × List SEntry
  | 0, q, _, es => (q, es)
  | d + 1, q, la, es => if q.f1 = 0 then rdEs l b v d (rdEnt l b v q la).1 (rdEnt l b v q la).2.f0 (es ++ [(rdEnt l b v q la).2]) else (q, es)
theorem rdEs_next {l : SLimits} {b : List Int} {v : Int} {n i : Nat} {q : SRS} {la : Int} {es : List SEntry} (hi : i < n) (h : q.f1 = 0) : rdEs l b v (n - i) q la es = rdEs l b v (n - (i + 1)) (rdEnt l b v q la).1 (rdEnt l b v q la).2.f0 (es ++ [(rdEnt l b v q la).2]) := by
  obtain ⟨d, e⟩ : ∃ d, n - i = d + 1 := ⟨n - i - 1, by omega⟩
  rw [e, show n - (i + 1) = d from by omega, rdEs, if_pos h]
theorem rdEs_out {l : SLimits} {b : List Int} {v : Int} {n i : Nat} {q : SRS} {la : Int} {es : List SEntry} (h : n ≤ i ∨ ¬ q.f1 = 0) : rdEs l b v (n - i) q la es = (q, es) := by
  generalize hd : n - i = d
  cases d with
  | zero => rfl
  | succ d => rw [rdEs, if_neg (by omega)]
theorem rdEs_len {l : SLimits} {b : List Int} {v : Int} : ∀ (d : Nat) (q : SRS) (la : Int) (es : List SEntry), (rdEs l b v d q la es).2.length ≤ es.length + d
  | 0, _, _, _ => Nat.le_refl _
  | d + 1, q, la, es => by
    rw [rdEs]
    split
    · have := rdEs_len (l := l) (b := b) (v := v) d (rdEnt l b v q la).1 (rdEnt l b v q la).2.f0 (es ++ [(rdEnt l b v q la).2]); simp only [List.length_append, List.length_cons, List.length_nil] at this; omega
    · simp
theorem rdEs_mem {l : SLimits} {b : List Int} {v : Int} (h0 : b.length ≤ 1048576) : ∀ (d : Nat) (q : SRS) (la : Int) (es : List SEntry), (∀ y ∈ es, SEntry.sm y) → ∀ y ∈ (rdEs l b v d q la es).2, SEntry.sm y
  | 0, _, _, _, h => h
  | d + 1, q, la, es, h => by
    rw [rdEs]
    split
    · exact rdEs_mem h0 d _ _ _ fun y hy => by
        rcases List.mem_append.1 hy with hy | hy
        · exact h y hy
        · rcases List.mem_singleton.1 hy with rfl; exact rdEnt_sm h0
    · exact h
theorem rdEs_er {l : SLimits} {b : List Int} {v : Int} {d : Nat} {q : SRS} {la : Int} {es : List SEntry} (h : ¬ q.f1 = 0) : rdEs l b v d q la es = (q, es) := by
  cases d with
  | zero => rfl
  | succ d => rw [rdEs, if_neg h]
def rdTc1 (l : SLimits) (b : List Int) (s : SRS) : SRS × Int := am b (aa b s).1 (l.f0 + 1) 3
def rdTc (l : SLimits) (b : List Int) (s : SRS) : SRS × STc := ((rdEs l b (aa b s).2 (rdTc1 l b s).2.toNat (rdTc1 l b s).1 (-1) []).1, ⟨(aa b s).2, (rdEs l b (aa b s).2 (rdTc1 l b s).2.toNat (rdTc1 l b s).1 (-1) []).2⟩)
theorem rdTc1_z {l : SLimits} {b : List Int} {s : SRS} (hl : s.f1 = 0 → limOk l = true) (h : (rdTc1 l b s).1.f1 = 0) : (rdTc1 l b s).2 ≤ 10 := by
  by_cases hs : s.f1 = 0
  · have h5 := hl hs
    simp [limOk] at h5
    have hm : (ae (aa b (aa b s).1).1 (decide ((aa b (aa b s).1).2 < l.f0 + 1)) 3).f1 = 0 := h
    have hk : decide ((aa b (aa b s).1).2 < l.f0 + 1) = true := by
      cases hk : decide ((aa b (aa b s).1).2 < l.f0 + 1) with
      | true => rfl
      | false =>
        rw [hk] at hm
        by_cases h1 : (aa b (aa b s).1).1.f1 = 0
        · rw [rdMust_hit h1 rfl] at hm; exact absurd hm (show ¬ ((3 : Int) = 0) by decide)
        · rw [rdMust_er h1] at hm; exact absurd hm h1
    have := of_decide_eq_true hk
    show (aa b (aa b s).1).2 ≤ 10
    omega
  · have h1 : (rdTc1 l b s).1 = s := by unfold rdTc1; rw [rdNum_er hs, rdBelow_er hs]
    rw [h1] at h; exact absurd h hs
theorem rdTc_er {l : SLimits} {b : List Int} {s : SRS} (h : ¬ s.f1 = 0) : (rdTc l b s).1 = s := by
  have h0 : (rdTc1 l b s).1 = s := by unfold rdTc1; rw [rdNum_er h, rdBelow_er h]
  unfold rdTc
  rw [h0, rdEs_er h]
theorem rdTc_sm {l : SLimits} {b : List Int} {s : SRS} (h : b.length ≤ 1048576) (hl : s.f1 = 0 → limOk l = true) : (rdTc l b s).2.sm := by
  show (rdEs l b (aa b s).2 (rdTc1 l b s).2.toNat (rdTc1 l b s).1 (-1) []).2.length ≤ 1048576 ∧ ∀ y ∈ (rdEs l b (aa b s).2 (rdTc1 l b s).2.toNat (rdTc1 l b s).1 (-1) []).2, SEntry.sm y
  refine ⟨?_, rdEs_mem h _ _ _ _ fun y hy => by cases hy⟩
  by_cases hz : (rdTc1 l b s).1.f1 = 0
  · have := rdTc1_z hl hz
    have := rdEs_len (l := l) (b := b) (v := (aa b s).2) (rdTc1 l b s).2.toNat (rdTc1 l b s).1 (-1) []
    simp only [List.length_nil] at this
    omega
  · rw [rdEs_er hz]; simp
theorem rs0_z' {l : SLimits} {a : Int} (h : (rs0 l a).f1 = 0) : limOk l = true := by
  cases hl : limOk l with
  | true => rfl
  | false => rw [rs0_no hl] at h; exact absurd h (show ¬ ((5 : Int) = 0) by decide)
def getTc (l : SLimits) (b : List Int) (a : Int) : STc × Int × Int := getOut (rdTc l b (rs0 l a)) default
theorem getTc_sm {l : SLimits} {b : List Int} (a : Int) (h : b.length ≤ 1048576) : (getTc l b a).1.sm := getOut_pr (p := STc.sm) (rdTc_sm h rs0_z') STc.sm_df
def closes (p : SProof) : Bool := decide (p.f1.f0 = (p.f0.getD ((p.f0.length : Int) - 1).toNat default).f0) && decide (p.f1.f1 = (p.f0.getD ((p.f0.length : Int) - 1).toNat default).f1)
def headsOk (l : SLimits) (hs : List SHead) : Bool := hs.all (headOk l)
theorem headsOk_step {l : SLimits} {hs : List SHead} {i : Nat} (hi : i < hs.length) (h : headsOk l (hs.take i) = true) (hx : headOk l (hs.getD i default) = true) : headsOk l (hs.take (i + 1)) = true := by
  rw [take_succ' (df := default) hi]; simp only [headsOk, List.all_append, List.all_cons, List.all_nil, Bool.and_true, Bool.and_eq_true] at h ⊢; exact ⟨h, hx⟩
theorem headsOk_at {l : SLimits} {hs : List SHead} {i : Nat} (hi : i < hs.length) (h : headsOk l hs = true) : headOk l (hs.getD i default) = true := by
  rw [headsOk, List.all_eq_true] at h
  exact h _ (by rw [List.getD_eq_getElem?_getD, List.getElem?_eq_getElem hi]; exact List.getElem_mem hi)
theorem headsOk_no {l : SLimits} {hs : List SHead} {i : Nat} (hi : i < hs.length) (hx : headOk l (hs.getD i default) = false) : headsOk l hs = false := by
  cases h : headsOk l hs with
  | false => rfl
  | true => rw [headsOk_at hi h] at hx; cases hx
def proofOk (l : SLimits) (p : SProof) : Bool := decide (3 ≤ (p.f0.length : Int) ∧ (p.f0.length : Int) ≤ l.f4) && headsOk l p.f0 && qcOk l p.f1 && closes p
theorem proofOk_parts {l : SLimits} {p : SProof} (h : proofOk l p = true) : 3 ≤ p.f0.length ∧ p.f0.length ≤ 5 ∧ headsOk l p.f0 = true ∧ qcOk l p.f1 = true := by
  simp only [proofOk, Bool.and_eq_true, decide_eq_true_eq] at h
  obtain ⟨⟨⟨h1, h2⟩, h3⟩, h4⟩ := h
  have hl := qcOk_lim h3
  simp [limOk] at hl
  exact ⟨by omega, by omega, h2, h3⟩
def putProofB (b : List Int) (p : SProof) : List Int := putQcB (p.f0.foldl putHeadB (putVar b (p.f0.length : Int))) p.f1
def putProof (l : SLimits) (b : List Int) (p : SProof) : List Int := if proofOk l p = true then putProofB b p else []
theorem heads_len {b : List Int} {hs : List SHead} (hn : hs.length ≤ 5) (h : ∀ x ∈ hs, SHead.sm x) (i : Nat) : ((hs.take i).foldl putHeadB b).length ≤ b.length + 5 * 1099515822130 :=
  foldl_take_len putHeadB 1099515822130 SHead.sm (fun b x hx => putHeadB_len hx) hs b h i 5 hn
theorem putProof_len {l : SLimits} {b : List Int} {p : SProof} (h : p.sm) : (putProof l b p).length ≤ b.length + 6597092835605 := by
  obtain ⟨s0, s1⟩ := h
  unfold putProof
  split
  · rename_i hk
    obtain ⟨_, h5, _⟩ := proofOk_parts hk
    have h1 := putVar_len b (p.f0.length : Int)
    have h2 := heads_len (b := putVar b (p.f0.length : Int)) h5 s0.2 p.f0.length
    rw [List.take_length] at h2
    have h3 := @putQcB_len (p.f0.foldl putHeadB (putVar b (p.f0.length : Int))) p.f1 s1
    unfold putProofB
    omega
  · simp
def rdHs (l : SLimits) (b : List Int) : Nat → SRS → List SHead → SRS × List SHead
  | 0, q, hs => (q, hs)
  | d + 1, q, hs => if q.f1 = 0 then rdHs l b d (ag l b q).1 (hs ++ [(ag l b q).2]) else (q, hs)
theorem rdHs_next {l : SLimits} {b : List Int} {n i : Nat} {q : SRS} {hs : List SHead} (hi : i < n) (h : q.f1 = 0) : rdHs l b (n - i) q hs = rdHs l b (n - (i + 1)) (ag l b q).1 (hs ++ [(ag l b q).2]) := by
  obtain ⟨d, e⟩ : ∃ d, n - i = d + 1 := ⟨n - i - 1, by omega⟩
  rw [e, show n - (i + 1) = d from by omega, rdHs, if_pos h]
theorem rdHs_out {l : SLimits} {b : List Int} {n i : Nat} {q : SRS} {hs : List SHead} (h : n ≤ i ∨ ¬ q.f1 = 0) : rdHs l b (n - i) q hs = (q, hs) := by
  generalize hd : n - i = d
  cases d with
  | zero => rfl
  | succ d => rw [rdHs, if_neg (by omega)]
theorem rdHs_len {l : SLimits} {b : List Int} : ∀ (d : Nat) (q : SRS) (hs : List SHead), (rdHs l b d q hs).2.length ≤ hs.length + d
  | 0, _, _ => Nat.le_refl _
  | d + 1, q, hs => by
    rw [rdHs]
    split
    · have := rdHs_len (l := l) (b := b) d (ag l b q).1 (hs ++ [(ag l b q).2]); simp only [List.length_append, List.length_cons, List.length_nil] at this; omega
    · simp
theorem rdHs_mem {l : SLimits} {b : List Int} {p : SHead → Prop} (hp : ∀ s, p (ag l b s).2) : ∀ (d : Nat) (q : SRS) (hs : List SHead), (∀ y ∈ hs, p y) → ∀ y ∈ (rdHs l b d q hs).2, p y
  | 0, _, _, h => h
  | d + 1, q, hs, h => by
    rw [rdHs]
    split
    · exact rdHs_mem hp d _ _ fun y hy => by
        rcases List.mem_append.1 hy with hy | hy
        · exact h y hy
        · rcases List.mem_singleton.1 hy with rfl; exact hp _
    · exact h
theorem rdHs_er {l : SLimits} {b : List Int} {d : Nat} {q : SRS} {hs : List SHead} (h : ¬ q.f1 = 0) : rdHs l b d q hs = (q, hs) := by
  cases d with
  | zero => rfl
  | succ d => rw [rdHs, if_neg h]
def rdProof2 (l : SLimits) (b : List Int) (x : SRS × List SHead) : SRS × SProof := (if (rdQc l b x.1).1.f1 = 0 then ae (rdQc l b x.1).1 (closes ⟨x.2, (rdQc l b x.1).2⟩) 6 else (rdQc l b x.1).1, ⟨x.2, (rdQc l b x.1).2⟩)
theorem rdProof2_yes {l : SLimits} {b : List Int} {q : SRS} {hs : List SHead} (h : (rdQc l b q).1.f1 = 0) : rdProof2 l b (q, hs) = (ae (rdQc l b q).1 (closes ⟨hs, (rdQc l b q).2⟩) 6, ⟨hs, (rdQc l b q).2⟩) := by unfold rdProof2; rw [if_pos h]
theorem rdProof2_no {l : SLimits} {b : List Int} {q : SRS} {hs : List SHead} (h : ¬ (rdQc l b q).1.f1 = 0) : rdProof2 l b (q, hs) = ((rdQc l b q).1, ⟨hs, (rdQc l b q).2⟩) := by unfold rdProof2; rw [if_neg h]
def rdProof0 (l : SLimits) (b : List Int) (s : SRS) : SRS := ae (ae (aa b s).1 (decide (3 ≤ (aa b s).2)) 5) (decide ((aa b s).2 ≤ l.f4)) 3
def ay (l : SLimits) (b : List Int) (s : SRS) : SRS × SProof := rdProof2 l b (rdHs l b (aa b s).2.toNat (rdProof0 l b s) [])
theorem rdProof0_z {l : SLimits} {b : List Int} {s : SRS} (hl : s.f1 = 0 → limOk l = true) (h : (rdProof0 l b s).f1 = 0) : 3 ≤ (aa b s).2 ∧ (aa b s).2 ≤ 5 := by
  obtain ⟨h1, h2⟩ := rdMust_z (by decide) h
  obtain ⟨h3, h4⟩ := rdMust_z (by decide) h1
  have h5 := hl (rdNum_z h3)
  simp [limOk] at h5
  have h2 := of_decide_eq_true h2
  have h4 := of_decide_eq_true h4
  omega
theorem rdProof_er {l : SLimits} {b : List Int} {s : SRS} (h : ¬ s.f1 = 0) : (ay l b s).1 = s := by
  have h0 : rdProof0 l b s = s := by simp only [rdProof0, rdNum_er h, rdMust_er h]
  unfold ay
  rw [h0, rdHs_er h, rdProof2_no (by rw [rdQc_er h]; exact h)]
  exact rdQc_er h
theorem rdProof_sm {l : SLimits} {b : List Int} {s : SRS} (h : b.length ≤ 1048576) (hl : s.f1 = 0 → limOk l = true) : (ay l b s).2.sm := by
  refine ⟨⟨?_, ?_⟩, rdQc_sm h⟩
  · show (rdHs l b (aa b s).2.toNat (rdProof0 l b s) []).2.length ≤ 1048576
    by_cases hz : (rdProof0 l b s).f1 = 0
    · have := rdProof0_z hl hz
      have := rdHs_len (l := l) (b := b) (aa b s).2.toNat (rdProof0 l b s) []
      simp only [List.length_nil] at this
      omega
    · rw [rdHs_er hz]; simp
  · exact rdHs_mem (fun s => rdHead_sm h) _ _ _ fun y hy => by cases hy
theorem rs0_z {l : SLimits} {a : Int} (h : (rs0 l a).f1 = 0) : limOk l = true := by
  cases hl : limOk l with
  | true => rfl
  | false => rw [rs0_no hl] at h; exact absurd h (show ¬ ((5 : Int) = 0) by decide)
def getProof (l : SLimits) (b : List Int) (a : Int) : SProof × Int × Int := getOut (ay l b (rs0 l a)) default
theorem getProof_sm {l : SLimits} {b : List Int} (a : Int) (h : b.length ≤ 1048576) : (getProof l b a).1.sm := getOut_pr (p := SProof.sm) (rdProof_sm h rs0_z) SProof.sm_df
def rdTg (b : List Int) : Nat → SRS → List (List Int) → SRS × List (List Int)
  | 0, q, ts => (q, ts)
  | d + 1, q, ts => if q.f1 = 0 then rdTg b d (af b q 32).1 (ts ++ [(af b q 32).2]) else (q, ts)
theorem rdTg_next {b : List Int} {n i : Nat} {q : SRS} {ts : List (List Int)} (hi : i < n) (h : q.f1 = 0) : rdTg b (n - i) q ts = rdTg b (n - (i + 1)) (af b q 32).1 (ts ++ [(af b q 32).2]) := by
  obtain ⟨d, e⟩ : ∃ d, n - i = d + 1 := ⟨n - i - 1, by omega⟩
  rw [e, show n - (i + 1) = d from by omega, rdTg, if_pos h]
theorem rdTg_out {b : List Int} {n i : Nat} {q : SRS} {ts : List (List Int)} (h : n ≤ i ∨ ¬ q.f1 = 0) : rdTg b (n - i) q ts = (q, ts) := by
  generalize hd : n - i = d
  cases d with
  | zero => rfl
  | succ d => rw [rdTg, if_neg (by omega)]
theorem rdTags_front (b : List Int) (q : SRS) : ∀ d, av b q (d + 1) = ((av b (af b q 32).1 d).1, (af b q 32).2 :: (av b (af b q 32).1 d).2)
  | 0 => rfl
  | d + 1 => by
    have ih := rdTags_front b q d
    show ((af b (av b q (d + 1)).1 32).1, (av b q (d + 1)).2 ++ [(af b (av b q (d + 1)).1 32).2]) = _
    rw [ih]; rfl
theorem rdTg_eq (b : List Int) : ∀ (d : Nat) (q : SRS) (ts : List (List Int)), (rdTg b d q ts).1 = (av b q d).1 ∧ ((av b q d).1.f1 = 0 → (rdTg b d q ts).2 = ts ++ (av b q d).2)
  | 0, q, ts => ⟨rfl, fun _ => by simp [rdTg, av]⟩
  | d + 1, q, ts => by
    rw [rdTg]
    split
    · obtain ⟨h1, h2⟩ := rdTg_eq b d (af b q 32).1 (ts ++ [(af b q 32).2])
      rw [rdTags_front]
      exact ⟨h1, fun h => by rw [h2 h, List.append_assoc]; rfl⟩
    · rename_i hq
      rw [rdTags_er hq]
      exact ⟨rfl, fun h => absurd h hq⟩
theorem rdTg_mem {b : List Int} {p : List Int → Prop} (hp : ∀ s, p (af b s 32).2) : ∀ (d : Nat) (q : SRS) (ts : List (List Int)), (∀ y ∈ ts, p y) → ∀ y ∈ (rdTg b d q ts).2, p y
  | 0, _, _, h => h
  | d + 1, q, ts, h => by
    rw [rdTg]
    split
    · exact rdTg_mem hp d _ _ fun y hy => by
        rcases List.mem_append.1 hy with hy | hy
        · exact h y hy
        · rcases List.mem_singleton.1 hy with rfl; exact hp _
    · exact h
theorem rdTg_len {b : List Int} : ∀ (d : Nat) (q : SRS) (ts : List (List Int)), (rdTg b d q ts).2.length ≤ ts.length + d
  | 0, _, _ => Nat.le_refl _
  | d + 1, q, ts => by
    rw [rdTg]
    split
    · have := rdTg_len (b := b) d (af b q 32).1 (ts ++ [(af b q 32).2]); simp only [List.length_append, List.length_cons, List.length_nil] at this; omega
    · simp
def rdI1 (l : SLimits) (b : List Int) (s : SRS) : SRS := ae (ae (aa b (aa b s).1).1 (decide (0 < (aa b (aa b s).1).2)) 5) (decide ((aa b (aa b s).1).2 ≤ l.f2)) 3
def rdI2 (l : SLimits) (b : List Int) (s : SRS) : SRS × Int := am b (rdI1 l b s) (aa b (aa b s).1).2 5
def rdI3 (l : SLimits) (b : List Int) (s : SRS) : SRS × List Int := rdText b (rdI2 l b s).1 l.f1
def rdIn (l : SLimits) (b : List Int) (s : SRS) : Nat := (az (rdI2 l b s).2 (aa b (aa b s).1).2).toNat
def rdIA (l : SLimits) (b : List Int) (s : SRS) : SRS × List (List Int) := if (rdI3 l b s).1.f1 = 0 then av b (rdI3 l b s).1 (rdIn l b s) else ((rdI3 l b s).1, [])
def rdIncl (l : SLimits) (b : List Int) (s : SRS) : SRS × SIncl := ((rdIA l b s).1, ⟨(aa b s).2, (aa b (aa b s).1).2, (rdI2 l b s).2, (rdI3 l b s).2, (rdIA l b s).2⟩)
def rdInclS (l : SLimits) (b : List Int) (s : SRS) : SRS × SIncl := ((rdTg b (rdIn l b s) (rdI3 l b s).1 []).1, ⟨(aa b s).2, (aa b (aa b s).1).2, (rdI2 l b s).2, (rdI3 l b s).2, (rdTg b (rdIn l b s) (rdI3 l b s).1 []).2⟩)
theorem rdIA_yes {l : SLimits} {b : List Int} {s : SRS} (h : (rdI3 l b s).1.f1 = 0) : rdIA l b s = av b (rdI3 l b s).1 (rdIn l b s) := if_pos h
theorem rdIA_no {l : SLimits} {b : List Int} {s : SRS} (h : ¬ (rdI3 l b s).1.f1 = 0) : rdIA l b s = ((rdI3 l b s).1, []) := if_neg h
theorem rdIncl_S (l : SLimits) (b : List Int) (s : SRS) (d : SIncl) : getOut (rdIncl l b s) d = getOut (rdInclS l b s) d := by
  obtain ⟨h1, h2⟩ := rdTg_eq b (rdIn l b s) (rdI3 l b s).1 []
  have e : (rdIA l b s).1 = (av b (rdI3 l b s).1 (rdIn l b s)).1 := by
    by_cases h : (rdI3 l b s).1.f1 = 0
    · rw [rdIA_yes h]
    · rw [rdIA_no h, rdTags_er h]
  by_cases hz : (av b (rdI3 l b s).1 (rdIn l b s)).1.f1 = 0
  · have h3 : (rdI3 l b s).1.f1 = 0 := by
      by_cases h : (rdI3 l b s).1.f1 = 0
      · exact h
      · rw [rdTags_er h] at hz; exact hz
    have h4 := h2 hz
    unfold rdIncl rdInclS
    rw [h1, h4, rdIA_yes h3]
    rfl
  · rw [getOut_no (r := rdIncl l b s) (by show ¬ (rdIA l b s).1.f1 = 0; rw [e]; exact hz), getOut_no (r := rdInclS l b s) (by show ¬ (rdTg b (rdIn l b s) (rdI3 l b s).1 []).1.f1 = 0; rw [h1]; exact hz)]
    show (d, (0 : Int), (rdIA l b s).1.f1) = (d, 0, (rdTg b (rdIn l b s) (rdI3 l b s).1 []).1.f1)
    rw [e, h1]
theorem rdIncl_er {l : SLimits} {b : List Int} {s : SRS} (h : ¬ s.f1 = 0) : (rdIncl l b s).1 = s := by
  have h1 : rdI1 l b s = s := by simp only [rdI1, rdNum_er h, rdMust_er h]
  have h2 : (rdI2 l b s).1 = s := by unfold rdI2; rw [h1, rdBelow_er h]
  have h3 : (rdI3 l b s).1 = s := by unfold rdI3; rw [h2, rdText_er h]
  show (rdIA l b s).1 = s
  rw [rdIA_no (by rw [h3]; exact h), h3]
theorem rdIn_le (l : SLimits) (b : List Int) (s : SRS) : rdIn l b s ≤ 1048576 := by
  have := pathLenT_bd (rdI2 l b s).2 (aa b (aa b s).1).2
  unfold rdIn; omega
theorem rdIncl_sm {l : SLimits} {b : List Int} {s : SRS} (h : b.length ≤ 1048576) : (rdIncl l b s).2.sm := by
  refine ⟨Nat.le_trans (rdText_len _ _ _) h, ?_⟩
  show (rdIA l b s).2.length ≤ 1048576 ∧ ∀ y ∈ (rdIA l b s).2, y.length ≤ 1048576
  have := rdIn_le l b s
  by_cases hz : (rdI3 l b s).1.f1 = 0
  · rw [rdIA_yes hz]
    exact ⟨by rw [rdTags_len]; exact this, rdTags_mem (fun s => Nat.le_trans (rdRaw_len b s 32).1 h) _⟩
  · rw [rdIA_no hz]
    exact ⟨Nat.zero_le _, fun y hy => by cases hy⟩
theorem rdInclS_sm {l : SLimits} {b : List Int} {s : SRS} (h : b.length ≤ 1048576) : (rdInclS l b s).2.sm := by
  refine ⟨Nat.le_trans (rdText_len _ _ _) h, ?_⟩
  show (rdTg b (rdIn l b s) (rdI3 l b s).1 []).2.length ≤ 1048576 ∧ ∀ y ∈ (rdTg b (rdIn l b s) (rdI3 l b s).1 []).2, y.length ≤ 1048576
  have := rdIn_le l b s
  refine ⟨?_, rdTg_mem (fun s => Nat.le_trans (rdRaw_len b s 32).1 h) _ _ _ fun y hy => by cases hy⟩
  have h1 := rdTg_len (b := b) (rdIn l b s) (rdI3 l b s).1 []
  simp only [List.length_nil] at h1
  omega
def getIncl (l : SLimits) (b : List Int) (a : Int) : SIncl × Int × Int := getOut (rdIncl l b (rs0 l a)) default
theorem getIncl_sm {l : SLimits} {b : List Int} (a : Int) (h : b.length ≤ 1048576) : (getIncl l b a).1.sm := getOut_pr (p := SIncl.sm) (rdIncl_sm h) SIncl.sm_df
def nameW (k : Int) (ns : List SStr) : ByteArray := if 0 ≤ k ∧ k ≤ (ns.length : Int) - 1 then (ns.getD k.toNat default).f0 else ByteArray.empty
def kindNs : List SStr := [⟨⟨#[]⟩⟩, ⟨⟨#[118, 111, 116, 101]⟩⟩, ⟨⟨#[113, 99]⟩⟩, ⟨⟨#[104, 101, 97, 100]⟩⟩, ⟨⟨#[98, 108, 111, 99, 107]⟩⟩, ⟨⟨#[116, 99]⟩⟩, ⟨⟨#[112, 114, 111, 111, 102]⟩⟩, ⟨⟨#[105, 110, 99, 108]⟩⟩]
theorem kind_eq {k : Int} (h0 : 0 ≤ k) (h1 : k ≤ 255) : ((nameW k kindNs).toList == ByteArray.empty.toList) = !decide (1 ≤ k ∧ k ≤ 7) := by
  have : ∀ n : Fin 256, ((nameW ((n.val : Nat) : Int) kindNs).data.toList == ByteArray.empty.data.toList) = !decide (1 ≤ ((n.val : Nat) : Int) ∧ ((n.val : Nat) : Int) ≤ 7) := by decide +kernel
  have := this ⟨k.toNat, by omega⟩
  rw [show ((k.toNat : Nat) : Int) = k from by omega] at this
  rw [ByteArray.toList_eq, ByteArray.toList_eq]
  exact this
def dec3 {α : Type} (n : Int) (r : α × Int × Int) (f : α → SMsg) : SMsg × Int := if r.2.2 = 0 then (if r.2.1 = n then (f r.1, 0) else (default, 9)) else (default, r.2.2)
theorem dec3_er {α : Type} {n : Int} {r : α × Int × Int} {f : α → SMsg} (h : ¬ r.2.2 = 0) : dec3 n r f = (default, r.2.2) := if_neg h
theorem dec3_left {α : Type} {n : Int} {r : α × Int × Int} {f : α → SMsg} (h : r.2.2 = 0) (h2 : ¬ r.2.1 = n) : dec3 n r f = (default, 9) := by unfold dec3; rw [if_pos h, if_neg h2]
theorem dec3_ok {α : Type} {n : Int} {r : α × Int × Int} {f : α → SMsg} (h : r.2.2 = 0) (h2 : r.2.1 = n) : dec3 n r f = (f r.1, 0) := by unfold dec3; rw [if_pos h, if_pos h2]
def mVote (x : SVote) : SMsg := ⟨1, x, default, default, default, default, default, default⟩
def mQc (x : SQc) : SMsg := ⟨2, default, x, default, default, default, default, default⟩
def mHead (x : SHead) : SMsg := ⟨3, default, default, x, default, default, default, default⟩
def mBlock (x : SBlock) : SMsg := ⟨4, default, default, default, x, default, default, default⟩
def mTc (x : STc) : SMsg := ⟨5, default, default, default, default, x, default, default⟩
def mProof (x : SProof) : SMsg := ⟨6, default, default, default, default, default, x, default⟩
def mIncl (x : SIncl) : SMsg := ⟨7, default, default, default, default, default, default, x⟩
def ac (l : SLimits) (b : List Int) : SMsg × Int := if limOk l = true then (if b.length = 0 then (default, 1) else if b.getD 0 0 = 1 then dec3 b.length (aw l b 1) mVote else if b.getD 0 0 = 2 then dec3 b.length (getQc l b 1) mQc else if b.getD 0 0 = 3 then dec3 b.length (bc l b 1) mHead else if b.getD 0 0 = 4 then dec3 b.length (ax l b 1) mBlock else if b.getD 0 0 = 5 then dec3 b.length (getTc l b 1) mTc else if b.getD 0 0 = 6 then dec3 b.length (getProof l b 1) mProof else if b.getD 0 0 = 7 then dec3 b.length (getIncl l b 1) mIncl else (default, 8)) else (default, 5)
theorem dec_lim {l : SLimits} {b : List Int} (h : limOk l = false) : ac l b = (default, 5) := by unfold ac; rw [if_neg (fun e => bool_ne e h)]
theorem dec_nil {l : SLimits} {b : List Int} (h : limOk l = true) (h0 : b.length = 0) : ac l b = (default, 1) := by unfold ac; rw [if_pos h, if_pos h0]
theorem dec_kd {l : SLimits} {b : List Int} (h : limOk l = true) (h0 : ¬ b.length = 0) (hk : ¬ (1 ≤ b.getD 0 0 ∧ b.getD 0 0 ≤ 7)) : ac l b = (default, 8) := by unfold ac; rw [if_pos h, if_neg h0, if_neg (by omega), if_neg (by omega), if_neg (by omega), if_neg (by omega), if_neg (by omega), if_neg (by omega), if_neg (by omega)]
theorem dec_1 {l : SLimits} {b : List Int} (h : limOk l = true) (h0 : ¬ b.length = 0) (hk : b.getD 0 0 = 1) : ac l b = dec3 b.length (aw l b 1) mVote := by unfold ac; rw [if_pos h, if_neg h0, if_pos hk]
theorem dec_2 {l : SLimits} {b : List Int} (h : limOk l = true) (h0 : ¬ b.length = 0) (hk : b.getD 0 0 = 2) : ac l b = dec3 b.length (getQc l b 1) mQc := by unfold ac; rw [if_pos h, if_neg h0, if_neg (by omega), if_pos hk]
theorem dec_3 {l : SLimits} {b : List Int} (h : limOk l = true) (h0 : ¬ b.length = 0) (hk : b.getD 0 0 = 3) : ac l b = dec3 b.length (bc l b 1) mHead := by unfold ac; rw [if_pos h, if_neg h0, if_neg (by omega), if_neg (by omega), if_pos hk]
theorem dec_4 {l : SLimits} {b : List Int} (h : limOk l = true) (h0 : ¬ b.length = 0) (hk : b.getD 0 0 = 4) : ac l b = dec3 b.length (ax l b 1) mBlock := by unfold ac; rw [if_pos h, if_neg h0, if_neg (by omega), if_neg (by omega), if_neg (by omega), if_pos hk]
theorem dec_5 {l : SLimits} {b : List Int} (h : limOk l = true) (h0 : ¬ b.length = 0) (hk : b.getD 0 0 = 5) : ac l b = dec3 b.length (getTc l b 1) mTc := by unfold ac; rw [if_pos h, if_neg h0, if_neg (by omega), if_neg (by omega), if_neg (by omega), if_neg (by omega), if_pos hk]
theorem dec_6 {l : SLimits} {b : List Int} (h : limOk l = true) (h0 : ¬ b.length = 0) (hk : b.getD 0 0 = 6) : ac l b = dec3 b.length (getProof l b 1) mProof := by unfold ac; rw [if_pos h, if_neg h0, if_neg (by omega), if_neg (by omega), if_neg (by omega), if_neg (by omega), if_neg (by omega), if_pos hk]
theorem dec_7 {l : SLimits} {b : List Int} (h : limOk l = true) (h0 : ¬ b.length = 0) (hk : b.getD 0 0 = 7) : ac l b = dec3 b.length (getIncl l b 1) mIncl := by unfold ac; rw [if_pos h, if_neg h0, if_neg (by omega), if_neg (by omega), if_neg (by omega), if_neg (by omega), if_neg (by omega), if_neg (by omega), if_pos hk]
theorem decS_er {α : Type} {n : Int} {r : SRS × α} {d : α} {f : α → SMsg} (h : ¬ (ae r.1 (decide (r.1.f0 = n)) 9).f1 = 0) : dec3 n (getOut r d) f = (default, (ae r.1 (decide (r.1.f0 = n)) 9).f1) := by
  unfold dec3 getOut ae at *
  by_cases h1 : r.1.f1 = 0
  · by_cases h2 : r.1.f0 = n
    · simp_all
    · simp_all
  · simp_all
theorem decS_ok {α : Type} {n : Int} {r : SRS × α} {d : α} {f : α → SMsg} (h : (ae r.1 (decide (r.1.f0 = n)) 9).f1 = 0) : dec3 n (getOut r d) f = (f r.2, 0) := by
  unfold dec3 getOut ae at *
  by_cases h1 : r.1.f1 = 0
  · by_cases h2 : r.1.f0 = n
    · simp_all
    · simp_all
  · simp_all
theorem decT_er {α : Type} {n : Int} {r : α × Int × Int} {f : α → SMsg} (h : ¬ (ae ⟨r.2.1, r.2.2⟩ (decide (r.2.1 = n)) 9).f1 = 0) : dec3 n r f = (default, (ae ⟨r.2.1, r.2.2⟩ (decide (r.2.1 = n)) 9).f1) := by
  unfold dec3 ae at *
  by_cases h1 : r.2.2 = 0
  · by_cases h2 : r.2.1 = n
    · simp_all
    · simp_all
  · simp_all
theorem decT_ok {α : Type} {n : Int} {r : α × Int × Int} {f : α → SMsg} (h : (ae ⟨r.2.1, r.2.2⟩ (decide (r.2.1 = n)) 9).f1 = 0) : dec3 n r f = (f r.1, 0) := by
  unfold dec3 ae at *
  by_cases h1 : r.2.2 = 0
  · by_cases h2 : r.2.1 = n
    · simp_all
    · simp_all
  · simp_all
theorem dec_S {l : SLimits} {b : List Int} (h : limOk l = true) (h0 : ¬ b.length = 0) (hk : b.getD 0 0 = 7) : ac l b = dec3 b.length (getOut (rdInclS l b (rs0 l 1)) default) mIncl := by rw [dec_7 h h0 hk, getIncl, rdIncl_S]
theorem dec3_sm {α : Type} {n : Int} {r : α × Int × Int} {f : α → SMsg} (h : (f r.1).sm) : (dec3 n r f).1.sm := by
  unfold dec3
  split
  · split
    · exact h
    · exact SMsg.sm_df
  · exact SMsg.sm_df
theorem decode_sm (l : SLimits) {b : List Int} (h : b.length ≤ 1048576) : (ac l b).1.sm := by
  unfold ac
  repeat' split
  all_goals first | exact SMsg.sm_df | exact dec3_sm ⟨getVote_sm 1 h, SQc.sm_df, SHead.sm_df, SBlock.sm_df, STc.sm_df, SProof.sm_df, SIncl.sm_df⟩ | exact dec3_sm ⟨SVote.sm_df, getQc_sm 1 h, SHead.sm_df, SBlock.sm_df, STc.sm_df, SProof.sm_df, SIncl.sm_df⟩ | exact dec3_sm ⟨SVote.sm_df, SQc.sm_df, getHead_sm 1 h, SBlock.sm_df, STc.sm_df, SProof.sm_df, SIncl.sm_df⟩ | exact dec3_sm ⟨SVote.sm_df, SQc.sm_df, SHead.sm_df, getBlock_sm 1 h, STc.sm_df, SProof.sm_df, SIncl.sm_df⟩ | exact dec3_sm ⟨SVote.sm_df, SQc.sm_df, SHead.sm_df, SBlock.sm_df, getTc_sm 1 h, SProof.sm_df, SIncl.sm_df⟩ | exact dec3_sm ⟨SVote.sm_df, SQc.sm_df, SHead.sm_df, SBlock.sm_df, STc.sm_df, getProof_sm 1 h, SIncl.sm_df⟩ | exact dec3_sm ⟨SVote.sm_df, SQc.sm_df, SHead.sm_df, SBlock.sm_df, STc.sm_df, SProof.sm_df, getIncl_sm 1 h⟩
theorem decV {l : SLimits} {b : List Int} {y : SMsg × Int} (h : ac l b = y := by first | exact dec_lim (by assumption) | exact dec_nil (by assumption) (by omega) | exact dec_kd (by assumption) (by omega) (by omega) | exact (dec_1 (by assumption) (by omega) (by omega)).trans (dec3_er (by assumption)) | exact (dec_1 (by assumption) (by omega) (by omega)).trans (dec3_left (by omega) (by assumption)) | exact (dec_1 (by assumption) (by omega) (by omega)).trans (dec3_ok (by omega) (by omega)) | exact (dec_2 (by assumption) (by omega) (by omega)).trans (dec3_er (by assumption)) | exact (dec_2 (by assumption) (by omega) (by omega)).trans (dec3_left (by omega) (by assumption)) | exact (dec_2 (by assumption) (by omega) (by omega)).trans (dec3_ok (by omega) (by omega)) | exact (dec_3 (by assumption) (by omega) (by omega)).trans (dec3_er (by assumption)) | exact (dec_3 (by assumption) (by omega) (by omega)).trans (dec3_left (by omega) (by assumption)) | exact (dec_3 (by assumption) (by omega) (by omega)).trans (dec3_ok (by omega) (by omega)) | exact (dec_4 (by assumption) (by omega) (by omega)).trans (dec3_er (by assumption)) | exact (dec_4 (by assumption) (by omega) (by omega)).trans (dec3_left (by omega) (by assumption)) | exact (dec_4 (by assumption) (by omega) (by omega)).trans (dec3_ok (by omega) (by omega)) | exact (dec_5 (by assumption) (by omega) (by omega)).trans (dec3_er (by assumption)) | exact (dec_5 (by assumption) (by omega) (by omega)).trans (dec3_left (by omega) (by assumption)) | exact (dec_5 (by assumption) (by omega) (by omega)).trans (dec3_ok (by omega) (by omega)) | exact (dec_6 (by assumption) (by omega) (by omega)).trans (dec3_er (by assumption)) | exact (dec_6 (by assumption) (by omega) (by omega)).trans (dec3_left (by omega) (by assumption)) | exact (dec_6 (by assumption) (by omega) (by omega)).trans (dec3_ok (by omega) (by omega)) | exact (dec_7 (by assumption) (by omega) (by omega)).trans (dec3_er (by assumption)) | exact (dec_7 (by assumption) (by omega) (by omega)).trans (dec3_left (by omega) (by assumption)) | exact (dec_7 (by assumption) (by omega) (by omega)).trans (dec3_ok (by omega) (by omega)) | exact (dec_2 (by assumption) (by omega) (by omega)).trans (decS_er (by assumption)) | exact (dec_2 (by assumption) (by omega) (by omega)).trans (decS_ok (by omega)) | exact (dec_3 (by assumption) (by omega) (by omega)).trans (decS_er (by assumption)) | exact (dec_3 (by assumption) (by omega) (by omega)).trans (decS_ok (by omega)) | exact (dec_4 (by assumption) (by omega) (by omega)).trans (decS_er (by assumption)) | exact (dec_4 (by assumption) (by omega) (by omega)).trans (decS_ok (by omega)) | exact (dec_5 (by assumption) (by omega) (by omega)).trans (decS_er (by assumption)) | exact (dec_5 (by assumption) (by omega) (by omega)).trans (decS_ok (by omega)) | exact (dec_6 (by assumption) (by omega) (by omega)).trans (decS_er (by assumption)) | exact (dec_6 (by assumption) (by omega) (by omega)).trans (decS_ok (by omega)) | exact (dec_1 (by assumption) (by omega) (by omega)).trans (decT_er (by assumption)) | exact (dec_1 (by assumption) (by omega) (by omega)).trans (decT_ok (by omega)) | exact (dec_S (by assumption) (by omega) (by omega)).trans (decS_er (by assumption)) | exact (dec_S (by assumption) (by omega) (by omega)).trans (decS_ok (by omega))) : ac l b = y := h
def leNum : List Int → Int
  | [] => 0
  | x :: l => x + 256 * leNum l
theorem leNum_snoc : ∀ (l : List Int) (x : Int), leNum (l ++ [x]) = leNum l + x * 256 ^ l.length
  | [], x => by simp [leNum]
  | y :: l, x => by
    show y + 256 * leNum (l ++ [x]) = y + 256 * leNum l + x * 256 ^ (l.length + 1)
    rw [leNum_snoc l x, Int.pow_succ, Int.mul_add, Int.mul_comm 256 (x * _), Int.mul_assoc, Int.add_assoc]
theorem leNum_bd : ∀ l : List Int, U8s l → 0 ≤ leNum l ∧ leNum l < 256 ^ l.length
  | [], _ => by simp [leNum]
  | x :: l, h => by
    have h1 := leNum_bd l fun y hy => h y (by simp [hy])
    have h2 := h x (by simp)
    show 0 ≤ x + 256 * leNum l ∧ x + 256 * leNum l < 256 ^ (l.length + 1)
    rw [Int.pow_succ]
    omega
theorem pow256 {i : Nat} (h : i ≤ 6) : (256 : Int) ^ i ≤ 281474976710656 := by
  have : ∀ j : Fin 7, (256 : Int) ^ j.val ≤ 281474976710656 := by decide +kernel
  exact this ⟨i, by omega⟩
def ao (b : List Int) (a w : Int) : Int × Int × Int := if 1 ≤ w ∧ w ≤ 7 then (leNum (au b a w).1, (au b a w).2.1, (au b a w).2.2) else (0, 0, 5)
theorem getFix_no {b : List Int} {a w : Int} (h : ¬ (1 ≤ w ∧ w ≤ 7)) : ao b a w = (0, 0, 5) := if_neg h
theorem getFix_out {b : List Int} {a w : Int} (h : 1 ≤ w ∧ w ≤ 7) (h2 : a < 0 ∨ (b.length : Int) - w < a) : ao b a w = (0, 0, 1) := by
  unfold ao au
  rw [if_pos h, if_neg (by omega)]
  rfl
def fixO (b : List Int) (a w : Int) : List Int := (b.drop a.toNat).take ((a + w).toNat - a.toNat)
theorem getFix_in {b : List Int} {a w : Int} (h : 1 ≤ w ∧ w ≤ 7) (h0 : 0 ≤ a) (h1 : a ≤ (b.length : Int) - w) : ao b a w = (leNum (fixO b a w), a + w, 0) := by
  unfold ao au
  rw [if_pos h, if_pos (by omega)]
  rfl
theorem fixO_len {b : List Int} {a w : Int} (h : 1 ≤ w ∧ w ≤ 7) (h0 : 0 ≤ a) (h1 : a ≤ (b.length : Int) - w) : (fixO b a w).length = w.toNat := by
  unfold fixO
  rw [List.length_take, List.length_drop]
  omega
theorem fixO_u8 {b : List Int} (hb : U8s b) (a w : Int) : U8s (fixO b a w) := fun x hx => hb x (List.mem_of_mem_drop (List.mem_of_mem_take hx))
def fixS (b : List Int) (a w : Int) (j : Nat) : Int := leNum ((fixO b a w).drop (w.toNat - j))
theorem fixS_zero {b : List Int} {a w : Int} (h : 1 ≤ w ∧ w ≤ 7) (h0 : 0 ≤ a) (h1 : a ≤ (b.length : Int) - w) : fixS b a w 0 = 0 := by
  unfold fixS
  rw [List.drop_of_length_le (by rw [fixO_len h h0 h1]; omega)]
  rfl
theorem fixS_bd {b : List Int} {a w : Int} (hb : U8s b) (h : 1 ≤ w ∧ w ≤ 7) (h0 : 0 ≤ a) (h1 : a ≤ (b.length : Int) - w) {j : Nat} (hj : j ≤ 6) (hw : (j : Int) ≤ w) : 0 ≤ fixS b a w j ∧ fixS b a w j < 281474976710656 := by
  have hb := leNum_bd ((fixO b a w).drop (w.toNat - j)) fun x hx => fixO_u8 hb a w x (List.mem_of_mem_drop hx)
  rw [List.length_drop, fixO_len h h0 h1, show w.toNat - (w.toNat - j) = j from by omega] at hb
  have := pow256 hj
  unfold fixS
  omega
theorem fixS_next {b : List Int} {a w : Int} (h : 1 ≤ w ∧ w ≤ 7) (h0 : 0 ≤ a) (h1 : a ≤ (b.length : Int) - w) {j : Nat} (hj : (j : Int) < w) : fixS b a w j * 256 + b.getD (a + (w - 1 - (j : Int))).toNat 0 = fixS b a w (j + 1) := by
  have hl := fixO_len h h0 h1
  have hi : w.toNat - (j + 1) < (fixO b a w).length := by omega
  have e : b.getD (a + (w - 1 - (j : Int))).toNat 0 = (fixO b a w)[w.toNat - (j + 1)] := by
    have : (fixO b a w)[w.toNat - (j + 1)]? = b[(a + (w - 1 - (j : Int))).toNat]? := by
      unfold fixO
      rw [List.getElem?_take, if_pos (by omega), List.getElem?_drop, show a.toNat + (w.toNat - (j + 1)) = (a + (w - 1 - (j : Int))).toNat from by omega]
    rw [List.getD_eq_getElem?_getD, ← this, List.getElem?_eq_getElem hi, Option.getD_some]
  unfold fixS
  rw [e, List.drop_eq_getElem_cons hi, show w.toNat - (j + 1) + 1 = w.toNat - j from by omega]
  show _ = _ + 256 * _
  omega
theorem fixS_all (b : List Int) (a w : Int) {j : Nat} (hj : ¬ (j : Int) < w) : fixS b a w j = leNum (fixO b a w) := by unfold fixS; rw [show w.toNat - j = 0 from by omega, List.drop_zero]
theorem leTake_bd {o : List Int} (h : U8s o) {i : Nat} (hi : i ≤ o.length) (h6 : i ≤ 6) : 0 ≤ leNum (o.take i) ∧ leNum (o.take i) < 256 ^ i := by
  have := leNum_bd (o.take i) fun x hx => h x (List.mem_of_mem_take hx)
  rwa [List.length_take, Nat.min_eq_left hi] at this
theorem leTake_next {o : List Int} {i : Nat} (hi : i < o.length) : leNum (o.take i) + o.getD i 0 * 256 ^ i = leNum (o.take (i + 1)) := by
  rw [List.take_succ_eq_append_getElem hi, leNum_snoc, List.length_take, Nat.min_eq_left (by omega), List.getD_eq_getElem?_getD, List.getElem?_eq_getElem hi]
  rfl
theorem or_fix {n m : Int} {i : Nat} (hi : i ≤ 6) (h0 : 0 ≤ n) (h1 : n < 256 ^ i) (h2 : 0 ≤ m) (h3 : m ≤ 255) : IntKind.i64.wrap (BitVec.ofInt IntKind.i64.bits n ||| BitVec.ofInt IntKind.i64.bits (m * 256 ^ i)).toNat = n + m * 256 ^ i := by
  obtain ⟨n', rfl⟩ : ∃ k : Nat, n = k := ⟨n.toNat, by omega⟩
  obtain ⟨m', rfl⟩ : ∃ k : Nat, m = k := ⟨m.toNat, by omega⟩
  have hp := pow256 hi
  have e1 : (256 : Int) ^ i = ((2 ^ (8 * i) : Nat) : Int) := by rw [Nat.pow_mul]; simp
  have hn : n' < 2 ^ (8 * i) := by rw [e1] at h1; omega
  have hmm : (m' : Int) * 256 ^ i ≤ 255 * 256 ^ i := Int.mul_le_mul_of_nonneg_right (by omega) (by omega)
  have hm : ((m' * 2 ^ (8 * i) : Nat) : Int) ≤ 255 * 281474976710656 := by rw [Int.natCast_mul, ← e1]; omega
  have hn2 : (n' : Int) < 281474976710656 := by omega
  have hor : n' ||| (m' * 2 ^ (8 * i)) = n' + m' * 2 ^ (8 * i) := by rw [Nat.or_comm, Nat.mul_comm, ← Nat.two_pow_add_eq_or_of_lt hn m', Nat.add_comm]
  rw [e1, ← Int.natCast_mul]
  have key : ∀ q : Nat, q < 2 ^ 64 → (BitVec.ofInt IntKind.i64.bits ((q : Nat) : Int)).toNat = q := fun q hq => by
    rw [BitVec.toNat_ofInt]; show ((q : Int) % ((2 ^ 64 : Nat) : Int)).toNat = q; omega
  have hb1 := key n' (by omega)
  have hb2 := key (m' * 2 ^ (8 * i)) (by omega)
  rw [BitVec.toNat_or, hb1, hb2, hor]
  clear hb1 hb2 hor hmm key
  generalize m' * 2 ^ (8 * i) = q at hm ⊢
  refine (wrap_ok (by omega) (by omega)).trans (by simp)
theorem shl_fix {m : Int} {i : Nat} (hi : i ≤ 6) (h0 : 0 ≤ m) (h1 : m ≤ 255) : IntKind.i64.wrap (m * 2 ^ (min ((8 * (i : Int))).toNat IntKind.i64.bits)) = m * 256 ^ i := by
  have hp := pow256 hi
  have h2 : m * 256 ^ i ≤ 255 * 256 ^ i := Int.mul_le_mul_of_nonneg_right h1 (Int.le_of_lt (Int.pow_pos (by decide)))
  have h3 : 0 ≤ m * 256 ^ i := Int.mul_nonneg h0 (Int.le_of_lt (Int.pow_pos (by decide)))
  have e : (2 : Int) ^ (min ((8 * (i : Int))).toNat IntKind.i64.bits) = 256 ^ i := by
    rw [show (8 * (i : Int)).toNat = 8 * i from by omega, Nat.min_eq_left (by show 8 * i ≤ 64; omega), Int.pow_mul]
    rfl
  rw [e]
  exact wrap_ok (by omega) (by omega)
theorem getFix_bd {b : List Int} (hb : U8s b) (a w : Int) : 0 ≤ (ao b a w).1 ∧ (ao b a w).1 < 72057594037927936 := by
  unfold ao au
  split
  · split
    · have := leNum_bd _ (fixO_u8 hb a w)
      have hl : (fixO b a w).length ≤ 7 := by unfold fixO; rw [List.length_take]; omega
      have h2 : ∀ k : Nat, k ≤ 7 → (256 : Int) ^ k ≤ 72057594037927936 := fun k hk => by
        have : ∀ j : Fin 8, (256 : Int) ^ j.val ≤ 72057594037927936 := by decide
        exact this ⟨k, by omega⟩
      have := h2 _ hl
      show 0 ≤ leNum (fixO b a w) ∧ leNum (fixO b a w) < 72057594037927936
      omega
    · simp [leNum]
  · simp
def crcT (c : Int) : Int := if c % 2 = 1 then bxor (c / 2) 3988292384 else c / 2
def crcN : Nat → Int → Int
  | 0, c => c
  | n + 1, c => crcT (crcN n c)
theorem xor_W {x y : Int} (hx : 0 ≤ x ∧ x ≤ 4294967295) (hy : 0 ≤ y ∧ y ≤ 4294967295) : 0 ≤ bxor x y ∧ bxor x y ≤ 4294967295 := by
  obtain ⟨a, rfl⟩ : ∃ a : Nat, x = a := ⟨x.toNat, by omega⟩
  obtain ⟨b, rfl⟩ : ∃ b : Nat, y = b := ⟨y.toNat, by omega⟩
  have h : (BitVec.ofInt IntKind.i64.bits (a : Int) ^^^ BitVec.ofInt IntKind.i64.bits (b : Int)).toNat ≤ 4294967295 := by
    rw [BitVec.toNat_xor]
    have e : ∀ q : Nat, q < 2 ^ 32 → (BitVec.ofInt IntKind.i64.bits ((q : Nat) : Int)).toNat = q := fun q hq => by
      rw [BitVec.toNat_ofInt]; show ((q : Int) % ((2 ^ 64 : Nat) : Int)).toNat = q; omega
    rw [e a (by omega), e b (by omega)]
    have := Nat.xor_lt_two_pow (x := a) (y := b) (n := 32) (by omega) (by omega)
    omega
  unfold bxor
  generalize (BitVec.ofInt IntKind.i64.bits (a : Int) ^^^ BitVec.ofInt IntKind.i64.bits (b : Int)).toNat = n at h
  rw [wrap_ok (by omega) (by omega)]
  omega
theorem crcT_W {c : Int} (h : 0 ≤ c ∧ c ≤ 4294967295) : 0 ≤ crcT c ∧ crcT c ≤ 4294967295 := by
  unfold crcT
  split
  · exact xor_W (by omega) (by omega)
  · omega
theorem crcN_W {c : Int} (h : 0 ≤ c ∧ c ≤ 4294967295) : ∀ n, 0 ≤ crcN n c ∧ crcN n c ≤ 4294967295
  | 0 => h
  | n + 1 => crcT_W (crcN_W h n)
theorem crcT_odd {c : Int} (h : c % 2 = 1) : crcT c = bxor (c / 2) 3988292384 := if_pos h
theorem crcT_even {c : Int} (h : ¬ c % 2 = 1) : crcT c = c / 2 := if_neg h
theorem and_one {c : Int} (h : 0 ≤ c ∧ c ≤ 4294967295) : IntKind.i64.wrap (BitVec.ofInt IntKind.i64.bits c &&& BitVec.ofInt IntKind.i64.bits 1).toNat = c % 2 := by
  obtain ⟨a, rfl⟩ : ∃ a : Nat, c = a := ⟨c.toNat, by omega⟩
  have e : (BitVec.ofInt IntKind.i64.bits (a : Int) &&& BitVec.ofInt IntKind.i64.bits 1).toNat = a % 2 := by
    rw [BitVec.toNat_and]
    have e : ∀ q : Nat, q < 2 ^ 33 → (BitVec.ofInt IntKind.i64.bits ((q : Nat) : Int)).toNat = q := fun q hq => by
      rw [BitVec.toNat_ofInt]; show ((q : Int) % ((2 ^ 64 : Nat) : Int)).toNat = q; omega
    rw [e a (by omega), show (BitVec.ofInt IntKind.i64.bits 1).toNat = 1 from by decide, Nat.and_one_is_mod]
  rw [e, wrap_ok (by omega) (by omega)]
  omega
theorem shr_one {c : Int} (h : 0 ≤ c) : c.fdiv (2 ^ (min (1 : Int).toNat IntKind.i64.bits)) = c / 2 := by
  rw [show (2 : Int) ^ (min (1 : Int).toNat IntKind.i64.bits) = 2 from by decide, Int.fdiv_eq_ediv_of_nonneg _ (by omega)]
def crcS (c : Int) (b : List Int) : Nat → Int
  | 0 => bxor c 4294967295
  | i + 1 => crcN 8 (bxor (crcS c b i) (b.getD i 0))
theorem crcS_W {c : Int} {b : List Int} (h : 0 ≤ c ∧ c ≤ 4294967295) (hb : U8s b) : ∀ i, 0 ≤ crcS c b i ∧ crcS c b i ≤ 4294967295
  | 0 => xor_W h (by omega)
  | i + 1 => crcN_W (xor_W (crcS_W h hb i) (by have := getD_u8 hb i; omega)) 8
def crcMore (c : Int) (b : List Int) : Int := if 0 ≤ c ∧ c ≤ 4294967295 then bxor (crcS c b b.length) 4294967295 else 0
def faOk (l : SLimits) (s : List Int) (a : Int) : Prop := limOk l = true ∧ 0 ≤ a ∧ a ≤ (s.length : Int) - 1 ∧ s.getD a.toNat 0 = 181 ∧ (a + 1 < (s.length : Int) → s.getD (a + 1).toNat 0 = 70)
instance (l : SLimits) (s : List Int) (a : Int) : Decidable (faOk l s a) := by unfold faOk; infer_instance
def faSum (s : List Int) (a n : Int) : Int := crcMore 0 ((s.drop (a + 8).toNat).take ((a + 8 + n).toNat - (a + 8).toNat))
def aj (l : SLimits) (s : List Int) (a : Int) : Int × Int :=
  if faOk l s a then (if (s.length : Int) - a < 4 then (1, 0) else if 1 ≤ (ao s (a + 2) 2).1 ∧ (ao s (a + 2) 2).1 ≤ l.f3 then (if (s.length : Int) - a < 8 + (ao s (a + 2) 2).1 then (1, 8 + (ao s (a + 2) 2).1) else if (ao s (a + 4) 4).1 = faSum s a ((ao s (a + 2) 2).1) then (3, 8 + (ao s (a + 2) 2).1) else (2, 8 + (ao s (a + 2) 2).1)) else (0, 0)) else (0, 0)
theorem fa_no {l : SLimits} {s : List Int} {a : Int} (h : ¬ faOk l s a) : aj l s a = (0, 0) := if_neg h
theorem fa_lim {l : SLimits} {s : List Int} {a : Int} (h : limOk l = false) : aj l s a = (0, 0) := fa_no fun x => bool_ne x.1 h
theorem fa_out {l : SLimits} {s : List Int} {a : Int} (h : ¬ (0 ≤ a ∧ a ≤ (s.length : Int) - 1 ∧ s.getD a.toNat 0 = 181 ∧ (a + 1 < (s.length : Int) → s.getD (a + 1).toNat 0 = 70))) : aj l s a = (0, 0) := fa_no fun x => h x.2
theorem fa_four {l : SLimits} {s : List Int} {a : Int} (h : faOk l s a) (h4 : (s.length : Int) - a < 4) : aj l s a = (1, 0) := by unfold aj; rw [if_pos h, if_pos h4]
theorem fa_big {l : SLimits} {s : List Int} {a : Int} (h4 : ¬ (s.length : Int) - a < 4) (hn : ¬ (1 ≤ (ao s (a + 2) 2).1 ∧ (ao s (a + 2) 2).1 ≤ l.f3)) : aj l s a = (0, 0) := by unfold aj; rw [if_neg h4, if_neg hn]; simp
theorem fa_wait {l : SLimits} {s : List Int} {a : Int} (h : faOk l s a) (h4 : ¬ (s.length : Int) - a < 4) (hn : 1 ≤ (ao s (a + 2) 2).1 ∧ (ao s (a + 2) 2).1 ≤ l.f3) (hw : (s.length : Int) - a < 8 + (ao s (a + 2) 2).1) : aj l s a = (1, 8 + (ao s (a + 2) 2).1) := by unfold aj; rw [if_pos h, if_neg h4, if_pos hn, if_pos hw]
theorem fa_bad {l : SLimits} {s : List Int} {a : Int} (h : faOk l s a) (h4 : ¬ (s.length : Int) - a < 4) (hn : 1 ≤ (ao s (a + 2) 2).1 ∧ (ao s (a + 2) 2).1 ≤ l.f3) (hw : ¬ (s.length : Int) - a < 8 + (ao s (a + 2) 2).1) (hc : ¬ (ao s (a + 4) 4).1 = faSum s a ((ao s (a + 2) 2).1)) : aj l s a = (2, 8 + (ao s (a + 2) 2).1) := by unfold aj; rw [if_pos h, if_neg h4, if_pos hn, if_neg hw, if_neg hc]
theorem fa_good {l : SLimits} {s : List Int} {a : Int} (h : faOk l s a) (h4 : ¬ (s.length : Int) - a < 4) (hn : 1 ≤ (ao s (a + 2) 2).1 ∧ (ao s (a + 2) 2).1 ≤ l.f3) (hw : ¬ (s.length : Int) - a < 8 + (ao s (a + 2) 2).1) (hc : (ao s (a + 4) 4).1 = faSum s a ((ao s (a + 2) 2).1)) : aj l s a = (3, 8 + (ao s (a + 2) 2).1) := by unfold aj; rw [if_pos h, if_neg h4, if_pos hn, if_neg hw, if_pos hc]
theorem frameAt_bd (l : SLimits) (s : List Int) (a : Int) : (aj l s a).1 = 3 → limOk l = true ∧ 0 ≤ a ∧ 9 ≤ (aj l s a).2 ∧ a + (aj l s a).2 ≤ (s.length : Int) := by
  intro h
  unfold aj at h ⊢
  split at h
  · rename_i h1
    rw [if_pos h1]
    split at h
    · cases h
    · rename_i h2
      rw [if_neg h2]
      split at h
      · rename_i h3
        rw [if_pos h3]
        split at h
        · cases h
        · rename_i h4
          rw [if_neg h4]
          split at h
          · rename_i h5
            rw [if_pos h5]
            exact ⟨h1.1, h1.2.1, by show 9 ≤ 8 + (ao s (a + 2) 2).1; omega, by show a + (8 + (ao s (a + 2) 2).1) ≤ _; omega⟩
          · cases h
      · cases h
  · cases h
def ab (l : SLimits) (s : List Int) (a : Int) : List Int := if (aj l s a).1 = 3 then (s.drop (a + 8).toNat).take ((a + (aj l s a).2).toNat - (a + 8).toNat) else []
def evOf (r : SMsg × Int) : SEvent := if r.2 = 0 then ⟨3, 0, r.1⟩ else ⟨2, r.2, default⟩
theorem ev_msg {r : SMsg × Int} (h : r.2 = 0) : evOf r = ⟨3, 0, r.1⟩ := if_pos h
theorem ev_bad {r : SMsg × Int} (h : ¬ r.2 = 0) : evOf r = ⟨2, r.2, default⟩ := if_neg h
def scanGo (l : SLimits) (s : List Int) : Nat → Int → Int → List SEvent → List SEvent × Int × Int
  | 0, a, k, o => (o, k, a)
  | d + 1, a, k, o => if a < (s.length : Int) then (if (aj l s a).1 = 1 then (o, k, a) else if (aj l s a).1 = 3 then scanGo l s d (a + (aj l s a).2) 0 ((if k = 0 then o else o ++ [⟨1, k, default⟩]) ++ [evOf (ac l (ab l s a))]) else scanGo l s d (a + 1) (k + 1) o) else (o, k, a)
theorem fd_eq {l : SLimits} {s : List Int} {a : Int} (h : (aj l s a).1 = 3) : ab l s a = (s.drop (a + 8).toNat).take ((a + (aj l s a).2).toNat - (a + 8).toNat) := if_pos h
theorem frameData_u8 {l : SLimits} {s : List Int} (h : U8s s) (a : Int) : U8s (ab l s a) := by
  unfold ab
  split
  · exact fun x hx => h x (List.mem_of_mem_drop (List.mem_of_mem_take hx))
  · exact fun x hx => by cases hx
theorem frameData_len (l : SLimits) (s : List Int) (a : Int) : (ab l s a).length ≤ s.length := by
  unfold ab
  split
  · rw [List.length_take, List.length_drop]; omega
  · exact Nat.zero_le _
section
variable {l : SLimits} {s : List Int} {d : Nat} {a k : Int} {o : List SEvent}
theorem sg_pos (h : a < (s.length : Int)) (hd : (s.length : Int) - a < d) : ∃ e, d = e + 1 := ⟨d - 1, by omega⟩
theorem sg_end (h : ¬ a < (s.length : Int)) : scanGo l s d a k o = (o, k, a) := by cases d with
  | zero => rfl
  | succ d => exact if_neg h
theorem sg_wait (h : (aj l s a).1 = 1) : scanGo l s d a k o = (o, k, a) := by cases d with
  | zero => rfl
  | succ d => unfold scanGo; split <;> simp [h]
theorem sg_skip (h : a < (s.length : Int)) (hd : (s.length : Int) - a < d) (h1 : ¬ (aj l s a).1 = 1) (h3 : ¬ (aj l s a).1 = 3) : scanGo l s d a k o = scanGo l s (d - 1) (a + 1) (k + 1) o := by
  obtain ⟨e, rfl⟩ := sg_pos h hd
  rw [scanGo, if_pos h, if_neg h1, if_neg h3]; rfl
theorem sg_zero (h : a < (s.length : Int)) (hd : (s.length : Int) - a < d) (h3 : (aj l s a).1 = 3) (hk : k = 0) {e : SEvent} (he : evOf (ac l (ab l s a)) = e) : scanGo l s d a k o = scanGo l s (d - 1) (a + (aj l s a).2) 0 (o ++ [e]) := by
  obtain ⟨e', rfl⟩ := sg_pos h hd
  rw [scanGo, if_pos h, if_neg (by omega), if_pos h3, if_pos hk, he]; rfl
theorem sg_some (h : a < (s.length : Int)) (hd : (s.length : Int) - a < d) (h3 : (aj l s a).1 = 3) (hk : ¬ k = 0) {e : SEvent} (he : evOf (ac l (ab l s a)) = e) : scanGo l s d a k o = scanGo l s (d - 1) (a + (aj l s a).2) 0 (o ++ [⟨1, k, default⟩] ++ [e]) := by
  obtain ⟨e', rfl⟩ := sg_pos h hd
  rw [scanGo, if_pos h, if_neg (by omega), if_pos h3, if_neg hk, he]; rfl
end
theorem scanGo_bd (l : SLimits) (s : List Int) : ∀ (d : Nat) (a k : Int) (o : List SEvent), 0 ≤ a → a ≤ (s.length : Int) → 0 ≤ k → 0 ≤ (scanGo l s d a k o).2.1 ∧ (scanGo l s d a k o).2.1 ≤ k + ((s.length : Int) - a) ∧ 0 ≤ (scanGo l s d a k o).2.2 ∧ (scanGo l s d a k o).2.2 ≤ (s.length : Int)
  | 0, a, k, o, h1, h2, h3 => by unfold scanGo; dsimp only; omega
  | d + 1, a, k, o, h1, h2, h3 => by
    unfold scanGo
    split
    · split
      · dsimp only; omega
      · split
        · rename_i hf
          have hb := frameAt_bd l s a hf
          have := scanGo_bd l s d (a + (aj l s a).2) 0 ((if k = 0 then o else o ++ [⟨1, k, default⟩]) ++ [evOf (ac l (ab l s a))]) (by omega) (by omega) (by omega)
          omega
        · have := scanGo_bd l s d (a + 1) (k + 1) o (by omega) (by omega) (by omega)
          omega
    · dsimp only; omega
def tailOf (l : SLimits) (s : List Int) : Int × Int := if limOk l = true then ((scanGo l s (s.length + 1) 0 0 []).2.1, (s.length : Int) - (scanGo l s (s.length + 1) 0 0 []).2.2) else (0, 0)
theorem p_0 {p : Prop} (h : p := by (congr 1; first | (rw [fa_lim (by assumption)]; done) | (rw [fa_out (by omega)]; done) | (rw [fa_four ⟨by assumption, by omega, by omega, by omega, fun _ => by omega⟩ (by omega)]; done) | (rw [fa_big (by omega) (by omega)]; done) | (rw [fa_wait ⟨by assumption, by omega, by omega, by omega, fun _ => by omega⟩ (by omega) (by omega) (by omega)]; first | done | rfl) | (rw [fa_bad ⟨by assumption, by omega, by omega, by omega, fun _ => by omega⟩ (by omega) (by omega) (by omega) (by assumption)]; first | done | rfl) | (rw [fa_good ⟨by assumption, by omega, by omega, by omega, fun _ => by omega⟩ (by omega) (by omega) (by omega) (by first | assumption | exact Decidable.not_not.1 (by assumption))]; first | done | rfl))) : p := h
theorem p_1 {p : Prop} (h : p := by first | omega | assumption | (simp only [List.length_append] at *; omega)) : p := h
theorem p_2 {p : Prop} (h : p := by (congr 1; first | (rw [getVar_out (by omega)]; done) | (rw [getVar_in (by omega), ← hx4]; first | (rw [gvGo_short (by omega) (by omega)]; done) | (rw [gvGo_var (by omega) (by omega) (by omega)]; done) | (rw [gvGo_done (by omega) (by omega) (by omega) (by omega) (by omega)]; done) | (rw [gvGo_big (by omega) (by omega) (by omega) (by omega) (by omega)]; done) | (rw [gvGo_end (by omega)]; done)))) : p := h
theorem p_3 {p : Prop} (h : p := by first | rfl | exact congrArg (D.int .i64) (by assumption) | exact congrArg (D.int .i64) (show b.getD 0 0 = 7 by omega) | (show List.length _ = 0; rfl) | (exfalso; omega)) : p := h
theorem p_4 {p : Prop} (h : p := by omega) : p := h
theorem p_5 {p : Prop} (h : p := by assumption) : p := h
theorem p_6 {p : Prop} (h : p := by first | omega | (simp; omega) | (simp [w16_len, wN_len]; omega)) : p := h
theorem p_7 {p : Prop} (h : p := by kernel_rfl) : p := h
theorem p_8 {p : Prop} (h : p := by first | (congr 1; symm; unfold bitsOk; rw [bits_last (by omega), decide_eq_true (p := (1 ≤ n ∧ n ≤ 10)) (by omega), decide_eq_true (p := ((b.length : Int) = bitsSize n)) (by omega)]; rfl) | (congr 1; symm; simp only [bitsOk, *, Bool.and_true, Bool.true_and, Bool.and_false, Bool.false_and, decide_true, decide_false, and_true, true_and, and_self, and_false, false_and, Bool.and_self, not_true, not_false, Bool.not_true, Bool.not_false, ge_iff_le, gt_iff_lt, if_true, if_false, Bool.false_eq_true, ite_true, ite_false, reduceIte]; done) | (congr 1; symm; unfold bitsOk; rw [decide_eq_false (p := (1 ≤ n ∧ n ≤ 10)) (by omega)]; rfl) | (congr 1; symm; unfold bitsOk; rw [decide_eq_false (p := ((b.length : Int) = bitsSize n)) (by omega)]; simp; done) | (congr 1; symm; unfold bitsOk; rw [all_no (i := i) (by omega) (by omega)]; simp; done) | (congr 1; symm; unfold bitsOk; rw [List.take_of_length_le (by omega)] at hx2; rw [hx2, decide_eq_true (p := (1 ≤ n ∧ n ≤ 10)) (by omega), decide_eq_true (p := ((b.length : Int) = bitsSize n)) (by omega)]; rfl) | (congr 1; unfold bitsOk; rw [bits_last (by omega), decide_eq_true (p := (1 ≤ n ∧ n ≤ 10)) (by omega), decide_eq_true (p := ((b.length : Int) = bitsSize n)) (by omega)]; simp only [Bool.true_and]; rfl) | (congr 1; symm; unfold bitsOk; rw [List.eq_nil_of_length_eq_zero (l := bitList b) (by omega), decide_eq_true (p := (1 ≤ n ∧ n ≤ 10)) (by omega), decide_eq_true (p := ((b.length : Int) = bitsSize n)) (by omega)]; rfl)) : p := h
theorem p_9 {p : Prop} (h : p := by first | rfl | (congr 1; unfold ay; rw [← hx4, rdHs_out (by omega)]; first | (rw [rdProof2_yes (by omega)]; first | done | rfl) | (rw [rdProof2_no (by omega)]; first | done | rfl) | (rw [rdProof2_no (by omega), rdMust_ok rfl]; first | done | rfl)) | (simp only [D.size, List.length_map]; unfold ay; rw [← hx4, rdHs_out (by omega)]; first | (rw [rdProof2_yes (by omega)]; first | done | rfl) | (rw [rdProof2_no (by omega)]; first | done | rfl) | (rw [rdProof2_no (by omega), rdMust_ok rfl]; first | done | rfl)) | (congr 1; unfold ay; rw [← hx4, rdHs_out (by omega)]; rw [rdMust_ok rfl, rdProof2_no (by omega)])) : p := h
theorem p_10 {p : Prop} (h : p := by (first | (congr 1; first | (rw [getBits_val (by omega)]; first | done | rfl) | (rw [getBits_er (by omega) (by omega)]; first | done | rfl) | (rw [getBits_pad (by omega) (by omega) (by assumption)]; first | done | rfl) | (rw [getBits_ok (by omega) (by omega) (by assumption)]; first | done | rfl)) | (simp only [D.size]; first | (rw [getBits_val (by omega)]; first | done | rfl) | (rw [getBits_er (by omega) (by omega)]; first | done | rfl) | (rw [getBits_pad (by omega) (by omega) (by assumption)]; first | done | rfl) | (rw [getBits_ok (by omega) (by omega) (by assumption)]; first | done | rfl)))) : p := h
theorem p_11 {p : Prop} (h : p := by first | exact wrap_ok (by first | omega | (simp; omega) | (simp [w16_len, wN_len]; omega)) (by first | omega | (simp; omega) | (simp [w16_len, wN_len]; omega)) | rfl) : p := h
theorem p_12 {p : Prop} (h : p := by first | rfl | (refine congrArg (fun n => PV.one (.d (.int .i64 n))) ?_; first | rfl | omega | (simp; done))) : p := h
theorem p_13 {p : Prop} (h : p := by first | rfl | (congr 1; symm; simp only [limOk, *, Bool.and_true, Bool.true_and, Bool.and_false, Bool.false_and, decide_true, decide_false, and_true, true_and, and_self, and_false, false_and, Bool.and_self, not_true, not_false, Bool.not_true, Bool.not_false, ge_iff_le, gt_iff_lt, if_true, if_false, Bool.false_eq_true, ite_true, ite_false, reduceIte]; done) | (congr 1; symm; simp_all [limOk]; done) | (congr 1; symm; simp_all [limOk]; omega)) : p := h
theorem p_14 {p : Prop} (h : p := by first | rfl | (congr 1; unfold aw; first | (rw [getOut_yes (by assumption)]; first | done | rfl) | (rw [getOut_no (by assumption)]; first | done | rfl) | (rw [rs0_ok (by assumption), getOut_yes (by assumption)]; first | done | rfl) | (rw [rs0_ok (by assumption), getOut_no (by assumption)]; first | done | rfl) | (rw [rs0_no (by assumption), getOut_nr (rdVote_er (show ¬ ((5 : Int) = 0) by decide)) rfl]; first | done | rfl)) | (simp only [D.size, List.length_map]; unfold aw; first | (rw [getOut_yes (by assumption)]; first | done | rfl) | (rw [getOut_no (by assumption)]; first | done | rfl) | (rw [rs0_ok (by assumption), getOut_yes (by assumption)]; first | done | rfl) | (rw [rs0_ok (by assumption), getOut_no (by assumption)]; first | done | rfl) | (rw [rs0_no (by assumption), getOut_nr (rdVote_er (show ¬ ((5 : Int) = 0) by decide)) rfl]; first | done | rfl))) : p := h
theorem p_15 {p : Prop} (h : p := by first | exact trivial | exact D.wf_nil _ | exact wf_map SEntry.len _) : p := h
theorem p_16 {p : Prop} (h : p := by first | exact trivial | exact D.wf_nil _ | exact wf_map SHead.len _) : p := h
theorem p_17 {p : Prop} (h : p := by first | exact wrap_ok (by first | omega | (simp only [List.length_append, List.length_cons, List.length_nil]; omega) | (simp; omega)) (by first | omega | (simp only [List.length_append, List.length_cons, List.length_nil]; omega) | (simp; omega)) | rfl) : p := h
theorem p_18 {p : Prop} (h : p := by first | rfl | (rw [Bool.eq_iff_iff]; simp only [Bool.not_eq_true', Bool.not_eq_false', decide_eq_true_eq, decide_eq_false_iff_not]; omega) | (simp; done)) : p := h
theorem p_19 {p : Prop} (h : p := by first | rfl | (congr 1; unfold rdQc; first | (rw [Nat.le_antisymm hx (by omega)]; first | (rw [rdQcA_yes (s := rdQc3 b s) (by show (af b (aa b (aa b s).1).1 32).1.f1 = 0; omega)]; first | done | rfl) | (rw [rdQcA_no (s := rdQc3 b s) (by assumption)]; first | done | rfl)) | (rw [rdQcA_yes (s := rdQc3 b s) (by show (af b (aa b (aa b s).1).1 32).1.f1 = 0; omega)]; first | done | rfl) | (rw [rdQcA_no (s := rdQc3 b s) (by assumption)]; first | done | rfl)) | (simp only [D.size, List.length_map]; unfold rdQc; first | (rw [Nat.le_antisymm hx (by omega)]; first | (rw [rdQcA_yes (s := rdQc3 b s) (by show (af b (aa b (aa b s).1).1 32).1.f1 = 0; omega)]; first | done | rfl) | (rw [rdQcA_no (s := rdQc3 b s) (by assumption)]; first | done | rfl)) | (rw [rdQcA_yes (s := rdQc3 b s) (by show (af b (aa b (aa b s).1).1 32).1.f1 = 0; omega)]; first | done | rfl) | (rw [rdQcA_no (s := rdQc3 b s) (by assumption)]; first | done | rfl))) : p := h
theorem p_20 {p : Prop} (h : p := by first | (congr 1; symm; simp only [bitsOk, *, Bool.and_true, Bool.true_and, Bool.and_false, Bool.false_and, decide_true, decide_false, and_true, true_and, and_self, and_false, false_and, Bool.and_self, not_true, not_false, Bool.not_true, Bool.not_false, ge_iff_le, gt_iff_lt, if_true, if_false, Bool.false_eq_true, ite_true, ite_false, reduceIte]; done) | (congr 1; symm; unfold bitsOk; rw [decide_eq_false (p := (1 ≤ n ∧ n ≤ 10)) (by omega)]; rfl) | (congr 1; symm; unfold bitsOk; rw [decide_eq_false (p := ((b.length : Int) = bitsSize n)) (by omega)]; simp; done) | (congr 1; symm; unfold bitsOk; rw [all_no (i := i) (by omega) (by omega)]; simp; done) | (congr 1; symm; unfold bitsOk; rw [List.take_of_length_le (by omega)] at hx2; rw [hx2, decide_eq_true (p := (1 ≤ n ∧ n ≤ 10)) (by omega), decide_eq_true (p := ((b.length : Int) = bitsSize n)) (by omega)]; rfl)) : p := h
theorem p_21 {p : Prop} (h : p := by simp only [D.size, List.length_map]; first | omega | (simp only [List.length_append, List.length_cons, List.length_nil]; omega) | (simp; omega) | (simp only [List.length_append] at *; omega)) : p := h
theorem p_22 {p : Prop} (h : p := by first | rfl | (congr 1; first | (rw [rdBlock_ok (rdB_out hx4 (by omega)) (by omega)]; first | done | rfl) | (rw [rdBlock_no (rdB_out hx4 (by omega)) (by omega)]; first | done | rfl | (rw [rdMust_ok rfl]; first | done | rfl))) | (simp only [D.size, List.length_map]; first | (rw [rdBlock_ok (rdB_out hx4 (by omega)) (by omega)]; first | done | rfl) | (rw [rdBlock_no (rdB_out hx4 (by omega)) (by omega)]; first | done | rfl))) : p := h
theorem p_23 {p : Prop} (h : p := by first | omega | (simp; omega)) : p := h
theorem p_24 {p : Prop} (h : p := by exact lt_ok rfl) : p := h
theorem p_25 {p : Prop} (h : p := by first | rfl | (congr 1; symm; simp only [headFits, *, Bool.and_true, Bool.true_and, Bool.and_false, Bool.false_and, decide_true, decide_false, and_true, true_and, and_self, and_false, false_and, Bool.and_self, not_true, not_false, Bool.not_true, Bool.not_false, ge_iff_le, gt_iff_lt, if_true, if_false, Bool.false_eq_true, ite_true, ite_false, reduceIte]; done) | (congr 1; symm; simp_all [headFits]; done) | (congr 1; symm; simp_all [headFits]; omega)) : p := h
theorem p_26 {p : Prop} (h : p := by first | (rw [shaBlock_yes (h := h) (b := b) ⟨by omega, by omega, hwo_⟩, show i = 8 from by omega]; done) | (simp only [D.size]; first | (rw [shaBlock_no (fun h_ => by have := h_.1; have := h_.2.1; omega)]; rfl) | (rw [shaBlock_no (fun h_ => by have := h_.2.2; rw [words_no (i := i) (by omega) (by omega)] at this; cases this)]; rfl))) : p := h
theorem p_27 {p : Prop} (h : p := by first | rfl | (congr 1; unfold ax; first | (rw [getOut_yes (by assumption)]; first | done | rfl) | (rw [getOut_no (by assumption)]; first | done | rfl) | (rw [rs0_ok (by assumption), getOut_yes (by assumption)]; first | done | rfl) | (rw [rs0_ok (by assumption), getOut_no (by assumption)]; first | done | rfl) | (rw [rs0_no (by assumption), getOut_nr (rdBlock_er (show ¬ ((5 : Int) = 0) by decide)) rfl]; first | done | rfl)) | (simp only [D.size, List.length_map]; unfold ax; first | (rw [getOut_yes (by assumption)]; first | done | rfl) | (rw [getOut_no (by assumption)]; first | done | rfl) | (rw [rs0_ok (by assumption), getOut_yes (by assumption)]; first | done | rfl) | (rw [rs0_ok (by assumption), getOut_no (by assumption)]; first | done | rfl) | (rw [rs0_no (by assumption), getOut_nr (rdBlock_er (show ¬ ((5 : Int) = 0) by decide)) rfl]; first | done | rfl))) : p := h
theorem p_28 {p : Prop} (h : p := by first | rfl | (congr 1; unfold getProof; first | (rw [getOut_yes (by assumption)]; first | done | rfl) | (rw [getOut_no (by assumption)]; first | done | rfl) | (rw [rs0_ok (by assumption), getOut_yes (by assumption)]; first | done | rfl) | (rw [rs0_ok (by assumption), getOut_no (by assumption)]; first | done | rfl) | (rw [rs0_no (by assumption), getOut_nr (rdProof_er (show ¬ ((5 : Int) = 0) by decide)) rfl]; first | done | rfl)) | (simp only [D.size, List.length_map]; unfold getProof; first | (rw [getOut_yes (by assumption)]; first | done | rfl) | (rw [getOut_no (by assumption)]; first | done | rfl) | (rw [rs0_ok (by assumption), getOut_yes (by assumption)]; first | done | rfl) | (rw [rs0_ok (by assumption), getOut_no (by assumption)]; first | done | rfl) | (rw [rs0_no (by assumption), getOut_nr (rdProof_er (show ¬ ((5 : Int) = 0) by decide)) rfl]; first | done | rfl))) : p := h
theorem p_29 {p : Prop} (h : p := by first | rfl | (congr 1; unfold bc; first | (rw [getOut_yes (by assumption)]; first | done | rfl) | (rw [getOut_no (by assumption)]; first | done | rfl) | (rw [rs0_ok (by assumption), getOut_yes (by assumption)]; first | done | rfl) | (rw [rs0_ok (by assumption), getOut_no (by assumption)]; first | done | rfl) | (rw [rs0_no (by assumption), getOut_nr (rdHead_er (show ¬ ((5 : Int) = 0) by decide)) rfl]; first | done | rfl)) | (simp only [D.size, List.length_map]; unfold bc; first | (rw [getOut_yes (by assumption)]; first | done | rfl) | (rw [getOut_no (by assumption)]; first | done | rfl) | (rw [rs0_ok (by assumption), getOut_yes (by assumption)]; first | done | rfl) | (rw [rs0_ok (by assumption), getOut_no (by assumption)]; first | done | rfl) | (rw [rs0_no (by assumption), getOut_nr (rdHead_er (show ¬ ((5 : Int) = 0) by decide)) rfl]; first | done | rfl))) : p := h
theorem p_30 {p : Prop} (h : p := by first | rfl | (congr 1; unfold getIncl; first | (rw [getOut_yes (by assumption)]; first | done | rfl) | (rw [getOut_no (by assumption)]; first | done | rfl) | (rw [rs0_ok (by assumption), getOut_yes (by assumption)]; first | done | rfl) | (rw [rs0_ok (by assumption), getOut_no (by assumption)]; first | done | rfl) | (rw [rs0_no (by assumption), getOut_nr (rdIncl_er (show ¬ ((5 : Int) = 0) by decide)) rfl]; first | done | rfl)) | (simp only [D.size, List.length_map]; unfold getIncl; first | (rw [getOut_yes (by assumption)]; first | done | rfl) | (rw [getOut_no (by assumption)]; first | done | rfl) | (rw [rs0_ok (by assumption), getOut_yes (by assumption)]; first | done | rfl) | (rw [rs0_ok (by assumption), getOut_no (by assumption)]; first | done | rfl) | (rw [rs0_no (by assumption), getOut_nr (rdIncl_er (show ¬ ((5 : Int) = 0) by decide)) rfl]; first | done | rfl))) : p := h
theorem p_31 {p : Prop} (h : p := by (congr 1; first | (rw [pathLenT_no (i := i) (n := n) (by omega)]; done) | (rw [pathLenT_one (i := i) (n := n) (by omega)]; done) | (rw [pathLenT_left (i := i) (n := n) (by omega) (by omega) (by omega)]; done) | (rw [pathLenT_right (i := i) (n := n) (by omega) (by omega) (by omega)]; done))) : p := h
theorem p_32 {p : Prop} (h : p := by first | rfl | (congr 1; unfold getQc; first | (rw [getOut_yes (by assumption)]; first | done | rfl) | (rw [getOut_no (by assumption)]; first | done | rfl) | (rw [rs0_ok (by assumption), getOut_yes (by assumption)]; first | done | rfl) | (rw [rs0_ok (by assumption), getOut_no (by assumption)]; first | done | rfl) | (rw [rs0_no (by assumption), getOut_nr (rdQc_er (show ¬ ((5 : Int) = 0) by decide)) rfl]; first | done | rfl)) | (simp only [D.size, List.length_map]; unfold getQc; first | (rw [getOut_yes (by assumption)]; first | done | rfl) | (rw [getOut_no (by assumption)]; first | done | rfl) | (rw [rs0_ok (by assumption), getOut_yes (by assumption)]; first | done | rfl) | (rw [rs0_ok (by assumption), getOut_no (by assumption)]; first | done | rfl) | (rw [rs0_no (by assumption), getOut_nr (rdQc_er (show ¬ ((5 : Int) = 0) by decide)) rfl]; first | done | rfl))) : p := h
theorem p_33 {p : Prop} (h : p := by first | rfl | (congr 1; unfold getTc; first | (rw [getOut_yes (by assumption)]; first | done | rfl) | (rw [getOut_no (by assumption)]; first | done | rfl) | (rw [rs0_ok (by assumption), getOut_yes (by assumption)]; first | done | rfl) | (rw [rs0_ok (by assumption), getOut_no (by assumption)]; first | done | rfl) | (rw [rs0_no (by assumption), getOut_nr (rdTc_er (show ¬ ((5 : Int) = 0) by decide)) rfl]; first | done | rfl)) | (simp only [D.size, List.length_map]; unfold getTc; first | (rw [getOut_yes (by assumption)]; first | done | rfl) | (rw [getOut_no (by assumption)]; first | done | rfl) | (rw [rs0_ok (by assumption), getOut_yes (by assumption)]; first | done | rfl) | (rw [rs0_ok (by assumption), getOut_no (by assumption)]; first | done | rfl) | (rw [rs0_no (by assumption), getOut_nr (rdTc_er (show ¬ ((5 : Int) = 0) by decide)) rfl]; first | done | rfl))) : p := h
theorem p_34 {p : Prop} (h : p := by (congr 1; symm; unfold bitHas; first | (rw [decide_eq_false (p := 0 ≤ i) (by omega)]; rfl) | (rw [decide_eq_true (p := 0 ≤ i) (by omega), decide_eq_false (p := i / 8 < (b.length : Int)) (by omega)]; rfl) | (rw [decide_eq_true (p := 0 ≤ i) (by omega), decide_eq_true (p := i / 8 < (b.length : Int)) (by omega)]; rfl) | (by_cases hi_ : 0 ≤ i; (rw [decide_eq_true (p := 0 ≤ i) (by omega), decide_eq_false (p := i / 8 < (b.length : Int)) (by omega)]; rfl); (rw [decide_eq_false (p := 0 ≤ i) hi_]; rfl)))) : p := h
theorem p_35 {p : Prop} (h : p := by simp only [D.size]; first | omega | (simp; omega) | (simp [w16_len, wN_len]; omega)) : p := h
theorem p_36 {p : Prop} (h : p := by first | rfl | (congr 1; first | (rw [rdMust_er (by omega)]; done) | (rw [rdMust_ok (by first | assumption | (rw [hk_, show bad = true from by assumption]; rfl) | (rw [hk_, show bad = false from by assumption]; rfl))]; done) | (rw [rdMust_hit (by omega) (by first | assumption | (rw [hk_, show bad = true from by assumption]; rfl) | (rw [hk_, show bad = false from by assumption]; rfl))]; done))) : p := h
theorem p_37 {p : Prop} (h : p := by first | assumption | exact sha_u8 _ | exact treeRoot_u8 _ | exact nodeHash_u8 _ _ | exact leafHash_u8 _ | exact u8_cons (by decide) (by assumption) | exact mem_getD (p := U8s) (by assumption) (by omega) | exact u8_app (u8_cons (by decide) (by assumption)) (by assumption) | exact fun x hx => by cases hx | exact putHead_u8 u8_72 (by assumption)) : p := h
theorem p_38 {p : Prop} (h : p := by first | rfl | (congr 1; unfold rdIncl; first | (rw [show rdIA l b s = _ from rdIA_yes (by show (rdI3 l b s).1.f1 = 0; assumption)]; first | (rw [show i = rdIn l b s from by omega]; first | done | rfl) | (rw [show i = rdIn l b s from Nat.le_antisymm hx (by have : ¬ (i : Int) < az (rdI2 l b s).2 (aa b (aa b s).1).2 := (by assumption); omega)]; first | done | rfl)) | (rw [show rdIA l b s = _ from rdIA_no (by show ¬ (rdI3 l b s).1.f1 = 0; assumption)]; first | done | rfl)) | (simp only [D.size, List.length_map]; unfold rdIncl; first | (rw [show rdIA l b s = _ from rdIA_yes (by show (rdI3 l b s).1.f1 = 0; assumption)]; first | (rw [show i = rdIn l b s from by omega]; first | done | rfl) | (rw [show i = rdIn l b s from Nat.le_antisymm hx (by have : ¬ (i : Int) < az (rdI2 l b s).2 (aa b (aa b s).1).2 := (by assumption); omega)]; first | done | rfl)) | (rw [show rdIA l b s = _ from rdIA_no (by show ¬ (rdI3 l b s).1.f1 = 0; assumption)]; first | done | rfl))) : p := h
theorem p_39 {p : Prop} (h : p := by first | (congr 1; unfold getText; first | (rw [if_pos (by omega), if_pos (by omega)]; done) | (rw [if_pos (by omega), if_neg (by omega)]; done) | (rw [if_neg (by omega)]; done)) | (simp only [D.size]; unfold getText; first | (rw [if_pos (by omega), if_pos (by omega)]; rfl) | (rw [if_neg (by omega)]; rfl))) : p := h
theorem p_40 {p : Prop} (h : p := by first | assumption | exact sha_u8 _ | exact treeRoot_u8 _ | exact nodeHash_u8 _ _ | exact leafHash_u8 _ | exact u8_cons (by decide) (by assumption) | exact mem_getD (p := U8s) (by assumption) (by omega) | exact u8_app (u8_cons (by decide) (by assumption)) (by assumption) | exact fun x hx => by cases hx) : p := h
theorem p_41 {p : Prop} (h : p := by first | rfl | (congr 1; symm; simp only [closes, *, Bool.and_true, Bool.true_and, Bool.and_false, Bool.false_and, decide_true, decide_false, and_true, true_and, and_self, and_false, false_and, Bool.and_self, not_true, not_false, Bool.not_true, Bool.not_false, ge_iff_le, gt_iff_lt, if_true, if_false, Bool.false_eq_true, ite_true, ite_false, reduceIte]; done) | (congr 1; symm; simp_all [closes]; done) | (congr 1; symm; simp_all [closes]; omega)) : p := h
theorem p_42 {p : Prop} (h : p := by first | assumption | exact Decidable.not_not.1 (by assumption)) : p := h
theorem p_43 {p : Prop} (h : p := by first | exact ev_msg (by omega) | exact ev_bad (by omega)) : p := h
theorem p_44 {p : Prop} (h : p := by first | rfl | (refine congrArg (fun x => some (_, D.ints .u8 x)) ?_; first | (simp; done) | (rw [List.replicate_succ', List.append_assoc, List.append_assoc]; first | done | rfl) | (simp only [List.append_assoc, List.replicate_succ', padB]; done) | (rw [show i = padK b.length from by unfold padK at *; omega]; simp [padB]; done)) | (refine congrArg (fun n => PV.one (.d (.int .i64 n))) ?_; first | rfl | omega | (simp; done))) : p := h
theorem p_45 {p : Prop} (h : p := by first | (exact congrArg (fun x => some (_, D.ints .i64 (vN h (wN b 48) x))) (show i = 64 by omega)) | (exact congrArg (fun x => PV.one (.d (.ints .i64 (vN h (wN b 48) x)))) (show i = 64 by omega)) | rfl | (refine congrArg (fun x => some (_, D.ints .i64 x)) ?_; first | rfl | (rw [show i = 64 from by omega]; first | done | rfl)) | (refine congrArg (fun n => PV.one (.d (.int .i64 n))) ?_; first | rfl | omega | (simp; done))) : p := h
theorem p_46 {p : Prop} (h : p := by first | rfl | (refine congrArg (fun x => some (_, D.ints .u8 x)) ?_; first | (simp; done) | (rw [List.replicate_succ', List.append_assoc, List.append_assoc]; first | done | rfl) | (simp only [List.append_assoc, List.replicate_succ', padB]; done) | (rw [show i = padK b.length from by unfold padK; omega]; simp [padB]; done)) | (refine congrArg (fun n => PV.one (.d (.int .i64 n))) ?_; first | rfl | omega | (simp; done))) : p := h
theorem p_47 {p : Prop} (h : p := by simp only [D.size]; first | omega | (simp; omega)) : p := h
theorem p_48 {p : Prop} (h : p := by first | assumption | (rw [hk_, show bad = true from by assumption]; rfl) | (rw [hk_, show bad = false from by assumption]; rfl)) : p := h
theorem p_49 {p : Prop} (h : p := by first | (congr 1; unfold au; first | (rw [if_pos (by omega)]; done) | (rw [if_neg (by omega)]; done)) | (simp only [D.size]; unfold au; rw [if_neg (by omega)]; rfl)) : p := h
theorem p_50 {p : Prop} (h : p := by first | exact wrap_ok (by first | omega | (simp only [List.length_take, List.length_drop]; omega) | (simp; omega)) (by first | omega | (simp only [List.length_take, List.length_drop]; omega) | (simp; omega)) | rfl) : p := h
theorem p_51 {p : Prop} (h : p := by first | rfl | (refine congrArg (fun x => some (_, D.ints .i64 x)) ?_; unfold shaH; rw [show i = (shaPad b).length / 64 from by omega]) | (refine congrArg (fun n => PV.one (.d (.int .i64 n))) ?_; first | rfl | omega | (unfold shaH; rw [show i = (shaPad b).length / 64 from by omega]; first | done | rfl) | (simp; done))) : p := h
theorem p_52 {p : Prop} (h : p := by simp only [List.range, List.range.loop, List.map_cons, List.map_nil]; rw [cell_map default (by first | omega | (simp; omega)), cell_map default (by first | omega | (simp; omega)), cell_map default (by first | omega | (simp; omega)), cell_map default (by first | omega | (simp; omega)), cell_map default (by first | omega | (simp; omega)), cell_map default (by first | omega | (simp; omega)), cell_map default (by first | omega | (simp; omega)), cell_map default (by first | omega | (simp; omega)), cell_map default (by first | omega | (simp; omega)), cell_map default (by first | omega | (simp; omega))]; rfl) : p := h
theorem p_53 {p : Prop} (h : p := by first | assumption | omega) : p := h
theorem p_54 {p : Prop} (h : p := by first | exact wrap_ok (by first | omega | (simp; omega)) (by first | omega | (simp; omega)) | rfl) : p := h
theorem p_55 {p : Prop} (h : p := by (congr 1; first | (rw [treeRoot_nil (l := l) (by omega)]; done) | (rw [treeRoot_one (l := l) (by omega)]; done) | (rw [treeRoot_two (l := l) (by omega) (by omega)]; done))) : p := h
theorem p_56 {p : Prop} (h : p := by first | rfl | (refine congrArg (fun x => some (_, D.ints .i64 x)) ?_; rfl) | (refine congrArg (fun n => PV.one (.d (.int .i64 n))) ?_; first | omega | (simp; done))) : p := h
theorem p_57 {p : Prop} (h : p := by (congr 1; first | (rw [getFix_no (by omega)]; done) | (rw [getFix_out (by omega) (by omega)]; done) | (rw [getFix_in (by omega) (by omega) (by omega), fixS_all _ _ _ (by omega)]; done) | (rw [getFix_in (by omega) (by omega) (by omega)]; done))) : p := h
theorem p_58 {p : Prop} (h : p := by show (af b (aa b (aa b s).1).1 32).1.f1 = 0; omega) : p := h
theorem p_59 {p : Prop} (h : p := by first | exact hvl_ | exact hvl_.symm | rfl | (simp; done)) : p := h
theorem p_60 {p : Prop} (h : p := by first | rfl | (refine congrArg (fun n => PV.one (.d (.int .i64 n))) ?_; first | omega | (simp; done))) : p := h
theorem p_61 {p : Prop} (h : p := by first | rfl | (congr 1; unfold rdInclS; rw [← hx4, rdTg_out (by first | omega | (have : ¬ (i : Int) < az (rdI2 l b s).2 (aa b (aa b s).1).2 := (by assumption); omega))]) | (simp only [D.size, List.length_map]; unfold rdInclS; rw [← hx4, rdTg_out (by first | omega | (have : ¬ (i : Int) < az (rdI2 l b s).2 (aa b (aa b s).1).2 := (by assumption); omega))])) : p := h
theorem p_62 {p : Prop} (h : p := by first | exact congrArg (fun x => some (_, D.ints .i64 (wI b x))) (show i = 48 by omega) | exact congrArg (fun x => some (_, D.ints .i64 x)) ((stepI_eq (hV_ 4)).trans (congrArg (stepV _ _) (hwq_ _))) | rfl | (refine congrArg (fun x => some (_, D.ints .i64 x)) ?_; first | rfl | fail) | (refine congrArg (fun n => PV.one (.d (.int .i64 n))) ?_; first | rfl | omega | (simp; done))) : p := h
theorem p_63 {p : Prop} (h : p := by first | exact congrArg (fun x => some (_, D.ints .i64 x)) ((congrArg (aI b) (show i = 16 by omega)).trans (wI_zero b)) | exact congrArg (fun x => some (_, D.ints .i64 x)) (wI_set b (by omega)) | rfl | (refine congrArg (fun x => some (_, D.ints .i64 x)) ?_; first | rfl | fail) | (refine congrArg (fun n => PV.one (.d (.int .i64 n))) ?_; first | rfl | omega | (simp; done))) : p := h
theorem p_64 {p : Prop} (h : p := by first | omega | exact hp_.1 | exact hp_.2 | (simp; omega)) : p := h
theorem p_65 {p : Prop} (h : p := by (congr 1; symm; first | (apply decide_eq_false; rintro rfl; first | exact absurd rfl ‹¬ _ = _› | exact absurd rfl (of_decide_eq_false (by assumption)) | contradiction | simp_all) | (apply decide_eq_true; exact take_all hx2 (by omega) hx3))) : p := h
theorem p_66 {p : Prop} (h : p := by first | rfl | (congr 1; unfold rdText; first | (rw [if_pos (by omega)]; done) | (rw [if_neg (by omega)]; done)) | (simp only [D.size]; unfold rdText; rw [if_neg (by omega)]; rfl)) : p := h
theorem p_67 {p : Prop} (h : p := by rw [Int.tdiv_eq_ediv_of_nonneg (by first | omega | exact hp_.1 | exact hp_.2 | (simp; omega))]; exact wrap_ok (by first | omega | exact hp_.1 | exact hp_.2 | (simp; omega)) (by first | omega | exact hp_.1 | exact hp_.2 | (simp; omega))) : p := h
theorem p_68 {p : Prop} (h : p := by first | rfl | (congr 1; unfold aa; first | (rw [if_pos (by omega)]; done) | (rw [if_neg (by omega)]; done)) | (simp only [D.size]; unfold aa; rw [if_neg (by omega)]; rfl)) : p := h
theorem p_69 {p : Prop} (h : p := by first | rfl | (congr 1; unfold af; first | (rw [if_pos (by omega)]; done) | (rw [if_neg (by omega)]; done)) | (simp only [D.size]; unfold af; rw [if_neg (by omega)]; rfl)) : p := h
theorem p_70 {p : Prop} (h : p := by simp only [D.at_, D.cell, D.size]; first | omega | (simp; omega) | (simp [w16_len, wN_len]; omega)) : p := h
theorem p_71 {p : Prop} (h : p := by (congr 1; unfold ah; first | (rw [if_pos (by omega)]; done) | (rw [if_neg (by omega)]; rw [if_neg (by omega)] at hx4; exact hx4) | (rw [if_neg (by omega)]; omega))) : p := h
theorem p_72 {p : Prop} (h : p := by first | exact congrArg (fun x => some (_, D.ints .i64 x)) (aI_zero b) | exact congrArg (fun x => some (_, D.ints .i64 x)) (aI_set b (by omega)) | rfl | (refine congrArg (fun x => some (_, D.ints .i64 x)) ?_; first | rfl | fail) | (refine congrArg (fun n => PV.one (.d (.int .i64 n))) ?_; first | rfl | omega | (simp; done))) : p := h
theorem p_73 {p : Prop} (h : p := by first | assumption | exact mem_sub (by assumption) _ _ | exact s0.2 | exact s1.2) : p := h
theorem p_74 {p : Prop} (h : p := by first | omega | (simp only [List.length_append, List.length_cons, List.length_nil]; omega) | (simp; omega)) : p := h
theorem p_75 {p : Prop} (h : p := by first | omega | assumption | (simp only [List.length_append] at *; omega) | (simp; done) | (simp; omega)) : p := h
theorem p_76 {p : Prop} (h : p := by first | assumption | exact mem_sub (by assumption) _ _ | exact s0.2 | exact o1) : p := h
theorem p_77 {p : Prop} (h : p := by first | rfl | (congr 1; unfold rdTc; rw [← hx4, rdEs_out (by omega)]) | (simp only [D.size, List.length_map]; unfold rdTc; rw [← hx4, rdEs_out (by omega)])) : p := h
theorem p_78 {p : Prop} (h : p := by first | assumption | exact frameData_u8 (by assumption) _ | exact fun x hx => (by assumption : U8s s) x (List.mem_of_mem_drop (List.mem_of_mem_take hx))) : p := h
theorem p_79 {p : Prop} (h : p := by rw [Int.tdiv_eq_ediv_of_nonneg (by first | omega | (simp; omega))]; exact wrap_ok (by first | omega | (simp; omega)) (by first | omega | (simp; omega))) : p := h
theorem p_80 {p : Prop} (h : p := by first | assumption | exact hW_ _ | exact hV_ _ | omega) : p := h
theorem p_81 {p : Prop} (h : p := by first | exact congrArg (fun x => some (_, D.ints .i64 (w16 b x))) (show i = 16 by omega) | rfl | (refine congrArg (fun x => some (_, D.ints .i64 x)) ?_; first | rfl | fail) | (refine congrArg (fun n => PV.one (.d (.int .i64 n))) ?_; first | rfl | omega | (simp; done))) : p := h
theorem p_82 {p : Prop} (h : p := by first | exact congrArg (fun x => some (_, D.ints .i64 (wN b x))) (show i = 48 by omega) | rfl | (refine congrArg (fun x => some (_, D.ints .i64 x)) ?_; first | rfl | fail) | (refine congrArg (fun n => PV.one (.d (.int .i64 n))) ?_; first | rfl | omega | (simp; done))) : p := h
theorem p_83 {p : Prop} (h : p := by first | rfl | (refine congrArg (fun n => PV.one (.d (.int .i64 n))) ?_; first | rfl | exact (crcT_odd (by omega)).symm | exact (crcT_even (by omega)).symm | omega | (simp; done))) : p := h
theorem p_84 {p : Prop} (h : p := by (congr 1; first | exact (if_neg (by omega)).symm | (unfold crcMore; rw [if_pos (by omega), show b.length = i from by omega]; done))) : p := h
theorem p_85 {p : Prop} (h : p := by first | omega | (simp only [List.length_take, List.length_drop]; omega) | (simp; omega)) : p := h
theorem p_86 {p : Prop} (h : p := by exact (congrArg PV.flat (A.g 37 (p := (.agg [cI (ag l b q).2.f0, cI (ag l b q).2.f1, cI (ag l b q).2.f2, .row 7037 [], .row 8037 [], cI (ag l b q).2.f5.f0, cI (ag l b q).2.f5.f1, .row 11037 [], .row 12037 [], .row 13037 []])))).trans rfl) : p := h
theorem p_87 {p : Prop} (h : p := by (congr 1; unfold tailOf; first | (rw [if_pos (by assumption)]; done) | (rw [if_neg (fun e => bool_ne e (by assumption))]; done))) : p := h
theorem p_88 {p : Prop} (h : p := by (congr 1; unfold bitsSize; first | rw [if_pos (by omega)] | (rw [if_neg (by omega)]; done) | (rw [if_neg (by omega)]; omega))) : p := h
theorem p_89 {p : Prop} (h : p := by exact (A.row 7 (by kernel_rfl)).trans rfl) : p := h
theorem p_90 {p : Prop} (h : p := by first | (congr 1; unfold ab; rw [if_pos (by omega)]; done) | (congr 1; symm; first | exact decide_eq_true (by omega) | exact decide_eq_false (by omega)) | (show (ab l s a).length = 0; unfold ab; rw [if_neg (by omega)]; rfl)) : p := h
theorem p_91 {p : Prop} (h : p := by simp [D.flat, D.val]) : p := h
theorem p_92 {p : Prop} (h : p := by first | rfl | (refine congrArg (fun n => PV.one (.d (.int .i64 n))) ?_; first | rfl | omega | omega | (simp; done))) : p := h
theorem p_93 {p : Prop} (h : p := by first | omega | (have : ¬ (i : Int) < az (rdI2 l b s).2 (aa b (aa b s).1).2 := (by assumption); omega)) : p := h
theorem p_94 {p : Prop} (h : p := by first | rfl | (refine congrArg (fun n => PV.one (.d (.int .i64 n))) ?_; first | rfl | exact (fixS_zero (by omega) (by omega) (by omega)).symm | exact fixS_next (by omega) (by omega) (by omega) (by omega) | omega | (simp; done))) : p := h
theorem p_95 {p : Prop} (h : p := by (first | (congr 1; first | (rw [← hx7, sg_end (by omega)]; done) | (rw [← hx7, sg_wait (by omega)]; done)) | rfl)) : p := h
theorem p_96 {p : Prop} (h : p := by first | omega | decide) : p := h
theorem p_97 {p : Prop} (h : p := by first | omega | assumption | (simp only [List.length_take, List.length_drop]; omega)) : p := h
theorem p_98 {p : Prop} (h : p := by have h7_ := pow128 (i := i + 1) (by omega); rw [← Int.pow_succ]; exact wrap_ok (by omega) (by omega)) : p := h
theorem p_99 {p : Prop} (h : p := by simp only [D.at_, D.cell, D.size]; first | omega | (simp; omega)) : p := h
theorem p_100 {p : Prop} (h : p := by first | assumption | omega | exact treeRoot_u8 _) : p := h
theorem p_101 {p : Prop} (h : p := by have : ¬ (i : Int) < az (rdI2 l b s).2 (aa b (aa b s).1).2 := (by assumption); omega) : p := h
theorem p_102 {p : Prop} (h : p := by first | assumption | exact fun x hx => h0_ x (List.mem_of_mem_drop (List.mem_of_mem_take hx))) : p := h
theorem p_103 {p : Prop} (h : p := by first | rfl | (refine congrArg (fun x => some (_, D.ints .i64 x)) ?_; first | rfl | fail) | (refine congrArg (fun n => PV.one (.d (.int .i64 n))) ?_; first | rfl | omega | (simp; done))) : p := h
theorem p_104 {p : Prop} (h : p := by (congr 1; first | (rw [getFix_no (by omega)]; done) | (unfold ao; rw [if_pos (by omega), List.take_of_length_le (by omega)]; done) | (unfold ao; rw [if_pos (by omega)]; done))) : p := h
theorem p_105 {p : Prop} (h : p := by simp) : p := h
theorem p_106 {p : Prop} (h : p := by first | rfl | (simp; done) | (congr 3; omega)) : p := h
theorem p_107 {p : Prop} (h : p := by simp [rowsOf, rid]) : p := h
theorem p_108 {p : Prop} (h : p := by exact (A.row 9 (by kernel_rfl)).trans rfl) : p := h
theorem p_109 {p : Prop} (h : p := by first | rfl | (refine congrArg (fun n => PV.one (.d (.int .i64 n))) ?_; rfl)) : p := h
theorem p_110 {p : Prop} (h : p := by first | omega | (simp only [List.length_take, List.length_drop]; omega)) : p := h
theorem p_111 {p : Prop} (h : p := by first | omega | exact Nat.le_trans (frameData_len _ _ _) (by omega)) : p := h
theorem p_112 {p : Prop} (h : p := by first | omega | assumption | (simp only [List.length_append] at *; omega) | (simp; done)) : p := h
theorem p_113 {p : Prop} (h : p := by exact (A.row 41 (by kernel_rfl)).trans rfl) : p := h
theorem p_114 {p : Prop} (h : p := by first | assumption | exact rs0_z | exact fun _ => by assumption) : p := h
theorem p_115 {p : Prop} (h : p := by first | (congr 1; simp_all; done) | (congr 1; simp_all; omega)) : p := h
theorem p_116 {p : Prop} (h : p := by refine ⟨_, (.cons rfl (.cons rfl .nil)), rfl, _, (.r ?_ (.r ?_ (.r ?_ (.nn ?_ (.r ?_ (.nn ?_ (.r ?_ (.r ?_ (.nn ?_ (.nn ?_ (.nn ?_ (.r ?_ (.r ?_ (.r ?_ (.nn ?_ (.nn ?_ (.r ?_ (.r ?_ (.nn ?_ (.nn ?_ (.nn ?_ (.r ?_ (.r ?_ (.r ?_ (.nn ?_ (.nn ?_ (.r ?_ (.r ?_ (.nn ?_ (.nn ?_ (.nn ?_ (.nn ?_ (.r ?_ (RetC.nilown' rfl ?_ p_15 (RetC.nilown' rfl ?_ p_16 (.r ?_ (.r ?_ (.nn ?_ (.nn ?_ (.nn ?_ (.r ?_ (.r ?_ (.r ?_ (.nn ?_ (.nn ?_ (.r ?_ .nil))))))))))))))))))))))))))))))))))))))))))))))⟩ <;> exact p_3) : p := h
theorem p_117 {p : Prop} (h : p := by refine ⟨_, (.cons rfl (.cons rfl (.cons rfl .nil))), rfl, _, (.r ?_ (.r ?_ (.r ?_ .nil)))⟩ <;> exact p_2) : p := h
theorem p_118 {p : Prop} (h : p := by refine ⟨_, (.cons rfl (.cons rfl .nil)), rfl, _, (.r ?_ (.r ?_ .nil))⟩ <;> exact p_0) : p := h
theorem p_119 {p : Prop} (h : p := by refine ⟨_, (.cons rfl (.cons rfl .nil)), rfl, _, (.r ?_ (.r ?_ (.r ?_ (.o ?_ (.r ?_ (.o ?_ (.r ?_ (.r ?_ (.nn ?_ (.nn ?_ (.nn ?_ (.r ?_ (.r ?_ (.r ?_ (.nn ?_ (.nn ?_ (.r ?_ (.r ?_ (.nn ?_ (.nn ?_ (.nn ?_ (.r ?_ (.r ?_ (.r ?_ (.nn ?_ (.nn ?_ (.r ?_ (.r ?_ (.nn ?_ (.nn ?_ (.nn ?_ (.nn ?_ (.r ?_ (RetC.nilown' rfl ?_ p_15 (RetC.nilown' rfl ?_ p_16 (.r ?_ (.r ?_ (.nn ?_ (.nn ?_ (.nn ?_ (.r ?_ (.r ?_ (.r ?_ (.nn ?_ (.nn ?_ (.r ?_ .nil))))))))))))))))))))))))))))))))))))))))))))))⟩ <;> exact p_3) : p := h
theorem p_120 {p : Prop} (h : p := by refine ⟨_, (.cons rfl (.cons rfl .nil)), rfl, _, (.r ?_ (.r ?_ (.r ?_ (.nn ?_ (.r ?_ (.nn ?_ (.r ?_ (.r ?_ (.nn ?_ (.nn ?_ (.nn ?_ (.r ?_ (.r ?_ (.r ?_ (.nn ?_ (.nn ?_ (.r ?_ (.r ?_ (.nn ?_ (.nn ?_ (.nn ?_ (.r ?_ (.r ?_ (.r ?_ (.nn ?_ (.nn ?_ (.r ?_ (.r ?_ (.nn ?_ (.nn ?_ (.nn ?_ (.nn ?_ (.r ?_ (RetC.nilown' rfl ?_ p_15 (RetC.nilown' rfl ?_ p_16 (.r ?_ (.r ?_ (.nn ?_ (.nn ?_ (.nn ?_ (.r ?_ (.r ?_ (.r ?_ (.o ?_ (.o ?_ (.r ?_ .nil))))))))))))))))))))))))))))))))))))))))))))))⟩ <;> exact p_3) : p := h
theorem p_121 {p : Prop} (h : p := by refine ⟨_, (.cons rfl (.cons rfl .nil)), rfl, _, (.r ?_ (.r ?_ (.r ?_ (.nn ?_ (.r ?_ (.nn ?_ (.r ?_ (.r ?_ (.o ?_ (.o ?_ (.o ?_ (.r ?_ (.r ?_ (.r ?_ (.nn ?_ (.nn ?_ (.r ?_ (.r ?_ (.nn ?_ (.nn ?_ (.nn ?_ (.r ?_ (.r ?_ (.r ?_ (.nn ?_ (.nn ?_ (.r ?_ (.r ?_ (.nn ?_ (.nn ?_ (.nn ?_ (.nn ?_ (.r ?_ (RetC.nilown' rfl ?_ p_15 (RetC.nilown' rfl ?_ p_16 (.r ?_ (.r ?_ (.nn ?_ (.nn ?_ (.nn ?_ (.r ?_ (.r ?_ (.r ?_ (.nn ?_ (.nn ?_ (.r ?_ .nil))))))))))))))))))))))))))))))))))))))))))))))⟩ <;> exact p_3) : p := h
theorem p_122 {p : Prop} (h : p := by refine ⟨_, (.cons rfl (.cons rfl .nil)), rfl, _, (.r ?_ (.r ?_ (.r ?_ (.nn ?_ (.r ?_ (.nn ?_ (.r ?_ (.r ?_ (.nn ?_ (.nn ?_ (.nn ?_ (.r ?_ (.r ?_ (.r ?_ (.o ?_ (.o ?_ (.r ?_ (.r ?_ (.o ?_ (.o ?_ (.o ?_ (.r ?_ (.r ?_ (.r ?_ (.nn ?_ (.nn ?_ (.r ?_ (.r ?_ (.nn ?_ (.nn ?_ (.nn ?_ (.nn ?_ (.r ?_ (RetC.nilown' rfl ?_ p_15 (RetC.nilown' rfl ?_ p_16 (.r ?_ (.r ?_ (.nn ?_ (.nn ?_ (.nn ?_ (.r ?_ (.r ?_ (.r ?_ (.nn ?_ (.nn ?_ (.r ?_ .nil))))))))))))))))))))))))))))))))))))))))))))))⟩ <;> exact p_3) : p := h
theorem p_123 {p : Prop} (h : p := by refine ⟨_, (.cons rfl (.cons rfl .nil)), rfl, _, (.r ?_ (.r ?_ (.r ?_ (.nn ?_ (.r ?_ (.nn ?_ (.r ?_ (.r ?_ (.nn ?_ (.nn ?_ (.nn ?_ (.r ?_ (.r ?_ (.r ?_ (.nn ?_ (.nn ?_ (.r ?_ (.r ?_ (.nn ?_ (.nn ?_ (.nn ?_ (.r ?_ (.r ?_ (.r ?_ (.o ?_ (.o ?_ (.r ?_ (.r ?_ (.o ?_ (.o ?_ (.o ?_ (.o ?_ (.r ?_ (RetC.nilown' rfl ?_ p_15 (RetC.nilown' rfl ?_ p_16 (.r ?_ (.r ?_ (.nn ?_ (.nn ?_ (.nn ?_ (.r ?_ (.r ?_ (.r ?_ (.nn ?_ (.nn ?_ (.r ?_ .nil))))))))))))))))))))))))))))))))))))))))))))))⟩ <;> exact p_3) : p := h
theorem p_124 {p : Prop} (h : p := by refine ⟨_, (.cons rfl (.cons rfl .nil)), rfl, _, (.r ?_ (.r ?_ (.r ?_ (.nn ?_ (.r ?_ (.nn ?_ (.r ?_ (.r ?_ (.nn ?_ (.nn ?_ (.nn ?_ (.r ?_ (.r ?_ (.r ?_ (.nn ?_ (.nn ?_ (.r ?_ (.r ?_ (.nn ?_ (.nn ?_ (.nn ?_ (.r ?_ (.r ?_ (.r ?_ (.nn ?_ (.nn ?_ (.r ?_ (.r ?_ (.nn ?_ (.nn ?_ (.nn ?_ (.nn ?_ (.r ?_ (.o ?_ (RetC.nilown' rfl ?_ p_16 (.r ?_ (.r ?_ (.nn ?_ (.nn ?_ (.nn ?_ (.r ?_ (.r ?_ (.r ?_ (.nn ?_ (.nn ?_ (.r ?_ .nil))))))))))))))))))))))))))))))))))))))))))))))⟩ <;> exact p_3) : p := h
theorem p_125 {p : Prop} (h : p := by refine ⟨_, (.cons rfl (.cons rfl .nil)), rfl, _, (.r ?_ (.r ?_ (.r ?_ (.nn ?_ (.r ?_ (.nn ?_ (.r ?_ (.r ?_ (.nn ?_ (.nn ?_ (.nn ?_ (.r ?_ (.r ?_ (.r ?_ (.nn ?_ (.nn ?_ (.r ?_ (.r ?_ (.nn ?_ (.nn ?_ (.nn ?_ (.r ?_ (.r ?_ (.r ?_ (.nn ?_ (.nn ?_ (.r ?_ (.r ?_ (.nn ?_ (.nn ?_ (.nn ?_ (.nn ?_ (.r ?_ (RetC.nilown' rfl ?_ p_15 (.o ?_ (.r ?_ (.r ?_ (.o ?_ (.o ?_ (.o ?_ (.r ?_ (.r ?_ (.r ?_ (.nn ?_ (.nn ?_ (.r ?_ .nil))))))))))))))))))))))))))))))))))))))))))))))⟩ <;> exact p_3) : p := h
theorem p_126 {p : Prop} (h : p := by refine ⟨_, _, rfl, rfl, (.cons rfl .nil), rfl, _, (.r rfl (.r ?_ (.r ?_ (.r ?_ (.r ?_ (.r ?_ (.o ?_ (.o ?_ (.r ?_ (.r ?_ (.o ?_ (.o ?_ (.o ?_ (.o ?_ .nil))))))))))))))⟩ <;> exact p_22) : p := h
theorem p_127 {p : Prop} (h : p := by refine ⟨_, _, rfl, rfl, (.cons rfl .nil), rfl, _, (.r rfl (.r ?_ (.r ?_ (.o ?_ (.r ?_ (.r ?_ (.o ?_ (.o ?_ (.o ?_ .nil)))))))))⟩ <;> exact p_9) : p := h
theorem p_128 {p : Prop} (h : p := by refine ⟨_, (.cons rfl .nil), rfl, _, (.r ?_ .nil)⟩ <;> exact p_13) : p := h
theorem p_129 {p : Prop} (h : p := by refine ⟨_, (.cons rfl (.cons rfl (.cons rfl .nil))), rfl, _, (.nn ?_ (.r ?_ (.r ?_ .nil)))⟩ <;> exact p_49) : p := h
theorem p_130 {p : Prop} (h : p := by refine ⟨_, (.cons rfl (.cons rfl (.cons rfl .nil))), rfl, _, (.nn ?_ (.r ?_ (.r ?_ .nil)))⟩ <;> exact p_10) : p := h
theorem p_131 {p : Prop} (h : p := by refine ⟨_, (.cons rfl .nil), rfl, _, (.o ?_ .nil)⟩ <;> (rfl)) : p := h
theorem p_132 {p : Prop} (h : p := by refine ⟨_, (.cons rfl .nil), rfl, _, (.r ?_ .nil)⟩ <;> exact p_31) : p := h
theorem p_133 {p : Prop} (h : p := by refine ⟨_, _, rfl, rfl, .nil, rfl, _, (.r rfl (.r ?_ (.r ?_ .nil)))⟩ <;> exact p_36) : p := h
theorem p_134 {p : Prop} (h : p := by refine ⟨_, _, rfl, rfl, (.cons rfl .nil), rfl, _, (.r rfl (.r ?_ (.r ?_ (.r ?_ (.o ?_ .nil)))))⟩ <;> exact p_77) : p := h
theorem p_135 {p : Prop} (h : p := by refine ⟨_, (.cons rfl (.cons rfl (.cons rfl .nil))), rfl, _, (.nn ?_ (.r ?_ (.r ?_ .nil)))⟩ <;> exact p_39) : p := h
theorem p_136 {p : Prop} (h : p := by refine ⟨_, (.cons rfl (.cons rfl (.cons rfl .nil))), rfl, _, (.r ?_ (.r ?_ (.r ?_ .nil)))⟩ <;> exact p_57) : p := h
theorem p_137 {p : Prop} (h : p := by refine ⟨_, (.cons rfl (.cons rfl (.cons rfl .nil))), rfl, _, (.o ?_ (.r ?_ (.r ?_ .nil)))⟩ <;> exact p_95) : p := h
theorem p_138 {p : Prop} (h : p := by refine ⟨_, (.cons rfl (.cons rfl (.cons rfl .nil))), rfl, _, (.r ?_ (.r ?_ (.nn ?_ (.r ?_ (.nn ?_ (.r ?_ (.r ?_ .nil)))))))⟩ <;> exact p_14) : p := h
theorem p_139 {p : Prop} (h : p := by refine ⟨_, _, rfl, rfl, (.cons rfl .nil), rfl, _, (.r rfl (.r ?_ (.r ?_ (.r ?_ .nil))))⟩ <;> exact p_68) : p := h
theorem p_140 {p : Prop} (h : p := by refine ⟨_, (.cons rfl .nil), rfl, _, (.nn ?_ .nil)⟩ <;> exact p_26) : p := h
theorem p_141 {p : Prop} (h : p := by refine ⟨_, (.cons rfl .nil), rfl, _, (.r ?_ .nil)⟩ <;> exact p_25) : p := h
theorem p_142 {p : Prop} (h : p := by refine ⟨_, (.cons rfl .nil), rfl, _, (.o ?_ .nil)⟩ <;> exact p_55) : p := h
theorem p_143 {p : Prop} (h : p := by refine ⟨_, (.cons rfl (.cons rfl (.cons rfl .nil))), rfl, _, (.r ?_ (.r ?_ (.r ?_ (.nn ?_ (.nn ?_ (.r ?_ (.r ?_ (.nn ?_ (.nn ?_ (.nn ?_ (.nn ?_ (.r ?_ (.r ?_ .nil)))))))))))))⟩ <;> exact p_27) : p := h
theorem p_144 {p : Prop} (h : p := by refine ⟨_, (.cons rfl (.cons rfl (.cons rfl .nil))), rfl, _, (.r ?_ (.r ?_ (.r ?_ (.nn ?_ (.nn ?_ (.r ?_ (.r ?_ (.nn ?_ (.nn ?_ (.nn ?_ (.r ?_ (.r ?_ .nil))))))))))))⟩ <;> exact p_29) : p := h
theorem p_145 {p : Prop} (h : p := by refine ⟨_, _, rfl, rfl, (.cons rfl .nil), rfl, _, (.r rfl (.r ?_ (.r ?_ (.r ?_ (.r ?_ (.r ?_ (.o ?_ (.o ?_ (.r ?_ (.r ?_ (.o ?_ (.o ?_ (.o ?_ .nil)))))))))))))⟩ <;> (rfl)) : p := h
theorem p_146 {p : Prop} (h : p := by refine ⟨_, (.cons rfl (.cons rfl .nil)), rfl, _, (.r ?_ (.r ?_ .nil))⟩ <;> exact p_87) : p := h
theorem p_147 {p : Prop} (h : p := by refine ⟨_, (.cons rfl (.cons rfl (.cons rfl .nil))), rfl, _, (RetC.nilown' rfl ?_ p_16 (.r ?_ (.r ?_ (.nn ?_ (.nn ?_ (.nn ?_ (.r ?_ (.r ?_ .nil))))))))⟩ <;> exact p_28) : p := h
theorem p_148 {p : Prop} (h : p := by refine ⟨_, (.cons rfl .nil), rfl, _, (.r ?_ .nil)⟩ <;> exact p_34) : p := h
theorem p_149 {p : Prop} (h : p := by refine ⟨_, (.cons rfl .nil), rfl, _, (.r ?_ .nil)⟩ <;> ((congr 1; unfold nameW; first | (rw [if_neg p_4]; done) | (rw [if_pos p_4]; done) | rfl))) : p := h
theorem p_150 {p : Prop} (h : p := by refine ⟨_, (.cons rfl (.cons rfl (.cons rfl .nil))), rfl, _, (.r ?_ (.r ?_ (.nn ?_ (.nn ?_ (.nn ?_ (.r ?_ (.r ?_ .nil)))))))⟩ <;> exact p_32) : p := h
theorem p_151 {p : Prop} (h : p := by refine ⟨_, (.cons rfl (.cons rfl (.cons rfl .nil))), rfl, _, (.r ?_ (.r ?_ (.r ?_ (.nn ?_ (.nn ?_ (.r ?_ (.r ?_ .nil)))))))⟩ <;> exact p_30) : p := h
theorem p_152 {p : Prop} (h : p := by refine ⟨_, (.cons rfl (.cons rfl (.cons rfl .nil))), rfl, _, (.r ?_ (.r ?_ (.o ?_ (.r ?_ (.o ?_ (.r ?_ (.r ?_ .nil)))))))⟩ <;> exact p_14) : p := h
theorem p_153 {p : Prop} (h : p := by refine ⟨_, (.cons rfl .nil), rfl, _, (.r ?_ .nil)⟩ <;> ((congr 1; first | rfl | exact (crcT_odd p_4).symm | exact (crcT_even p_4).symm))) : p := h
theorem p_154 {p : Prop} (h : p := by refine ⟨_, _, rfl, rfl, (.cons rfl .nil), rfl, _, (.r rfl (.r ?_ (.r ?_ (.r ?_ (.r ?_ (.o ?_ (.o ?_ (.o ?_ .nil))))))))⟩ <;> exact p_19) : p := h
theorem p_155 {p : Prop} (h : p := by refine ⟨_, _, rfl, rfl, (.cons rfl .nil), rfl, _, (.r rfl (.r ?_ (.r ?_ (.r ?_ (.r ?_ (.r ?_ (.o ?_ (.o ?_ .nil))))))))⟩ <;> exact p_61) : p := h
theorem p_156 {p : Prop} (h : p := by refine ⟨_, (.cons rfl .nil), rfl, _, (.r ?_ .nil)⟩ <;> exact p_115) : p := h
theorem p_157 {p : Prop} (h : p := by refine ⟨_, (.cons rfl (.cons rfl (.cons rfl .nil))), rfl, _, (.r ?_ (RetC.nilown' rfl ?_ p_15 (.r ?_ (.r ?_ .nil))))⟩ <;> exact p_33) : p := h
theorem p_158 {p : Prop} (h : p := by refine ⟨_, (.cons rfl .nil), rfl, _, (.r ?_ .nil)⟩ <;> (first | rfl | (exfalso; omega))) : p := h
theorem p_159 {p : Prop} (h : p := by refine ⟨_, (.cons rfl .nil), rfl, _, (.r ?_ .nil)⟩ <;> exact p_88) : p := h
theorem p_160 {p : Prop} (h : p := by refine ⟨_, (.cons rfl .nil), rfl, _, (.r ?_ .nil)⟩ <;> exact p_71) : p := h
theorem p_161 {p : Prop} (h : p := by refine ⟨_, (.cons rfl .nil), rfl, _, (.r ?_ .nil)⟩ <;> exact p_41) : p := h
theorem p_162 {p : Prop} (h : p := by refine ⟨_, (.cons rfl .nil), rfl, _, (.r ?_ .nil)⟩ <;> exact p_84) : p := h
theorem p_163 {p : Prop} (h : p := by refine ⟨_, (.cons rfl .nil), rfl, _, (.r ?_ .nil)⟩ <;> exact p_20) : p := h
theorem p_164 {p : Prop} (h : p := by refine ⟨_, (.cons rfl .nil), rfl, _, (.r ?_ .nil)⟩ <;> exact p_8) : p := h
theorem p_165 {p : Prop} (h : p := by refine ⟨_, (.cons rfl .nil), rfl, _, (.r ?_ .nil)⟩ <;> (first | rfl | (congr 1; simp [*]; done) | (congr 1; simp_all; done))) : p := h
theorem p_166 {p : Prop} (h : p := by refine ⟨_, (.cons rfl .nil), rfl, _, (.o ?_ .nil)⟩ <;> ((congr 1; unfold sha; rw [show i = (shaH b).length from by omega]))) : p := h
theorem p_167 {p : Prop} (h : p := by refine ⟨_, (.cons rfl .nil), rfl, _, (.o ?_ .nil)⟩ <;> ((congr 1; rw [← hx2, bitsGo_end b p_4, List.append_nil]))) : p := h
theorem p_168 {p : Prop} (h : p := by refine ⟨_, (.cons rfl .nil), rfl, _, (.o ?_ .nil)⟩ <;> ((congr 1; unfold shaPad; rw [show i = 8 from by omega]))) : p := h
theorem p_169 {p : Prop} (h : p := by refine ⟨_, (.cons rfl (.cons rfl (.cons rfl .nil))), rfl, _, (.r ?_ (.r ?_ (.r ?_ .nil)))⟩ <;> exact p_104) : p := h
theorem p_170 {p : Prop} (h : p := by refine ⟨_, (.cons rfl (.cons rfl (.cons rfl .nil))), rfl, _, (.o ?_ (.r ?_ (.r ?_ .nil)))⟩ <;> exact p_49) : p := h
theorem p_171 {p : Prop} (h : p := by refine ⟨_, (.cons rfl (.cons rfl (.cons rfl .nil))), rfl, _, (.o ?_ (.r ?_ (.r ?_ .nil)))⟩ <;> exact p_10) : p := h
theorem p_172 {p : Prop} (h : p := by refine ⟨_, (.cons rfl (.cons rfl (.cons rfl .nil))), rfl, _, (.o ?_ (.r ?_ (.r ?_ .nil)))⟩ <;> exact p_39) : p := h
theorem p_173 {p : Prop} (h : p := by refine ⟨_, _, rfl, rfl, (.cons rfl .nil), rfl, _, (.r rfl (.r ?_ (.r ?_ (.nn ?_ .nil))))⟩ <;> exact p_69) : p := h
theorem p_174 {p : Prop} (h : p := by refine ⟨_, _, rfl, rfl, (.cons rfl .nil), rfl, _, (.r rfl (.r ?_ (.r ?_ (.nn ?_ .nil))))⟩ <;> exact p_66) : p := h
theorem p_175 {p : Prop} (h : p := by refine ⟨_, _, rfl, rfl, (.cons rfl .nil), rfl, _, (.r rfl (.r ?_ (.r ?_ (.o ?_ .nil))))⟩ <;> exact p_69) : p := h
theorem p_176 {p : Prop} (h : p := by refine ⟨_, _, rfl, rfl, (.cons rfl .nil), rfl, _, (.r rfl (.r ?_ (.r ?_ (.o ?_ .nil))))⟩ <;> exact p_66) : p := h
theorem p_177 {p : Prop} (h : p := by refine ⟨_, (.cons rfl .nil), rfl, _, (.r ?_ .nil)⟩ <;> exact p_65) : p := h
theorem p_178 {p : Prop} (h : p := by refine ⟨_, (.cons rfl .nil), rfl, _, (.r ?_ .nil)⟩ <;> (exact congrArg D.bool (str_eq h0_ h1_))) : p := h
abbrev c_66 (b : List Int) (q : SRS) : List PC := [cS b, cI q.f0, cI q.f1]
abbrev c_46 : List PC := [cI 0, cI 0, .nil, .nil, .nil]
abbrev c_50 : List PC := [cI 0, cI 0, cI 0, .nil, .nil]
abbrev c_58 : List PC := [cI 0, cI 0, .nil, cI 0, .nil]
abbrev c_65 (b : List Int) (s : SRS) : List PC := [cI (aa b s).2, .row 100501 []]
abbrev c_40 : List PC := [.nil, cI 0, cI 0, .nil, .nil, .nil]
abbrev c_2 (l : SLimits) : List PC := [cI l.f0, cI l.f1, cI l.f2, cI l.f3, cI l.f4]
abbrev c_71 : List PC := [.row 500039 [], cI 0, cI 0, .nil, .nil, .nil]
abbrev c_62 (a : Int) (b : List Int) (l : SLimits) : List PC := [cI (rdTc l b (⟨a, 0⟩ : SRS)).2.f0, .row 5025 []]
abbrev c_69 (b : List Int) (q : SRS) : List PC := [cS b, cI (ae q true 7).f0, cI (ae q true 7).f1]
abbrev c_45 : List PC := [cI 0, cI 0, cI 0, .nil, .nil, cI 0, cI 0, .nil, .nil, .nil]
abbrev c_68 (b : List Int) (l : SLimits) (q : SRS) : List PC := [cS b, cI (rdText b q l.f1).1.f0, cI (rdText b q l.f1).1.f1]
abbrev c_21 : List PC := [cI 0, cI 0, cI 0, .nil, .nil, cI 0, cI 0, .nil, .nil, .nil, .nil]
abbrev c_63 (b : List Int) (l : SLimits) (s : SRS) : List PC := [cI (ai b (af b (aa b (aa b s).1).1 32).1.f0 l.f0).2.1]
abbrev c_64 (b : List Int) (l : SLimits) (s : SRS) : List PC := [cI (ai b (af b (aa b (aa b s).1).1 32).1.f0 l.f0).2.2]
abbrev c_70 (b : List Int) (s : SRS) : List PC := [cI (aa b s).2, cI (aa b (aa b s).1).2, .row 4017 [], .nil, .nil]
abbrev c_67 (b : List Int) (s : SRS) : List PC := [cI (aa b s).2, cI (aa b (aa b s).1).2, .row 4011 [], .row 1032 [], .nil]
abbrev c_12 (b : List Int) (l : SLimits) (q : SRS) : List PC := [.row 100500 [], cI (rdQc l b q).2.f0, cI (rdQc l b q).2.f1, .row 6043 [], .row 7043 [], .row 8043 []]
abbrev c_61 (b : List Int) (s : SRS) : List PC := [cS b, cI (af b (aa b (aa b s).1).1 32).1.f0, cI (af b (aa b (aa b s).1).1 32).1.f1]
abbrev c_43 (a : Int) (b : List Int) (l : SLimits) : List PC := [cI (rdQc l b (⟨a, 0⟩ : SRS)).2.f0, cI (rdQc l b (⟨a, 0⟩ : SRS)).2.f1, .row 6025 [], .row 7025 [], .row 8025 []]
abbrev c_36 (a : Int) (b : List Int) (l : SLimits) : List PC := [.row 4025 [], cI (ay l b (⟨a, 0⟩ : SRS)).2.f1.f0, cI (ay l b (⟨a, 0⟩ : SRS)).2.f1.f1, .row 7025 [], .row 8025 [], .row 9025 []]
abbrev c_34 (a : Int) (b : List Int) (l : SLimits) : List PC := [cI (rdVote l b (⟨a, 0⟩ : SRS)).2.f0, cI (rdVote l b (⟨a, 0⟩ : SRS)).2.f1, .row 6025 [], cI (rdVote l b (⟨a, 0⟩ : SRS)).2.f3, .row 8025 []]
abbrev c_35 (a : Int) (b : List Int) (l : SLimits) : List PC := [cI (rdIncl l b (⟨a, 0⟩ : SRS)).2.f0, cI (rdIncl l b (⟨a, 0⟩ : SRS)).2.f1, cI (rdIncl l b (⟨a, 0⟩ : SRS)).2.f2, .row 7025 [], .row 8025 []]
abbrev c_27 (b : List Int) (l : SLimits) (q : SRS) (s : SRS) (ts : List (List Int)) : List PC := [cS b, cI (ae q (decide ((ag l b s).2.f4 = (aq ts))) 7).f0, cI (ae q (decide ((ag l b s).2.f4 = (aq ts))) 7).f1]
abbrev c_57 (b : List Int) (l : SLimits) (s : SRS) : List PC := [cI (aa b s).2, cI (aa b (aa b s).1).2, .row 4010 [], cI (am b (af b (aa b (aa b s).1).1 32).1 l.f0 5).2, .row 4016 []]
abbrev c_54 (b : List Int) (l : SLimits) (s : SRS) : List PC := [cS b, cI (ai b (af b (aa b (aa b s).1).1 32).1.f0 l.f0).2.1, cI (ai b (af b (aa b (aa b s).1).1 32).1.f0 l.f0).2.2]
abbrev c_52 (b : List Int) (l : SLimits) (la : Int) (q : SRS) : List PC := [cI (aa b q).2, cI (aa b (ae (ae (aa b q).1 (decide ((aa b q).2 < l.f0)) 5) (decide (la < (aa b q).2)) 6)).2, .row 4062 []]
abbrev c_51 (b : List Int) (l : SLimits) (la : Int) (q : SRS) (s : SRS) : List PC := [cI (am b q l.f0 5).2, cI (am b (ae (am b q l.f0 5).1 (decide (la < (am b q l.f0 5).2)) 6) (aa b s).2 6).2, .row 4049 []]
abbrev c_31 (a : Int) (b : List Int) (l : SLimits) : List PC := [cI (aa b (rs0 l a)).2, cI (aa b (aa b (rs0 l a)).1).2, .row 4022 [], cI (aa b (af b (aa b (aa b (rs0 l a)).1).1 32).1).2, .row 4035 []]
abbrev c_60 (b : List Int) (i : Nat) (s : SRS) : List PC := [cS b, cI (af b (av b (af b (aa b (aa b s).1).1 32).1 i).1 32).1.f0, cI (af b (av b (af b (aa b (aa b s).1).1 32).1 i).1 32).1.f1]
abbrev c_59 (b : List Int) (l : SLimits) (s : SRS) : List PC := [cS b, cI (af b (am b (af b (aa b (aa b s).1).1 32).1 l.f0 5).1 32).1.f0, cI (af b (am b (af b (aa b (aa b s).1).1 32).1 l.f0 5).1 32).1.f1]
abbrev c_38 (b : List Int) (l : SLimits) (q : SRS) : List PC := [cI (ag l b q).2.f0, cI (ag l b q).2.f1, cI (ag l b q).2.f2, .row 7037 [], .row 8037 [], cI (ag l b q).2.f5.f0, cI (ag l b q).2.f5.f1, .row 11037 [], .row 12037 [], .row 13037 []]
abbrev c_37 (b : List Int) (l : SLimits) (s : SRS) : List PC := [cI (ag l b s).2.f0, cI (ag l b s).2.f1, cI (ag l b s).2.f2, .row 7010 [], .row 8010 [], cI (ag l b s).2.f5.f0, cI (ag l b s).2.f5.f1, .row 11010 [], .row 12010 [], .row 13010 [], .nil]
abbrev c_6 (b : List Int) (l : SLimits) (s : SRS) : List PC := [cI (ag l b s).2.f0, cI (ag l b s).2.f1, cI (ag l b s).2.f2, .row 7010 [], .row 8010 [], cI (ag l b s).2.f5.f0, cI (ag l b s).2.f5.f1, .row 11010 [], .row 12010 [], .row 13010 [], .row 100510 []]
abbrev c_55 (b : List Int) (l : SLimits) (s : SRS) : List PC := [cI (ag l b s).2.f0, cI (ag l b s).2.f1, cI (ag l b s).2.f2, .row 7010 [], .row 8010 [], cI (ag l b s).2.f5.f0, cI (ag l b s).2.f5.f1, .row 11010 [], .row 12010 [], .row 13010 [], .row 500039 []]
abbrev c_56 (b : List Int) (l : SLimits) (s : SRS) : List PC := [cI (ag l b s).2.f0, cI (ag l b s).2.f1, cI (ag l b s).2.f2, .row 7010 [], .row 8010 [], cI (ag l b s).2.f5.f0, cI (ag l b s).2.f5.f1, .row 11010 [], .row 12010 [], .row 13010 [], .row 500036 []]
abbrev c_53 (b : List Int) (l : SLimits) (s : SRS) : List PC := [cI (aa b s).2, cI (aa b (aa b s).1).2, cI (aa b (ae (ae (aa b (aa b s).1).1 (decide (0 < (aa b (aa b s).1).2)) 5) (decide ((aa b (aa b s).1).2 ≤ l.f2)) 3)).2, .row 4038 [], .nil]
abbrev c_42 (b : List Int) (l : SLimits) (s : SRS) : List PC := [cI (aa b s).2, cI (aa b (aa b s).1).2, cI (aa b (ae (ae (aa b (aa b s).1).1 (decide (0 < (aa b (aa b s).1).2)) 5) (decide ((aa b (aa b s).1).2 ≤ l.f2)) 3)).2, .row 4038 [], .row 100504 []]
abbrev c_49 (b : List Int) (l : SLimits) (s : SRS) : List PC := [cI (aa b s).2, cI (aa b (aa b s).1).2, cI (aa b (ae (ae (aa b (aa b s).1).1 (decide (0 < (aa b (aa b s).1).2)) 5) (decide ((aa b (aa b s).1).2 ≤ l.f2)) 3)).2, .row 4038 [], .row 500061 []]
abbrev c_39 (b : List Int) (l : SLimits) (s : SRS) : List PC := [cI (aa b s).2, cI (aa b (aa b s).1).2, cI (am b (ae (ae (aa b (aa b s).1).1 (decide (0 < (aa b (aa b s).1).2)) 5) (decide ((aa b (aa b s).1).2 ≤ l.f2)) 3) (aa b (aa b s).1).2 5).2, .row 4031 [], .nil]
abbrev c_47 (b : List Int) (l : SLimits) (s : SRS) : List PC := [cI (aa b s).2, cI (aa b (aa b s).1).2, cI (am b (ae (ae (aa b (aa b s).1).1 (decide (0 < (aa b (aa b s).1).2)) 5) (decide ((aa b (aa b s).1).2 ≤ l.f2)) 3) (aa b (aa b s).1).2 5).2, .row 4031 [], .row 100504 []]
abbrev c_48 (b : List Int) (l : SLimits) (s : SRS) : List PC := [cI (aa b s).2, cI (aa b (aa b s).1).2, cI (am b (ae (ae (aa b (aa b s).1).1 (decide (0 < (aa b (aa b s).1).2)) 5) (decide ((aa b (aa b s).1).2 ≤ l.f2)) 3) (aa b (aa b s).1).2 5).2, .row 4031 [], .row 500050 []]
abbrev c_15 (a : Int) (b : List Int) (l : SLimits) : List PC := [cI (ag l b (⟨a, 0⟩ : SRS)).2.f0, cI (ag l b (⟨a, 0⟩ : SRS)).2.f1, cI (ag l b (⟨a, 0⟩ : SRS)).2.f2, .row 7025 [], .row 8025 [], cI (ag l b (⟨a, 0⟩ : SRS)).2.f5.f0, cI (ag l b (⟨a, 0⟩ : SRS)).2.f5.f1, .row 11025 [], .row 12025 [], .row 13025 []]
abbrev c_0 : List PC := [cI 0, cI 0, cI 0, .nil, cI 0, .nil, cI 0, cI 0, .nil, .nil, .nil, cI 0, cI 0, cI 0, .nil, .nil, cI 0, cI 0, .nil, .nil, .nil, cI 0, cI 0, cI 0, .nil, .nil, cI 0, cI 0, .nil, .nil, .nil, .nil, cI 0, .nil, .nil, cI 0, cI 0, .nil, .nil, .nil, cI 0, cI 0, cI 0, .nil, .nil]
abbrev c_33 (b : List Int) : List PC := [cI (b.getD 0 0), cI 0, cI 0, .nil, cI 0, .nil, cI 0, cI 0, .nil, .nil, .nil, cI 0, cI 0, cI 0, .nil, .nil, cI 0, cI 0, .nil, .nil, .nil, cI 0, cI 0, cI 0, .nil, .nil, cI 0, cI 0, .nil, .nil, .nil, .nil, cI 0, .nil, .nil, cI 0, cI 0, .nil, .nil, .nil, cI 0, cI 0, cI 0, .nil, .nil]
abbrev c_26 (k : Int) : List PC := [cI 1, cI k, cI 0, cI 0, cI 0, .nil, cI 0, .nil, cI 0, cI 0, .nil, .nil, .nil, cI 0, cI 0, cI 0, .nil, .nil, cI 0, cI 0, .nil, .nil, .nil, cI 0, cI 0, cI 0, .nil, .nil, cI 0, cI 0, .nil, .nil, .nil, .nil, cI 0, .nil, .nil, cI 0, cI 0, .nil, .nil, .nil, cI 0, cI 0, cI 0, .nil, .nil]
abbrev c_13 (a : Int) (b : List Int) (l : SLimits) : List PC := [cI (ar l b (⟨a, 0⟩ : SRS)).2.f0.f0, cI (ar l b (⟨a, 0⟩ : SRS)).2.f0.f1, cI (ar l b (⟨a, 0⟩ : SRS)).2.f0.f2, .row 7025 [], .row 8025 [], cI (ar l b (⟨a, 0⟩ : SRS)).2.f0.f5.f0, cI (ar l b (⟨a, 0⟩ : SRS)).2.f0.f5.f1, .row 11025 [], .row 12025 [], .row 13025 [], .row 14025 []]
abbrev c_24 (b : List Int) (l : SLimits) : List PC := [cI (b.getD 0 0), cI 0, cI 0, .nil, cI 0, .nil, cI 0, cI 0, .nil, .nil, .nil, cI 0, cI 0, cI 0, .nil, .nil, cI 0, cI 0, .nil, .nil, .nil, cI 0, cI 0, cI 0, .nil, .nil, cI 0, cI 0, .nil, .nil, .nil, .nil, cI (getTc l b 1).1.f0, .row 2087 [], .nil, cI 0, cI 0, .nil, .nil, .nil, cI 0, cI 0, cI 0, .nil, .nil]
abbrev c_9 (a : Int) (l : SLimits) (s : List Int) : List PC := [cI 2, cI (ac l (ab l s a)).2, cI 0, cI 0, cI 0, .nil, cI 0, .nil, cI 0, cI 0, .nil, .nil, .nil, cI 0, cI 0, cI 0, .nil, .nil, cI 0, cI 0, .nil, .nil, .nil, cI 0, cI 0, cI 0, .nil, .nil, cI 0, cI 0, .nil, .nil, .nil, .nil, cI 0, .nil, .nil, cI 0, cI 0, .nil, .nil, .nil, cI 0, cI 0, cI 0, .nil, .nil]
abbrev c_32 (b : List Int) (l : SLimits) : List PC := [cI (b.getD 0 0), cI 0, cI 0, .nil, cI 0, .nil, cI 0, cI 0, .nil, .nil, .nil, cI 0, cI 0, cI 0, .nil, .nil, cI 0, cI 0, .nil, .nil, .nil, cI 0, cI 0, cI 0, .nil, .nil, cI 0, cI 0, .nil, .nil, .nil, .nil, cI (rdTc l b (rs0 l 1)).2.f0, .row 5073 [], .nil, cI 0, cI 0, .nil, .nil, .nil, cI 0, cI 0, cI 0, .nil, .nil]
abbrev c_44 (b : List Int) (i : Nat) (l : SLimits) (s : SRS) : List PC := [cS b, cI (av b (⟨(ai b (af b (aa b (aa b s).1).1 32).1.f0 l.f0).2.1, (ai b (af b (aa b (aa b s).1).1 32).1.f0 l.f0).2.2⟩ : SRS) i).1.f0, cI (av b (⟨(ai b (af b (aa b (aa b s).1).1 32).1.f0 l.f0).2.1, (ai b (af b (aa b (aa b s).1).1 32).1.f0 l.f0).2.2⟩ : SRS) i).1.f1]
abbrev c_23 (b : List Int) (l : SLimits) : List PC := [cI (b.getD 0 0), cI 0, cI 0, .nil, cI 0, .nil, cI (getQc l b 1).1.f0, cI (getQc l b 1).1.f1, .row 3057 [], .row 4057 [], .row 5057 [], cI 0, cI 0, cI 0, .nil, .nil, cI 0, cI 0, .nil, .nil, .nil, cI 0, cI 0, cI 0, .nil, .nil, cI 0, cI 0, .nil, .nil, .nil, .nil, cI 0, .nil, .nil, cI 0, cI 0, .nil, .nil, .nil, cI 0, cI 0, cI 0, .nil, .nil]
abbrev c_41 (a : Int) (b : List Int) (l : SLimits) : List PC := [cS b, cI (af b (ae (aa b (af b (aa b (aa b (rs0 l a)).1).1 32).1).1 (decide ((aa b (af b (aa b (aa b (rs0 l a)).1).1 32).1).2 < l.f0)) 5) 32).1.f0, cI (af b (ae (aa b (af b (aa b (aa b (rs0 l a)).1).1 32).1).1 (decide ((aa b (af b (aa b (aa b (rs0 l a)).1).1 32).1).2 < l.f0)) 5) 32).1.f1]
abbrev c_30 (b : List Int) (l : SLimits) : List PC := [cI (b.getD 0 0), cI 0, cI 0, .nil, cI 0, .nil, cI (rdQc l b (rs0 l 1)).2.f0, cI (rdQc l b (rs0 l 1)).2.f1, .row 6055 [], .row 7055 [], .row 8055 [], cI 0, cI 0, cI 0, .nil, .nil, cI 0, cI 0, .nil, .nil, .nil, cI 0, cI 0, cI 0, .nil, .nil, cI 0, cI 0, .nil, .nil, .nil, .nil, cI 0, .nil, .nil, cI 0, cI 0, .nil, .nil, .nil, cI 0, cI 0, cI 0, .nil, .nil]
abbrev c_19 (b : List Int) (l : SLimits) : List PC := [cI (b.getD 0 0), cI (aw l b 1).1.f0, cI (aw l b 1).1.f1, .row 3047 [], cI (aw l b 1).1.f3, .row 5047 [], cI 0, cI 0, .nil, .nil, .nil, cI 0, cI 0, cI 0, .nil, .nil, cI 0, cI 0, .nil, .nil, .nil, cI 0, cI 0, cI 0, .nil, .nil, cI 0, cI 0, .nil, .nil, .nil, .nil, cI 0, .nil, .nil, cI 0, cI 0, .nil, .nil, .nil, cI 0, cI 0, cI 0, .nil, .nil]
abbrev c_20 (b : List Int) (l : SLimits) : List PC := [cI (b.getD 0 0), cI 0, cI 0, .nil, cI 0, .nil, cI 0, cI 0, .nil, .nil, .nil, cI 0, cI 0, cI 0, .nil, .nil, cI 0, cI 0, .nil, .nil, .nil, cI 0, cI 0, cI 0, .nil, .nil, cI 0, cI 0, .nil, .nil, .nil, .nil, cI 0, .nil, .nil, cI 0, cI 0, .nil, .nil, .nil, cI (getIncl l b 1).1.f0, cI (getIncl l b 1).1.f1, cI (getIncl l b 1).1.f2, .row 4037 [], .row 5037 []]
abbrev c_29 (b : List Int) (l : SLimits) : List PC := [cI (b.getD 0 0), cI (aw l b 1).1.f0, cI (aw l b 1).1.f1, .row 3037 [], cI (aw l b 1).1.f3, .row 5037 [], cI 0, cI 0, .nil, .nil, .nil, cI 0, cI 0, cI 0, .nil, .nil, cI 0, cI 0, .nil, .nil, .nil, cI 0, cI 0, cI 0, .nil, .nil, cI 0, cI 0, .nil, .nil, .nil, .nil, cI 0, .nil, .nil, cI 0, cI 0, .nil, .nil, .nil, cI 0, cI 0, cI 0, .nil, .nil]
abbrev c_18 (b : List Int) (l : SLimits) : List PC := [cI (b.getD 0 0), cI 0, cI 0, .nil, cI 0, .nil, cI 0, cI 0, .nil, .nil, .nil, cI 0, cI 0, cI 0, .nil, .nil, cI 0, cI 0, .nil, .nil, .nil, cI 0, cI 0, cI 0, .nil, .nil, cI 0, cI 0, .nil, .nil, .nil, .nil, cI 0, .nil, .row 1097 [], cI (getProof l b 1).1.f1.f0, cI (getProof l b 1).1.f1.f1, .row 4097 [], .row 5097 [], .row 6097 [], cI 0, cI 0, cI 0, .nil, .nil]
abbrev c_17 (b : List Int) (i : Nat) (l : SLimits) (s : SRS) : List PC := [cS b, cI (af b (av b (⟨(ai b (af b (aa b (aa b s).1).1 32).1.f0 l.f0).2.1, (ai b (af b (aa b (aa b s).1).1 32).1.f0 l.f0).2.2⟩ : SRS) i).1 32).1.f0, cI (af b (av b (⟨(ai b (af b (aa b (aa b s).1).1 32).1.f0 l.f0).2.1, (ai b (af b (aa b (aa b s).1).1 32).1.f0 l.f0).2.2⟩ : SRS) i).1 32).1.f1]
abbrev c_28 (b : List Int) (l : SLimits) : List PC := [cI (b.getD 0 0), cI 0, cI 0, .nil, cI 0, .nil, cI 0, cI 0, .nil, .nil, .nil, cI 0, cI 0, cI 0, .nil, .nil, cI 0, cI 0, .nil, .nil, .nil, cI 0, cI 0, cI 0, .nil, .nil, cI 0, cI 0, .nil, .nil, .nil, .nil, cI 0, .nil, .row 4079 [], cI (ay l b (rs0 l 1)).2.f1.f0, cI (ay l b (rs0 l 1)).2.f1.f1, .row 7079 [], .row 8079 [], .row 9079 [], cI 0, cI 0, cI 0, .nil, .nil]
abbrev c_25 (b : List Int) (l : SLimits) : List PC := [cI (b.getD 0 0), cI 0, cI 0, .nil, cI 0, .nil, cI 0, cI 0, .nil, .nil, .nil, cI 0, cI 0, cI 0, .nil, .nil, cI 0, cI 0, .nil, .nil, .nil, cI 0, cI 0, cI 0, .nil, .nil, cI 0, cI 0, .nil, .nil, .nil, .nil, cI 0, .nil, .nil, cI 0, cI 0, .nil, .nil, .nil, cI (rdInclS l b (rs0 l 1)).2.f0, cI (rdInclS l b (rs0 l 1)).2.f1, cI (rdInclS l b (rs0 l 1)).2.f2, .row 7085 [], .row 8085 []]
abbrev c_14 (b : List Int) (l : SLimits) : List PC := [cI (b.getD 0 0), cI 0, cI 0, .nil, cI 0, .nil, cI 0, cI 0, .nil, .nil, .nil, cI (bc l b 1).1.f0, cI (bc l b 1).1.f1, cI (bc l b 1).1.f2, .row 4067 [], .row 5067 [], cI (bc l b 1).1.f5.f0, cI (bc l b 1).1.f5.f1, .row 8067 [], .row 9067 [], .row 10067 [], cI 0, cI 0, cI 0, .nil, .nil, cI 0, cI 0, .nil, .nil, .nil, .nil, cI 0, .nil, .nil, cI 0, cI 0, .nil, .nil, .nil, cI 0, cI 0, cI 0, .nil, .nil]
abbrev c_8 (b : List Int) (l : SLimits) : List PC := [cI (b.getD 0 0), cI 0, cI 0, .nil, cI 0, .nil, cI 0, cI 0, .nil, .nil, .nil, cI 0, cI 0, cI 0, .nil, .nil, cI 0, cI 0, .nil, .nil, .nil, cI (ax l b 1).1.f0.f0, cI (ax l b 1).1.f0.f1, cI (ax l b 1).1.f0.f2, .row 4077 [], .row 5077 [], cI (ax l b 1).1.f0.f5.f0, cI (ax l b 1).1.f0.f5.f1, .row 8077 [], .row 9077 [], .row 10077 [], .row 11077 [], cI 0, .nil, .nil, cI 0, cI 0, .nil, .nil, .nil, cI 0, cI 0, cI 0, .nil, .nil]
abbrev c_22 (b : List Int) (l : SLimits) : List PC := [cI (b.getD 0 0), cI 0, cI 0, .nil, cI 0, .nil, cI 0, cI 0, .nil, .nil, .nil, cI (ag l b (rs0 l 1)).2.f0, cI (ag l b (rs0 l 1)).2.f1, cI (ag l b (rs0 l 1)).2.f2, .row 7061 [], .row 8061 [], cI (ag l b (rs0 l 1)).2.f5.f0, cI (ag l b (rs0 l 1)).2.f5.f1, .row 11061 [], .row 12061 [], .row 13061 [], cI 0, cI 0, cI 0, .nil, .nil, cI 0, cI 0, .nil, .nil, .nil, .nil, cI 0, .nil, .nil, cI 0, cI 0, .nil, .nil, .nil, cI 0, cI 0, cI 0, .nil, .nil]
abbrev c_16 (b : List Int) (l : SLimits) : List PC := [cI (b.getD 0 0), cI 0, cI 0, .nil, cI 0, .nil, cI 0, cI 0, .nil, .nil, .nil, cI 0, cI 0, cI 0, .nil, .nil, cI 0, cI 0, .nil, .nil, .nil, cI (ar l b (rs0 l 1)).2.f0.f0, cI (ar l b (rs0 l 1)).2.f0.f1, cI (ar l b (rs0 l 1)).2.f0.f2, .row 7067 [], .row 8067 [], cI (ar l b (rs0 l 1)).2.f0.f5.f0, cI (ar l b (rs0 l 1)).2.f0.f5.f1, .row 11067 [], .row 12067 [], .row 13067 [], .row 14067 [], cI 0, .nil, .nil, cI 0, cI 0, .nil, .nil, .nil, cI 0, cI 0, cI 0, .nil, .nil]
abbrev c_11 (b : List Int) (l : SLimits) (s : SRS) : List PC := [cI (aa b s).2, cI (aa b (aa b s).1).2, cI (am b (ae (aa b (aa b s).1).1 (decide ((aa b (aa b s).1).2 ≠ 0)) 5) l.f0 5).2, .row 4022 [], .row 4024 [], cI (rdQc l b (af b (af b (am b (ae (aa b (aa b s).1).1 (decide ((aa b (aa b s).1).2 ≠ 0)) 5) l.f0 5).1 32).1 32).1).2.f0, cI (rdQc l b (af b (af b (am b (ae (aa b (aa b s).1).1 (decide ((aa b (aa b s).1).2 ≠ 0)) 5) l.f0 5).1 32).1 32).1).2.f1, .row 6029 [], .row 7029 [], .row 8029 []]
abbrev c_10 (p : SProof) : List PC := [cI (p.f0.getD ((p.f0.length : Int) - 1).toNat default).f0, cI (p.f0.getD ((p.f0.length : Int) - 1).toNat default).f1, cI (p.f0.getD ((p.f0.length : Int) - 1).toNat default).f2, cS (p.f0.getD ((p.f0.length : Int) - 1).toNat default).f3, cS (p.f0.getD ((p.f0.length : Int) - 1).toNat default).f4, cI (p.f0.getD ((p.f0.length : Int) - 1).toNat default).f5.f0, cI (p.f0.getD ((p.f0.length : Int) - 1).toNat default).f5.f1, cS (p.f0.getD ((p.f0.length : Int) - 1).toNat default).f5.f2, cS (p.f0.getD ((p.f0.length : Int) - 1).toNat default).f5.f3, .d (.bss (p.f0.getD ((p.f0.length : Int) - 1).toNat default).f5.f4)]
abbrev c_7 (b : List Int) (l : SLimits) (s : SRS) : List PC := [cI (aa b s).2, cI (aa b (aa b s).1).2, cI (aa b (ae (aa b (aa b s).1).1 (decide ((aa b (aa b s).1).2 ≠ 0)) 5)).2, .row 4028 [], .row 4031 [], cI (rdQc l b (af b (af b (ae (aa b (ae (aa b (aa b s).1).1 (decide ((aa b (aa b s).1).2 ≠ 0)) 5)).1 (decide ((aa b (ae (aa b (aa b s).1).1 (decide ((aa b (aa b s).1).2 ≠ 0)) 5)).2 < l.f0)) 5) 32).1 32).1).2.f0, cI (rdQc l b (af b (af b (ae (aa b (ae (aa b (aa b s).1).1 (decide ((aa b (aa b s).1).2 ≠ 0)) 5)).1 (decide ((aa b (ae (aa b (aa b s).1).1 (decide ((aa b (aa b s).1).2 ≠ 0)) 5)).2 < l.f0)) 5) 32).1 32).1).2.f1, .row 6035 [], .row 7035 [], .row 8035 []]
abbrev c_1 (a : Int) (l : SLimits) (s : List Int) : List PC := [cI (ac l (ab l s a)).1.f0, cI (ac l (ab l s a)).1.f1.f0, cI (ac l (ab l s a)).1.f1.f1, .row 4057 [], cI (ac l (ab l s a)).1.f1.f3, .row 6057 [], cI (ac l (ab l s a)).1.f2.f0, cI (ac l (ab l s a)).1.f2.f1, .row 9057 [], .row 10057 [], .row 11057 [], cI (ac l (ab l s a)).1.f3.f0, cI (ac l (ab l s a)).1.f3.f1, cI (ac l (ab l s a)).1.f3.f2, .row 15057 [], .row 16057 [], cI (ac l (ab l s a)).1.f3.f5.f0, cI (ac l (ab l s a)).1.f3.f5.f1, .row 19057 [], .row 20057 [], .row 21057 [], cI (ac l (ab l s a)).1.f4.f0.f0, cI (ac l (ab l s a)).1.f4.f0.f1, cI (ac l (ab l s a)).1.f4.f0.f2, .row 25057 [], .row 26057 [], cI (ac l (ab l s a)).1.f4.f0.f5.f0, cI (ac l (ab l s a)).1.f4.f0.f5.f1, .row 29057 [], .row 30057 [], .row 31057 [], .row 32057 [], cI (ac l (ab l s a)).1.f5.f0, .row 34057 [], .row 35057 [], cI (ac l (ab l s a)).1.f6.f1.f0, cI (ac l (ab l s a)).1.f6.f1.f1, .row 38057 [], .row 39057 [], .row 40057 [], cI (ac l (ab l s a)).1.f7.f0, cI (ac l (ab l s a)).1.f7.f1, cI (ac l (ab l s a)).1.f7.f2, .row 44057 [], .row 45057 []]
abbrev c_5 (a : Int) (l : SLimits) (s : List Int) : List PC := [cI (ac l (ab l s a)).1.f0, cI (ac l (ab l s a)).1.f1.f0, cI (ac l (ab l s a)).1.f1.f1, .row 4063 [], cI (ac l (ab l s a)).1.f1.f3, .row 6063 [], cI (ac l (ab l s a)).1.f2.f0, cI (ac l (ab l s a)).1.f2.f1, .row 9063 [], .row 10063 [], .row 11063 [], cI (ac l (ab l s a)).1.f3.f0, cI (ac l (ab l s a)).1.f3.f1, cI (ac l (ab l s a)).1.f3.f2, .row 15063 [], .row 16063 [], cI (ac l (ab l s a)).1.f3.f5.f0, cI (ac l (ab l s a)).1.f3.f5.f1, .row 19063 [], .row 20063 [], .row 21063 [], cI (ac l (ab l s a)).1.f4.f0.f0, cI (ac l (ab l s a)).1.f4.f0.f1, cI (ac l (ab l s a)).1.f4.f0.f2, .row 25063 [], .row 26063 [], cI (ac l (ab l s a)).1.f4.f0.f5.f0, cI (ac l (ab l s a)).1.f4.f0.f5.f1, .row 29063 [], .row 30063 [], .row 31063 [], .row 32063 [], cI (ac l (ab l s a)).1.f5.f0, .row 34063 [], .row 35063 [], cI (ac l (ab l s a)).1.f6.f1.f0, cI (ac l (ab l s a)).1.f6.f1.f1, .row 38063 [], .row 39063 [], .row 40063 [], cI (ac l (ab l s a)).1.f7.f0, cI (ac l (ab l s a)).1.f7.f1, cI (ac l (ab l s a)).1.f7.f2, .row 44063 [], .row 45063 []]
abbrev c_3 (a : Int) (l : SLimits) (s : List Int) : List PC := [cI 3, cI 0, cI (ac l (ab l s a)).1.f0, cI (ac l (ab l s a)).1.f1.f0, cI (ac l (ab l s a)).1.f1.f1, .row 4057 [], cI (ac l (ab l s a)).1.f1.f3, .row 6057 [], cI (ac l (ab l s a)).1.f2.f0, cI (ac l (ab l s a)).1.f2.f1, .row 9057 [], .row 10057 [], .row 11057 [], cI (ac l (ab l s a)).1.f3.f0, cI (ac l (ab l s a)).1.f3.f1, cI (ac l (ab l s a)).1.f3.f2, .row 15057 [], .row 16057 [], cI (ac l (ab l s a)).1.f3.f5.f0, cI (ac l (ab l s a)).1.f3.f5.f1, .row 19057 [], .row 20057 [], .row 21057 [], cI (ac l (ab l s a)).1.f4.f0.f0, cI (ac l (ab l s a)).1.f4.f0.f1, cI (ac l (ab l s a)).1.f4.f0.f2, .row 25057 [], .row 26057 [], cI (ac l (ab l s a)).1.f4.f0.f5.f0, cI (ac l (ab l s a)).1.f4.f0.f5.f1, .row 29057 [], .row 30057 [], .row 31057 [], .row 32057 [], cI (ac l (ab l s a)).1.f5.f0, .row 34057 [], .row 35057 [], cI (ac l (ab l s a)).1.f6.f1.f0, cI (ac l (ab l s a)).1.f6.f1.f1, .row 38057 [], .row 39057 [], .row 40057 [], cI (ac l (ab l s a)).1.f7.f0, cI (ac l (ab l s a)).1.f7.f1, cI (ac l (ab l s a)).1.f7.f2, .row 44057 [], .row 45057 []]
abbrev c_4 (a : Int) (l : SLimits) (s : List Int) : List PC := [cI 3, cI 0, cI (ac l (ab l s a)).1.f0, cI (ac l (ab l s a)).1.f1.f0, cI (ac l (ab l s a)).1.f1.f1, .row 4063 [], cI (ac l (ab l s a)).1.f1.f3, .row 6063 [], cI (ac l (ab l s a)).1.f2.f0, cI (ac l (ab l s a)).1.f2.f1, .row 9063 [], .row 10063 [], .row 11063 [], cI (ac l (ab l s a)).1.f3.f0, cI (ac l (ab l s a)).1.f3.f1, cI (ac l (ab l s a)).1.f3.f2, .row 15063 [], .row 16063 [], cI (ac l (ab l s a)).1.f3.f5.f0, cI (ac l (ab l s a)).1.f3.f5.f1, .row 19063 [], .row 20063 [], .row 21063 [], cI (ac l (ab l s a)).1.f4.f0.f0, cI (ac l (ab l s a)).1.f4.f0.f1, cI (ac l (ab l s a)).1.f4.f0.f2, .row 25063 [], .row 26063 [], cI (ac l (ab l s a)).1.f4.f0.f5.f0, cI (ac l (ab l s a)).1.f4.f0.f5.f1, .row 29063 [], .row 30063 [], .row 31063 [], .row 32063 [], cI (ac l (ab l s a)).1.f5.f0, .row 34063 [], .row 35063 [], cI (ac l (ab l s a)).1.f6.f1.f0, cI (ac l (ab l s a)).1.f6.f1.f1, .row 38063 [], .row 39063 [], .row 40063 [], cI (ac l (ab l s a)).1.f7.f0, cI (ac l (ab l s a)).1.f7.f1, cI (ac l (ab l s a)).1.f7.f2, .row 44063 [], .row 45063 []]
theorem ok_laws_toLimits (a : SLimits) : RO Tryz.prog 6 [.agg a.cells] [(true, [.rd (.int .i64 a.f0), .rd (.int .i64 a.f1), .rd (.int .i64 a.f2), .rd (.int .i64 a.f3), .rd (.int .i64 a.f4)])] := by
 refine RO.intro Tryz.func6 rfl 20 rfl (le_ok rfl) fun w Z => ?_
 refine T.sr [(1, (.one (.ptr 1 0))), (2, (.one (.ptr 2 0)))] [(1, (23, [cI a.f0, cI a.f1, cI a.f2, cI a.f3, cI a.f4])), (2, (46, [cI 0, cI 0, cI 0, cI 0, cI 0]))] ?_
 refine T.sr [(3, (.one (.ptr 3 0)))] [(3, (46, [cI 0, cI 0, cI 0, cI 0, cI 0]))] ?_
 refine T.sr [] [(3, (46, [cI a.f0, cI 0, cI 0, cI 0, cI 0]))] ?_
 refine T.sr [] [(3, (46, [cI a.f0, cI a.f1, cI 0, cI 0, cI 0]))] ?_
 refine T.sr [] [(3, (46, [cI a.f0, cI a.f1, cI a.f2, cI 0, cI 0]))] ?_
 refine T.sr [] [(3, (46, [cI a.f0, cI a.f1, cI a.f2, cI a.f3, cI 0]))] ?_
 refine T.sr [] [(3, (46, [cI a.f0, cI a.f1, cI a.f2, cI a.f3, cI a.f4]))] ?_
 refine T.sr [] [(2, (46, [cI a.f0, cI a.f1, cI a.f2, cI a.f3, cI a.f4]))] ?_
 refine T.ret ?_
 exact ⟨_, (.cons rfl .nil), rfl, _, (.r rfl (.r rfl (.r rfl (.r rfl (.r rfl .nil)))))⟩
theorem ok_laws_toByteS (a : List Int) (h0_ : a.length ≤ 1048576) : RO Tryz.prog 7 [.one (.ints .u8 a)] [(false, [.own 5 (.ints .u8 a)])] := by
 refine RO.intro Tryz.func7 rfl 22 rfl (le_ok rfl) fun w Z => ?_
 refine T.bnd 0 0 rfl rfl fun hb_0_0 => ?_
 simp only [D.size, List.length_map] at hb_0_0
 have h0b := h0_
 refine T.sr [(2, (.one (.nil)))] [] ?_
 refine T.sg ?_
 refine TL.rx 1 [(5, (pS a))] [] ?_
 refine TL.c (Step.ln 5 1 (.ints .u8 a)) ?_
 refine TL.c (Step.make (e := 5) (z := 1) (by_ := 1) (n := (a.length : Int)) (zs := [.int .u8 0]) (zd := [.int .u8 0]) (d := (.ints .u8 (List.replicate a.length 0))) rfl rfl (lt_ok rfl) p_7 (lt_ok rfl) rfl p_23 p_23 p_23 p_7 (.val rfl .nil) rfl p_105 (by simp [D.flat, List.flatten_replicate_singleton]) (by simp [D.size]) rfl trivial) ?_
 refine TL.rl [(3, (.one (.row 7 [])))] [] ?_
 refine T.seq ?_
 refine T.sr [(4, (pI 0))] [] ?_
 refine T.block ?_
 refine T.loop (ι := Nat) (fun xx_ => { tm := [(0, (pS a)), (2, (.one (.nil))), (3, (.one (.row 7 []))), (4, (pI (xx_ : Int)))], rows := [(7, (5, (.ints .u8 (a.take xx_ ++ List.replicate (a.length - xx_) 0 : List Int))))], boxes := [] }) (fun xx_ => xx_ ≤ a.length) (fun xx_ => a.length - xx_) 0 ?_ ?_ ?_
 · refine Env.le_mk ⟨rfl, rfl, rfl, ?_, trivial⟩ ⟨?_, trivial⟩ trivial <;> (first | rfl | exact congrArg (fun x => some (5, ((.ints .u8 x) : D))) (fill_set a 0 0 i p_4))
 · exact Nat.zero_le _
 intro i hx
 try dsimp only at hx ⊢
 refine T.seq (T.sg ?_)
 refine TL.rx 2 [(8, (pI (i : Int))), (9, (pS a))] [] ?_
 refine TL.c (Step.ln 5 1 (.ints .u8 a)) ?_
 refine TL.rl [(11, (pB (decide ((i : Int) < (a.length : Int)))))] [] ?_
 refine T.ci rfl (fun h1 => ?_) (fun h1 => ?_)
 ·refine T.skip (T.seq (T.block (T.region ?_)))
  refine TL.rx 4 [(14, (.one (.row 7 []))), (15, (pI (i : Int))), (16, (pS a)), (17, (pI (i : Int)))] [] ?_
  refine TL.c (Step.index (e := 5) (z := 1) (i := (i : Int)) rfl rfl (lt_ok rfl) p_7 rfl rfl rfl (lt_ok rfl) rfl p_23 p_47) ?_
  refine TL.c (Step.load (e := (.int .u8 (a.getD i 0))) rfl rfl (lt_ok rfl) p_7 rfl rfl) ?_
  refine TL.c (Step.index_row (e := 5) (z := 1) (i := (i : Int)) rfl rfl (lt_ok rfl) p_7 rfl rfl rfl rfl (lt_ok rfl) rfl p_23 p_99) ?_
  refine TL.c (Step.store_row (n := 1) (p := (.one (.d (.int .u8 (a.getD i 0))))) (ps := [.d (.int .u8 (a.getD i 0))]) (es := [(.int .u8 (a.getD i 0))]) (ss := []) (d1 := (.ints .u8 ((a.take i ++ List.replicate (a.length - i) 0 : List Int).set i (a.getD i 0)))) (d' := (.ints .u8 ((a.take i ++ List.replicate (a.length - i) 0 : List Int).set i (a.getD i 0)))) rfl rfl p_7 rfl rfl rfl rfl rfl rfl (.val rfl .nil) p_105 (Putd.one rfl trivial rfl (by simp only [D.at_, D.size, List.length_set, upTo_length]; first | omega | (simp; omega)) (lt_ok rfl)) rfl) ?_
  refine TL.nil (T.region ?_)
  refine TL.rx 1 [(12, (pI (i : Int)))] [] ?_
  refine TL.ad ((i : Int) + 1) ?_
  refine TL.rl [(4, (pI ((i : Int) + 1)))] [] ?_
  refine ⟨i + 1, by omega, by omega, Env.le_mk ⟨rfl, rfl, rfl, ?_, trivial⟩ ⟨?_, trivial⟩ trivial⟩ <;> (first | rfl | exact congrArg (fun x => some (5, ((.ints .u8 x) : D))) (fill_set a 0 0 i p_4))
 refine T.exit ?_
 refine T.sr [(2, (.one (.row 7 [])))] [] ?_
 refine T.ret ?_
 refine ⟨_, (.cons rfl .nil), rfl, _, (.o ?_ .nil)⟩ <;> (first | rfl | (congr 1; rw [fill_all' _ _ _ p_4]) | (rw [fill_all' _ _ _ p_4]))
theorem ok_laws_eqByteS (a : List Int) (b : List Int) : RO Tryz.prog 10 [.one (.ints .u8 a), .one (.ints .u8 b)] [(false, [.rd (.bool (decide (a = b)))])] := by
 refine RO.intro Tryz.func10 rfl 26 rfl (le_ok rfl) fun w Z => ?_
 refine T.bnd 0 0 rfl rfl fun hb_0_0 => ?_
 simp only [D.size, List.length_map] at hb_0_0
 refine T.bnd 1 0 rfl rfl fun hb_1_0 => ?_
 simp only [D.size, List.length_map] at hb_1_0
 refine T.sr [(4, (pB false))] [] ?_
 refine T.seq (T.sg ?_)
 refine TL.rx 1 [(6, (pS a))] [] ?_
 refine TL.c (Step.ln 5 1 (.ints .u8 a)) ?_
 refine TL.rx 1 [(8, (pS b))] [] ?_
 refine TL.c (Step.ln 5 1 (.ints .u8 b)) ?_
 refine TL.rl [(10, (pB (decide ((a.length : Int) ≠ (b.length : Int)))))] [] ?_
 refine T.ci rfl (fun h1 => ?_) (fun h1 => ?_)
 ·refine T.sr [(4, (pB false))] [] ?_
  refine T.ret ?_
  exact p_177
 refine T.skip (T.seq ?_)
 refine T.sr [(5, (pI 0))] [] ?_
 refine T.block ?_
 refine T.loop (ι := Nat) (fun xx_ => { tm := [(0, (pS a)), (1, (pS b)), (5, (pI (xx_ : Int)))], rows := [], boxes := [] }) (fun xx_ => xx_ ≤ a.length ∧ a.length = b.length ∧ a.take xx_ = b.take xx_) (fun xx_ => a.length - xx_) 0 ?_ ?_ ?_
 · refine Env.le_mk ⟨rfl, rfl, ?_, trivial⟩ trivial trivial <;> exact p_106
 · (refine ⟨Nat.zero_le _, by omega, by simp⟩)
 intro i hx
 try dsimp only at hx ⊢
 obtain ⟨hx1, hx2, hx3⟩ := hx
 refine T.seq (T.sg ?_)
 refine TL.rx 2 [(11, (pI (i : Int))), (12, (pS a))] [] ?_
 refine TL.c (Step.ln 5 1 (.ints .u8 a)) ?_
 refine TL.rl [(14, (pB (decide ((i : Int) < (a.length : Int)))))] [] ?_
 refine T.ci rfl (fun h2 => ?_) (fun h2 => ?_)
 ·refine T.skip (T.seq (T.block (T.seq ?_)))
  refine T.draw [⟨17, (pS a), []⟩, ⟨18, (pI (i : Int)), []⟩, ⟨19, (.one (.eptr (.ints .u8 a) i 0)), []⟩, ⟨20, (.one (.d (.int .u8 (a.getD i 0)))), []⟩, ⟨21, (pS b), []⟩, ⟨22, (pI (i : Int)), []⟩, ⟨23, (.one (.eptr (.ints .u8 b) i 0)), []⟩, ⟨24, (.one (.d (.int .u8 (b.getD i 0)))), []⟩, ⟨25, (pB (decide ((a.getD i 0) ≠ (b.getD i 0)))), []⟩] p_7 p_7 ?_ ?_
  ·refine .cons (fun E A => A.mv 0 17) ?_
   refine .cons (fun E A => A.mv 5 18) ?_
   refine .cons (fun E A => OpStep.plain rfl (Step.index (e := 5) (z := 1) (i := (i : Int)) (t := 19) rfl rfl p_24 p_7 (A.g 17 rfl) rfl rfl (lt_ok rfl) (A.g 18 rfl) p_23 p_47)) ?_
   refine .cons (fun E A => OpStep.plain rfl (Step.load (e := (.int .u8 (a.getD i 0))) (t := 20) rfl rfl p_24 p_7 (A.g 19 rfl) rfl)) ?_
   refine .cons (fun E A => A.mv 1 21) ?_
   refine .cons (fun E A => A.mv 5 22) ?_
   refine .cons (fun E A => OpStep.plain rfl (Step.index (e := 5) (z := 1) (i := (i : Int)) (t := 23) rfl rfl p_24 p_7 (A.g 21 rfl) rfl rfl (lt_ok rfl) (A.g 22 rfl) p_23 p_47)) ?_
   refine .cons (fun E A => OpStep.plain rfl (Step.load (e := (.int .u8 (b.getD i 0))) (t := 24) rfl rfl p_24 p_7 (A.g 23 rfl) rfl)) ?_
   refine .cons (fun E A => OpStep.plain rfl (Step.bd 25 (A.g 20 rfl) (A.g 24 rfl) (Bin.neq (k := .u8) (a := (a.getD i 0)) (b := (b.getD i 0))))) ?_
   exact .nil _ _
  refine TL.nil ?_
  refine T.ci rfl (fun h3 => ?_) (fun h3 => ?_)
  ·refine T.sr [(4, (pB false))] [] ?_
   refine T.ret ?_
   exact p_177
  refine T.skip (T.region ?_)
  refine TL.rx 1 [(15, (pI (i : Int)))] [] ?_
  refine TL.ad ((i : Int) + 1) ?_
  refine TL.rl [(5, (pI ((i : Int) + 1)))] [] ?_
  refine ⟨i + 1, by (refine ⟨by omega, hx2, take_step (d := 0) hx2 p_4 hx3 (by first | assumption | exact Decidable.not_not.1 (by assumption) | omega)⟩), by omega, Env.le_mk ⟨rfl, rfl, ?_, trivial⟩ trivial trivial⟩ <;> exact p_106
 refine T.exit ?_
 refine T.sr [(4, (pB true))] [] ?_
 refine T.ret ?_
 exact p_177
theorem ok_spec_l01In (n : Int) (lo : Int) (hi : Int) : RO Tryz.prog 59 [.one (.int .i64 n), .one (.int .i64 lo), .one (.int .i64 hi)] [(false, [.rd (.bool (decide (lo ≤ n ∧ n ≤ hi)))])] := by
 refine RO.intro Tryz.func59 rfl 15 rfl (le_ok rfl) fun w Z => ?_
 refine T.sr [(6, (pB false))] [] ?_
 refine T.sg ?_
 refine TL.rx 4 [(10, (pB (decide (lo ≤ n))))] [] ?_
 rcases Bool.eq_false_or_eq_true (decide (lo ≤ n)) with hb1 | hb1
 ·refine TL.known 10 hb1 rfl ?_
  refine TL.rl [(6, (pB (decide (n ≤ hi))))] [] ?_
  refine T.ret ?_
  exact p_156
 refine TL.known 10 hb1 rfl ?_
 refine TL.rl [(6, (pB false))] [] ?_
 refine T.ret ?_
 exact p_156
theorem ok_spec_l02Signers (n : Int) : RO Tryz.prog 58 [.one (.int .i64 n)] [(false, [.rd (.bool (decide (1 ≤ n ∧ n ≤ 10)))])] := by
 refine RO.intro Tryz.func58 rfl 5 rfl (le_ok rfl) fun w Z => ?_
 refine T.sr [(2, (pB false))] [] ?_
 refine T.sg ?_
 refine TL.rx 1 [(3, (pI n))] [] ?_
 refine TL.c (Step.cz (ok_spec_l01In n 1 10)) ?_
 refine TL.rl [(2, (pB (decide (1 ≤ n ∧ n ≤ 10))))] [] ?_
 refine T.ret ?_
 exact ⟨_, (.cons rfl .nil), rfl, _, (.r rfl .nil)⟩
theorem ok_spec_LimitsOk (l : SLimits) : RO Tryz.prog 16 [.agg l.cells] [(false, [.rd (.bool (limOk l))])] := by
 refine RO.intro Tryz.func16 rfl 26 rfl (le_ok rfl) fun w Z => ?_
 refine T.sr [(1, (.one (.ptr 1 0))), (2, (pB false))] [(1, (46, (c_2 l)))] ?_
 refine T.sg ?_
 refine TL.rx 2 [(4, (pI l.f0))] [] ?_
 refine TL.c (Step.cz (ok_spec_l02Signers l.f0)) ?_
 refine TL.rx 1 [(6, (pB (decide (1 ≤ l.f0 ∧ l.f0 ≤ 10))))] [] ?_
 rcases Bool.eq_false_or_eq_true (decide (1 ≤ l.f0 ∧ l.f0 ≤ 10)) with hb1 | hb1
 ·refine TL.known 6 hb1 rfl ?_
  refine TL.rx 2 [(8, (pI l.f1))] [] ?_
  refine TL.gy 6 (Step.cz (ok_spec_l01In l.f1 0 40)) ?_
  refine TL.rx 2 [(11, (pB (decide (0 ≤ l.f1 ∧ l.f1 ≤ 40))))] [] ?_
  rcases Bool.eq_false_or_eq_true (decide (0 ≤ l.f1 ∧ l.f1 ≤ 40)) with hb2 | hb2
  ·refine TL.known 11 hb2 rfl ?_
   refine TL.rx 2 [(13, (pI l.f2))] [] ?_
   refine TL.gy 11 (Step.cz (ok_spec_l01In l.f2 0 8)) ?_
   refine TL.rx 2 [(16, (pB (decide (0 ≤ l.f2 ∧ l.f2 ≤ 8))))] [] ?_
   rcases Bool.eq_false_or_eq_true (decide (0 ≤ l.f2 ∧ l.f2 ≤ 8)) with hb3 | hb3
   ·refine TL.known 16 hb3 rfl ?_
    refine TL.rx 2 [(18, (pI l.f3))] [] ?_
    refine TL.gy 16 (Step.cz (ok_spec_l01In l.f3 1 4000)) ?_
    refine TL.rx 2 [(21, (pB (decide (1 ≤ l.f3 ∧ l.f3 ≤ 4000))))] [] ?_
    rcases Bool.eq_false_or_eq_true (decide (1 ≤ l.f3 ∧ l.f3 ≤ 4000)) with hb4 | hb4
    ·refine TL.known 21 hb4 rfl ?_
     refine TL.rx 2 [(23, (pI l.f4))] [] ?_
     refine TL.gy 21 (Step.cz (ok_spec_l01In l.f4 3 5)) ?_
     refine TL.rl [(2, (pB (decide (3 ≤ l.f4 ∧ l.f4 ≤ 5))))] [] ?_
     refine T.ret ?_
     exact p_128
    refine TL.known 21 hb4 rfl ?_
    refine TL.rl [(2, (pB false))] [] ?_
    refine T.ret ?_
    exact p_128
   refine TL.known 16 hb3 rfl ?_
   refine TL.rl [(2, (pB false))] [] ?_
   refine T.ret ?_
   exact p_128
  refine TL.known 11 hb2 rfl ?_
  refine TL.rl [(2, (pB false))] [] ?_
  refine T.ret ?_
  exact p_128
 refine TL.known 6 hb1 rfl ?_
 refine TL.rl [(2, (pB false))] [] ?_
 refine T.ret ?_
 exact p_128
theorem ok_spec_l11New (l : SLimits) (b : List Int) (a : Int)  : NX Tryz.prog 17 [.agg l.cells, .one (.ints .u8 b), .one (.int .i64 a)] 62 [(.ints .u8 b), (.int .i64 (rs0 l a).f0), (.int .i64 (rs0 l a).f1)] := by
 refine NX.intro 6 Tryz.func17 rfl 19 rfl (le_ok rfl) rfl fun w Z => ?_
 refine T.sr [(3, (.one (.ptr 3 0)))] [(3, (46, (c_2 l)))] ?_
 refine T.sr [(7, (.one (.ptr 11 0)))] [(11, (62, [cS b, cI a, cI 0]))] ?_
 refine T.seq (T.sg ?_)
 refine TL.rx 1 [(12, (.agg (c_2 l)))] [] ?_
 refine TL.c (Step.cz (ok_spec_LimitsOk l)) ?_
 refine TL.rl [(14, (pB (!(limOk l))))] [] ?_
 refine T.cn rfl (fun h1 => ?_) (fun h1 => ?_)
 ·refine T.rr [] [(11, (62, [cS b, cI a, cI 5]))] ?_
  refine T.sr [(6, (.one (.ptr 11 0)))] [] ?_
  refine T.ret ?_
  exact ⟨11, rfl, by first | (rw [rs0_ok p_5]; rfl) | (rw [rs0_no (by first | assumption | simp [*])]; rfl)⟩
 refine T.skip ?_
 refine T.sr [(6, (.one (.ptr 11 0)))] [] ?_
 refine T.ret ?_
 exact ⟨11, rfl, by first | (rw [rs0_ok p_5]; rfl) | (rw [rs0_no (by first | assumption | simp [*])]; rfl)⟩
theorem ok_spec_l11Fail (k : Bool) (b : List Int) (s : SRS) (bad : Bool) (c : Int) (h0_ : U8s b) (h1_ : b.length ≤ 1048576) (h2_ : bad = !k) : BX Tryz.prog 25 [.bx, .rd (.one (.bool bad)), .rd (.one (.int .i64 c))] 62 [.rd (.ints .u8 b), .rd (.int .i64 s.f0), .rd (.int .i64 s.f1)] [.rd (.ints .u8 b), .rd (.int .i64 (ae s k c).f0), .rd (.int .i64 (ae s k c).f1)] [] := by
 refine BX.intro Tryz.func25 rfl 18 rfl (le_ok rfl) (le_ok rfl) fun w Z IX pin hp => ?_
 have hk_ : k = !bad := by rw [h2_, Bool.not_not]
 clear h2_
 refine T.sg ?_
 refine TL.rx 6 [(11, (pB (decide (s.f1 = 0))))] [] ?_
 rcases Bool.eq_false_or_eq_true (decide (s.f1 = 0)) with hb1 | hb1
 ·refine TL.known 11 hb1 rfl ?_
  have hb1' := hb1
  replace hb1' := of_decide_eq_true hb1'
  refine TL.rl [(13, (pB bad))] [] ?_
  refine T.cond (b := bad) rfl (fun h2 => ?_) (fun h2 => ?_)
  ·refine T.rr [] [(800, (62, [cS b, cI s.f0, cI c]))] ?_
   exact p_133
  refine T.skip ?_
  exact p_133
 refine TL.known 11 hb1 rfl ?_
 have hb1' := hb1
 replace hb1' := of_decide_eq_false hb1'
 refine TL.rl [(13, (pB false))] [] ?_
 refine T.cf (T.skip ?_)
 exact p_133
theorem ok_spec_GetVar (b : List Int) (a : Int) (h0_ : U8s b) (h1_ : b.length ≤ 1099511627776) : RO Tryz.prog 99 [.one (.ints .u8 b), .one (.int .i64 a)] [(false, [.rd (.int .i64 (getVar b a).1)]), (false, [.rd (.int .i64 (getVar b a).2.1)]), (false, [.rd (.int .i64 (getVar b a).2.2)])] := by
 refine RO.intro Tryz.func99 rfl 67 rfl (le_ok rfl) fun w Z => ?_
 refine T.bnd 0 0 rfl rfl fun hb_0_0 => ?_
 simp only [D.size, List.length_map] at hb_0_0
 refine T.sr [(4, (pI 0)), (5, (pI 0)), (6, (pI 0))] [] ?_
 refine T.seq (T.sg ?_)
 refine TL.rx 3 [(13, (pB (decide (a < 0))))] [] ?_
 rcases Bool.eq_false_or_eq_true (decide (a < 0)) with hb1 | hb1
 ·refine TL.known 13 hb1 rfl ?_
  have hb1' := hb1
  replace hb1' := of_decide_eq_true hb1'
  refine TL.rl [(18, (pB true))] [] ?_
  refine T.ct ?_
  refine T.sr [(4, (pI 0)), (5, (pI 0)), (6, (pI 1))] [] ?_
  refine T.ret ?_
  exact p_117
 refine TL.known 13 hb1 rfl ?_
 have hb1' := hb1
 replace hb1' := of_decide_eq_false hb1'
 refine TL.rx 2 [(14, (pI a)), (15, (pS b))] [] ?_
 refine TL.gy 13 (Step.ln 5 1 (.ints .u8 b)) ?_
 refine TL.rl [(18, (pB (decide ((b.length : Int) < a))))] [] ?_
 refine T.ci rfl (fun h2 => ?_) (fun h2 => ?_)
 ·refine T.sr [(4, (pI 0)), (5, (pI 0)), (6, (pI 1))] [] ?_
  refine T.ret ?_
  exact p_117
 refine T.skip ?_
 refine T.sr [(7, (pI 0))] [] ?_
 refine T.sr [(8, (pI 1))] [] ?_
 refine T.seq ?_
 refine T.sr [(9, (pI 0))] [] ?_
 refine T.block ?_
 refine T.loop (ι := Nat × Int) (fun xx_ => { tm := [(0, (pS b)), (1, (pI a)), (9, (pI ((xx_.1) : Int))), (7, (pI (xx_.2))), (8, (pI (128 ^ (xx_.1))))], rows := [], boxes := [] }) (fun xx_ => (xx_.1) ≤ 9 ∧ 0 ≤ (xx_.2) ∧ (xx_.2) < 128 ^ (xx_.1) ∧ gvGo b a (9 - (xx_.1)) (xx_.1) (xx_.2) = gvGo b a 9 0 0) (fun xx_ => 9 - (xx_.1)) (0, 0) ?_ ?_ ?_
 · refine Env.le_mk ⟨rfl, rfl, ?_, ?_, ?_, trivial⟩ trivial trivial <;> exact p_12
 · (dsimp only; refine ⟨by omega, by omega, by simp, rfl⟩)
 intro xx_ hx
 obtain ⟨i, n⟩ := xx_
 try dsimp only at hx ⊢
 obtain ⟨hx1, hx2, hx3, hx4⟩ := hx
 have hu_ := getD_u8 h0_ (a + (i : Int)).toNat
 have hm_ := gv_mul hu_.1 i
 refine T.seq ?_
 refine T.sr [(20, (pB (decide ((i : Int) < 9))))] [] ?_
 refine T.ci rfl (fun h3 => ?_) (fun h3 => ?_)
 ·have hp_ := pow128 (i := i) p_4
  refine T.skip (T.seq (T.block (T.seq (T.sg ?_))))
  refine TL.rx 2 [(23, (pI a)), (24, (pI (i : Int)))] [] ?_
  refine TL.ad (a + (i : Int)) ?_
  refine TL.rx 1 [(26, (pS b))] [] ?_
  refine TL.c (Step.ln 5 1 (.ints .u8 b)) ?_
  refine TL.rl [(28, (pB (decide ((b.length : Int) ≤ (a + (i : Int))))))] [] ?_
  refine T.ci rfl (fun h4 => ?_) (fun h4 => ?_)
  ·refine T.sr [(4, (pI 0)), (5, (pI 0)), (6, (pI 1))] [] ?_
   refine T.ret ?_
   exact p_117
  refine T.skip (T.sg ?_)
  refine TL.rx 3 [(29, (pS b)), (30, (pI a)), (31, (pI (i : Int)))] [] ?_
  refine TL.ad (a + (i : Int)) ?_
  refine TL.c (Step.index (e := 5) (z := 1) (i := (a + (i : Int))) rfl rfl (lt_ok rfl) p_7 rfl rfl rfl (lt_ok rfl) rfl p_23 p_47) ?_
  refine TL.c (Step.load (e := (.int .u8 (b.getD (a + (i : Int)).toNat 0))) rfl rfl (lt_ok rfl) p_7 rfl rfl) ?_
  refine TL.c (Step.conv (c := (b.getD (a + (i : Int)).toNat 0)) rfl rfl (lt_ok rfl) p_7 p_7 rfl (wrap_ok p_23 p_23)) ?_
  refine TL.rl [(10, (pI (b.getD (a + (i : Int)).toNat 0)))] [] ?_
  refine T.seq (T.sg ?_)
  refine TL.rx 3 [(38, (pB (decide (0 < (i : Int)))))] [] ?_
  rcases Bool.eq_false_or_eq_true (decide (0 < (i : Int))) with hb5 | hb5
  ·refine TL.known 38 hb5 rfl ?_
   have hb5' := hb5
   replace hb5' := of_decide_eq_true hb5'
   refine TL.rx 4 [(42, (pB (decide ((b.getD (a + (i : Int)).toNat 0) = 0))))] [] ?_
   rcases Bool.eq_false_or_eq_true (decide ((b.getD (a + (i : Int)).toNat 0) = 0)) with hb6 | hb6
   ·refine TL.known 42 hb6 rfl ?_
    have hb6' := hb6
    replace hb6' := of_decide_eq_true hb6'
    refine TL.rl [(49, (pB true))] [] ?_
    refine T.ct ?_
    refine T.sr [(4, (pI 0)), (5, (pI 0)), (6, (pI 2))] [] ?_
    refine T.ret ?_
    exact p_117
   refine TL.known 42 hb6 rfl ?_
   have hb6' := hb6
   replace hb6' := of_decide_eq_false hb6'
   refine TL.rx 3 [(45, (pB (decide ((i : Int) = 8))))] [] ?_
   rcases Bool.eq_false_or_eq_true (decide ((i : Int) = 8)) with hb7 | hb7
   ·refine TL.known 45 hb7 rfl ?_
    have hb7' := hb7
    replace hb7' := of_decide_eq_true hb7'
    refine TL.rl [(49, (pB (decide (128 ≤ (b.getD (a + (i : Int)).toNat 0)))))] [] ?_
    refine T.ci rfl (fun h8 => ?_) (fun h8 => ?_)
    ·refine T.sr [(4, (pI 0)), (5, (pI 0)), (6, (pI 2))] [] ?_
     refine T.ret ?_
     exact p_117
    refine T.skip (T.sg ?_)
    refine TL.rx 2 [(50, (pI n)), (51, (pI (b.getD (a + (i : Int)).toNat 0)))] [] ?_
    refine TL.c (Step.bin (r := .int .i64 ((b.getD (a + (i : Int)).toNat 0) % 128)) rfl rfl (lt_ok rfl) rfl rfl (Bin.rem (k := .i64) (a := (b.getD (a + (i : Int)).toNat 0)) (b := 128) (by decide) (Int.tmod_eq_emod_of_nonneg p_23))) ?_
    refine TL.rx 1 [(53, (pI (128 ^ i)))] [] ?_
    refine TL.ml (((b.getD (a + (i : Int)).toNat 0) % 128) * (128 ^ i)) ?_
    refine TL.ad (n + (((b.getD (a + (i : Int)).toNat 0) % 128) * (128 ^ i))) ?_
    refine TL.rl [(7, (pI (n + (((b.getD (a + (i : Int)).toNat 0) % 128) * (128 ^ i)))))] [] ?_
    refine T.seq ?_
    refine T.sr [(57, (pB (decide ((b.getD (a + (i : Int)).toNat 0) < 128))))] [] ?_
    refine T.ci rfl (fun h9 => ?_) (fun h9 => ?_)
    ·refine T.seq ?_
     refine T.sr [(59, (pB (decide (1152921504606846975 < (n + (((b.getD (a + (i : Int)).toNat 0) % 128) * (128 ^ i)))))))] [] ?_
     refine T.ci rfl (fun h10 => ?_) (fun h10 => ?_)
     ·refine T.sr [(4, (pI 0)), (5, (pI 0)), (6, (pI 2))] [] ?_
      refine T.ret ?_
      exact p_117
     refine T.skip (T.sg ?_)
     refine TL.rx 3 [(60, (pI (n + (((b.getD (a + (i : Int)).toNat 0) % 128) * (128 ^ i))))), (61, (pI a)), (62, (pI (i : Int)))] [] ?_
     refine TL.ad (a + (i : Int)) ?_
     refine TL.ad ((a + (i : Int)) + 1) ?_
     refine TL.rl [(4, (pI (n + (((b.getD (a + (i : Int)).toNat 0) % 128) * (128 ^ i))))), (5, (pI ((a + (i : Int)) + 1))), (6, (pI 0))] [] ?_
     refine T.ret ?_
     exact p_117
    refine T.skip (T.region ?_)
    refine TL.rx 1 [(65, (pI (128 ^ i)))] [] ?_
    refine TL.c (Step.bin (r := .int .i64 (128 ^ (i + 1))) rfl rfl (lt_ok rfl) rfl rfl (Bin.mul (a := (128 ^ i)) (b := 128) p_98)) ?_
    refine TL.rl [(8, (pI (128 ^ (i + 1))))] [] ?_
    refine T.region ?_
    refine TL.rx 1 [(21, (pI (i : Int)))] [] ?_
    refine TL.ad ((i : Int) + 1) ?_
    refine TL.rl [(9, (pI ((i : Int) + 1)))] [] ?_
    refine ⟨(i + 1, n + (((b.getD (a + (i : Int)).toNat 0) % 128) * (128 ^ i))), by (try dsimp only); (refine ⟨by omega, by omega, by rw [Int.pow_succ]; omega, ?_⟩; exact (gvGo_next (n := n) p_4 p_4 p_4 p_4).symm.trans hx4), by (dsimp only; omega), Env.le_mk ⟨rfl, rfl, ?_, ?_, ?_, trivial⟩ trivial trivial⟩ <;> exact p_12
   refine TL.known 45 hb7 rfl ?_
   have hb7' := hb7
   replace hb7' := of_decide_eq_false hb7'
   refine TL.rl [(49, (pB false))] [] ?_
   refine T.cf (T.skip (T.sg ?_))
   refine TL.rx 2 [(50, (pI n)), (51, (pI (b.getD (a + (i : Int)).toNat 0)))] [] ?_
   refine TL.c (Step.bin (r := .int .i64 ((b.getD (a + (i : Int)).toNat 0) % 128)) rfl rfl (lt_ok rfl) rfl rfl (Bin.rem (k := .i64) (a := (b.getD (a + (i : Int)).toNat 0)) (b := 128) (by decide) (Int.tmod_eq_emod_of_nonneg p_23))) ?_
   refine TL.rx 1 [(53, (pI (128 ^ i)))] [] ?_
   refine TL.ml (((b.getD (a + (i : Int)).toNat 0) % 128) * (128 ^ i)) ?_
   refine TL.ad (n + (((b.getD (a + (i : Int)).toNat 0) % 128) * (128 ^ i))) ?_
   refine TL.rl [(7, (pI (n + (((b.getD (a + (i : Int)).toNat 0) % 128) * (128 ^ i)))))] [] ?_
   refine T.seq ?_
   refine T.sr [(57, (pB (decide ((b.getD (a + (i : Int)).toNat 0) < 128))))] [] ?_
   refine T.ci rfl (fun h11 => ?_) (fun h11 => ?_)
   ·refine T.seq ?_
    refine T.sr [(59, (pB (decide (1152921504606846975 < (n + (((b.getD (a + (i : Int)).toNat 0) % 128) * (128 ^ i)))))))] [] ?_
    refine T.ci rfl (fun h12 => ?_) (fun h12 => ?_)
    ·refine T.sr [(4, (pI 0)), (5, (pI 0)), (6, (pI 2))] [] ?_
     refine T.ret ?_
     exact p_117
    refine T.skip (T.sg ?_)
    refine TL.rx 3 [(60, (pI (n + (((b.getD (a + (i : Int)).toNat 0) % 128) * (128 ^ i))))), (61, (pI a)), (62, (pI (i : Int)))] [] ?_
    refine TL.ad (a + (i : Int)) ?_
    refine TL.ad ((a + (i : Int)) + 1) ?_
    refine TL.rl [(4, (pI (n + (((b.getD (a + (i : Int)).toNat 0) % 128) * (128 ^ i))))), (5, (pI ((a + (i : Int)) + 1))), (6, (pI 0))] [] ?_
    refine T.ret ?_
    exact p_117
   refine T.skip (T.region ?_)
   refine TL.rx 1 [(65, (pI (128 ^ i)))] [] ?_
   refine TL.c (Step.bin (r := .int .i64 (128 ^ (i + 1))) rfl rfl (lt_ok rfl) rfl rfl (Bin.mul (a := (128 ^ i)) (b := 128) p_98)) ?_
   refine TL.rl [(8, (pI (128 ^ (i + 1))))] [] ?_
   refine T.region ?_
   refine TL.rx 1 [(21, (pI (i : Int)))] [] ?_
   refine TL.ad ((i : Int) + 1) ?_
   refine TL.rl [(9, (pI ((i : Int) + 1)))] [] ?_
   refine ⟨(i + 1, n + (((b.getD (a + (i : Int)).toNat 0) % 128) * (128 ^ i))), by (try dsimp only); (refine ⟨by omega, by omega, by rw [Int.pow_succ]; omega, ?_⟩; exact (gvGo_next (n := n) p_4 p_4 p_4 p_4).symm.trans hx4), by (dsimp only; omega), Env.le_mk ⟨rfl, rfl, ?_, ?_, ?_, trivial⟩ trivial trivial⟩ <;> exact p_12
  refine TL.known 38 hb5 rfl ?_
  have hb5' := hb5
  replace hb5' := of_decide_eq_false hb5'
  refine TL.rx 7 [(42, (pB false)), (45, (pB (decide ((i : Int) = 8))))] [] ?_
  rcases Bool.eq_false_or_eq_true (decide ((i : Int) = 8)) with hb13 | hb13
  ·refine TL.known 45 hb13 rfl ?_
   have hb13' := hb13
   replace hb13' := of_decide_eq_true hb13'
   refine TL.rl [(49, (pB (decide (128 ≤ (b.getD (a + (i : Int)).toNat 0)))))] [] ?_
   refine T.ci rfl (fun h14 => ?_) (fun h14 => ?_)
   ·refine T.sr [(4, (pI 0)), (5, (pI 0)), (6, (pI 2))] [] ?_
    refine T.ret ?_
    exact p_117
   refine T.skip (T.sg ?_)
   refine TL.rx 2 [(50, (pI n)), (51, (pI (b.getD (a + (i : Int)).toNat 0)))] [] ?_
   refine TL.c (Step.bin (r := .int .i64 ((b.getD (a + (i : Int)).toNat 0) % 128)) rfl rfl (lt_ok rfl) rfl rfl (Bin.rem (k := .i64) (a := (b.getD (a + (i : Int)).toNat 0)) (b := 128) (by decide) (Int.tmod_eq_emod_of_nonneg p_23))) ?_
   refine TL.rx 1 [(53, (pI (128 ^ i)))] [] ?_
   refine TL.ml (((b.getD (a + (i : Int)).toNat 0) % 128) * (128 ^ i)) ?_
   refine TL.ad (n + (((b.getD (a + (i : Int)).toNat 0) % 128) * (128 ^ i))) ?_
   refine TL.rl [(7, (pI (n + (((b.getD (a + (i : Int)).toNat 0) % 128) * (128 ^ i)))))] [] ?_
   refine T.seq ?_
   refine T.sr [(57, (pB (decide ((b.getD (a + (i : Int)).toNat 0) < 128))))] [] ?_
   refine T.ci rfl (fun h15 => ?_) (fun h15 => ?_)
   ·refine T.seq ?_
    refine T.sr [(59, (pB (decide (1152921504606846975 < (n + (((b.getD (a + (i : Int)).toNat 0) % 128) * (128 ^ i)))))))] [] ?_
    refine T.ci rfl (fun h16 => ?_) (fun h16 => ?_)
    ·refine T.sr [(4, (pI 0)), (5, (pI 0)), (6, (pI 2))] [] ?_
     refine T.ret ?_
     exact p_117
    refine T.skip (T.sg ?_)
    refine TL.rx 3 [(60, (pI (n + (((b.getD (a + (i : Int)).toNat 0) % 128) * (128 ^ i))))), (61, (pI a)), (62, (pI (i : Int)))] [] ?_
    refine TL.ad (a + (i : Int)) ?_
    refine TL.ad ((a + (i : Int)) + 1) ?_
    refine TL.rl [(4, (pI (n + (((b.getD (a + (i : Int)).toNat 0) % 128) * (128 ^ i))))), (5, (pI ((a + (i : Int)) + 1))), (6, (pI 0))] [] ?_
    refine T.ret ?_
    exact p_117
   refine T.skip (T.region ?_)
   refine TL.rx 1 [(65, (pI (128 ^ i)))] [] ?_
   refine TL.c (Step.bin (r := .int .i64 (128 ^ (i + 1))) rfl rfl (lt_ok rfl) rfl rfl (Bin.mul (a := (128 ^ i)) (b := 128) p_98)) ?_
   refine TL.rl [(8, (pI (128 ^ (i + 1))))] [] ?_
   refine T.region ?_
   refine TL.rx 1 [(21, (pI (i : Int)))] [] ?_
   refine TL.ad ((i : Int) + 1) ?_
   refine TL.rl [(9, (pI ((i : Int) + 1)))] [] ?_
   refine ⟨(i + 1, n + (((b.getD (a + (i : Int)).toNat 0) % 128) * (128 ^ i))), by (try dsimp only); (refine ⟨by omega, by omega, by rw [Int.pow_succ]; omega, ?_⟩; exact (gvGo_next (n := n) p_4 p_4 p_4 p_4).symm.trans hx4), by (dsimp only; omega), Env.le_mk ⟨rfl, rfl, ?_, ?_, ?_, trivial⟩ trivial trivial⟩ <;> exact p_12
  refine TL.known 45 hb13 rfl ?_
  have hb13' := hb13
  replace hb13' := of_decide_eq_false hb13'
  refine TL.rl [(49, (pB false))] [] ?_
  refine T.cf (T.skip (T.sg ?_))
  refine TL.rx 2 [(50, (pI n)), (51, (pI (b.getD (a + (i : Int)).toNat 0)))] [] ?_
  refine TL.c (Step.bin (r := .int .i64 ((b.getD (a + (i : Int)).toNat 0) % 128)) rfl rfl (lt_ok rfl) rfl rfl (Bin.rem (k := .i64) (a := (b.getD (a + (i : Int)).toNat 0)) (b := 128) (by decide) (Int.tmod_eq_emod_of_nonneg p_23))) ?_
  refine TL.rx 1 [(53, (pI (128 ^ i)))] [] ?_
  refine TL.ml (((b.getD (a + (i : Int)).toNat 0) % 128) * (128 ^ i)) ?_
  refine TL.ad (n + (((b.getD (a + (i : Int)).toNat 0) % 128) * (128 ^ i))) ?_
  refine TL.rl [(7, (pI (n + (((b.getD (a + (i : Int)).toNat 0) % 128) * (128 ^ i)))))] [] ?_
  refine T.seq ?_
  refine T.sr [(57, (pB (decide ((b.getD (a + (i : Int)).toNat 0) < 128))))] [] ?_
  refine T.ci rfl (fun h17 => ?_) (fun h17 => ?_)
  ·refine T.seq ?_
   refine T.sr [(59, (pB (decide (1152921504606846975 < (n + (((b.getD (a + (i : Int)).toNat 0) % 128) * (128 ^ i)))))))] [] ?_
   refine T.ci rfl (fun h18 => ?_) (fun h18 => ?_)
   ·refine T.sr [(4, (pI 0)), (5, (pI 0)), (6, (pI 2))] [] ?_
    refine T.ret ?_
    exact p_117
   refine T.skip (T.sg ?_)
   refine TL.rx 3 [(60, (pI (n + (((b.getD (a + (i : Int)).toNat 0) % 128) * (128 ^ i))))), (61, (pI a)), (62, (pI (i : Int)))] [] ?_
   refine TL.ad (a + (i : Int)) ?_
   refine TL.ad ((a + (i : Int)) + 1) ?_
   refine TL.rl [(4, (pI (n + (((b.getD (a + (i : Int)).toNat 0) % 128) * (128 ^ i))))), (5, (pI ((a + (i : Int)) + 1))), (6, (pI 0))] [] ?_
   refine T.ret ?_
   exact p_117
  refine T.skip (T.region ?_)
  refine TL.rx 1 [(65, (pI (128 ^ i)))] [] ?_
  refine TL.c (Step.bin (r := .int .i64 (128 ^ (i + 1))) rfl rfl (lt_ok rfl) rfl rfl (Bin.mul (a := (128 ^ i)) (b := 128) p_98)) ?_
  refine TL.rl [(8, (pI (128 ^ (i + 1))))] [] ?_
  refine T.region ?_
  refine TL.rx 1 [(21, (pI (i : Int)))] [] ?_
  refine TL.ad ((i : Int) + 1) ?_
  refine TL.rl [(9, (pI ((i : Int) + 1)))] [] ?_
  refine ⟨(i + 1, n + (((b.getD (a + (i : Int)).toNat 0) % 128) * (128 ^ i))), by (try dsimp only); (refine ⟨by omega, by omega, by rw [Int.pow_succ]; omega, ?_⟩; exact (gvGo_next (n := n) p_4 p_4 p_4 p_4).symm.trans hx4), by (dsimp only; omega), Env.le_mk ⟨rfl, rfl, ?_, ?_, ?_, trivial⟩ trivial trivial⟩ <;> exact p_12
 refine T.exit ?_
 refine T.sr [(4, (pI 0)), (5, (pI 0)), (6, (pI 2))] [] ?_
 refine T.ret ?_
 exact p_117
theorem ok_spec_l11Var (b : List Int) (s : SRS) (h0_ : U8s b) (h1_ : b.length ≤ 1048576) : BX Tryz.prog 60 [.bx] 62 [.rd (.ints .u8 b), .rd (.int .i64 s.f0), .rd (.int .i64 s.f1)] [.rd (.ints .u8 b), .rd (.int .i64 (aa b s).1.f0), .rd (.int .i64 (aa b s).1.f1)] [(false, [.rd (.int .i64 (aa b s).2)])] := by
 refine BX.intro Tryz.func60 rfl 33 rfl (le_ok rfl) (le_ok rfl) fun w Z IX pin hp => ?_
 refine T.sr [(2, (pI 0))] [] ?_
 refine T.seq ?_
 refine T.sr [(10, (pB (decide (s.f1 ≠ 0))))] [] ?_
 refine T.ci rfl (fun h1 => ?_) (fun h1 => ?_)
 ·refine T.sr [(2, (pI 0))] [] ?_
  refine T.ret ?_
  exact p_139
 refine T.skip (T.seq ?_)
 have nn2 := @getVar_bd b p_5 s.f0
 refine T.draw [⟨12, (.one (.ptr 800 0)), []⟩, ⟨13, (.one (.ptr 800 0)), []⟩, ⟨14, (.one (.ptr 800 0)), []⟩, ⟨15, (pS b), []⟩, ⟨16, (.one (.ptr 800 0)), []⟩, ⟨17, (.one (.ptr 800 0)), []⟩, ⟨18, (.one (.ptr 800 1)), []⟩, ⟨19, (pI s.f0), []⟩, ⟨20, (.tup [(false, [cI (getVar b s.f0).1]), (false, [cI (getVar b s.f0).2.1]), (false, [cI (getVar b s.f0).2.2])]), []⟩, ⟨11, (.tup [(false, [cI (getVar b s.f0).1]), (false, [cI (getVar b s.f0).2.1]), (false, [cI (getVar b s.f0).2.2])]), []⟩, ⟨21, (pI (getVar b s.f0).1), []⟩, ⟨22, (pI (getVar b s.f0).2.1), []⟩, ⟨23, (pI (getVar b s.f0).2.2), []⟩, ⟨3, (pI (getVar b s.f0).1), []⟩, ⟨4, (pI (getVar b s.f0).2.1), []⟩, ⟨5, (pI (getVar b s.f0).2.2), []⟩] p_7 p_7 ?_ ?_
 ·refine .cons (fun E A => A.mv 0 12) ?_
  refine .cons (fun E A => OpStep.plain rfl (Step.nilCheck (t := 13) rfl rfl p_24 (A.g 12 rfl))) ?_
  refine .cons (fun E A => OpStep.plain rfl (Step.fa (off := 0) (n := 1) (one := true) 0 14 (A.g 13 rfl))) ?_
  refine .cons (fun E A => OpStep.plain rfl (Step.load_box (c := cS b) (t := 15) rfl rfl p_24 p_7 (A.g 14 rfl) (by exact A.box rfl) rfl)) ?_
  refine .cons (fun E A => A.mv 0 16) ?_
  refine .cons (fun E A => OpStep.plain rfl (Step.nilCheck (t := 17) rfl rfl p_24 (A.g 16 rfl))) ?_
  refine .cons (fun E A => OpStep.plain rfl (Step.fa (off := 1) (n := 1) (one := true) 0 18 (A.g 17 rfl))) ?_
  refine .cons (fun E A => OpStep.plain rfl (Step.load_box (c := cI s.f0) (t := 19) rfl rfl p_24 p_7 (A.g 18 rfl) (by exact A.box rfl) rfl)) ?_
  refine .cons (fun E A => OpStep.plain rfl (Step.call (f := 99) (xs := [.tmp 15, .tmp 19]) (ps := [(pS b), (pI s.f0)]) false (g := .func 99) (t := 20) rfl rfl p_24 rfl p_7 (evs_cons (A.g 15 rfl) (evs_cons (A.g 19 rfl) (rfl))) (.cons (.one (.d _)) (.cons (.one (.d _)) .nil)) (ok_spec_GetVar b s.f0 p_5 p_1) (.inr rfl) (At.freshRows A rfl) (fun x hx => by have := hp x hx; omega) rfl)) ?_
  refine .cons (fun E A => A.mv 20 11) ?_
  refine .cons (fun E A => OpStep.plain rfl (Step.extract (p := (pI (getVar b s.f0).1)) (t := 21) rfl rfl p_24 (A.g 11 rfl) rfl)) ?_
  refine .cons (fun E A => OpStep.plain rfl (Step.extract (p := (pI (getVar b s.f0).2.1)) (t := 22) rfl rfl p_24 (A.g 11 rfl) rfl)) ?_
  refine .cons (fun E A => OpStep.plain rfl (Step.extract (p := (pI (getVar b s.f0).2.2)) (t := 23) rfl rfl p_24 (A.g 11 rfl) rfl)) ?_
  refine .cons (fun E A => A.as 21 3) ?_
  refine .cons (fun E A => A.as 22 4) ?_
  refine .cons (fun E A => A.as 23 5) ?_
  exact .nil _ _
 refine TL.nil ?_
 refine T.sr [] [(800, (62, [cS b, cI s.f0, cI (getVar b s.f0).2.2]))] ?_
 refine T.sr [] [(800, (62, [cS b, cI (getVar b s.f0).2.1, cI (getVar b s.f0).2.2]))] ?_
 refine T.sr [(2, (pI (getVar b s.f0).1))] [] ?_
 refine T.ret ?_
 exact p_139
theorem ok_spec_l01Copy (a : List Int) (h0_ : a.length ≤ 17592186044416) : RO Tryz.prog 128 [.one (.ints .u8 a)] [(false, [.own 5 (.ints .u8 a)])] := by
 refine RO.intro Tryz.func128 rfl 6 rfl (le_ok rfl) fun w Z => ?_
 refine T.bnd 0 0 rfl rfl fun hb_0_0 => ?_
 simp only [D.size, List.length_map] at hb_0_0
 refine T.sr [(2, (.one (.nil)))] [] ?_
 refine T.sg ?_
 refine TL.c (Step.lt 5 1 1 [] [] (.ints .u8 [])) ?_
 refine TL.rx 1 [(4, (pS a))] [] ?_
 refine TL.c (Step.ap 5 1 1 (.ints .u8 a) (.ints .u8 ([] ++ a)) (.froz rfl p_91)) ?_
 refine TL.rl [(2, (.one (.row 3 [])))] [] ?_
 refine T.ret ?_
 exact p_131
theorem ok_spec_GetRaw (b : List Int) (a : Int) (n : Int) (h0_ : b.length ≤ 1099511627776) : RO Tryz.prog 100 [.one (.ints .u8 b), .one (.int .i64 a), .one (.int .i64 n)] [(false, [.own 5 (.ints .u8 (au b a n).1)]), (false, [.rd (.int .i64 (au b a n).2.1)]), (false, [.rd (.int .i64 (au b a n).2.2)])] := by
 refine RO.intro Tryz.func100 rfl 39 rfl (le_ok rfl) fun w Z => ?_
 refine T.bnd 0 0 rfl rfl fun hb_0_0 => ?_
 simp only [D.size, List.length_map] at hb_0_0
 refine T.sr [(6, (.one (.nil))), (7, (pI 0)), (8, (pI 0))] [] ?_
 refine T.seq (T.sg ?_)
 refine TL.rx 3 [(11, (pB (decide (a < 0))))] [] ?_
 rcases Bool.eq_false_or_eq_true (decide (a < 0)) with hb1 | hb1
 ·refine TL.known 11 hb1 rfl ?_
  have hb1' := hb1
  replace hb1' := of_decide_eq_true hb1'
  refine TL.rl [(28, (pB true))] [] ?_
  refine T.ct ?_
  refine T.sr [(6, (.one (.nil))), (7, (pI 0)), (8, (pI 1))] [] ?_
  refine T.ret ?_
  exact p_129
 refine TL.known 11 hb1 rfl ?_
 have hb1' := hb1
 replace hb1' := of_decide_eq_false hb1'
 refine TL.rx 4 [(15, (pB (decide (n < 0))))] [] ?_
 rcases Bool.eq_false_or_eq_true (decide (n < 0)) with hb2 | hb2
 ·refine TL.known 15 hb2 rfl ?_
  have hb2' := hb2
  replace hb2' := of_decide_eq_true hb2'
  refine TL.rl [(28, (pB true))] [] ?_
  refine T.ct ?_
  refine T.sr [(6, (.one (.nil))), (7, (pI 0)), (8, (pI 1))] [] ?_
  refine T.ret ?_
  exact p_129
 refine TL.known 15 hb2 rfl ?_
 have hb2' := hb2
 replace hb2' := of_decide_eq_false hb2'
 refine TL.rx 2 [(16, (pI a)), (17, (pS b))] [] ?_
 refine TL.gy 15 (Step.ln 5 1 (.ints .u8 b)) ?_
 refine TL.rx 3 [(21, (pB (decide ((b.length : Int) < a))))] [] ?_
 rcases Bool.eq_false_or_eq_true (decide ((b.length : Int) < a)) with hb3 | hb3
 ·refine TL.known 21 hb3 rfl ?_
  have hb3' := hb3
  replace hb3' := of_decide_eq_true hb3'
  refine TL.rl [(28, (pB true))] [] ?_
  refine T.ct ?_
  refine T.sr [(6, (.one (.nil))), (7, (pI 0)), (8, (pI 1))] [] ?_
  refine T.ret ?_
  exact p_129
 refine TL.known 21 hb3 rfl ?_
 have hb3' := hb3
 replace hb3' := of_decide_eq_false hb3'
 refine TL.rx 2 [(22, (pI n)), (23, (pS b))] [] ?_
 refine TL.gy 21 (Step.ln 5 1 (.ints .u8 b)) ?_
 refine TL.rx 1 [(25, (pI a))] [] ?_
 refine TL.gy 21 (Step.bin (r := .int .i64 ((b.length : Int) - a)) rfl rfl (lt_ok rfl) rfl rfl (Bin.sub (a := (b.length : Int)) (b := a) p_50)) ?_
 refine TL.rl [(28, (pB (decide (((b.length : Int) - a) < n))))] [] ?_
 refine T.ci rfl (fun h4 => ?_) (fun h4 => ?_)
 ·refine T.sr [(6, (.one (.nil))), (7, (pI 0)), (8, (pI 1))] [] ?_
  refine T.ret ?_
  exact p_129
 refine T.skip (T.sg ?_)
 refine TL.rx 4 [(29, (pS b)), (30, (pI a)), (31, (pI a)), (32, (pI n))] [] ?_
 refine TL.c (Step.bin (r := .int .i64 (a + n)) rfl rfl (lt_ok rfl) rfl rfl (Bin.add (a := a) (b := n) p_50)) ?_
 refine TL.c (Step.slice (e := 5) (z := 1) (l := (a).toNat) (h := (a + n).toNat) rfl rfl (lt_ok rfl) p_7 rfl rfl rfl ((.some (i := a) rfl p_85)) ((.some (i := (a + n)) rfl p_85)) p_85 (by simp only [D.size]; first | omega | (simp only [List.length_take, List.length_drop]; omega) | (simp; omega)) rfl) ?_
 refine TL.c (Step.cz (ok_spec_l01Copy ((b.drop (a).toNat).take ((a + n).toNat - (a).toNat)) p_97)) ?_
 refine TL.rx 2 [(36, (pI a)), (37, (pI n))] [] ?_
 refine TL.c (Step.bin (r := .int .i64 (a + n)) rfl rfl (lt_ok rfl) rfl rfl (Bin.add (a := a) (b := n) p_50)) ?_
 refine TL.rl [(6, (.one (.row 1035 []))), (7, (pI (a + n))), (8, (pI 0))] [] ?_
 refine T.ret ?_
 exact p_170
theorem ok_spec_l11Raw (b : List Int) (s : SRS) (h0_ : U8s b) (h1_ : b.length ≤ 1048576) : BX Tryz.prog 61 [.bx] 62 [.rd (.ints .u8 b), .rd (.int .i64 s.f0), .rd (.int .i64 s.f1)] [.rd (.ints .u8 b), .rd (.int .i64 (af b s 32).1.f0), .rd (.int .i64 (af b s 32).1.f1)] [(false, [.own 5 (.ints .u8 (af b s 32).2)])] := by
 refine BX.intro Tryz.func61 rfl 33 rfl (le_ok rfl) (le_ok rfl) fun w Z IX pin hp => ?_
 refine T.sr [(2, (.one (.nil)))] [] ?_
 refine T.seq ?_
 refine T.sr [(10, (pB (decide (s.f1 ≠ 0))))] [] ?_
 refine T.ci rfl (fun h1 => ?_) (fun h1 => ?_)
 ·refine T.sr [(2, (.one (.nil)))] [] ?_
  refine T.ret ?_
  exact p_173
 refine T.skip (T.seq ?_)
 have nn2 := getRaw_bd b s.f0 32
 refine T.draw [⟨12, (.one (.ptr 800 0)), []⟩, ⟨13, (.one (.ptr 800 0)), []⟩, ⟨14, (.one (.ptr 800 0)), []⟩, ⟨15, (pS b), []⟩, ⟨16, (.one (.ptr 800 0)), []⟩, ⟨17, (.one (.ptr 800 0)), []⟩, ⟨18, (.one (.ptr 800 1)), []⟩, ⟨19, (pI s.f0), []⟩, ⟨20, (.tup [(false, [.row 1020 []]), (false, [cI (au b s.f0 32).2.1]), (false, [cI (au b s.f0 32).2.2])]), [(1020, (5, (.ints .u8 (au b s.f0 32).1)))]⟩, ⟨11, (.tup [(false, [.row 1020 []]), (false, [cI (au b s.f0 32).2.1]), (false, [cI (au b s.f0 32).2.2])]), []⟩, ⟨21, (.one (.row 1020 [])), []⟩, ⟨22, (pI (au b s.f0 32).2.1), []⟩, ⟨23, (pI (au b s.f0 32).2.2), []⟩, ⟨3, (.one (.row 1020 [])), []⟩, ⟨4, (pI (au b s.f0 32).2.1), []⟩, ⟨5, (pI (au b s.f0 32).2.2), []⟩] p_7 p_7 ?_ ?_
 ·refine .cons (fun E A => A.mv 0 12) ?_
  refine .cons (fun E A => OpStep.plain rfl (Step.nilCheck (t := 13) rfl rfl p_24 (A.g 12 rfl))) ?_
  refine .cons (fun E A => OpStep.plain rfl (Step.fa (off := 0) (n := 1) (one := true) 0 14 (A.g 13 rfl))) ?_
  refine .cons (fun E A => OpStep.plain rfl (Step.load_box (c := cS b) (t := 15) rfl rfl p_24 p_7 (A.g 14 rfl) (by exact A.box rfl) rfl)) ?_
  refine .cons (fun E A => A.mv 0 16) ?_
  refine .cons (fun E A => OpStep.plain rfl (Step.nilCheck (t := 17) rfl rfl p_24 (A.g 16 rfl))) ?_
  refine .cons (fun E A => OpStep.plain rfl (Step.fa (off := 1) (n := 1) (one := true) 0 18 (A.g 17 rfl))) ?_
  refine .cons (fun E A => OpStep.plain rfl (Step.load_box (c := cI s.f0) (t := 19) rfl rfl p_24 p_7 (A.g 18 rfl) (by exact A.box rfl) rfl)) ?_
  refine .cons (fun E A => OpStep.plain rfl (Step.call (f := 100) (xs := [.tmp 15, .tmp 19, .const (.int .i64 32)]) (ps := [(pS b), (pI s.f0), (pI 32)]) false (g := .func 100) (t := 20) rfl rfl p_24 rfl p_7 (evs_cons (A.g 15 rfl) (evs_cons (A.g 19 rfl) (evs_cons rfl (rfl)))) (.cons (.one (.d _)) (.cons (.one (.d _)) (.cons (.one (.d _)) .nil))) (ok_spec_GetRaw b s.f0 32 p_1) (.inr rfl) (At.freshRows A rfl) (fun x hx => by have := hp x hx; omega) rfl)) ?_
  refine .cons (fun E A => A.mv 20 11) ?_
  refine .cons (fun E A => OpStep.plain rfl (Step.extract (p := (.one (.row 1020 []))) (t := 21) rfl rfl p_24 (A.g 11 rfl) rfl)) ?_
  refine .cons (fun E A => OpStep.plain rfl (Step.extract (p := (pI (au b s.f0 32).2.1)) (t := 22) rfl rfl p_24 (A.g 11 rfl) rfl)) ?_
  refine .cons (fun E A => OpStep.plain rfl (Step.extract (p := (pI (au b s.f0 32).2.2)) (t := 23) rfl rfl p_24 (A.g 11 rfl) rfl)) ?_
  refine .cons (fun E A => A.as 21 3) ?_
  refine .cons (fun E A => A.as 22 4) ?_
  refine .cons (fun E A => A.as 23 5) ?_
  exact .nil _ _
 refine TL.nil ?_
 refine T.sr [] [(800, (62, [cS b, cI s.f0, cI (au b s.f0 32).2.2]))] ?_
 refine T.sr [] [(800, (62, [cS b, cI (au b s.f0 32).2.1, cI (au b s.f0 32).2.2]))] ?_
 refine T.sr [(2, (.one (.row 1020 [])))] [] ?_
 refine T.ret ?_
 exact p_175
theorem ok_spec_GetVote (l : SLimits) (b : List Int) (a : Int) (h0_ : U8s b) (h1_ : b.length ≤ 1048576) : RO Tryz.prog 18 [.agg l.cells, .one (.ints .u8 b), .one (.int .i64 a)] [(true, [.rd (.int .i64 (aw l b a).1.f0), .rd (.int .i64 (aw l b a).1.f1), .own 5 (.ints .u8 (aw l b a).1.f2), .rd (.int .i64 (aw l b a).1.f3), .own 5 (.ints .u8 (aw l b a).1.f4)]), (false, [.rd (.int .i64 (aw l b a).2.1)]), (false, [.rd (.int .i64 (aw l b a).2.2)])] := by
 refine RO.intro Tryz.func18 rfl 52 rfl (le_ok rfl) fun w Z => ?_
 refine T.bnd 1 0 rfl rfl fun hb_1_0 => ?_
 simp only [D.size, List.length_map] at hb_1_0
 refine T.sr [(3, (.one (.ptr 3 0))), (6, (.one (.ptr 6 0))), (7, (pI 0)), (8, (pI 0))] [(3, (46, (c_2 l))), (6, (26, c_58))] ?_
 refine T.sg ?_
 refine TL.rx 3 [(11, (.agg (c_2 l))), (12, (pS b)), (13, (pI a))] [] ?_
 refine TL.c (Step.callN (f := 17) (xs := [.tmp 11, .tmp 12, .tmp 13]) (ps := [(.agg (c_2 l)), (pS b), (pI a)]) (T := 62) (ds := [(.ints .u8 b), (.int .i64 (rs0 l a).f0), (.int .i64 (rs0 l a).f1)]) (g := .func 17) rfl rfl (lt_ok rfl) rfl p_7 rfl (.cons (.agg (.cons (.d _) (.cons (.d _) (.cons (.d _) (.cons (.d _) (.cons (.d _) .nil)))))) (.cons (.one (.d _)) (.cons (.one (.d _)) .nil))) (ok_spec_l11New l b a) rfl) ?_
 refine TL.rl [(9, (.one (.ptr 14 0)))] [] ?_
 refine T.sg ?_
 refine TL.rx 1 [(15, (.one (.ptr 14 0)))] [] ?_
 have nn1 := @bf b p_5 (rs0 l a)
 refine TL.c (Step.x2 14 (ok_spec_l11Var b (rs0 l a) p_5 p_1)) ?_
 refine TL.rl [(10, (.one (.ptr 10 0)))] [(10, (26, [cI (aa b (rs0 l a)).2, cI 0, .nil, cI 0, .nil]))] ?_
 refine T.sg ?_
 refine TL.rx 1 [(18, (.one (.ptr 14 0)))] [] ?_
 have nn2 := @bf b p_5 (aa b (rs0 l a)).1
 refine TL.c (Step.x2 14 (ok_spec_l11Var b (aa b (rs0 l a)).1 p_5 p_1)) ?_
 refine TL.rl [] [(10, (26, [cI (aa b (rs0 l a)).2, cI (aa b (aa b (rs0 l a)).1).2, .nil, cI 0, .nil]))] ?_
 refine T.sg ?_
 refine TL.rx 1 [(21, (.one (.ptr 14 0)))] [] ?_
 have nn3 := rdRaw_len b (aa b (aa b (rs0 l a)).1).1 32
 refine TL.c (Step.x2 14 (ok_spec_l11Raw b (aa b (aa b (rs0 l a)).1).1 p_5 p_1)) ?_
 refine TL.rl [] [(10, (26, [cI (aa b (rs0 l a)).2, cI (aa b (aa b (rs0 l a)).1).2, .row 4022 [], cI 0, .nil]))] ?_
 refine T.sg ?_
 refine TL.rx 1 [(24, (.one (.ptr 14 0)))] [] ?_
 have nn4 := @bf b p_5 (af b (aa b (aa b (rs0 l a)).1).1 32).1
 refine TL.c (Step.x2 14 (ok_spec_l11Var b (af b (aa b (aa b (rs0 l a)).1).1 32).1 p_5 p_1)) ?_
 refine TL.rl [] [(10, (26, [cI (aa b (rs0 l a)).2, cI (aa b (aa b (rs0 l a)).1).2, .row 4022 [], cI (aa b (af b (aa b (aa b (rs0 l a)).1).1 32).1).2, .nil]))] ?_
 refine T.sg ?_
 refine TL.rx 6 [(27, (.one (.ptr 14 0))), (32, (pB (decide (l.f0 ≤ (aa b (af b (aa b (aa b (rs0 l a)).1).1 32).1).2))))] [] ?_
 refine TL.c (Step.x2 14 (ok_spec_l11Fail (decide ((aa b (af b (aa b (aa b (rs0 l a)).1).1 32).1).2 < l.f0)) b (aa b (af b (aa b (aa b (rs0 l a)).1).1 32).1).1 (decide (l.f0 ≤ (aa b (af b (aa b (aa b (rs0 l a)).1).1 32).1).2)) 5 p_5 p_1 p_18)) ?_
 refine TL.nil (T.sg ?_)
 refine TL.rx 1 [(34, (.one (.ptr 14 0)))] [] ?_
 have nn5 := rdRaw_len b (ae (aa b (af b (aa b (aa b (rs0 l a)).1).1 32).1).1 (decide ((aa b (af b (aa b (aa b (rs0 l a)).1).1 32).1).2 < l.f0)) 5) 32
 refine TL.c (Step.x2 14 (ok_spec_l11Raw b (ae (aa b (af b (aa b (aa b (rs0 l a)).1).1 32).1).1 (decide ((aa b (af b (aa b (aa b (rs0 l a)).1).1 32).1).2 < l.f0)) 5) p_5 p_1)) ?_
 refine TL.rl [] [(10, (26, (c_31 a b l)))] ?_
 refine T.seq ?_
 refine T.sr [(41, (pB (decide ((af b (ae (aa b (af b (aa b (aa b (rs0 l a)).1).1 32).1).1 (decide ((aa b (af b (aa b (aa b (rs0 l a)).1).1 32).1).2 < l.f0)) 5) 32).1.f1 ≠ 0))))] [] ?_
 refine T.ci rfl (fun h6 => ?_) (fun h6 => ?_)
 ·refine T.seq ?_
  refine T.drawX [{ dst := some 42, pv := (.agg c_58) }, { dst := some 43, pv := (.one (.ptr 14 0)) }, { dst := some 44, pv := (.one (.ptr 14 0)) }, { dst := some 45, pv := (.one (.ptr 14 2)) }, { dst := some 46, pv := (pI (af b (ae (aa b (af b (aa b (aa b (rs0 l a)).1).1 32).1).1 (decide ((aa b (af b (aa b (aa b (rs0 l a)).1).1 32).1).2 < l.f0)) 5) 32).1.f1) }, { box := some (6, (26, c_58)) }, { dst := some 7, pv := (pI 0) }, { dst := some 8, pv := (pI (af b (ae (aa b (af b (aa b (aa b (rs0 l a)).1).1 32).1).1 (decide ((aa b (af b (aa b (aa b (rs0 l a)).1).1 32).1).2 < l.f0)) 5) 32).1.f1) }] p_7 p_7 ?_ ?_
  ·refine .sk 8 ?_
   exact .nil _ _
  refine TL.wk [(6, (.one (.ptr 6 0))), (7, (pI 0)), (8, (pI (af b (ae (aa b (af b (aa b (aa b (rs0 l a)).1).1 32).1).1 (decide ((aa b (af b (aa b (aa b (rs0 l a)).1).1 32).1).2 < l.f0)) 5) 32).1.f1)), (9, (.one (.ptr 14 0))), (10, (.one (.ptr 10 0)))] [(4022, (5, (.ints .u8 (af b (aa b (aa b (rs0 l a)).1).1 32).2))), (4035, (5, (.ints .u8 (af b (ae (aa b (af b (aa b (aa b (rs0 l a)).1).1 32).1).1 (decide ((aa b (af b (aa b (aa b (rs0 l a)).1).1 32).1).2 < l.f0)) 5) 32).2)))] [(3, (46, (c_2 l))), (6, (26, c_58)), (14, (62, (c_41 a b l))), (10, (26, (c_31 a b l)))] ?_
  refine TL.nil (T.ret ?_)
  exact p_138
 refine T.skip (T.seq ?_)
 refine T.drawX [{ dst := some 47, pv := (.agg (c_31 a b l)) }, { dst := some 48, pv := (.one (.ptr 14 0)) }, { dst := some 49, pv := (.one (.ptr 14 0)) }, { dst := some 50, pv := (.one (.ptr 14 1)) }, { dst := some 51, pv := (pI (af b (ae (aa b (af b (aa b (aa b (rs0 l a)).1).1 32).1).1 (decide ((aa b (af b (aa b (aa b (rs0 l a)).1).1 32).1).2 < l.f0)) 5) 32).1.f0) }, { box := some (6, (26, (c_31 a b l))) }, { dst := some 7, pv := (pI (af b (ae (aa b (af b (aa b (aa b (rs0 l a)).1).1 32).1).1 (decide ((aa b (af b (aa b (aa b (rs0 l a)).1).1 32).1).2 < l.f0)) 5) 32).1.f0) }, { dst := some 8, pv := (pI 0) }] p_7 p_7 ?_ ?_
 ·refine .sk 8 ?_
  exact .nil _ _
 refine TL.wk [(6, (.one (.ptr 6 0))), (7, (pI (af b (ae (aa b (af b (aa b (aa b (rs0 l a)).1).1 32).1).1 (decide ((aa b (af b (aa b (aa b (rs0 l a)).1).1 32).1).2 < l.f0)) 5) 32).1.f0)), (8, (pI 0))] [(4022, (5, (.ints .u8 (af b (aa b (aa b (rs0 l a)).1).1 32).2))), (4035, (5, (.ints .u8 (af b (ae (aa b (af b (aa b (aa b (rs0 l a)).1).1 32).1).1 (decide ((aa b (af b (aa b (aa b (rs0 l a)).1).1 32).1).2 < l.f0)) 5) 32).2)))] [(3, (46, (c_2 l))), (6, (26, (c_31 a b l))), (14, (62, (c_41 a b l))), (10, (26, (c_31 a b l)))] ?_
 refine TL.nil (T.ret ?_)
 exact p_152
theorem ok_spec_BitsSize (n : Int) (h0_ : n ≤ 9223372036854775807) : RO Tryz.prog 101 [.one (.int .i64 n)] [(false, [.rd (.int .i64 (bitsSize n))])] := by
 refine RO.intro Tryz.func101 rfl 9 rfl (le_ok rfl) fun w Z => ?_
 refine T.sr [(2, (pI 0))] [] ?_
 refine T.seq ?_
 refine T.sr [(4, (pB (decide (n < 1))))] [] ?_
 refine T.ci rfl (fun h1 => ?_) (fun h1 => ?_)
 ·refine T.sr [(2, (pI 0))] [] ?_
  refine T.ret ?_
  exact p_159
 refine T.skip (T.sg ?_)
 refine TL.rx 1 [(5, (pI n))] [] ?_
 refine TL.sb (n - 1) ?_
 refine TL.c (Step.bin (r := .int .i64 ((n - 1) / 8)) rfl rfl (lt_ok rfl) rfl rfl (Bin.quo (k := .i64) (a := (n - 1)) (b := 8) (by decide) p_79)) ?_
 refine TL.ad (((n - 1) / 8) + 1) ?_
 refine TL.rl [(2, (pI (((n - 1) / 8) + 1)))] [] ?_
 refine T.ret ?_
 exact p_159
theorem ok_spec_BitsHas (b : List Int) (i : Int) (h0_ : U8s b) (h1_ : b.length ≤ 17592186044416) (h2_ : i ≤ 9223372036854775807) : RO Tryz.prog 129 [.one (.ints .u8 b), .one (.int .i64 i)] [(false, [.rd (.bool (bitHas b i))])] := by
 refine RO.intro Tryz.func129 rfl 27 rfl (le_ok rfl) fun w Z => ?_
 refine T.bnd 0 0 rfl rfl fun hb_0_0 => ?_
 simp only [D.size, List.length_map] at hb_0_0
 have hu_ := getD_u8 h0_ (i / 8).toNat
 have hp_ := div_pow_bd hu_.1 hu_.2 (i % 8).toNat
 refine T.sr [(4, (pB false))] [] ?_
 refine T.sg ?_
 refine TL.rx 3 [(7, (pB (decide (0 ≤ i))))] [] ?_
 rcases Bool.eq_false_or_eq_true (decide (0 ≤ i)) with hb1 | hb1
 ·refine TL.known 7 hb1 rfl ?_
  have hb1' := hb1
  replace hb1' := of_decide_eq_true hb1'
  refine TL.rx 1 [(8, (pI i))] [] ?_
  refine TL.gy 7 (Step.bin (r := .int .i64 (i / 8)) rfl rfl (lt_ok rfl) rfl rfl (Bin.quo (k := .i64) (a := i) (b := 8) (by decide) p_67)) ?_
  refine TL.rx 1 [(10, (pS b))] [] ?_
  refine TL.gy 7 (Step.ln 5 1 (.ints .u8 b)) ?_
  refine TL.rx 3 [(14, (pB (decide ((i / 8) < (b.length : Int)))))] [] ?_
  rcases Bool.eq_false_or_eq_true (decide ((i / 8) < (b.length : Int))) with hb2 | hb2
  ·refine TL.known 14 hb2 rfl ?_
   have hb2' := hb2
   replace hb2' := of_decide_eq_true hb2'
   refine TL.rx 2 [(15, (pS b)), (16, (pI i))] [] ?_
   refine TL.gy 14 (Step.bin (r := .int .i64 (i / 8)) rfl rfl (lt_ok rfl) rfl rfl (Bin.quo (k := .i64) (a := i) (b := 8) (by decide) p_67)) ?_
   refine TL.gy 14 (Step.index (e := 5) (z := 1) (i := (i / 8)) rfl rfl (lt_ok rfl) p_7 rfl rfl rfl (lt_ok rfl) rfl p_64 (by simp only [D.size]; first | omega | exact hp_.1 | exact hp_.2 | (simp; omega))) ?_
   refine TL.gy 14 (Step.load (e := (.int .u8 (b.getD (i / 8).toNat 0))) rfl rfl (lt_ok rfl) p_7 rfl rfl) ?_
   refine TL.gy 14 (Step.conv (c := (b.getD (i / 8).toNat 0)) rfl rfl (lt_ok rfl) p_7 p_7 rfl (wrap_ok p_64 p_64)) ?_
   refine TL.rx 1 [(21, (pI i))] [] ?_
   refine TL.gy 14 (Step.bin (r := .int .i64 (i % 8)) rfl rfl (lt_ok rfl) rfl rfl (Bin.rem (k := .i64) (a := i) (b := 8) (by decide) (Int.tmod_eq_emod_of_nonneg p_64))) ?_
   refine TL.gy 14 (Step.bin (r := .int .i64 ((b.getD (i / 8).toNat 0) / 2 ^ ((i % 8)).toNat)) rfl rfl (lt_ok rfl) rfl rfl (Bin.shr (k := .i64) (k' := .i64) (a := (b.getD (i / 8).toNat 0)) (b := (i % 8)) p_64 (shr_ok p_64 (by show _ < ((64 : Nat) : Int); first | omega | exact hp_.1 | exact hp_.2 | (simp; omega))))) ?_
   refine TL.gy 14 (Step.bin (r := .int .i64 (((b.getD (i / 8).toNat 0) / 2 ^ ((i % 8)).toNat) % 2)) rfl rfl (lt_ok rfl) rfl rfl (Bin.rem (k := .i64) (a := ((b.getD (i / 8).toNat 0) / 2 ^ ((i % 8)).toNat)) (b := 2) (by decide) (Int.tmod_eq_emod_of_nonneg p_64))) ?_
   refine TL.rl [(4, (pB (decide ((((b.getD (i / 8).toNat 0) / 2 ^ ((i % 8)).toNat) % 2) = 1))))] [] ?_
   refine T.ret ?_
   exact p_148
  refine TL.known 14 hb2 rfl ?_
  have hb2' := hb2
  replace hb2' := of_decide_eq_false hb2'
  refine TL.rl [(4, (pB false))] [] ?_
  refine T.ret ?_
  exact p_148
 refine TL.known 7 hb1 rfl ?_
 have hb1' := hb1
 replace hb1' := of_decide_eq_false hb1'
 refine TL.rl [(4, (pB false))] [] ?_
 refine T.ret ?_
 exact p_148
theorem ok_spec_BitsList (b : List Int) (h0_ : U8s b) (h1_ : b.length ≤ 1099511627776) : RO Tryz.prog 103 [.one (.ints .u8 b)] [(false, [.own 3 (.ints .i64 (bitList b))])] := by
 refine RO.intro Tryz.func103 rfl 21 rfl (le_ok rfl) fun w Z => ?_
 refine T.bnd 0 0 rfl rfl fun hb_0_0 => ?_
 simp only [D.size, List.length_map] at hb_0_0
 refine T.sr [(2, (.one (.nil)))] [] ?_
 refine T.sg ?_
 refine TL.c (Step.lt 3 1 8 [] [] (.ints .i64 [])) ?_
 refine TL.rl [(3, (.one (.row 5 [])))] [] ?_
 refine T.seq ?_
 refine T.sr [(4, (pI 0))] [] ?_
 refine T.block ?_
 refine T.loop (ι := Nat × (List Int)) (fun xx_ => { tm := [(0, (pS b)), (2, (.one (.nil))), (4, (pI ((xx_.1) : Int))), (3, (.one (.row 5 [])))], rows := [(5, (3, (.ints .i64 (xx_.2))))], boxes := [] }) (fun xx_ => (xx_.1) ≤ 8 * b.length ∧ (xx_.2) ++ bitsGo b (8 * b.length - (xx_.1)) (xx_.1) = bitList b ∧ (xx_.2).length ≤ (xx_.1)) (fun xx_ => 8 * b.length - (xx_.1)) (0, []) ?_ ?_ ?_
 · refine Env.le_mk ⟨rfl, rfl, ?_, rfl, trivial⟩ ⟨?_, trivial⟩ trivial <;> exact p_56
 · (dsimp only; refine ⟨Nat.zero_le _, rfl, Nat.zero_le _⟩)
 intro xx_ hx
 obtain ⟨i, o⟩ := xx_
 try dsimp only at hx ⊢
 obtain ⟨hx1, hx2, hx3⟩ := hx
 refine T.seq (T.sg ?_)
 refine TL.rx 2 [(6, (pI (i : Int))), (7, (pS b))] [] ?_
 refine TL.c (Step.ln 5 1 (.ints .u8 b)) ?_
 refine TL.ml (8 * (b.length : Int)) ?_
 refine TL.rl [(10, (pB (decide ((i : Int) < (8 * (b.length : Int))))))] [] ?_
 refine T.ci rfl (fun h1 => ?_) (fun h1 => ?_)
 ·refine T.skip (T.seq (T.block (T.sg ?_)))
  refine TL.rx 2 [(13, (pS b)), (14, (pI (i : Int)))] [] ?_
  refine TL.c (Step.cz (ok_spec_BitsHas b (i : Int) p_5 p_1 (by first | omega | (have := hn_ (by first | assumption | simpa using ‹(!bitsOk b n) = false›); omega)))) ?_
  refine TL.nil ?_
  refine T.cond (b := bitHas b (i : Int)) rfl (fun h2 => ?_) (fun h2 => ?_)
  ·refine T.region ?_
   refine TL.rx 2 [(16, (.one (.row 5 []))), (17, (pI (i : Int)))] [] ?_
   refine TL.c (Step.lt 3 1 8 [.tmp 17] [[cI (i : Int)]] (.ints .i64 [(i : Int)])) ?_
   refine TL.c (Step.ap 3 1 8 (.ints .i64 [(i : Int)]) (.ints .i64 (o ++ [(i : Int)])) (.copy rfl rfl rfl p_91)) ?_
   refine TL.rl [(3, (.one (.row 5 [])))] [] ?_
   refine T.region ?_
   refine TL.rx 1 [(11, (pI (i : Int)))] [] ?_
   refine TL.ad ((i : Int) + 1) ?_
   refine TL.rl [(4, (pI ((i : Int) + 1)))] [] ?_
   refine ⟨(i + 1, o ++ [(i : Int)]), by (refine ⟨by omega, ?_, by simp only [List.length_append, List.length_cons, List.length_nil]; omega⟩; rw [← hx2, bitsGo_next b (n := 8 * b.length) (i := i) p_4]; first | (rw [if_pos p_5]; simp only [List.append_assoc]; done) | (rw [if_neg (by simp [*])]; rfl)), by (dsimp only; omega), Env.le_mk ⟨rfl, rfl, ?_, rfl, trivial⟩ ⟨?_, trivial⟩ trivial⟩ <;> exact p_56
  refine T.skip (T.region ?_)
  refine TL.rx 1 [(11, (pI (i : Int)))] [] ?_
  refine TL.ad ((i : Int) + 1) ?_
  refine TL.rl [(4, (pI ((i : Int) + 1)))] [] ?_
  refine ⟨(i + 1, o), by (refine ⟨by omega, ?_, by simp only [List.length_append, List.length_cons, List.length_nil]; omega⟩; rw [← hx2, bitsGo_next b (n := 8 * b.length) (i := i) p_4]; first | (rw [if_pos p_5]; simp only [List.append_assoc]; done) | (rw [if_neg (by simp [*])]; rfl)), by (dsimp only; omega), Env.le_mk ⟨rfl, rfl, ?_, rfl, trivial⟩ ⟨rfl, trivial⟩ trivial⟩ <;> exact p_56
 refine T.exit ?_
 refine T.sr [(2, (.one (.row 5 [])))] [] ?_
 refine T.ret ?_
 exact p_167
theorem ok_spec_BitsOk (b : List Int) (n : Int) (h0_ : U8s b) (h1_ : b.length ≤ 1099511627776) : RO Tryz.prog 102 [.one (.ints .u8 b), .one (.int .i64 n)] [(false, [.rd (.bool (bitsOk b n))])] := by
 refine RO.intro Tryz.func102 rfl 31 rfl (le_ok rfl) fun w Z => ?_
 refine T.bnd 0 0 rfl rfl fun hb_0_0 => ?_
 simp only [D.size, List.length_map] at hb_0_0
 refine T.sr [(4, (pB false))] [] ?_
 refine T.seq (T.sg ?_)
 refine TL.rx 1 [(6, (pI n))] [] ?_
 refine TL.c (Step.cz (ok_spec_l02Signers n)) ?_
 refine TL.rx 2 [(9, (pB (!(decide (1 ≤ n ∧ n ≤ 10)))))] [] ?_
 rcases Bool.eq_false_or_eq_true (!(decide (1 ≤ n ∧ n ≤ 10))) with hb1 | hb1
 ·refine TL.known 9 hb1 rfl ?_
  have hb1' := hb1
  replace hb1' : (decide (1 ≤ n ∧ n ≤ 10)) = false := by simpa only [Bool.not_eq_true', Bool.not_eq_false'] using hb1'
  replace hb1' := of_decide_eq_false hb1'
  refine TL.rl [(15, (pB true))] [] ?_
  refine T.ct ?_
  refine T.sr [(4, (pB false))] [] ?_
  refine T.ret ?_
  exact p_164
 refine TL.known 9 hb1 rfl ?_
 have hb1' := hb1
 replace hb1' : (decide (1 ≤ n ∧ n ≤ 10)) = true := by simpa only [Bool.not_eq_true', Bool.not_eq_false'] using hb1'
 replace hb1' := of_decide_eq_true hb1'
 refine TL.rx 1 [(10, (pS b))] [] ?_
 refine TL.gy 9 (Step.ln 5 1 (.ints .u8 b)) ?_
 refine TL.rx 1 [(12, (pI n))] [] ?_
 refine TL.gy 9 (Step.cz (ok_spec_BitsSize n p_1)) ?_
 refine TL.rl [(15, (pB (decide ((b.length : Int) ≠ (bitsSize n)))))] [] ?_
 refine T.ci rfl (fun h2 => ?_) (fun h2 => ?_)
 ·refine T.sr [(4, (pB false))] [] ?_
  refine T.ret ?_
  exact p_164
 refine T.skip (T.sg ?_)
 refine TL.rx 1 [(16, (pS b))] [] ?_
 have nn3 := bitList_len b
 refine TL.c (Step.cz (ok_spec_BitsList b p_5 p_1)) ?_
 refine TL.rl [(5, (.one (.row 1017 [])))] [] ?_
 refine T.sg ?_
 refine TL.rx 1 [(18, (.one (.row 1017 [])))] [] ?_
 refine TL.c (Step.ln 3 1 (.ints .i64 (bitList b))) ?_
 refine TL.rx 2 [(21, (pB (decide (((bitList b).length : Int) = 0))))] [] ?_
 rcases Bool.eq_false_or_eq_true (decide (((bitList b).length : Int) = 0)) with hb4 | hb4
 ·refine TL.known 21 hb4 rfl ?_
  have hb4' := hb4
  replace hb4' := of_decide_eq_true hb4'
  refine TL.rl [(4, (pB true))] [] ?_
  refine T.ret ?_
  exact p_164
 refine TL.known 21 hb4 rfl ?_
 have hb4' := hb4
 replace hb4' := of_decide_eq_false hb4'
 refine TL.rx 2 [(22, (.one (.row 1017 []))), (23, (.one (.row 1017 [])))] [] ?_
 refine TL.gy 21 (Step.ln 3 1 (.ints .i64 (bitList b))) ?_
 refine TL.gy 21 (Step.bin (r := .int .i64 (((bitList b).length : Int) - 1)) rfl rfl (lt_ok rfl) rfl rfl (Bin.sub (a := ((bitList b).length : Int)) (b := 1) p_54)) ?_
 refine TL.gy 21 (Step.index_row (e := 3) (z := 1) (i := (((bitList b).length : Int) - 1)) rfl rfl (lt_ok rfl) p_7 rfl rfl rfl rfl (lt_ok rfl) rfl p_23 p_99) ?_
 refine TL.gy 21 (Step.load_row (c := cI ((bitList b).getD (((bitList b).length : Int) - 1).toNat 0)) rfl rfl (lt_ok rfl) p_7 rfl rfl rfl) ?_
 refine TL.rl [(4, (pB (decide (((bitList b).getD (((bitList b).length : Int) - 1).toNat 0) < n))))] [] ?_
 refine T.ret ?_
 exact p_164
theorem ok_spec_GetBits (b : List Int) (a : Int) (n : Int) (h0_ : U8s b) (h1_ : b.length ≤ 1048576) : RO Tryz.prog 62 [.one (.ints .u8 b), .one (.int .i64 a), .one (.int .i64 n)] [(false, [.own 5 (.ints .u8 (ai b a n).1)]), (false, [.rd (.int .i64 (ai b a n).2.1)]), (false, [.rd (.int .i64 (ai b a n).2.2)])] := by
 refine RO.intro Tryz.func62 rfl 33 rfl (le_ok rfl) fun w Z => ?_
 refine T.bnd 0 0 rfl rfl fun hb_0_0 => ?_
 simp only [D.size, List.length_map] at hb_0_0
 have hu_ := getRaw_u8 h0_ a (bitsSize n)
 refine T.sr [(6, (.one (.nil))), (7, (pI 0)), (8, (pI 0))] [] ?_
 refine T.seq (T.sg ?_)
 refine TL.rx 1 [(12, (pI n))] [] ?_
 refine TL.c (Step.cz (ok_spec_l02Signers n)) ?_
 refine TL.rl [(14, (pB (!(decide (1 ≤ n ∧ n ≤ 10)))))] [] ?_
 refine T.cni rfl (fun h1 => ?_) (fun h1 => ?_)
 ·refine T.sr [(6, (.one (.nil))), (7, (pI 0)), (8, (pI 5))] [] ?_
  refine T.ret ?_
  exact p_130
 refine T.skip (T.sg ?_)
 refine TL.rx 3 [(16, (pS b)), (17, (pI a)), (18, (pI n))] [] ?_
 refine TL.c (Step.cz (ok_spec_BitsSize n p_1)) ?_
 have nn2 := getRaw_bd b a (bitsSize n)
 refine TL.c (Step.cz (ok_spec_GetRaw b a (bitsSize n) p_1)) ?_
 refine TL.rl [(9, (.one (.row 1020 []))), (10, (pI (au b a (bitsSize n)).2.1)), (11, (pI (au b a (bitsSize n)).2.2))] [] ?_
 refine T.seq ?_
 refine T.sr [(25, (pB (decide ((au b a (bitsSize n)).2.2 ≠ 0))))] [] ?_
 refine T.ci rfl (fun h3 => ?_) (fun h3 => ?_)
 ·refine T.sr [(6, (.one (.nil))), (7, (pI 0)), (8, (pI (au b a (bitsSize n)).2.2))] [] ?_
  refine T.ret ?_
  exact p_130
 refine T.skip (T.seq (T.sg ?_))
 refine TL.rx 2 [(27, (.one (.row 1020 []))), (28, (pI n))] [] ?_
 refine TL.c (Step.cz (ok_spec_BitsOk (au b a (bitsSize n)).1 n p_5 p_1)) ?_
 refine TL.rl [(30, (pB (!(bitsOk (au b a (bitsSize n)).1 n))))] [] ?_
 refine T.cn rfl (fun h4 => ?_) (fun h4 => ?_)
 ·refine T.sr [(6, (.one (.nil))), (7, (pI 0)), (8, (pI 4))] [] ?_
  refine T.ret ?_
  exact p_130
 refine T.skip ?_
 refine T.sr [(6, (.one (.row 1020 []))), (7, (pI (au b a (bitsSize n)).2.1)), (8, (pI 0))] [] ?_
 refine T.ret ?_
 exact p_171
theorem ok_spec_BitsCount (b : List Int) (h0_ : U8s b) (h1_ : b.length ≤ 1099511627776) : RO Tryz.prog 63 [.one (.ints .u8 b)] [(false, [.rd (.int .i64 ((bitList b).length : Int))])] := by
 refine RO.intro Tryz.func63 rfl 6 rfl (le_ok rfl) fun w Z => ?_
 refine T.bnd 0 0 rfl rfl fun hb_0_0 => ?_
 simp only [D.size, List.length_map] at hb_0_0
 refine T.sr [(2, (pI 0))] [] ?_
 refine T.sg ?_
 refine TL.rx 1 [(3, (pS b))] [] ?_
 have nn1 := bitList_len b
 refine TL.c (Step.cz (ok_spec_BitsList b p_5 p_1)) ?_
 refine TL.c (Step.ln 3 1 (.ints .i64 (bitList b))) ?_
 refine TL.rl [(2, (pI ((bitList b).length : Int)))] [] ?_
 refine T.ret ?_
 exact ⟨_, (.cons rfl .nil), rfl, _, (.r rfl .nil)⟩
theorem ok_spec_l12Get (b : List Int) (s : SRS) (l : SLimits) (h0_ : U8s b) (h1_ : b.length ≤ 1048576) : BX Tryz.prog 19 [.bx, .rd (.agg [(.int .i64 l.f0), (.int .i64 l.f1), (.int .i64 l.f2), (.int .i64 l.f3), (.int .i64 l.f4)])] 62 [.rd (.ints .u8 b), .rd (.int .i64 s.f0), .rd (.int .i64 s.f1)] [.rd (.ints .u8 b), .rd (.int .i64 (rdQc l b s).1.f0), .rd (.int .i64 (rdQc l b s).1.f1)] [(true, [.rd (.int .i64 (rdQc l b s).2.f0), .rd (.int .i64 (rdQc l b s).2.f1), .own 5 (.ints .u8 (rdQc l b s).2.f2), .own 5 (.ints .u8 (rdQc l b s).2.f3), .own 24 (.bss (rdQc l b s).2.f4)])] := by
 refine BX.intro Tryz.func19 rfl 64 rfl (le_ok rfl) (le_ok rfl) fun w Z IX pin hp => ?_
 refine T.sr [(3, (.one (.ptr 3 0))), (4, (.one (.ptr 4 0)))] [(3, (46, (c_2 l))), (4, (29, c_46))] ?_
 refine T.sg ?_
 refine TL.rx 1 [(10, (.one (.ptr 800 0)))] [] ?_
 have nn1 := @bf b p_5 s
 refine TL.c (Step.x2 800 (ok_spec_l11Var b s p_5 p_1)) ?_
 refine TL.rl [(5, (.one (.ptr 5 0)))] [(5, (29, [cI (aa b s).2, cI 0, .nil, .nil, .nil]))] ?_
 refine T.sg ?_
 refine TL.rx 1 [(13, (.one (.ptr 800 0)))] [] ?_
 have nn2 := @bf b p_5 (aa b s).1
 refine TL.c (Step.x2 800 (ok_spec_l11Var b (aa b s).1 p_5 p_1)) ?_
 refine TL.rl [] [(5, (29, [cI (aa b s).2, cI (aa b (aa b s).1).2, .nil, .nil, .nil]))] ?_
 refine T.sg ?_
 refine TL.rx 1 [(16, (.one (.ptr 800 0)))] [] ?_
 have nn3 := rdRaw_len b (aa b (aa b s).1).1 32
 refine TL.c (Step.x2 800 (ok_spec_l11Raw b (aa b (aa b s).1).1 p_5 p_1)) ?_
 refine TL.rl [] [(5, (29, (c_70 b s)))] ?_
 refine T.seq ?_
 refine T.sr [(23, (pB (decide ((af b (aa b (aa b s).1).1 32).1.f1 = 0))))] [] ?_
 refine T.ci rfl (fun h4 => ?_) (fun h4 => ?_)
 ·refine T.seq ?_
  have nn5 := @getBits_u8 b p_5 (af b (aa b (aa b s).1).1 32).1.f0 l.f0
  have nn6 := getBits_len b (af b (aa b (aa b s).1).1 32).1.f0 l.f0
  refine T.drawX [{ dst := some 25, pv := (.one (.ptr 800 0)) }, { dst := some 26, pv := (.one (.ptr 800 0)) }, { dst := some 27, pv := (.one (.ptr 800 0)) }, { dst := some 28, pv := (pS b) }, { dst := some 29, pv := (.one (.ptr 800 0)) }, { dst := some 30, pv := (.one (.ptr 800 0)) }, { dst := some 31, pv := (.one (.ptr 800 1)) }, { dst := some 32, pv := (pI (af b (aa b (aa b s).1).1 32).1.f0) }, { dst := some 33, pv := (.one (.ptr 3 0)) }, { dst := some 34, pv := (pI l.f0) }, { dst := some 35, pv := (.tup [(false, [.row 1035 []]), (false, (c_63 b l s)), (false, (c_64 b l s))]), rows := [(1035, (5, (.ints .u8 (ai b (af b (aa b (aa b s).1).1 32).1.f0 l.f0).1)))] }, { dst := some 24, pv := (.tup [(false, [.row 1035 []]), (false, (c_63 b l s)), (false, (c_64 b l s))]) }, { dst := some 36, pv := (.one (.row 1035 [])) }, { dst := some 37, pv := (pI (ai b (af b (aa b (aa b s).1).1 32).1.f0 l.f0).2.1) }, { dst := some 38, pv := (pI (ai b (af b (aa b (aa b s).1).1 32).1.f0 l.f0).2.2) }, { dst := some 6, pv := (.one (.row 1035 [])) }, { dst := some 7, pv := (pI (ai b (af b (aa b (aa b s).1).1 32).1.f0 l.f0).2.1) }, { dst := some 8, pv := (pI (ai b (af b (aa b (aa b s).1).1 32).1.f0 l.f0).2.2) }] p_7 p_7 ?_ ?_
  ·refine .sk 10 ?_
   refine .cons (fun E A => OpStep.plain rfl (Step.call (f := 62) (xs := [.tmp 28, .tmp 32, .tmp 34]) (ps := [(pS b), (pI (af b (aa b (aa b s).1).1 32).1.f0), (pI l.f0)]) false (g := .func 62) (t := 35) rfl rfl p_24 rfl p_7 (evs_cons (A.g 28) (evs_cons (A.g 32) (evs_cons (A.g 34) (rfl)))) (.cons (.one (.d _)) (.cons (.one (.d _)) (.cons (.one (.d _)) .nil))) (ok_spec_GetBits b (af b (aa b (aa b s).1).1 32).1.f0 l.f0 p_5 p_1) (.inr rfl) (AtX.frs A) (fun x hx => by have := hp x hx; omega) rfl)) ?_
   refine .sk 7 ?_
   exact .nil _ _
  refine TL.wk [(0, (.one (.ptr 800 0))), (4, (.one (.ptr 4 0))), (5, (.one (.ptr 5 0))), (6, (.one (.row 1035 []))), (7, (pI (ai b (af b (aa b (aa b s).1).1 32).1.f0 l.f0).2.1)), (8, (pI (ai b (af b (aa b (aa b s).1).1 32).1.f0 l.f0).2.2))] [(4017, (5, (.ints .u8 (af b (aa b (aa b s).1).1 32).2))), (1035, (5, (.ints .u8 (ai b (af b (aa b (aa b s).1).1 32).1.f0 l.f0).1)))] [(800, (62, (c_61 b s))), (3, (46, (c_2 l))), (4, (29, c_46)), (5, (29, (c_70 b s)))] ?_
  refine TL.nil ?_
  refine T.sr [] [(800, (62, [cS b, cI (af b (aa b (aa b s).1).1 32).1.f0, cI (ai b (af b (aa b (aa b s).1).1 32).1.f0 l.f0).2.2]))] ?_
  refine T.sr [] [(800, (62, (c_54 b l s)))] ?_
  refine T.rr [] [(5, (29, [cI (aa b s).2, cI (aa b (aa b s).1).2, .row 4017 [], .row 1035 [], .nil]))] ?_
  refine T.seq (T.sg ?_)
  refine TL.rx 2 [(50, (.one (.row 1035 [])))] [] ?_
  have nn7 := bitList_len (ai b (af b (aa b (aa b s).1).1 32).1.f0 l.f0).1
  refine TL.c (Step.call (f := 63) (xs := [.tmp 50]) (ps := [(.one (.row 1035 []))]) false (g := .func 63) rfl rfl (lt_ok rfl) rfl p_7 rfl (.cons (.one (.row rfl rfl rfl rfl)) .nil) (ok_spec_BitsCount (ai b (af b (aa b (aa b s).1).1 32).1.f0 l.f0).1 (by first | assumption | exact fun x hx => by cases hx) p_112) (.inr rfl) rfl (fun x hx => by have := hp x hx; omega) rfl) ?_
  refine TL.rl [(9, (pI ((bitList (ai b (af b (aa b (aa b s).1).1 32).1.f0 l.f0).1).length : Int)))] [] ?_
  refine T.block ?_
  refine T.nilrow 5 4 100504 24 29 (.bss []) [cI (aa b s).2, cI (aa b (aa b s).1).2, .row 4017 [], .row 1035 [], .nil] rfl rfl rfl (fun x hx => by have := hp x hx; omega) rfl rfl trivial ?_
  refine T.loop (ι := Nat) (fun xx_ => { tm := [(0, (.one (.ptr 800 0))), (4, (.one (.ptr 4 0))), (5, (.one (.ptr 5 0))), (9, (pI (((bitList (ai b (af b (aa b (aa b s).1).1 32).1.f0 l.f0).1).length : Int) - (xx_ : Int))))], rows := [(4017, (5, (.ints .u8 (af b (aa b (aa b s).1).1 32).2))), (1035, (5, (.ints .u8 (ai b (af b (aa b (aa b s).1).1 32).1.f0 l.f0).1))), (100504, (24, (.bss (av b (⟨(ai b (af b (aa b (aa b s).1).1 32).1.f0 l.f0).2.1, (ai b (af b (aa b (aa b s).1).1 32).1.f0 l.f0).2.2⟩ : SRS) xx_).2)))], boxes := [(800, (62, [cS b, cI (av b (⟨(ai b (af b (aa b (aa b s).1).1 32).1.f0 l.f0).2.1, (ai b (af b (aa b (aa b s).1).1 32).1.f0 l.f0).2.2⟩ : SRS) xx_).1.f0, cI (av b (⟨(ai b (af b (aa b (aa b s).1).1 32).1.f0 l.f0).2.1, (ai b (af b (aa b (aa b s).1).1 32).1.f0 l.f0).2.2⟩ : SRS) xx_).1.f1])), (3, (46, (c_2 l))), (4, (29, c_46)), (5, (29, [cI (aa b s).2, cI (aa b (aa b s).1).2, .row 4017 [], .row 1035 [], .row 100504 []]))] }) (fun xx_ => xx_ ≤ (bitList (ai b (af b (aa b (aa b s).1).1 32).1.f0 l.f0).1).length) (fun xx_ => (bitList (ai b (af b (aa b (aa b s).1).1 32).1.f0 l.f0).1).length - xx_) 0 ?_ ?_ ?_
  · refine Env.le_mk ⟨rfl, rfl, rfl, ?_, trivial⟩ ⟨rfl, rfl, ?_, trivial⟩ ⟨?_, rfl, rfl, rfl, trivial⟩ <;> exact p_60
  · exact Nat.zero_le _
  intro i hx
  try dsimp only at hx ⊢
  have hl_ := rdTags_len b (⟨(ai b (af b (aa b (aa b s).1).1 32).1.f0 l.f0).2.1, (ai b (af b (aa b (aa b s).1).1 32).1.f0 l.f0).2.2⟩ : SRS) i
  have hz_ : (bitList []).length = 0 := rfl
  have hn_ := bitList_len (ai b (af b (aa b (aa b s).1).1 32).1.f0 l.f0).1
  refine T.seq ?_
  refine T.sr [(53, (pB (decide (0 < (((bitList (ai b (af b (aa b (aa b s).1).1 32).1.f0 l.f0).1).length : Int) - (i : Int))))))] [] ?_
  refine T.ci rfl (fun h8 => ?_) (fun h8 => ?_)
  ·refine T.skip (T.seq (T.block ?_))
   have nn9 := rdRaw_len b (av b (⟨(ai b (af b (aa b (aa b s).1).1 32).1.f0 l.f0).2.1, (ai b (af b (aa b (aa b s).1).1 32).1.f0 l.f0).2.2⟩ : SRS) i).1 32
   refine T.drawX [{ dst := some 56, pv := (.one (.ptr 5 4)) }, { dst := some 57, pv := (.one (.row 100504 [])) }, { dst := some 58, pv := (.one (.ptr 800 0)) }, { dst := some 59, pv := (.one (.row 4059 [])), rows := [(4059, (5, (.ints .u8 (af b (av b (⟨(ai b (af b (aa b (aa b s).1).1 32).1.f0 l.f0).2.1, (ai b (af b (aa b (aa b s).1).1 32).1.f0 l.f0).2.2⟩ : SRS) i).1 32).2)))], box := some (800, (62, (c_17 b i l s))) }, { dst := some 60, pv := (.one (.row 60 [])), rows := [(60, (24, (.bss [(af b (av b (⟨(ai b (af b (aa b (aa b s).1).1 32).1.f0 l.f0).2.1, (ai b (af b (aa b (aa b s).1).1 32).1.f0 l.f0).2.2⟩ : SRS) i).1 32).2])))], dead := [4059] }, { dst := some 61, pv := (.one (.row 500061 [])), rows := [(500061, (24, (.bss ((av b (⟨(ai b (af b (aa b (aa b s).1).1 32).1.f0 l.f0).2.1, (ai b (af b (aa b (aa b s).1).1 32).1.f0 l.f0).2.2⟩ : SRS) i).2 ++ [(af b (av b (⟨(ai b (af b (aa b (aa b s).1).1 32).1.f0 l.f0).2.1, (ai b (af b (aa b (aa b s).1).1 32).1.f0 l.f0).2.2⟩ : SRS) i).1 32).2]))))], dead := [100504, 60] }, { dst := some 62, pv := (.one (.ptr 5 4)) }, { box := some (5, (29, [cI (aa b s).2, cI (aa b (aa b s).1).2, .row 4017 [], .row 1035 [], .row 500061 []])) }] p_7 p_7 ?_ ?_
   ·refine .sk 3 ?_
    refine .cons (fun E A => OpStep.plain rfl (Step.callXX2 (b := 800) (xs := [.tmp 58]) (ps := [(.one (.ptr 800 0))]) (bps := (c_44 b i l s)) (ss := []) (g := .func 61) (t := 59) (ok_spec_l11Raw b (av b (⟨(ai b (af b (aa b (aa b s).1).1 32).1.f0 l.f0).2.1, (ai b (af b (aa b (aa b s).1).1 32).1.f0 l.f0).2.2⟩ : SRS) i).1 p_5 p_1) rfl rfl p_24 rfl p_7 (evs_cons (A.g 58) (rfl)) (.cons (.bx) .nil) (A.b 800 (x := (62, _))) (.rd (.rd (.rd .nil))) rfl (handX_fresh (fun x_ hx_ => A.fresh x_ (by exact hx_))) (fun x hx => by have := hp x hx; omega) rfl p_107)) ?_
    refine .cons (fun E A => OpStep.plain rfl (Step.litX (e := 24) (z := 1) (by_ := 24) (xs := [.tmp 59]) (pss := [[.row 4059 []]]) (es := [(.ints .u8 (af b (av b (⟨(ai b (af b (aa b (aa b s).1).1 32).1.f0 l.f0).2.1, (ai b (af b (aa b (aa b s).1).1 32).1.f0 l.f0).2.2⟩ : SRS) i).1 32).2)]) (ss := [4059]) (d := (.bss [(af b (av b (⟨(ai b (af b (aa b (aa b s).1).1 32).1.f0 l.f0).2.1, (ai b (af b (aa b (aa b s).1).1 32).1.f0 l.f0).2.2⟩ : SRS) i).1 32).2])) (t := 60) rfl rfl p_24 p_7 rfl rfl (.cons (by exact (congrArg PV.flat (A.g 59 (p := (.one (.row 4059 []))))).trans rfl) .nil) p_105 (le_ok rfl) (le_ok rfl) A.fn (.row (A.r 4059 (x := (5, _))) p_105 .nil) (A.fresh _ (List.mem_singleton.2 rfl)) p_105 (fun x_ hx_ => by have := hp x_ hx_; omega) rfl trivial rfl rfl)) ?_
    refine .cons (fun E A => OpStep.plain rfl (Step.appendX (e := 24) (z := 1) (by_ := 24) (d := (.bss (av b (⟨(ai b (af b (aa b (aa b s).1).1 32).1.f0 l.f0).2.1, (ai b (af b (aa b (aa b s).1).1 32).1.f0 l.f0).2.2⟩ : SRS) i).2)) (dy := (.bss [(af b (av b (⟨(ai b (af b (aa b (aa b s).1).1 32).1.f0 l.f0).2.1, (ai b (af b (aa b (aa b s).1).1 32).1.f0 l.f0).2.2⟩ : SRS) i).1 32).2])) (d' := (.bss ((av b (⟨(ai b (af b (aa b (aa b s).1).1 32).1.f0 l.f0).2.1, (ai b (af b (aa b (aa b s).1).1 32).1.f0 l.f0).2.2⟩ : SRS) i).2 ++ [(af b (av b (⟨(ai b (af b (aa b (aa b s).1).1 32).1.f0 l.f0).2.1, (ai b (af b (aa b (aa b s).1).1 32).1.f0 l.f0).2.2⟩ : SRS) i).1 32).2]))) (ss := [60]) 500061 (t := 61) rfl rfl p_24 p_7 (A.g 57) (A.r 100504 (x := (24, _))) rfl (lt_ok rfl) (A.g 60) (.move (A.r 60 (x := (24, _)))) p_105 rfl p_21 p_21 (fun x_ hx_ => by have := hp x_ hx_; omega) (A.fresh _ (List.mem_singleton.2 rfl)) p_105 (fun x_ hx_ => by have := hp x_ hx_; omega))) ?_
    refine .sk 2 ?_
    exact .nil _ _
   refine TL.wk [(0, (.one (.ptr 800 0))), (4, (.one (.ptr 4 0))), (5, (.one (.ptr 5 0))), (9, (pI (((bitList (ai b (af b (aa b (aa b s).1).1 32).1.f0 l.f0).1).length : Int) - (i : Int))))] [(4017, (5, (.ints .u8 (af b (aa b (aa b s).1).1 32).2))), (1035, (5, (.ints .u8 (ai b (af b (aa b (aa b s).1).1 32).1.f0 l.f0).1))), (500061, (24, (.bss ((av b (⟨(ai b (af b (aa b (aa b s).1).1 32).1.f0 l.f0).2.1, (ai b (af b (aa b (aa b s).1).1 32).1.f0 l.f0).2.2⟩ : SRS) i).2 ++ [(af b (av b (⟨(ai b (af b (aa b (aa b s).1).1 32).1.f0 l.f0).2.1, (ai b (af b (aa b (aa b s).1).1 32).1.f0 l.f0).2.2⟩ : SRS) i).1 32).2]))))] [(800, (62, (c_17 b i l s))), (3, (46, (c_2 l))), (4, (29, c_46)), (5, (29, [cI (aa b s).2, cI (aa b (aa b s).1).2, .row 4017 [], .row 1035 [], .row 500061 []]))] ?_
   refine TL.ren 500061 100504 rfl (fun x hx => by have := hp x hx; omega) ?_
   refine TL.nil (T.region ?_)
   refine TL.rx 1 [(54, (pI (((bitList (ai b (af b (aa b (aa b s).1).1 32).1.f0 l.f0).1).length : Int) - (i : Int))))] [] ?_
   refine TL.sb ((((bitList (ai b (af b (aa b (aa b s).1).1 32).1.f0 l.f0).1).length : Int) - (i : Int)) - 1) ?_
   refine TL.rl [(9, (pI ((((bitList (ai b (af b (aa b (aa b s).1).1 32).1.f0 l.f0).1).length : Int) - (i : Int)) - 1)))] [] ?_
   refine ⟨i + 1, by omega, by first | omega | (dsimp only; omega), Env.le_mk ⟨rfl, rfl, rfl, ?_, trivial⟩ ⟨rfl, rfl, ?_, trivial⟩ ⟨?_, rfl, rfl, rfl, trivial⟩⟩ <;> exact p_60
  refine T.exit ?_
  refine T.sr [] [(4, (29, [cI (aa b s).2, cI (aa b (aa b s).1).2, .row 4017 [], .row 1035 [], .row 100504 []]))] ?_
  refine T.ret ?_
  exact p_154
 refine T.skip (T.seq (T.sg ?_))
 refine TL.rx 2 [(50, (.one (.nil)))] [] ?_
 have nn10 := bitList_len []
 refine TL.c (Step.call (f := 63) (xs := [.tmp 50]) (ps := [(.one (.nil))]) false (g := .func 63) rfl rfl (lt_ok rfl) rfl p_7 rfl (.cons (.one (.nil rfl rfl (by first | exact trivial | exact D.wf_nil _))) .nil) (ok_spec_BitsCount [] (by first | assumption | exact fun x hx => by cases hx) p_112) (.inr rfl) rfl (fun x hx => by have := hp x hx; omega) rfl) ?_
 refine TL.rl [(9, (pI ((bitList []).length : Int)))] [] ?_
 refine T.block ?_
 refine T.nilrow 5 4 100504 24 29 (.bss []) (c_70 b s) rfl rfl rfl (fun x hx => by have := hp x hx; omega) rfl rfl trivial ?_
 refine T.loop (ι := Nat) (fun xx_ => { tm := [(0, (.one (.ptr 800 0))), (4, (.one (.ptr 4 0))), (5, (.one (.ptr 5 0))), (9, (pI (((bitList ([] : List Int)).length : Int) - (xx_ : Int))))], rows := [(4017, (5, (.ints .u8 (af b (aa b (aa b s).1).1 32).2))), (100504, (24, (.bss (av b (af b (aa b (aa b s).1).1 32).1 xx_).2)))], boxes := [(800, (62, [cS b, cI (av b (af b (aa b (aa b s).1).1 32).1 xx_).1.f0, cI (av b (af b (aa b (aa b s).1).1 32).1 xx_).1.f1])), (3, (46, (c_2 l))), (4, (29, c_46)), (5, (29, [cI (aa b s).2, cI (aa b (aa b s).1).2, .row 4017 [], .nil, .row 100504 []]))] }) (fun xx_ => xx_ ≤ (bitList ([] : List Int)).length) (fun xx_ => (bitList ([] : List Int)).length - xx_) 0 ?_ ?_ ?_
 · refine Env.le_mk ⟨rfl, rfl, rfl, ?_, trivial⟩ ⟨rfl, ?_, trivial⟩ ⟨?_, rfl, rfl, rfl, trivial⟩ <;> exact p_60
 · exact Nat.zero_le _
 intro i hx
 try dsimp only at hx ⊢
 have hl_ := rdTags_len b (af b (aa b (aa b s).1).1 32).1 i
 have hz_ : (bitList []).length = 0 := rfl
 have hn_ := bitList_len ([] : List Int)
 refine T.seq ?_
 refine T.sr [(53, (pB (decide (0 < (((bitList ([] : List Int)).length : Int) - (i : Int))))))] [] ?_
 refine T.ci rfl (fun h11 => ?_) (fun h11 => ?_)
 ·refine T.skip (T.seq (T.block ?_))
  have nn12 := rdRaw_len b (av b (af b (aa b (aa b s).1).1 32).1 i).1 32
  refine T.drawX [{ dst := some 56, pv := (.one (.ptr 5 4)) }, { dst := some 57, pv := (.one (.row 100504 [])) }, { dst := some 58, pv := (.one (.ptr 800 0)) }, { dst := some 59, pv := (.one (.row 4059 [])), rows := [(4059, (5, (.ints .u8 (af b (av b (af b (aa b (aa b s).1).1 32).1 i).1 32).2)))], box := some (800, (62, (c_60 b i s))) }, { dst := some 60, pv := (.one (.row 60 [])), rows := [(60, (24, (.bss [(af b (av b (af b (aa b (aa b s).1).1 32).1 i).1 32).2])))], dead := [4059] }, { dst := some 61, pv := (.one (.row 500061 [])), rows := [(500061, (24, (.bss ((av b (af b (aa b (aa b s).1).1 32).1 i).2 ++ [(af b (av b (af b (aa b (aa b s).1).1 32).1 i).1 32).2]))))], dead := [100504, 60] }, { dst := some 62, pv := (.one (.ptr 5 4)) }, { box := some (5, (29, [cI (aa b s).2, cI (aa b (aa b s).1).2, .row 4017 [], .nil, .row 500061 []])) }] p_7 p_7 ?_ ?_
  ·refine .sk 3 ?_
   refine .cons (fun E A => OpStep.plain rfl (Step.callXX2 (b := 800) (xs := [.tmp 58]) (ps := [(.one (.ptr 800 0))]) (bps := [cS b, cI (av b (af b (aa b (aa b s).1).1 32).1 i).1.f0, cI (av b (af b (aa b (aa b s).1).1 32).1 i).1.f1]) (ss := []) (g := .func 61) (t := 59) (ok_spec_l11Raw b (av b (af b (aa b (aa b s).1).1 32).1 i).1 p_5 p_1) rfl rfl p_24 rfl p_7 (evs_cons (A.g 58) (rfl)) (.cons (.bx) .nil) (A.b 800 (x := (62, _))) (.rd (.rd (.rd .nil))) rfl (handX_fresh (fun x_ hx_ => A.fresh x_ (by exact hx_))) (fun x hx => by have := hp x hx; omega) rfl p_107)) ?_
   refine .cons (fun E A => OpStep.plain rfl (Step.litX (e := 24) (z := 1) (by_ := 24) (xs := [.tmp 59]) (pss := [[.row 4059 []]]) (es := [(.ints .u8 (af b (av b (af b (aa b (aa b s).1).1 32).1 i).1 32).2)]) (ss := [4059]) (d := (.bss [(af b (av b (af b (aa b (aa b s).1).1 32).1 i).1 32).2])) (t := 60) rfl rfl p_24 p_7 rfl rfl (.cons (by exact (congrArg PV.flat (A.g 59 (p := (.one (.row 4059 []))))).trans rfl) .nil) p_105 (le_ok rfl) (le_ok rfl) A.fn (.row (A.r 4059 (x := (5, _))) p_105 .nil) (A.fresh _ (List.mem_singleton.2 rfl)) p_105 (fun x_ hx_ => by have := hp x_ hx_; omega) rfl trivial rfl rfl)) ?_
   refine .cons (fun E A => OpStep.plain rfl (Step.appendX (e := 24) (z := 1) (by_ := 24) (d := (.bss (av b (af b (aa b (aa b s).1).1 32).1 i).2)) (dy := (.bss [(af b (av b (af b (aa b (aa b s).1).1 32).1 i).1 32).2])) (d' := (.bss ((av b (af b (aa b (aa b s).1).1 32).1 i).2 ++ [(af b (av b (af b (aa b (aa b s).1).1 32).1 i).1 32).2]))) (ss := [60]) 500061 (t := 61) rfl rfl p_24 p_7 (A.g 57) (A.r 100504 (x := (24, _))) rfl (lt_ok rfl) (A.g 60) (.move (A.r 60 (x := (24, _)))) p_105 rfl p_21 p_21 (fun x_ hx_ => by have := hp x_ hx_; omega) (A.fresh _ (List.mem_singleton.2 rfl)) p_105 (fun x_ hx_ => by have := hp x_ hx_; omega))) ?_
   refine .sk 2 ?_
   exact .nil _ _
  refine TL.wk [(0, (.one (.ptr 800 0))), (4, (.one (.ptr 4 0))), (5, (.one (.ptr 5 0))), (9, (pI (((bitList ([] : List Int)).length : Int) - (i : Int))))] [(4017, (5, (.ints .u8 (af b (aa b (aa b s).1).1 32).2))), (500061, (24, (.bss ((av b (af b (aa b (aa b s).1).1 32).1 i).2 ++ [(af b (av b (af b (aa b (aa b s).1).1 32).1 i).1 32).2]))))] [(800, (62, (c_60 b i s))), (3, (46, (c_2 l))), (4, (29, c_46)), (5, (29, [cI (aa b s).2, cI (aa b (aa b s).1).2, .row 4017 [], .nil, .row 500061 []]))] ?_
  refine TL.ren 500061 100504 rfl (fun x hx => by have := hp x hx; omega) ?_
  refine TL.nil (T.region ?_)
  refine TL.rx 1 [(54, (pI (((bitList ([] : List Int)).length : Int) - (i : Int))))] [] ?_
  refine TL.sb ((((bitList ([] : List Int)).length : Int) - (i : Int)) - 1) ?_
  refine TL.rl [(9, (pI ((((bitList ([] : List Int)).length : Int) - (i : Int)) - 1)))] [] ?_
  refine ⟨i + 1, by omega, by first | omega | (dsimp only; omega), Env.le_mk ⟨rfl, rfl, rfl, ?_, trivial⟩ ⟨rfl, ?_, trivial⟩ ⟨?_, rfl, rfl, rfl, trivial⟩⟩ <;> exact p_60
 refine T.exit ?_
 refine T.sr [] [(4, (29, [cI (aa b s).2, cI (aa b (aa b s).1).2, .row 4017 [], .nil, .row 100504 []]))] ?_
 refine T.ret ?_
 refine ⟨_, _, rfl, rfl, (.cons rfl .nil), rfl, _, (.r rfl (.r ?_ (.r ?_ (.r ?_ (.r ?_ (.o ?_ (.nn ?_ (.o ?_ .nil))))))))⟩ <;> exact p_19
theorem ok_spec_SameBytes (a : List Int) (b : List Int) (h0_ : U8s a) (h1_ : U8s b) : RO Tryz.prog 66 [.one (.ints .u8 a), .one (.ints .u8 b)] [(false, [.rd (.bool (decide (a = b)))])] := by
 refine RO.intro Tryz.func66 rfl 10 rfl (le_ok rfl) fun w Z => ?_
 refine T.bnd 0 0 rfl rfl fun hb_0_0 => ?_
 simp only [D.size, List.length_map] at hb_0_0
 refine T.bnd 1 0 rfl rfl fun hb_1_0 => ?_
 simp only [D.size, List.length_map] at hb_1_0
 refine T.sr [(4, (pB false))] [] ?_
 refine T.sg ?_
 refine TL.rx 1 [(5, (pS a))] [] ?_
 refine TL.c (Step.toStr (e := 5) (xs := a) rfl rfl (lt_ok rfl) p_7 p_7 p_7 rfl rfl) ?_
 refine TL.rx 1 [(7, (pS b))] [] ?_
 refine TL.c (Step.toStr (e := 5) (xs := b) rfl rfl (lt_ok rfl) p_7 p_7 p_7 rfl rfl) ?_
 refine TL.rl [(4, (pB ((strOfNums a).toList == (strOfNums b).toList)))] [] ?_
 refine T.ret ?_
 exact p_178
theorem ok_spec_l13Fits (h : SHead) (h0_ : h.ok) : RO Tryz.prog 64 [.agg h.cells] [(false, [.rd (.bool (headFits h))])] := by
 refine RO.intro Tryz.func64 rfl 26 rfl (le_ok rfl) fun w Z => ?_
 obtain ⟨o0, o1, o2, o3, o4, o5, o6, o7, o8, o9⟩ := h0_
 refine T.sr [(1, (.one (.ptr 1 0))), (2, (pB false))] [(1, (31, [cI h.f0, cI h.f1, cI h.f2, cS h.f3, cS h.f4, cI h.f5.f0, cI h.f5.f1, cS h.f5.f2, cS h.f5.f3, .d (.bss h.f5.f4)]))] ?_
 refine T.sg ?_
 refine TL.rx 7 [(9, (pB (decide (h.f5.f0 < h.f0))))] [] ?_
 rcases Bool.eq_false_or_eq_true (decide (h.f5.f0 < h.f0)) with hb1 | hb1
 ·refine TL.known 9 hb1 rfl ?_
  refine TL.rx 5 [(12, (pI h.f5.f1)), (14, (pI h.f1))] [] ?_
  refine TL.gy 9 (Step.bin (r := .int .i64 (IntKind.i64.wrap (h.f1 - 1))) rfl rfl (lt_ok rfl) rfl rfl (Bin.sub (a := h.f1) (b := 1) (rfl))) ?_
  refine TL.rx 3 [(18, (pB (decide (h.f5.f1 = (IntKind.i64.wrap (h.f1 - 1))))))] [] ?_
  rcases Bool.eq_false_or_eq_true (decide (h.f5.f1 = (IntKind.i64.wrap (h.f1 - 1)))) with hb2 | hb2
  ·refine TL.known 18 hb2 rfl ?_
   refine TL.rx 5 [(21, (pS h.f5.f2)), (23, (pS h.f3))] [] ?_
   refine TL.gy 18 (Step.cz (ok_spec_SameBytes h.f5.f2 h.f3 p_53 p_53)) ?_
   refine TL.rl [(2, (pB (decide (h.f5.f2 = h.f3))))] [] ?_
   refine T.ret ?_
   exact p_141
  refine TL.known 18 hb2 rfl ?_
  refine TL.rl [(2, (pB false))] [] ?_
  refine T.ret ?_
  exact p_141
 refine TL.known 9 hb1 rfl ?_
 refine TL.rl [(2, (pB false))] [] ?_
 refine T.ret ?_
 exact p_141
end Go.Proofs.YtjohlfccejljlaaGreat.Rf
