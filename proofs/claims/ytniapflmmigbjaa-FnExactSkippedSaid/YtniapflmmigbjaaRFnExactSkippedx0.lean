/- The functions that FnExactSkipped calls, each held to what it answers. Printed by a program of this session; Lean checks it. -/
import Derived.Test.YtniapflmmigbjaaProg
import Derived.Test.YtniapflmmigbjaaRf16
namespace Go.Proofs.Ytniapflmmigbjaa.Rf
open Go.RowKit
set_option linter.unusedVariables false
set_option linter.unnecessarySimpa false
set_option linter.unusedSimpArgs false
set_option maxRecDepth 100000
set_option maxHeartbeats 4000000
@[ext] structure SEntry where
  f0 : Int
  f1 : Int
  f2 : List Int
  deriving Inhabited, DecidableEq
def SEntry.cells (x : SEntry) : List D := [(.int .i64 x.f0), (.int .i64 x.f1), (.ints .u8 x.f2)]
theorem SEntry.len (x : SEntry) : x.cells.length = 3 := rfl
def SEntry.sz (x : SEntry) (l : Int) : Int := szThen (szB x.f2 l) fun l0 => l0
def SEntry.sm (x : SEntry) : Prop := (x.f2.length ≤ 1048576)
def SEntry.ok (x : SEntry) : Prop := (I64 x.f0) ∧ (I64 x.f1) ∧ (U8s x.f2)
theorem SEntry.sz_le (x : SEntry) {l : Int} (h : 0 ≤ l) : x.sz l ≤ l := by
  unfold SEntry.sz
  exact szThen_le' (szB_le _ h) h fun l0 h0 => Int.le_refl _
theorem SEntry.sz_sm (x : SEntry) {l : Int} (h0 : 0 ≤ l) (hl : l ≤ 1048576) (h : 0 ≤ x.sz l) : x.sm := by
  unfold SEntry.sz at h
  have ⟨p0, h⟩ := szThen_nn h
  have e0 : (szB x.f2 l) ≤ l := szB_le _ h0
  have s0 := szB_sm p0 hl
  have c0 := Int.le_trans e0 hl
  exact s0
@[ext] structure STc where
  f0 : Int
  f1 : List SEntry
  deriving Inhabited, DecidableEq
def STc.cells (x : STc) : List D := [(.int .i64 x.f0), (.sl 3 (x.f1.map SEntry.cells))]
theorem STc.len (x : STc) : x.cells.length = 2 := rfl
def STc.sz (x : STc) (l : Int) : Int := szThen (szLs SEntry.sz x.f1 l) fun l0 => l0
def STc.sm (x : STc) : Prop := (x.f1.length ≤ 1048576 ∧ ∀ y ∈ x.f1, SEntry.sm y)
def STc.ok (x : STc) : Prop := (I64 x.f0) ∧ (∀ y ∈ x.f1, SEntry.ok y)
theorem STc.sz_le (x : STc) {l : Int} (h : 0 ≤ l) : x.sz l ≤ l := by
  unfold STc.sz
  exact szThen_le' (szLs_le (fun x l h => SEntry.sz_le x h) _ h) h fun l0 h0 => Int.le_refl _
theorem STc.sz_sm (x : STc) {l : Int} (h0 : 0 ≤ l) (hl : l ≤ 1048576) (h : 0 ≤ x.sz l) : x.sm := by
  unfold STc.sz at h
  have ⟨p0, h⟩ := szThen_nn h
  have e0 : (szLs SEntry.sz x.f1 l) ≤ l := szLs_le (fun x l h => SEntry.sz_le x h) _ h0
  have s0 := szLs_sm (p := SEntry.sm) (fun x l h => SEntry.sz_le x h) (fun x l h h0 hl => SEntry.sz_sm x h0 hl h) p0 hl
  have c0 := Int.le_trans e0 hl
  exact s0
@[ext] structure SIncl where
  f0 : Int
  f1 : Int
  f2 : Int
  f3 : List Int
  f4 : List (List Int)
  deriving Inhabited, DecidableEq
def SIncl.cells (x : SIncl) : List D := [(.int .i64 x.f0), (.int .i64 x.f1), (.int .i64 x.f2), (.ints .u8 x.f3), (.bss x.f4)]
theorem SIncl.len (x : SIncl) : x.cells.length = 5 := rfl
def SIncl.sz (x : SIncl) (l : Int) : Int := szThen (szB x.f3 l) fun l0 => szThen (szLs szB x.f4 l0) fun l1 => l1
def SIncl.sm (x : SIncl) : Prop := (x.f3.length ≤ 1048576) ∧ (x.f4.length ≤ 1048576 ∧ ∀ y ∈ x.f4, y.length ≤ 1048576)
def SIncl.ok (x : SIncl) : Prop := (I64 x.f0) ∧ (I64 x.f1) ∧ (I64 x.f2) ∧ (U8s x.f3) ∧ (∀ y ∈ x.f4, U8s y)
theorem SIncl.sz_le (x : SIncl) {l : Int} (h : 0 ≤ l) : x.sz l ≤ l := by
  unfold SIncl.sz
  exact szThen_le' (szB_le _ h) h fun l0 h0 => szThen_le' (szLs_le (fun x l h => szB_le x h) _ h0) h0 fun l1 h1 => Int.le_refl _
theorem SIncl.sz_sm (x : SIncl) {l : Int} (h0 : 0 ≤ l) (hl : l ≤ 1048576) (h : 0 ≤ x.sz l) : x.sm := by
  unfold SIncl.sz at h
  have ⟨p0, h⟩ := szThen_nn h
  have e0 : (szB x.f3 l) ≤ l := szB_le _ h0
  have s0 := szB_sm p0 hl
  have c0 := Int.le_trans e0 hl
  have ⟨p1, h⟩ := szThen_nn h
  have e1 : (szLs szB x.f4 (szB x.f3 l)) ≤ (szB x.f3 l) := szLs_le (fun x l h => szB_le x h) _ p0
  have s1 := szLs_sm (p := fun y => y.length ≤ 1048576) (fun x l h => szB_le x h) (fun x l h h0 hl => szB_sm h hl) p1 c0
  have c1 := Int.le_trans e1 c0
  exact ⟨s0, s1⟩
@[ext] structure SQc where
  f0 : Int
  f1 : Int
  f2 : List Int
  f3 : List Int
  f4 : List (List Int)
  deriving Inhabited, DecidableEq
def SQc.cells (x : SQc) : List D := [(.int .i64 x.f0), (.int .i64 x.f1), (.ints .u8 x.f2), (.ints .u8 x.f3), (.bss x.f4)]
theorem SQc.len (x : SQc) : x.cells.length = 5 := rfl
def SQc.sz (x : SQc) (l : Int) : Int := szThen (szB x.f2 l) fun l0 => szThen (szB x.f3 l0) fun l1 => szThen (szLs szB x.f4 l1) fun l2 => l2
def SQc.sm (x : SQc) : Prop := (x.f2.length ≤ 1048576) ∧ (x.f3.length ≤ 1048576) ∧ (x.f4.length ≤ 1048576 ∧ ∀ y ∈ x.f4, y.length ≤ 1048576)
def SQc.ok (x : SQc) : Prop := (I64 x.f0) ∧ (I64 x.f1) ∧ (U8s x.f2) ∧ (U8s x.f3) ∧ (∀ y ∈ x.f4, U8s y)
theorem SQc.sz_le (x : SQc) {l : Int} (h : 0 ≤ l) : x.sz l ≤ l := by
  unfold SQc.sz
  exact szThen_le' (szB_le _ h) h fun l0 h0 => szThen_le' (szB_le _ h0) h0 fun l1 h1 => szThen_le' (szLs_le (fun x l h => szB_le x h) _ h1) h1 fun l2 h2 => Int.le_refl _
theorem SQc.sz_sm (x : SQc) {l : Int} (h0 : 0 ≤ l) (hl : l ≤ 1048576) (h : 0 ≤ x.sz l) : x.sm := by
  unfold SQc.sz at h
  have ⟨p0, h⟩ := szThen_nn h
  have e0 : (szB x.f2 l) ≤ l := szB_le _ h0
  have s0 := szB_sm p0 hl
  have c0 := Int.le_trans e0 hl
  have ⟨p1, h⟩ := szThen_nn h
  have e1 : (szB x.f3 (szB x.f2 l)) ≤ (szB x.f2 l) := szB_le _ p0
  have s1 := szB_sm p1 c0
  have c1 := Int.le_trans e1 c0
  have ⟨p2, h⟩ := szThen_nn h
  have e2 : (szLs szB x.f4 (szB x.f3 (szB x.f2 l))) ≤ (szB x.f3 (szB x.f2 l)) := szLs_le (fun x l h => szB_le x h) _ p1
  have s2 := szLs_sm (p := fun y => y.length ≤ 1048576) (fun x l h => szB_le x h) (fun x l h h0 hl => szB_sm h hl) p2 c1
  have c2 := Int.le_trans e2 c1
  exact ⟨s0, s1, s2⟩
@[ext] structure SHead where
  f0 : Int
  f1 : Int
  f2 : Int
  f3 : List Int
  f4 : List Int
  f5 : SQc
  deriving Inhabited, DecidableEq
def SHead.cells (x : SHead) : List D := [(.int .i64 x.f0), (.int .i64 x.f1), (.int .i64 x.f2), (.ints .u8 x.f3), (.ints .u8 x.f4), (.int .i64 x.f5.f0), (.int .i64 x.f5.f1), (.ints .u8 x.f5.f2), (.ints .u8 x.f5.f3), (.bss x.f5.f4)]
theorem SHead.len (x : SHead) : x.cells.length = 10 := rfl
def SHead.sz (x : SHead) (l : Int) : Int := szThen (szB x.f3 l) fun l0 => szThen (szB x.f4 l0) fun l1 => szThen (SQc.sz x.f5 l1) fun l2 => l2
def SHead.sm (x : SHead) : Prop := (x.f3.length ≤ 1048576) ∧ (x.f4.length ≤ 1048576) ∧ (x.f5.sm)
def SHead.ok (x : SHead) : Prop := (I64 x.f0) ∧ (I64 x.f1) ∧ (I64 x.f2) ∧ (U8s x.f3) ∧ (U8s x.f4) ∧ (x.f5.ok)
theorem SHead.sz_le (x : SHead) {l : Int} (h : 0 ≤ l) : x.sz l ≤ l := by
  unfold SHead.sz
  exact szThen_le' (szB_le _ h) h fun l0 h0 => szThen_le' (szB_le _ h0) h0 fun l1 h1 => szThen_le' (SQc.sz_le _ h1) h1 fun l2 h2 => Int.le_refl _
theorem SHead.sz_sm (x : SHead) {l : Int} (h0 : 0 ≤ l) (hl : l ≤ 1048576) (h : 0 ≤ x.sz l) : x.sm := by
  unfold SHead.sz at h
  have ⟨p0, h⟩ := szThen_nn h
  have e0 : (szB x.f3 l) ≤ l := szB_le _ h0
  have s0 := szB_sm p0 hl
  have c0 := Int.le_trans e0 hl
  have ⟨p1, h⟩ := szThen_nn h
  have e1 : (szB x.f4 (szB x.f3 l)) ≤ (szB x.f3 l) := szB_le _ p0
  have s1 := szB_sm p1 c0
  have c1 := Int.le_trans e1 c0
  have ⟨p2, h⟩ := szThen_nn h
  have e2 : (SQc.sz x.f5 (szB x.f4 (szB x.f3 l))) ≤ (szB x.f4 (szB x.f3 l)) := SQc.sz_le _ p1
  have s2 := SQc.sz_sm _ p1 c1 p2
  have c2 := Int.le_trans e2 c1
  exact ⟨s0, s1, s2⟩
@[ext] structure SBlock where
  f0 : SHead
  f1 : List (List Int)
  deriving Inhabited, DecidableEq
def SBlock.cells (x : SBlock) : List D := [(.int .i64 x.f0.f0), (.int .i64 x.f0.f1), (.int .i64 x.f0.f2), (.ints .u8 x.f0.f3), (.ints .u8 x.f0.f4), (.int .i64 x.f0.f5.f0), (.int .i64 x.f0.f5.f1), (.ints .u8 x.f0.f5.f2), (.ints .u8 x.f0.f5.f3), (.bss x.f0.f5.f4), (.bss x.f1)]
theorem SBlock.len (x : SBlock) : x.cells.length = 11 := rfl
def SBlock.sz (x : SBlock) (l : Int) : Int := szThen (SHead.sz x.f0 l) fun l0 => szThen (szLs szB x.f1 l0) fun l1 => l1
def SBlock.sm (x : SBlock) : Prop := (x.f0.sm) ∧ (x.f1.length ≤ 1048576 ∧ ∀ y ∈ x.f1, y.length ≤ 1048576)
def SBlock.ok (x : SBlock) : Prop := (x.f0.ok) ∧ (∀ y ∈ x.f1, U8s y)
theorem SBlock.sz_le (x : SBlock) {l : Int} (h : 0 ≤ l) : x.sz l ≤ l := by
  unfold SBlock.sz
  exact szThen_le' (SHead.sz_le _ h) h fun l0 h0 => szThen_le' (szLs_le (fun x l h => szB_le x h) _ h0) h0 fun l1 h1 => Int.le_refl _
theorem SBlock.sz_sm (x : SBlock) {l : Int} (h0 : 0 ≤ l) (hl : l ≤ 1048576) (h : 0 ≤ x.sz l) : x.sm := by
  unfold SBlock.sz at h
  have ⟨p0, h⟩ := szThen_nn h
  have e0 : (SHead.sz x.f0 l) ≤ l := SHead.sz_le _ h0
  have s0 := SHead.sz_sm _ h0 hl p0
  have c0 := Int.le_trans e0 hl
  have ⟨p1, h⟩ := szThen_nn h
  have e1 : (szLs szB x.f1 (SHead.sz x.f0 l)) ≤ (SHead.sz x.f0 l) := szLs_le (fun x l h => szB_le x h) _ p0
  have s1 := szLs_sm (p := fun y => y.length ≤ 1048576) (fun x l h => szB_le x h) (fun x l h h0 hl => szB_sm h hl) p1 c0
  have c1 := Int.le_trans e1 c0
  exact ⟨s0, s1⟩
@[ext] structure SProof where
  f0 : List SHead
  f1 : SQc
  deriving Inhabited, DecidableEq
def SProof.cells (x : SProof) : List D := [(.sl 10 (x.f0.map SHead.cells)), (.int .i64 x.f1.f0), (.int .i64 x.f1.f1), (.ints .u8 x.f1.f2), (.ints .u8 x.f1.f3), (.bss x.f1.f4)]
theorem SProof.len (x : SProof) : x.cells.length = 6 := rfl
def SProof.sz (x : SProof) (l : Int) : Int := szThen (szLs SHead.sz x.f0 l) fun l0 => szThen (SQc.sz x.f1 l0) fun l1 => l1
def SProof.sm (x : SProof) : Prop := (x.f0.length ≤ 1048576 ∧ ∀ y ∈ x.f0, SHead.sm y) ∧ (x.f1.sm)
def SProof.ok (x : SProof) : Prop := (∀ y ∈ x.f0, SHead.ok y) ∧ (x.f1.ok)
theorem SProof.sz_le (x : SProof) {l : Int} (h : 0 ≤ l) : x.sz l ≤ l := by
  unfold SProof.sz
  exact szThen_le' (szLs_le (fun x l h => SHead.sz_le x h) _ h) h fun l0 h0 => szThen_le' (SQc.sz_le _ h0) h0 fun l1 h1 => Int.le_refl _
theorem SProof.sz_sm (x : SProof) {l : Int} (h0 : 0 ≤ l) (hl : l ≤ 1048576) (h : 0 ≤ x.sz l) : x.sm := by
  unfold SProof.sz at h
  have ⟨p0, h⟩ := szThen_nn h
  have e0 : (szLs SHead.sz x.f0 l) ≤ l := szLs_le (fun x l h => SHead.sz_le x h) _ h0
  have s0 := szLs_sm (p := SHead.sm) (fun x l h => SHead.sz_le x h) (fun x l h h0 hl => SHead.sz_sm x h0 hl h) p0 hl
  have c0 := Int.le_trans e0 hl
  have ⟨p1, h⟩ := szThen_nn h
  have e1 : (SQc.sz x.f1 (szLs SHead.sz x.f0 l)) ≤ (szLs SHead.sz x.f0 l) := SQc.sz_le _ p0
  have s1 := SQc.sz_sm _ p0 c0 p1
  have c1 := Int.le_trans e1 c0
  exact ⟨s0, s1⟩
@[ext] structure SVote where
  f0 : Int
  f1 : Int
  f2 : List Int
  f3 : Int
  f4 : List Int
  deriving Inhabited, DecidableEq
def SVote.cells (x : SVote) : List D := [(.int .i64 x.f0), (.int .i64 x.f1), (.ints .u8 x.f2), (.int .i64 x.f3), (.ints .u8 x.f4)]
theorem SVote.len (x : SVote) : x.cells.length = 5 := rfl
def SVote.sz (x : SVote) (l : Int) : Int := szThen (szB x.f2 l) fun l0 => szThen (szB x.f4 l0) fun l1 => l1
def SVote.sm (x : SVote) : Prop := (x.f2.length ≤ 1048576) ∧ (x.f4.length ≤ 1048576)
def SVote.ok (x : SVote) : Prop := (I64 x.f0) ∧ (I64 x.f1) ∧ (U8s x.f2) ∧ (I64 x.f3) ∧ (U8s x.f4)
theorem SVote.sz_le (x : SVote) {l : Int} (h : 0 ≤ l) : x.sz l ≤ l := by
  unfold SVote.sz
  exact szThen_le' (szB_le _ h) h fun l0 h0 => szThen_le' (szB_le _ h0) h0 fun l1 h1 => Int.le_refl _
theorem SVote.sz_sm (x : SVote) {l : Int} (h0 : 0 ≤ l) (hl : l ≤ 1048576) (h : 0 ≤ x.sz l) : x.sm := by
  unfold SVote.sz at h
  have ⟨p0, h⟩ := szThen_nn h
  have e0 : (szB x.f2 l) ≤ l := szB_le _ h0
  have s0 := szB_sm p0 hl
  have c0 := Int.le_trans e0 hl
  have ⟨p1, h⟩ := szThen_nn h
  have e1 : (szB x.f4 (szB x.f2 l)) ≤ (szB x.f2 l) := szB_le _ p0
  have s1 := szB_sm p1 c0
  have c1 := Int.le_trans e1 c0
  exact ⟨s0, s1⟩
@[ext] structure SMsg where
  f0 : Int
  f1 : SVote
  f2 : SQc
  f3 : SHead
  f4 : SBlock
  f5 : STc
  f6 : SProof
  f7 : SIncl
  deriving Inhabited, DecidableEq
def SMsg.cells (x : SMsg) : List D := [(.int .i64 x.f0), (.int .i64 x.f1.f0), (.int .i64 x.f1.f1), (.ints .u8 x.f1.f2), (.int .i64 x.f1.f3), (.ints .u8 x.f1.f4), (.int .i64 x.f2.f0), (.int .i64 x.f2.f1), (.ints .u8 x.f2.f2), (.ints .u8 x.f2.f3), (.bss x.f2.f4), (.int .i64 x.f3.f0), (.int .i64 x.f3.f1), (.int .i64 x.f3.f2), (.ints .u8 x.f3.f3), (.ints .u8 x.f3.f4), (.int .i64 x.f3.f5.f0), (.int .i64 x.f3.f5.f1), (.ints .u8 x.f3.f5.f2), (.ints .u8 x.f3.f5.f3), (.bss x.f3.f5.f4), (.int .i64 x.f4.f0.f0), (.int .i64 x.f4.f0.f1), (.int .i64 x.f4.f0.f2), (.ints .u8 x.f4.f0.f3), (.ints .u8 x.f4.f0.f4), (.int .i64 x.f4.f0.f5.f0), (.int .i64 x.f4.f0.f5.f1), (.ints .u8 x.f4.f0.f5.f2), (.ints .u8 x.f4.f0.f5.f3), (.bss x.f4.f0.f5.f4), (.bss x.f4.f1), (.int .i64 x.f5.f0), (.sl 3 (x.f5.f1.map SEntry.cells)), (.sl 10 (x.f6.f0.map SHead.cells)), (.int .i64 x.f6.f1.f0), (.int .i64 x.f6.f1.f1), (.ints .u8 x.f6.f1.f2), (.ints .u8 x.f6.f1.f3), (.bss x.f6.f1.f4), (.int .i64 x.f7.f0), (.int .i64 x.f7.f1), (.int .i64 x.f7.f2), (.ints .u8 x.f7.f3), (.bss x.f7.f4)]
theorem SMsg.len (x : SMsg) : x.cells.length = 45 := rfl
def SMsg.sz (x : SMsg) (l : Int) : Int := szThen (SVote.sz x.f1 l) fun l0 => szThen (SQc.sz x.f2 l0) fun l1 => szThen (SHead.sz x.f3 l1) fun l2 => szThen (SBlock.sz x.f4 l2) fun l3 => szThen (STc.sz x.f5 l3) fun l4 => szThen (SProof.sz x.f6 l4) fun l5 => szThen (SIncl.sz x.f7 l5) fun l6 => l6
def SMsg.sm (x : SMsg) : Prop := (x.f1.sm) ∧ (x.f2.sm) ∧ (x.f3.sm) ∧ (x.f4.sm) ∧ (x.f5.sm) ∧ (x.f6.sm) ∧ (x.f7.sm)
def SMsg.ok (x : SMsg) : Prop := (I64 x.f0) ∧ (x.f1.ok) ∧ (x.f2.ok) ∧ (x.f3.ok) ∧ (x.f4.ok) ∧ (x.f5.ok) ∧ (x.f6.ok) ∧ (x.f7.ok)
theorem SMsg.sz_le (x : SMsg) {l : Int} (h : 0 ≤ l) : x.sz l ≤ l := by
  unfold SMsg.sz
  exact szThen_le' (SVote.sz_le _ h) h fun l0 h0 => szThen_le' (SQc.sz_le _ h0) h0 fun l1 h1 => szThen_le' (SHead.sz_le _ h1) h1 fun l2 h2 => szThen_le' (SBlock.sz_le _ h2) h2 fun l3 h3 => szThen_le' (STc.sz_le _ h3) h3 fun l4 h4 => szThen_le' (SProof.sz_le _ h4) h4 fun l5 h5 => szThen_le' (SIncl.sz_le _ h5) h5 fun l6 h6 => Int.le_refl _
theorem SMsg.sz_sm (x : SMsg) {l : Int} (h0 : 0 ≤ l) (hl : l ≤ 1048576) (h : 0 ≤ x.sz l) : x.sm := by
  unfold SMsg.sz at h
  have ⟨p0, h⟩ := szThen_nn h
  have e0 : (SVote.sz x.f1 l) ≤ l := SVote.sz_le _ h0
  have s0 := SVote.sz_sm _ h0 hl p0
  have c0 := Int.le_trans e0 hl
  have ⟨p1, h⟩ := szThen_nn h
  have e1 : (SQc.sz x.f2 (SVote.sz x.f1 l)) ≤ (SVote.sz x.f1 l) := SQc.sz_le _ p0
  have s1 := SQc.sz_sm _ p0 c0 p1
  have c1 := Int.le_trans e1 c0
  have ⟨p2, h⟩ := szThen_nn h
  have e2 : (SHead.sz x.f3 (SQc.sz x.f2 (SVote.sz x.f1 l))) ≤ (SQc.sz x.f2 (SVote.sz x.f1 l)) := SHead.sz_le _ p1
  have s2 := SHead.sz_sm _ p1 c1 p2
  have c2 := Int.le_trans e2 c1
  have ⟨p3, h⟩ := szThen_nn h
  have e3 : (SBlock.sz x.f4 (SHead.sz x.f3 (SQc.sz x.f2 (SVote.sz x.f1 l)))) ≤ (SHead.sz x.f3 (SQc.sz x.f2 (SVote.sz x.f1 l))) := SBlock.sz_le _ p2
  have s3 := SBlock.sz_sm _ p2 c2 p3
  have c3 := Int.le_trans e3 c2
  have ⟨p4, h⟩ := szThen_nn h
  have e4 : (STc.sz x.f5 (SBlock.sz x.f4 (SHead.sz x.f3 (SQc.sz x.f2 (SVote.sz x.f1 l))))) ≤ (SBlock.sz x.f4 (SHead.sz x.f3 (SQc.sz x.f2 (SVote.sz x.f1 l)))) := STc.sz_le _ p3
  have s4 := STc.sz_sm _ p3 c3 p4
  have c4 := Int.le_trans e4 c3
  have ⟨p5, h⟩ := szThen_nn h
  have e5 : (SProof.sz x.f6 (STc.sz x.f5 (SBlock.sz x.f4 (SHead.sz x.f3 (SQc.sz x.f2 (SVote.sz x.f1 l)))))) ≤ (STc.sz x.f5 (SBlock.sz x.f4 (SHead.sz x.f3 (SQc.sz x.f2 (SVote.sz x.f1 l))))) := SProof.sz_le _ p4
  have s5 := SProof.sz_sm _ p4 c4 p5
  have c5 := Int.le_trans e5 c4
  have ⟨p6, h⟩ := szThen_nn h
  have e6 : (SIncl.sz x.f7 (SProof.sz x.f6 (STc.sz x.f5 (SBlock.sz x.f4 (SHead.sz x.f3 (SQc.sz x.f2 (SVote.sz x.f1 l))))))) ≤ (SProof.sz x.f6 (STc.sz x.f5 (SBlock.sz x.f4 (SHead.sz x.f3 (SQc.sz x.f2 (SVote.sz x.f1 l)))))) := SIncl.sz_le _ p5
  have s6 := SIncl.sz_sm _ p5 c5 p6
  have c6 := Int.le_trans e6 c5
  exact ⟨s0, s1, s2, s3, s4, s5, s6⟩
@[ext] structure SEvent where
  f0 : Int
  f1 : Int
  f2 : SMsg
  deriving Inhabited, DecidableEq
def SEvent.cells (x : SEvent) : List D := [(.int .i64 x.f0), (.int .i64 x.f1), (.int .i64 x.f2.f0), (.int .i64 x.f2.f1.f0), (.int .i64 x.f2.f1.f1), (.ints .u8 x.f2.f1.f2), (.int .i64 x.f2.f1.f3), (.ints .u8 x.f2.f1.f4), (.int .i64 x.f2.f2.f0), (.int .i64 x.f2.f2.f1), (.ints .u8 x.f2.f2.f2), (.ints .u8 x.f2.f2.f3), (.bss x.f2.f2.f4), (.int .i64 x.f2.f3.f0), (.int .i64 x.f2.f3.f1), (.int .i64 x.f2.f3.f2), (.ints .u8 x.f2.f3.f3), (.ints .u8 x.f2.f3.f4), (.int .i64 x.f2.f3.f5.f0), (.int .i64 x.f2.f3.f5.f1), (.ints .u8 x.f2.f3.f5.f2), (.ints .u8 x.f2.f3.f5.f3), (.bss x.f2.f3.f5.f4), (.int .i64 x.f2.f4.f0.f0), (.int .i64 x.f2.f4.f0.f1), (.int .i64 x.f2.f4.f0.f2), (.ints .u8 x.f2.f4.f0.f3), (.ints .u8 x.f2.f4.f0.f4), (.int .i64 x.f2.f4.f0.f5.f0), (.int .i64 x.f2.f4.f0.f5.f1), (.ints .u8 x.f2.f4.f0.f5.f2), (.ints .u8 x.f2.f4.f0.f5.f3), (.bss x.f2.f4.f0.f5.f4), (.bss x.f2.f4.f1), (.int .i64 x.f2.f5.f0), (.sl 3 (x.f2.f5.f1.map SEntry.cells)), (.sl 10 (x.f2.f6.f0.map SHead.cells)), (.int .i64 x.f2.f6.f1.f0), (.int .i64 x.f2.f6.f1.f1), (.ints .u8 x.f2.f6.f1.f2), (.ints .u8 x.f2.f6.f1.f3), (.bss x.f2.f6.f1.f4), (.int .i64 x.f2.f7.f0), (.int .i64 x.f2.f7.f1), (.int .i64 x.f2.f7.f2), (.ints .u8 x.f2.f7.f3), (.bss x.f2.f7.f4)]
theorem SEvent.len (x : SEvent) : x.cells.length = 47 := rfl
def SEvent.sz (x : SEvent) (l : Int) : Int := szThen (SMsg.sz x.f2 l) fun l0 => l0
def SEvent.sm (x : SEvent) : Prop := (x.f2.sm)
def SEvent.ok (x : SEvent) : Prop := (I64 x.f0) ∧ (I64 x.f1) ∧ (x.f2.ok)
theorem SEvent.sz_le (x : SEvent) {l : Int} (h : 0 ≤ l) : x.sz l ≤ l := by
  unfold SEvent.sz
  exact szThen_le' (SMsg.sz_le _ h) h fun l0 h0 => Int.le_refl _
theorem SEvent.sz_sm (x : SEvent) {l : Int} (h0 : 0 ≤ l) (hl : l ≤ 1048576) (h : 0 ≤ x.sz l) : x.sm := by
  unfold SEvent.sz at h
  have ⟨p0, h⟩ := szThen_nn h
  have e0 : (SMsg.sz x.f2 l) ≤ l := SMsg.sz_le _ h0
  have s0 := SMsg.sz_sm _ h0 hl p0
  have c0 := Int.le_trans e0 hl
  exact s0
def skipped : List SEvent → Int → Int
  | [], n => n
  | e :: l, n => skipped l (if e.f0 = 1 ∧ 0 ≤ e.f1 ∧ e.f1 ≤ 1152921504606846975 then IntKind.i64.wrap (n + e.f1) else n)
theorem skipped_drop : ∀ (l : List SEvent) (i : Nat) (n : Int), i < l.length → skipped (l.drop i) n = skipped (l.drop (i + 1)) (if (l.getD i default).f0 = 1 ∧ 0 ≤ (l.getD i default).f1 ∧ (l.getD i default).f1 ≤ 1152921504606846975 then IntKind.i64.wrap (n + (l.getD i default).f1) else n)
  | x :: xs, 0, n, _ => by simp [skipped]
  | x :: xs, i + 1, n, h => by simpa using skipped_drop xs i n (by simpa using h)

theorem ok_laws_szByteS (a : List Int) (left : Int) (h0_ : 0 ≤ left) (h1_ : left ≤ 9223372036854775807) : RO Try.prog 83 [.one (.ints .u8 a), .one (.int .i64 left)] [(false, [.rd (.int .i64 (szB a left))])] := by
 refine RO.intro Try.func83 rfl 12 rfl (le_ok rfl) fun w Z => ?_
 refine T.bnd 0 0 rfl rfl fun hb_0_0 => ?_
 simp only [D.size, List.length_map] at hb_0_0
 refine T.seq ?_
 refine T.region ?_
 refine TL.cons rfl (Step.assign (p := (.one (.d (.int .i64 0)))) rfl rfl (lt_ok rfl) rfl) ?_
 refine TL.nil ?_
 refine T.seq ?_
 refine T.region ?_
 refine TL.cons rfl (Step.move (p := (.one (.d (.int .i64 left)))) rfl rfl (lt_ok rfl) rfl) ?_
 refine TL.cons rfl (Step.move (p := (.one (.d (.ints .u8 a)))) rfl rfl (lt_ok rfl) rfl) ?_
 refine TL.cons rfl (Step.len (e := 5) (z := 1) (d := (.ints .u8 a)) rfl rfl (lt_ok rfl) (by kernel_rfl) rfl rfl) ?_
 refine TL.cons rfl (Step.bin (r := .int .i64 (left - (a.length : Int))) rfl rfl (lt_ok rfl) rfl rfl (Bin.sub (a := left) (b := (a.length : Int)) (by first | exact wrap_ok (by first | omega | (simp; omega)) (by first | omega | (simp; omega)) | rfl))) ?_
 refine TL.cons rfl (Step.assign (p := (.one (.d (.int .i64 (left - (a.length : Int)))))) rfl rfl (lt_ok rfl) rfl) ?_
 refine TL.nil ?_
 refine T.seq ?_
 refine T.seq ?_
 refine T.region ?_
 refine TL.cons rfl (Step.move (p := (.one (.d (.int .i64 (left - (a.length : Int)))))) rfl rfl (lt_ok rfl) rfl) ?_
 refine TL.cons rfl (Step.bin rfl rfl (lt_ok rfl) rfl rfl (Bin.lss (k := .i64) (a := (left - (a.length : Int))) (b := 0))) ?_
 refine TL.nil ?_
 refine T.cond (b := decide ((left - (a.length : Int)) < 0)) rfl (fun h1 => ?_) (fun h1 => ?_)
 ·
  replace h1 := of_decide_eq_true h1
  refine T.seq ?_
  refine T.region ?_
  refine TL.cons rfl (Step.assign (p := (.one (.d (.int .i64 (-1))))) rfl rfl (lt_ok rfl) rfl) ?_
  refine TL.nil ?_
  refine T.ret ?_
  exact ⟨[(false, [.d (.int .i64 (-1))])], (.cons rfl .nil), rfl, [], (RetC.rd' (by (congr 1; unfold szB; split <;> omega)) .nil)⟩
 ·
  replace h1 := of_decide_eq_false h1
  refine T.skip ?_
  refine T.seq ?_
  refine T.region ?_
  refine TL.cons rfl (Step.move (p := (.one (.d (.int .i64 (left - (a.length : Int)))))) rfl rfl (lt_ok rfl) rfl) ?_
  refine TL.cons rfl (Step.assign (p := (.one (.d (.int .i64 (left - (a.length : Int)))))) rfl rfl (lt_ok rfl) rfl) ?_
  refine TL.nil ?_
  refine T.ret ?_
  exact ⟨[(false, [.d (.int .i64 (left - (a.length : Int)))])], (.cons rfl .nil), rfl, [], (RetC.rd' (by (congr 1; unfold szB; split <;> omega)) .nil)⟩
theorem ok_laws_szEntry (a : SEntry) (left : Int) (h0_ : 0 ≤ left) (h1_ : left ≤ 9223372036854775807) : RO Try.prog 127 [.agg a.cells, .one (.int .i64 left)] [(false, [.rd (.int .i64 (a.sz left))])] := by
 refine RO.intro Try.func127 rfl 12 rfl (le_ok rfl) fun w Z => ?_
 refine T.seq ?_
 refine T.region ?_
 refine TL.cons rfl (Step.box (p := (.agg [.d (.int .i64 a.f0), .d (.int .i64 a.f1), .d (.ints .u8 a.f2)])) (ps := [.d (.int .i64 a.f0), .d (.int .i64 a.f1), .d (.ints .u8 a.f2)]) rfl rfl (lt_ok rfl) rfl rfl rfl rfl rfl) ?_
 refine TL.cons rfl (Step.assign (p := (.one (.d (.int .i64 0)))) rfl rfl (lt_ok rfl) rfl) ?_
 refine TL.nil ?_
 refine T.seq ?_
 refine T.region ?_
 refine TL.cons rfl (Step.fieldAddr (q := 0) (off := 2) (n := 1) (one := true) rfl rfl (lt_ok rfl) (by kernel_rfl) (Nat.succ_ne_zero _) rfl) ?_
 refine TL.cons rfl (Step.load_box (c := .d (.ints .u8 a.f2)) rfl rfl (lt_ok rfl) (by kernel_rfl) rfl rfl rfl) ?_
 refine TL.cons rfl (Step.move (p := (.one (.d (.int .i64 left)))) rfl rfl (lt_ok rfl) rfl) ?_
 refine TL.cons rfl (Step.call (f := 83) (xs := [.tmp 6, .tmp 7]) (ps := [(.one (.d (.ints .u8 a.f2))), (.one (.d (.int .i64 left)))]) false (g := .func 83) rfl rfl (lt_ok rfl) rfl (by kernel_rfl) rfl (.cons (.one (.d _)) (.cons (.one (.d _)) .nil)) (ok_laws_szByteS a.f2 left (by omega) (by omega)) (.inr rfl) rfl (by simp) rfl) ?_
 refine TL.cons rfl (Step.assign (p := (.one (.d (.int .i64 (szB a.f2 left))))) rfl rfl (lt_ok rfl) rfl) ?_
 refine TL.nil ?_
 refine T.seq ?_
 refine T.seq ?_
 refine T.region ?_
 refine TL.cons rfl (Step.move (p := (.one (.d (.int .i64 (szB a.f2 left))))) rfl rfl (lt_ok rfl) rfl) ?_
 refine TL.cons rfl (Step.bin rfl rfl (lt_ok rfl) rfl rfl (Bin.lss (k := .i64) (a := (szB a.f2 left)) (b := 0))) ?_
 refine TL.nil ?_
 refine T.cond (b := decide ((szB a.f2 left) < 0)) rfl (fun h2 => ?_) (fun h2 => ?_)
 ·
  replace h2 := of_decide_eq_true h2
  refine T.seq ?_
  refine T.region ?_
  refine TL.cons rfl (Step.assign (p := (.one (.d (.int .i64 (-1))))) rfl rfl (lt_ok rfl) rfl) ?_
  refine TL.nil ?_
  refine T.ret ?_
  exact ⟨[(false, [.d (.int .i64 (-1))])], (.cons rfl .nil), rfl, [], (RetC.rd' (by first | rfl | (congr 1; simp only [SEntry.sz, szThen]; repeat' (split <;> try omega))) .nil)⟩
 ·
  replace h2 := of_decide_eq_false h2
  have z1_le : szB a.f2 left ≤ left := szB_le _ (by omega)
  refine T.skip ?_
  refine T.seq ?_
  refine T.region ?_
  refine TL.cons rfl (Step.move (p := (.one (.d (.int .i64 (szB a.f2 left))))) rfl rfl (lt_ok rfl) rfl) ?_
  refine TL.cons rfl (Step.assign (p := (.one (.d (.int .i64 (szB a.f2 left))))) rfl rfl (lt_ok rfl) rfl) ?_
  refine TL.nil ?_
  refine T.ret ?_
  exact ⟨[(false, [.d (.int .i64 (szB a.f2 left))])], (.cons rfl .nil), rfl, [], (RetC.rd' (by first | rfl | (congr 1; simp only [SEntry.sz, szThen]; repeat' (split <;> try omega))) .nil)⟩
theorem ok_laws_szEntryS (a : List SEntry) (left : Int) (h0_ : 0 ≤ left) (h1_ : left ≤ 9223372036854775807) : RO Try.prog 72 [.one (.sl 3 (a.map SEntry.cells)), .one (.int .i64 left)] [(false, [.rd (.int .i64 (szLs SEntry.sz a left))])] := by
 refine RO.intro Try.func72 rfl 27 rfl (le_ok rfl) fun w Z => ?_
 refine T.bnd 0 0 rfl rfl fun hb_0_0 => ?_
 simp only [D.size, List.length_map] at hb_0_0
 refine T.seq ?_
 refine T.region ?_
 refine TL.cons rfl (Step.assign (p := (.one (.d (.int .i64 0)))) rfl rfl (lt_ok rfl) rfl) ?_
 refine TL.nil ?_
 refine T.seq ?_
 refine T.region ?_
 refine TL.cons rfl (Step.move (p := (.one (.d (.int .i64 left)))) rfl rfl (lt_ok rfl) rfl) ?_
 refine TL.cons rfl (Step.move (p := (.one (.d (.sl 3 (a.map SEntry.cells))))) rfl rfl (lt_ok rfl) rfl) ?_
 refine TL.cons rfl (Step.len' (e := 156) (z := 3) (d := (.sl 3 (a.map SEntry.cells))) (n := a.length) rfl rfl (lt_ok rfl) (by kernel_rfl) rfl rfl (by simp [D.size])) ?_
 refine TL.cons rfl (Step.bin (r := .int .i64 (left - (a.length : Int))) rfl rfl (lt_ok rfl) rfl rfl (Bin.sub (a := left) (b := (a.length : Int)) (by first | exact wrap_ok (by first | omega | (simp; omega)) (by first | omega | (simp; omega)) | rfl))) ?_
 refine TL.cons rfl (Step.assign (p := (.one (.d (.int .i64 (left - (a.length : Int)))))) rfl rfl (lt_ok rfl) rfl) ?_
 refine TL.nil ?_
 refine T.seq ?_
 refine T.seq ?_
 refine T.region ?_
 refine TL.cons rfl (Step.move (p := (.one (.d (.int .i64 (left - (a.length : Int)))))) rfl rfl (lt_ok rfl) rfl) ?_
 refine TL.cons rfl (Step.bin rfl rfl (lt_ok rfl) rfl rfl (Bin.lss (k := .i64) (a := (left - (a.length : Int))) (b := 0))) ?_
 refine TL.nil ?_
 refine T.cond (b := decide ((left - (a.length : Int)) < 0)) rfl (fun h1 => ?_) (fun h1 => ?_)
 ·
  replace h1 := of_decide_eq_true h1
  refine T.seq ?_
  refine T.region ?_
  refine TL.cons rfl (Step.assign (p := (.one (.d (.int .i64 (-1))))) rfl rfl (lt_ok rfl) rfl) ?_
  refine TL.nil ?_
  refine T.ret ?_
  exact ⟨[(false, [.d (.int .i64 (-1))])], (.cons rfl .nil), rfl, [], (RetC.rd' (by (congr 1; first | (rw [← hx4, szL_drop (dflt := default) a i l (by omega), if_pos (by omega)]; done) | (rw [← hx4, List.drop_of_length_le (by omega)]; rfl) | (unfold szLs; rw [if_pos (by omega)]; done))) .nil)⟩
 ·
  replace h1 := of_decide_eq_false h1
  refine T.skip ?_
  refine T.seq ?_
  refine T.seq ?_
  refine T.region ?_
  refine TL.cons rfl (Step.assign (p := (.one (.d (.int .i64 0)))) rfl rfl (lt_ok rfl) rfl) ?_
  refine TL.nil ?_
  refine T.block ?_
  refine T.loop (ι := Nat × Int) (fun x => { tm := [(0, (.one (.d (.sl 3 (a.map SEntry.cells))))), (5, (.one (.d (.int .i64 ((x.1) : Int))))), (1, (.one (.d (.int .i64 (x.2)))))], rows := [], boxes := [] }) (fun x => (x.1) ≤ a.length ∧ 0 ≤ (x.2) ∧ (x.2) ≤ 9223372036854775807 ∧ szL SEntry.sz (a.drop (x.1)) (x.2) = szLs SEntry.sz a left) (fun x => a.length - (x.1)) (0, left - (a.length : Int)) ?_ ?_ ?_
  · exact Env.le_mk ⟨rfl, by first | rfl | (simp; done) | (congr 3; omega), by first | rfl | (simp; done) | (congr 3; omega), trivial⟩ trivial trivial
  · (refine ⟨Nat.zero_le _, by omega, by omega, ?_⟩; unfold szLs; rw [if_neg (by omega), List.drop_zero])
  ·
   intro x hx
   obtain ⟨i, l⟩ := x
   try dsimp only at hx ⊢
   obtain ⟨hx1, hx2, hx3, hx4⟩ := hx
   refine T.seq ?_
   refine T.seq ?_
   refine T.region ?_
   refine TL.cons rfl (Step.move (p := (.one (.d (.int .i64 (i : Int))))) rfl rfl (lt_ok rfl) rfl) ?_
   refine TL.cons rfl (Step.move (p := (.one (.d (.sl 3 (a.map SEntry.cells))))) rfl rfl (lt_ok rfl) rfl) ?_
   refine TL.cons rfl (Step.len' (e := 156) (z := 3) (d := (.sl 3 (a.map SEntry.cells))) (n := a.length) rfl rfl (lt_ok rfl) (by kernel_rfl) rfl rfl (by simp [D.size])) ?_
   refine TL.cons rfl (Step.bin rfl rfl (lt_ok rfl) rfl rfl (Bin.lss (k := .i64) (a := (i : Int)) (b := (a.length : Int)))) ?_
   refine TL.nil ?_
   refine T.cond (b := decide ((i : Int) < (a.length : Int))) rfl (fun h2 => ?_) (fun h2 => ?_)
   ·
    replace h2 := of_decide_eq_true h2
    refine T.skip ?_
    refine T.seq ?_
    refine T.block ?_
    refine T.seq ?_
    refine T.region ?_
    refine TL.cons rfl (Step.move (p := (.one (.d (.sl 3 (a.map SEntry.cells))))) rfl rfl (lt_ok rfl) rfl) ?_
    refine TL.cons rfl (Step.move (p := (.one (.d (.int .i64 (i : Int))))) rfl rfl (lt_ok rfl) rfl) ?_
    refine TL.cons rfl (Step.index (e := 156) (z := 3) (i := (i : Int)) rfl rfl (lt_ok rfl) (by kernel_rfl) rfl rfl rfl (lt_ok rfl) rfl (by first | omega | (simp; omega)) (by simp only [D.size]; first | omega | (simp; omega))) ?_
    refine TL.cons rfl (Step.load_agg (n := 3) (cs := [.d (.int .i64 (a.getD i default).f0), .d (.int .i64 (a.getD i default).f1), .d (.ints .u8 (a.getD i default).f2)]) rfl rfl (lt_ok rfl) (by kernel_rfl) rfl rfl (by simp only [List.range, List.range.loop, List.map_cons, List.map_nil]; rw [cell_map default (by first | omega | (simp; omega)), cell_map default (by first | omega | (simp; omega)), cell_map default (by first | omega | (simp; omega))]; rfl)) ?_
    refine TL.cons rfl (Step.move (p := (.one (.d (.int .i64 l)))) rfl rfl (lt_ok rfl) rfl) ?_
    refine TL.cons rfl (Step.call (f := 127) (xs := [.tmp 21, .tmp 22]) (ps := [(.agg [.d (.int .i64 (a.getD i default).f0), .d (.int .i64 (a.getD i default).f1), .d (.ints .u8 (a.getD i default).f2)]), (.one (.d (.int .i64 l)))]) false (g := .func 127) rfl rfl (lt_ok rfl) rfl (by kernel_rfl) rfl (.cons (.agg (.cons (.d _) (.cons (.d _) (.cons (.d _) .nil)))) (.cons (.one (.d _)) .nil)) (ok_laws_szEntry (a.getD i default) l (by omega) (by omega)) (.inr rfl) rfl (by simp) rfl) ?_
    refine TL.cons rfl (Step.assign (p := (.one (.d (.int .i64 ((a.getD i default).sz l))))) rfl rfl (lt_ok rfl) rfl) ?_
    refine TL.nil ?_
    refine T.seq ?_
    refine T.region ?_
    refine TL.cons rfl (Step.move (p := (.one (.d (.int .i64 ((a.getD i default).sz l))))) rfl rfl (lt_ok rfl) rfl) ?_
    refine TL.cons rfl (Step.bin rfl rfl (lt_ok rfl) rfl rfl (Bin.lss (k := .i64) (a := ((a.getD i default).sz l)) (b := 0))) ?_
    refine TL.nil ?_
    refine T.cond (b := decide (((a.getD i default).sz l) < 0)) rfl (fun h4 => ?_) (fun h4 => ?_)
    ·
     replace h4 := of_decide_eq_true h4
     refine T.seq ?_
     refine T.region ?_
     refine TL.cons rfl (Step.assign (p := (.one (.d (.int .i64 (-1))))) rfl rfl (lt_ok rfl) rfl) ?_
     refine TL.nil ?_
     refine T.ret ?_
     exact ⟨[(false, [.d (.int .i64 (-1))])], (.cons rfl .nil), rfl, [], (RetC.rd' (by (congr 1; first | (rw [← hx4, szL_drop (dflt := default) a i l (by omega), if_pos (by omega)]; done) | (rw [← hx4, List.drop_of_length_le (by omega)]; rfl) | (unfold szLs; rw [if_pos (by omega)]; done))) .nil)⟩
    ·
     replace h4 := of_decide_eq_false h4
     have z3_le : (a.getD i default).sz l ≤ l := SEntry.sz_le _ (by omega)
     refine T.skip ?_
     refine T.region ?_
     refine TL.cons rfl (Step.move (p := (.one (.d (.int .i64 (i : Int))))) rfl rfl (lt_ok rfl) rfl) ?_
     refine TL.cons rfl (Step.bin (r := .int .i64 ((i : Int) + 1)) rfl rfl (lt_ok rfl) rfl rfl (Bin.add (a := (i : Int)) (b := 1) (by first | exact wrap_ok (by first | omega | (simp; omega)) (by first | omega | (simp; omega)) | rfl))) ?_
     refine TL.cons rfl (Step.assign (p := (.one (.d (.int .i64 ((i : Int) + 1))))) rfl rfl (lt_ok rfl) rfl) ?_
     refine TL.nil ?_
     exact ⟨(i + 1, (SEntry.sz (a.getD i default) l)), by (refine ⟨by omega, by omega, by omega, ?_⟩; rw [← hx4, szL_drop (dflt := default) a i l (by omega), if_neg (by omega)]), by (dsimp only; omega), Env.le_mk ⟨rfl, by first | rfl | (simp; done) | (congr 3; omega), by first | rfl | (simp; done) | (congr 3; omega), trivial⟩ trivial trivial⟩
   ·
    replace h2 := of_decide_eq_false h2
    refine T.exit ?_
    refine T.seq ?_
    refine T.region ?_
    refine TL.cons rfl (Step.move (p := (.one (.d (.int .i64 l)))) rfl rfl (lt_ok rfl) rfl) ?_
    refine TL.cons rfl (Step.assign (p := (.one (.d (.int .i64 l)))) rfl rfl (lt_ok rfl) rfl) ?_
    refine TL.nil ?_
    refine T.ret ?_
    exact ⟨[(false, [.d (.int .i64 l)])], (.cons rfl .nil), rfl, [], (RetC.rd' (by (congr 1; first | (rw [← hx4, szL_drop (dflt := default) a i l (by omega), if_pos (by omega)]; done) | (rw [← hx4, List.drop_of_length_le (by omega)]; rfl) | (unfold szLs; rw [if_pos (by omega)]; done))) .nil)⟩
theorem ok_laws_szTc (a : STc) (left : Int) (h0_ : 0 ≤ left) (h1_ : left ≤ 9223372036854775807) : RO Try.prog 15 [.agg a.cells, .one (.int .i64 left)] [(false, [.rd (.int .i64 (a.sz left))])] := by
 refine RO.intro Try.func15 rfl 12 rfl (le_ok rfl) fun w Z => ?_
 refine T.seq ?_
 refine T.region ?_
 refine TL.cons rfl (Step.box (p := (.agg [.d (.int .i64 a.f0), .d (.sl 3 (a.f1.map SEntry.cells))])) (ps := [.d (.int .i64 a.f0), .d (.sl 3 (a.f1.map SEntry.cells))]) rfl rfl (lt_ok rfl) rfl rfl rfl rfl rfl) ?_
 refine TL.cons rfl (Step.assign (p := (.one (.d (.int .i64 0)))) rfl rfl (lt_ok rfl) rfl) ?_
 refine TL.nil ?_
 refine T.seq ?_
 refine T.region ?_
 refine TL.cons rfl (Step.fieldAddr (q := 0) (off := 1) (n := 1) (one := true) rfl rfl (lt_ok rfl) (by kernel_rfl) (Nat.succ_ne_zero _) rfl) ?_
 refine TL.cons rfl (Step.load_box (c := .d (.sl 3 (a.f1.map SEntry.cells))) rfl rfl (lt_ok rfl) (by kernel_rfl) rfl rfl rfl) ?_
 refine TL.cons rfl (Step.move (p := (.one (.d (.int .i64 left)))) rfl rfl (lt_ok rfl) rfl) ?_
 refine TL.cons rfl (Step.call (f := 72) (xs := [.tmp 6, .tmp 7]) (ps := [(.one (.d (.sl 3 (a.f1.map SEntry.cells)))), (.one (.d (.int .i64 left)))]) false (g := .func 72) rfl rfl (lt_ok rfl) rfl (by kernel_rfl) rfl (.cons (.one (.d _)) (.cons (.one (.d _)) .nil)) (ok_laws_szEntryS a.f1 left (by omega) (by omega)) (.inr rfl) rfl (by simp) rfl) ?_
 refine TL.cons rfl (Step.assign (p := (.one (.d (.int .i64 (szLs SEntry.sz a.f1 left))))) rfl rfl (lt_ok rfl) rfl) ?_
 refine TL.nil ?_
 refine T.seq ?_
 refine T.seq ?_
 refine T.region ?_
 refine TL.cons rfl (Step.move (p := (.one (.d (.int .i64 (szLs SEntry.sz a.f1 left))))) rfl rfl (lt_ok rfl) rfl) ?_
 refine TL.cons rfl (Step.bin rfl rfl (lt_ok rfl) rfl rfl (Bin.lss (k := .i64) (a := (szLs SEntry.sz a.f1 left)) (b := 0))) ?_
 refine TL.nil ?_
 refine T.cond (b := decide ((szLs SEntry.sz a.f1 left) < 0)) rfl (fun h2 => ?_) (fun h2 => ?_)
 ·
  replace h2 := of_decide_eq_true h2
  refine T.seq ?_
  refine T.region ?_
  refine TL.cons rfl (Step.assign (p := (.one (.d (.int .i64 (-1))))) rfl rfl (lt_ok rfl) rfl) ?_
  refine TL.nil ?_
  refine T.ret ?_
  exact ⟨[(false, [.d (.int .i64 (-1))])], (.cons rfl .nil), rfl, [], (RetC.rd' (by first | rfl | (congr 1; simp only [STc.sz, szThen]; repeat' (split <;> try omega))) .nil)⟩
 ·
  replace h2 := of_decide_eq_false h2
  have z1_le : szLs SEntry.sz a.f1 left ≤ left := szLs_le (fun x l h => SEntry.sz_le x h) _ (by omega)
  refine T.skip ?_
  refine T.seq ?_
  refine T.region ?_
  refine TL.cons rfl (Step.move (p := (.one (.d (.int .i64 (szLs SEntry.sz a.f1 left))))) rfl rfl (lt_ok rfl) rfl) ?_
  refine TL.cons rfl (Step.assign (p := (.one (.d (.int .i64 (szLs SEntry.sz a.f1 left))))) rfl rfl (lt_ok rfl) rfl) ?_
  refine TL.nil ?_
  refine T.ret ?_
  exact ⟨[(false, [.d (.int .i64 (szLs SEntry.sz a.f1 left))])], (.cons rfl .nil), rfl, [], (RetC.rd' (by first | rfl | (congr 1; simp only [STc.sz, szThen]; repeat' (split <;> try omega))) .nil)⟩
theorem ok_laws_szByteSS (a : List (List Int)) (left : Int) (h0_ : 0 ≤ left) (h1_ : left ≤ 9223372036854775807) : RO Try.prog 84 [.one (.bss a), .one (.int .i64 left)] [(false, [.rd (.int .i64 (szLs szB a left))])] := by
 refine RO.intro Try.func84 rfl 27 rfl (le_ok rfl) fun w Z => ?_
 refine T.bnd 0 0 rfl rfl fun hb_0_0 => ?_
 simp only [D.size, List.length_map] at hb_0_0
 refine T.seq ?_
 refine T.region ?_
 refine TL.cons rfl (Step.assign (p := (.one (.d (.int .i64 0)))) rfl rfl (lt_ok rfl) rfl) ?_
 refine TL.nil ?_
 refine T.seq ?_
 refine T.region ?_
 refine TL.cons rfl (Step.move (p := (.one (.d (.int .i64 left)))) rfl rfl (lt_ok rfl) rfl) ?_
 refine TL.cons rfl (Step.move (p := (.one (.d (.bss a)))) rfl rfl (lt_ok rfl) rfl) ?_
 refine TL.cons rfl (Step.len (e := 37) (z := 1) (d := (.bss a)) rfl rfl (lt_ok rfl) (by kernel_rfl) rfl rfl) ?_
 refine TL.cons rfl (Step.bin (r := .int .i64 (left - (a.length : Int))) rfl rfl (lt_ok rfl) rfl rfl (Bin.sub (a := left) (b := (a.length : Int)) (by first | exact wrap_ok (by first | omega | (simp; omega)) (by first | omega | (simp; omega)) | rfl))) ?_
 refine TL.cons rfl (Step.assign (p := (.one (.d (.int .i64 (left - (a.length : Int)))))) rfl rfl (lt_ok rfl) rfl) ?_
 refine TL.nil ?_
 refine T.seq ?_
 refine T.seq ?_
 refine T.region ?_
 refine TL.cons rfl (Step.move (p := (.one (.d (.int .i64 (left - (a.length : Int)))))) rfl rfl (lt_ok rfl) rfl) ?_
 refine TL.cons rfl (Step.bin rfl rfl (lt_ok rfl) rfl rfl (Bin.lss (k := .i64) (a := (left - (a.length : Int))) (b := 0))) ?_
 refine TL.nil ?_
 refine T.cond (b := decide ((left - (a.length : Int)) < 0)) rfl (fun h1 => ?_) (fun h1 => ?_)
 ·
  replace h1 := of_decide_eq_true h1
  refine T.seq ?_
  refine T.region ?_
  refine TL.cons rfl (Step.assign (p := (.one (.d (.int .i64 (-1))))) rfl rfl (lt_ok rfl) rfl) ?_
  refine TL.nil ?_
  refine T.ret ?_
  exact ⟨[(false, [.d (.int .i64 (-1))])], (.cons rfl .nil), rfl, [], (RetC.rd' (by (congr 1; first | (rw [← hx4, szL_drop (dflt := []) a i l (by omega), if_pos (by omega)]; done) | (rw [← hx4, List.drop_of_length_le (by omega)]; rfl) | (unfold szLs; rw [if_pos (by omega)]; done))) .nil)⟩
 ·
  replace h1 := of_decide_eq_false h1
  refine T.skip ?_
  refine T.seq ?_
  refine T.seq ?_
  refine T.region ?_
  refine TL.cons rfl (Step.assign (p := (.one (.d (.int .i64 0)))) rfl rfl (lt_ok rfl) rfl) ?_
  refine TL.nil ?_
  refine T.block ?_
  refine T.loop (ι := Nat × Int) (fun x => { tm := [(0, (.one (.d (.bss a)))), (5, (.one (.d (.int .i64 ((x.1) : Int))))), (1, (.one (.d (.int .i64 (x.2)))))], rows := [], boxes := [] }) (fun x => (x.1) ≤ a.length ∧ 0 ≤ (x.2) ∧ (x.2) ≤ 9223372036854775807 ∧ szL szB (a.drop (x.1)) (x.2) = szLs szB a left) (fun x => a.length - (x.1)) (0, left - (a.length : Int)) ?_ ?_ ?_
  · exact Env.le_mk ⟨rfl, by first | rfl | (simp; done) | (congr 3; omega), by first | rfl | (simp; done) | (congr 3; omega), trivial⟩ trivial trivial
  · (refine ⟨Nat.zero_le _, by omega, by omega, ?_⟩; unfold szLs; rw [if_neg (by omega), List.drop_zero])
  ·
   intro x hx
   obtain ⟨i, l⟩ := x
   try dsimp only at hx ⊢
   obtain ⟨hx1, hx2, hx3, hx4⟩ := hx
   refine T.seq ?_
   refine T.seq ?_
   refine T.region ?_
   refine TL.cons rfl (Step.move (p := (.one (.d (.int .i64 (i : Int))))) rfl rfl (lt_ok rfl) rfl) ?_
   refine TL.cons rfl (Step.move (p := (.one (.d (.bss a)))) rfl rfl (lt_ok rfl) rfl) ?_
   refine TL.cons rfl (Step.len (e := 37) (z := 1) (d := (.bss a)) rfl rfl (lt_ok rfl) (by kernel_rfl) rfl rfl) ?_
   refine TL.cons rfl (Step.bin rfl rfl (lt_ok rfl) rfl rfl (Bin.lss (k := .i64) (a := (i : Int)) (b := (a.length : Int)))) ?_
   refine TL.nil ?_
   refine T.cond (b := decide ((i : Int) < (a.length : Int))) rfl (fun h2 => ?_) (fun h2 => ?_)
   ·
    replace h2 := of_decide_eq_true h2
    refine T.skip ?_
    refine T.seq ?_
    refine T.block ?_
    refine T.seq ?_
    refine T.region ?_
    refine TL.cons rfl (Step.move (p := (.one (.d (.bss a)))) rfl rfl (lt_ok rfl) rfl) ?_
    refine TL.cons rfl (Step.move (p := (.one (.d (.int .i64 (i : Int))))) rfl rfl (lt_ok rfl) rfl) ?_
    refine TL.cons rfl (Step.index (e := 37) (z := 1) (i := (i : Int)) rfl rfl (lt_ok rfl) (by kernel_rfl) rfl rfl rfl (lt_ok rfl) rfl (by first | omega | (simp; omega)) (by simp only [D.size]; first | omega | (simp; omega))) ?_
    refine TL.cons rfl (Step.load (e := (.ints .u8 (a.getD i []))) rfl rfl (lt_ok rfl) (by kernel_rfl) rfl rfl) ?_
    refine TL.cons rfl (Step.move (p := (.one (.d (.int .i64 l)))) rfl rfl (lt_ok rfl) rfl) ?_
    refine TL.cons rfl (Step.call (f := 83) (xs := [.tmp 21, .tmp 22]) (ps := [(.one (.d (.ints .u8 (a.getD i [])))), (.one (.d (.int .i64 l)))]) false (g := .func 83) rfl rfl (lt_ok rfl) rfl (by kernel_rfl) rfl (.cons (.one (.d _)) (.cons (.one (.d _)) .nil)) (ok_laws_szByteS (a.getD i []) l (by omega) (by omega)) (.inr rfl) rfl (by simp) rfl) ?_
    refine TL.cons rfl (Step.assign (p := (.one (.d (.int .i64 (szB (a.getD i []) l))))) rfl rfl (lt_ok rfl) rfl) ?_
    refine TL.nil ?_
    refine T.seq ?_
    refine T.region ?_
    refine TL.cons rfl (Step.move (p := (.one (.d (.int .i64 (szB (a.getD i []) l))))) rfl rfl (lt_ok rfl) rfl) ?_
    refine TL.cons rfl (Step.bin rfl rfl (lt_ok rfl) rfl rfl (Bin.lss (k := .i64) (a := (szB (a.getD i []) l)) (b := 0))) ?_
    refine TL.nil ?_
    refine T.cond (b := decide ((szB (a.getD i []) l) < 0)) rfl (fun h4 => ?_) (fun h4 => ?_)
    ·
     replace h4 := of_decide_eq_true h4
     refine T.seq ?_
     refine T.region ?_
     refine TL.cons rfl (Step.assign (p := (.one (.d (.int .i64 (-1))))) rfl rfl (lt_ok rfl) rfl) ?_
     refine TL.nil ?_
     refine T.ret ?_
     exact ⟨[(false, [.d (.int .i64 (-1))])], (.cons rfl .nil), rfl, [], (RetC.rd' (by (congr 1; first | (rw [← hx4, szL_drop (dflt := []) a i l (by omega), if_pos (by omega)]; done) | (rw [← hx4, List.drop_of_length_le (by omega)]; rfl) | (unfold szLs; rw [if_pos (by omega)]; done))) .nil)⟩
    ·
     replace h4 := of_decide_eq_false h4
     have z3_le : szB (a.getD i []) l ≤ l := szB_le _ (by omega)
     refine T.skip ?_
     refine T.region ?_
     refine TL.cons rfl (Step.move (p := (.one (.d (.int .i64 (i : Int))))) rfl rfl (lt_ok rfl) rfl) ?_
     refine TL.cons rfl (Step.bin (r := .int .i64 ((i : Int) + 1)) rfl rfl (lt_ok rfl) rfl rfl (Bin.add (a := (i : Int)) (b := 1) (by first | exact wrap_ok (by first | omega | (simp; omega)) (by first | omega | (simp; omega)) | rfl))) ?_
     refine TL.cons rfl (Step.assign (p := (.one (.d (.int .i64 ((i : Int) + 1))))) rfl rfl (lt_ok rfl) rfl) ?_
     refine TL.nil ?_
     exact ⟨(i + 1, (szB (a.getD i []) l)), by (refine ⟨by omega, by omega, by omega, ?_⟩; rw [← hx4, szL_drop (dflt := []) a i l (by omega), if_neg (by omega)]), by (dsimp only; omega), Env.le_mk ⟨rfl, by first | rfl | (simp; done) | (congr 3; omega), by first | rfl | (simp; done) | (congr 3; omega), trivial⟩ trivial trivial⟩
   ·
    replace h2 := of_decide_eq_false h2
    refine T.exit ?_
    refine T.seq ?_
    refine T.region ?_
    refine TL.cons rfl (Step.move (p := (.one (.d (.int .i64 l)))) rfl rfl (lt_ok rfl) rfl) ?_
    refine TL.cons rfl (Step.assign (p := (.one (.d (.int .i64 l)))) rfl rfl (lt_ok rfl) rfl) ?_
    refine TL.nil ?_
    refine T.ret ?_
    exact ⟨[(false, [.d (.int .i64 l)])], (.cons rfl .nil), rfl, [], (RetC.rd' (by (congr 1; first | (rw [← hx4, szL_drop (dflt := []) a i l (by omega), if_pos (by omega)]; done) | (rw [← hx4, List.drop_of_length_le (by omega)]; rfl) | (unfold szLs; rw [if_pos (by omega)]; done))) .nil)⟩
theorem ok_laws_szIncl (a : SIncl) (left : Int) (h0_ : 0 ≤ left) (h1_ : left ≤ 9223372036854775807) : RO Try.prog 21 [.agg a.cells, .one (.int .i64 left)] [(false, [.rd (.int .i64 (a.sz left))])] := by
 refine RO.intro Try.func21 rfl 18 rfl (le_ok rfl) fun w Z => ?_
 refine T.seq ?_
 refine T.region ?_
 refine TL.cons rfl (Step.box (p := (.agg [.d (.int .i64 a.f0), .d (.int .i64 a.f1), .d (.int .i64 a.f2), .d (.ints .u8 a.f3), .d (.bss a.f4)])) (ps := [.d (.int .i64 a.f0), .d (.int .i64 a.f1), .d (.int .i64 a.f2), .d (.ints .u8 a.f3), .d (.bss a.f4)]) rfl rfl (lt_ok rfl) rfl rfl rfl rfl rfl) ?_
 refine TL.cons rfl (Step.assign (p := (.one (.d (.int .i64 0)))) rfl rfl (lt_ok rfl) rfl) ?_
 refine TL.nil ?_
 refine T.seq ?_
 refine T.region ?_
 refine TL.cons rfl (Step.fieldAddr (q := 0) (off := 3) (n := 1) (one := true) rfl rfl (lt_ok rfl) (by kernel_rfl) (Nat.succ_ne_zero _) rfl) ?_
 refine TL.cons rfl (Step.load_box (c := .d (.ints .u8 a.f3)) rfl rfl (lt_ok rfl) (by kernel_rfl) rfl rfl rfl) ?_
 refine TL.cons rfl (Step.move (p := (.one (.d (.int .i64 left)))) rfl rfl (lt_ok rfl) rfl) ?_
 refine TL.cons rfl (Step.call (f := 83) (xs := [.tmp 6, .tmp 7]) (ps := [(.one (.d (.ints .u8 a.f3))), (.one (.d (.int .i64 left)))]) false (g := .func 83) rfl rfl (lt_ok rfl) rfl (by kernel_rfl) rfl (.cons (.one (.d _)) (.cons (.one (.d _)) .nil)) (ok_laws_szByteS a.f3 left (by omega) (by omega)) (.inr rfl) rfl (by simp) rfl) ?_
 refine TL.cons rfl (Step.assign (p := (.one (.d (.int .i64 (szB a.f3 left))))) rfl rfl (lt_ok rfl) rfl) ?_
 refine TL.nil ?_
 refine T.seq ?_
 refine T.seq ?_
 refine T.region ?_
 refine TL.cons rfl (Step.move (p := (.one (.d (.int .i64 (szB a.f3 left))))) rfl rfl (lt_ok rfl) rfl) ?_
 refine TL.cons rfl (Step.bin rfl rfl (lt_ok rfl) rfl rfl (Bin.lss (k := .i64) (a := (szB a.f3 left)) (b := 0))) ?_
 refine TL.nil ?_
 refine T.cond (b := decide ((szB a.f3 left) < 0)) rfl (fun h2 => ?_) (fun h2 => ?_)
 ·
  replace h2 := of_decide_eq_true h2
  refine T.seq ?_
  refine T.region ?_
  refine TL.cons rfl (Step.assign (p := (.one (.d (.int .i64 (-1))))) rfl rfl (lt_ok rfl) rfl) ?_
  refine TL.nil ?_
  refine T.ret ?_
  exact ⟨[(false, [.d (.int .i64 (-1))])], (.cons rfl .nil), rfl, [], (RetC.rd' (by first | rfl | (congr 1; simp only [SIncl.sz, szThen]; repeat' (split <;> try omega))) .nil)⟩
 ·
  replace h2 := of_decide_eq_false h2
  have z1_le : szB a.f3 left ≤ left := szB_le _ (by omega)
  refine T.skip ?_
  refine T.seq ?_
  refine T.region ?_
  refine TL.cons rfl (Step.fieldAddr (q := 0) (off := 4) (n := 1) (one := true) rfl rfl (lt_ok rfl) (by kernel_rfl) (Nat.succ_ne_zero _) rfl) ?_
  refine TL.cons rfl (Step.load_box (c := .d (.bss a.f4)) rfl rfl (lt_ok rfl) (by kernel_rfl) rfl rfl rfl) ?_
  refine TL.cons rfl (Step.move (p := (.one (.d (.int .i64 (szB a.f3 left))))) rfl rfl (lt_ok rfl) rfl) ?_
  refine TL.cons rfl (Step.call (f := 84) (xs := [.tmp 12, .tmp 13]) (ps := [(.one (.d (.bss a.f4))), (.one (.d (.int .i64 (szB a.f3 left))))]) false (g := .func 84) rfl rfl (lt_ok rfl) rfl (by kernel_rfl) rfl (.cons (.one (.d _)) (.cons (.one (.d _)) .nil)) (ok_laws_szByteSS a.f4 (szB a.f3 left) (by omega) (by omega)) (.inr rfl) rfl (by simp) rfl) ?_
  refine TL.cons rfl (Step.assign (p := (.one (.d (.int .i64 (szLs szB a.f4 (szB a.f3 left)))))) rfl rfl (lt_ok rfl) rfl) ?_
  refine TL.nil ?_
  refine T.seq ?_
  refine T.seq ?_
  refine T.region ?_
  refine TL.cons rfl (Step.move (p := (.one (.d (.int .i64 (szLs szB a.f4 (szB a.f3 left)))))) rfl rfl (lt_ok rfl) rfl) ?_
  refine TL.cons rfl (Step.bin rfl rfl (lt_ok rfl) rfl rfl (Bin.lss (k := .i64) (a := (szLs szB a.f4 (szB a.f3 left))) (b := 0))) ?_
  refine TL.nil ?_
  refine T.cond (b := decide ((szLs szB a.f4 (szB a.f3 left)) < 0)) rfl (fun h4 => ?_) (fun h4 => ?_)
  ·
   replace h4 := of_decide_eq_true h4
   refine T.seq ?_
   refine T.region ?_
   refine TL.cons rfl (Step.assign (p := (.one (.d (.int .i64 (-1))))) rfl rfl (lt_ok rfl) rfl) ?_
   refine TL.nil ?_
   refine T.ret ?_
   exact ⟨[(false, [.d (.int .i64 (-1))])], (.cons rfl .nil), rfl, [], (RetC.rd' (by first | rfl | (congr 1; simp only [SIncl.sz, szThen]; repeat' (split <;> try omega))) .nil)⟩
  ·
   replace h4 := of_decide_eq_false h4
   have z3_le : szLs szB a.f4 (szB a.f3 left) ≤ (szB a.f3 left) := szLs_le (fun x l h => szB_le x h) _ (by omega)
   refine T.skip ?_
   refine T.seq ?_
   refine T.region ?_
   refine TL.cons rfl (Step.move (p := (.one (.d (.int .i64 (szLs szB a.f4 (szB a.f3 left)))))) rfl rfl (lt_ok rfl) rfl) ?_
   refine TL.cons rfl (Step.assign (p := (.one (.d (.int .i64 (szLs szB a.f4 (szB a.f3 left)))))) rfl rfl (lt_ok rfl) rfl) ?_
   refine TL.nil ?_
   refine T.ret ?_
   exact ⟨[(false, [.d (.int .i64 (szLs szB a.f4 (szB a.f3 left)))])], (.cons rfl .nil), rfl, [], (RetC.rd' (by first | rfl | (congr 1; simp only [SIncl.sz, szThen]; repeat' (split <;> try omega))) .nil)⟩
theorem ok_laws_szQc (a : SQc) (left : Int) (h0_ : 0 ≤ left) (h1_ : left ≤ 9223372036854775807) : RO Try.prog 31 [.agg a.cells, .one (.int .i64 left)] [(false, [.rd (.int .i64 (a.sz left))])] := by
 refine RO.intro Try.func31 rfl 24 rfl (le_ok rfl) fun w Z => ?_
 refine T.seq ?_
 refine T.region ?_
 refine TL.cons rfl (Step.box (p := (.agg [.d (.int .i64 a.f0), .d (.int .i64 a.f1), .d (.ints .u8 a.f2), .d (.ints .u8 a.f3), .d (.bss a.f4)])) (ps := [.d (.int .i64 a.f0), .d (.int .i64 a.f1), .d (.ints .u8 a.f2), .d (.ints .u8 a.f3), .d (.bss a.f4)]) rfl rfl (lt_ok rfl) rfl rfl rfl rfl rfl) ?_
 refine TL.cons rfl (Step.assign (p := (.one (.d (.int .i64 0)))) rfl rfl (lt_ok rfl) rfl) ?_
 refine TL.nil ?_
 refine T.seq ?_
 refine T.region ?_
 refine TL.cons rfl (Step.fieldAddr (q := 0) (off := 2) (n := 1) (one := true) rfl rfl (lt_ok rfl) (by kernel_rfl) (Nat.succ_ne_zero _) rfl) ?_
 refine TL.cons rfl (Step.load_box (c := .d (.ints .u8 a.f2)) rfl rfl (lt_ok rfl) (by kernel_rfl) rfl rfl rfl) ?_
 refine TL.cons rfl (Step.move (p := (.one (.d (.int .i64 left)))) rfl rfl (lt_ok rfl) rfl) ?_
 refine TL.cons rfl (Step.call (f := 83) (xs := [.tmp 6, .tmp 7]) (ps := [(.one (.d (.ints .u8 a.f2))), (.one (.d (.int .i64 left)))]) false (g := .func 83) rfl rfl (lt_ok rfl) rfl (by kernel_rfl) rfl (.cons (.one (.d _)) (.cons (.one (.d _)) .nil)) (ok_laws_szByteS a.f2 left (by omega) (by omega)) (.inr rfl) rfl (by simp) rfl) ?_
 refine TL.cons rfl (Step.assign (p := (.one (.d (.int .i64 (szB a.f2 left))))) rfl rfl (lt_ok rfl) rfl) ?_
 refine TL.nil ?_
 refine T.seq ?_
 refine T.seq ?_
 refine T.region ?_
 refine TL.cons rfl (Step.move (p := (.one (.d (.int .i64 (szB a.f2 left))))) rfl rfl (lt_ok rfl) rfl) ?_
 refine TL.cons rfl (Step.bin rfl rfl (lt_ok rfl) rfl rfl (Bin.lss (k := .i64) (a := (szB a.f2 left)) (b := 0))) ?_
 refine TL.nil ?_
 refine T.cond (b := decide ((szB a.f2 left) < 0)) rfl (fun h2 => ?_) (fun h2 => ?_)
 ·
  replace h2 := of_decide_eq_true h2
  refine T.seq ?_
  refine T.region ?_
  refine TL.cons rfl (Step.assign (p := (.one (.d (.int .i64 (-1))))) rfl rfl (lt_ok rfl) rfl) ?_
  refine TL.nil ?_
  refine T.ret ?_
  exact ⟨[(false, [.d (.int .i64 (-1))])], (.cons rfl .nil), rfl, [], (RetC.rd' (by first | rfl | (congr 1; simp only [SQc.sz, szThen]; repeat' (split <;> try omega))) .nil)⟩
 ·
  replace h2 := of_decide_eq_false h2
  have z1_le : szB a.f2 left ≤ left := szB_le _ (by omega)
  refine T.skip ?_
  refine T.seq ?_
  refine T.region ?_
  refine TL.cons rfl (Step.fieldAddr (q := 0) (off := 3) (n := 1) (one := true) rfl rfl (lt_ok rfl) (by kernel_rfl) (Nat.succ_ne_zero _) rfl) ?_
  refine TL.cons rfl (Step.load_box (c := .d (.ints .u8 a.f3)) rfl rfl (lt_ok rfl) (by kernel_rfl) rfl rfl rfl) ?_
  refine TL.cons rfl (Step.move (p := (.one (.d (.int .i64 (szB a.f2 left))))) rfl rfl (lt_ok rfl) rfl) ?_
  refine TL.cons rfl (Step.call (f := 83) (xs := [.tmp 12, .tmp 13]) (ps := [(.one (.d (.ints .u8 a.f3))), (.one (.d (.int .i64 (szB a.f2 left))))]) false (g := .func 83) rfl rfl (lt_ok rfl) rfl (by kernel_rfl) rfl (.cons (.one (.d _)) (.cons (.one (.d _)) .nil)) (ok_laws_szByteS a.f3 (szB a.f2 left) (by omega) (by omega)) (.inr rfl) rfl (by simp) rfl) ?_
  refine TL.cons rfl (Step.assign (p := (.one (.d (.int .i64 (szB a.f3 (szB a.f2 left)))))) rfl rfl (lt_ok rfl) rfl) ?_
  refine TL.nil ?_
  refine T.seq ?_
  refine T.seq ?_
  refine T.region ?_
  refine TL.cons rfl (Step.move (p := (.one (.d (.int .i64 (szB a.f3 (szB a.f2 left)))))) rfl rfl (lt_ok rfl) rfl) ?_
  refine TL.cons rfl (Step.bin rfl rfl (lt_ok rfl) rfl rfl (Bin.lss (k := .i64) (a := (szB a.f3 (szB a.f2 left))) (b := 0))) ?_
  refine TL.nil ?_
  refine T.cond (b := decide ((szB a.f3 (szB a.f2 left)) < 0)) rfl (fun h4 => ?_) (fun h4 => ?_)
  ·
   replace h4 := of_decide_eq_true h4
   refine T.seq ?_
   refine T.region ?_
   refine TL.cons rfl (Step.assign (p := (.one (.d (.int .i64 (-1))))) rfl rfl (lt_ok rfl) rfl) ?_
   refine TL.nil ?_
   refine T.ret ?_
   exact ⟨[(false, [.d (.int .i64 (-1))])], (.cons rfl .nil), rfl, [], (RetC.rd' (by first | rfl | (congr 1; simp only [SQc.sz, szThen]; repeat' (split <;> try omega))) .nil)⟩
  ·
   replace h4 := of_decide_eq_false h4
   have z3_le : szB a.f3 (szB a.f2 left) ≤ (szB a.f2 left) := szB_le _ (by omega)
   refine T.skip ?_
   refine T.seq ?_
   refine T.region ?_
   refine TL.cons rfl (Step.fieldAddr (q := 0) (off := 4) (n := 1) (one := true) rfl rfl (lt_ok rfl) (by kernel_rfl) (Nat.succ_ne_zero _) rfl) ?_
   refine TL.cons rfl (Step.load_box (c := .d (.bss a.f4)) rfl rfl (lt_ok rfl) (by kernel_rfl) rfl rfl rfl) ?_
   refine TL.cons rfl (Step.move (p := (.one (.d (.int .i64 (szB a.f3 (szB a.f2 left)))))) rfl rfl (lt_ok rfl) rfl) ?_
   refine TL.cons rfl (Step.call (f := 84) (xs := [.tmp 18, .tmp 19]) (ps := [(.one (.d (.bss a.f4))), (.one (.d (.int .i64 (szB a.f3 (szB a.f2 left)))))]) false (g := .func 84) rfl rfl (lt_ok rfl) rfl (by kernel_rfl) rfl (.cons (.one (.d _)) (.cons (.one (.d _)) .nil)) (ok_laws_szByteSS a.f4 (szB a.f3 (szB a.f2 left)) (by omega) (by omega)) (.inr rfl) rfl (by simp) rfl) ?_
   refine TL.cons rfl (Step.assign (p := (.one (.d (.int .i64 (szLs szB a.f4 (szB a.f3 (szB a.f2 left))))))) rfl rfl (lt_ok rfl) rfl) ?_
   refine TL.nil ?_
   refine T.seq ?_
   refine T.seq ?_
   refine T.region ?_
   refine TL.cons rfl (Step.move (p := (.one (.d (.int .i64 (szLs szB a.f4 (szB a.f3 (szB a.f2 left))))))) rfl rfl (lt_ok rfl) rfl) ?_
   refine TL.cons rfl (Step.bin rfl rfl (lt_ok rfl) rfl rfl (Bin.lss (k := .i64) (a := (szLs szB a.f4 (szB a.f3 (szB a.f2 left)))) (b := 0))) ?_
   refine TL.nil ?_
   refine T.cond (b := decide ((szLs szB a.f4 (szB a.f3 (szB a.f2 left))) < 0)) rfl (fun h6 => ?_) (fun h6 => ?_)
   ·
    replace h6 := of_decide_eq_true h6
    refine T.seq ?_
    refine T.region ?_
    refine TL.cons rfl (Step.assign (p := (.one (.d (.int .i64 (-1))))) rfl rfl (lt_ok rfl) rfl) ?_
    refine TL.nil ?_
    refine T.ret ?_
    exact ⟨[(false, [.d (.int .i64 (-1))])], (.cons rfl .nil), rfl, [], (RetC.rd' (by first | rfl | (congr 1; simp only [SQc.sz, szThen]; repeat' (split <;> try omega))) .nil)⟩
   ·
    replace h6 := of_decide_eq_false h6
    have z5_le : szLs szB a.f4 (szB a.f3 (szB a.f2 left)) ≤ (szB a.f3 (szB a.f2 left)) := szLs_le (fun x l h => szB_le x h) _ (by omega)
    refine T.skip ?_
    refine T.seq ?_
    refine T.region ?_
    refine TL.cons rfl (Step.move (p := (.one (.d (.int .i64 (szLs szB a.f4 (szB a.f3 (szB a.f2 left))))))) rfl rfl (lt_ok rfl) rfl) ?_
    refine TL.cons rfl (Step.assign (p := (.one (.d (.int .i64 (szLs szB a.f4 (szB a.f3 (szB a.f2 left))))))) rfl rfl (lt_ok rfl) rfl) ?_
    refine TL.nil ?_
    refine T.ret ?_
    exact ⟨[(false, [.d (.int .i64 (szLs szB a.f4 (szB a.f3 (szB a.f2 left))))])], (.cons rfl .nil), rfl, [], (RetC.rd' (by first | rfl | (congr 1; simp only [SQc.sz, szThen]; repeat' (split <;> try omega))) .nil)⟩
theorem ok_laws_szHead (a : SHead) (left : Int) (h0_ : 0 ≤ left) (h1_ : left ≤ 9223372036854775807) : RO Try.prog 26 [.agg a.cells, .one (.int .i64 left)] [(false, [.rd (.int .i64 (a.sz left))])] := by
 refine RO.intro Try.func26 rfl 24 rfl (le_ok rfl) fun w Z => ?_
 refine T.seq ?_
 refine T.region ?_
 refine TL.cons rfl (Step.box (p := (.agg [.d (.int .i64 a.f0), .d (.int .i64 a.f1), .d (.int .i64 a.f2), .d (.ints .u8 a.f3), .d (.ints .u8 a.f4), .d (.int .i64 a.f5.f0), .d (.int .i64 a.f5.f1), .d (.ints .u8 a.f5.f2), .d (.ints .u8 a.f5.f3), .d (.bss a.f5.f4)])) (ps := [.d (.int .i64 a.f0), .d (.int .i64 a.f1), .d (.int .i64 a.f2), .d (.ints .u8 a.f3), .d (.ints .u8 a.f4), .d (.int .i64 a.f5.f0), .d (.int .i64 a.f5.f1), .d (.ints .u8 a.f5.f2), .d (.ints .u8 a.f5.f3), .d (.bss a.f5.f4)]) rfl rfl (lt_ok rfl) rfl rfl rfl rfl rfl) ?_
 refine TL.cons rfl (Step.assign (p := (.one (.d (.int .i64 0)))) rfl rfl (lt_ok rfl) rfl) ?_
 refine TL.nil ?_
 refine T.seq ?_
 refine T.region ?_
 refine TL.cons rfl (Step.fieldAddr (q := 0) (off := 3) (n := 1) (one := true) rfl rfl (lt_ok rfl) (by kernel_rfl) (Nat.succ_ne_zero _) rfl) ?_
 refine TL.cons rfl (Step.load_box (c := .d (.ints .u8 a.f3)) rfl rfl (lt_ok rfl) (by kernel_rfl) rfl rfl rfl) ?_
 refine TL.cons rfl (Step.move (p := (.one (.d (.int .i64 left)))) rfl rfl (lt_ok rfl) rfl) ?_
 refine TL.cons rfl (Step.call (f := 83) (xs := [.tmp 6, .tmp 7]) (ps := [(.one (.d (.ints .u8 a.f3))), (.one (.d (.int .i64 left)))]) false (g := .func 83) rfl rfl (lt_ok rfl) rfl (by kernel_rfl) rfl (.cons (.one (.d _)) (.cons (.one (.d _)) .nil)) (ok_laws_szByteS a.f3 left (by omega) (by omega)) (.inr rfl) rfl (by simp) rfl) ?_
 refine TL.cons rfl (Step.assign (p := (.one (.d (.int .i64 (szB a.f3 left))))) rfl rfl (lt_ok rfl) rfl) ?_
 refine TL.nil ?_
 refine T.seq ?_
 refine T.seq ?_
 refine T.region ?_
 refine TL.cons rfl (Step.move (p := (.one (.d (.int .i64 (szB a.f3 left))))) rfl rfl (lt_ok rfl) rfl) ?_
 refine TL.cons rfl (Step.bin rfl rfl (lt_ok rfl) rfl rfl (Bin.lss (k := .i64) (a := (szB a.f3 left)) (b := 0))) ?_
 refine TL.nil ?_
 refine T.cond (b := decide ((szB a.f3 left) < 0)) rfl (fun h2 => ?_) (fun h2 => ?_)
 ·
  replace h2 := of_decide_eq_true h2
  refine T.seq ?_
  refine T.region ?_
  refine TL.cons rfl (Step.assign (p := (.one (.d (.int .i64 (-1))))) rfl rfl (lt_ok rfl) rfl) ?_
  refine TL.nil ?_
  refine T.ret ?_
  exact ⟨[(false, [.d (.int .i64 (-1))])], (.cons rfl .nil), rfl, [], (RetC.rd' (by first | rfl | (congr 1; simp only [SHead.sz, szThen]; repeat' (split <;> try omega))) .nil)⟩
 ·
  replace h2 := of_decide_eq_false h2
  have z1_le : szB a.f3 left ≤ left := szB_le _ (by omega)
  refine T.skip ?_
  refine T.seq ?_
  refine T.region ?_
  refine TL.cons rfl (Step.fieldAddr (q := 0) (off := 4) (n := 1) (one := true) rfl rfl (lt_ok rfl) (by kernel_rfl) (Nat.succ_ne_zero _) rfl) ?_
  refine TL.cons rfl (Step.load_box (c := .d (.ints .u8 a.f4)) rfl rfl (lt_ok rfl) (by kernel_rfl) rfl rfl rfl) ?_
  refine TL.cons rfl (Step.move (p := (.one (.d (.int .i64 (szB a.f3 left))))) rfl rfl (lt_ok rfl) rfl) ?_
  refine TL.cons rfl (Step.call (f := 83) (xs := [.tmp 12, .tmp 13]) (ps := [(.one (.d (.ints .u8 a.f4))), (.one (.d (.int .i64 (szB a.f3 left))))]) false (g := .func 83) rfl rfl (lt_ok rfl) rfl (by kernel_rfl) rfl (.cons (.one (.d _)) (.cons (.one (.d _)) .nil)) (ok_laws_szByteS a.f4 (szB a.f3 left) (by omega) (by omega)) (.inr rfl) rfl (by simp) rfl) ?_
  refine TL.cons rfl (Step.assign (p := (.one (.d (.int .i64 (szB a.f4 (szB a.f3 left)))))) rfl rfl (lt_ok rfl) rfl) ?_
  refine TL.nil ?_
  refine T.seq ?_
  refine T.seq ?_
  refine T.region ?_
  refine TL.cons rfl (Step.move (p := (.one (.d (.int .i64 (szB a.f4 (szB a.f3 left)))))) rfl rfl (lt_ok rfl) rfl) ?_
  refine TL.cons rfl (Step.bin rfl rfl (lt_ok rfl) rfl rfl (Bin.lss (k := .i64) (a := (szB a.f4 (szB a.f3 left))) (b := 0))) ?_
  refine TL.nil ?_
  refine T.cond (b := decide ((szB a.f4 (szB a.f3 left)) < 0)) rfl (fun h4 => ?_) (fun h4 => ?_)
  ·
   replace h4 := of_decide_eq_true h4
   refine T.seq ?_
   refine T.region ?_
   refine TL.cons rfl (Step.assign (p := (.one (.d (.int .i64 (-1))))) rfl rfl (lt_ok rfl) rfl) ?_
   refine TL.nil ?_
   refine T.ret ?_
   exact ⟨[(false, [.d (.int .i64 (-1))])], (.cons rfl .nil), rfl, [], (RetC.rd' (by first | rfl | (congr 1; simp only [SHead.sz, szThen]; repeat' (split <;> try omega))) .nil)⟩
  ·
   replace h4 := of_decide_eq_false h4
   have z3_le : szB a.f4 (szB a.f3 left) ≤ (szB a.f3 left) := szB_le _ (by omega)
   refine T.skip ?_
   refine T.seq ?_
   refine T.region ?_
   refine TL.cons rfl (Step.fieldAddr (q := 0) (off := 5) (n := 5) (one := false) rfl rfl (lt_ok rfl) (by kernel_rfl) (Nat.succ_ne_zero _) rfl) ?_
   refine TL.cons rfl (Step.load_box_agg (n := 5) (qs := [.d (.int .i64 a.f5.f0), .d (.int .i64 a.f5.f1), .d (.ints .u8 a.f5.f2), .d (.ints .u8 a.f5.f3), .d (.bss a.f5.f4)]) rfl rfl (lt_ok rfl) (by kernel_rfl) rfl rfl rfl rfl) ?_
   refine TL.cons rfl (Step.move (p := (.one (.d (.int .i64 (szB a.f4 (szB a.f3 left)))))) rfl rfl (lt_ok rfl) rfl) ?_
   refine TL.cons rfl (Step.call (f := 31) (xs := [.tmp 18, .tmp 19]) (ps := [(.agg [.d (.int .i64 a.f5.f0), .d (.int .i64 a.f5.f1), .d (.ints .u8 a.f5.f2), .d (.ints .u8 a.f5.f3), .d (.bss a.f5.f4)]), (.one (.d (.int .i64 (szB a.f4 (szB a.f3 left)))))]) false (g := .func 31) rfl rfl (lt_ok rfl) rfl (by kernel_rfl) rfl (.cons (.agg (.cons (.d _) (.cons (.d _) (.cons (.d _) (.cons (.d _) (.cons (.d _) .nil)))))) (.cons (.one (.d _)) .nil)) (ok_laws_szQc a.f5 (szB a.f4 (szB a.f3 left)) (by omega) (by omega)) (.inr rfl) rfl (by simp) rfl) ?_
   refine TL.cons rfl (Step.assign (p := (.one (.d (.int .i64 (a.f5.sz (szB a.f4 (szB a.f3 left))))))) rfl rfl (lt_ok rfl) rfl) ?_
   refine TL.nil ?_
   refine T.seq ?_
   refine T.seq ?_
   refine T.region ?_
   refine TL.cons rfl (Step.move (p := (.one (.d (.int .i64 (a.f5.sz (szB a.f4 (szB a.f3 left))))))) rfl rfl (lt_ok rfl) rfl) ?_
   refine TL.cons rfl (Step.bin rfl rfl (lt_ok rfl) rfl rfl (Bin.lss (k := .i64) (a := (a.f5.sz (szB a.f4 (szB a.f3 left)))) (b := 0))) ?_
   refine TL.nil ?_
   refine T.cond (b := decide ((a.f5.sz (szB a.f4 (szB a.f3 left))) < 0)) rfl (fun h6 => ?_) (fun h6 => ?_)
   ·
    replace h6 := of_decide_eq_true h6
    refine T.seq ?_
    refine T.region ?_
    refine TL.cons rfl (Step.assign (p := (.one (.d (.int .i64 (-1))))) rfl rfl (lt_ok rfl) rfl) ?_
    refine TL.nil ?_
    refine T.ret ?_
    exact ⟨[(false, [.d (.int .i64 (-1))])], (.cons rfl .nil), rfl, [], (RetC.rd' (by first | rfl | (congr 1; simp only [SHead.sz, szThen]; repeat' (split <;> try omega))) .nil)⟩
   ·
    replace h6 := of_decide_eq_false h6
    have z5_le : a.f5.sz (szB a.f4 (szB a.f3 left)) ≤ (szB a.f4 (szB a.f3 left)) := SQc.sz_le _ (by omega)
    refine T.skip ?_
    refine T.seq ?_
    refine T.region ?_
    refine TL.cons rfl (Step.move (p := (.one (.d (.int .i64 (a.f5.sz (szB a.f4 (szB a.f3 left))))))) rfl rfl (lt_ok rfl) rfl) ?_
    refine TL.cons rfl (Step.assign (p := (.one (.d (.int .i64 (a.f5.sz (szB a.f4 (szB a.f3 left))))))) rfl rfl (lt_ok rfl) rfl) ?_
    refine TL.nil ?_
    refine T.ret ?_
    exact ⟨[(false, [.d (.int .i64 (a.f5.sz (szB a.f4 (szB a.f3 left))))])], (.cons rfl .nil), rfl, [], (RetC.rd' (by first | rfl | (congr 1; simp only [SHead.sz, szThen]; repeat' (split <;> try omega))) .nil)⟩
theorem ok_laws_szBlock (a : SBlock) (left : Int) (h0_ : 0 ≤ left) (h1_ : left ≤ 9223372036854775807) : RO Try.prog 36 [.agg a.cells, .one (.int .i64 left)] [(false, [.rd (.int .i64 (a.sz left))])] := by
 refine RO.intro Try.func36 rfl 18 rfl (le_ok rfl) fun w Z => ?_
 refine T.seq ?_
 refine T.region ?_
 refine TL.cons rfl (Step.box (p := (.agg [.d (.int .i64 a.f0.f0), .d (.int .i64 a.f0.f1), .d (.int .i64 a.f0.f2), .d (.ints .u8 a.f0.f3), .d (.ints .u8 a.f0.f4), .d (.int .i64 a.f0.f5.f0), .d (.int .i64 a.f0.f5.f1), .d (.ints .u8 a.f0.f5.f2), .d (.ints .u8 a.f0.f5.f3), .d (.bss a.f0.f5.f4), .d (.bss a.f1)])) (ps := [.d (.int .i64 a.f0.f0), .d (.int .i64 a.f0.f1), .d (.int .i64 a.f0.f2), .d (.ints .u8 a.f0.f3), .d (.ints .u8 a.f0.f4), .d (.int .i64 a.f0.f5.f0), .d (.int .i64 a.f0.f5.f1), .d (.ints .u8 a.f0.f5.f2), .d (.ints .u8 a.f0.f5.f3), .d (.bss a.f0.f5.f4), .d (.bss a.f1)]) rfl rfl (lt_ok rfl) rfl rfl rfl rfl rfl) ?_
 refine TL.cons rfl (Step.assign (p := (.one (.d (.int .i64 0)))) rfl rfl (lt_ok rfl) rfl) ?_
 refine TL.nil ?_
 refine T.seq ?_
 refine T.region ?_
 refine TL.cons rfl (Step.fieldAddr (q := 0) (off := 0) (n := 10) (one := false) rfl rfl (lt_ok rfl) (by kernel_rfl) (Nat.succ_ne_zero _) rfl) ?_
 refine TL.cons rfl (Step.load_box_agg (n := 10) (qs := [.d (.int .i64 a.f0.f0), .d (.int .i64 a.f0.f1), .d (.int .i64 a.f0.f2), .d (.ints .u8 a.f0.f3), .d (.ints .u8 a.f0.f4), .d (.int .i64 a.f0.f5.f0), .d (.int .i64 a.f0.f5.f1), .d (.ints .u8 a.f0.f5.f2), .d (.ints .u8 a.f0.f5.f3), .d (.bss a.f0.f5.f4)]) rfl rfl (lt_ok rfl) (by kernel_rfl) rfl rfl rfl rfl) ?_
 refine TL.cons rfl (Step.move (p := (.one (.d (.int .i64 left)))) rfl rfl (lt_ok rfl) rfl) ?_
 refine TL.cons rfl (Step.call (f := 26) (xs := [.tmp 6, .tmp 7]) (ps := [(.agg [.d (.int .i64 a.f0.f0), .d (.int .i64 a.f0.f1), .d (.int .i64 a.f0.f2), .d (.ints .u8 a.f0.f3), .d (.ints .u8 a.f0.f4), .d (.int .i64 a.f0.f5.f0), .d (.int .i64 a.f0.f5.f1), .d (.ints .u8 a.f0.f5.f2), .d (.ints .u8 a.f0.f5.f3), .d (.bss a.f0.f5.f4)]), (.one (.d (.int .i64 left)))]) false (g := .func 26) rfl rfl (lt_ok rfl) rfl (by kernel_rfl) rfl (.cons (.agg (.cons (.d _) (.cons (.d _) (.cons (.d _) (.cons (.d _) (.cons (.d _) (.cons (.d _) (.cons (.d _) (.cons (.d _) (.cons (.d _) (.cons (.d _) .nil))))))))))) (.cons (.one (.d _)) .nil)) (ok_laws_szHead a.f0 left (by omega) (by omega)) (.inr rfl) rfl (by simp) rfl) ?_
 refine TL.cons rfl (Step.assign (p := (.one (.d (.int .i64 (a.f0.sz left))))) rfl rfl (lt_ok rfl) rfl) ?_
 refine TL.nil ?_
 refine T.seq ?_
 refine T.seq ?_
 refine T.region ?_
 refine TL.cons rfl (Step.move (p := (.one (.d (.int .i64 (a.f0.sz left))))) rfl rfl (lt_ok rfl) rfl) ?_
 refine TL.cons rfl (Step.bin rfl rfl (lt_ok rfl) rfl rfl (Bin.lss (k := .i64) (a := (a.f0.sz left)) (b := 0))) ?_
 refine TL.nil ?_
 refine T.cond (b := decide ((a.f0.sz left) < 0)) rfl (fun h2 => ?_) (fun h2 => ?_)
 ·
  replace h2 := of_decide_eq_true h2
  refine T.seq ?_
  refine T.region ?_
  refine TL.cons rfl (Step.assign (p := (.one (.d (.int .i64 (-1))))) rfl rfl (lt_ok rfl) rfl) ?_
  refine TL.nil ?_
  refine T.ret ?_
  exact ⟨[(false, [.d (.int .i64 (-1))])], (.cons rfl .nil), rfl, [], (RetC.rd' (by first | rfl | (congr 1; simp only [SBlock.sz, szThen]; repeat' (split <;> try omega))) .nil)⟩
 ·
  replace h2 := of_decide_eq_false h2
  have z1_le : a.f0.sz left ≤ left := SHead.sz_le _ (by omega)
  refine T.skip ?_
  refine T.seq ?_
  refine T.region ?_
  refine TL.cons rfl (Step.fieldAddr (q := 0) (off := 10) (n := 1) (one := true) rfl rfl (lt_ok rfl) (by kernel_rfl) (Nat.succ_ne_zero _) rfl) ?_
  refine TL.cons rfl (Step.load_box (c := .d (.bss a.f1)) rfl rfl (lt_ok rfl) (by kernel_rfl) rfl rfl rfl) ?_
  refine TL.cons rfl (Step.move (p := (.one (.d (.int .i64 (a.f0.sz left))))) rfl rfl (lt_ok rfl) rfl) ?_
  refine TL.cons rfl (Step.call (f := 84) (xs := [.tmp 12, .tmp 13]) (ps := [(.one (.d (.bss a.f1))), (.one (.d (.int .i64 (a.f0.sz left))))]) false (g := .func 84) rfl rfl (lt_ok rfl) rfl (by kernel_rfl) rfl (.cons (.one (.d _)) (.cons (.one (.d _)) .nil)) (ok_laws_szByteSS a.f1 (a.f0.sz left) (by omega) (by omega)) (.inr rfl) rfl (by simp) rfl) ?_
  refine TL.cons rfl (Step.assign (p := (.one (.d (.int .i64 (szLs szB a.f1 (a.f0.sz left)))))) rfl rfl (lt_ok rfl) rfl) ?_
  refine TL.nil ?_
  refine T.seq ?_
  refine T.seq ?_
  refine T.region ?_
  refine TL.cons rfl (Step.move (p := (.one (.d (.int .i64 (szLs szB a.f1 (a.f0.sz left)))))) rfl rfl (lt_ok rfl) rfl) ?_
  refine TL.cons rfl (Step.bin rfl rfl (lt_ok rfl) rfl rfl (Bin.lss (k := .i64) (a := (szLs szB a.f1 (a.f0.sz left))) (b := 0))) ?_
  refine TL.nil ?_
  refine T.cond (b := decide ((szLs szB a.f1 (a.f0.sz left)) < 0)) rfl (fun h4 => ?_) (fun h4 => ?_)
  ·
   replace h4 := of_decide_eq_true h4
   refine T.seq ?_
   refine T.region ?_
   refine TL.cons rfl (Step.assign (p := (.one (.d (.int .i64 (-1))))) rfl rfl (lt_ok rfl) rfl) ?_
   refine TL.nil ?_
   refine T.ret ?_
   exact ⟨[(false, [.d (.int .i64 (-1))])], (.cons rfl .nil), rfl, [], (RetC.rd' (by first | rfl | (congr 1; simp only [SBlock.sz, szThen]; repeat' (split <;> try omega))) .nil)⟩
  ·
   replace h4 := of_decide_eq_false h4
   have z3_le : szLs szB a.f1 (a.f0.sz left) ≤ (a.f0.sz left) := szLs_le (fun x l h => szB_le x h) _ (by omega)
   refine T.skip ?_
   refine T.seq ?_
   refine T.region ?_
   refine TL.cons rfl (Step.move (p := (.one (.d (.int .i64 (szLs szB a.f1 (a.f0.sz left)))))) rfl rfl (lt_ok rfl) rfl) ?_
   refine TL.cons rfl (Step.assign (p := (.one (.d (.int .i64 (szLs szB a.f1 (a.f0.sz left)))))) rfl rfl (lt_ok rfl) rfl) ?_
   refine TL.nil ?_
   refine T.ret ?_
   exact ⟨[(false, [.d (.int .i64 (szLs szB a.f1 (a.f0.sz left)))])], (.cons rfl .nil), rfl, [], (RetC.rd' (by first | rfl | (congr 1; simp only [SBlock.sz, szThen]; repeat' (split <;> try omega))) .nil)⟩
theorem ok_laws_szHeadS (a : List SHead) (left : Int) (h0_ : 0 ≤ left) (h1_ : left ≤ 9223372036854775807) : RO Try.prog 107 [.one (.sl 10 (a.map SHead.cells)), .one (.int .i64 left)] [(false, [.rd (.int .i64 (szLs SHead.sz a left))])] := by
 refine RO.intro Try.func107 rfl 27 rfl (le_ok rfl) fun w Z => ?_
 refine T.bnd 0 0 rfl rfl fun hb_0_0 => ?_
 simp only [D.size, List.length_map] at hb_0_0
 refine T.seq ?_
 refine T.region ?_
 refine TL.cons rfl (Step.assign (p := (.one (.d (.int .i64 0)))) rfl rfl (lt_ok rfl) rfl) ?_
 refine TL.nil ?_
 refine T.seq ?_
 refine T.region ?_
 refine TL.cons rfl (Step.move (p := (.one (.d (.int .i64 left)))) rfl rfl (lt_ok rfl) rfl) ?_
 refine TL.cons rfl (Step.move (p := (.one (.d (.sl 10 (a.map SHead.cells))))) rfl rfl (lt_ok rfl) rfl) ?_
 refine TL.cons rfl (Step.len' (e := 50) (z := 10) (d := (.sl 10 (a.map SHead.cells))) (n := a.length) rfl rfl (lt_ok rfl) (by kernel_rfl) rfl rfl (by simp [D.size])) ?_
 refine TL.cons rfl (Step.bin (r := .int .i64 (left - (a.length : Int))) rfl rfl (lt_ok rfl) rfl rfl (Bin.sub (a := left) (b := (a.length : Int)) (by first | exact wrap_ok (by first | omega | (simp; omega)) (by first | omega | (simp; omega)) | rfl))) ?_
 refine TL.cons rfl (Step.assign (p := (.one (.d (.int .i64 (left - (a.length : Int)))))) rfl rfl (lt_ok rfl) rfl) ?_
 refine TL.nil ?_
 refine T.seq ?_
 refine T.seq ?_
 refine T.region ?_
 refine TL.cons rfl (Step.move (p := (.one (.d (.int .i64 (left - (a.length : Int)))))) rfl rfl (lt_ok rfl) rfl) ?_
 refine TL.cons rfl (Step.bin rfl rfl (lt_ok rfl) rfl rfl (Bin.lss (k := .i64) (a := (left - (a.length : Int))) (b := 0))) ?_
 refine TL.nil ?_
 refine T.cond (b := decide ((left - (a.length : Int)) < 0)) rfl (fun h1 => ?_) (fun h1 => ?_)
 ·
  replace h1 := of_decide_eq_true h1
  refine T.seq ?_
  refine T.region ?_
  refine TL.cons rfl (Step.assign (p := (.one (.d (.int .i64 (-1))))) rfl rfl (lt_ok rfl) rfl) ?_
  refine TL.nil ?_
  refine T.ret ?_
  exact ⟨[(false, [.d (.int .i64 (-1))])], (.cons rfl .nil), rfl, [], (RetC.rd' (by (congr 1; first | (rw [← hx4, szL_drop (dflt := default) a i l (by omega), if_pos (by omega)]; done) | (rw [← hx4, List.drop_of_length_le (by omega)]; rfl) | (unfold szLs; rw [if_pos (by omega)]; done))) .nil)⟩
 ·
  replace h1 := of_decide_eq_false h1
  refine T.skip ?_
  refine T.seq ?_
  refine T.seq ?_
  refine T.region ?_
  refine TL.cons rfl (Step.assign (p := (.one (.d (.int .i64 0)))) rfl rfl (lt_ok rfl) rfl) ?_
  refine TL.nil ?_
  refine T.block ?_
  refine T.loop (ι := Nat × Int) (fun x => { tm := [(0, (.one (.d (.sl 10 (a.map SHead.cells))))), (5, (.one (.d (.int .i64 ((x.1) : Int))))), (1, (.one (.d (.int .i64 (x.2)))))], rows := [], boxes := [] }) (fun x => (x.1) ≤ a.length ∧ 0 ≤ (x.2) ∧ (x.2) ≤ 9223372036854775807 ∧ szL SHead.sz (a.drop (x.1)) (x.2) = szLs SHead.sz a left) (fun x => a.length - (x.1)) (0, left - (a.length : Int)) ?_ ?_ ?_
  · exact Env.le_mk ⟨rfl, by first | rfl | (simp; done) | (congr 3; omega), by first | rfl | (simp; done) | (congr 3; omega), trivial⟩ trivial trivial
  · (refine ⟨Nat.zero_le _, by omega, by omega, ?_⟩; unfold szLs; rw [if_neg (by omega), List.drop_zero])
  ·
   intro x hx
   obtain ⟨i, l⟩ := x
   try dsimp only at hx ⊢
   obtain ⟨hx1, hx2, hx3, hx4⟩ := hx
   refine T.seq ?_
   refine T.seq ?_
   refine T.region ?_
   refine TL.cons rfl (Step.move (p := (.one (.d (.int .i64 (i : Int))))) rfl rfl (lt_ok rfl) rfl) ?_
   refine TL.cons rfl (Step.move (p := (.one (.d (.sl 10 (a.map SHead.cells))))) rfl rfl (lt_ok rfl) rfl) ?_
   refine TL.cons rfl (Step.len' (e := 50) (z := 10) (d := (.sl 10 (a.map SHead.cells))) (n := a.length) rfl rfl (lt_ok rfl) (by kernel_rfl) rfl rfl (by simp [D.size])) ?_
   refine TL.cons rfl (Step.bin rfl rfl (lt_ok rfl) rfl rfl (Bin.lss (k := .i64) (a := (i : Int)) (b := (a.length : Int)))) ?_
   refine TL.nil ?_
   refine T.cond (b := decide ((i : Int) < (a.length : Int))) rfl (fun h2 => ?_) (fun h2 => ?_)
   ·
    replace h2 := of_decide_eq_true h2
    refine T.skip ?_
    refine T.seq ?_
    refine T.block ?_
    refine T.seq ?_
    refine T.region ?_
    refine TL.cons rfl (Step.move (p := (.one (.d (.sl 10 (a.map SHead.cells))))) rfl rfl (lt_ok rfl) rfl) ?_
    refine TL.cons rfl (Step.move (p := (.one (.d (.int .i64 (i : Int))))) rfl rfl (lt_ok rfl) rfl) ?_
    refine TL.cons rfl (Step.index (e := 50) (z := 10) (i := (i : Int)) rfl rfl (lt_ok rfl) (by kernel_rfl) rfl rfl rfl (lt_ok rfl) rfl (by first | omega | (simp; omega)) (by simp only [D.size]; first | omega | (simp; omega))) ?_
    refine TL.cons rfl (Step.load_agg (n := 10) (cs := [.d (.int .i64 (a.getD i default).f0), .d (.int .i64 (a.getD i default).f1), .d (.int .i64 (a.getD i default).f2), .d (.ints .u8 (a.getD i default).f3), .d (.ints .u8 (a.getD i default).f4), .d (.int .i64 (a.getD i default).f5.f0), .d (.int .i64 (a.getD i default).f5.f1), .d (.ints .u8 (a.getD i default).f5.f2), .d (.ints .u8 (a.getD i default).f5.f3), .d (.bss (a.getD i default).f5.f4)]) rfl rfl (lt_ok rfl) (by kernel_rfl) rfl rfl (by simp only [List.range, List.range.loop, List.map_cons, List.map_nil]; rw [cell_map default (by first | omega | (simp; omega)), cell_map default (by first | omega | (simp; omega)), cell_map default (by first | omega | (simp; omega)), cell_map default (by first | omega | (simp; omega)), cell_map default (by first | omega | (simp; omega)), cell_map default (by first | omega | (simp; omega)), cell_map default (by first | omega | (simp; omega)), cell_map default (by first | omega | (simp; omega)), cell_map default (by first | omega | (simp; omega)), cell_map default (by first | omega | (simp; omega))]; rfl)) ?_
    refine TL.cons rfl (Step.move (p := (.one (.d (.int .i64 l)))) rfl rfl (lt_ok rfl) rfl) ?_
    refine TL.cons rfl (Step.call (f := 26) (xs := [.tmp 21, .tmp 22]) (ps := [(.agg [.d (.int .i64 (a.getD i default).f0), .d (.int .i64 (a.getD i default).f1), .d (.int .i64 (a.getD i default).f2), .d (.ints .u8 (a.getD i default).f3), .d (.ints .u8 (a.getD i default).f4), .d (.int .i64 (a.getD i default).f5.f0), .d (.int .i64 (a.getD i default).f5.f1), .d (.ints .u8 (a.getD i default).f5.f2), .d (.ints .u8 (a.getD i default).f5.f3), .d (.bss (a.getD i default).f5.f4)]), (.one (.d (.int .i64 l)))]) false (g := .func 26) rfl rfl (lt_ok rfl) rfl (by kernel_rfl) rfl (.cons (.agg (.cons (.d _) (.cons (.d _) (.cons (.d _) (.cons (.d _) (.cons (.d _) (.cons (.d _) (.cons (.d _) (.cons (.d _) (.cons (.d _) (.cons (.d _) .nil))))))))))) (.cons (.one (.d _)) .nil)) (ok_laws_szHead (a.getD i default) l (by omega) (by omega)) (.inr rfl) rfl (by simp) rfl) ?_
    refine TL.cons rfl (Step.assign (p := (.one (.d (.int .i64 ((a.getD i default).sz l))))) rfl rfl (lt_ok rfl) rfl) ?_
    refine TL.nil ?_
    refine T.seq ?_
    refine T.region ?_
    refine TL.cons rfl (Step.move (p := (.one (.d (.int .i64 ((a.getD i default).sz l))))) rfl rfl (lt_ok rfl) rfl) ?_
    refine TL.cons rfl (Step.bin rfl rfl (lt_ok rfl) rfl rfl (Bin.lss (k := .i64) (a := ((a.getD i default).sz l)) (b := 0))) ?_
    refine TL.nil ?_
    refine T.cond (b := decide (((a.getD i default).sz l) < 0)) rfl (fun h4 => ?_) (fun h4 => ?_)
    ·
     replace h4 := of_decide_eq_true h4
     refine T.seq ?_
     refine T.region ?_
     refine TL.cons rfl (Step.assign (p := (.one (.d (.int .i64 (-1))))) rfl rfl (lt_ok rfl) rfl) ?_
     refine TL.nil ?_
     refine T.ret ?_
     exact ⟨[(false, [.d (.int .i64 (-1))])], (.cons rfl .nil), rfl, [], (RetC.rd' (by (congr 1; first | (rw [← hx4, szL_drop (dflt := default) a i l (by omega), if_pos (by omega)]; done) | (rw [← hx4, List.drop_of_length_le (by omega)]; rfl) | (unfold szLs; rw [if_pos (by omega)]; done))) .nil)⟩
    ·
     replace h4 := of_decide_eq_false h4
     have z3_le : (a.getD i default).sz l ≤ l := SHead.sz_le _ (by omega)
     refine T.skip ?_
     refine T.region ?_
     refine TL.cons rfl (Step.move (p := (.one (.d (.int .i64 (i : Int))))) rfl rfl (lt_ok rfl) rfl) ?_
     refine TL.cons rfl (Step.bin (r := .int .i64 ((i : Int) + 1)) rfl rfl (lt_ok rfl) rfl rfl (Bin.add (a := (i : Int)) (b := 1) (by first | exact wrap_ok (by first | omega | (simp; omega)) (by first | omega | (simp; omega)) | rfl))) ?_
     refine TL.cons rfl (Step.assign (p := (.one (.d (.int .i64 ((i : Int) + 1))))) rfl rfl (lt_ok rfl) rfl) ?_
     refine TL.nil ?_
     exact ⟨(i + 1, (SHead.sz (a.getD i default) l)), by (refine ⟨by omega, by omega, by omega, ?_⟩; rw [← hx4, szL_drop (dflt := default) a i l (by omega), if_neg (by omega)]), by (dsimp only; omega), Env.le_mk ⟨rfl, by first | rfl | (simp; done) | (congr 3; omega), by first | rfl | (simp; done) | (congr 3; omega), trivial⟩ trivial trivial⟩
   ·
    replace h2 := of_decide_eq_false h2
    refine T.exit ?_
    refine T.seq ?_
    refine T.region ?_
    refine TL.cons rfl (Step.move (p := (.one (.d (.int .i64 l)))) rfl rfl (lt_ok rfl) rfl) ?_
    refine TL.cons rfl (Step.assign (p := (.one (.d (.int .i64 l)))) rfl rfl (lt_ok rfl) rfl) ?_
    refine TL.nil ?_
    refine T.ret ?_
    exact ⟨[(false, [.d (.int .i64 l)])], (.cons rfl .nil), rfl, [], (RetC.rd' (by (congr 1; first | (rw [← hx4, szL_drop (dflt := default) a i l (by omega), if_pos (by omega)]; done) | (rw [← hx4, List.drop_of_length_le (by omega)]; rfl) | (unfold szLs; rw [if_pos (by omega)]; done))) .nil)⟩
theorem ok_laws_szProof (a : SProof) (left : Int) (h0_ : 0 ≤ left) (h1_ : left ≤ 9223372036854775807) : RO Try.prog 47 [.agg a.cells, .one (.int .i64 left)] [(false, [.rd (.int .i64 (a.sz left))])] := by
 refine RO.intro Try.func47 rfl 18 rfl (le_ok rfl) fun w Z => ?_
 refine T.seq ?_
 refine T.region ?_
 refine TL.cons rfl (Step.box (p := (.agg [.d (.sl 10 (a.f0.map SHead.cells)), .d (.int .i64 a.f1.f0), .d (.int .i64 a.f1.f1), .d (.ints .u8 a.f1.f2), .d (.ints .u8 a.f1.f3), .d (.bss a.f1.f4)])) (ps := [.d (.sl 10 (a.f0.map SHead.cells)), .d (.int .i64 a.f1.f0), .d (.int .i64 a.f1.f1), .d (.ints .u8 a.f1.f2), .d (.ints .u8 a.f1.f3), .d (.bss a.f1.f4)]) rfl rfl (lt_ok rfl) rfl rfl rfl rfl rfl) ?_
 refine TL.cons rfl (Step.assign (p := (.one (.d (.int .i64 0)))) rfl rfl (lt_ok rfl) rfl) ?_
 refine TL.nil ?_
 refine T.seq ?_
 refine T.region ?_
 refine TL.cons rfl (Step.fieldAddr (q := 0) (off := 0) (n := 1) (one := true) rfl rfl (lt_ok rfl) (by kernel_rfl) (Nat.succ_ne_zero _) rfl) ?_
 refine TL.cons rfl (Step.load_box (c := .d (.sl 10 (a.f0.map SHead.cells))) rfl rfl (lt_ok rfl) (by kernel_rfl) rfl rfl rfl) ?_
 refine TL.cons rfl (Step.move (p := (.one (.d (.int .i64 left)))) rfl rfl (lt_ok rfl) rfl) ?_
 refine TL.cons rfl (Step.call (f := 107) (xs := [.tmp 6, .tmp 7]) (ps := [(.one (.d (.sl 10 (a.f0.map SHead.cells)))), (.one (.d (.int .i64 left)))]) false (g := .func 107) rfl rfl (lt_ok rfl) rfl (by kernel_rfl) rfl (.cons (.one (.d _)) (.cons (.one (.d _)) .nil)) (ok_laws_szHeadS a.f0 left (by omega) (by omega)) (.inr rfl) rfl (by simp) rfl) ?_
 refine TL.cons rfl (Step.assign (p := (.one (.d (.int .i64 (szLs SHead.sz a.f0 left))))) rfl rfl (lt_ok rfl) rfl) ?_
 refine TL.nil ?_
 refine T.seq ?_
 refine T.seq ?_
 refine T.region ?_
 refine TL.cons rfl (Step.move (p := (.one (.d (.int .i64 (szLs SHead.sz a.f0 left))))) rfl rfl (lt_ok rfl) rfl) ?_
 refine TL.cons rfl (Step.bin rfl rfl (lt_ok rfl) rfl rfl (Bin.lss (k := .i64) (a := (szLs SHead.sz a.f0 left)) (b := 0))) ?_
 refine TL.nil ?_
 refine T.cond (b := decide ((szLs SHead.sz a.f0 left) < 0)) rfl (fun h2 => ?_) (fun h2 => ?_)
 ·
  replace h2 := of_decide_eq_true h2
  refine T.seq ?_
  refine T.region ?_
  refine TL.cons rfl (Step.assign (p := (.one (.d (.int .i64 (-1))))) rfl rfl (lt_ok rfl) rfl) ?_
  refine TL.nil ?_
  refine T.ret ?_
  exact ⟨[(false, [.d (.int .i64 (-1))])], (.cons rfl .nil), rfl, [], (RetC.rd' (by first | rfl | (congr 1; simp only [SProof.sz, szThen]; repeat' (split <;> try omega))) .nil)⟩
 ·
  replace h2 := of_decide_eq_false h2
  have z1_le : szLs SHead.sz a.f0 left ≤ left := szLs_le (fun x l h => SHead.sz_le x h) _ (by omega)
  refine T.skip ?_
  refine T.seq ?_
  refine T.region ?_
  refine TL.cons rfl (Step.fieldAddr (q := 0) (off := 1) (n := 5) (one := false) rfl rfl (lt_ok rfl) (by kernel_rfl) (Nat.succ_ne_zero _) rfl) ?_
  refine TL.cons rfl (Step.load_box_agg (n := 5) (qs := [.d (.int .i64 a.f1.f0), .d (.int .i64 a.f1.f1), .d (.ints .u8 a.f1.f2), .d (.ints .u8 a.f1.f3), .d (.bss a.f1.f4)]) rfl rfl (lt_ok rfl) (by kernel_rfl) rfl rfl rfl rfl) ?_
  refine TL.cons rfl (Step.move (p := (.one (.d (.int .i64 (szLs SHead.sz a.f0 left))))) rfl rfl (lt_ok rfl) rfl) ?_
  refine TL.cons rfl (Step.call (f := 31) (xs := [.tmp 12, .tmp 13]) (ps := [(.agg [.d (.int .i64 a.f1.f0), .d (.int .i64 a.f1.f1), .d (.ints .u8 a.f1.f2), .d (.ints .u8 a.f1.f3), .d (.bss a.f1.f4)]), (.one (.d (.int .i64 (szLs SHead.sz a.f0 left))))]) false (g := .func 31) rfl rfl (lt_ok rfl) rfl (by kernel_rfl) rfl (.cons (.agg (.cons (.d _) (.cons (.d _) (.cons (.d _) (.cons (.d _) (.cons (.d _) .nil)))))) (.cons (.one (.d _)) .nil)) (ok_laws_szQc a.f1 (szLs SHead.sz a.f0 left) (by omega) (by omega)) (.inr rfl) rfl (by simp) rfl) ?_
  refine TL.cons rfl (Step.assign (p := (.one (.d (.int .i64 (a.f1.sz (szLs SHead.sz a.f0 left)))))) rfl rfl (lt_ok rfl) rfl) ?_
  refine TL.nil ?_
  refine T.seq ?_
  refine T.seq ?_
  refine T.region ?_
  refine TL.cons rfl (Step.move (p := (.one (.d (.int .i64 (a.f1.sz (szLs SHead.sz a.f0 left)))))) rfl rfl (lt_ok rfl) rfl) ?_
  refine TL.cons rfl (Step.bin rfl rfl (lt_ok rfl) rfl rfl (Bin.lss (k := .i64) (a := (a.f1.sz (szLs SHead.sz a.f0 left))) (b := 0))) ?_
  refine TL.nil ?_
  refine T.cond (b := decide ((a.f1.sz (szLs SHead.sz a.f0 left)) < 0)) rfl (fun h4 => ?_) (fun h4 => ?_)
  ·
   replace h4 := of_decide_eq_true h4
   refine T.seq ?_
   refine T.region ?_
   refine TL.cons rfl (Step.assign (p := (.one (.d (.int .i64 (-1))))) rfl rfl (lt_ok rfl) rfl) ?_
   refine TL.nil ?_
   refine T.ret ?_
   exact ⟨[(false, [.d (.int .i64 (-1))])], (.cons rfl .nil), rfl, [], (RetC.rd' (by first | rfl | (congr 1; simp only [SProof.sz, szThen]; repeat' (split <;> try omega))) .nil)⟩
  ·
   replace h4 := of_decide_eq_false h4
   have z3_le : a.f1.sz (szLs SHead.sz a.f0 left) ≤ (szLs SHead.sz a.f0 left) := SQc.sz_le _ (by omega)
   refine T.skip ?_
   refine T.seq ?_
   refine T.region ?_
   refine TL.cons rfl (Step.move (p := (.one (.d (.int .i64 (a.f1.sz (szLs SHead.sz a.f0 left)))))) rfl rfl (lt_ok rfl) rfl) ?_
   refine TL.cons rfl (Step.assign (p := (.one (.d (.int .i64 (a.f1.sz (szLs SHead.sz a.f0 left)))))) rfl rfl (lt_ok rfl) rfl) ?_
   refine TL.nil ?_
   refine T.ret ?_
   exact ⟨[(false, [.d (.int .i64 (a.f1.sz (szLs SHead.sz a.f0 left)))])], (.cons rfl .nil), rfl, [], (RetC.rd' (by first | rfl | (congr 1; simp only [SProof.sz, szThen]; repeat' (split <;> try omega))) .nil)⟩
theorem ok_laws_szVote (a : SVote) (left : Int) (h0_ : 0 ≤ left) (h1_ : left ≤ 9223372036854775807) : RO Try.prog 119 [.agg a.cells, .one (.int .i64 left)] [(false, [.rd (.int .i64 (a.sz left))])] := by
 refine RO.intro Try.func119 rfl 18 rfl (le_ok rfl) fun w Z => ?_
 refine T.seq ?_
 refine T.region ?_
 refine TL.cons rfl (Step.box (p := (.agg [.d (.int .i64 a.f0), .d (.int .i64 a.f1), .d (.ints .u8 a.f2), .d (.int .i64 a.f3), .d (.ints .u8 a.f4)])) (ps := [.d (.int .i64 a.f0), .d (.int .i64 a.f1), .d (.ints .u8 a.f2), .d (.int .i64 a.f3), .d (.ints .u8 a.f4)]) rfl rfl (lt_ok rfl) rfl rfl rfl rfl rfl) ?_
 refine TL.cons rfl (Step.assign (p := (.one (.d (.int .i64 0)))) rfl rfl (lt_ok rfl) rfl) ?_
 refine TL.nil ?_
 refine T.seq ?_
 refine T.region ?_
 refine TL.cons rfl (Step.fieldAddr (q := 0) (off := 2) (n := 1) (one := true) rfl rfl (lt_ok rfl) (by kernel_rfl) (Nat.succ_ne_zero _) rfl) ?_
 refine TL.cons rfl (Step.load_box (c := .d (.ints .u8 a.f2)) rfl rfl (lt_ok rfl) (by kernel_rfl) rfl rfl rfl) ?_
 refine TL.cons rfl (Step.move (p := (.one (.d (.int .i64 left)))) rfl rfl (lt_ok rfl) rfl) ?_
 refine TL.cons rfl (Step.call (f := 83) (xs := [.tmp 6, .tmp 7]) (ps := [(.one (.d (.ints .u8 a.f2))), (.one (.d (.int .i64 left)))]) false (g := .func 83) rfl rfl (lt_ok rfl) rfl (by kernel_rfl) rfl (.cons (.one (.d _)) (.cons (.one (.d _)) .nil)) (ok_laws_szByteS a.f2 left (by omega) (by omega)) (.inr rfl) rfl (by simp) rfl) ?_
 refine TL.cons rfl (Step.assign (p := (.one (.d (.int .i64 (szB a.f2 left))))) rfl rfl (lt_ok rfl) rfl) ?_
 refine TL.nil ?_
 refine T.seq ?_
 refine T.seq ?_
 refine T.region ?_
 refine TL.cons rfl (Step.move (p := (.one (.d (.int .i64 (szB a.f2 left))))) rfl rfl (lt_ok rfl) rfl) ?_
 refine TL.cons rfl (Step.bin rfl rfl (lt_ok rfl) rfl rfl (Bin.lss (k := .i64) (a := (szB a.f2 left)) (b := 0))) ?_
 refine TL.nil ?_
 refine T.cond (b := decide ((szB a.f2 left) < 0)) rfl (fun h2 => ?_) (fun h2 => ?_)
 ·
  replace h2 := of_decide_eq_true h2
  refine T.seq ?_
  refine T.region ?_
  refine TL.cons rfl (Step.assign (p := (.one (.d (.int .i64 (-1))))) rfl rfl (lt_ok rfl) rfl) ?_
  refine TL.nil ?_
  refine T.ret ?_
  exact ⟨[(false, [.d (.int .i64 (-1))])], (.cons rfl .nil), rfl, [], (RetC.rd' (by first | rfl | (congr 1; simp only [SVote.sz, szThen]; repeat' (split <;> try omega))) .nil)⟩
 ·
  replace h2 := of_decide_eq_false h2
  have z1_le : szB a.f2 left ≤ left := szB_le _ (by omega)
  refine T.skip ?_
  refine T.seq ?_
  refine T.region ?_
  refine TL.cons rfl (Step.fieldAddr (q := 0) (off := 4) (n := 1) (one := true) rfl rfl (lt_ok rfl) (by kernel_rfl) (Nat.succ_ne_zero _) rfl) ?_
  refine TL.cons rfl (Step.load_box (c := .d (.ints .u8 a.f4)) rfl rfl (lt_ok rfl) (by kernel_rfl) rfl rfl rfl) ?_
  refine TL.cons rfl (Step.move (p := (.one (.d (.int .i64 (szB a.f2 left))))) rfl rfl (lt_ok rfl) rfl) ?_
  refine TL.cons rfl (Step.call (f := 83) (xs := [.tmp 12, .tmp 13]) (ps := [(.one (.d (.ints .u8 a.f4))), (.one (.d (.int .i64 (szB a.f2 left))))]) false (g := .func 83) rfl rfl (lt_ok rfl) rfl (by kernel_rfl) rfl (.cons (.one (.d _)) (.cons (.one (.d _)) .nil)) (ok_laws_szByteS a.f4 (szB a.f2 left) (by omega) (by omega)) (.inr rfl) rfl (by simp) rfl) ?_
  refine TL.cons rfl (Step.assign (p := (.one (.d (.int .i64 (szB a.f4 (szB a.f2 left)))))) rfl rfl (lt_ok rfl) rfl) ?_
  refine TL.nil ?_
  refine T.seq ?_
  refine T.seq ?_
  refine T.region ?_
  refine TL.cons rfl (Step.move (p := (.one (.d (.int .i64 (szB a.f4 (szB a.f2 left)))))) rfl rfl (lt_ok rfl) rfl) ?_
  refine TL.cons rfl (Step.bin rfl rfl (lt_ok rfl) rfl rfl (Bin.lss (k := .i64) (a := (szB a.f4 (szB a.f2 left))) (b := 0))) ?_
  refine TL.nil ?_
  refine T.cond (b := decide ((szB a.f4 (szB a.f2 left)) < 0)) rfl (fun h4 => ?_) (fun h4 => ?_)
  ·
   replace h4 := of_decide_eq_true h4
   refine T.seq ?_
   refine T.region ?_
   refine TL.cons rfl (Step.assign (p := (.one (.d (.int .i64 (-1))))) rfl rfl (lt_ok rfl) rfl) ?_
   refine TL.nil ?_
   refine T.ret ?_
   exact ⟨[(false, [.d (.int .i64 (-1))])], (.cons rfl .nil), rfl, [], (RetC.rd' (by first | rfl | (congr 1; simp only [SVote.sz, szThen]; repeat' (split <;> try omega))) .nil)⟩
  ·
   replace h4 := of_decide_eq_false h4
   have z3_le : szB a.f4 (szB a.f2 left) ≤ (szB a.f2 left) := szB_le _ (by omega)
   refine T.skip ?_
   refine T.seq ?_
   refine T.region ?_
   refine TL.cons rfl (Step.move (p := (.one (.d (.int .i64 (szB a.f4 (szB a.f2 left)))))) rfl rfl (lt_ok rfl) rfl) ?_
   refine TL.cons rfl (Step.assign (p := (.one (.d (.int .i64 (szB a.f4 (szB a.f2 left)))))) rfl rfl (lt_ok rfl) rfl) ?_
   refine TL.nil ?_
   refine T.ret ?_
   exact ⟨[(false, [.d (.int .i64 (szB a.f4 (szB a.f2 left)))])], (.cons rfl .nil), rfl, [], (RetC.rd' (by first | rfl | (congr 1; simp only [SVote.sz, szThen]; repeat' (split <;> try omega))) .nil)⟩
theorem ok_laws_szMsg (a : SMsg) (left : Int) (h0_ : 0 ≤ left) (h1_ : left ≤ 9223372036854775807) : RO Try.prog 142 [.agg a.cells, .one (.int .i64 left)] [(false, [.rd (.int .i64 (a.sz left))])] := by
 refine RO.intro Try.func142 rfl 48 rfl (le_ok rfl) fun w Z => ?_
 refine T.seq ?_
 refine T.region ?_
 refine TL.cons rfl (Step.box (p := (.agg [.d (.int .i64 a.f0), .d (.int .i64 a.f1.f0), .d (.int .i64 a.f1.f1), .d (.ints .u8 a.f1.f2), .d (.int .i64 a.f1.f3), .d (.ints .u8 a.f1.f4), .d (.int .i64 a.f2.f0), .d (.int .i64 a.f2.f1), .d (.ints .u8 a.f2.f2), .d (.ints .u8 a.f2.f3), .d (.bss a.f2.f4), .d (.int .i64 a.f3.f0), .d (.int .i64 a.f3.f1), .d (.int .i64 a.f3.f2), .d (.ints .u8 a.f3.f3), .d (.ints .u8 a.f3.f4), .d (.int .i64 a.f3.f5.f0), .d (.int .i64 a.f3.f5.f1), .d (.ints .u8 a.f3.f5.f2), .d (.ints .u8 a.f3.f5.f3), .d (.bss a.f3.f5.f4), .d (.int .i64 a.f4.f0.f0), .d (.int .i64 a.f4.f0.f1), .d (.int .i64 a.f4.f0.f2), .d (.ints .u8 a.f4.f0.f3), .d (.ints .u8 a.f4.f0.f4), .d (.int .i64 a.f4.f0.f5.f0), .d (.int .i64 a.f4.f0.f5.f1), .d (.ints .u8 a.f4.f0.f5.f2), .d (.ints .u8 a.f4.f0.f5.f3), .d (.bss a.f4.f0.f5.f4), .d (.bss a.f4.f1), .d (.int .i64 a.f5.f0), .d (.sl 3 (a.f5.f1.map SEntry.cells)), .d (.sl 10 (a.f6.f0.map SHead.cells)), .d (.int .i64 a.f6.f1.f0), .d (.int .i64 a.f6.f1.f1), .d (.ints .u8 a.f6.f1.f2), .d (.ints .u8 a.f6.f1.f3), .d (.bss a.f6.f1.f4), .d (.int .i64 a.f7.f0), .d (.int .i64 a.f7.f1), .d (.int .i64 a.f7.f2), .d (.ints .u8 a.f7.f3), .d (.bss a.f7.f4)])) (ps := [.d (.int .i64 a.f0), .d (.int .i64 a.f1.f0), .d (.int .i64 a.f1.f1), .d (.ints .u8 a.f1.f2), .d (.int .i64 a.f1.f3), .d (.ints .u8 a.f1.f4), .d (.int .i64 a.f2.f0), .d (.int .i64 a.f2.f1), .d (.ints .u8 a.f2.f2), .d (.ints .u8 a.f2.f3), .d (.bss a.f2.f4), .d (.int .i64 a.f3.f0), .d (.int .i64 a.f3.f1), .d (.int .i64 a.f3.f2), .d (.ints .u8 a.f3.f3), .d (.ints .u8 a.f3.f4), .d (.int .i64 a.f3.f5.f0), .d (.int .i64 a.f3.f5.f1), .d (.ints .u8 a.f3.f5.f2), .d (.ints .u8 a.f3.f5.f3), .d (.bss a.f3.f5.f4), .d (.int .i64 a.f4.f0.f0), .d (.int .i64 a.f4.f0.f1), .d (.int .i64 a.f4.f0.f2), .d (.ints .u8 a.f4.f0.f3), .d (.ints .u8 a.f4.f0.f4), .d (.int .i64 a.f4.f0.f5.f0), .d (.int .i64 a.f4.f0.f5.f1), .d (.ints .u8 a.f4.f0.f5.f2), .d (.ints .u8 a.f4.f0.f5.f3), .d (.bss a.f4.f0.f5.f4), .d (.bss a.f4.f1), .d (.int .i64 a.f5.f0), .d (.sl 3 (a.f5.f1.map SEntry.cells)), .d (.sl 10 (a.f6.f0.map SHead.cells)), .d (.int .i64 a.f6.f1.f0), .d (.int .i64 a.f6.f1.f1), .d (.ints .u8 a.f6.f1.f2), .d (.ints .u8 a.f6.f1.f3), .d (.bss a.f6.f1.f4), .d (.int .i64 a.f7.f0), .d (.int .i64 a.f7.f1), .d (.int .i64 a.f7.f2), .d (.ints .u8 a.f7.f3), .d (.bss a.f7.f4)]) rfl rfl (lt_ok rfl) rfl rfl rfl rfl rfl) ?_
 refine TL.cons rfl (Step.assign (p := (.one (.d (.int .i64 0)))) rfl rfl (lt_ok rfl) rfl) ?_
 refine TL.nil ?_
 refine T.seq ?_
 refine T.region ?_
 refine TL.cons rfl (Step.fieldAddr (q := 0) (off := 1) (n := 5) (one := false) rfl rfl (lt_ok rfl) (by kernel_rfl) (Nat.succ_ne_zero _) rfl) ?_
 refine TL.cons rfl (Step.load_box_agg (n := 5) (qs := [.d (.int .i64 a.f1.f0), .d (.int .i64 a.f1.f1), .d (.ints .u8 a.f1.f2), .d (.int .i64 a.f1.f3), .d (.ints .u8 a.f1.f4)]) rfl rfl (lt_ok rfl) (by kernel_rfl) rfl rfl rfl rfl) ?_
 refine TL.cons rfl (Step.move (p := (.one (.d (.int .i64 left)))) rfl rfl (lt_ok rfl) rfl) ?_
 refine TL.cons rfl (Step.call (f := 119) (xs := [.tmp 6, .tmp 7]) (ps := [(.agg [.d (.int .i64 a.f1.f0), .d (.int .i64 a.f1.f1), .d (.ints .u8 a.f1.f2), .d (.int .i64 a.f1.f3), .d (.ints .u8 a.f1.f4)]), (.one (.d (.int .i64 left)))]) false (g := .func 119) rfl rfl (lt_ok rfl) rfl (by kernel_rfl) rfl (.cons (.agg (.cons (.d _) (.cons (.d _) (.cons (.d _) (.cons (.d _) (.cons (.d _) .nil)))))) (.cons (.one (.d _)) .nil)) (ok_laws_szVote a.f1 left (by omega) (by omega)) (.inr rfl) rfl (by simp) rfl) ?_
 refine TL.cons rfl (Step.assign (p := (.one (.d (.int .i64 (a.f1.sz left))))) rfl rfl (lt_ok rfl) rfl) ?_
 refine TL.nil ?_
 refine T.seq ?_
 refine T.seq ?_
 refine T.region ?_
 refine TL.cons rfl (Step.move (p := (.one (.d (.int .i64 (a.f1.sz left))))) rfl rfl (lt_ok rfl) rfl) ?_
 refine TL.cons rfl (Step.bin rfl rfl (lt_ok rfl) rfl rfl (Bin.lss (k := .i64) (a := (a.f1.sz left)) (b := 0))) ?_
 refine TL.nil ?_
 refine T.cond (b := decide ((a.f1.sz left) < 0)) rfl (fun h2 => ?_) (fun h2 => ?_)
 ·
  replace h2 := of_decide_eq_true h2
  refine T.seq ?_
  refine T.region ?_
  refine TL.cons rfl (Step.assign (p := (.one (.d (.int .i64 (-1))))) rfl rfl (lt_ok rfl) rfl) ?_
  refine TL.nil ?_
  refine T.ret ?_
  exact ⟨[(false, [.d (.int .i64 (-1))])], (.cons rfl .nil), rfl, [], (RetC.rd' (by first | rfl | (congr 1; simp only [SMsg.sz, szThen]; repeat' (split <;> try omega))) .nil)⟩
 ·
  replace h2 := of_decide_eq_false h2
  have z1_le : a.f1.sz left ≤ left := SVote.sz_le _ (by omega)
  refine T.skip ?_
  refine T.seq ?_
  refine T.region ?_
  refine TL.cons rfl (Step.fieldAddr (q := 0) (off := 6) (n := 5) (one := false) rfl rfl (lt_ok rfl) (by kernel_rfl) (Nat.succ_ne_zero _) rfl) ?_
  refine TL.cons rfl (Step.load_box_agg (n := 5) (qs := [.d (.int .i64 a.f2.f0), .d (.int .i64 a.f2.f1), .d (.ints .u8 a.f2.f2), .d (.ints .u8 a.f2.f3), .d (.bss a.f2.f4)]) rfl rfl (lt_ok rfl) (by kernel_rfl) rfl rfl rfl rfl) ?_
  refine TL.cons rfl (Step.move (p := (.one (.d (.int .i64 (a.f1.sz left))))) rfl rfl (lt_ok rfl) rfl) ?_
  refine TL.cons rfl (Step.call (f := 31) (xs := [.tmp 12, .tmp 13]) (ps := [(.agg [.d (.int .i64 a.f2.f0), .d (.int .i64 a.f2.f1), .d (.ints .u8 a.f2.f2), .d (.ints .u8 a.f2.f3), .d (.bss a.f2.f4)]), (.one (.d (.int .i64 (a.f1.sz left))))]) false (g := .func 31) rfl rfl (lt_ok rfl) rfl (by kernel_rfl) rfl (.cons (.agg (.cons (.d _) (.cons (.d _) (.cons (.d _) (.cons (.d _) (.cons (.d _) .nil)))))) (.cons (.one (.d _)) .nil)) (ok_laws_szQc a.f2 (a.f1.sz left) (by omega) (by omega)) (.inr rfl) rfl (by simp) rfl) ?_
  refine TL.cons rfl (Step.assign (p := (.one (.d (.int .i64 (a.f2.sz (a.f1.sz left)))))) rfl rfl (lt_ok rfl) rfl) ?_
  refine TL.nil ?_
  refine T.weaken (E' := { tm := [(1, (.one (.d (.int .i64 (a.f2.sz (a.f1.sz left)))))), (2, (.one (.ptr 2 0))), (4, (.one (.d (.int .i64 0))))], rows := [], boxes := [(2, (146, [.d (.int .i64 a.f0), .d (.int .i64 a.f1.f0), .d (.int .i64 a.f1.f1), .d (.ints .u8 a.f1.f2), .d (.int .i64 a.f1.f3), .d (.ints .u8 a.f1.f4), .d (.int .i64 a.f2.f0), .d (.int .i64 a.f2.f1), .d (.ints .u8 a.f2.f2), .d (.ints .u8 a.f2.f3), .d (.bss a.f2.f4), .d (.int .i64 a.f3.f0), .d (.int .i64 a.f3.f1), .d (.int .i64 a.f3.f2), .d (.ints .u8 a.f3.f3), .d (.ints .u8 a.f3.f4), .d (.int .i64 a.f3.f5.f0), .d (.int .i64 a.f3.f5.f1), .d (.ints .u8 a.f3.f5.f2), .d (.ints .u8 a.f3.f5.f3), .d (.bss a.f3.f5.f4), .d (.int .i64 a.f4.f0.f0), .d (.int .i64 a.f4.f0.f1), .d (.int .i64 a.f4.f0.f2), .d (.ints .u8 a.f4.f0.f3), .d (.ints .u8 a.f4.f0.f4), .d (.int .i64 a.f4.f0.f5.f0), .d (.int .i64 a.f4.f0.f5.f1), .d (.ints .u8 a.f4.f0.f5.f2), .d (.ints .u8 a.f4.f0.f5.f3), .d (.bss a.f4.f0.f5.f4), .d (.bss a.f4.f1), .d (.int .i64 a.f5.f0), .d (.sl 3 (a.f5.f1.map SEntry.cells)), .d (.sl 10 (a.f6.f0.map SHead.cells)), .d (.int .i64 a.f6.f1.f0), .d (.int .i64 a.f6.f1.f1), .d (.ints .u8 a.f6.f1.f2), .d (.ints .u8 a.f6.f1.f3), .d (.bss a.f6.f1.f4), .d (.int .i64 a.f7.f0), .d (.int .i64 a.f7.f1), .d (.int .i64 a.f7.f2), .d (.ints .u8 a.f7.f3), .d (.bss a.f7.f4)]))] }) (Env.le_mk ⟨by kernel_rfl, by kernel_rfl, by kernel_rfl, trivial⟩ trivial ⟨by kernel_rfl, trivial⟩) ?_
  refine T.seq ?_
  refine T.seq ?_
  refine T.region ?_
  refine TL.cons rfl (Step.move (p := (.one (.d (.int .i64 (a.f2.sz (a.f1.sz left)))))) rfl rfl (lt_ok rfl) rfl) ?_
  refine TL.cons rfl (Step.bin rfl rfl (lt_ok rfl) rfl rfl (Bin.lss (k := .i64) (a := (a.f2.sz (a.f1.sz left))) (b := 0))) ?_
  refine TL.nil ?_
  refine T.cond (b := decide ((a.f2.sz (a.f1.sz left)) < 0)) rfl (fun h4 => ?_) (fun h4 => ?_)
  ·
   replace h4 := of_decide_eq_true h4
   refine T.seq ?_
   refine T.region ?_
   refine TL.cons rfl (Step.assign (p := (.one (.d (.int .i64 (-1))))) rfl rfl (lt_ok rfl) rfl) ?_
   refine TL.nil ?_
   refine T.ret ?_
   exact ⟨[(false, [.d (.int .i64 (-1))])], (.cons rfl .nil), rfl, [], (RetC.rd' (by first | rfl | (congr 1; simp only [SMsg.sz, szThen]; repeat' (split <;> try omega))) .nil)⟩
  ·
   replace h4 := of_decide_eq_false h4
   have z3_le : a.f2.sz (a.f1.sz left) ≤ (a.f1.sz left) := SQc.sz_le _ (by omega)
   refine T.skip ?_
   refine T.seq ?_
   refine T.region ?_
   refine TL.cons rfl (Step.fieldAddr (q := 0) (off := 11) (n := 10) (one := false) rfl rfl (lt_ok rfl) (by kernel_rfl) (Nat.succ_ne_zero _) rfl) ?_
   refine TL.cons rfl (Step.load_box_agg (n := 10) (qs := [.d (.int .i64 a.f3.f0), .d (.int .i64 a.f3.f1), .d (.int .i64 a.f3.f2), .d (.ints .u8 a.f3.f3), .d (.ints .u8 a.f3.f4), .d (.int .i64 a.f3.f5.f0), .d (.int .i64 a.f3.f5.f1), .d (.ints .u8 a.f3.f5.f2), .d (.ints .u8 a.f3.f5.f3), .d (.bss a.f3.f5.f4)]) rfl rfl (lt_ok rfl) (by kernel_rfl) rfl rfl rfl rfl) ?_
   refine TL.cons rfl (Step.move (p := (.one (.d (.int .i64 (a.f2.sz (a.f1.sz left)))))) rfl rfl (lt_ok rfl) rfl) ?_
   refine TL.cons rfl (Step.call (f := 26) (xs := [.tmp 18, .tmp 19]) (ps := [(.agg [.d (.int .i64 a.f3.f0), .d (.int .i64 a.f3.f1), .d (.int .i64 a.f3.f2), .d (.ints .u8 a.f3.f3), .d (.ints .u8 a.f3.f4), .d (.int .i64 a.f3.f5.f0), .d (.int .i64 a.f3.f5.f1), .d (.ints .u8 a.f3.f5.f2), .d (.ints .u8 a.f3.f5.f3), .d (.bss a.f3.f5.f4)]), (.one (.d (.int .i64 (a.f2.sz (a.f1.sz left)))))]) false (g := .func 26) rfl rfl (lt_ok rfl) rfl (by kernel_rfl) rfl (.cons (.agg (.cons (.d _) (.cons (.d _) (.cons (.d _) (.cons (.d _) (.cons (.d _) (.cons (.d _) (.cons (.d _) (.cons (.d _) (.cons (.d _) (.cons (.d _) .nil))))))))))) (.cons (.one (.d _)) .nil)) (ok_laws_szHead a.f3 (a.f2.sz (a.f1.sz left)) (by omega) (by omega)) (.inr rfl) rfl (by simp) rfl) ?_
   refine TL.cons rfl (Step.assign (p := (.one (.d (.int .i64 (a.f3.sz (a.f2.sz (a.f1.sz left))))))) rfl rfl (lt_ok rfl) rfl) ?_
   refine TL.nil ?_
   refine T.seq ?_
   refine T.seq ?_
   refine T.region ?_
   refine TL.cons rfl (Step.move (p := (.one (.d (.int .i64 (a.f3.sz (a.f2.sz (a.f1.sz left))))))) rfl rfl (lt_ok rfl) rfl) ?_
   refine TL.cons rfl (Step.bin rfl rfl (lt_ok rfl) rfl rfl (Bin.lss (k := .i64) (a := (a.f3.sz (a.f2.sz (a.f1.sz left)))) (b := 0))) ?_
   refine TL.nil ?_
   refine T.cond (b := decide ((a.f3.sz (a.f2.sz (a.f1.sz left))) < 0)) rfl (fun h6 => ?_) (fun h6 => ?_)
   ·
    replace h6 := of_decide_eq_true h6
    refine T.seq ?_
    refine T.region ?_
    refine TL.cons rfl (Step.assign (p := (.one (.d (.int .i64 (-1))))) rfl rfl (lt_ok rfl) rfl) ?_
    refine TL.nil ?_
    refine T.ret ?_
    exact ⟨[(false, [.d (.int .i64 (-1))])], (.cons rfl .nil), rfl, [], (RetC.rd' (by first | rfl | (congr 1; simp only [SMsg.sz, szThen]; repeat' (split <;> try omega))) .nil)⟩
   ·
    replace h6 := of_decide_eq_false h6
    have z5_le : a.f3.sz (a.f2.sz (a.f1.sz left)) ≤ (a.f2.sz (a.f1.sz left)) := SHead.sz_le _ (by omega)
    refine T.skip ?_
    refine T.seq ?_
    refine T.region ?_
    refine TL.cons rfl (Step.fieldAddr (q := 0) (off := 21) (n := 11) (one := false) rfl rfl (lt_ok rfl) (by kernel_rfl) (Nat.succ_ne_zero _) rfl) ?_
    refine TL.cons rfl (Step.load_box_agg (n := 11) (qs := [.d (.int .i64 a.f4.f0.f0), .d (.int .i64 a.f4.f0.f1), .d (.int .i64 a.f4.f0.f2), .d (.ints .u8 a.f4.f0.f3), .d (.ints .u8 a.f4.f0.f4), .d (.int .i64 a.f4.f0.f5.f0), .d (.int .i64 a.f4.f0.f5.f1), .d (.ints .u8 a.f4.f0.f5.f2), .d (.ints .u8 a.f4.f0.f5.f3), .d (.bss a.f4.f0.f5.f4), .d (.bss a.f4.f1)]) rfl rfl (lt_ok rfl) (by kernel_rfl) rfl rfl rfl rfl) ?_
    refine TL.cons rfl (Step.move (p := (.one (.d (.int .i64 (a.f3.sz (a.f2.sz (a.f1.sz left))))))) rfl rfl (lt_ok rfl) rfl) ?_
    refine TL.cons rfl (Step.call (f := 36) (xs := [.tmp 24, .tmp 25]) (ps := [(.agg [.d (.int .i64 a.f4.f0.f0), .d (.int .i64 a.f4.f0.f1), .d (.int .i64 a.f4.f0.f2), .d (.ints .u8 a.f4.f0.f3), .d (.ints .u8 a.f4.f0.f4), .d (.int .i64 a.f4.f0.f5.f0), .d (.int .i64 a.f4.f0.f5.f1), .d (.ints .u8 a.f4.f0.f5.f2), .d (.ints .u8 a.f4.f0.f5.f3), .d (.bss a.f4.f0.f5.f4), .d (.bss a.f4.f1)]), (.one (.d (.int .i64 (a.f3.sz (a.f2.sz (a.f1.sz left))))))]) false (g := .func 36) rfl rfl (lt_ok rfl) rfl (by kernel_rfl) rfl (.cons (.agg (.cons (.d _) (.cons (.d _) (.cons (.d _) (.cons (.d _) (.cons (.d _) (.cons (.d _) (.cons (.d _) (.cons (.d _) (.cons (.d _) (.cons (.d _) (.cons (.d _) .nil)))))))))))) (.cons (.one (.d _)) .nil)) (ok_laws_szBlock a.f4 (a.f3.sz (a.f2.sz (a.f1.sz left))) (by omega) (by omega)) (.inr rfl) rfl (by simp) rfl) ?_
    refine TL.cons rfl (Step.assign (p := (.one (.d (.int .i64 (a.f4.sz (a.f3.sz (a.f2.sz (a.f1.sz left)))))))) rfl rfl (lt_ok rfl) rfl) ?_
    refine TL.nil ?_
    refine T.seq ?_
    refine T.seq ?_
    refine T.region ?_
    refine TL.cons rfl (Step.move (p := (.one (.d (.int .i64 (a.f4.sz (a.f3.sz (a.f2.sz (a.f1.sz left)))))))) rfl rfl (lt_ok rfl) rfl) ?_
    refine TL.cons rfl (Step.bin rfl rfl (lt_ok rfl) rfl rfl (Bin.lss (k := .i64) (a := (a.f4.sz (a.f3.sz (a.f2.sz (a.f1.sz left))))) (b := 0))) ?_
    refine TL.nil ?_
    refine T.cond (b := decide ((a.f4.sz (a.f3.sz (a.f2.sz (a.f1.sz left)))) < 0)) rfl (fun h8 => ?_) (fun h8 => ?_)
    ·
     replace h8 := of_decide_eq_true h8
     refine T.seq ?_
     refine T.region ?_
     refine TL.cons rfl (Step.assign (p := (.one (.d (.int .i64 (-1))))) rfl rfl (lt_ok rfl) rfl) ?_
     refine TL.nil ?_
     refine T.ret ?_
     exact ⟨[(false, [.d (.int .i64 (-1))])], (.cons rfl .nil), rfl, [], (RetC.rd' (by first | rfl | (congr 1; simp only [SMsg.sz, szThen]; repeat' (split <;> try omega))) .nil)⟩
    ·
     replace h8 := of_decide_eq_false h8
     have z7_le : a.f4.sz (a.f3.sz (a.f2.sz (a.f1.sz left))) ≤ (a.f3.sz (a.f2.sz (a.f1.sz left))) := SBlock.sz_le _ (by omega)
     refine T.skip ?_
     refine T.seq ?_
     refine T.region ?_
     refine TL.cons rfl (Step.fieldAddr (q := 0) (off := 32) (n := 2) (one := false) rfl rfl (lt_ok rfl) (by kernel_rfl) (Nat.succ_ne_zero _) rfl) ?_
     refine TL.cons rfl (Step.load_box_agg (n := 2) (qs := [.d (.int .i64 a.f5.f0), .d (.sl 3 (a.f5.f1.map SEntry.cells))]) rfl rfl (lt_ok rfl) (by kernel_rfl) rfl rfl rfl rfl) ?_
     refine TL.cons rfl (Step.move (p := (.one (.d (.int .i64 (a.f4.sz (a.f3.sz (a.f2.sz (a.f1.sz left)))))))) rfl rfl (lt_ok rfl) rfl) ?_
     refine TL.cons rfl (Step.call (f := 15) (xs := [.tmp 30, .tmp 31]) (ps := [(.agg [.d (.int .i64 a.f5.f0), .d (.sl 3 (a.f5.f1.map SEntry.cells))]), (.one (.d (.int .i64 (a.f4.sz (a.f3.sz (a.f2.sz (a.f1.sz left)))))))]) false (g := .func 15) rfl rfl (lt_ok rfl) rfl (by kernel_rfl) rfl (.cons (.agg (.cons (.d _) (.cons (.d _) .nil))) (.cons (.one (.d _)) .nil)) (ok_laws_szTc a.f5 (a.f4.sz (a.f3.sz (a.f2.sz (a.f1.sz left)))) (by omega) (by omega)) (.inr rfl) rfl (by simp) rfl) ?_
     refine TL.cons rfl (Step.assign (p := (.one (.d (.int .i64 (a.f5.sz (a.f4.sz (a.f3.sz (a.f2.sz (a.f1.sz left))))))))) rfl rfl (lt_ok rfl) rfl) ?_
     refine TL.nil ?_
     refine T.seq ?_
     refine T.seq ?_
     refine T.region ?_
     refine TL.cons rfl (Step.move (p := (.one (.d (.int .i64 (a.f5.sz (a.f4.sz (a.f3.sz (a.f2.sz (a.f1.sz left))))))))) rfl rfl (lt_ok rfl) rfl) ?_
     refine TL.cons rfl (Step.bin rfl rfl (lt_ok rfl) rfl rfl (Bin.lss (k := .i64) (a := (a.f5.sz (a.f4.sz (a.f3.sz (a.f2.sz (a.f1.sz left)))))) (b := 0))) ?_
     refine TL.nil ?_
     refine T.cond (b := decide ((a.f5.sz (a.f4.sz (a.f3.sz (a.f2.sz (a.f1.sz left))))) < 0)) rfl (fun h10 => ?_) (fun h10 => ?_)
     ·
      replace h10 := of_decide_eq_true h10
      refine T.seq ?_
      refine T.region ?_
      refine TL.cons rfl (Step.assign (p := (.one (.d (.int .i64 (-1))))) rfl rfl (lt_ok rfl) rfl) ?_
      refine TL.nil ?_
      refine T.ret ?_
      exact ⟨[(false, [.d (.int .i64 (-1))])], (.cons rfl .nil), rfl, [], (RetC.rd' (by first | rfl | (congr 1; simp only [SMsg.sz, szThen]; repeat' (split <;> try omega))) .nil)⟩
     ·
      replace h10 := of_decide_eq_false h10
      have z9_le : a.f5.sz (a.f4.sz (a.f3.sz (a.f2.sz (a.f1.sz left)))) ≤ (a.f4.sz (a.f3.sz (a.f2.sz (a.f1.sz left)))) := STc.sz_le _ (by omega)
      refine T.skip ?_
      refine T.seq ?_
      refine T.region ?_
      refine TL.cons rfl (Step.fieldAddr (q := 0) (off := 34) (n := 6) (one := false) rfl rfl (lt_ok rfl) (by kernel_rfl) (Nat.succ_ne_zero _) rfl) ?_
      refine TL.cons rfl (Step.load_box_agg (n := 6) (qs := [.d (.sl 10 (a.f6.f0.map SHead.cells)), .d (.int .i64 a.f6.f1.f0), .d (.int .i64 a.f6.f1.f1), .d (.ints .u8 a.f6.f1.f2), .d (.ints .u8 a.f6.f1.f3), .d (.bss a.f6.f1.f4)]) rfl rfl (lt_ok rfl) (by kernel_rfl) rfl rfl rfl rfl) ?_
      refine TL.cons rfl (Step.move (p := (.one (.d (.int .i64 (a.f5.sz (a.f4.sz (a.f3.sz (a.f2.sz (a.f1.sz left))))))))) rfl rfl (lt_ok rfl) rfl) ?_
      refine TL.cons rfl (Step.call (f := 47) (xs := [.tmp 36, .tmp 37]) (ps := [(.agg [.d (.sl 10 (a.f6.f0.map SHead.cells)), .d (.int .i64 a.f6.f1.f0), .d (.int .i64 a.f6.f1.f1), .d (.ints .u8 a.f6.f1.f2), .d (.ints .u8 a.f6.f1.f3), .d (.bss a.f6.f1.f4)]), (.one (.d (.int .i64 (a.f5.sz (a.f4.sz (a.f3.sz (a.f2.sz (a.f1.sz left))))))))]) false (g := .func 47) rfl rfl (lt_ok rfl) rfl (by kernel_rfl) rfl (.cons (.agg (.cons (.d _) (.cons (.d _) (.cons (.d _) (.cons (.d _) (.cons (.d _) (.cons (.d _) .nil))))))) (.cons (.one (.d _)) .nil)) (ok_laws_szProof a.f6 (a.f5.sz (a.f4.sz (a.f3.sz (a.f2.sz (a.f1.sz left))))) (by omega) (by omega)) (.inr rfl) rfl (by simp) rfl) ?_
      refine TL.cons rfl (Step.assign (p := (.one (.d (.int .i64 (a.f6.sz (a.f5.sz (a.f4.sz (a.f3.sz (a.f2.sz (a.f1.sz left)))))))))) rfl rfl (lt_ok rfl) rfl) ?_
      refine TL.nil ?_
      refine T.seq ?_
      refine T.seq ?_
      refine T.region ?_
      refine TL.cons rfl (Step.move (p := (.one (.d (.int .i64 (a.f6.sz (a.f5.sz (a.f4.sz (a.f3.sz (a.f2.sz (a.f1.sz left)))))))))) rfl rfl (lt_ok rfl) rfl) ?_
      refine TL.cons rfl (Step.bin rfl rfl (lt_ok rfl) rfl rfl (Bin.lss (k := .i64) (a := (a.f6.sz (a.f5.sz (a.f4.sz (a.f3.sz (a.f2.sz (a.f1.sz left))))))) (b := 0))) ?_
      refine TL.nil ?_
      refine T.cond (b := decide ((a.f6.sz (a.f5.sz (a.f4.sz (a.f3.sz (a.f2.sz (a.f1.sz left)))))) < 0)) rfl (fun h12 => ?_) (fun h12 => ?_)
      ·
       replace h12 := of_decide_eq_true h12
       refine T.seq ?_
       refine T.region ?_
       refine TL.cons rfl (Step.assign (p := (.one (.d (.int .i64 (-1))))) rfl rfl (lt_ok rfl) rfl) ?_
       refine TL.nil ?_
       refine T.ret ?_
       exact ⟨[(false, [.d (.int .i64 (-1))])], (.cons rfl .nil), rfl, [], (RetC.rd' (by first | rfl | (congr 1; simp only [SMsg.sz, szThen]; repeat' (split <;> try omega))) .nil)⟩
      ·
       replace h12 := of_decide_eq_false h12
       have z11_le : a.f6.sz (a.f5.sz (a.f4.sz (a.f3.sz (a.f2.sz (a.f1.sz left))))) ≤ (a.f5.sz (a.f4.sz (a.f3.sz (a.f2.sz (a.f1.sz left))))) := SProof.sz_le _ (by omega)
       refine T.skip ?_
       refine T.seq ?_
       refine T.region ?_
       refine TL.cons rfl (Step.fieldAddr (q := 0) (off := 40) (n := 5) (one := false) rfl rfl (lt_ok rfl) (by kernel_rfl) (Nat.succ_ne_zero _) rfl) ?_
       refine TL.cons rfl (Step.load_box_agg (n := 5) (qs := [.d (.int .i64 a.f7.f0), .d (.int .i64 a.f7.f1), .d (.int .i64 a.f7.f2), .d (.ints .u8 a.f7.f3), .d (.bss a.f7.f4)]) rfl rfl (lt_ok rfl) (by kernel_rfl) rfl rfl rfl rfl) ?_
       refine TL.cons rfl (Step.move (p := (.one (.d (.int .i64 (a.f6.sz (a.f5.sz (a.f4.sz (a.f3.sz (a.f2.sz (a.f1.sz left)))))))))) rfl rfl (lt_ok rfl) rfl) ?_
       refine TL.cons rfl (Step.call (f := 21) (xs := [.tmp 42, .tmp 43]) (ps := [(.agg [.d (.int .i64 a.f7.f0), .d (.int .i64 a.f7.f1), .d (.int .i64 a.f7.f2), .d (.ints .u8 a.f7.f3), .d (.bss a.f7.f4)]), (.one (.d (.int .i64 (a.f6.sz (a.f5.sz (a.f4.sz (a.f3.sz (a.f2.sz (a.f1.sz left)))))))))]) false (g := .func 21) rfl rfl (lt_ok rfl) rfl (by kernel_rfl) rfl (.cons (.agg (.cons (.d _) (.cons (.d _) (.cons (.d _) (.cons (.d _) (.cons (.d _) .nil)))))) (.cons (.one (.d _)) .nil)) (ok_laws_szIncl a.f7 (a.f6.sz (a.f5.sz (a.f4.sz (a.f3.sz (a.f2.sz (a.f1.sz left)))))) (by omega) (by omega)) (.inr rfl) rfl (by simp) rfl) ?_
       refine TL.cons rfl (Step.assign (p := (.one (.d (.int .i64 (a.f7.sz (a.f6.sz (a.f5.sz (a.f4.sz (a.f3.sz (a.f2.sz (a.f1.sz left))))))))))) rfl rfl (lt_ok rfl) rfl) ?_
       refine TL.nil ?_
       refine T.weaken (E' := { tm := [(1, (.one (.d (.int .i64 (a.f7.sz (a.f6.sz (a.f5.sz (a.f4.sz (a.f3.sz (a.f2.sz (a.f1.sz left))))))))))), (4, (.one (.d (.int .i64 0))))], rows := [], boxes := [] }) (Env.le_mk ⟨by kernel_rfl, by kernel_rfl, trivial⟩ trivial trivial) ?_
       refine T.seq ?_
       refine T.seq ?_
       refine T.region ?_
       refine TL.cons rfl (Step.move (p := (.one (.d (.int .i64 (a.f7.sz (a.f6.sz (a.f5.sz (a.f4.sz (a.f3.sz (a.f2.sz (a.f1.sz left))))))))))) rfl rfl (lt_ok rfl) rfl) ?_
       refine TL.cons rfl (Step.bin rfl rfl (lt_ok rfl) rfl rfl (Bin.lss (k := .i64) (a := (a.f7.sz (a.f6.sz (a.f5.sz (a.f4.sz (a.f3.sz (a.f2.sz (a.f1.sz left)))))))) (b := 0))) ?_
       refine TL.nil ?_
       refine T.cond (b := decide ((a.f7.sz (a.f6.sz (a.f5.sz (a.f4.sz (a.f3.sz (a.f2.sz (a.f1.sz left))))))) < 0)) rfl (fun h14 => ?_) (fun h14 => ?_)
       ·
        replace h14 := of_decide_eq_true h14
        refine T.seq ?_
        refine T.region ?_
        refine TL.cons rfl (Step.assign (p := (.one (.d (.int .i64 (-1))))) rfl rfl (lt_ok rfl) rfl) ?_
        refine TL.nil ?_
        refine T.ret ?_
        exact ⟨[(false, [.d (.int .i64 (-1))])], (.cons rfl .nil), rfl, [], (RetC.rd' (by first | rfl | (congr 1; simp only [SMsg.sz, szThen]; repeat' (split <;> try omega))) .nil)⟩
       ·
        replace h14 := of_decide_eq_false h14
        have z13_le : a.f7.sz (a.f6.sz (a.f5.sz (a.f4.sz (a.f3.sz (a.f2.sz (a.f1.sz left)))))) ≤ (a.f6.sz (a.f5.sz (a.f4.sz (a.f3.sz (a.f2.sz (a.f1.sz left)))))) := SIncl.sz_le _ (by omega)
        refine T.skip ?_
        refine T.seq ?_
        refine T.region ?_
        refine TL.cons rfl (Step.move (p := (.one (.d (.int .i64 (a.f7.sz (a.f6.sz (a.f5.sz (a.f4.sz (a.f3.sz (a.f2.sz (a.f1.sz left))))))))))) rfl rfl (lt_ok rfl) rfl) ?_
        refine TL.cons rfl (Step.assign (p := (.one (.d (.int .i64 (a.f7.sz (a.f6.sz (a.f5.sz (a.f4.sz (a.f3.sz (a.f2.sz (a.f1.sz left))))))))))) rfl rfl (lt_ok rfl) rfl) ?_
        refine TL.nil ?_
        refine T.ret ?_
        exact ⟨[(false, [.d (.int .i64 (a.f7.sz (a.f6.sz (a.f5.sz (a.f4.sz (a.f3.sz (a.f2.sz (a.f1.sz left))))))))])], (.cons rfl .nil), rfl, [], (RetC.rd' (by first | rfl | (congr 1; simp only [SMsg.sz, szThen]; repeat' (split <;> try omega))) .nil)⟩
theorem ok_laws_szEvent (a : SEvent) (left : Int) (h0_ : 0 ≤ left) (h1_ : left ≤ 9223372036854775807) : RO Try.prog 124 [.agg a.cells, .one (.int .i64 left)] [(false, [.rd (.int .i64 (a.sz left))])] := by
 refine RO.intro Try.func124 rfl 12 rfl (le_ok rfl) fun w Z => ?_
 refine T.seq ?_
 refine T.region ?_
 refine TL.cons rfl (Step.box (p := (.agg [.d (.int .i64 a.f0), .d (.int .i64 a.f1), .d (.int .i64 a.f2.f0), .d (.int .i64 a.f2.f1.f0), .d (.int .i64 a.f2.f1.f1), .d (.ints .u8 a.f2.f1.f2), .d (.int .i64 a.f2.f1.f3), .d (.ints .u8 a.f2.f1.f4), .d (.int .i64 a.f2.f2.f0), .d (.int .i64 a.f2.f2.f1), .d (.ints .u8 a.f2.f2.f2), .d (.ints .u8 a.f2.f2.f3), .d (.bss a.f2.f2.f4), .d (.int .i64 a.f2.f3.f0), .d (.int .i64 a.f2.f3.f1), .d (.int .i64 a.f2.f3.f2), .d (.ints .u8 a.f2.f3.f3), .d (.ints .u8 a.f2.f3.f4), .d (.int .i64 a.f2.f3.f5.f0), .d (.int .i64 a.f2.f3.f5.f1), .d (.ints .u8 a.f2.f3.f5.f2), .d (.ints .u8 a.f2.f3.f5.f3), .d (.bss a.f2.f3.f5.f4), .d (.int .i64 a.f2.f4.f0.f0), .d (.int .i64 a.f2.f4.f0.f1), .d (.int .i64 a.f2.f4.f0.f2), .d (.ints .u8 a.f2.f4.f0.f3), .d (.ints .u8 a.f2.f4.f0.f4), .d (.int .i64 a.f2.f4.f0.f5.f0), .d (.int .i64 a.f2.f4.f0.f5.f1), .d (.ints .u8 a.f2.f4.f0.f5.f2), .d (.ints .u8 a.f2.f4.f0.f5.f3), .d (.bss a.f2.f4.f0.f5.f4), .d (.bss a.f2.f4.f1), .d (.int .i64 a.f2.f5.f0), .d (.sl 3 (a.f2.f5.f1.map SEntry.cells)), .d (.sl 10 (a.f2.f6.f0.map SHead.cells)), .d (.int .i64 a.f2.f6.f1.f0), .d (.int .i64 a.f2.f6.f1.f1), .d (.ints .u8 a.f2.f6.f1.f2), .d (.ints .u8 a.f2.f6.f1.f3), .d (.bss a.f2.f6.f1.f4), .d (.int .i64 a.f2.f7.f0), .d (.int .i64 a.f2.f7.f1), .d (.int .i64 a.f2.f7.f2), .d (.ints .u8 a.f2.f7.f3), .d (.bss a.f2.f7.f4)])) (ps := [.d (.int .i64 a.f0), .d (.int .i64 a.f1), .d (.int .i64 a.f2.f0), .d (.int .i64 a.f2.f1.f0), .d (.int .i64 a.f2.f1.f1), .d (.ints .u8 a.f2.f1.f2), .d (.int .i64 a.f2.f1.f3), .d (.ints .u8 a.f2.f1.f4), .d (.int .i64 a.f2.f2.f0), .d (.int .i64 a.f2.f2.f1), .d (.ints .u8 a.f2.f2.f2), .d (.ints .u8 a.f2.f2.f3), .d (.bss a.f2.f2.f4), .d (.int .i64 a.f2.f3.f0), .d (.int .i64 a.f2.f3.f1), .d (.int .i64 a.f2.f3.f2), .d (.ints .u8 a.f2.f3.f3), .d (.ints .u8 a.f2.f3.f4), .d (.int .i64 a.f2.f3.f5.f0), .d (.int .i64 a.f2.f3.f5.f1), .d (.ints .u8 a.f2.f3.f5.f2), .d (.ints .u8 a.f2.f3.f5.f3), .d (.bss a.f2.f3.f5.f4), .d (.int .i64 a.f2.f4.f0.f0), .d (.int .i64 a.f2.f4.f0.f1), .d (.int .i64 a.f2.f4.f0.f2), .d (.ints .u8 a.f2.f4.f0.f3), .d (.ints .u8 a.f2.f4.f0.f4), .d (.int .i64 a.f2.f4.f0.f5.f0), .d (.int .i64 a.f2.f4.f0.f5.f1), .d (.ints .u8 a.f2.f4.f0.f5.f2), .d (.ints .u8 a.f2.f4.f0.f5.f3), .d (.bss a.f2.f4.f0.f5.f4), .d (.bss a.f2.f4.f1), .d (.int .i64 a.f2.f5.f0), .d (.sl 3 (a.f2.f5.f1.map SEntry.cells)), .d (.sl 10 (a.f2.f6.f0.map SHead.cells)), .d (.int .i64 a.f2.f6.f1.f0), .d (.int .i64 a.f2.f6.f1.f1), .d (.ints .u8 a.f2.f6.f1.f2), .d (.ints .u8 a.f2.f6.f1.f3), .d (.bss a.f2.f6.f1.f4), .d (.int .i64 a.f2.f7.f0), .d (.int .i64 a.f2.f7.f1), .d (.int .i64 a.f2.f7.f2), .d (.ints .u8 a.f2.f7.f3), .d (.bss a.f2.f7.f4)]) rfl rfl (lt_ok rfl) rfl rfl rfl rfl rfl) ?_
 refine TL.cons rfl (Step.assign (p := (.one (.d (.int .i64 0)))) rfl rfl (lt_ok rfl) rfl) ?_
 refine TL.nil ?_
 refine T.seq ?_
 refine T.region ?_
 refine TL.cons rfl (Step.fieldAddr (q := 0) (off := 2) (n := 45) (one := false) rfl rfl (lt_ok rfl) (by kernel_rfl) (Nat.succ_ne_zero _) rfl) ?_
 refine TL.cons rfl (Step.load_box_agg (n := 45) (qs := [.d (.int .i64 a.f2.f0), .d (.int .i64 a.f2.f1.f0), .d (.int .i64 a.f2.f1.f1), .d (.ints .u8 a.f2.f1.f2), .d (.int .i64 a.f2.f1.f3), .d (.ints .u8 a.f2.f1.f4), .d (.int .i64 a.f2.f2.f0), .d (.int .i64 a.f2.f2.f1), .d (.ints .u8 a.f2.f2.f2), .d (.ints .u8 a.f2.f2.f3), .d (.bss a.f2.f2.f4), .d (.int .i64 a.f2.f3.f0), .d (.int .i64 a.f2.f3.f1), .d (.int .i64 a.f2.f3.f2), .d (.ints .u8 a.f2.f3.f3), .d (.ints .u8 a.f2.f3.f4), .d (.int .i64 a.f2.f3.f5.f0), .d (.int .i64 a.f2.f3.f5.f1), .d (.ints .u8 a.f2.f3.f5.f2), .d (.ints .u8 a.f2.f3.f5.f3), .d (.bss a.f2.f3.f5.f4), .d (.int .i64 a.f2.f4.f0.f0), .d (.int .i64 a.f2.f4.f0.f1), .d (.int .i64 a.f2.f4.f0.f2), .d (.ints .u8 a.f2.f4.f0.f3), .d (.ints .u8 a.f2.f4.f0.f4), .d (.int .i64 a.f2.f4.f0.f5.f0), .d (.int .i64 a.f2.f4.f0.f5.f1), .d (.ints .u8 a.f2.f4.f0.f5.f2), .d (.ints .u8 a.f2.f4.f0.f5.f3), .d (.bss a.f2.f4.f0.f5.f4), .d (.bss a.f2.f4.f1), .d (.int .i64 a.f2.f5.f0), .d (.sl 3 (a.f2.f5.f1.map SEntry.cells)), .d (.sl 10 (a.f2.f6.f0.map SHead.cells)), .d (.int .i64 a.f2.f6.f1.f0), .d (.int .i64 a.f2.f6.f1.f1), .d (.ints .u8 a.f2.f6.f1.f2), .d (.ints .u8 a.f2.f6.f1.f3), .d (.bss a.f2.f6.f1.f4), .d (.int .i64 a.f2.f7.f0), .d (.int .i64 a.f2.f7.f1), .d (.int .i64 a.f2.f7.f2), .d (.ints .u8 a.f2.f7.f3), .d (.bss a.f2.f7.f4)]) rfl rfl (lt_ok rfl) (by kernel_rfl) rfl rfl rfl rfl) ?_
 refine TL.cons rfl (Step.move (p := (.one (.d (.int .i64 left)))) rfl rfl (lt_ok rfl) rfl) ?_
 refine TL.cons rfl (Step.call (f := 142) (xs := [.tmp 6, .tmp 7]) (ps := [(.agg [.d (.int .i64 a.f2.f0), .d (.int .i64 a.f2.f1.f0), .d (.int .i64 a.f2.f1.f1), .d (.ints .u8 a.f2.f1.f2), .d (.int .i64 a.f2.f1.f3), .d (.ints .u8 a.f2.f1.f4), .d (.int .i64 a.f2.f2.f0), .d (.int .i64 a.f2.f2.f1), .d (.ints .u8 a.f2.f2.f2), .d (.ints .u8 a.f2.f2.f3), .d (.bss a.f2.f2.f4), .d (.int .i64 a.f2.f3.f0), .d (.int .i64 a.f2.f3.f1), .d (.int .i64 a.f2.f3.f2), .d (.ints .u8 a.f2.f3.f3), .d (.ints .u8 a.f2.f3.f4), .d (.int .i64 a.f2.f3.f5.f0), .d (.int .i64 a.f2.f3.f5.f1), .d (.ints .u8 a.f2.f3.f5.f2), .d (.ints .u8 a.f2.f3.f5.f3), .d (.bss a.f2.f3.f5.f4), .d (.int .i64 a.f2.f4.f0.f0), .d (.int .i64 a.f2.f4.f0.f1), .d (.int .i64 a.f2.f4.f0.f2), .d (.ints .u8 a.f2.f4.f0.f3), .d (.ints .u8 a.f2.f4.f0.f4), .d (.int .i64 a.f2.f4.f0.f5.f0), .d (.int .i64 a.f2.f4.f0.f5.f1), .d (.ints .u8 a.f2.f4.f0.f5.f2), .d (.ints .u8 a.f2.f4.f0.f5.f3), .d (.bss a.f2.f4.f0.f5.f4), .d (.bss a.f2.f4.f1), .d (.int .i64 a.f2.f5.f0), .d (.sl 3 (a.f2.f5.f1.map SEntry.cells)), .d (.sl 10 (a.f2.f6.f0.map SHead.cells)), .d (.int .i64 a.f2.f6.f1.f0), .d (.int .i64 a.f2.f6.f1.f1), .d (.ints .u8 a.f2.f6.f1.f2), .d (.ints .u8 a.f2.f6.f1.f3), .d (.bss a.f2.f6.f1.f4), .d (.int .i64 a.f2.f7.f0), .d (.int .i64 a.f2.f7.f1), .d (.int .i64 a.f2.f7.f2), .d (.ints .u8 a.f2.f7.f3), .d (.bss a.f2.f7.f4)]), (.one (.d (.int .i64 left)))]) false (g := .func 142) rfl rfl (lt_ok rfl) rfl (by kernel_rfl) rfl (.cons (.agg (.cons (.d _) (.cons (.d _) (.cons (.d _) (.cons (.d _) (.cons (.d _) (.cons (.d _) (.cons (.d _) (.cons (.d _) (.cons (.d _) (.cons (.d _) (.cons (.d _) (.cons (.d _) (.cons (.d _) (.cons (.d _) (.cons (.d _) (.cons (.d _) (.cons (.d _) (.cons (.d _) (.cons (.d _) (.cons (.d _) (.cons (.d _) (.cons (.d _) (.cons (.d _) (.cons (.d _) (.cons (.d _) (.cons (.d _) (.cons (.d _) (.cons (.d _) (.cons (.d _) (.cons (.d _) (.cons (.d _) (.cons (.d _) (.cons (.d _) (.cons (.d _) (.cons (.d _) (.cons (.d _) (.cons (.d _) (.cons (.d _) (.cons (.d _) (.cons (.d _) (.cons (.d _) (.cons (.d _) (.cons (.d _) (.cons (.d _) (.cons (.d _) .nil)))))))))))))))))))))))))))))))))))))))))))))) (.cons (.one (.d _)) .nil)) (ok_laws_szMsg a.f2 left (by omega) (by omega)) (.inr rfl) rfl (by simp) rfl) ?_
 refine TL.cons rfl (Step.assign (p := (.one (.d (.int .i64 (a.f2.sz left))))) rfl rfl (lt_ok rfl) rfl) ?_
 refine TL.nil ?_
 refine T.weaken (E' := { tm := [(1, (.one (.d (.int .i64 (a.f2.sz left))))), (4, (.one (.d (.int .i64 0))))], rows := [], boxes := [] }) (Env.le_mk ⟨by kernel_rfl, by kernel_rfl, trivial⟩ trivial trivial) ?_
 refine T.seq ?_
 refine T.seq ?_
 refine T.region ?_
 refine TL.cons rfl (Step.move (p := (.one (.d (.int .i64 (a.f2.sz left))))) rfl rfl (lt_ok rfl) rfl) ?_
 refine TL.cons rfl (Step.bin rfl rfl (lt_ok rfl) rfl rfl (Bin.lss (k := .i64) (a := (a.f2.sz left)) (b := 0))) ?_
 refine TL.nil ?_
 refine T.cond (b := decide ((a.f2.sz left) < 0)) rfl (fun h2 => ?_) (fun h2 => ?_)
 ·
  replace h2 := of_decide_eq_true h2
  refine T.seq ?_
  refine T.region ?_
  refine TL.cons rfl (Step.assign (p := (.one (.d (.int .i64 (-1))))) rfl rfl (lt_ok rfl) rfl) ?_
  refine TL.nil ?_
  refine T.ret ?_
  exact ⟨[(false, [.d (.int .i64 (-1))])], (.cons rfl .nil), rfl, [], (RetC.rd' (by first | rfl | (congr 1; simp only [SEvent.sz, szThen]; repeat' (split <;> try omega))) .nil)⟩
 ·
  replace h2 := of_decide_eq_false h2
  have z1_le : a.f2.sz left ≤ left := SMsg.sz_le _ (by omega)
  refine T.skip ?_
  refine T.seq ?_
  refine T.region ?_
  refine TL.cons rfl (Step.move (p := (.one (.d (.int .i64 (a.f2.sz left))))) rfl rfl (lt_ok rfl) rfl) ?_
  refine TL.cons rfl (Step.assign (p := (.one (.d (.int .i64 (a.f2.sz left))))) rfl rfl (lt_ok rfl) rfl) ?_
  refine TL.nil ?_
  refine T.ret ?_
  exact ⟨[(false, [.d (.int .i64 (a.f2.sz left))])], (.cons rfl .nil), rfl, [], (RetC.rd' (by first | rfl | (congr 1; simp only [SEvent.sz, szThen]; repeat' (split <;> try omega))) .nil)⟩
theorem ok_laws_szEventS (a : List SEvent) (left : Int) (h0_ : 0 ≤ left) (h1_ : left ≤ 9223372036854775807) : RO Try.prog 67 [.one (.sl 47 (a.map SEvent.cells)), .one (.int .i64 left)] [(false, [.rd (.int .i64 (szLs SEvent.sz a left))])] := by
 refine RO.intro Try.func67 rfl 27 rfl (le_ok rfl) fun w Z => ?_
 refine T.bnd 0 0 rfl rfl fun hb_0_0 => ?_
 simp only [D.size, List.length_map] at hb_0_0
 refine T.seq ?_
 refine T.region ?_
 refine TL.cons rfl (Step.assign (p := (.one (.d (.int .i64 0)))) rfl rfl (lt_ok rfl) rfl) ?_
 refine TL.nil ?_
 refine T.seq ?_
 refine T.region ?_
 refine TL.cons rfl (Step.move (p := (.one (.d (.int .i64 left)))) rfl rfl (lt_ok rfl) rfl) ?_
 refine TL.cons rfl (Step.move (p := (.one (.d (.sl 47 (a.map SEvent.cells))))) rfl rfl (lt_ok rfl) rfl) ?_
 refine TL.cons rfl (Step.len' (e := 148) (z := 47) (d := (.sl 47 (a.map SEvent.cells))) (n := a.length) rfl rfl (lt_ok rfl) (by kernel_rfl) rfl rfl (by simp [D.size])) ?_
 refine TL.cons rfl (Step.bin (r := .int .i64 (left - (a.length : Int))) rfl rfl (lt_ok rfl) rfl rfl (Bin.sub (a := left) (b := (a.length : Int)) (by first | exact wrap_ok (by first | omega | (simp; omega)) (by first | omega | (simp; omega)) | rfl))) ?_
 refine TL.cons rfl (Step.assign (p := (.one (.d (.int .i64 (left - (a.length : Int)))))) rfl rfl (lt_ok rfl) rfl) ?_
 refine TL.nil ?_
 refine T.seq ?_
 refine T.seq ?_
 refine T.region ?_
 refine TL.cons rfl (Step.move (p := (.one (.d (.int .i64 (left - (a.length : Int)))))) rfl rfl (lt_ok rfl) rfl) ?_
 refine TL.cons rfl (Step.bin rfl rfl (lt_ok rfl) rfl rfl (Bin.lss (k := .i64) (a := (left - (a.length : Int))) (b := 0))) ?_
 refine TL.nil ?_
 refine T.cond (b := decide ((left - (a.length : Int)) < 0)) rfl (fun h1 => ?_) (fun h1 => ?_)
 ·
  replace h1 := of_decide_eq_true h1
  refine T.seq ?_
  refine T.region ?_
  refine TL.cons rfl (Step.assign (p := (.one (.d (.int .i64 (-1))))) rfl rfl (lt_ok rfl) rfl) ?_
  refine TL.nil ?_
  refine T.ret ?_
  exact ⟨[(false, [.d (.int .i64 (-1))])], (.cons rfl .nil), rfl, [], (RetC.rd' (by (congr 1; first | (rw [← hx4, szL_drop (dflt := default) a i l (by omega), if_pos (by omega)]; done) | (rw [← hx4, List.drop_of_length_le (by omega)]; rfl) | (unfold szLs; rw [if_pos (by omega)]; done))) .nil)⟩
 ·
  replace h1 := of_decide_eq_false h1
  refine T.skip ?_
  refine T.seq ?_
  refine T.seq ?_
  refine T.region ?_
  refine TL.cons rfl (Step.assign (p := (.one (.d (.int .i64 0)))) rfl rfl (lt_ok rfl) rfl) ?_
  refine TL.nil ?_
  refine T.block ?_
  refine T.loop (ι := Nat × Int) (fun x => { tm := [(0, (.one (.d (.sl 47 (a.map SEvent.cells))))), (5, (.one (.d (.int .i64 ((x.1) : Int))))), (1, (.one (.d (.int .i64 (x.2)))))], rows := [], boxes := [] }) (fun x => (x.1) ≤ a.length ∧ 0 ≤ (x.2) ∧ (x.2) ≤ 9223372036854775807 ∧ szL SEvent.sz (a.drop (x.1)) (x.2) = szLs SEvent.sz a left) (fun x => a.length - (x.1)) (0, left - (a.length : Int)) ?_ ?_ ?_
  · exact Env.le_mk ⟨rfl, by first | rfl | (simp; done) | (congr 3; omega), by first | rfl | (simp; done) | (congr 3; omega), trivial⟩ trivial trivial
  · (refine ⟨Nat.zero_le _, by omega, by omega, ?_⟩; unfold szLs; rw [if_neg (by omega), List.drop_zero])
  ·
   intro x hx
   obtain ⟨i, l⟩ := x
   try dsimp only at hx ⊢
   obtain ⟨hx1, hx2, hx3, hx4⟩ := hx
   refine T.seq ?_
   refine T.seq ?_
   refine T.region ?_
   refine TL.cons rfl (Step.move (p := (.one (.d (.int .i64 (i : Int))))) rfl rfl (lt_ok rfl) rfl) ?_
   refine TL.cons rfl (Step.move (p := (.one (.d (.sl 47 (a.map SEvent.cells))))) rfl rfl (lt_ok rfl) rfl) ?_
   refine TL.cons rfl (Step.len' (e := 148) (z := 47) (d := (.sl 47 (a.map SEvent.cells))) (n := a.length) rfl rfl (lt_ok rfl) (by kernel_rfl) rfl rfl (by simp [D.size])) ?_
   refine TL.cons rfl (Step.bin rfl rfl (lt_ok rfl) rfl rfl (Bin.lss (k := .i64) (a := (i : Int)) (b := (a.length : Int)))) ?_
   refine TL.nil ?_
   refine T.cond (b := decide ((i : Int) < (a.length : Int))) rfl (fun h2 => ?_) (fun h2 => ?_)
   ·
    replace h2 := of_decide_eq_true h2
    refine T.skip ?_
    refine T.seq ?_
    refine T.block ?_
    refine T.seq ?_
    refine T.region ?_
    refine TL.cons rfl (Step.move (p := (.one (.d (.sl 47 (a.map SEvent.cells))))) rfl rfl (lt_ok rfl) rfl) ?_
    refine TL.cons rfl (Step.move (p := (.one (.d (.int .i64 (i : Int))))) rfl rfl (lt_ok rfl) rfl) ?_
    refine TL.cons rfl (Step.index (e := 148) (z := 47) (i := (i : Int)) rfl rfl (lt_ok rfl) (by kernel_rfl) rfl rfl rfl (lt_ok rfl) rfl (by first | omega | (simp; omega)) (by simp only [D.size]; first | omega | (simp; omega))) ?_
    refine TL.cons rfl (Step.load_agg (n := 47) (cs := [.d (.int .i64 (a.getD i default).f0), .d (.int .i64 (a.getD i default).f1), .d (.int .i64 (a.getD i default).f2.f0), .d (.int .i64 (a.getD i default).f2.f1.f0), .d (.int .i64 (a.getD i default).f2.f1.f1), .d (.ints .u8 (a.getD i default).f2.f1.f2), .d (.int .i64 (a.getD i default).f2.f1.f3), .d (.ints .u8 (a.getD i default).f2.f1.f4), .d (.int .i64 (a.getD i default).f2.f2.f0), .d (.int .i64 (a.getD i default).f2.f2.f1), .d (.ints .u8 (a.getD i default).f2.f2.f2), .d (.ints .u8 (a.getD i default).f2.f2.f3), .d (.bss (a.getD i default).f2.f2.f4), .d (.int .i64 (a.getD i default).f2.f3.f0), .d (.int .i64 (a.getD i default).f2.f3.f1), .d (.int .i64 (a.getD i default).f2.f3.f2), .d (.ints .u8 (a.getD i default).f2.f3.f3), .d (.ints .u8 (a.getD i default).f2.f3.f4), .d (.int .i64 (a.getD i default).f2.f3.f5.f0), .d (.int .i64 (a.getD i default).f2.f3.f5.f1), .d (.ints .u8 (a.getD i default).f2.f3.f5.f2), .d (.ints .u8 (a.getD i default).f2.f3.f5.f3), .d (.bss (a.getD i default).f2.f3.f5.f4), .d (.int .i64 (a.getD i default).f2.f4.f0.f0), .d (.int .i64 (a.getD i default).f2.f4.f0.f1), .d (.int .i64 (a.getD i default).f2.f4.f0.f2), .d (.ints .u8 (a.getD i default).f2.f4.f0.f3), .d (.ints .u8 (a.getD i default).f2.f4.f0.f4), .d (.int .i64 (a.getD i default).f2.f4.f0.f5.f0), .d (.int .i64 (a.getD i default).f2.f4.f0.f5.f1), .d (.ints .u8 (a.getD i default).f2.f4.f0.f5.f2), .d (.ints .u8 (a.getD i default).f2.f4.f0.f5.f3), .d (.bss (a.getD i default).f2.f4.f0.f5.f4), .d (.bss (a.getD i default).f2.f4.f1), .d (.int .i64 (a.getD i default).f2.f5.f0), .d (.sl 3 ((a.getD i default).f2.f5.f1.map SEntry.cells)), .d (.sl 10 ((a.getD i default).f2.f6.f0.map SHead.cells)), .d (.int .i64 (a.getD i default).f2.f6.f1.f0), .d (.int .i64 (a.getD i default).f2.f6.f1.f1), .d (.ints .u8 (a.getD i default).f2.f6.f1.f2), .d (.ints .u8 (a.getD i default).f2.f6.f1.f3), .d (.bss (a.getD i default).f2.f6.f1.f4), .d (.int .i64 (a.getD i default).f2.f7.f0), .d (.int .i64 (a.getD i default).f2.f7.f1), .d (.int .i64 (a.getD i default).f2.f7.f2), .d (.ints .u8 (a.getD i default).f2.f7.f3), .d (.bss (a.getD i default).f2.f7.f4)]) rfl rfl (lt_ok rfl) (by kernel_rfl) rfl rfl (by simp only [List.range, List.range.loop, List.map_cons, List.map_nil]; rw [cell_map default (by first | omega | (simp; omega)), cell_map default (by first | omega | (simp; omega)), cell_map default (by first | omega | (simp; omega)), cell_map default (by first | omega | (simp; omega)), cell_map default (by first | omega | (simp; omega)), cell_map default (by first | omega | (simp; omega)), cell_map default (by first | omega | (simp; omega)), cell_map default (by first | omega | (simp; omega)), cell_map default (by first | omega | (simp; omega)), cell_map default (by first | omega | (simp; omega)), cell_map default (by first | omega | (simp; omega)), cell_map default (by first | omega | (simp; omega)), cell_map default (by first | omega | (simp; omega)), cell_map default (by first | omega | (simp; omega)), cell_map default (by first | omega | (simp; omega)), cell_map default (by first | omega | (simp; omega)), cell_map default (by first | omega | (simp; omega)), cell_map default (by first | omega | (simp; omega)), cell_map default (by first | omega | (simp; omega)), cell_map default (by first | omega | (simp; omega)), cell_map default (by first | omega | (simp; omega)), cell_map default (by first | omega | (simp; omega)), cell_map default (by first | omega | (simp; omega)), cell_map default (by first | omega | (simp; omega)), cell_map default (by first | omega | (simp; omega)), cell_map default (by first | omega | (simp; omega)), cell_map default (by first | omega | (simp; omega)), cell_map default (by first | omega | (simp; omega)), cell_map default (by first | omega | (simp; omega)), cell_map default (by first | omega | (simp; omega)), cell_map default (by first | omega | (simp; omega)), cell_map default (by first | omega | (simp; omega)), cell_map default (by first | omega | (simp; omega)), cell_map default (by first | omega | (simp; omega)), cell_map default (by first | omega | (simp; omega)), cell_map default (by first | omega | (simp; omega)), cell_map default (by first | omega | (simp; omega)), cell_map default (by first | omega | (simp; omega)), cell_map default (by first | omega | (simp; omega)), cell_map default (by first | omega | (simp; omega)), cell_map default (by first | omega | (simp; omega)), cell_map default (by first | omega | (simp; omega)), cell_map default (by first | omega | (simp; omega)), cell_map default (by first | omega | (simp; omega)), cell_map default (by first | omega | (simp; omega)), cell_map default (by first | omega | (simp; omega)), cell_map default (by first | omega | (simp; omega))]; rfl)) ?_
    refine TL.cons rfl (Step.move (p := (.one (.d (.int .i64 l)))) rfl rfl (lt_ok rfl) rfl) ?_
    refine TL.cons rfl (Step.call (f := 124) (xs := [.tmp 21, .tmp 22]) (ps := [(.agg [.d (.int .i64 (a.getD i default).f0), .d (.int .i64 (a.getD i default).f1), .d (.int .i64 (a.getD i default).f2.f0), .d (.int .i64 (a.getD i default).f2.f1.f0), .d (.int .i64 (a.getD i default).f2.f1.f1), .d (.ints .u8 (a.getD i default).f2.f1.f2), .d (.int .i64 (a.getD i default).f2.f1.f3), .d (.ints .u8 (a.getD i default).f2.f1.f4), .d (.int .i64 (a.getD i default).f2.f2.f0), .d (.int .i64 (a.getD i default).f2.f2.f1), .d (.ints .u8 (a.getD i default).f2.f2.f2), .d (.ints .u8 (a.getD i default).f2.f2.f3), .d (.bss (a.getD i default).f2.f2.f4), .d (.int .i64 (a.getD i default).f2.f3.f0), .d (.int .i64 (a.getD i default).f2.f3.f1), .d (.int .i64 (a.getD i default).f2.f3.f2), .d (.ints .u8 (a.getD i default).f2.f3.f3), .d (.ints .u8 (a.getD i default).f2.f3.f4), .d (.int .i64 (a.getD i default).f2.f3.f5.f0), .d (.int .i64 (a.getD i default).f2.f3.f5.f1), .d (.ints .u8 (a.getD i default).f2.f3.f5.f2), .d (.ints .u8 (a.getD i default).f2.f3.f5.f3), .d (.bss (a.getD i default).f2.f3.f5.f4), .d (.int .i64 (a.getD i default).f2.f4.f0.f0), .d (.int .i64 (a.getD i default).f2.f4.f0.f1), .d (.int .i64 (a.getD i default).f2.f4.f0.f2), .d (.ints .u8 (a.getD i default).f2.f4.f0.f3), .d (.ints .u8 (a.getD i default).f2.f4.f0.f4), .d (.int .i64 (a.getD i default).f2.f4.f0.f5.f0), .d (.int .i64 (a.getD i default).f2.f4.f0.f5.f1), .d (.ints .u8 (a.getD i default).f2.f4.f0.f5.f2), .d (.ints .u8 (a.getD i default).f2.f4.f0.f5.f3), .d (.bss (a.getD i default).f2.f4.f0.f5.f4), .d (.bss (a.getD i default).f2.f4.f1), .d (.int .i64 (a.getD i default).f2.f5.f0), .d (.sl 3 ((a.getD i default).f2.f5.f1.map SEntry.cells)), .d (.sl 10 ((a.getD i default).f2.f6.f0.map SHead.cells)), .d (.int .i64 (a.getD i default).f2.f6.f1.f0), .d (.int .i64 (a.getD i default).f2.f6.f1.f1), .d (.ints .u8 (a.getD i default).f2.f6.f1.f2), .d (.ints .u8 (a.getD i default).f2.f6.f1.f3), .d (.bss (a.getD i default).f2.f6.f1.f4), .d (.int .i64 (a.getD i default).f2.f7.f0), .d (.int .i64 (a.getD i default).f2.f7.f1), .d (.int .i64 (a.getD i default).f2.f7.f2), .d (.ints .u8 (a.getD i default).f2.f7.f3), .d (.bss (a.getD i default).f2.f7.f4)]), (.one (.d (.int .i64 l)))]) false (g := .func 124) rfl rfl (lt_ok rfl) rfl (by kernel_rfl) rfl (.cons (.agg (.cons (.d _) (.cons (.d _) (.cons (.d _) (.cons (.d _) (.cons (.d _) (.cons (.d _) (.cons (.d _) (.cons (.d _) (.cons (.d _) (.cons (.d _) (.cons (.d _) (.cons (.d _) (.cons (.d _) (.cons (.d _) (.cons (.d _) (.cons (.d _) (.cons (.d _) (.cons (.d _) (.cons (.d _) (.cons (.d _) (.cons (.d _) (.cons (.d _) (.cons (.d _) (.cons (.d _) (.cons (.d _) (.cons (.d _) (.cons (.d _) (.cons (.d _) (.cons (.d _) (.cons (.d _) (.cons (.d _) (.cons (.d _) (.cons (.d _) (.cons (.d _) (.cons (.d _) (.cons (.d _) (.cons (.d _) (.cons (.d _) (.cons (.d _) (.cons (.d _) (.cons (.d _) (.cons (.d _) (.cons (.d _) (.cons (.d _) (.cons (.d _) (.cons (.d _) (.cons (.d _) .nil)))))))))))))))))))))))))))))))))))))))))))))))) (.cons (.one (.d _)) .nil)) (ok_laws_szEvent (a.getD i default) l (by omega) (by omega)) (.inr rfl) rfl (by simp) rfl) ?_
    refine TL.cons rfl (Step.assign (p := (.one (.d (.int .i64 ((a.getD i default).sz l))))) rfl rfl (lt_ok rfl) rfl) ?_
    refine TL.nil ?_
    refine T.seq ?_
    refine T.region ?_
    refine TL.cons rfl (Step.move (p := (.one (.d (.int .i64 ((a.getD i default).sz l))))) rfl rfl (lt_ok rfl) rfl) ?_
    refine TL.cons rfl (Step.bin rfl rfl (lt_ok rfl) rfl rfl (Bin.lss (k := .i64) (a := ((a.getD i default).sz l)) (b := 0))) ?_
    refine TL.nil ?_
    refine T.cond (b := decide (((a.getD i default).sz l) < 0)) rfl (fun h4 => ?_) (fun h4 => ?_)
    ·
     replace h4 := of_decide_eq_true h4
     refine T.seq ?_
     refine T.region ?_
     refine TL.cons rfl (Step.assign (p := (.one (.d (.int .i64 (-1))))) rfl rfl (lt_ok rfl) rfl) ?_
     refine TL.nil ?_
     refine T.ret ?_
     exact ⟨[(false, [.d (.int .i64 (-1))])], (.cons rfl .nil), rfl, [], (RetC.rd' (by (congr 1; first | (rw [← hx4, szL_drop (dflt := default) a i l (by omega), if_pos (by omega)]; done) | (rw [← hx4, List.drop_of_length_le (by omega)]; rfl) | (unfold szLs; rw [if_pos (by omega)]; done))) .nil)⟩
    ·
     replace h4 := of_decide_eq_false h4
     have z3_le : (a.getD i default).sz l ≤ l := SEvent.sz_le _ (by omega)
     refine T.skip ?_
     refine T.region ?_
     refine TL.cons rfl (Step.move (p := (.one (.d (.int .i64 (i : Int))))) rfl rfl (lt_ok rfl) rfl) ?_
     refine TL.cons rfl (Step.bin (r := .int .i64 ((i : Int) + 1)) rfl rfl (lt_ok rfl) rfl rfl (Bin.add (a := (i : Int)) (b := 1) (by first | exact wrap_ok (by first | omega | (simp; omega)) (by first | omega | (simp; omega)) | rfl))) ?_
     refine TL.cons rfl (Step.assign (p := (.one (.d (.int .i64 ((i : Int) + 1))))) rfl rfl (lt_ok rfl) rfl) ?_
     refine TL.nil ?_
     exact ⟨(i + 1, (SEvent.sz (a.getD i default) l)), by (refine ⟨by omega, by omega, by omega, ?_⟩; rw [← hx4, szL_drop (dflt := default) a i l (by omega), if_neg (by omega)]), by (dsimp only; omega), Env.le_mk ⟨rfl, by first | rfl | (simp; done) | (congr 3; omega), by first | rfl | (simp; done) | (congr 3; omega), trivial⟩ trivial trivial⟩
   ·
    replace h2 := of_decide_eq_false h2
    refine T.exit ?_
    refine T.seq ?_
    refine T.region ?_
    refine TL.cons rfl (Step.move (p := (.one (.d (.int .i64 l)))) rfl rfl (lt_ok rfl) rfl) ?_
    refine TL.cons rfl (Step.assign (p := (.one (.d (.int .i64 l)))) rfl rfl (lt_ok rfl) rfl) ?_
    refine TL.nil ?_
    refine T.ret ?_
    exact ⟨[(false, [.d (.int .i64 l)])], (.cons rfl .nil), rfl, [], (RetC.rd' (by (congr 1; first | (rw [← hx4, szL_drop (dflt := default) a i l (by omega), if_pos (by omega)]; done) | (rw [← hx4, List.drop_of_length_le (by omega)]; rfl) | (unfold szLs; rw [if_pos (by omega)]; done))) .nil)⟩
theorem ok_spec_l01In (n : Int) (lo : Int) (hi : Int) : RO Try.prog 75 [.one (.int .i64 n), .one (.int .i64 lo), .one (.int .i64 hi)] [(false, [.rd (.bool (decide (lo ≤ n ∧ n ≤ hi)))])] := by
 refine RO.intro Try.func75 rfl 15 rfl (le_ok rfl) fun w Z => ?_
 refine T.seq ?_
 refine T.region ?_
 refine TL.cons rfl (Step.assign (p := (.one (.d (.bool false)))) rfl rfl (lt_ok rfl) rfl) ?_
 refine TL.nil ?_
 refine T.seq ?_
 refine T.region ?_
 refine TL.cons rfl (Step.move (p := (.one (.d (.int .i64 n)))) rfl rfl (lt_ok rfl) rfl) ?_
 refine TL.cons rfl (Step.move (p := (.one (.d (.int .i64 lo)))) rfl rfl (lt_ok rfl) rfl) ?_
 refine TL.cons rfl (Step.bin rfl rfl (lt_ok rfl) rfl rfl (Bin.geq (k := .i64) (a := n) (b := lo))) ?_
 refine TL.cons rfl (Step.move (p := (.one (.d (.bool (decide (lo ≤ n)))))) rfl rfl (lt_ok rfl) rfl) ?_
 rcases Bool.eq_false_or_eq_true (decide (lo ≤ n)) with hb1 | hb1
 ·
  refine TL.known 10 hb1 rfl ?_
  refine TL.gyes 10 rfl rfl (lt_ok rfl) rfl (Step.move (p := (.one (.d (.int .i64 n)))) rfl rfl (lt_ok rfl) rfl) ?_
  refine TL.gyes 10 rfl rfl (lt_ok rfl) rfl (Step.move (p := (.one (.d (.int .i64 hi)))) rfl rfl (lt_ok rfl) rfl) ?_
  refine TL.gyes 10 rfl rfl (lt_ok rfl) rfl (Step.bin rfl rfl (lt_ok rfl) rfl rfl (Bin.leq (k := .i64) (a := n) (b := hi))) ?_
  refine TL.cons rfl (Step.pick (b := true) (p := (.one (.d (.bool (decide (n ≤ hi)))))) rfl rfl (lt_ok rfl) rfl rfl) ?_
  refine TL.cons rfl (Step.assign (p := (.one (.d (.bool (decide (n ≤ hi)))))) rfl rfl (lt_ok rfl) rfl) ?_
  refine TL.nil ?_
  refine T.ret ?_
  exact ⟨[(false, [.d (.bool (decide (n ≤ hi)))])], (.cons rfl .nil), rfl, [], (RetC.rd' (by first | (congr 1; simp_all; done) | (congr 1; simp_all; omega)) .nil)⟩
 ·
  refine TL.known 10 hb1 rfl ?_
  refine TL.gno 10 rfl rfl (lt_ok rfl) rfl rfl rfl (lt_ok rfl) ?_
  refine TL.gno 10 rfl rfl (lt_ok rfl) rfl rfl rfl (lt_ok rfl) ?_
  refine TL.gno 10 rfl rfl (lt_ok rfl) rfl rfl rfl (lt_ok rfl) ?_
  refine TL.cons rfl (Step.pick (b := false) (p := (.one (.d (.bool false)))) rfl rfl (lt_ok rfl) rfl rfl) ?_
  refine TL.cons rfl (Step.assign (p := (.one (.d (.bool false)))) rfl rfl (lt_ok rfl) rfl) ?_
  refine TL.nil ?_
  refine T.ret ?_
  exact ⟨[(false, [.d (.bool false)])], (.cons rfl .nil), rfl, [], (RetC.rd' (by first | (congr 1; simp_all; done) | (congr 1; simp_all; omega)) .nil)⟩
theorem ok_spec_l01Num (n : Int) : RO Try.prog 74 [.one (.int .i64 n)] [(false, [.rd (.bool (decide (0 ≤ n ∧ n ≤ 1152921504606846975)))])] := by
 refine RO.intro Try.func74 rfl 5 rfl (le_ok rfl) fun w Z => ?_
 refine T.seq ?_
 refine T.region ?_
 refine TL.cons rfl (Step.assign (p := (.one (.d (.bool false)))) rfl rfl (lt_ok rfl) rfl) ?_
 refine TL.nil ?_
 refine T.seq ?_
 refine T.region ?_
 refine TL.cons rfl (Step.move (p := (.one (.d (.int .i64 n)))) rfl rfl (lt_ok rfl) rfl) ?_
 refine TL.cons rfl (Step.call (f := 75) (xs := [.tmp 3, .const (.int .i64 0), .const (.int .i64 1152921504606846975)]) (ps := [(.one (.d (.int .i64 n))), (.one (.d (.int .i64 0))), (.one (.d (.int .i64 1152921504606846975)))]) false (g := .func 75) rfl rfl (lt_ok rfl) rfl (by kernel_rfl) rfl (.cons (.one (.d _)) (.cons (.one (.d _)) (.cons (.one (.d _)) .nil))) (ok_spec_l01In n 0 1152921504606846975) (.inr rfl) rfl (by simp) rfl) ?_
 refine TL.cons rfl (Step.assign (p := (.one (.d (.bool (decide (0 ≤ n ∧ n ≤ 1152921504606846975)))))) rfl rfl (lt_ok rfl) rfl) ?_
 refine TL.nil ?_
 refine T.ret ?_
 exact ⟨[(false, [.d (.bool (decide (0 ≤ n ∧ n ≤ 1152921504606846975)))])], (.cons rfl .nil), rfl, [], (RetC.rd' (by rfl) .nil)⟩
theorem ok_spec_Skipped (l : List SEvent) : RO Try.prog 68 [.one (.sl 47 (l.map SEvent.cells))] [(false, [.rd (.int .i64 (skipped l 0))])] := by
 refine RO.intro Try.func68 rfl 26 rfl (le_ok rfl) fun w Z => ?_
 refine T.bnd 0 0 rfl rfl fun hb_0_0 => ?_
 simp only [D.size, List.length_map] at hb_0_0
 refine T.seq ?_
 refine T.region ?_
 refine TL.cons rfl (Step.assign (p := (.one (.d (.int .i64 0)))) rfl rfl (lt_ok rfl) rfl) ?_
 refine TL.nil ?_
 refine T.seq ?_
 refine T.region ?_
 refine TL.cons rfl (Step.assign (p := (.one (.d (.int .i64 0)))) rfl rfl (lt_ok rfl) rfl) ?_
 refine TL.nil ?_
 refine T.seq ?_
 refine T.seq ?_
 refine T.region ?_
 refine TL.cons rfl (Step.move (p := (.one (.d (.sl 47 (l.map SEvent.cells))))) rfl rfl (lt_ok rfl) rfl) ?_
 refine TL.cons rfl (Step.len' (e := 152) (z := 47) (d := (.sl 47 (l.map SEvent.cells))) (n := l.length) rfl rfl (lt_ok rfl) (by kernel_rfl) rfl rfl (by simp [D.size])) ?_
 refine TL.cons rfl (Step.move (p := (.one (.d (.int .i64 0)))) rfl rfl (lt_ok rfl) rfl) ?_
 refine TL.nil ?_
 refine T.block ?_
 refine T.loop (ι := Nat × Int) (fun x => { tm := [(2, (.one (.d (.int .i64 0)))), (6, (.one (.d (.sl 47 (l.map SEvent.cells))))), (7, (.one (.d (.int .i64 (l.length : Int))))), (8, (.one (.d (.int .i64 ((x.1) : Int))))), (3, (.one (.d (.int .i64 (x.2)))))], rows := [], boxes := [] }) (fun x => (x.1) ≤ l.length ∧ skipped (l.drop (x.1)) (x.2) = skipped l 0) (fun x => l.length - (x.1)) (0, 0) ?_ ?_ ?_
 · exact Env.le_mk ⟨rfl, rfl, rfl, by first | rfl | (simp; done) | (congr 3; omega), by first | rfl | (simp; done) | (congr 3; omega), trivial⟩ trivial trivial
 · (refine ⟨Nat.zero_le _, by rw [List.drop_zero]⟩)
 ·
  intro x hx
  obtain ⟨i, n⟩ := x
  try dsimp only at hx ⊢
  obtain ⟨hx1, hx2⟩ := hx
  refine T.seq ?_
  refine T.region ?_
  refine TL.cons rfl (Step.bin rfl rfl (lt_ok rfl) rfl rfl (Bin.lss (k := .i64) (a := (i : Int)) (b := (l.length : Int)))) ?_
  refine TL.nil ?_
  refine T.seq ?_
  refine T.cond (b := decide ((i : Int) < (l.length : Int))) rfl (fun h1 => ?_) (fun h1 => ?_)
  ·
   replace h1 := of_decide_eq_true h1
   refine T.skip ?_
   refine T.seq ?_
   refine T.block ?_
   refine T.seq ?_
   refine T.region ?_
   refine TL.cons rfl (Step.index (e := 152) (z := 47) (i := (i : Int)) rfl rfl (lt_ok rfl) (by kernel_rfl) rfl rfl rfl (lt_ok rfl) rfl (by first | omega | (simp; omega)) (by simp only [D.size]; first | omega | (simp; omega))) ?_
   refine TL.cons rfl (Step.load_agg (n := 47) (cs := [.d (.int .i64 (l.getD i default).f0), .d (.int .i64 (l.getD i default).f1), .d (.int .i64 (l.getD i default).f2.f0), .d (.int .i64 (l.getD i default).f2.f1.f0), .d (.int .i64 (l.getD i default).f2.f1.f1), .d (.ints .u8 (l.getD i default).f2.f1.f2), .d (.int .i64 (l.getD i default).f2.f1.f3), .d (.ints .u8 (l.getD i default).f2.f1.f4), .d (.int .i64 (l.getD i default).f2.f2.f0), .d (.int .i64 (l.getD i default).f2.f2.f1), .d (.ints .u8 (l.getD i default).f2.f2.f2), .d (.ints .u8 (l.getD i default).f2.f2.f3), .d (.bss (l.getD i default).f2.f2.f4), .d (.int .i64 (l.getD i default).f2.f3.f0), .d (.int .i64 (l.getD i default).f2.f3.f1), .d (.int .i64 (l.getD i default).f2.f3.f2), .d (.ints .u8 (l.getD i default).f2.f3.f3), .d (.ints .u8 (l.getD i default).f2.f3.f4), .d (.int .i64 (l.getD i default).f2.f3.f5.f0), .d (.int .i64 (l.getD i default).f2.f3.f5.f1), .d (.ints .u8 (l.getD i default).f2.f3.f5.f2), .d (.ints .u8 (l.getD i default).f2.f3.f5.f3), .d (.bss (l.getD i default).f2.f3.f5.f4), .d (.int .i64 (l.getD i default).f2.f4.f0.f0), .d (.int .i64 (l.getD i default).f2.f4.f0.f1), .d (.int .i64 (l.getD i default).f2.f4.f0.f2), .d (.ints .u8 (l.getD i default).f2.f4.f0.f3), .d (.ints .u8 (l.getD i default).f2.f4.f0.f4), .d (.int .i64 (l.getD i default).f2.f4.f0.f5.f0), .d (.int .i64 (l.getD i default).f2.f4.f0.f5.f1), .d (.ints .u8 (l.getD i default).f2.f4.f0.f5.f2), .d (.ints .u8 (l.getD i default).f2.f4.f0.f5.f3), .d (.bss (l.getD i default).f2.f4.f0.f5.f4), .d (.bss (l.getD i default).f2.f4.f1), .d (.int .i64 (l.getD i default).f2.f5.f0), .d (.sl 3 ((l.getD i default).f2.f5.f1.map SEntry.cells)), .d (.sl 10 ((l.getD i default).f2.f6.f0.map SHead.cells)), .d (.int .i64 (l.getD i default).f2.f6.f1.f0), .d (.int .i64 (l.getD i default).f2.f6.f1.f1), .d (.ints .u8 (l.getD i default).f2.f6.f1.f2), .d (.ints .u8 (l.getD i default).f2.f6.f1.f3), .d (.bss (l.getD i default).f2.f6.f1.f4), .d (.int .i64 (l.getD i default).f2.f7.f0), .d (.int .i64 (l.getD i default).f2.f7.f1), .d (.int .i64 (l.getD i default).f2.f7.f2), .d (.ints .u8 (l.getD i default).f2.f7.f3), .d (.bss (l.getD i default).f2.f7.f4)]) rfl rfl (lt_ok rfl) (by kernel_rfl) rfl rfl (by simp only [List.range, List.range.loop, List.map_cons, List.map_nil]; rw [cell_map default (by first | omega | (simp; omega)), cell_map default (by first | omega | (simp; omega)), cell_map default (by first | omega | (simp; omega)), cell_map default (by first | omega | (simp; omega)), cell_map default (by first | omega | (simp; omega)), cell_map default (by first | omega | (simp; omega)), cell_map default (by first | omega | (simp; omega)), cell_map default (by first | omega | (simp; omega)), cell_map default (by first | omega | (simp; omega)), cell_map default (by first | omega | (simp; omega)), cell_map default (by first | omega | (simp; omega)), cell_map default (by first | omega | (simp; omega)), cell_map default (by first | omega | (simp; omega)), cell_map default (by first | omega | (simp; omega)), cell_map default (by first | omega | (simp; omega)), cell_map default (by first | omega | (simp; omega)), cell_map default (by first | omega | (simp; omega)), cell_map default (by first | omega | (simp; omega)), cell_map default (by first | omega | (simp; omega)), cell_map default (by first | omega | (simp; omega)), cell_map default (by first | omega | (simp; omega)), cell_map default (by first | omega | (simp; omega)), cell_map default (by first | omega | (simp; omega)), cell_map default (by first | omega | (simp; omega)), cell_map default (by first | omega | (simp; omega)), cell_map default (by first | omega | (simp; omega)), cell_map default (by first | omega | (simp; omega)), cell_map default (by first | omega | (simp; omega)), cell_map default (by first | omega | (simp; omega)), cell_map default (by first | omega | (simp; omega)), cell_map default (by first | omega | (simp; omega)), cell_map default (by first | omega | (simp; omega)), cell_map default (by first | omega | (simp; omega)), cell_map default (by first | omega | (simp; omega)), cell_map default (by first | omega | (simp; omega)), cell_map default (by first | omega | (simp; omega)), cell_map default (by first | omega | (simp; omega)), cell_map default (by first | omega | (simp; omega)), cell_map default (by first | omega | (simp; omega)), cell_map default (by first | omega | (simp; omega)), cell_map default (by first | omega | (simp; omega)), cell_map default (by first | omega | (simp; omega)), cell_map default (by first | omega | (simp; omega)), cell_map default (by first | omega | (simp; omega)), cell_map default (by first | omega | (simp; omega)), cell_map default (by first | omega | (simp; omega)), cell_map default (by first | omega | (simp; omega))]; rfl)) ?_
   refine TL.cons rfl (Step.alloc (cs := [.int .i64 0, .int .i64 0, .int .i64 0, .int .i64 0, .int .i64 0, .slice none 0 0, .int .i64 0, .slice none 0 0, .int .i64 0, .int .i64 0, .slice none 0 0, .slice none 0 0, .slice none 0 0, .int .i64 0, .int .i64 0, .int .i64 0, .slice none 0 0, .slice none 0 0, .int .i64 0, .int .i64 0, .slice none 0 0, .slice none 0 0, .slice none 0 0, .int .i64 0, .int .i64 0, .int .i64 0, .slice none 0 0, .slice none 0 0, .int .i64 0, .int .i64 0, .slice none 0 0, .slice none 0 0, .slice none 0 0, .slice none 0 0, .int .i64 0, .slice none 0 0, .slice none 0 0, .int .i64 0, .int .i64 0, .slice none 0 0, .slice none 0 0, .slice none 0 0, .int .i64 0, .int .i64 0, .int .i64 0, .slice none 0 0, .slice none 0 0]) (ps := [.d (.int .i64 0), .d (.int .i64 0), .d (.int .i64 0), .d (.int .i64 0), .d (.int .i64 0), .nil, .d (.int .i64 0), .nil, .d (.int .i64 0), .d (.int .i64 0), .nil, .nil, .nil, .d (.int .i64 0), .d (.int .i64 0), .d (.int .i64 0), .nil, .nil, .d (.int .i64 0), .d (.int .i64 0), .nil, .nil, .nil, .d (.int .i64 0), .d (.int .i64 0), .d (.int .i64 0), .nil, .nil, .d (.int .i64 0), .d (.int .i64 0), .nil, .nil, .nil, .nil, .d (.int .i64 0), .nil, .nil, .d (.int .i64 0), .d (.int .i64 0), .nil, .nil, .nil, .d (.int .i64 0), .d (.int .i64 0), .d (.int .i64 0), .nil, .nil]) rfl rfl (lt_ok rfl) (by kernel_rfl) rfl rfl rfl rfl) ?_
   refine TL.cons rfl (Step.store_box (n := 47) (p := (.agg [.d (.int .i64 (l.getD i default).f0), .d (.int .i64 (l.getD i default).f1), .d (.int .i64 (l.getD i default).f2.f0), .d (.int .i64 (l.getD i default).f2.f1.f0), .d (.int .i64 (l.getD i default).f2.f1.f1), .d (.ints .u8 (l.getD i default).f2.f1.f2), .d (.int .i64 (l.getD i default).f2.f1.f3), .d (.ints .u8 (l.getD i default).f2.f1.f4), .d (.int .i64 (l.getD i default).f2.f2.f0), .d (.int .i64 (l.getD i default).f2.f2.f1), .d (.ints .u8 (l.getD i default).f2.f2.f2), .d (.ints .u8 (l.getD i default).f2.f2.f3), .d (.bss (l.getD i default).f2.f2.f4), .d (.int .i64 (l.getD i default).f2.f3.f0), .d (.int .i64 (l.getD i default).f2.f3.f1), .d (.int .i64 (l.getD i default).f2.f3.f2), .d (.ints .u8 (l.getD i default).f2.f3.f3), .d (.ints .u8 (l.getD i default).f2.f3.f4), .d (.int .i64 (l.getD i default).f2.f3.f5.f0), .d (.int .i64 (l.getD i default).f2.f3.f5.f1), .d (.ints .u8 (l.getD i default).f2.f3.f5.f2), .d (.ints .u8 (l.getD i default).f2.f3.f5.f3), .d (.bss (l.getD i default).f2.f3.f5.f4), .d (.int .i64 (l.getD i default).f2.f4.f0.f0), .d (.int .i64 (l.getD i default).f2.f4.f0.f1), .d (.int .i64 (l.getD i default).f2.f4.f0.f2), .d (.ints .u8 (l.getD i default).f2.f4.f0.f3), .d (.ints .u8 (l.getD i default).f2.f4.f0.f4), .d (.int .i64 (l.getD i default).f2.f4.f0.f5.f0), .d (.int .i64 (l.getD i default).f2.f4.f0.f5.f1), .d (.ints .u8 (l.getD i default).f2.f4.f0.f5.f2), .d (.ints .u8 (l.getD i default).f2.f4.f0.f5.f3), .d (.bss (l.getD i default).f2.f4.f0.f5.f4), .d (.bss (l.getD i default).f2.f4.f1), .d (.int .i64 (l.getD i default).f2.f5.f0), .d (.sl 3 ((l.getD i default).f2.f5.f1.map SEntry.cells)), .d (.sl 10 ((l.getD i default).f2.f6.f0.map SHead.cells)), .d (.int .i64 (l.getD i default).f2.f6.f1.f0), .d (.int .i64 (l.getD i default).f2.f6.f1.f1), .d (.ints .u8 (l.getD i default).f2.f6.f1.f2), .d (.ints .u8 (l.getD i default).f2.f6.f1.f3), .d (.bss (l.getD i default).f2.f6.f1.f4), .d (.int .i64 (l.getD i default).f2.f7.f0), .d (.int .i64 (l.getD i default).f2.f7.f1), .d (.int .i64 (l.getD i default).f2.f7.f2), .d (.ints .u8 (l.getD i default).f2.f7.f3), .d (.bss (l.getD i default).f2.f7.f4)])) (qs := [.d (.int .i64 (l.getD i default).f0), .d (.int .i64 (l.getD i default).f1), .d (.int .i64 (l.getD i default).f2.f0), .d (.int .i64 (l.getD i default).f2.f1.f0), .d (.int .i64 (l.getD i default).f2.f1.f1), .d (.ints .u8 (l.getD i default).f2.f1.f2), .d (.int .i64 (l.getD i default).f2.f1.f3), .d (.ints .u8 (l.getD i default).f2.f1.f4), .d (.int .i64 (l.getD i default).f2.f2.f0), .d (.int .i64 (l.getD i default).f2.f2.f1), .d (.ints .u8 (l.getD i default).f2.f2.f2), .d (.ints .u8 (l.getD i default).f2.f2.f3), .d (.bss (l.getD i default).f2.f2.f4), .d (.int .i64 (l.getD i default).f2.f3.f0), .d (.int .i64 (l.getD i default).f2.f3.f1), .d (.int .i64 (l.getD i default).f2.f3.f2), .d (.ints .u8 (l.getD i default).f2.f3.f3), .d (.ints .u8 (l.getD i default).f2.f3.f4), .d (.int .i64 (l.getD i default).f2.f3.f5.f0), .d (.int .i64 (l.getD i default).f2.f3.f5.f1), .d (.ints .u8 (l.getD i default).f2.f3.f5.f2), .d (.ints .u8 (l.getD i default).f2.f3.f5.f3), .d (.bss (l.getD i default).f2.f3.f5.f4), .d (.int .i64 (l.getD i default).f2.f4.f0.f0), .d (.int .i64 (l.getD i default).f2.f4.f0.f1), .d (.int .i64 (l.getD i default).f2.f4.f0.f2), .d (.ints .u8 (l.getD i default).f2.f4.f0.f3), .d (.ints .u8 (l.getD i default).f2.f4.f0.f4), .d (.int .i64 (l.getD i default).f2.f4.f0.f5.f0), .d (.int .i64 (l.getD i default).f2.f4.f0.f5.f1), .d (.ints .u8 (l.getD i default).f2.f4.f0.f5.f2), .d (.ints .u8 (l.getD i default).f2.f4.f0.f5.f3), .d (.bss (l.getD i default).f2.f4.f0.f5.f4), .d (.bss (l.getD i default).f2.f4.f1), .d (.int .i64 (l.getD i default).f2.f5.f0), .d (.sl 3 ((l.getD i default).f2.f5.f1.map SEntry.cells)), .d (.sl 10 ((l.getD i default).f2.f6.f0.map SHead.cells)), .d (.int .i64 (l.getD i default).f2.f6.f1.f0), .d (.int .i64 (l.getD i default).f2.f6.f1.f1), .d (.ints .u8 (l.getD i default).f2.f6.f1.f2), .d (.ints .u8 (l.getD i default).f2.f6.f1.f3), .d (.bss (l.getD i default).f2.f6.f1.f4), .d (.int .i64 (l.getD i default).f2.f7.f0), .d (.int .i64 (l.getD i default).f2.f7.f1), .d (.int .i64 (l.getD i default).f2.f7.f2), .d (.ints .u8 (l.getD i default).f2.f7.f3), .d (.bss (l.getD i default).f2.f7.f4)]) (ps' := [.d (.int .i64 (l.getD i default).f0), .d (.int .i64 (l.getD i default).f1), .d (.int .i64 (l.getD i default).f2.f0), .d (.int .i64 (l.getD i default).f2.f1.f0), .d (.int .i64 (l.getD i default).f2.f1.f1), .d (.ints .u8 (l.getD i default).f2.f1.f2), .d (.int .i64 (l.getD i default).f2.f1.f3), .d (.ints .u8 (l.getD i default).f2.f1.f4), .d (.int .i64 (l.getD i default).f2.f2.f0), .d (.int .i64 (l.getD i default).f2.f2.f1), .d (.ints .u8 (l.getD i default).f2.f2.f2), .d (.ints .u8 (l.getD i default).f2.f2.f3), .d (.bss (l.getD i default).f2.f2.f4), .d (.int .i64 (l.getD i default).f2.f3.f0), .d (.int .i64 (l.getD i default).f2.f3.f1), .d (.int .i64 (l.getD i default).f2.f3.f2), .d (.ints .u8 (l.getD i default).f2.f3.f3), .d (.ints .u8 (l.getD i default).f2.f3.f4), .d (.int .i64 (l.getD i default).f2.f3.f5.f0), .d (.int .i64 (l.getD i default).f2.f3.f5.f1), .d (.ints .u8 (l.getD i default).f2.f3.f5.f2), .d (.ints .u8 (l.getD i default).f2.f3.f5.f3), .d (.bss (l.getD i default).f2.f3.f5.f4), .d (.int .i64 (l.getD i default).f2.f4.f0.f0), .d (.int .i64 (l.getD i default).f2.f4.f0.f1), .d (.int .i64 (l.getD i default).f2.f4.f0.f2), .d (.ints .u8 (l.getD i default).f2.f4.f0.f3), .d (.ints .u8 (l.getD i default).f2.f4.f0.f4), .d (.int .i64 (l.getD i default).f2.f4.f0.f5.f0), .d (.int .i64 (l.getD i default).f2.f4.f0.f5.f1), .d (.ints .u8 (l.getD i default).f2.f4.f0.f5.f2), .d (.ints .u8 (l.getD i default).f2.f4.f0.f5.f3), .d (.bss (l.getD i default).f2.f4.f0.f5.f4), .d (.bss (l.getD i default).f2.f4.f1), .d (.int .i64 (l.getD i default).f2.f5.f0), .d (.sl 3 ((l.getD i default).f2.f5.f1.map SEntry.cells)), .d (.sl 10 ((l.getD i default).f2.f6.f0.map SHead.cells)), .d (.int .i64 (l.getD i default).f2.f6.f1.f0), .d (.int .i64 (l.getD i default).f2.f6.f1.f1), .d (.ints .u8 (l.getD i default).f2.f6.f1.f2), .d (.ints .u8 (l.getD i default).f2.f6.f1.f3), .d (.bss (l.getD i default).f2.f6.f1.f4), .d (.int .i64 (l.getD i default).f2.f7.f0), .d (.int .i64 (l.getD i default).f2.f7.f1), .d (.int .i64 (l.getD i default).f2.f7.f2), .d (.ints .u8 (l.getD i default).f2.f7.f3), .d (.bss (l.getD i default).f2.f7.f4)]) rfl rfl (by kernel_rfl) rfl rfl rfl rfl rfl rfl (le_ok rfl) rfl) ?_
   refine TL.nil ?_
   refine T.seq ?_
   refine T.region ?_
   refine TL.cons rfl (Step.fieldAddr (q := 0) (off := 0) (n := 1) (one := true) rfl rfl (lt_ok rfl) (by kernel_rfl) (Nat.succ_ne_zero _) rfl) ?_
   refine TL.cons rfl (Step.load_box (c := .d (.int .i64 (l.getD i default).f0)) rfl rfl (lt_ok rfl) (by kernel_rfl) rfl rfl rfl) ?_
   refine TL.cons rfl (Step.bin rfl rfl (lt_ok rfl) rfl rfl (Bin.eql (k := .i64) (a := (l.getD i default).f0) (b := 1))) ?_
   refine TL.cons rfl (Step.move (p := (.one (.d (.bool (decide ((l.getD i default).f0 = 1)))))) rfl rfl (lt_ok rfl) rfl) ?_
   rcases Bool.eq_false_or_eq_true (decide ((l.getD i default).f0 = 1)) with hb2 | hb2
   ·
    refine TL.known 15 hb2 rfl ?_
    refine TL.gyes 15 rfl rfl (lt_ok rfl) rfl (Step.fieldAddr (q := 0) (off := 1) (n := 1) (one := true) rfl rfl (lt_ok rfl) (by kernel_rfl) (Nat.succ_ne_zero _) rfl) ?_
    refine TL.gyes 15 rfl rfl (lt_ok rfl) rfl (Step.load_box (c := .d (.int .i64 (l.getD i default).f1)) rfl rfl (lt_ok rfl) (by kernel_rfl) rfl rfl rfl) ?_
    refine TL.gyes 15 rfl rfl (lt_ok rfl) rfl (Step.call (f := 74) (xs := [.tmp 17]) (ps := [(.one (.d (.int .i64 (l.getD i default).f1)))]) false (g := .func 74) rfl rfl (lt_ok rfl) rfl (by kernel_rfl) rfl (.cons (.one (.d _)) .nil) (ok_spec_l01Num (l.getD i default).f1) (.inr rfl) rfl (by simp) rfl) ?_
    refine TL.cons rfl (Step.pick (b := true) (p := (.one (.d (.bool (decide (0 ≤ (l.getD i default).f1 ∧ (l.getD i default).f1 ≤ 1152921504606846975)))))) rfl rfl (lt_ok rfl) rfl rfl) ?_
    refine TL.nil ?_
    refine T.cond (b := decide (0 ≤ (l.getD i default).f1 ∧ (l.getD i default).f1 ≤ 1152921504606846975)) rfl (fun h3 => ?_) (fun h3 => ?_)
    ·
     replace h3 := of_decide_eq_true h3
     refine T.region ?_
     refine TL.cons rfl (Step.move (p := (.one (.d (.int .i64 n)))) rfl rfl (lt_ok rfl) rfl) ?_
     refine TL.cons rfl (Step.fieldAddr (q := 0) (off := 1) (n := 1) (one := true) rfl rfl (lt_ok rfl) (by kernel_rfl) (Nat.succ_ne_zero _) rfl) ?_
     refine TL.cons rfl (Step.load_box (c := .d (.int .i64 (l.getD i default).f1)) rfl rfl (lt_ok rfl) (by kernel_rfl) rfl rfl rfl) ?_
     refine TL.cons rfl (Step.bin (r := .int .i64 (IntKind.i64.wrap (n + (l.getD i default).f1))) rfl rfl (lt_ok rfl) rfl rfl (Bin.add (a := n) (b := (l.getD i default).f1) (rfl))) ?_
     refine TL.cons rfl (Step.assign (p := (.one (.d (.int .i64 (IntKind.i64.wrap (n + (l.getD i default).f1)))))) rfl rfl (lt_ok rfl) rfl) ?_
     refine TL.nil ?_
     refine T.weaken (E' := { tm := [(2, (.one (.d (.int .i64 0)))), (6, (.one (.d (.sl 47 (l.map SEvent.cells))))), (7, (.one (.d (.int .i64 (l.length : Int))))), (8, (.one (.d (.int .i64 (i : Int))))), (3, (.one (.d (.int .i64 (IntKind.i64.wrap (n + (l.getD i default).f1))))))], rows := [], boxes := [] }) (Env.le_mk ⟨by kernel_rfl, by kernel_rfl, by kernel_rfl, by kernel_rfl, by kernel_rfl, trivial⟩ trivial trivial) ?_
     refine T.region ?_
     refine TL.cons rfl (Step.bin (r := .int .i64 ((i : Int) + 1)) rfl rfl (lt_ok rfl) rfl rfl (Bin.add (a := (i : Int)) (b := 1) (by first | exact wrap_ok (by first | omega | (simp; omega)) (by first | omega | (simp; omega)) | rfl))) ?_
     refine TL.cons rfl (Step.move (p := (.one (.d (.int .i64 ((i : Int) + 1))))) rfl rfl (lt_ok rfl) rfl) ?_
     refine TL.nil ?_
     exact ⟨(i + 1, (IntKind.i64.wrap (n + (l.getD i default).f1))), by (refine ⟨by omega, ?_⟩; dsimp only; rw [← hx2, skipped_drop l i n (by omega)]; try simp only [decide_eq_true_eq, decide_eq_false_iff_not] at *; split <;> first | rfl | (exfalso; omega)), by (dsimp only; omega), Env.le_mk ⟨rfl, rfl, rfl, by first | rfl | (simp; done) | (congr 3; omega), by first | rfl | (simp; done) | (congr 3; omega), trivial⟩ trivial trivial⟩
    ·
     replace h3 := of_decide_eq_false h3
     refine T.skip ?_
     refine T.region ?_
     refine TL.cons rfl (Step.bin (r := .int .i64 ((i : Int) + 1)) rfl rfl (lt_ok rfl) rfl rfl (Bin.add (a := (i : Int)) (b := 1) (by first | exact wrap_ok (by first | omega | (simp; omega)) (by first | omega | (simp; omega)) | rfl))) ?_
     refine TL.cons rfl (Step.move (p := (.one (.d (.int .i64 ((i : Int) + 1))))) rfl rfl (lt_ok rfl) rfl) ?_
     refine TL.nil ?_
     exact ⟨(i + 1, n), by (refine ⟨by omega, ?_⟩; dsimp only; rw [← hx2, skipped_drop l i n (by omega)]; try simp only [decide_eq_true_eq, decide_eq_false_iff_not] at *; split <;> first | rfl | (exfalso; omega)), by (dsimp only; omega), Env.le_mk ⟨rfl, rfl, rfl, by first | rfl | (simp; done) | (congr 3; omega), rfl, trivial⟩ trivial trivial⟩
   ·
    refine TL.known 15 hb2 rfl ?_
    refine TL.gno 15 rfl rfl (lt_ok rfl) rfl rfl rfl (lt_ok rfl) ?_
    refine TL.gno 15 rfl rfl (lt_ok rfl) rfl rfl rfl (lt_ok rfl) ?_
    refine TL.gno 15 rfl rfl (lt_ok rfl) rfl rfl rfl (lt_ok rfl) ?_
    refine TL.cons rfl (Step.pick (b := false) (p := (.one (.d (.bool false)))) rfl rfl (lt_ok rfl) rfl rfl) ?_
    refine TL.nil ?_
    refine T.cond (b := false) rfl (fun h4_ => absurd h4_ (by simp)) (fun h4_ => ?_)
    refine T.skip ?_
    refine T.region ?_
    refine TL.cons rfl (Step.bin (r := .int .i64 ((i : Int) + 1)) rfl rfl (lt_ok rfl) rfl rfl (Bin.add (a := (i : Int)) (b := 1) (by first | exact wrap_ok (by first | omega | (simp; omega)) (by first | omega | (simp; omega)) | rfl))) ?_
    refine TL.cons rfl (Step.move (p := (.one (.d (.int .i64 ((i : Int) + 1))))) rfl rfl (lt_ok rfl) rfl) ?_
    refine TL.nil ?_
    exact ⟨(i + 1, n), by (refine ⟨by omega, ?_⟩; dsimp only; rw [← hx2, skipped_drop l i n (by omega)]; try simp only [decide_eq_true_eq, decide_eq_false_iff_not] at *; split <;> first | rfl | (exfalso; omega)), by (dsimp only; omega), Env.le_mk ⟨rfl, rfl, rfl, by first | rfl | (simp; done) | (congr 3; omega), rfl, trivial⟩ trivial trivial⟩
  ·
   replace h1 := of_decide_eq_false h1
   refine T.exit ?_
   refine T.seq ?_
   refine T.region ?_
   refine TL.cons rfl (Step.move (p := (.one (.d (.int .i64 n)))) rfl rfl (lt_ok rfl) rfl) ?_
   refine TL.cons rfl (Step.assign (p := (.one (.d (.int .i64 n)))) rfl rfl (lt_ok rfl) rfl) ?_
   refine TL.nil ?_
   refine T.ret ?_
   exact ⟨[(false, [.d (.int .i64 n)])], (.cons rfl .nil), rfl, [], (RetC.rd' (by (congr 1; rw [← hx2, List.drop_of_length_le (by omega)]; rfl)) .nil)⟩
theorem ok_laws_toByteS (a : List Int) (h0_ : a.length ≤ 1048576) : RO Try.prog 87 [.one (.ints .u8 a)] [(false, [.own 5 (.ints .u8 a)])] := by
 refine RO.intro Try.func87 rfl 22 rfl (le_ok rfl) fun w Z => ?_
 refine T.bnd 0 0 rfl rfl fun hb_0_0 => ?_
 simp only [D.size, List.length_map] at hb_0_0
 have h0b := h0_
 refine T.seq ?_
 refine T.region ?_
 refine TL.cons rfl (Step.assign (p := (.one (.nil))) rfl rfl (lt_ok rfl) rfl) ?_
 refine TL.nil ?_
 refine T.seq ?_
 refine T.region ?_
 refine TL.cons rfl (Step.move (p := (.one (.d (.ints .u8 a)))) rfl rfl (lt_ok rfl) rfl) ?_
 refine TL.cons rfl (Step.len (e := 5) (z := 1) (d := (.ints .u8 a)) rfl rfl (lt_ok rfl) (by kernel_rfl) rfl rfl) ?_
 refine TL.cons rfl (Step.make (e := 5) (z := 1) (by_ := 1) (n := (a.length : Int)) (zs := [.int .u8 0]) (zd := [.int .u8 0]) (d := (.ints .u8 (List.replicate a.length 0))) rfl rfl (lt_ok rfl) (by kernel_rfl) (lt_ok rfl) rfl (by first | omega | (simp; omega)) (by first | omega | (simp; omega)) (by first | omega | (simp; omega)) (by kernel_rfl) (.val rfl .nil) rfl (by simp) (by simp [D.flat, List.flatten_replicate_singleton]) (by simp [D.size]) rfl trivial) ?_
 refine TL.cons rfl (Step.assign (p := (.one (.row 7 []))) rfl rfl (lt_ok rfl) rfl) ?_
 refine TL.nil ?_
 refine T.seq ?_
 refine T.seq ?_
 refine T.region ?_
 refine TL.cons rfl (Step.assign (p := (.one (.d (.int .i64 0)))) rfl rfl (lt_ok rfl) rfl) ?_
 refine TL.nil ?_
 refine T.block ?_
 refine T.loop (ι := Nat) (fun x => { tm := [(0, (.one (.d (.ints .u8 a)))), (2, (.one (.nil))), (3, (.one (.row 7 []))), (4, (.one (.d (.int .i64 (x : Int)))))], rows := [(7, (5, (.ints .u8 (a.take x ++ List.replicate (a.length - x) 0 : List Int))))], boxes := [] }) (fun x => x ≤ a.length) (fun x => a.length - x) 0 ?_ ?_ ?_
 · exact Env.le_mk ⟨rfl, rfl, rfl, by first | rfl | exact congrArg (fun x => some (5, ((.ints .u8 x) : D))) (fill_set a 0 0 i (by omega)), trivial⟩ ⟨by first | rfl | exact congrArg (fun x => some (5, ((.ints .u8 x) : D))) (fill_set a 0 0 i (by omega)), trivial⟩ trivial
 · exact Nat.zero_le _
 ·
  intro i hx
  try dsimp only at hx ⊢
  refine T.seq ?_
  refine T.seq ?_
  refine T.region ?_
  refine TL.cons rfl (Step.move (p := (.one (.d (.int .i64 (i : Int))))) rfl rfl (lt_ok rfl) rfl) ?_
  refine TL.cons rfl (Step.move (p := (.one (.d (.ints .u8 a)))) rfl rfl (lt_ok rfl) rfl) ?_
  refine TL.cons rfl (Step.len (e := 5) (z := 1) (d := (.ints .u8 a)) rfl rfl (lt_ok rfl) (by kernel_rfl) rfl rfl) ?_
  refine TL.cons rfl (Step.bin rfl rfl (lt_ok rfl) rfl rfl (Bin.lss (k := .i64) (a := (i : Int)) (b := (a.length : Int)))) ?_
  refine TL.nil ?_
  refine T.cond (b := decide ((i : Int) < (a.length : Int))) rfl (fun h1 => ?_) (fun h1 => ?_)
  ·
   replace h1 := of_decide_eq_true h1
   refine T.skip ?_
   refine T.seq ?_
   refine T.block ?_
   refine T.region ?_
   refine TL.cons rfl (Step.move (p := (.one (.row 7 []))) rfl rfl (lt_ok rfl) rfl) ?_
   refine TL.cons rfl (Step.move (p := (.one (.d (.int .i64 (i : Int))))) rfl rfl (lt_ok rfl) rfl) ?_
   refine TL.cons rfl (Step.move (p := (.one (.d (.ints .u8 a)))) rfl rfl (lt_ok rfl) rfl) ?_
   refine TL.cons rfl (Step.move (p := (.one (.d (.int .i64 (i : Int))))) rfl rfl (lt_ok rfl) rfl) ?_
   refine TL.cons rfl (Step.index (e := 5) (z := 1) (i := (i : Int)) rfl rfl (lt_ok rfl) (by kernel_rfl) rfl rfl rfl (lt_ok rfl) rfl (by first | omega | (simp; omega)) (by simp only [D.size]; first | omega | (simp; omega))) ?_
   refine TL.cons rfl (Step.load (e := (.int .u8 (a.getD i 0))) rfl rfl (lt_ok rfl) (by kernel_rfl) rfl rfl) ?_
   refine TL.cons rfl (Step.index_row (e := 5) (z := 1) (i := (i : Int)) rfl rfl (lt_ok rfl) (by kernel_rfl) rfl rfl rfl rfl (lt_ok rfl) rfl (by first | omega | (simp; omega)) (by simp only [D.at_, D.cell, D.size]; first | omega | (simp; omega))) ?_
   refine TL.cons rfl (Step.store_row (n := 1) (p := (.one (.d (.int .u8 (a.getD i 0))))) (ps := [.d (.int .u8 (a.getD i 0))]) (es := [(.int .u8 (a.getD i 0))]) (ss := []) (d1 := (.ints .u8 ((a.take i ++ List.replicate (a.length - i) 0 : List Int).set i (a.getD i 0)))) (d' := (.ints .u8 ((a.take i ++ List.replicate (a.length - i) 0 : List Int).set i (a.getD i 0)))) rfl rfl (by kernel_rfl) rfl rfl rfl rfl rfl rfl (.val rfl .nil) (by simp) (Putd.one rfl trivial rfl (by simp only [D.at_, D.size]; first | omega | (simp; omega)) (lt_ok rfl)) rfl) ?_
   refine TL.nil ?_
   refine T.region ?_
   refine TL.cons rfl (Step.move (p := (.one (.d (.int .i64 (i : Int))))) rfl rfl (lt_ok rfl) rfl) ?_
   refine TL.cons rfl (Step.bin (r := .int .i64 ((i : Int) + 1)) rfl rfl (lt_ok rfl) rfl rfl (Bin.add (a := (i : Int)) (b := 1) (by first | exact wrap_ok (by first | omega | (simp; omega)) (by first | omega | (simp; omega)) | rfl))) ?_
   refine TL.cons rfl (Step.assign (p := (.one (.d (.int .i64 ((i : Int) + 1))))) rfl rfl (lt_ok rfl) rfl) ?_
   refine TL.nil ?_
   exact ⟨i + 1, by omega, by omega, Env.le_mk ⟨rfl, rfl, rfl, by first | rfl | exact congrArg (fun x => some (5, ((.ints .u8 x) : D))) (fill_set a 0 0 i (by omega)), trivial⟩ ⟨by first | rfl | exact congrArg (fun x => some (5, ((.ints .u8 x) : D))) (fill_set a 0 0 i (by omega)), trivial⟩ trivial⟩
  ·
   replace h1 := of_decide_eq_false h1
   refine T.exit ?_
   refine T.seq ?_
   refine T.region ?_
   refine TL.cons rfl (Step.move (p := (.one (.row 7 []))) rfl rfl (lt_ok rfl) rfl) ?_
   refine TL.cons rfl (Step.assign (p := (.one (.row 7 []))) rfl rfl (lt_ok rfl) rfl) ?_
   refine TL.nil ?_
   refine T.ret ?_
   exact ⟨[(false, [.row 7 []])], (.cons rfl .nil), rfl, [7], (RetC.own' rfl (by first | rfl | (congr 1; rw [fill_all' _ _ _ (by omega)]) | (rw [fill_all' _ _ _ (by omega)])) rfl .nil)⟩
theorem ok_laws_toEntry (a : SEntry) (h0_ : a.sm) : RO Try.prog 129 [.agg a.cells] [(true, [.rd (.int .i64 a.f0), .rd (.int .i64 a.f1), .own 5 (.ints .u8 a.f2)])] := by
 refine RO.intro Try.func129 rfl 15 rfl (le_ok rfl) fun w Z => ?_
 have s0 : a.f2.length ≤ 1048576 := h0_
 refine T.seq ?_
 refine T.region ?_
 refine TL.cons rfl (Step.box (p := (.agg [.d (.int .i64 a.f0), .d (.int .i64 a.f1), .d (.ints .u8 a.f2)])) (ps := [.d (.int .i64 a.f0), .d (.int .i64 a.f1), .d (.ints .u8 a.f2)]) rfl rfl (lt_ok rfl) rfl rfl rfl rfl rfl) ?_
 refine TL.cons rfl (Step.alloc (cs := [.int .i64 0, .int .i64 0, .slice none 0 0]) (ps := [.d (.int .i64 0), .d (.int .i64 0), .nil]) rfl rfl (lt_ok rfl) (by kernel_rfl) rfl rfl rfl rfl) ?_
 refine TL.nil ?_
 refine T.seq ?_
 refine T.region ?_
 refine TL.cons rfl (Step.alloc (cs := [.int .i64 0, .int .i64 0, .slice none 0 0]) (ps := [.d (.int .i64 0), .d (.int .i64 0), .nil]) rfl rfl (lt_ok rfl) (by kernel_rfl) rfl rfl rfl rfl) ?_
 refine TL.nil ?_
 refine T.seq ?_
 refine T.region ?_
 refine TL.cons rfl (Step.fieldAddr (q := 0) (off := 0) (n := 1) (one := true) rfl rfl (lt_ok rfl) (by kernel_rfl) (Nat.succ_ne_zero _) rfl) ?_
 refine TL.cons rfl (Step.load_box (c := .d (.int .i64 a.f0)) rfl rfl (lt_ok rfl) (by kernel_rfl) rfl rfl rfl) ?_
 refine TL.cons rfl (Step.fieldAddr (q := 0) (off := 0) (n := 1) (one := true) rfl rfl (lt_ok rfl) (by kernel_rfl) (Nat.succ_ne_zero _) rfl) ?_
 refine TL.cons rfl (Step.store_box (n := 1) (p := (.one (.d (.int .i64 a.f0)))) (qs := [.d (.int .i64 a.f0)]) (ps' := [.d (.int .i64 a.f0), .d (.int .i64 0), .nil]) rfl rfl (by kernel_rfl) rfl rfl rfl rfl rfl rfl (le_ok rfl) rfl) ?_
 refine TL.nil ?_
 refine T.seq ?_
 refine T.region ?_
 refine TL.cons rfl (Step.fieldAddr (q := 0) (off := 1) (n := 1) (one := true) rfl rfl (lt_ok rfl) (by kernel_rfl) (Nat.succ_ne_zero _) rfl) ?_
 refine TL.cons rfl (Step.load_box (c := .d (.int .i64 a.f1)) rfl rfl (lt_ok rfl) (by kernel_rfl) rfl rfl rfl) ?_
 refine TL.cons rfl (Step.fieldAddr (q := 0) (off := 1) (n := 1) (one := true) rfl rfl (lt_ok rfl) (by kernel_rfl) (Nat.succ_ne_zero _) rfl) ?_
 refine TL.cons rfl (Step.store_box (n := 1) (p := (.one (.d (.int .i64 a.f1)))) (qs := [.d (.int .i64 a.f1)]) (ps' := [.d (.int .i64 a.f0), .d (.int .i64 a.f1), .nil]) rfl rfl (by kernel_rfl) rfl rfl rfl rfl rfl rfl (le_ok rfl) rfl) ?_
 refine TL.nil ?_
 refine T.seq ?_
 refine T.region ?_
 refine TL.cons rfl (Step.fieldAddr (q := 0) (off := 2) (n := 1) (one := true) rfl rfl (lt_ok rfl) (by kernel_rfl) (Nat.succ_ne_zero _) rfl) ?_
 refine TL.cons rfl (Step.load_box (c := .d (.ints .u8 a.f2)) rfl rfl (lt_ok rfl) (by kernel_rfl) rfl rfl rfl) ?_
 refine TL.cons rfl (Step.call (f := 87) (xs := [.tmp 11]) (ps := [(.one (.d (.ints .u8 a.f2)))]) false (g := .func 87) rfl rfl (lt_ok rfl) rfl (by kernel_rfl) rfl (.cons (.one (.d _)) .nil) (ok_laws_toByteS a.f2 (by first | assumption | exact ⟨‹_›, ‹_›⟩ | exact mem_getD h0_.2 (by omega))) (.inr rfl) rfl (by simp) rfl) ?_
 refine TL.cons rfl (Step.fieldAddr (q := 0) (off := 2) (n := 1) (one := true) rfl rfl (lt_ok rfl) (by kernel_rfl) (Nat.succ_ne_zero _) rfl) ?_
 refine TL.cons rfl (Step.store_box (n := 1) (p := (.one (.row 1012 []))) (qs := [.row 1012 []]) (ps' := [.d (.int .i64 a.f0), .d (.int .i64 a.f1), .row 1012 []]) rfl rfl (by kernel_rfl) rfl rfl rfl rfl rfl rfl (le_ok rfl) rfl) ?_
 refine TL.nil ?_
 refine T.seq ?_
 refine T.region ?_
 refine TL.cons rfl (Step.load_box_agg (n := 3) (qs := [.d (.int .i64 a.f0), .d (.int .i64 a.f1), .row 1012 []]) rfl rfl (lt_ok rfl) (by kernel_rfl) rfl rfl rfl rfl) ?_
 refine TL.cons rfl (Step.store_box (n := 3) (p := (.agg [.d (.int .i64 a.f0), .d (.int .i64 a.f1), .row 1012 []])) (qs := [.d (.int .i64 a.f0), .d (.int .i64 a.f1), .row 1012 []]) (ps' := [.d (.int .i64 a.f0), .d (.int .i64 a.f1), .row 1012 []]) rfl rfl (by kernel_rfl) rfl rfl rfl rfl rfl rfl (le_ok rfl) rfl) ?_
 refine TL.nil ?_
 refine T.ret ?_
 exact ⟨[(true, [.d (.int .i64 a.f0), .d (.int .i64 a.f1), .row 1012 []])], (.cons rfl .nil), rfl, [1012], (RetC.rd' (by rfl) (RetC.rd' (by rfl) (RetC.own' rfl (by rfl) rfl .nil)))⟩
theorem ok_laws_toEntryS (a : List SEntry) (h0_ : a.length ≤ 1048576 ∧ ∀ y ∈ a, SEntry.sm y) : RO Try.prog 77 [.one (.sl 3 (a.map SEntry.cells))] [(false, [.own 113 (.sl 3 (a.map SEntry.cells))])] := by
 refine RO.intro Try.func77 rfl 23 rfl (le_ok rfl) fun w Z => ?_
 refine T.bnd 0 0 rfl rfl fun hb_0_0 => ?_
 simp only [D.size, List.length_map] at hb_0_0
 have h0b := h0_.1
 refine T.seq ?_
 refine T.region ?_
 refine TL.cons rfl (Step.assign (p := (.one (.nil))) rfl rfl (lt_ok rfl) rfl) ?_
 refine TL.nil ?_
 refine T.seq ?_
 refine T.region ?_
 refine TL.cons rfl (Step.move (p := (.one (.d (.sl 3 (a.map SEntry.cells))))) rfl rfl (lt_ok rfl) rfl) ?_
 refine TL.cons rfl (Step.len' (e := 156) (z := 3) (d := (.sl 3 (a.map SEntry.cells))) (n := a.length) rfl rfl (lt_ok rfl) (by kernel_rfl) rfl rfl (by simp [D.size])) ?_
 refine TL.cons rfl (Step.make (e := 113) (z := 3) (by_ := 40) (n := (a.length : Int)) (zs := [.int .i64 0, .int .i64 0, .slice none 0 0]) (zd := [(.int .i64 0), (.int .i64 0), (.ints .u8 [])]) (d := (.sl 3 ((List.replicate a.length default).map SEntry.cells))) rfl rfl (lt_ok rfl) (by kernel_rfl) (lt_ok rfl) rfl (by first | omega | (simp; omega)) (by first | omega | (simp; omega)) (by first | omega | (simp; omega)) (by kernel_rfl) (zeroB_ok _ _ (by kernel_rfl)) rfl (by simp) (by simp only [D.flat, List.map_replicate]; rfl) (by simp [D.size]) rfl (wf_map SEntry.len _)) ?_
 refine TL.cons rfl (Step.assign (p := (.one (.row 7 []))) rfl rfl (lt_ok rfl) rfl) ?_
 refine TL.nil ?_
 refine T.seq ?_
 refine T.seq ?_
 refine T.region ?_
 refine TL.cons rfl (Step.assign (p := (.one (.d (.int .i64 0)))) rfl rfl (lt_ok rfl) rfl) ?_
 refine TL.nil ?_
 refine T.block ?_
 refine T.loop (ι := Nat) (fun x => { tm := [(0, (.one (.d (.sl 3 (a.map SEntry.cells))))), (2, (.one (.nil))), (3, (.one (.row 7 []))), (4, (.one (.d (.int .i64 (x : Int)))))], rows := [(7, (113, (.sl 3 ((a.take x ++ List.replicate (a.length - x) default : List SEntry).map SEntry.cells))))], boxes := [] }) (fun x => x ≤ a.length) (fun x => a.length - x) 0 ?_ ?_ ?_
 · exact Env.le_mk ⟨rfl, rfl, rfl, by first | rfl | exact congrArg (fun x => some (113, ((.sl 3 (x.map SEntry.cells)) : D))) (fill_set a default default i (by omega)), trivial⟩ ⟨by first | rfl | exact congrArg (fun x => some (113, ((.sl 3 (x.map SEntry.cells)) : D))) (fill_set a default default i (by omega)), trivial⟩ trivial
 · exact Nat.zero_le _
 ·
  intro i hx
  try dsimp only at hx ⊢
  refine T.seq ?_
  refine T.seq ?_
  refine T.region ?_
  refine TL.cons rfl (Step.move (p := (.one (.d (.int .i64 (i : Int))))) rfl rfl (lt_ok rfl) rfl) ?_
  refine TL.cons rfl (Step.move (p := (.one (.d (.sl 3 (a.map SEntry.cells))))) rfl rfl (lt_ok rfl) rfl) ?_
  refine TL.cons rfl (Step.len' (e := 156) (z := 3) (d := (.sl 3 (a.map SEntry.cells))) (n := a.length) rfl rfl (lt_ok rfl) (by kernel_rfl) rfl rfl (by simp [D.size])) ?_
  refine TL.cons rfl (Step.bin rfl rfl (lt_ok rfl) rfl rfl (Bin.lss (k := .i64) (a := (i : Int)) (b := (a.length : Int)))) ?_
  refine TL.nil ?_
  refine T.cond (b := decide ((i : Int) < (a.length : Int))) rfl (fun h1 => ?_) (fun h1 => ?_)
  ·
   replace h1 := of_decide_eq_true h1
   refine T.skip ?_
   refine T.seq ?_
   refine T.block ?_
   refine T.region ?_
   refine TL.cons rfl (Step.move (p := (.one (.row 7 []))) rfl rfl (lt_ok rfl) rfl) ?_
   refine TL.cons rfl (Step.move (p := (.one (.d (.int .i64 (i : Int))))) rfl rfl (lt_ok rfl) rfl) ?_
   refine TL.cons rfl (Step.move (p := (.one (.d (.sl 3 (a.map SEntry.cells))))) rfl rfl (lt_ok rfl) rfl) ?_
   refine TL.cons rfl (Step.move (p := (.one (.d (.int .i64 (i : Int))))) rfl rfl (lt_ok rfl) rfl) ?_
   refine TL.cons rfl (Step.index (e := 156) (z := 3) (i := (i : Int)) rfl rfl (lt_ok rfl) (by kernel_rfl) rfl rfl rfl (lt_ok rfl) rfl (by first | omega | (simp; omega)) (by simp only [D.size]; first | omega | (simp; omega))) ?_
   refine TL.cons rfl (Step.load_agg (n := 3) (cs := [.d (.int .i64 (a.getD i default).f0), .d (.int .i64 (a.getD i default).f1), .d (.ints .u8 (a.getD i default).f2)]) rfl rfl (lt_ok rfl) (by kernel_rfl) rfl rfl (by simp only [List.range, List.range.loop, List.map_cons, List.map_nil]; rw [cell_map default (by first | omega | (simp; omega)), cell_map default (by first | omega | (simp; omega)), cell_map default (by first | omega | (simp; omega))]; rfl)) ?_
   refine TL.cons rfl (Step.call (f := 129) (xs := [.tmp 19]) (ps := [(.agg [.d (.int .i64 (a.getD i default).f0), .d (.int .i64 (a.getD i default).f1), .d (.ints .u8 (a.getD i default).f2)])]) false (g := .func 129) rfl rfl (lt_ok rfl) rfl (by kernel_rfl) rfl (.cons (.agg (.cons (.d _) (.cons (.d _) (.cons (.d _) .nil)))) .nil) (ok_laws_toEntry (a.getD i default) (by first | assumption | exact ⟨‹_›, ‹_›⟩ | (refine mem_getD (p := SEntry.sm) h0_.2 (by omega)) | exact mem_getD h0_.2 (by omega))) (.inr rfl) rfl (by simp) rfl) ?_
   refine TL.cons rfl (Step.index_row (e := 113) (z := 3) (i := (i : Int)) rfl rfl (lt_ok rfl) (by kernel_rfl) rfl rfl rfl rfl (lt_ok rfl) rfl (by first | omega | (simp; omega)) (by simp only [D.at_, D.cell, D.size]; first | omega | (simp; omega))) ?_
   refine TL.cons rfl (Step.store_row (n := 3) (p := (.agg [.d (.int .i64 (a.getD i default).f0), .d (.int .i64 (a.getD i default).f1), .row 3020 []])) (ps := [.d (.int .i64 (a.getD i default).f0), .d (.int .i64 (a.getD i default).f1), .row 3020 []]) (es := SEntry.cells (a.getD i default)) (ss := [3020]) (d1 := (.sl 3 (((a.take i ++ List.replicate (a.length - i) default : List SEntry).set i (a.getD i default)).map SEntry.cells))) (d' := (.sl 3 (((a.take i ++ List.replicate (a.length - i) default : List SEntry).set i (a.getD i default)).map SEntry.cells))) rfl rfl (by kernel_rfl) rfl rfl rfl rfl rfl rfl (.val rfl (.val rfl (.row rfl (by simp) .nil))) (by simp) (Putd.enc SEntry.len (xs := (a.take i ++ List.replicate (a.length - i) default : List SEntry)) (by simp; first | omega | (simp; omega)) (a.getD i default)) rfl) ?_
   refine TL.nil ?_
   refine T.region ?_
   refine TL.cons rfl (Step.move (p := (.one (.d (.int .i64 (i : Int))))) rfl rfl (lt_ok rfl) rfl) ?_
   refine TL.cons rfl (Step.bin (r := .int .i64 ((i : Int) + 1)) rfl rfl (lt_ok rfl) rfl rfl (Bin.add (a := (i : Int)) (b := 1) (by first | exact wrap_ok (by first | omega | (simp; omega)) (by first | omega | (simp; omega)) | rfl))) ?_
   refine TL.cons rfl (Step.assign (p := (.one (.d (.int .i64 ((i : Int) + 1))))) rfl rfl (lt_ok rfl) rfl) ?_
   refine TL.nil ?_
   exact ⟨i + 1, by omega, by omega, Env.le_mk ⟨rfl, rfl, rfl, by first | rfl | exact congrArg (fun x => some (113, ((.sl 3 (x.map SEntry.cells)) : D))) (fill_set a default default i (by omega)), trivial⟩ ⟨by first | rfl | exact congrArg (fun x => some (113, ((.sl 3 (x.map SEntry.cells)) : D))) (fill_set a default default i (by omega)), trivial⟩ trivial⟩
  ·
   replace h1 := of_decide_eq_false h1
   refine T.exit ?_
   refine T.seq ?_
   refine T.region ?_
   refine TL.cons rfl (Step.move (p := (.one (.row 7 []))) rfl rfl (lt_ok rfl) rfl) ?_
   refine TL.cons rfl (Step.assign (p := (.one (.row 7 []))) rfl rfl (lt_ok rfl) rfl) ?_
   refine TL.nil ?_
   refine T.ret ?_
   exact ⟨[(false, [.row 7 []])], (.cons rfl .nil), rfl, [7], (RetC.own' rfl (by first | rfl | (congr 1; rw [fill_all' _ _ _ (by omega)]) | (rw [fill_all' _ _ _ (by omega)])) rfl .nil)⟩
theorem ok_laws_toTc (a : STc) (h0_ : a.sm) : RO Try.prog 18 [.agg a.cells] [(true, [.rd (.int .i64 a.f0), .own 113 (.sl 3 (a.f1.map SEntry.cells))])] := by
 refine RO.intro Try.func18 rfl 12 rfl (le_ok rfl) fun w Z => ?_
 have s0 : a.f1.length ≤ 1048576 ∧ ∀ y ∈ a.f1, SEntry.sm y := h0_
 refine T.seq ?_
 refine T.region ?_
 refine TL.cons rfl (Step.box (p := (.agg [.d (.int .i64 a.f0), .d (.sl 3 (a.f1.map SEntry.cells))])) (ps := [.d (.int .i64 a.f0), .d (.sl 3 (a.f1.map SEntry.cells))]) rfl rfl (lt_ok rfl) rfl rfl rfl rfl rfl) ?_
 refine TL.cons rfl (Step.alloc (cs := [.int .i64 0, .slice none 0 0]) (ps := [.d (.int .i64 0), .nil]) rfl rfl (lt_ok rfl) (by kernel_rfl) rfl rfl rfl rfl) ?_
 refine TL.nil ?_
 refine T.seq ?_
 refine T.region ?_
 refine TL.cons rfl (Step.alloc (cs := [.int .i64 0, .slice none 0 0]) (ps := [.d (.int .i64 0), .nil]) rfl rfl (lt_ok rfl) (by kernel_rfl) rfl rfl rfl rfl) ?_
 refine TL.nil ?_
 refine T.seq ?_
 refine T.region ?_
 refine TL.cons rfl (Step.fieldAddr (q := 0) (off := 0) (n := 1) (one := true) rfl rfl (lt_ok rfl) (by kernel_rfl) (Nat.succ_ne_zero _) rfl) ?_
 refine TL.cons rfl (Step.load_box (c := .d (.int .i64 a.f0)) rfl rfl (lt_ok rfl) (by kernel_rfl) rfl rfl rfl) ?_
 refine TL.cons rfl (Step.fieldAddr (q := 0) (off := 0) (n := 1) (one := true) rfl rfl (lt_ok rfl) (by kernel_rfl) (Nat.succ_ne_zero _) rfl) ?_
 refine TL.cons rfl (Step.store_box (n := 1) (p := (.one (.d (.int .i64 a.f0)))) (qs := [.d (.int .i64 a.f0)]) (ps' := [.d (.int .i64 a.f0), .nil]) rfl rfl (by kernel_rfl) rfl rfl rfl rfl rfl rfl (le_ok rfl) rfl) ?_
 refine TL.nil ?_
 refine T.seq ?_
 refine T.region ?_
 refine TL.cons rfl (Step.fieldAddr (q := 0) (off := 1) (n := 1) (one := true) rfl rfl (lt_ok rfl) (by kernel_rfl) (Nat.succ_ne_zero _) rfl) ?_
 refine TL.cons rfl (Step.load_box (c := .d (.sl 3 (a.f1.map SEntry.cells))) rfl rfl (lt_ok rfl) (by kernel_rfl) rfl rfl rfl) ?_
 refine TL.cons rfl (Step.call (f := 77) (xs := [.tmp 8]) (ps := [(.one (.d (.sl 3 (a.f1.map SEntry.cells))))]) false (g := .func 77) rfl rfl (lt_ok rfl) rfl (by kernel_rfl) rfl (.cons (.one (.d _)) .nil) (ok_laws_toEntryS a.f1 (by first | assumption | exact ⟨‹_›, ‹_›⟩ | exact mem_getD h0_.2 (by omega))) (.inr rfl) rfl (by simp) rfl) ?_
 refine TL.cons rfl (Step.fieldAddr (q := 0) (off := 1) (n := 1) (one := true) rfl rfl (lt_ok rfl) (by kernel_rfl) (Nat.succ_ne_zero _) rfl) ?_
 refine TL.cons rfl (Step.store_box (n := 1) (p := (.one (.row 1009 []))) (qs := [.row 1009 []]) (ps' := [.d (.int .i64 a.f0), .row 1009 []]) rfl rfl (by kernel_rfl) rfl rfl rfl rfl rfl rfl (le_ok rfl) rfl) ?_
 refine TL.nil ?_
 refine T.seq ?_
 refine T.region ?_
 refine TL.cons rfl (Step.load_box_agg (n := 2) (qs := [.d (.int .i64 a.f0), .row 1009 []]) rfl rfl (lt_ok rfl) (by kernel_rfl) rfl rfl rfl rfl) ?_
 refine TL.cons rfl (Step.store_box (n := 2) (p := (.agg [.d (.int .i64 a.f0), .row 1009 []])) (qs := [.d (.int .i64 a.f0), .row 1009 []]) (ps' := [.d (.int .i64 a.f0), .row 1009 []]) rfl rfl (by kernel_rfl) rfl rfl rfl rfl rfl rfl (le_ok rfl) rfl) ?_
 refine TL.nil ?_
 refine T.ret ?_
 exact ⟨[(true, [.d (.int .i64 a.f0), .row 1009 []])], (.cons rfl .nil), rfl, [1009], (RetC.rd' (by rfl) (RetC.own' rfl (by rfl) rfl .nil))⟩
theorem ok_laws_toByteSS (a : List (List Int)) (h0_ : a.length ≤ 1048576 ∧ ∀ y ∈ a, y.length ≤ 1048576) : RO Try.prog 88 [.one (.bss a)] [(false, [.own 37 (.bss a)])] := by
 refine RO.intro Try.func88 rfl 23 rfl (le_ok rfl) fun w Z => ?_
 refine T.bnd 0 0 rfl rfl fun hb_0_0 => ?_
 simp only [D.size, List.length_map] at hb_0_0
 have h0b := h0_.1
 refine T.seq ?_
 refine T.region ?_
 refine TL.cons rfl (Step.assign (p := (.one (.nil))) rfl rfl (lt_ok rfl) rfl) ?_
 refine TL.nil ?_
 refine T.seq ?_
 refine T.region ?_
 refine TL.cons rfl (Step.move (p := (.one (.d (.bss a)))) rfl rfl (lt_ok rfl) rfl) ?_
 refine TL.cons rfl (Step.len (e := 37) (z := 1) (d := (.bss a)) rfl rfl (lt_ok rfl) (by kernel_rfl) rfl rfl) ?_
 refine TL.cons rfl (Step.make (e := 37) (z := 1) (by_ := 24) (n := (a.length : Int)) (zs := [.slice none 0 0]) (zd := [.ints .u8 []]) (d := (.bss (List.replicate a.length []))) rfl rfl (lt_ok rfl) (by kernel_rfl) (lt_ok rfl) rfl (by first | omega | (simp; omega)) (by first | omega | (simp; omega)) (by first | omega | (simp; omega)) (by kernel_rfl) (.empty rfl rfl trivial .nil) rfl (by simp) (by simp [D.flat, List.flatten_replicate_singleton]) (by simp [D.size]) rfl trivial) ?_
 refine TL.cons rfl (Step.assign (p := (.one (.row 7 []))) rfl rfl (lt_ok rfl) rfl) ?_
 refine TL.nil ?_
 refine T.seq ?_
 refine T.seq ?_
 refine T.region ?_
 refine TL.cons rfl (Step.assign (p := (.one (.d (.int .i64 0)))) rfl rfl (lt_ok rfl) rfl) ?_
 refine TL.nil ?_
 refine T.block ?_
 refine T.loop (ι := Nat) (fun x => { tm := [(0, (.one (.d (.bss a)))), (2, (.one (.nil))), (3, (.one (.row 7 []))), (4, (.one (.d (.int .i64 (x : Int)))))], rows := [(7, (37, (.bss (a.take x ++ List.replicate (a.length - x) [] : List (List Int)))))], boxes := [] }) (fun x => x ≤ a.length) (fun x => a.length - x) 0 ?_ ?_ ?_
 · exact Env.le_mk ⟨rfl, rfl, rfl, by first | rfl | exact congrArg (fun x => some (37, ((.bss x) : D))) (fill_set a [] [] i (by omega)), trivial⟩ ⟨by first | rfl | exact congrArg (fun x => some (37, ((.bss x) : D))) (fill_set a [] [] i (by omega)), trivial⟩ trivial
 · exact Nat.zero_le _
 ·
  intro i hx
  try dsimp only at hx ⊢
  refine T.seq ?_
  refine T.seq ?_
  refine T.region ?_
  refine TL.cons rfl (Step.move (p := (.one (.d (.int .i64 (i : Int))))) rfl rfl (lt_ok rfl) rfl) ?_
  refine TL.cons rfl (Step.move (p := (.one (.d (.bss a)))) rfl rfl (lt_ok rfl) rfl) ?_
  refine TL.cons rfl (Step.len (e := 37) (z := 1) (d := (.bss a)) rfl rfl (lt_ok rfl) (by kernel_rfl) rfl rfl) ?_
  refine TL.cons rfl (Step.bin rfl rfl (lt_ok rfl) rfl rfl (Bin.lss (k := .i64) (a := (i : Int)) (b := (a.length : Int)))) ?_
  refine TL.nil ?_
  refine T.cond (b := decide ((i : Int) < (a.length : Int))) rfl (fun h1 => ?_) (fun h1 => ?_)
  ·
   replace h1 := of_decide_eq_true h1
   refine T.skip ?_
   refine T.seq ?_
   refine T.block ?_
   refine T.region ?_
   refine TL.cons rfl (Step.move (p := (.one (.row 7 []))) rfl rfl (lt_ok rfl) rfl) ?_
   refine TL.cons rfl (Step.move (p := (.one (.d (.int .i64 (i : Int))))) rfl rfl (lt_ok rfl) rfl) ?_
   refine TL.cons rfl (Step.move (p := (.one (.d (.bss a)))) rfl rfl (lt_ok rfl) rfl) ?_
   refine TL.cons rfl (Step.move (p := (.one (.d (.int .i64 (i : Int))))) rfl rfl (lt_ok rfl) rfl) ?_
   refine TL.cons rfl (Step.index (e := 37) (z := 1) (i := (i : Int)) rfl rfl (lt_ok rfl) (by kernel_rfl) rfl rfl rfl (lt_ok rfl) rfl (by first | omega | (simp; omega)) (by simp only [D.size]; first | omega | (simp; omega))) ?_
   refine TL.cons rfl (Step.load (e := (.ints .u8 (a.getD i []))) rfl rfl (lt_ok rfl) (by kernel_rfl) rfl rfl) ?_
   refine TL.cons rfl (Step.call (f := 87) (xs := [.tmp 19]) (ps := [(.one (.d (.ints .u8 (a.getD i []))))]) false (g := .func 87) rfl rfl (lt_ok rfl) rfl (by kernel_rfl) rfl (.cons (.one (.d _)) .nil) (ok_laws_toByteS (a.getD i []) (by first | assumption | exact ⟨‹_›, ‹_›⟩ | exact mem_getD h0_.2 (by omega))) (.inr rfl) rfl (by simp) rfl) ?_
   refine TL.cons rfl (Step.index_row (e := 37) (z := 1) (i := (i : Int)) rfl rfl (lt_ok rfl) (by kernel_rfl) rfl rfl rfl rfl (lt_ok rfl) rfl (by first | omega | (simp; omega)) (by simp only [D.at_, D.cell, D.size]; first | omega | (simp; omega))) ?_
   refine TL.cons rfl (Step.store_row (n := 1) (p := (.one (.row 1020 []))) (ps := [.row 1020 []]) (es := [(.ints .u8 (a.getD i []))]) (ss := [1020]) (d1 := (.bss ((a.take i ++ List.replicate (a.length - i) [] : List (List Int)).set i (a.getD i [])))) (d' := (.bss ((a.take i ++ List.replicate (a.length - i) [] : List (List Int)).set i (a.getD i [])))) rfl rfl (by kernel_rfl) rfl rfl rfl rfl rfl rfl (.row rfl (by simp) .nil) (by simp) (Putd.one rfl trivial rfl (by simp only [D.at_, D.size]; first | omega | (simp; omega)) (lt_ok rfl)) rfl) ?_
   refine TL.nil ?_
   refine T.region ?_
   refine TL.cons rfl (Step.move (p := (.one (.d (.int .i64 (i : Int))))) rfl rfl (lt_ok rfl) rfl) ?_
   refine TL.cons rfl (Step.bin (r := .int .i64 ((i : Int) + 1)) rfl rfl (lt_ok rfl) rfl rfl (Bin.add (a := (i : Int)) (b := 1) (by first | exact wrap_ok (by first | omega | (simp; omega)) (by first | omega | (simp; omega)) | rfl))) ?_
   refine TL.cons rfl (Step.assign (p := (.one (.d (.int .i64 ((i : Int) + 1))))) rfl rfl (lt_ok rfl) rfl) ?_
   refine TL.nil ?_
   exact ⟨i + 1, by omega, by omega, Env.le_mk ⟨rfl, rfl, rfl, by first | rfl | exact congrArg (fun x => some (37, ((.bss x) : D))) (fill_set a [] [] i (by omega)), trivial⟩ ⟨by first | rfl | exact congrArg (fun x => some (37, ((.bss x) : D))) (fill_set a [] [] i (by omega)), trivial⟩ trivial⟩
  ·
   replace h1 := of_decide_eq_false h1
   refine T.exit ?_
   refine T.seq ?_
   refine T.region ?_
   refine TL.cons rfl (Step.move (p := (.one (.row 7 []))) rfl rfl (lt_ok rfl) rfl) ?_
   refine TL.cons rfl (Step.assign (p := (.one (.row 7 []))) rfl rfl (lt_ok rfl) rfl) ?_
   refine TL.nil ?_
   refine T.ret ?_
   exact ⟨[(false, [.row 7 []])], (.cons rfl .nil), rfl, [7], (RetC.own' rfl (by first | rfl | (congr 1; rw [fill_all' _ _ _ (by omega)]) | (rw [fill_all' _ _ _ (by omega)])) rfl .nil)⟩
theorem ok_laws_toIncl (a : SIncl) (h0_ : a.sm) : RO Try.prog 23 [.agg a.cells] [(true, [.rd (.int .i64 a.f0), .rd (.int .i64 a.f1), .rd (.int .i64 a.f2), .own 5 (.ints .u8 a.f3), .own 37 (.bss a.f4)])] := by
 refine RO.intro Try.func23 rfl 22 rfl (le_ok rfl) fun w Z => ?_
 obtain ⟨s0, s1⟩ := h0_
 refine T.seq ?_
 refine T.region ?_
 refine TL.cons rfl (Step.box (p := (.agg [.d (.int .i64 a.f0), .d (.int .i64 a.f1), .d (.int .i64 a.f2), .d (.ints .u8 a.f3), .d (.bss a.f4)])) (ps := [.d (.int .i64 a.f0), .d (.int .i64 a.f1), .d (.int .i64 a.f2), .d (.ints .u8 a.f3), .d (.bss a.f4)]) rfl rfl (lt_ok rfl) rfl rfl rfl rfl rfl) ?_
 refine TL.cons rfl (Step.alloc (cs := [.int .i64 0, .int .i64 0, .int .i64 0, .slice none 0 0, .slice none 0 0]) (ps := [.d (.int .i64 0), .d (.int .i64 0), .d (.int .i64 0), .nil, .nil]) rfl rfl (lt_ok rfl) (by kernel_rfl) rfl rfl rfl rfl) ?_
 refine TL.nil ?_
 refine T.seq ?_
 refine T.region ?_
 refine TL.cons rfl (Step.alloc (cs := [.int .i64 0, .int .i64 0, .int .i64 0, .slice none 0 0, .slice none 0 0]) (ps := [.d (.int .i64 0), .d (.int .i64 0), .d (.int .i64 0), .nil, .nil]) rfl rfl (lt_ok rfl) (by kernel_rfl) rfl rfl rfl rfl) ?_
 refine TL.nil ?_
 refine T.seq ?_
 refine T.region ?_
 refine TL.cons rfl (Step.fieldAddr (q := 0) (off := 0) (n := 1) (one := true) rfl rfl (lt_ok rfl) (by kernel_rfl) (Nat.succ_ne_zero _) rfl) ?_
 refine TL.cons rfl (Step.load_box (c := .d (.int .i64 a.f0)) rfl rfl (lt_ok rfl) (by kernel_rfl) rfl rfl rfl) ?_
 refine TL.cons rfl (Step.fieldAddr (q := 0) (off := 0) (n := 1) (one := true) rfl rfl (lt_ok rfl) (by kernel_rfl) (Nat.succ_ne_zero _) rfl) ?_
 refine TL.cons rfl (Step.store_box (n := 1) (p := (.one (.d (.int .i64 a.f0)))) (qs := [.d (.int .i64 a.f0)]) (ps' := [.d (.int .i64 a.f0), .d (.int .i64 0), .d (.int .i64 0), .nil, .nil]) rfl rfl (by kernel_rfl) rfl rfl rfl rfl rfl rfl (le_ok rfl) rfl) ?_
 refine TL.nil ?_
 refine T.seq ?_
 refine T.region ?_
 refine TL.cons rfl (Step.fieldAddr (q := 0) (off := 1) (n := 1) (one := true) rfl rfl (lt_ok rfl) (by kernel_rfl) (Nat.succ_ne_zero _) rfl) ?_
 refine TL.cons rfl (Step.load_box (c := .d (.int .i64 a.f1)) rfl rfl (lt_ok rfl) (by kernel_rfl) rfl rfl rfl) ?_
 refine TL.cons rfl (Step.fieldAddr (q := 0) (off := 1) (n := 1) (one := true) rfl rfl (lt_ok rfl) (by kernel_rfl) (Nat.succ_ne_zero _) rfl) ?_
 refine TL.cons rfl (Step.store_box (n := 1) (p := (.one (.d (.int .i64 a.f1)))) (qs := [.d (.int .i64 a.f1)]) (ps' := [.d (.int .i64 a.f0), .d (.int .i64 a.f1), .d (.int .i64 0), .nil, .nil]) rfl rfl (by kernel_rfl) rfl rfl rfl rfl rfl rfl (le_ok rfl) rfl) ?_
 refine TL.nil ?_
 refine T.seq ?_
 refine T.region ?_
 refine TL.cons rfl (Step.fieldAddr (q := 0) (off := 2) (n := 1) (one := true) rfl rfl (lt_ok rfl) (by kernel_rfl) (Nat.succ_ne_zero _) rfl) ?_
 refine TL.cons rfl (Step.load_box (c := .d (.int .i64 a.f2)) rfl rfl (lt_ok rfl) (by kernel_rfl) rfl rfl rfl) ?_
 refine TL.cons rfl (Step.fieldAddr (q := 0) (off := 2) (n := 1) (one := true) rfl rfl (lt_ok rfl) (by kernel_rfl) (Nat.succ_ne_zero _) rfl) ?_
 refine TL.cons rfl (Step.store_box (n := 1) (p := (.one (.d (.int .i64 a.f2)))) (qs := [.d (.int .i64 a.f2)]) (ps' := [.d (.int .i64 a.f0), .d (.int .i64 a.f1), .d (.int .i64 a.f2), .nil, .nil]) rfl rfl (by kernel_rfl) rfl rfl rfl rfl rfl rfl (le_ok rfl) rfl) ?_
 refine TL.nil ?_
 refine T.seq ?_
 refine T.region ?_
 refine TL.cons rfl (Step.fieldAddr (q := 0) (off := 3) (n := 1) (one := true) rfl rfl (lt_ok rfl) (by kernel_rfl) (Nat.succ_ne_zero _) rfl) ?_
 refine TL.cons rfl (Step.load_box (c := .d (.ints .u8 a.f3)) rfl rfl (lt_ok rfl) (by kernel_rfl) rfl rfl rfl) ?_
 refine TL.cons rfl (Step.call (f := 87) (xs := [.tmp 14]) (ps := [(.one (.d (.ints .u8 a.f3)))]) false (g := .func 87) rfl rfl (lt_ok rfl) rfl (by kernel_rfl) rfl (.cons (.one (.d _)) .nil) (ok_laws_toByteS a.f3 (by first | assumption | exact ⟨‹_›, ‹_›⟩ | exact mem_getD h0_.2 (by omega))) (.inr rfl) rfl (by simp) rfl) ?_
 refine TL.cons rfl (Step.fieldAddr (q := 0) (off := 3) (n := 1) (one := true) rfl rfl (lt_ok rfl) (by kernel_rfl) (Nat.succ_ne_zero _) rfl) ?_
 refine TL.cons rfl (Step.store_box (n := 1) (p := (.one (.row 1015 []))) (qs := [.row 1015 []]) (ps' := [.d (.int .i64 a.f0), .d (.int .i64 a.f1), .d (.int .i64 a.f2), .row 1015 [], .nil]) rfl rfl (by kernel_rfl) rfl rfl rfl rfl rfl rfl (le_ok rfl) rfl) ?_
 refine TL.nil ?_
 refine T.seq ?_
 refine T.region ?_
 refine TL.cons rfl (Step.fieldAddr (q := 0) (off := 4) (n := 1) (one := true) rfl rfl (lt_ok rfl) (by kernel_rfl) (Nat.succ_ne_zero _) rfl) ?_
 refine TL.cons rfl (Step.load_box (c := .d (.bss a.f4)) rfl rfl (lt_ok rfl) (by kernel_rfl) rfl rfl rfl) ?_
 refine TL.cons rfl (Step.call (f := 88) (xs := [.tmp 18]) (ps := [(.one (.d (.bss a.f4)))]) false (g := .func 88) rfl rfl (lt_ok rfl) rfl (by kernel_rfl) rfl (.cons (.one (.d _)) .nil) (ok_laws_toByteSS a.f4 (by first | assumption | exact ⟨‹_›, ‹_›⟩ | exact mem_getD h0_.2 (by omega))) (.inr rfl) rfl (by simp) rfl) ?_
 refine TL.cons rfl (Step.fieldAddr (q := 0) (off := 4) (n := 1) (one := true) rfl rfl (lt_ok rfl) (by kernel_rfl) (Nat.succ_ne_zero _) rfl) ?_
 refine TL.cons rfl (Step.store_box (n := 1) (p := (.one (.row 1019 []))) (qs := [.row 1019 []]) (ps' := [.d (.int .i64 a.f0), .d (.int .i64 a.f1), .d (.int .i64 a.f2), .row 1015 [], .row 1019 []]) rfl rfl (by kernel_rfl) rfl rfl rfl rfl rfl rfl (le_ok rfl) rfl) ?_
 refine TL.nil ?_
 refine T.seq ?_
 refine T.region ?_
 refine TL.cons rfl (Step.load_box_agg (n := 5) (qs := [.d (.int .i64 a.f0), .d (.int .i64 a.f1), .d (.int .i64 a.f2), .row 1015 [], .row 1019 []]) rfl rfl (lt_ok rfl) (by kernel_rfl) rfl rfl rfl rfl) ?_
 refine TL.cons rfl (Step.store_box (n := 5) (p := (.agg [.d (.int .i64 a.f0), .d (.int .i64 a.f1), .d (.int .i64 a.f2), .row 1015 [], .row 1019 []])) (qs := [.d (.int .i64 a.f0), .d (.int .i64 a.f1), .d (.int .i64 a.f2), .row 1015 [], .row 1019 []]) (ps' := [.d (.int .i64 a.f0), .d (.int .i64 a.f1), .d (.int .i64 a.f2), .row 1015 [], .row 1019 []]) rfl rfl (by kernel_rfl) rfl rfl rfl rfl rfl rfl (le_ok rfl) rfl) ?_
 refine TL.nil ?_
 refine T.ret ?_
 exact ⟨[(true, [.d (.int .i64 a.f0), .d (.int .i64 a.f1), .d (.int .i64 a.f2), .row 1015 [], .row 1019 []])], (.cons rfl .nil), rfl, [1015, 1019], (RetC.rd' (by rfl) (RetC.rd' (by rfl) (RetC.rd' (by rfl) (RetC.own' rfl (by rfl) rfl (RetC.own' rfl (by rfl) rfl .nil)))))⟩
theorem ok_laws_toQc (a : SQc) (h0_ : a.sm) : RO Try.prog 33 [.agg a.cells] [(true, [.rd (.int .i64 a.f0), .rd (.int .i64 a.f1), .own 5 (.ints .u8 a.f2), .own 5 (.ints .u8 a.f3), .own 37 (.bss a.f4)])] := by
 refine RO.intro Try.func33 rfl 23 rfl (le_ok rfl) fun w Z => ?_
 obtain ⟨s0, s1, s2⟩ := h0_
 refine T.seq ?_
 refine T.region ?_
 refine TL.cons rfl (Step.box (p := (.agg [.d (.int .i64 a.f0), .d (.int .i64 a.f1), .d (.ints .u8 a.f2), .d (.ints .u8 a.f3), .d (.bss a.f4)])) (ps := [.d (.int .i64 a.f0), .d (.int .i64 a.f1), .d (.ints .u8 a.f2), .d (.ints .u8 a.f3), .d (.bss a.f4)]) rfl rfl (lt_ok rfl) rfl rfl rfl rfl rfl) ?_
 refine TL.cons rfl (Step.alloc (cs := [.int .i64 0, .int .i64 0, .slice none 0 0, .slice none 0 0, .slice none 0 0]) (ps := [.d (.int .i64 0), .d (.int .i64 0), .nil, .nil, .nil]) rfl rfl (lt_ok rfl) (by kernel_rfl) rfl rfl rfl rfl) ?_
 refine TL.nil ?_
 refine T.seq ?_
 refine T.region ?_
 refine TL.cons rfl (Step.alloc (cs := [.int .i64 0, .int .i64 0, .slice none 0 0, .slice none 0 0, .slice none 0 0]) (ps := [.d (.int .i64 0), .d (.int .i64 0), .nil, .nil, .nil]) rfl rfl (lt_ok rfl) (by kernel_rfl) rfl rfl rfl rfl) ?_
 refine TL.nil ?_
 refine T.seq ?_
 refine T.region ?_
 refine TL.cons rfl (Step.fieldAddr (q := 0) (off := 0) (n := 1) (one := true) rfl rfl (lt_ok rfl) (by kernel_rfl) (Nat.succ_ne_zero _) rfl) ?_
 refine TL.cons rfl (Step.load_box (c := .d (.int .i64 a.f0)) rfl rfl (lt_ok rfl) (by kernel_rfl) rfl rfl rfl) ?_
 refine TL.cons rfl (Step.fieldAddr (q := 0) (off := 0) (n := 1) (one := true) rfl rfl (lt_ok rfl) (by kernel_rfl) (Nat.succ_ne_zero _) rfl) ?_
 refine TL.cons rfl (Step.store_box (n := 1) (p := (.one (.d (.int .i64 a.f0)))) (qs := [.d (.int .i64 a.f0)]) (ps' := [.d (.int .i64 a.f0), .d (.int .i64 0), .nil, .nil, .nil]) rfl rfl (by kernel_rfl) rfl rfl rfl rfl rfl rfl (le_ok rfl) rfl) ?_
 refine TL.nil ?_
 refine T.seq ?_
 refine T.region ?_
 refine TL.cons rfl (Step.fieldAddr (q := 0) (off := 1) (n := 1) (one := true) rfl rfl (lt_ok rfl) (by kernel_rfl) (Nat.succ_ne_zero _) rfl) ?_
 refine TL.cons rfl (Step.load_box (c := .d (.int .i64 a.f1)) rfl rfl (lt_ok rfl) (by kernel_rfl) rfl rfl rfl) ?_
 refine TL.cons rfl (Step.fieldAddr (q := 0) (off := 1) (n := 1) (one := true) rfl rfl (lt_ok rfl) (by kernel_rfl) (Nat.succ_ne_zero _) rfl) ?_
 refine TL.cons rfl (Step.store_box (n := 1) (p := (.one (.d (.int .i64 a.f1)))) (qs := [.d (.int .i64 a.f1)]) (ps' := [.d (.int .i64 a.f0), .d (.int .i64 a.f1), .nil, .nil, .nil]) rfl rfl (by kernel_rfl) rfl rfl rfl rfl rfl rfl (le_ok rfl) rfl) ?_
 refine TL.nil ?_
 refine T.seq ?_
 refine T.region ?_
 refine TL.cons rfl (Step.fieldAddr (q := 0) (off := 2) (n := 1) (one := true) rfl rfl (lt_ok rfl) (by kernel_rfl) (Nat.succ_ne_zero _) rfl) ?_
 refine TL.cons rfl (Step.load_box (c := .d (.ints .u8 a.f2)) rfl rfl (lt_ok rfl) (by kernel_rfl) rfl rfl rfl) ?_
 refine TL.cons rfl (Step.call (f := 87) (xs := [.tmp 11]) (ps := [(.one (.d (.ints .u8 a.f2)))]) false (g := .func 87) rfl rfl (lt_ok rfl) rfl (by kernel_rfl) rfl (.cons (.one (.d _)) .nil) (ok_laws_toByteS a.f2 (by first | assumption | exact ⟨‹_›, ‹_›⟩ | exact mem_getD h0_.2 (by omega))) (.inr rfl) rfl (by simp) rfl) ?_
 refine TL.cons rfl (Step.fieldAddr (q := 0) (off := 2) (n := 1) (one := true) rfl rfl (lt_ok rfl) (by kernel_rfl) (Nat.succ_ne_zero _) rfl) ?_
 refine TL.cons rfl (Step.store_box (n := 1) (p := (.one (.row 1012 []))) (qs := [.row 1012 []]) (ps' := [.d (.int .i64 a.f0), .d (.int .i64 a.f1), .row 1012 [], .nil, .nil]) rfl rfl (by kernel_rfl) rfl rfl rfl rfl rfl rfl (le_ok rfl) rfl) ?_
 refine TL.nil ?_
 refine T.seq ?_
 refine T.region ?_
 refine TL.cons rfl (Step.fieldAddr (q := 0) (off := 3) (n := 1) (one := true) rfl rfl (lt_ok rfl) (by kernel_rfl) (Nat.succ_ne_zero _) rfl) ?_
 refine TL.cons rfl (Step.load_box (c := .d (.ints .u8 a.f3)) rfl rfl (lt_ok rfl) (by kernel_rfl) rfl rfl rfl) ?_
 refine TL.cons rfl (Step.call (f := 87) (xs := [.tmp 15]) (ps := [(.one (.d (.ints .u8 a.f3)))]) false (g := .func 87) rfl rfl (lt_ok rfl) rfl (by kernel_rfl) rfl (.cons (.one (.d _)) .nil) (ok_laws_toByteS a.f3 (by first | assumption | exact ⟨‹_›, ‹_›⟩ | exact mem_getD h0_.2 (by omega))) (.inr rfl) rfl (by simp) rfl) ?_
 refine TL.cons rfl (Step.fieldAddr (q := 0) (off := 3) (n := 1) (one := true) rfl rfl (lt_ok rfl) (by kernel_rfl) (Nat.succ_ne_zero _) rfl) ?_
 refine TL.cons rfl (Step.store_box (n := 1) (p := (.one (.row 1016 []))) (qs := [.row 1016 []]) (ps' := [.d (.int .i64 a.f0), .d (.int .i64 a.f1), .row 1012 [], .row 1016 [], .nil]) rfl rfl (by kernel_rfl) rfl rfl rfl rfl rfl rfl (le_ok rfl) rfl) ?_
 refine TL.nil ?_
 refine T.seq ?_
 refine T.region ?_
 refine TL.cons rfl (Step.fieldAddr (q := 0) (off := 4) (n := 1) (one := true) rfl rfl (lt_ok rfl) (by kernel_rfl) (Nat.succ_ne_zero _) rfl) ?_
 refine TL.cons rfl (Step.load_box (c := .d (.bss a.f4)) rfl rfl (lt_ok rfl) (by kernel_rfl) rfl rfl rfl) ?_
 refine TL.cons rfl (Step.call (f := 88) (xs := [.tmp 19]) (ps := [(.one (.d (.bss a.f4)))]) false (g := .func 88) rfl rfl (lt_ok rfl) rfl (by kernel_rfl) rfl (.cons (.one (.d _)) .nil) (ok_laws_toByteSS a.f4 (by first | assumption | exact ⟨‹_›, ‹_›⟩ | exact mem_getD h0_.2 (by omega))) (.inr rfl) rfl (by simp) rfl) ?_
 refine TL.cons rfl (Step.fieldAddr (q := 0) (off := 4) (n := 1) (one := true) rfl rfl (lt_ok rfl) (by kernel_rfl) (Nat.succ_ne_zero _) rfl) ?_
 refine TL.cons rfl (Step.store_box (n := 1) (p := (.one (.row 1020 []))) (qs := [.row 1020 []]) (ps' := [.d (.int .i64 a.f0), .d (.int .i64 a.f1), .row 1012 [], .row 1016 [], .row 1020 []]) rfl rfl (by kernel_rfl) rfl rfl rfl rfl rfl rfl (le_ok rfl) rfl) ?_
 refine TL.nil ?_
 refine T.seq ?_
 refine T.region ?_
 refine TL.cons rfl (Step.load_box_agg (n := 5) (qs := [.d (.int .i64 a.f0), .d (.int .i64 a.f1), .row 1012 [], .row 1016 [], .row 1020 []]) rfl rfl (lt_ok rfl) (by kernel_rfl) rfl rfl rfl rfl) ?_
 refine TL.cons rfl (Step.store_box (n := 5) (p := (.agg [.d (.int .i64 a.f0), .d (.int .i64 a.f1), .row 1012 [], .row 1016 [], .row 1020 []])) (qs := [.d (.int .i64 a.f0), .d (.int .i64 a.f1), .row 1012 [], .row 1016 [], .row 1020 []]) (ps' := [.d (.int .i64 a.f0), .d (.int .i64 a.f1), .row 1012 [], .row 1016 [], .row 1020 []]) rfl rfl (by kernel_rfl) rfl rfl rfl rfl rfl rfl (le_ok rfl) rfl) ?_
 refine TL.nil ?_
 refine T.ret ?_
 exact ⟨[(true, [.d (.int .i64 a.f0), .d (.int .i64 a.f1), .row 1012 [], .row 1016 [], .row 1020 []])], (.cons rfl .nil), rfl, [1012, 1016, 1020], (RetC.rd' (by rfl) (RetC.rd' (by rfl) (RetC.own' rfl (by rfl) rfl (RetC.own' rfl (by rfl) rfl (RetC.own' rfl (by rfl) rfl .nil)))))⟩
theorem ok_laws_toHead (a : SHead) (h0_ : a.sm) : RO Try.prog 28 [.agg a.cells] [(true, [.rd (.int .i64 a.f0), .rd (.int .i64 a.f1), .rd (.int .i64 a.f2), .own 5 (.ints .u8 a.f3), .own 5 (.ints .u8 a.f4), .rd (.int .i64 a.f5.f0), .rd (.int .i64 a.f5.f1), .own 5 (.ints .u8 a.f5.f2), .own 5 (.ints .u8 a.f5.f3), .own 37 (.bss a.f5.f4)])] := by
 refine RO.intro Try.func28 rfl 26 rfl (le_ok rfl) fun w Z => ?_
 obtain ⟨s0, s1, s2⟩ := h0_
 refine T.seq ?_
 refine T.region ?_
 refine TL.cons rfl (Step.box (p := (.agg [.d (.int .i64 a.f0), .d (.int .i64 a.f1), .d (.int .i64 a.f2), .d (.ints .u8 a.f3), .d (.ints .u8 a.f4), .d (.int .i64 a.f5.f0), .d (.int .i64 a.f5.f1), .d (.ints .u8 a.f5.f2), .d (.ints .u8 a.f5.f3), .d (.bss a.f5.f4)])) (ps := [.d (.int .i64 a.f0), .d (.int .i64 a.f1), .d (.int .i64 a.f2), .d (.ints .u8 a.f3), .d (.ints .u8 a.f4), .d (.int .i64 a.f5.f0), .d (.int .i64 a.f5.f1), .d (.ints .u8 a.f5.f2), .d (.ints .u8 a.f5.f3), .d (.bss a.f5.f4)]) rfl rfl (lt_ok rfl) rfl rfl rfl rfl rfl) ?_
 refine TL.cons rfl (Step.alloc (cs := [.int .i64 0, .int .i64 0, .int .i64 0, .slice none 0 0, .slice none 0 0, .int .i64 0, .int .i64 0, .slice none 0 0, .slice none 0 0, .slice none 0 0]) (ps := [.d (.int .i64 0), .d (.int .i64 0), .d (.int .i64 0), .nil, .nil, .d (.int .i64 0), .d (.int .i64 0), .nil, .nil, .nil]) rfl rfl (lt_ok rfl) (by kernel_rfl) rfl rfl rfl rfl) ?_
 refine TL.nil ?_
 refine T.seq ?_
 refine T.region ?_
 refine TL.cons rfl (Step.alloc (cs := [.int .i64 0, .int .i64 0, .int .i64 0, .slice none 0 0, .slice none 0 0, .int .i64 0, .int .i64 0, .slice none 0 0, .slice none 0 0, .slice none 0 0]) (ps := [.d (.int .i64 0), .d (.int .i64 0), .d (.int .i64 0), .nil, .nil, .d (.int .i64 0), .d (.int .i64 0), .nil, .nil, .nil]) rfl rfl (lt_ok rfl) (by kernel_rfl) rfl rfl rfl rfl) ?_
 refine TL.nil ?_
 refine T.seq ?_
 refine T.region ?_
 refine TL.cons rfl (Step.fieldAddr (q := 0) (off := 0) (n := 1) (one := true) rfl rfl (lt_ok rfl) (by kernel_rfl) (Nat.succ_ne_zero _) rfl) ?_
 refine TL.cons rfl (Step.load_box (c := .d (.int .i64 a.f0)) rfl rfl (lt_ok rfl) (by kernel_rfl) rfl rfl rfl) ?_
 refine TL.cons rfl (Step.fieldAddr (q := 0) (off := 0) (n := 1) (one := true) rfl rfl (lt_ok rfl) (by kernel_rfl) (Nat.succ_ne_zero _) rfl) ?_
 refine TL.cons rfl (Step.store_box (n := 1) (p := (.one (.d (.int .i64 a.f0)))) (qs := [.d (.int .i64 a.f0)]) (ps' := [.d (.int .i64 a.f0), .d (.int .i64 0), .d (.int .i64 0), .nil, .nil, .d (.int .i64 0), .d (.int .i64 0), .nil, .nil, .nil]) rfl rfl (by kernel_rfl) rfl rfl rfl rfl rfl rfl (le_ok rfl) rfl) ?_
 refine TL.nil ?_
 refine T.seq ?_
 refine T.region ?_
 refine TL.cons rfl (Step.fieldAddr (q := 0) (off := 1) (n := 1) (one := true) rfl rfl (lt_ok rfl) (by kernel_rfl) (Nat.succ_ne_zero _) rfl) ?_
 refine TL.cons rfl (Step.load_box (c := .d (.int .i64 a.f1)) rfl rfl (lt_ok rfl) (by kernel_rfl) rfl rfl rfl) ?_
 refine TL.cons rfl (Step.fieldAddr (q := 0) (off := 1) (n := 1) (one := true) rfl rfl (lt_ok rfl) (by kernel_rfl) (Nat.succ_ne_zero _) rfl) ?_
 refine TL.cons rfl (Step.store_box (n := 1) (p := (.one (.d (.int .i64 a.f1)))) (qs := [.d (.int .i64 a.f1)]) (ps' := [.d (.int .i64 a.f0), .d (.int .i64 a.f1), .d (.int .i64 0), .nil, .nil, .d (.int .i64 0), .d (.int .i64 0), .nil, .nil, .nil]) rfl rfl (by kernel_rfl) rfl rfl rfl rfl rfl rfl (le_ok rfl) rfl) ?_
 refine TL.nil ?_
 refine T.seq ?_
 refine T.region ?_
 refine TL.cons rfl (Step.fieldAddr (q := 0) (off := 2) (n := 1) (one := true) rfl rfl (lt_ok rfl) (by kernel_rfl) (Nat.succ_ne_zero _) rfl) ?_
 refine TL.cons rfl (Step.load_box (c := .d (.int .i64 a.f2)) rfl rfl (lt_ok rfl) (by kernel_rfl) rfl rfl rfl) ?_
 refine TL.cons rfl (Step.fieldAddr (q := 0) (off := 2) (n := 1) (one := true) rfl rfl (lt_ok rfl) (by kernel_rfl) (Nat.succ_ne_zero _) rfl) ?_
 refine TL.cons rfl (Step.store_box (n := 1) (p := (.one (.d (.int .i64 a.f2)))) (qs := [.d (.int .i64 a.f2)]) (ps' := [.d (.int .i64 a.f0), .d (.int .i64 a.f1), .d (.int .i64 a.f2), .nil, .nil, .d (.int .i64 0), .d (.int .i64 0), .nil, .nil, .nil]) rfl rfl (by kernel_rfl) rfl rfl rfl rfl rfl rfl (le_ok rfl) rfl) ?_
 refine TL.nil ?_
 refine T.seq ?_
 refine T.region ?_
 refine TL.cons rfl (Step.fieldAddr (q := 0) (off := 3) (n := 1) (one := true) rfl rfl (lt_ok rfl) (by kernel_rfl) (Nat.succ_ne_zero _) rfl) ?_
 refine TL.cons rfl (Step.load_box (c := .d (.ints .u8 a.f3)) rfl rfl (lt_ok rfl) (by kernel_rfl) rfl rfl rfl) ?_
 refine TL.cons rfl (Step.call (f := 87) (xs := [.tmp 14]) (ps := [(.one (.d (.ints .u8 a.f3)))]) false (g := .func 87) rfl rfl (lt_ok rfl) rfl (by kernel_rfl) rfl (.cons (.one (.d _)) .nil) (ok_laws_toByteS a.f3 (by first | assumption | exact ⟨‹_›, ‹_›⟩ | exact mem_getD h0_.2 (by omega))) (.inr rfl) rfl (by simp) rfl) ?_
 refine TL.cons rfl (Step.fieldAddr (q := 0) (off := 3) (n := 1) (one := true) rfl rfl (lt_ok rfl) (by kernel_rfl) (Nat.succ_ne_zero _) rfl) ?_
 refine TL.cons rfl (Step.store_box (n := 1) (p := (.one (.row 1015 []))) (qs := [.row 1015 []]) (ps' := [.d (.int .i64 a.f0), .d (.int .i64 a.f1), .d (.int .i64 a.f2), .row 1015 [], .nil, .d (.int .i64 0), .d (.int .i64 0), .nil, .nil, .nil]) rfl rfl (by kernel_rfl) rfl rfl rfl rfl rfl rfl (le_ok rfl) rfl) ?_
 refine TL.nil ?_
 refine T.seq ?_
 refine T.region ?_
 refine TL.cons rfl (Step.fieldAddr (q := 0) (off := 4) (n := 1) (one := true) rfl rfl (lt_ok rfl) (by kernel_rfl) (Nat.succ_ne_zero _) rfl) ?_
 refine TL.cons rfl (Step.load_box (c := .d (.ints .u8 a.f4)) rfl rfl (lt_ok rfl) (by kernel_rfl) rfl rfl rfl) ?_
 refine TL.cons rfl (Step.call (f := 87) (xs := [.tmp 18]) (ps := [(.one (.d (.ints .u8 a.f4)))]) false (g := .func 87) rfl rfl (lt_ok rfl) rfl (by kernel_rfl) rfl (.cons (.one (.d _)) .nil) (ok_laws_toByteS a.f4 (by first | assumption | exact ⟨‹_›, ‹_›⟩ | exact mem_getD h0_.2 (by omega))) (.inr rfl) rfl (by simp) rfl) ?_
 refine TL.cons rfl (Step.fieldAddr (q := 0) (off := 4) (n := 1) (one := true) rfl rfl (lt_ok rfl) (by kernel_rfl) (Nat.succ_ne_zero _) rfl) ?_
 refine TL.cons rfl (Step.store_box (n := 1) (p := (.one (.row 1019 []))) (qs := [.row 1019 []]) (ps' := [.d (.int .i64 a.f0), .d (.int .i64 a.f1), .d (.int .i64 a.f2), .row 1015 [], .row 1019 [], .d (.int .i64 0), .d (.int .i64 0), .nil, .nil, .nil]) rfl rfl (by kernel_rfl) rfl rfl rfl rfl rfl rfl (le_ok rfl) rfl) ?_
 refine TL.nil ?_
 refine T.seq ?_
 refine T.region ?_
 refine TL.cons rfl (Step.fieldAddr (q := 0) (off := 5) (n := 5) (one := false) rfl rfl (lt_ok rfl) (by kernel_rfl) (Nat.succ_ne_zero _) rfl) ?_
 refine TL.cons rfl (Step.load_box_agg (n := 5) (qs := [.d (.int .i64 a.f5.f0), .d (.int .i64 a.f5.f1), .d (.ints .u8 a.f5.f2), .d (.ints .u8 a.f5.f3), .d (.bss a.f5.f4)]) rfl rfl (lt_ok rfl) (by kernel_rfl) rfl rfl rfl rfl) ?_
 refine TL.cons rfl (Step.call (f := 33) (xs := [.tmp 22]) (ps := [(.agg [.d (.int .i64 a.f5.f0), .d (.int .i64 a.f5.f1), .d (.ints .u8 a.f5.f2), .d (.ints .u8 a.f5.f3), .d (.bss a.f5.f4)])]) false (g := .func 33) rfl rfl (lt_ok rfl) rfl (by kernel_rfl) rfl (.cons (.agg (.cons (.d _) (.cons (.d _) (.cons (.d _) (.cons (.d _) (.cons (.d _) .nil)))))) .nil) (ok_laws_toQc a.f5 (by first | assumption | exact ⟨‹_›, ‹_›⟩ | (refine mem_getD (p := SQc.sm) h0_.2 (by omega)) | exact mem_getD h0_.2 (by omega))) (.inr rfl) rfl (by simp) rfl) ?_
 refine TL.cons rfl (Step.fieldAddr (q := 0) (off := 5) (n := 5) (one := false) rfl rfl (lt_ok rfl) (by kernel_rfl) (Nat.succ_ne_zero _) rfl) ?_
 refine TL.cons rfl (Step.store_box (n := 5) (p := (.agg [.d (.int .i64 a.f5.f0), .d (.int .i64 a.f5.f1), .row 3023 [], .row 4023 [], .row 5023 []])) (qs := [.d (.int .i64 a.f5.f0), .d (.int .i64 a.f5.f1), .row 3023 [], .row 4023 [], .row 5023 []]) (ps' := [.d (.int .i64 a.f0), .d (.int .i64 a.f1), .d (.int .i64 a.f2), .row 1015 [], .row 1019 [], .d (.int .i64 a.f5.f0), .d (.int .i64 a.f5.f1), .row 3023 [], .row 4023 [], .row 5023 []]) rfl rfl (by kernel_rfl) rfl rfl rfl rfl rfl rfl (le_ok rfl) rfl) ?_
 refine TL.nil ?_
 refine T.seq ?_
 refine T.region ?_
 refine TL.cons rfl (Step.load_box_agg (n := 10) (qs := [.d (.int .i64 a.f0), .d (.int .i64 a.f1), .d (.int .i64 a.f2), .row 1015 [], .row 1019 [], .d (.int .i64 a.f5.f0), .d (.int .i64 a.f5.f1), .row 3023 [], .row 4023 [], .row 5023 []]) rfl rfl (lt_ok rfl) (by kernel_rfl) rfl rfl rfl rfl) ?_
 refine TL.cons rfl (Step.store_box (n := 10) (p := (.agg [.d (.int .i64 a.f0), .d (.int .i64 a.f1), .d (.int .i64 a.f2), .row 1015 [], .row 1019 [], .d (.int .i64 a.f5.f0), .d (.int .i64 a.f5.f1), .row 3023 [], .row 4023 [], .row 5023 []])) (qs := [.d (.int .i64 a.f0), .d (.int .i64 a.f1), .d (.int .i64 a.f2), .row 1015 [], .row 1019 [], .d (.int .i64 a.f5.f0), .d (.int .i64 a.f5.f1), .row 3023 [], .row 4023 [], .row 5023 []]) (ps' := [.d (.int .i64 a.f0), .d (.int .i64 a.f1), .d (.int .i64 a.f2), .row 1015 [], .row 1019 [], .d (.int .i64 a.f5.f0), .d (.int .i64 a.f5.f1), .row 3023 [], .row 4023 [], .row 5023 []]) rfl rfl (by kernel_rfl) rfl rfl rfl rfl rfl rfl (le_ok rfl) rfl) ?_
 refine TL.nil ?_
 refine T.ret ?_
 exact ⟨[(true, [.d (.int .i64 a.f0), .d (.int .i64 a.f1), .d (.int .i64 a.f2), .row 1015 [], .row 1019 [], .d (.int .i64 a.f5.f0), .d (.int .i64 a.f5.f1), .row 3023 [], .row 4023 [], .row 5023 []])], (.cons rfl .nil), rfl, [1015, 1019, 3023, 4023, 5023], (RetC.rd' (by rfl) (RetC.rd' (by rfl) (RetC.rd' (by rfl) (RetC.own' rfl (by rfl) rfl (RetC.own' rfl (by rfl) rfl (RetC.rd' (by rfl) (RetC.rd' (by rfl) (RetC.own' rfl (by rfl) rfl (RetC.own' rfl (by rfl) rfl (RetC.own' rfl (by rfl) rfl .nil))))))))))⟩
theorem ok_laws_toBlock (a : SBlock) (h0_ : a.sm) : RO Try.prog 38 [.agg a.cells] [(true, [.rd (.int .i64 a.f0.f0), .rd (.int .i64 a.f0.f1), .rd (.int .i64 a.f0.f2), .own 5 (.ints .u8 a.f0.f3), .own 5 (.ints .u8 a.f0.f4), .rd (.int .i64 a.f0.f5.f0), .rd (.int .i64 a.f0.f5.f1), .own 5 (.ints .u8 a.f0.f5.f2), .own 5 (.ints .u8 a.f0.f5.f3), .own 37 (.bss a.f0.f5.f4), .own 37 (.bss a.f1)])] := by
 refine RO.intro Try.func38 rfl 13 rfl (le_ok rfl) fun w Z => ?_
 obtain ⟨s0, s1⟩ := h0_
 refine T.seq ?_
 refine T.region ?_
 refine TL.cons rfl (Step.box (p := (.agg [.d (.int .i64 a.f0.f0), .d (.int .i64 a.f0.f1), .d (.int .i64 a.f0.f2), .d (.ints .u8 a.f0.f3), .d (.ints .u8 a.f0.f4), .d (.int .i64 a.f0.f5.f0), .d (.int .i64 a.f0.f5.f1), .d (.ints .u8 a.f0.f5.f2), .d (.ints .u8 a.f0.f5.f3), .d (.bss a.f0.f5.f4), .d (.bss a.f1)])) (ps := [.d (.int .i64 a.f0.f0), .d (.int .i64 a.f0.f1), .d (.int .i64 a.f0.f2), .d (.ints .u8 a.f0.f3), .d (.ints .u8 a.f0.f4), .d (.int .i64 a.f0.f5.f0), .d (.int .i64 a.f0.f5.f1), .d (.ints .u8 a.f0.f5.f2), .d (.ints .u8 a.f0.f5.f3), .d (.bss a.f0.f5.f4), .d (.bss a.f1)]) rfl rfl (lt_ok rfl) rfl rfl rfl rfl rfl) ?_
 refine TL.cons rfl (Step.alloc (cs := [.int .i64 0, .int .i64 0, .int .i64 0, .slice none 0 0, .slice none 0 0, .int .i64 0, .int .i64 0, .slice none 0 0, .slice none 0 0, .slice none 0 0, .slice none 0 0]) (ps := [.d (.int .i64 0), .d (.int .i64 0), .d (.int .i64 0), .nil, .nil, .d (.int .i64 0), .d (.int .i64 0), .nil, .nil, .nil, .nil]) rfl rfl (lt_ok rfl) (by kernel_rfl) rfl rfl rfl rfl) ?_
 refine TL.nil ?_
 refine T.seq ?_
 refine T.region ?_
 refine TL.cons rfl (Step.alloc (cs := [.int .i64 0, .int .i64 0, .int .i64 0, .slice none 0 0, .slice none 0 0, .int .i64 0, .int .i64 0, .slice none 0 0, .slice none 0 0, .slice none 0 0, .slice none 0 0]) (ps := [.d (.int .i64 0), .d (.int .i64 0), .d (.int .i64 0), .nil, .nil, .d (.int .i64 0), .d (.int .i64 0), .nil, .nil, .nil, .nil]) rfl rfl (lt_ok rfl) (by kernel_rfl) rfl rfl rfl rfl) ?_
 refine TL.nil ?_
 refine T.seq ?_
 refine T.region ?_
 refine TL.cons rfl (Step.fieldAddr (q := 0) (off := 0) (n := 10) (one := false) rfl rfl (lt_ok rfl) (by kernel_rfl) (Nat.succ_ne_zero _) rfl) ?_
 refine TL.cons rfl (Step.load_box_agg (n := 10) (qs := [.d (.int .i64 a.f0.f0), .d (.int .i64 a.f0.f1), .d (.int .i64 a.f0.f2), .d (.ints .u8 a.f0.f3), .d (.ints .u8 a.f0.f4), .d (.int .i64 a.f0.f5.f0), .d (.int .i64 a.f0.f5.f1), .d (.ints .u8 a.f0.f5.f2), .d (.ints .u8 a.f0.f5.f3), .d (.bss a.f0.f5.f4)]) rfl rfl (lt_ok rfl) (by kernel_rfl) rfl rfl rfl rfl) ?_
 refine TL.cons rfl (Step.call (f := 28) (xs := [.tmp 5]) (ps := [(.agg [.d (.int .i64 a.f0.f0), .d (.int .i64 a.f0.f1), .d (.int .i64 a.f0.f2), .d (.ints .u8 a.f0.f3), .d (.ints .u8 a.f0.f4), .d (.int .i64 a.f0.f5.f0), .d (.int .i64 a.f0.f5.f1), .d (.ints .u8 a.f0.f5.f2), .d (.ints .u8 a.f0.f5.f3), .d (.bss a.f0.f5.f4)])]) false (g := .func 28) rfl rfl (lt_ok rfl) rfl (by kernel_rfl) rfl (.cons (.agg (.cons (.d _) (.cons (.d _) (.cons (.d _) (.cons (.d _) (.cons (.d _) (.cons (.d _) (.cons (.d _) (.cons (.d _) (.cons (.d _) (.cons (.d _) .nil))))))))))) .nil) (ok_laws_toHead a.f0 (by first | assumption | exact ⟨‹_›, ‹_›⟩ | (refine mem_getD (p := SHead.sm) h0_.2 (by omega)) | exact mem_getD h0_.2 (by omega))) (.inr rfl) rfl (by simp) rfl) ?_
 refine TL.cons rfl (Step.fieldAddr (q := 0) (off := 0) (n := 10) (one := false) rfl rfl (lt_ok rfl) (by kernel_rfl) (Nat.succ_ne_zero _) rfl) ?_
 refine TL.cons rfl (Step.store_box (n := 10) (p := (.agg [.d (.int .i64 a.f0.f0), .d (.int .i64 a.f0.f1), .d (.int .i64 a.f0.f2), .row 4006 [], .row 5006 [], .d (.int .i64 a.f0.f5.f0), .d (.int .i64 a.f0.f5.f1), .row 8006 [], .row 9006 [], .row 10006 []])) (qs := [.d (.int .i64 a.f0.f0), .d (.int .i64 a.f0.f1), .d (.int .i64 a.f0.f2), .row 4006 [], .row 5006 [], .d (.int .i64 a.f0.f5.f0), .d (.int .i64 a.f0.f5.f1), .row 8006 [], .row 9006 [], .row 10006 []]) (ps' := [.d (.int .i64 a.f0.f0), .d (.int .i64 a.f0.f1), .d (.int .i64 a.f0.f2), .row 4006 [], .row 5006 [], .d (.int .i64 a.f0.f5.f0), .d (.int .i64 a.f0.f5.f1), .row 8006 [], .row 9006 [], .row 10006 [], .nil]) rfl rfl (by kernel_rfl) rfl rfl rfl rfl rfl rfl (le_ok rfl) rfl) ?_
 refine TL.nil ?_
 refine T.seq ?_
 refine T.region ?_
 refine TL.cons rfl (Step.fieldAddr (q := 0) (off := 10) (n := 1) (one := true) rfl rfl (lt_ok rfl) (by kernel_rfl) (Nat.succ_ne_zero _) rfl) ?_
 refine TL.cons rfl (Step.load_box (c := .d (.bss a.f1)) rfl rfl (lt_ok rfl) (by kernel_rfl) rfl rfl rfl) ?_
 refine TL.cons rfl (Step.call (f := 88) (xs := [.tmp 9]) (ps := [(.one (.d (.bss a.f1)))]) false (g := .func 88) rfl rfl (lt_ok rfl) rfl (by kernel_rfl) rfl (.cons (.one (.d _)) .nil) (ok_laws_toByteSS a.f1 (by first | assumption | exact ⟨‹_›, ‹_›⟩ | exact mem_getD h0_.2 (by omega))) (.inr rfl) rfl (by simp) rfl) ?_
 refine TL.cons rfl (Step.fieldAddr (q := 0) (off := 10) (n := 1) (one := true) rfl rfl (lt_ok rfl) (by kernel_rfl) (Nat.succ_ne_zero _) rfl) ?_
 refine TL.cons rfl (Step.store_box (n := 1) (p := (.one (.row 1010 []))) (qs := [.row 1010 []]) (ps' := [.d (.int .i64 a.f0.f0), .d (.int .i64 a.f0.f1), .d (.int .i64 a.f0.f2), .row 4006 [], .row 5006 [], .d (.int .i64 a.f0.f5.f0), .d (.int .i64 a.f0.f5.f1), .row 8006 [], .row 9006 [], .row 10006 [], .row 1010 []]) rfl rfl (by kernel_rfl) rfl rfl rfl rfl rfl rfl (le_ok rfl) rfl) ?_
 refine TL.nil ?_
 refine T.seq ?_
 refine T.region ?_
 refine TL.cons rfl (Step.load_box_agg (n := 11) (qs := [.d (.int .i64 a.f0.f0), .d (.int .i64 a.f0.f1), .d (.int .i64 a.f0.f2), .row 4006 [], .row 5006 [], .d (.int .i64 a.f0.f5.f0), .d (.int .i64 a.f0.f5.f1), .row 8006 [], .row 9006 [], .row 10006 [], .row 1010 []]) rfl rfl (lt_ok rfl) (by kernel_rfl) rfl rfl rfl rfl) ?_
 refine TL.cons rfl (Step.store_box (n := 11) (p := (.agg [.d (.int .i64 a.f0.f0), .d (.int .i64 a.f0.f1), .d (.int .i64 a.f0.f2), .row 4006 [], .row 5006 [], .d (.int .i64 a.f0.f5.f0), .d (.int .i64 a.f0.f5.f1), .row 8006 [], .row 9006 [], .row 10006 [], .row 1010 []])) (qs := [.d (.int .i64 a.f0.f0), .d (.int .i64 a.f0.f1), .d (.int .i64 a.f0.f2), .row 4006 [], .row 5006 [], .d (.int .i64 a.f0.f5.f0), .d (.int .i64 a.f0.f5.f1), .row 8006 [], .row 9006 [], .row 10006 [], .row 1010 []]) (ps' := [.d (.int .i64 a.f0.f0), .d (.int .i64 a.f0.f1), .d (.int .i64 a.f0.f2), .row 4006 [], .row 5006 [], .d (.int .i64 a.f0.f5.f0), .d (.int .i64 a.f0.f5.f1), .row 8006 [], .row 9006 [], .row 10006 [], .row 1010 []]) rfl rfl (by kernel_rfl) rfl rfl rfl rfl rfl rfl (le_ok rfl) rfl) ?_
 refine TL.nil ?_
 refine T.ret ?_
 exact ⟨[(true, [.d (.int .i64 a.f0.f0), .d (.int .i64 a.f0.f1), .d (.int .i64 a.f0.f2), .row 4006 [], .row 5006 [], .d (.int .i64 a.f0.f5.f0), .d (.int .i64 a.f0.f5.f1), .row 8006 [], .row 9006 [], .row 10006 [], .row 1010 []])], (.cons rfl .nil), rfl, [4006, 5006, 8006, 9006, 10006, 1010], (RetC.rd' (by rfl) (RetC.rd' (by rfl) (RetC.rd' (by rfl) (RetC.own' rfl (by rfl) rfl (RetC.own' rfl (by rfl) rfl (RetC.rd' (by rfl) (RetC.rd' (by rfl) (RetC.own' rfl (by rfl) rfl (RetC.own' rfl (by rfl) rfl (RetC.own' rfl (by rfl) rfl (RetC.own' rfl (by rfl) rfl .nil)))))))))))⟩
theorem ok_laws_toHeadS (a : List SHead) (h0_ : a.length ≤ 1048576 ∧ ∀ y ∈ a, SHead.sm y) : RO Try.prog 108 [.one (.sl 10 (a.map SHead.cells))] [(false, [.own 55 (.sl 10 (a.map SHead.cells))])] := by
 refine RO.intro Try.func108 rfl 23 rfl (le_ok rfl) fun w Z => ?_
 refine T.bnd 0 0 rfl rfl fun hb_0_0 => ?_
 simp only [D.size, List.length_map] at hb_0_0
 have h0b := h0_.1
 refine T.seq ?_
 refine T.region ?_
 refine TL.cons rfl (Step.assign (p := (.one (.nil))) rfl rfl (lt_ok rfl) rfl) ?_
 refine TL.nil ?_
 refine T.seq ?_
 refine T.region ?_
 refine TL.cons rfl (Step.move (p := (.one (.d (.sl 10 (a.map SHead.cells))))) rfl rfl (lt_ok rfl) rfl) ?_
 refine TL.cons rfl (Step.len' (e := 50) (z := 10) (d := (.sl 10 (a.map SHead.cells))) (n := a.length) rfl rfl (lt_ok rfl) (by kernel_rfl) rfl rfl (by simp [D.size])) ?_
 refine TL.cons rfl (Step.make (e := 55) (z := 10) (by_ := 160) (n := (a.length : Int)) (zs := [.int .i64 0, .int .i64 0, .int .i64 0, .slice none 0 0, .slice none 0 0, .int .i64 0, .int .i64 0, .slice none 0 0, .slice none 0 0, .slice none 0 0]) (zd := [(.int .i64 0), (.int .i64 0), (.int .i64 0), (.ints .u8 []), (.ints .u8 []), (.int .i64 0), (.int .i64 0), (.ints .u8 []), (.ints .u8 []), (.bss [])]) (d := (.sl 10 ((List.replicate a.length default).map SHead.cells))) rfl rfl (lt_ok rfl) (by kernel_rfl) (lt_ok rfl) rfl (by first | omega | (simp; omega)) (by first | omega | (simp; omega)) (by first | omega | (simp; omega)) (by kernel_rfl) (zeroB_ok _ _ (by kernel_rfl)) rfl (by simp) (by simp only [D.flat, List.map_replicate]; rfl) (by simp [D.size]) rfl (wf_map SHead.len _)) ?_
 refine TL.cons rfl (Step.assign (p := (.one (.row 7 []))) rfl rfl (lt_ok rfl) rfl) ?_
 refine TL.nil ?_
 refine T.seq ?_
 refine T.seq ?_
 refine T.region ?_
 refine TL.cons rfl (Step.assign (p := (.one (.d (.int .i64 0)))) rfl rfl (lt_ok rfl) rfl) ?_
 refine TL.nil ?_
 refine T.block ?_
 refine T.loop (ι := Nat) (fun x => { tm := [(0, (.one (.d (.sl 10 (a.map SHead.cells))))), (2, (.one (.nil))), (3, (.one (.row 7 []))), (4, (.one (.d (.int .i64 (x : Int)))))], rows := [(7, (55, (.sl 10 ((a.take x ++ List.replicate (a.length - x) default : List SHead).map SHead.cells))))], boxes := [] }) (fun x => x ≤ a.length) (fun x => a.length - x) 0 ?_ ?_ ?_
 · exact Env.le_mk ⟨rfl, rfl, rfl, by first | rfl | exact congrArg (fun x => some (55, ((.sl 10 (x.map SHead.cells)) : D))) (fill_set a default default i (by omega)), trivial⟩ ⟨by first | rfl | exact congrArg (fun x => some (55, ((.sl 10 (x.map SHead.cells)) : D))) (fill_set a default default i (by omega)), trivial⟩ trivial
 · exact Nat.zero_le _
 ·
  intro i hx
  try dsimp only at hx ⊢
  refine T.seq ?_
  refine T.seq ?_
  refine T.region ?_
  refine TL.cons rfl (Step.move (p := (.one (.d (.int .i64 (i : Int))))) rfl rfl (lt_ok rfl) rfl) ?_
  refine TL.cons rfl (Step.move (p := (.one (.d (.sl 10 (a.map SHead.cells))))) rfl rfl (lt_ok rfl) rfl) ?_
  refine TL.cons rfl (Step.len' (e := 50) (z := 10) (d := (.sl 10 (a.map SHead.cells))) (n := a.length) rfl rfl (lt_ok rfl) (by kernel_rfl) rfl rfl (by simp [D.size])) ?_
  refine TL.cons rfl (Step.bin rfl rfl (lt_ok rfl) rfl rfl (Bin.lss (k := .i64) (a := (i : Int)) (b := (a.length : Int)))) ?_
  refine TL.nil ?_
  refine T.cond (b := decide ((i : Int) < (a.length : Int))) rfl (fun h1 => ?_) (fun h1 => ?_)
  ·
   replace h1 := of_decide_eq_true h1
   refine T.skip ?_
   refine T.seq ?_
   refine T.block ?_
   refine T.region ?_
   refine TL.cons rfl (Step.move (p := (.one (.row 7 []))) rfl rfl (lt_ok rfl) rfl) ?_
   refine TL.cons rfl (Step.move (p := (.one (.d (.int .i64 (i : Int))))) rfl rfl (lt_ok rfl) rfl) ?_
   refine TL.cons rfl (Step.move (p := (.one (.d (.sl 10 (a.map SHead.cells))))) rfl rfl (lt_ok rfl) rfl) ?_
   refine TL.cons rfl (Step.move (p := (.one (.d (.int .i64 (i : Int))))) rfl rfl (lt_ok rfl) rfl) ?_
   refine TL.cons rfl (Step.index (e := 50) (z := 10) (i := (i : Int)) rfl rfl (lt_ok rfl) (by kernel_rfl) rfl rfl rfl (lt_ok rfl) rfl (by first | omega | (simp; omega)) (by simp only [D.size]; first | omega | (simp; omega))) ?_
   refine TL.cons rfl (Step.load_agg (n := 10) (cs := [.d (.int .i64 (a.getD i default).f0), .d (.int .i64 (a.getD i default).f1), .d (.int .i64 (a.getD i default).f2), .d (.ints .u8 (a.getD i default).f3), .d (.ints .u8 (a.getD i default).f4), .d (.int .i64 (a.getD i default).f5.f0), .d (.int .i64 (a.getD i default).f5.f1), .d (.ints .u8 (a.getD i default).f5.f2), .d (.ints .u8 (a.getD i default).f5.f3), .d (.bss (a.getD i default).f5.f4)]) rfl rfl (lt_ok rfl) (by kernel_rfl) rfl rfl (by simp only [List.range, List.range.loop, List.map_cons, List.map_nil]; rw [cell_map default (by first | omega | (simp; omega)), cell_map default (by first | omega | (simp; omega)), cell_map default (by first | omega | (simp; omega)), cell_map default (by first | omega | (simp; omega)), cell_map default (by first | omega | (simp; omega)), cell_map default (by first | omega | (simp; omega)), cell_map default (by first | omega | (simp; omega)), cell_map default (by first | omega | (simp; omega)), cell_map default (by first | omega | (simp; omega)), cell_map default (by first | omega | (simp; omega))]; rfl)) ?_
   refine TL.cons rfl (Step.call (f := 28) (xs := [.tmp 19]) (ps := [(.agg [.d (.int .i64 (a.getD i default).f0), .d (.int .i64 (a.getD i default).f1), .d (.int .i64 (a.getD i default).f2), .d (.ints .u8 (a.getD i default).f3), .d (.ints .u8 (a.getD i default).f4), .d (.int .i64 (a.getD i default).f5.f0), .d (.int .i64 (a.getD i default).f5.f1), .d (.ints .u8 (a.getD i default).f5.f2), .d (.ints .u8 (a.getD i default).f5.f3), .d (.bss (a.getD i default).f5.f4)])]) false (g := .func 28) rfl rfl (lt_ok rfl) rfl (by kernel_rfl) rfl (.cons (.agg (.cons (.d _) (.cons (.d _) (.cons (.d _) (.cons (.d _) (.cons (.d _) (.cons (.d _) (.cons (.d _) (.cons (.d _) (.cons (.d _) (.cons (.d _) .nil))))))))))) .nil) (ok_laws_toHead (a.getD i default) (by first | assumption | exact ⟨‹_›, ‹_›⟩ | (refine mem_getD (p := SHead.sm) h0_.2 (by omega)) | exact mem_getD h0_.2 (by omega))) (.inr rfl) rfl (by simp) rfl) ?_
   refine TL.cons rfl (Step.index_row (e := 55) (z := 10) (i := (i : Int)) rfl rfl (lt_ok rfl) (by kernel_rfl) rfl rfl rfl rfl (lt_ok rfl) rfl (by first | omega | (simp; omega)) (by simp only [D.at_, D.cell, D.size]; first | omega | (simp; omega))) ?_
   refine TL.cons rfl (Step.store_row (n := 10) (p := (.agg [.d (.int .i64 (a.getD i default).f0), .d (.int .i64 (a.getD i default).f1), .d (.int .i64 (a.getD i default).f2), .row 4020 [], .row 5020 [], .d (.int .i64 (a.getD i default).f5.f0), .d (.int .i64 (a.getD i default).f5.f1), .row 8020 [], .row 9020 [], .row 10020 []])) (ps := [.d (.int .i64 (a.getD i default).f0), .d (.int .i64 (a.getD i default).f1), .d (.int .i64 (a.getD i default).f2), .row 4020 [], .row 5020 [], .d (.int .i64 (a.getD i default).f5.f0), .d (.int .i64 (a.getD i default).f5.f1), .row 8020 [], .row 9020 [], .row 10020 []]) (es := SHead.cells (a.getD i default)) (ss := [4020, 5020, 8020, 9020, 10020]) (d1 := (.sl 10 (((a.take i ++ List.replicate (a.length - i) default : List SHead).set i (a.getD i default)).map SHead.cells))) (d' := (.sl 10 (((a.take i ++ List.replicate (a.length - i) default : List SHead).set i (a.getD i default)).map SHead.cells))) rfl rfl (by kernel_rfl) rfl rfl rfl rfl rfl rfl (.val rfl (.val rfl (.val rfl (.row rfl (by simp) (.row rfl (by simp) (.val rfl (.val rfl (.row rfl (by simp) (.row rfl (by simp) (.row rfl (by simp) .nil)))))))))) (by simp) (Putd.enc SHead.len (xs := (a.take i ++ List.replicate (a.length - i) default : List SHead)) (by simp; first | omega | (simp; omega)) (a.getD i default)) rfl) ?_
   refine TL.nil ?_
   refine T.region ?_
   refine TL.cons rfl (Step.move (p := (.one (.d (.int .i64 (i : Int))))) rfl rfl (lt_ok rfl) rfl) ?_
   refine TL.cons rfl (Step.bin (r := .int .i64 ((i : Int) + 1)) rfl rfl (lt_ok rfl) rfl rfl (Bin.add (a := (i : Int)) (b := 1) (by first | exact wrap_ok (by first | omega | (simp; omega)) (by first | omega | (simp; omega)) | rfl))) ?_
   refine TL.cons rfl (Step.assign (p := (.one (.d (.int .i64 ((i : Int) + 1))))) rfl rfl (lt_ok rfl) rfl) ?_
   refine TL.nil ?_
   exact ⟨i + 1, by omega, by omega, Env.le_mk ⟨rfl, rfl, rfl, by first | rfl | exact congrArg (fun x => some (55, ((.sl 10 (x.map SHead.cells)) : D))) (fill_set a default default i (by omega)), trivial⟩ ⟨by first | rfl | exact congrArg (fun x => some (55, ((.sl 10 (x.map SHead.cells)) : D))) (fill_set a default default i (by omega)), trivial⟩ trivial⟩
  ·
   replace h1 := of_decide_eq_false h1
   refine T.exit ?_
   refine T.seq ?_
   refine T.region ?_
   refine TL.cons rfl (Step.move (p := (.one (.row 7 []))) rfl rfl (lt_ok rfl) rfl) ?_
   refine TL.cons rfl (Step.assign (p := (.one (.row 7 []))) rfl rfl (lt_ok rfl) rfl) ?_
   refine TL.nil ?_
   refine T.ret ?_
   exact ⟨[(false, [.row 7 []])], (.cons rfl .nil), rfl, [7], (RetC.own' rfl (by first | rfl | (congr 1; rw [fill_all' _ _ _ (by omega)]) | (rw [fill_all' _ _ _ (by omega)])) rfl .nil)⟩
theorem ok_laws_toProof (a : SProof) (h0_ : a.sm) : RO Try.prog 49 [.agg a.cells] [(true, [.own 55 (.sl 10 (a.f0.map SHead.cells)), .rd (.int .i64 a.f1.f0), .rd (.int .i64 a.f1.f1), .own 5 (.ints .u8 a.f1.f2), .own 5 (.ints .u8 a.f1.f3), .own 37 (.bss a.f1.f4)])] := by
 refine RO.intro Try.func49 rfl 13 rfl (le_ok rfl) fun w Z => ?_
 obtain ⟨s0, s1⟩ := h0_
 refine T.seq ?_
 refine T.region ?_
 refine TL.cons rfl (Step.box (p := (.agg [.d (.sl 10 (a.f0.map SHead.cells)), .d (.int .i64 a.f1.f0), .d (.int .i64 a.f1.f1), .d (.ints .u8 a.f1.f2), .d (.ints .u8 a.f1.f3), .d (.bss a.f1.f4)])) (ps := [.d (.sl 10 (a.f0.map SHead.cells)), .d (.int .i64 a.f1.f0), .d (.int .i64 a.f1.f1), .d (.ints .u8 a.f1.f2), .d (.ints .u8 a.f1.f3), .d (.bss a.f1.f4)]) rfl rfl (lt_ok rfl) rfl rfl rfl rfl rfl) ?_
 refine TL.cons rfl (Step.alloc (cs := [.slice none 0 0, .int .i64 0, .int .i64 0, .slice none 0 0, .slice none 0 0, .slice none 0 0]) (ps := [.nil, .d (.int .i64 0), .d (.int .i64 0), .nil, .nil, .nil]) rfl rfl (lt_ok rfl) (by kernel_rfl) rfl rfl rfl rfl) ?_
 refine TL.nil ?_
 refine T.seq ?_
 refine T.region ?_
 refine TL.cons rfl (Step.alloc (cs := [.slice none 0 0, .int .i64 0, .int .i64 0, .slice none 0 0, .slice none 0 0, .slice none 0 0]) (ps := [.nil, .d (.int .i64 0), .d (.int .i64 0), .nil, .nil, .nil]) rfl rfl (lt_ok rfl) (by kernel_rfl) rfl rfl rfl rfl) ?_
 refine TL.nil ?_
 refine T.seq ?_
 refine T.region ?_
 refine TL.cons rfl (Step.fieldAddr (q := 0) (off := 0) (n := 1) (one := true) rfl rfl (lt_ok rfl) (by kernel_rfl) (Nat.succ_ne_zero _) rfl) ?_
 refine TL.cons rfl (Step.load_box (c := .d (.sl 10 (a.f0.map SHead.cells))) rfl rfl (lt_ok rfl) (by kernel_rfl) rfl rfl rfl) ?_
 refine TL.cons rfl (Step.call (f := 108) (xs := [.tmp 5]) (ps := [(.one (.d (.sl 10 (a.f0.map SHead.cells))))]) false (g := .func 108) rfl rfl (lt_ok rfl) rfl (by kernel_rfl) rfl (.cons (.one (.d _)) .nil) (ok_laws_toHeadS a.f0 (by first | assumption | exact ⟨‹_›, ‹_›⟩ | exact mem_getD h0_.2 (by omega))) (.inr rfl) rfl (by simp) rfl) ?_
 refine TL.cons rfl (Step.fieldAddr (q := 0) (off := 0) (n := 1) (one := true) rfl rfl (lt_ok rfl) (by kernel_rfl) (Nat.succ_ne_zero _) rfl) ?_
 refine TL.cons rfl (Step.store_box (n := 1) (p := (.one (.row 1006 []))) (qs := [.row 1006 []]) (ps' := [.row 1006 [], .d (.int .i64 0), .d (.int .i64 0), .nil, .nil, .nil]) rfl rfl (by kernel_rfl) rfl rfl rfl rfl rfl rfl (le_ok rfl) rfl) ?_
 refine TL.nil ?_
 refine T.seq ?_
 refine T.region ?_
 refine TL.cons rfl (Step.fieldAddr (q := 0) (off := 1) (n := 5) (one := false) rfl rfl (lt_ok rfl) (by kernel_rfl) (Nat.succ_ne_zero _) rfl) ?_
 refine TL.cons rfl (Step.load_box_agg (n := 5) (qs := [.d (.int .i64 a.f1.f0), .d (.int .i64 a.f1.f1), .d (.ints .u8 a.f1.f2), .d (.ints .u8 a.f1.f3), .d (.bss a.f1.f4)]) rfl rfl (lt_ok rfl) (by kernel_rfl) rfl rfl rfl rfl) ?_
 refine TL.cons rfl (Step.call (f := 33) (xs := [.tmp 9]) (ps := [(.agg [.d (.int .i64 a.f1.f0), .d (.int .i64 a.f1.f1), .d (.ints .u8 a.f1.f2), .d (.ints .u8 a.f1.f3), .d (.bss a.f1.f4)])]) false (g := .func 33) rfl rfl (lt_ok rfl) rfl (by kernel_rfl) rfl (.cons (.agg (.cons (.d _) (.cons (.d _) (.cons (.d _) (.cons (.d _) (.cons (.d _) .nil)))))) .nil) (ok_laws_toQc a.f1 (by first | assumption | exact ⟨‹_›, ‹_›⟩ | (refine mem_getD (p := SQc.sm) h0_.2 (by omega)) | exact mem_getD h0_.2 (by omega))) (.inr rfl) rfl (by simp) rfl) ?_
 refine TL.cons rfl (Step.fieldAddr (q := 0) (off := 1) (n := 5) (one := false) rfl rfl (lt_ok rfl) (by kernel_rfl) (Nat.succ_ne_zero _) rfl) ?_
 refine TL.cons rfl (Step.store_box (n := 5) (p := (.agg [.d (.int .i64 a.f1.f0), .d (.int .i64 a.f1.f1), .row 3010 [], .row 4010 [], .row 5010 []])) (qs := [.d (.int .i64 a.f1.f0), .d (.int .i64 a.f1.f1), .row 3010 [], .row 4010 [], .row 5010 []]) (ps' := [.row 1006 [], .d (.int .i64 a.f1.f0), .d (.int .i64 a.f1.f1), .row 3010 [], .row 4010 [], .row 5010 []]) rfl rfl (by kernel_rfl) rfl rfl rfl rfl rfl rfl (le_ok rfl) rfl) ?_
 refine TL.nil ?_
 refine T.seq ?_
 refine T.region ?_
 refine TL.cons rfl (Step.load_box_agg (n := 6) (qs := [.row 1006 [], .d (.int .i64 a.f1.f0), .d (.int .i64 a.f1.f1), .row 3010 [], .row 4010 [], .row 5010 []]) rfl rfl (lt_ok rfl) (by kernel_rfl) rfl rfl rfl rfl) ?_
 refine TL.cons rfl (Step.store_box (n := 6) (p := (.agg [.row 1006 [], .d (.int .i64 a.f1.f0), .d (.int .i64 a.f1.f1), .row 3010 [], .row 4010 [], .row 5010 []])) (qs := [.row 1006 [], .d (.int .i64 a.f1.f0), .d (.int .i64 a.f1.f1), .row 3010 [], .row 4010 [], .row 5010 []]) (ps' := [.row 1006 [], .d (.int .i64 a.f1.f0), .d (.int .i64 a.f1.f1), .row 3010 [], .row 4010 [], .row 5010 []]) rfl rfl (by kernel_rfl) rfl rfl rfl rfl rfl rfl (le_ok rfl) rfl) ?_
 refine TL.nil ?_
 refine T.ret ?_
 exact ⟨[(true, [.row 1006 [], .d (.int .i64 a.f1.f0), .d (.int .i64 a.f1.f1), .row 3010 [], .row 4010 [], .row 5010 []])], (.cons rfl .nil), rfl, [1006, 3010, 4010, 5010], (RetC.own' rfl (by rfl) rfl (RetC.rd' (by rfl) (RetC.rd' (by rfl) (RetC.own' rfl (by rfl) rfl (RetC.own' rfl (by rfl) rfl (RetC.own' rfl (by rfl) rfl .nil))))))⟩
theorem ok_laws_toVote (a : SVote) (h0_ : a.sm) : RO Try.prog 121 [.agg a.cells] [(true, [.rd (.int .i64 a.f0), .rd (.int .i64 a.f1), .own 5 (.ints .u8 a.f2), .rd (.int .i64 a.f3), .own 5 (.ints .u8 a.f4)])] := by
 refine RO.intro Try.func121 rfl 22 rfl (le_ok rfl) fun w Z => ?_
 obtain ⟨s0, s1⟩ := h0_
 refine T.seq ?_
 refine T.region ?_
 refine TL.cons rfl (Step.box (p := (.agg [.d (.int .i64 a.f0), .d (.int .i64 a.f1), .d (.ints .u8 a.f2), .d (.int .i64 a.f3), .d (.ints .u8 a.f4)])) (ps := [.d (.int .i64 a.f0), .d (.int .i64 a.f1), .d (.ints .u8 a.f2), .d (.int .i64 a.f3), .d (.ints .u8 a.f4)]) rfl rfl (lt_ok rfl) rfl rfl rfl rfl rfl) ?_
 refine TL.cons rfl (Step.alloc (cs := [.int .i64 0, .int .i64 0, .slice none 0 0, .int .i64 0, .slice none 0 0]) (ps := [.d (.int .i64 0), .d (.int .i64 0), .nil, .d (.int .i64 0), .nil]) rfl rfl (lt_ok rfl) (by kernel_rfl) rfl rfl rfl rfl) ?_
 refine TL.nil ?_
 refine T.seq ?_
 refine T.region ?_
 refine TL.cons rfl (Step.alloc (cs := [.int .i64 0, .int .i64 0, .slice none 0 0, .int .i64 0, .slice none 0 0]) (ps := [.d (.int .i64 0), .d (.int .i64 0), .nil, .d (.int .i64 0), .nil]) rfl rfl (lt_ok rfl) (by kernel_rfl) rfl rfl rfl rfl) ?_
 refine TL.nil ?_
 refine T.seq ?_
 refine T.region ?_
 refine TL.cons rfl (Step.fieldAddr (q := 0) (off := 0) (n := 1) (one := true) rfl rfl (lt_ok rfl) (by kernel_rfl) (Nat.succ_ne_zero _) rfl) ?_
 refine TL.cons rfl (Step.load_box (c := .d (.int .i64 a.f0)) rfl rfl (lt_ok rfl) (by kernel_rfl) rfl rfl rfl) ?_
 refine TL.cons rfl (Step.fieldAddr (q := 0) (off := 0) (n := 1) (one := true) rfl rfl (lt_ok rfl) (by kernel_rfl) (Nat.succ_ne_zero _) rfl) ?_
 refine TL.cons rfl (Step.store_box (n := 1) (p := (.one (.d (.int .i64 a.f0)))) (qs := [.d (.int .i64 a.f0)]) (ps' := [.d (.int .i64 a.f0), .d (.int .i64 0), .nil, .d (.int .i64 0), .nil]) rfl rfl (by kernel_rfl) rfl rfl rfl rfl rfl rfl (le_ok rfl) rfl) ?_
 refine TL.nil ?_
 refine T.seq ?_
 refine T.region ?_
 refine TL.cons rfl (Step.fieldAddr (q := 0) (off := 1) (n := 1) (one := true) rfl rfl (lt_ok rfl) (by kernel_rfl) (Nat.succ_ne_zero _) rfl) ?_
 refine TL.cons rfl (Step.load_box (c := .d (.int .i64 a.f1)) rfl rfl (lt_ok rfl) (by kernel_rfl) rfl rfl rfl) ?_
 refine TL.cons rfl (Step.fieldAddr (q := 0) (off := 1) (n := 1) (one := true) rfl rfl (lt_ok rfl) (by kernel_rfl) (Nat.succ_ne_zero _) rfl) ?_
 refine TL.cons rfl (Step.store_box (n := 1) (p := (.one (.d (.int .i64 a.f1)))) (qs := [.d (.int .i64 a.f1)]) (ps' := [.d (.int .i64 a.f0), .d (.int .i64 a.f1), .nil, .d (.int .i64 0), .nil]) rfl rfl (by kernel_rfl) rfl rfl rfl rfl rfl rfl (le_ok rfl) rfl) ?_
 refine TL.nil ?_
 refine T.seq ?_
 refine T.region ?_
 refine TL.cons rfl (Step.fieldAddr (q := 0) (off := 2) (n := 1) (one := true) rfl rfl (lt_ok rfl) (by kernel_rfl) (Nat.succ_ne_zero _) rfl) ?_
 refine TL.cons rfl (Step.load_box (c := .d (.ints .u8 a.f2)) rfl rfl (lt_ok rfl) (by kernel_rfl) rfl rfl rfl) ?_
 refine TL.cons rfl (Step.call (f := 87) (xs := [.tmp 11]) (ps := [(.one (.d (.ints .u8 a.f2)))]) false (g := .func 87) rfl rfl (lt_ok rfl) rfl (by kernel_rfl) rfl (.cons (.one (.d _)) .nil) (ok_laws_toByteS a.f2 (by first | assumption | exact ⟨‹_›, ‹_›⟩ | exact mem_getD h0_.2 (by omega))) (.inr rfl) rfl (by simp) rfl) ?_
 refine TL.cons rfl (Step.fieldAddr (q := 0) (off := 2) (n := 1) (one := true) rfl rfl (lt_ok rfl) (by kernel_rfl) (Nat.succ_ne_zero _) rfl) ?_
 refine TL.cons rfl (Step.store_box (n := 1) (p := (.one (.row 1012 []))) (qs := [.row 1012 []]) (ps' := [.d (.int .i64 a.f0), .d (.int .i64 a.f1), .row 1012 [], .d (.int .i64 0), .nil]) rfl rfl (by kernel_rfl) rfl rfl rfl rfl rfl rfl (le_ok rfl) rfl) ?_
 refine TL.nil ?_
 refine T.seq ?_
 refine T.region ?_
 refine TL.cons rfl (Step.fieldAddr (q := 0) (off := 3) (n := 1) (one := true) rfl rfl (lt_ok rfl) (by kernel_rfl) (Nat.succ_ne_zero _) rfl) ?_
 refine TL.cons rfl (Step.load_box (c := .d (.int .i64 a.f3)) rfl rfl (lt_ok rfl) (by kernel_rfl) rfl rfl rfl) ?_
 refine TL.cons rfl (Step.fieldAddr (q := 0) (off := 3) (n := 1) (one := true) rfl rfl (lt_ok rfl) (by kernel_rfl) (Nat.succ_ne_zero _) rfl) ?_
 refine TL.cons rfl (Step.store_box (n := 1) (p := (.one (.d (.int .i64 a.f3)))) (qs := [.d (.int .i64 a.f3)]) (ps' := [.d (.int .i64 a.f0), .d (.int .i64 a.f1), .row 1012 [], .d (.int .i64 a.f3), .nil]) rfl rfl (by kernel_rfl) rfl rfl rfl rfl rfl rfl (le_ok rfl) rfl) ?_
 refine TL.nil ?_
 refine T.seq ?_
 refine T.region ?_
 refine TL.cons rfl (Step.fieldAddr (q := 0) (off := 4) (n := 1) (one := true) rfl rfl (lt_ok rfl) (by kernel_rfl) (Nat.succ_ne_zero _) rfl) ?_
 refine TL.cons rfl (Step.load_box (c := .d (.ints .u8 a.f4)) rfl rfl (lt_ok rfl) (by kernel_rfl) rfl rfl rfl) ?_
 refine TL.cons rfl (Step.call (f := 87) (xs := [.tmp 18]) (ps := [(.one (.d (.ints .u8 a.f4)))]) false (g := .func 87) rfl rfl (lt_ok rfl) rfl (by kernel_rfl) rfl (.cons (.one (.d _)) .nil) (ok_laws_toByteS a.f4 (by first | assumption | exact ⟨‹_›, ‹_›⟩ | exact mem_getD h0_.2 (by omega))) (.inr rfl) rfl (by simp) rfl) ?_
 refine TL.cons rfl (Step.fieldAddr (q := 0) (off := 4) (n := 1) (one := true) rfl rfl (lt_ok rfl) (by kernel_rfl) (Nat.succ_ne_zero _) rfl) ?_
 refine TL.cons rfl (Step.store_box (n := 1) (p := (.one (.row 1019 []))) (qs := [.row 1019 []]) (ps' := [.d (.int .i64 a.f0), .d (.int .i64 a.f1), .row 1012 [], .d (.int .i64 a.f3), .row 1019 []]) rfl rfl (by kernel_rfl) rfl rfl rfl rfl rfl rfl (le_ok rfl) rfl) ?_
 refine TL.nil ?_
 refine T.seq ?_
 refine T.region ?_
 refine TL.cons rfl (Step.load_box_agg (n := 5) (qs := [.d (.int .i64 a.f0), .d (.int .i64 a.f1), .row 1012 [], .d (.int .i64 a.f3), .row 1019 []]) rfl rfl (lt_ok rfl) (by kernel_rfl) rfl rfl rfl rfl) ?_
 refine TL.cons rfl (Step.store_box (n := 5) (p := (.agg [.d (.int .i64 a.f0), .d (.int .i64 a.f1), .row 1012 [], .d (.int .i64 a.f3), .row 1019 []])) (qs := [.d (.int .i64 a.f0), .d (.int .i64 a.f1), .row 1012 [], .d (.int .i64 a.f3), .row 1019 []]) (ps' := [.d (.int .i64 a.f0), .d (.int .i64 a.f1), .row 1012 [], .d (.int .i64 a.f3), .row 1019 []]) rfl rfl (by kernel_rfl) rfl rfl rfl rfl rfl rfl (le_ok rfl) rfl) ?_
 refine TL.nil ?_
 refine T.ret ?_
 exact ⟨[(true, [.d (.int .i64 a.f0), .d (.int .i64 a.f1), .row 1012 [], .d (.int .i64 a.f3), .row 1019 []])], (.cons rfl .nil), rfl, [1012, 1019], (RetC.rd' (by rfl) (RetC.rd' (by rfl) (RetC.own' rfl (by rfl) rfl (RetC.rd' (by rfl) (RetC.own' rfl (by rfl) rfl .nil)))))⟩
theorem ok_laws_toMsg (a : SMsg) (h0_ : a.sm) : RO Try.prog 143 [.agg a.cells] [(true, [.rd (.int .i64 a.f0), .rd (.int .i64 a.f1.f0), .rd (.int .i64 a.f1.f1), .own 5 (.ints .u8 a.f1.f2), .rd (.int .i64 a.f1.f3), .own 5 (.ints .u8 a.f1.f4), .rd (.int .i64 a.f2.f0), .rd (.int .i64 a.f2.f1), .own 5 (.ints .u8 a.f2.f2), .own 5 (.ints .u8 a.f2.f3), .own 37 (.bss a.f2.f4), .rd (.int .i64 a.f3.f0), .rd (.int .i64 a.f3.f1), .rd (.int .i64 a.f3.f2), .own 5 (.ints .u8 a.f3.f3), .own 5 (.ints .u8 a.f3.f4), .rd (.int .i64 a.f3.f5.f0), .rd (.int .i64 a.f3.f5.f1), .own 5 (.ints .u8 a.f3.f5.f2), .own 5 (.ints .u8 a.f3.f5.f3), .own 37 (.bss a.f3.f5.f4), .rd (.int .i64 a.f4.f0.f0), .rd (.int .i64 a.f4.f0.f1), .rd (.int .i64 a.f4.f0.f2), .own 5 (.ints .u8 a.f4.f0.f3), .own 5 (.ints .u8 a.f4.f0.f4), .rd (.int .i64 a.f4.f0.f5.f0), .rd (.int .i64 a.f4.f0.f5.f1), .own 5 (.ints .u8 a.f4.f0.f5.f2), .own 5 (.ints .u8 a.f4.f0.f5.f3), .own 37 (.bss a.f4.f0.f5.f4), .own 37 (.bss a.f4.f1), .rd (.int .i64 a.f5.f0), .own 113 (.sl 3 (a.f5.f1.map SEntry.cells)), .own 55 (.sl 10 (a.f6.f0.map SHead.cells)), .rd (.int .i64 a.f6.f1.f0), .rd (.int .i64 a.f6.f1.f1), .own 5 (.ints .u8 a.f6.f1.f2), .own 5 (.ints .u8 a.f6.f1.f3), .own 37 (.bss a.f6.f1.f4), .rd (.int .i64 a.f7.f0), .rd (.int .i64 a.f7.f1), .rd (.int .i64 a.f7.f2), .own 5 (.ints .u8 a.f7.f3), .own 37 (.bss a.f7.f4)])] := by
 refine RO.intro Try.func143 rfl 36 rfl (le_ok rfl) fun w Z => ?_
 obtain ⟨s0, s1, s2, s3, s4, s5, s6⟩ := h0_
 refine T.seq ?_
 refine T.region ?_
 refine TL.cons rfl (Step.box (p := (.agg [.d (.int .i64 a.f0), .d (.int .i64 a.f1.f0), .d (.int .i64 a.f1.f1), .d (.ints .u8 a.f1.f2), .d (.int .i64 a.f1.f3), .d (.ints .u8 a.f1.f4), .d (.int .i64 a.f2.f0), .d (.int .i64 a.f2.f1), .d (.ints .u8 a.f2.f2), .d (.ints .u8 a.f2.f3), .d (.bss a.f2.f4), .d (.int .i64 a.f3.f0), .d (.int .i64 a.f3.f1), .d (.int .i64 a.f3.f2), .d (.ints .u8 a.f3.f3), .d (.ints .u8 a.f3.f4), .d (.int .i64 a.f3.f5.f0), .d (.int .i64 a.f3.f5.f1), .d (.ints .u8 a.f3.f5.f2), .d (.ints .u8 a.f3.f5.f3), .d (.bss a.f3.f5.f4), .d (.int .i64 a.f4.f0.f0), .d (.int .i64 a.f4.f0.f1), .d (.int .i64 a.f4.f0.f2), .d (.ints .u8 a.f4.f0.f3), .d (.ints .u8 a.f4.f0.f4), .d (.int .i64 a.f4.f0.f5.f0), .d (.int .i64 a.f4.f0.f5.f1), .d (.ints .u8 a.f4.f0.f5.f2), .d (.ints .u8 a.f4.f0.f5.f3), .d (.bss a.f4.f0.f5.f4), .d (.bss a.f4.f1), .d (.int .i64 a.f5.f0), .d (.sl 3 (a.f5.f1.map SEntry.cells)), .d (.sl 10 (a.f6.f0.map SHead.cells)), .d (.int .i64 a.f6.f1.f0), .d (.int .i64 a.f6.f1.f1), .d (.ints .u8 a.f6.f1.f2), .d (.ints .u8 a.f6.f1.f3), .d (.bss a.f6.f1.f4), .d (.int .i64 a.f7.f0), .d (.int .i64 a.f7.f1), .d (.int .i64 a.f7.f2), .d (.ints .u8 a.f7.f3), .d (.bss a.f7.f4)])) (ps := [.d (.int .i64 a.f0), .d (.int .i64 a.f1.f0), .d (.int .i64 a.f1.f1), .d (.ints .u8 a.f1.f2), .d (.int .i64 a.f1.f3), .d (.ints .u8 a.f1.f4), .d (.int .i64 a.f2.f0), .d (.int .i64 a.f2.f1), .d (.ints .u8 a.f2.f2), .d (.ints .u8 a.f2.f3), .d (.bss a.f2.f4), .d (.int .i64 a.f3.f0), .d (.int .i64 a.f3.f1), .d (.int .i64 a.f3.f2), .d (.ints .u8 a.f3.f3), .d (.ints .u8 a.f3.f4), .d (.int .i64 a.f3.f5.f0), .d (.int .i64 a.f3.f5.f1), .d (.ints .u8 a.f3.f5.f2), .d (.ints .u8 a.f3.f5.f3), .d (.bss a.f3.f5.f4), .d (.int .i64 a.f4.f0.f0), .d (.int .i64 a.f4.f0.f1), .d (.int .i64 a.f4.f0.f2), .d (.ints .u8 a.f4.f0.f3), .d (.ints .u8 a.f4.f0.f4), .d (.int .i64 a.f4.f0.f5.f0), .d (.int .i64 a.f4.f0.f5.f1), .d (.ints .u8 a.f4.f0.f5.f2), .d (.ints .u8 a.f4.f0.f5.f3), .d (.bss a.f4.f0.f5.f4), .d (.bss a.f4.f1), .d (.int .i64 a.f5.f0), .d (.sl 3 (a.f5.f1.map SEntry.cells)), .d (.sl 10 (a.f6.f0.map SHead.cells)), .d (.int .i64 a.f6.f1.f0), .d (.int .i64 a.f6.f1.f1), .d (.ints .u8 a.f6.f1.f2), .d (.ints .u8 a.f6.f1.f3), .d (.bss a.f6.f1.f4), .d (.int .i64 a.f7.f0), .d (.int .i64 a.f7.f1), .d (.int .i64 a.f7.f2), .d (.ints .u8 a.f7.f3), .d (.bss a.f7.f4)]) rfl rfl (lt_ok rfl) rfl rfl rfl rfl rfl) ?_
 refine TL.cons rfl (Step.alloc (cs := [.int .i64 0, .int .i64 0, .int .i64 0, .slice none 0 0, .int .i64 0, .slice none 0 0, .int .i64 0, .int .i64 0, .slice none 0 0, .slice none 0 0, .slice none 0 0, .int .i64 0, .int .i64 0, .int .i64 0, .slice none 0 0, .slice none 0 0, .int .i64 0, .int .i64 0, .slice none 0 0, .slice none 0 0, .slice none 0 0, .int .i64 0, .int .i64 0, .int .i64 0, .slice none 0 0, .slice none 0 0, .int .i64 0, .int .i64 0, .slice none 0 0, .slice none 0 0, .slice none 0 0, .slice none 0 0, .int .i64 0, .slice none 0 0, .slice none 0 0, .int .i64 0, .int .i64 0, .slice none 0 0, .slice none 0 0, .slice none 0 0, .int .i64 0, .int .i64 0, .int .i64 0, .slice none 0 0, .slice none 0 0]) (ps := [.d (.int .i64 0), .d (.int .i64 0), .d (.int .i64 0), .nil, .d (.int .i64 0), .nil, .d (.int .i64 0), .d (.int .i64 0), .nil, .nil, .nil, .d (.int .i64 0), .d (.int .i64 0), .d (.int .i64 0), .nil, .nil, .d (.int .i64 0), .d (.int .i64 0), .nil, .nil, .nil, .d (.int .i64 0), .d (.int .i64 0), .d (.int .i64 0), .nil, .nil, .d (.int .i64 0), .d (.int .i64 0), .nil, .nil, .nil, .nil, .d (.int .i64 0), .nil, .nil, .d (.int .i64 0), .d (.int .i64 0), .nil, .nil, .nil, .d (.int .i64 0), .d (.int .i64 0), .d (.int .i64 0), .nil, .nil]) rfl rfl (lt_ok rfl) (by kernel_rfl) rfl rfl rfl rfl) ?_
 refine TL.nil ?_
 refine T.seq ?_
 refine T.region ?_
 refine TL.cons rfl (Step.alloc (cs := [.int .i64 0, .int .i64 0, .int .i64 0, .slice none 0 0, .int .i64 0, .slice none 0 0, .int .i64 0, .int .i64 0, .slice none 0 0, .slice none 0 0, .slice none 0 0, .int .i64 0, .int .i64 0, .int .i64 0, .slice none 0 0, .slice none 0 0, .int .i64 0, .int .i64 0, .slice none 0 0, .slice none 0 0, .slice none 0 0, .int .i64 0, .int .i64 0, .int .i64 0, .slice none 0 0, .slice none 0 0, .int .i64 0, .int .i64 0, .slice none 0 0, .slice none 0 0, .slice none 0 0, .slice none 0 0, .int .i64 0, .slice none 0 0, .slice none 0 0, .int .i64 0, .int .i64 0, .slice none 0 0, .slice none 0 0, .slice none 0 0, .int .i64 0, .int .i64 0, .int .i64 0, .slice none 0 0, .slice none 0 0]) (ps := [.d (.int .i64 0), .d (.int .i64 0), .d (.int .i64 0), .nil, .d (.int .i64 0), .nil, .d (.int .i64 0), .d (.int .i64 0), .nil, .nil, .nil, .d (.int .i64 0), .d (.int .i64 0), .d (.int .i64 0), .nil, .nil, .d (.int .i64 0), .d (.int .i64 0), .nil, .nil, .nil, .d (.int .i64 0), .d (.int .i64 0), .d (.int .i64 0), .nil, .nil, .d (.int .i64 0), .d (.int .i64 0), .nil, .nil, .nil, .nil, .d (.int .i64 0), .nil, .nil, .d (.int .i64 0), .d (.int .i64 0), .nil, .nil, .nil, .d (.int .i64 0), .d (.int .i64 0), .d (.int .i64 0), .nil, .nil]) rfl rfl (lt_ok rfl) (by kernel_rfl) rfl rfl rfl rfl) ?_
 refine TL.nil ?_
 refine T.seq ?_
 refine T.region ?_
 refine TL.cons rfl (Step.fieldAddr (q := 0) (off := 0) (n := 1) (one := true) rfl rfl (lt_ok rfl) (by kernel_rfl) (Nat.succ_ne_zero _) rfl) ?_
 refine TL.cons rfl (Step.load_box (c := .d (.int .i64 a.f0)) rfl rfl (lt_ok rfl) (by kernel_rfl) rfl rfl rfl) ?_
 refine TL.cons rfl (Step.fieldAddr (q := 0) (off := 0) (n := 1) (one := true) rfl rfl (lt_ok rfl) (by kernel_rfl) (Nat.succ_ne_zero _) rfl) ?_
 refine TL.cons rfl (Step.store_box (n := 1) (p := (.one (.d (.int .i64 a.f0)))) (qs := [.d (.int .i64 a.f0)]) (ps' := [.d (.int .i64 a.f0), .d (.int .i64 0), .d (.int .i64 0), .nil, .d (.int .i64 0), .nil, .d (.int .i64 0), .d (.int .i64 0), .nil, .nil, .nil, .d (.int .i64 0), .d (.int .i64 0), .d (.int .i64 0), .nil, .nil, .d (.int .i64 0), .d (.int .i64 0), .nil, .nil, .nil, .d (.int .i64 0), .d (.int .i64 0), .d (.int .i64 0), .nil, .nil, .d (.int .i64 0), .d (.int .i64 0), .nil, .nil, .nil, .nil, .d (.int .i64 0), .nil, .nil, .d (.int .i64 0), .d (.int .i64 0), .nil, .nil, .nil, .d (.int .i64 0), .d (.int .i64 0), .d (.int .i64 0), .nil, .nil]) rfl rfl (by kernel_rfl) rfl rfl rfl rfl rfl rfl (le_ok rfl) rfl) ?_
 refine TL.nil ?_
 refine T.seq ?_
 refine T.region ?_
 refine TL.cons rfl (Step.fieldAddr (q := 0) (off := 1) (n := 5) (one := false) rfl rfl (lt_ok rfl) (by kernel_rfl) (Nat.succ_ne_zero _) rfl) ?_
 refine TL.cons rfl (Step.load_box_agg (n := 5) (qs := [.d (.int .i64 a.f1.f0), .d (.int .i64 a.f1.f1), .d (.ints .u8 a.f1.f2), .d (.int .i64 a.f1.f3), .d (.ints .u8 a.f1.f4)]) rfl rfl (lt_ok rfl) (by kernel_rfl) rfl rfl rfl rfl) ?_
 refine TL.cons rfl (Step.call (f := 121) (xs := [.tmp 8]) (ps := [(.agg [.d (.int .i64 a.f1.f0), .d (.int .i64 a.f1.f1), .d (.ints .u8 a.f1.f2), .d (.int .i64 a.f1.f3), .d (.ints .u8 a.f1.f4)])]) false (g := .func 121) rfl rfl (lt_ok rfl) rfl (by kernel_rfl) rfl (.cons (.agg (.cons (.d _) (.cons (.d _) (.cons (.d _) (.cons (.d _) (.cons (.d _) .nil)))))) .nil) (ok_laws_toVote a.f1 (by first | assumption | exact ⟨‹_›, ‹_›⟩ | (refine mem_getD (p := SVote.sm) h0_.2 (by omega)) | exact mem_getD h0_.2 (by omega))) (.inr rfl) rfl (by simp) rfl) ?_
 refine TL.cons rfl (Step.fieldAddr (q := 0) (off := 1) (n := 5) (one := false) rfl rfl (lt_ok rfl) (by kernel_rfl) (Nat.succ_ne_zero _) rfl) ?_
 refine TL.cons rfl (Step.store_box (n := 5) (p := (.agg [.d (.int .i64 a.f1.f0), .d (.int .i64 a.f1.f1), .row 3009 [], .d (.int .i64 a.f1.f3), .row 5009 []])) (qs := [.d (.int .i64 a.f1.f0), .d (.int .i64 a.f1.f1), .row 3009 [], .d (.int .i64 a.f1.f3), .row 5009 []]) (ps' := [.d (.int .i64 a.f0), .d (.int .i64 a.f1.f0), .d (.int .i64 a.f1.f1), .row 3009 [], .d (.int .i64 a.f1.f3), .row 5009 [], .d (.int .i64 0), .d (.int .i64 0), .nil, .nil, .nil, .d (.int .i64 0), .d (.int .i64 0), .d (.int .i64 0), .nil, .nil, .d (.int .i64 0), .d (.int .i64 0), .nil, .nil, .nil, .d (.int .i64 0), .d (.int .i64 0), .d (.int .i64 0), .nil, .nil, .d (.int .i64 0), .d (.int .i64 0), .nil, .nil, .nil, .nil, .d (.int .i64 0), .nil, .nil, .d (.int .i64 0), .d (.int .i64 0), .nil, .nil, .nil, .d (.int .i64 0), .d (.int .i64 0), .d (.int .i64 0), .nil, .nil]) rfl rfl (by kernel_rfl) rfl rfl rfl rfl rfl rfl (le_ok rfl) rfl) ?_
 refine TL.nil ?_
 refine T.weaken (E' := { tm := [(1, (.one (.ptr 1 0))), (2, (.one (.ptr 2 0))), (3, (.one (.ptr 3 0)))], rows := [(3009, (5, (.ints .u8 a.f1.f2))), (5009, (5, (.ints .u8 a.f1.f4)))], boxes := [(1, (146, [.d (.int .i64 a.f0), .d (.int .i64 a.f1.f0), .d (.int .i64 a.f1.f1), .d (.ints .u8 a.f1.f2), .d (.int .i64 a.f1.f3), .d (.ints .u8 a.f1.f4), .d (.int .i64 a.f2.f0), .d (.int .i64 a.f2.f1), .d (.ints .u8 a.f2.f2), .d (.ints .u8 a.f2.f3), .d (.bss a.f2.f4), .d (.int .i64 a.f3.f0), .d (.int .i64 a.f3.f1), .d (.int .i64 a.f3.f2), .d (.ints .u8 a.f3.f3), .d (.ints .u8 a.f3.f4), .d (.int .i64 a.f3.f5.f0), .d (.int .i64 a.f3.f5.f1), .d (.ints .u8 a.f3.f5.f2), .d (.ints .u8 a.f3.f5.f3), .d (.bss a.f3.f5.f4), .d (.int .i64 a.f4.f0.f0), .d (.int .i64 a.f4.f0.f1), .d (.int .i64 a.f4.f0.f2), .d (.ints .u8 a.f4.f0.f3), .d (.ints .u8 a.f4.f0.f4), .d (.int .i64 a.f4.f0.f5.f0), .d (.int .i64 a.f4.f0.f5.f1), .d (.ints .u8 a.f4.f0.f5.f2), .d (.ints .u8 a.f4.f0.f5.f3), .d (.bss a.f4.f0.f5.f4), .d (.bss a.f4.f1), .d (.int .i64 a.f5.f0), .d (.sl 3 (a.f5.f1.map SEntry.cells)), .d (.sl 10 (a.f6.f0.map SHead.cells)), .d (.int .i64 a.f6.f1.f0), .d (.int .i64 a.f6.f1.f1), .d (.ints .u8 a.f6.f1.f2), .d (.ints .u8 a.f6.f1.f3), .d (.bss a.f6.f1.f4), .d (.int .i64 a.f7.f0), .d (.int .i64 a.f7.f1), .d (.int .i64 a.f7.f2), .d (.ints .u8 a.f7.f3), .d (.bss a.f7.f4)])), (2, (150, [.d (.int .i64 0), .d (.int .i64 0), .d (.int .i64 0), .nil, .d (.int .i64 0), .nil, .d (.int .i64 0), .d (.int .i64 0), .nil, .nil, .nil, .d (.int .i64 0), .d (.int .i64 0), .d (.int .i64 0), .nil, .nil, .d (.int .i64 0), .d (.int .i64 0), .nil, .nil, .nil, .d (.int .i64 0), .d (.int .i64 0), .d (.int .i64 0), .nil, .nil, .d (.int .i64 0), .d (.int .i64 0), .nil, .nil, .nil, .nil, .d (.int .i64 0), .nil, .nil, .d (.int .i64 0), .d (.int .i64 0), .nil, .nil, .nil, .d (.int .i64 0), .d (.int .i64 0), .d (.int .i64 0), .nil, .nil])), (3, (150, [.d (.int .i64 a.f0), .d (.int .i64 a.f1.f0), .d (.int .i64 a.f1.f1), .row 3009 [], .d (.int .i64 a.f1.f3), .row 5009 [], .d (.int .i64 0), .d (.int .i64 0), .nil, .nil, .nil, .d (.int .i64 0), .d (.int .i64 0), .d (.int .i64 0), .nil, .nil, .d (.int .i64 0), .d (.int .i64 0), .nil, .nil, .nil, .d (.int .i64 0), .d (.int .i64 0), .d (.int .i64 0), .nil, .nil, .d (.int .i64 0), .d (.int .i64 0), .nil, .nil, .nil, .nil, .d (.int .i64 0), .nil, .nil, .d (.int .i64 0), .d (.int .i64 0), .nil, .nil, .nil, .d (.int .i64 0), .d (.int .i64 0), .d (.int .i64 0), .nil, .nil]))] }) (Env.le_mk ⟨by kernel_rfl, by kernel_rfl, by kernel_rfl, trivial⟩ ⟨by kernel_rfl, by kernel_rfl, trivial⟩ ⟨by kernel_rfl, by kernel_rfl, by kernel_rfl, trivial⟩) ?_
 refine T.seq ?_
 refine T.region ?_
 refine TL.cons rfl (Step.fieldAddr (q := 0) (off := 6) (n := 5) (one := false) rfl rfl (lt_ok rfl) (by kernel_rfl) (Nat.succ_ne_zero _) rfl) ?_
 refine TL.cons rfl (Step.load_box_agg (n := 5) (qs := [.d (.int .i64 a.f2.f0), .d (.int .i64 a.f2.f1), .d (.ints .u8 a.f2.f2), .d (.ints .u8 a.f2.f3), .d (.bss a.f2.f4)]) rfl rfl (lt_ok rfl) (by kernel_rfl) rfl rfl rfl rfl) ?_
 refine TL.cons rfl (Step.call (f := 33) (xs := [.tmp 12]) (ps := [(.agg [.d (.int .i64 a.f2.f0), .d (.int .i64 a.f2.f1), .d (.ints .u8 a.f2.f2), .d (.ints .u8 a.f2.f3), .d (.bss a.f2.f4)])]) false (g := .func 33) rfl rfl (lt_ok rfl) rfl (by kernel_rfl) rfl (.cons (.agg (.cons (.d _) (.cons (.d _) (.cons (.d _) (.cons (.d _) (.cons (.d _) .nil)))))) .nil) (ok_laws_toQc a.f2 (by first | assumption | exact ⟨‹_›, ‹_›⟩ | (refine mem_getD (p := SQc.sm) h0_.2 (by omega)) | exact mem_getD h0_.2 (by omega))) (.inr rfl) rfl (by simp) rfl) ?_
 refine TL.cons rfl (Step.fieldAddr (q := 0) (off := 6) (n := 5) (one := false) rfl rfl (lt_ok rfl) (by kernel_rfl) (Nat.succ_ne_zero _) rfl) ?_
 refine TL.cons rfl (Step.store_box (n := 5) (p := (.agg [.d (.int .i64 a.f2.f0), .d (.int .i64 a.f2.f1), .row 3013 [], .row 4013 [], .row 5013 []])) (qs := [.d (.int .i64 a.f2.f0), .d (.int .i64 a.f2.f1), .row 3013 [], .row 4013 [], .row 5013 []]) (ps' := [.d (.int .i64 a.f0), .d (.int .i64 a.f1.f0), .d (.int .i64 a.f1.f1), .row 3009 [], .d (.int .i64 a.f1.f3), .row 5009 [], .d (.int .i64 a.f2.f0), .d (.int .i64 a.f2.f1), .row 3013 [], .row 4013 [], .row 5013 [], .d (.int .i64 0), .d (.int .i64 0), .d (.int .i64 0), .nil, .nil, .d (.int .i64 0), .d (.int .i64 0), .nil, .nil, .nil, .d (.int .i64 0), .d (.int .i64 0), .d (.int .i64 0), .nil, .nil, .d (.int .i64 0), .d (.int .i64 0), .nil, .nil, .nil, .nil, .d (.int .i64 0), .nil, .nil, .d (.int .i64 0), .d (.int .i64 0), .nil, .nil, .nil, .d (.int .i64 0), .d (.int .i64 0), .d (.int .i64 0), .nil, .nil]) rfl rfl (by kernel_rfl) rfl rfl rfl rfl rfl rfl (le_ok rfl) rfl) ?_
 refine TL.nil ?_
 refine T.seq ?_
 refine T.region ?_
 refine TL.cons rfl (Step.fieldAddr (q := 0) (off := 11) (n := 10) (one := false) rfl rfl (lt_ok rfl) (by kernel_rfl) (Nat.succ_ne_zero _) rfl) ?_
 refine TL.cons rfl (Step.load_box_agg (n := 10) (qs := [.d (.int .i64 a.f3.f0), .d (.int .i64 a.f3.f1), .d (.int .i64 a.f3.f2), .d (.ints .u8 a.f3.f3), .d (.ints .u8 a.f3.f4), .d (.int .i64 a.f3.f5.f0), .d (.int .i64 a.f3.f5.f1), .d (.ints .u8 a.f3.f5.f2), .d (.ints .u8 a.f3.f5.f3), .d (.bss a.f3.f5.f4)]) rfl rfl (lt_ok rfl) (by kernel_rfl) rfl rfl rfl rfl) ?_
 refine TL.cons rfl (Step.call (f := 28) (xs := [.tmp 16]) (ps := [(.agg [.d (.int .i64 a.f3.f0), .d (.int .i64 a.f3.f1), .d (.int .i64 a.f3.f2), .d (.ints .u8 a.f3.f3), .d (.ints .u8 a.f3.f4), .d (.int .i64 a.f3.f5.f0), .d (.int .i64 a.f3.f5.f1), .d (.ints .u8 a.f3.f5.f2), .d (.ints .u8 a.f3.f5.f3), .d (.bss a.f3.f5.f4)])]) false (g := .func 28) rfl rfl (lt_ok rfl) rfl (by kernel_rfl) rfl (.cons (.agg (.cons (.d _) (.cons (.d _) (.cons (.d _) (.cons (.d _) (.cons (.d _) (.cons (.d _) (.cons (.d _) (.cons (.d _) (.cons (.d _) (.cons (.d _) .nil))))))))))) .nil) (ok_laws_toHead a.f3 (by first | assumption | exact ⟨‹_›, ‹_›⟩ | (refine mem_getD (p := SHead.sm) h0_.2 (by omega)) | exact mem_getD h0_.2 (by omega))) (.inr rfl) rfl (by simp) rfl) ?_
 refine TL.cons rfl (Step.fieldAddr (q := 0) (off := 11) (n := 10) (one := false) rfl rfl (lt_ok rfl) (by kernel_rfl) (Nat.succ_ne_zero _) rfl) ?_
 refine TL.cons rfl (Step.store_box (n := 10) (p := (.agg [.d (.int .i64 a.f3.f0), .d (.int .i64 a.f3.f1), .d (.int .i64 a.f3.f2), .row 4017 [], .row 5017 [], .d (.int .i64 a.f3.f5.f0), .d (.int .i64 a.f3.f5.f1), .row 8017 [], .row 9017 [], .row 10017 []])) (qs := [.d (.int .i64 a.f3.f0), .d (.int .i64 a.f3.f1), .d (.int .i64 a.f3.f2), .row 4017 [], .row 5017 [], .d (.int .i64 a.f3.f5.f0), .d (.int .i64 a.f3.f5.f1), .row 8017 [], .row 9017 [], .row 10017 []]) (ps' := [.d (.int .i64 a.f0), .d (.int .i64 a.f1.f0), .d (.int .i64 a.f1.f1), .row 3009 [], .d (.int .i64 a.f1.f3), .row 5009 [], .d (.int .i64 a.f2.f0), .d (.int .i64 a.f2.f1), .row 3013 [], .row 4013 [], .row 5013 [], .d (.int .i64 a.f3.f0), .d (.int .i64 a.f3.f1), .d (.int .i64 a.f3.f2), .row 4017 [], .row 5017 [], .d (.int .i64 a.f3.f5.f0), .d (.int .i64 a.f3.f5.f1), .row 8017 [], .row 9017 [], .row 10017 [], .d (.int .i64 0), .d (.int .i64 0), .d (.int .i64 0), .nil, .nil, .d (.int .i64 0), .d (.int .i64 0), .nil, .nil, .nil, .nil, .d (.int .i64 0), .nil, .nil, .d (.int .i64 0), .d (.int .i64 0), .nil, .nil, .nil, .d (.int .i64 0), .d (.int .i64 0), .d (.int .i64 0), .nil, .nil]) rfl rfl (by kernel_rfl) rfl rfl rfl rfl rfl rfl (le_ok rfl) rfl) ?_
 refine TL.nil ?_
 refine T.seq ?_
 refine T.region ?_
 refine TL.cons rfl (Step.fieldAddr (q := 0) (off := 21) (n := 11) (one := false) rfl rfl (lt_ok rfl) (by kernel_rfl) (Nat.succ_ne_zero _) rfl) ?_
 refine TL.cons rfl (Step.load_box_agg (n := 11) (qs := [.d (.int .i64 a.f4.f0.f0), .d (.int .i64 a.f4.f0.f1), .d (.int .i64 a.f4.f0.f2), .d (.ints .u8 a.f4.f0.f3), .d (.ints .u8 a.f4.f0.f4), .d (.int .i64 a.f4.f0.f5.f0), .d (.int .i64 a.f4.f0.f5.f1), .d (.ints .u8 a.f4.f0.f5.f2), .d (.ints .u8 a.f4.f0.f5.f3), .d (.bss a.f4.f0.f5.f4), .d (.bss a.f4.f1)]) rfl rfl (lt_ok rfl) (by kernel_rfl) rfl rfl rfl rfl) ?_
 refine TL.cons rfl (Step.call (f := 38) (xs := [.tmp 20]) (ps := [(.agg [.d (.int .i64 a.f4.f0.f0), .d (.int .i64 a.f4.f0.f1), .d (.int .i64 a.f4.f0.f2), .d (.ints .u8 a.f4.f0.f3), .d (.ints .u8 a.f4.f0.f4), .d (.int .i64 a.f4.f0.f5.f0), .d (.int .i64 a.f4.f0.f5.f1), .d (.ints .u8 a.f4.f0.f5.f2), .d (.ints .u8 a.f4.f0.f5.f3), .d (.bss a.f4.f0.f5.f4), .d (.bss a.f4.f1)])]) false (g := .func 38) rfl rfl (lt_ok rfl) rfl (by kernel_rfl) rfl (.cons (.agg (.cons (.d _) (.cons (.d _) (.cons (.d _) (.cons (.d _) (.cons (.d _) (.cons (.d _) (.cons (.d _) (.cons (.d _) (.cons (.d _) (.cons (.d _) (.cons (.d _) .nil)))))))))))) .nil) (ok_laws_toBlock a.f4 (by first | assumption | exact ⟨‹_›, ‹_›⟩ | (refine mem_getD (p := SBlock.sm) h0_.2 (by omega)) | exact mem_getD h0_.2 (by omega))) (.inr rfl) rfl (by simp) rfl) ?_
 refine TL.cons rfl (Step.fieldAddr (q := 0) (off := 21) (n := 11) (one := false) rfl rfl (lt_ok rfl) (by kernel_rfl) (Nat.succ_ne_zero _) rfl) ?_
 refine TL.cons rfl (Step.store_box (n := 11) (p := (.agg [.d (.int .i64 a.f4.f0.f0), .d (.int .i64 a.f4.f0.f1), .d (.int .i64 a.f4.f0.f2), .row 4021 [], .row 5021 [], .d (.int .i64 a.f4.f0.f5.f0), .d (.int .i64 a.f4.f0.f5.f1), .row 8021 [], .row 9021 [], .row 10021 [], .row 11021 []])) (qs := [.d (.int .i64 a.f4.f0.f0), .d (.int .i64 a.f4.f0.f1), .d (.int .i64 a.f4.f0.f2), .row 4021 [], .row 5021 [], .d (.int .i64 a.f4.f0.f5.f0), .d (.int .i64 a.f4.f0.f5.f1), .row 8021 [], .row 9021 [], .row 10021 [], .row 11021 []]) (ps' := [.d (.int .i64 a.f0), .d (.int .i64 a.f1.f0), .d (.int .i64 a.f1.f1), .row 3009 [], .d (.int .i64 a.f1.f3), .row 5009 [], .d (.int .i64 a.f2.f0), .d (.int .i64 a.f2.f1), .row 3013 [], .row 4013 [], .row 5013 [], .d (.int .i64 a.f3.f0), .d (.int .i64 a.f3.f1), .d (.int .i64 a.f3.f2), .row 4017 [], .row 5017 [], .d (.int .i64 a.f3.f5.f0), .d (.int .i64 a.f3.f5.f1), .row 8017 [], .row 9017 [], .row 10017 [], .d (.int .i64 a.f4.f0.f0), .d (.int .i64 a.f4.f0.f1), .d (.int .i64 a.f4.f0.f2), .row 4021 [], .row 5021 [], .d (.int .i64 a.f4.f0.f5.f0), .d (.int .i64 a.f4.f0.f5.f1), .row 8021 [], .row 9021 [], .row 10021 [], .row 11021 [], .d (.int .i64 0), .nil, .nil, .d (.int .i64 0), .d (.int .i64 0), .nil, .nil, .nil, .d (.int .i64 0), .d (.int .i64 0), .d (.int .i64 0), .nil, .nil]) rfl rfl (by kernel_rfl) rfl rfl rfl rfl rfl rfl (le_ok rfl) rfl) ?_
 refine TL.nil ?_
 refine T.seq ?_
 refine T.region ?_
 refine TL.cons rfl (Step.fieldAddr (q := 0) (off := 32) (n := 2) (one := false) rfl rfl (lt_ok rfl) (by kernel_rfl) (Nat.succ_ne_zero _) rfl) ?_
 refine TL.cons rfl (Step.load_box_agg (n := 2) (qs := [.d (.int .i64 a.f5.f0), .d (.sl 3 (a.f5.f1.map SEntry.cells))]) rfl rfl (lt_ok rfl) (by kernel_rfl) rfl rfl rfl rfl) ?_
 refine TL.cons rfl (Step.call (f := 18) (xs := [.tmp 24]) (ps := [(.agg [.d (.int .i64 a.f5.f0), .d (.sl 3 (a.f5.f1.map SEntry.cells))])]) false (g := .func 18) rfl rfl (lt_ok rfl) rfl (by kernel_rfl) rfl (.cons (.agg (.cons (.d _) (.cons (.d _) .nil))) .nil) (ok_laws_toTc a.f5 (by first | assumption | exact ⟨‹_›, ‹_›⟩ | (refine mem_getD (p := STc.sm) h0_.2 (by omega)) | exact mem_getD h0_.2 (by omega))) (.inr rfl) rfl (by simp) rfl) ?_
 refine TL.cons rfl (Step.fieldAddr (q := 0) (off := 32) (n := 2) (one := false) rfl rfl (lt_ok rfl) (by kernel_rfl) (Nat.succ_ne_zero _) rfl) ?_
 refine TL.cons rfl (Step.store_box (n := 2) (p := (.agg [.d (.int .i64 a.f5.f0), .row 2025 []])) (qs := [.d (.int .i64 a.f5.f0), .row 2025 []]) (ps' := [.d (.int .i64 a.f0), .d (.int .i64 a.f1.f0), .d (.int .i64 a.f1.f1), .row 3009 [], .d (.int .i64 a.f1.f3), .row 5009 [], .d (.int .i64 a.f2.f0), .d (.int .i64 a.f2.f1), .row 3013 [], .row 4013 [], .row 5013 [], .d (.int .i64 a.f3.f0), .d (.int .i64 a.f3.f1), .d (.int .i64 a.f3.f2), .row 4017 [], .row 5017 [], .d (.int .i64 a.f3.f5.f0), .d (.int .i64 a.f3.f5.f1), .row 8017 [], .row 9017 [], .row 10017 [], .d (.int .i64 a.f4.f0.f0), .d (.int .i64 a.f4.f0.f1), .d (.int .i64 a.f4.f0.f2), .row 4021 [], .row 5021 [], .d (.int .i64 a.f4.f0.f5.f0), .d (.int .i64 a.f4.f0.f5.f1), .row 8021 [], .row 9021 [], .row 10021 [], .row 11021 [], .d (.int .i64 a.f5.f0), .row 2025 [], .nil, .d (.int .i64 0), .d (.int .i64 0), .nil, .nil, .nil, .d (.int .i64 0), .d (.int .i64 0), .d (.int .i64 0), .nil, .nil]) rfl rfl (by kernel_rfl) rfl rfl rfl rfl rfl rfl (le_ok rfl) rfl) ?_
 refine TL.nil ?_
 refine T.weaken (E' := { tm := [(1, (.one (.ptr 1 0))), (2, (.one (.ptr 2 0))), (3, (.one (.ptr 3 0)))], rows := [(3009, (5, (.ints .u8 a.f1.f2))), (5009, (5, (.ints .u8 a.f1.f4))), (3013, (5, (.ints .u8 a.f2.f2))), (4013, (5, (.ints .u8 a.f2.f3))), (5013, (37, (.bss a.f2.f4))), (4017, (5, (.ints .u8 a.f3.f3))), (5017, (5, (.ints .u8 a.f3.f4))), (8017, (5, (.ints .u8 a.f3.f5.f2))), (9017, (5, (.ints .u8 a.f3.f5.f3))), (10017, (37, (.bss a.f3.f5.f4))), (4021, (5, (.ints .u8 a.f4.f0.f3))), (5021, (5, (.ints .u8 a.f4.f0.f4))), (8021, (5, (.ints .u8 a.f4.f0.f5.f2))), (9021, (5, (.ints .u8 a.f4.f0.f5.f3))), (10021, (37, (.bss a.f4.f0.f5.f4))), (11021, (37, (.bss a.f4.f1))), (2025, (113, (.sl 3 (a.f5.f1.map SEntry.cells))))], boxes := [(1, (146, [.d (.int .i64 a.f0), .d (.int .i64 a.f1.f0), .d (.int .i64 a.f1.f1), .d (.ints .u8 a.f1.f2), .d (.int .i64 a.f1.f3), .d (.ints .u8 a.f1.f4), .d (.int .i64 a.f2.f0), .d (.int .i64 a.f2.f1), .d (.ints .u8 a.f2.f2), .d (.ints .u8 a.f2.f3), .d (.bss a.f2.f4), .d (.int .i64 a.f3.f0), .d (.int .i64 a.f3.f1), .d (.int .i64 a.f3.f2), .d (.ints .u8 a.f3.f3), .d (.ints .u8 a.f3.f4), .d (.int .i64 a.f3.f5.f0), .d (.int .i64 a.f3.f5.f1), .d (.ints .u8 a.f3.f5.f2), .d (.ints .u8 a.f3.f5.f3), .d (.bss a.f3.f5.f4), .d (.int .i64 a.f4.f0.f0), .d (.int .i64 a.f4.f0.f1), .d (.int .i64 a.f4.f0.f2), .d (.ints .u8 a.f4.f0.f3), .d (.ints .u8 a.f4.f0.f4), .d (.int .i64 a.f4.f0.f5.f0), .d (.int .i64 a.f4.f0.f5.f1), .d (.ints .u8 a.f4.f0.f5.f2), .d (.ints .u8 a.f4.f0.f5.f3), .d (.bss a.f4.f0.f5.f4), .d (.bss a.f4.f1), .d (.int .i64 a.f5.f0), .d (.sl 3 (a.f5.f1.map SEntry.cells)), .d (.sl 10 (a.f6.f0.map SHead.cells)), .d (.int .i64 a.f6.f1.f0), .d (.int .i64 a.f6.f1.f1), .d (.ints .u8 a.f6.f1.f2), .d (.ints .u8 a.f6.f1.f3), .d (.bss a.f6.f1.f4), .d (.int .i64 a.f7.f0), .d (.int .i64 a.f7.f1), .d (.int .i64 a.f7.f2), .d (.ints .u8 a.f7.f3), .d (.bss a.f7.f4)])), (2, (150, [.d (.int .i64 0), .d (.int .i64 0), .d (.int .i64 0), .nil, .d (.int .i64 0), .nil, .d (.int .i64 0), .d (.int .i64 0), .nil, .nil, .nil, .d (.int .i64 0), .d (.int .i64 0), .d (.int .i64 0), .nil, .nil, .d (.int .i64 0), .d (.int .i64 0), .nil, .nil, .nil, .d (.int .i64 0), .d (.int .i64 0), .d (.int .i64 0), .nil, .nil, .d (.int .i64 0), .d (.int .i64 0), .nil, .nil, .nil, .nil, .d (.int .i64 0), .nil, .nil, .d (.int .i64 0), .d (.int .i64 0), .nil, .nil, .nil, .d (.int .i64 0), .d (.int .i64 0), .d (.int .i64 0), .nil, .nil])), (3, (150, [.d (.int .i64 a.f0), .d (.int .i64 a.f1.f0), .d (.int .i64 a.f1.f1), .row 3009 [], .d (.int .i64 a.f1.f3), .row 5009 [], .d (.int .i64 a.f2.f0), .d (.int .i64 a.f2.f1), .row 3013 [], .row 4013 [], .row 5013 [], .d (.int .i64 a.f3.f0), .d (.int .i64 a.f3.f1), .d (.int .i64 a.f3.f2), .row 4017 [], .row 5017 [], .d (.int .i64 a.f3.f5.f0), .d (.int .i64 a.f3.f5.f1), .row 8017 [], .row 9017 [], .row 10017 [], .d (.int .i64 a.f4.f0.f0), .d (.int .i64 a.f4.f0.f1), .d (.int .i64 a.f4.f0.f2), .row 4021 [], .row 5021 [], .d (.int .i64 a.f4.f0.f5.f0), .d (.int .i64 a.f4.f0.f5.f1), .row 8021 [], .row 9021 [], .row 10021 [], .row 11021 [], .d (.int .i64 a.f5.f0), .row 2025 [], .nil, .d (.int .i64 0), .d (.int .i64 0), .nil, .nil, .nil, .d (.int .i64 0), .d (.int .i64 0), .d (.int .i64 0), .nil, .nil]))] }) (Env.le_mk ⟨by kernel_rfl, by kernel_rfl, by kernel_rfl, trivial⟩ ⟨by kernel_rfl, by kernel_rfl, by kernel_rfl, by kernel_rfl, by kernel_rfl, by kernel_rfl, by kernel_rfl, by kernel_rfl, by kernel_rfl, by kernel_rfl, by kernel_rfl, by kernel_rfl, by kernel_rfl, by kernel_rfl, by kernel_rfl, by kernel_rfl, by kernel_rfl, trivial⟩ ⟨by kernel_rfl, by kernel_rfl, by kernel_rfl, trivial⟩) ?_
 refine T.seq ?_
 refine T.region ?_
 refine TL.cons rfl (Step.fieldAddr (q := 0) (off := 34) (n := 6) (one := false) rfl rfl (lt_ok rfl) (by kernel_rfl) (Nat.succ_ne_zero _) rfl) ?_
 refine TL.cons rfl (Step.load_box_agg (n := 6) (qs := [.d (.sl 10 (a.f6.f0.map SHead.cells)), .d (.int .i64 a.f6.f1.f0), .d (.int .i64 a.f6.f1.f1), .d (.ints .u8 a.f6.f1.f2), .d (.ints .u8 a.f6.f1.f3), .d (.bss a.f6.f1.f4)]) rfl rfl (lt_ok rfl) (by kernel_rfl) rfl rfl rfl rfl) ?_
 refine TL.cons rfl (Step.call (f := 49) (xs := [.tmp 28]) (ps := [(.agg [.d (.sl 10 (a.f6.f0.map SHead.cells)), .d (.int .i64 a.f6.f1.f0), .d (.int .i64 a.f6.f1.f1), .d (.ints .u8 a.f6.f1.f2), .d (.ints .u8 a.f6.f1.f3), .d (.bss a.f6.f1.f4)])]) false (g := .func 49) rfl rfl (lt_ok rfl) rfl (by kernel_rfl) rfl (.cons (.agg (.cons (.d _) (.cons (.d _) (.cons (.d _) (.cons (.d _) (.cons (.d _) (.cons (.d _) .nil))))))) .nil) (ok_laws_toProof a.f6 (by first | assumption | exact ⟨‹_›, ‹_›⟩ | (refine mem_getD (p := SProof.sm) h0_.2 (by omega)) | exact mem_getD h0_.2 (by omega))) (.inr rfl) rfl (by simp) rfl) ?_
 refine TL.cons rfl (Step.fieldAddr (q := 0) (off := 34) (n := 6) (one := false) rfl rfl (lt_ok rfl) (by kernel_rfl) (Nat.succ_ne_zero _) rfl) ?_
 refine TL.cons rfl (Step.store_box (n := 6) (p := (.agg [.row 1029 [], .d (.int .i64 a.f6.f1.f0), .d (.int .i64 a.f6.f1.f1), .row 4029 [], .row 5029 [], .row 6029 []])) (qs := [.row 1029 [], .d (.int .i64 a.f6.f1.f0), .d (.int .i64 a.f6.f1.f1), .row 4029 [], .row 5029 [], .row 6029 []]) (ps' := [.d (.int .i64 a.f0), .d (.int .i64 a.f1.f0), .d (.int .i64 a.f1.f1), .row 3009 [], .d (.int .i64 a.f1.f3), .row 5009 [], .d (.int .i64 a.f2.f0), .d (.int .i64 a.f2.f1), .row 3013 [], .row 4013 [], .row 5013 [], .d (.int .i64 a.f3.f0), .d (.int .i64 a.f3.f1), .d (.int .i64 a.f3.f2), .row 4017 [], .row 5017 [], .d (.int .i64 a.f3.f5.f0), .d (.int .i64 a.f3.f5.f1), .row 8017 [], .row 9017 [], .row 10017 [], .d (.int .i64 a.f4.f0.f0), .d (.int .i64 a.f4.f0.f1), .d (.int .i64 a.f4.f0.f2), .row 4021 [], .row 5021 [], .d (.int .i64 a.f4.f0.f5.f0), .d (.int .i64 a.f4.f0.f5.f1), .row 8021 [], .row 9021 [], .row 10021 [], .row 11021 [], .d (.int .i64 a.f5.f0), .row 2025 [], .row 1029 [], .d (.int .i64 a.f6.f1.f0), .d (.int .i64 a.f6.f1.f1), .row 4029 [], .row 5029 [], .row 6029 [], .d (.int .i64 0), .d (.int .i64 0), .d (.int .i64 0), .nil, .nil]) rfl rfl (by kernel_rfl) rfl rfl rfl rfl rfl rfl (le_ok rfl) rfl) ?_
 refine TL.nil ?_
 refine T.seq ?_
 refine T.region ?_
 refine TL.cons rfl (Step.fieldAddr (q := 0) (off := 40) (n := 5) (one := false) rfl rfl (lt_ok rfl) (by kernel_rfl) (Nat.succ_ne_zero _) rfl) ?_
 refine TL.cons rfl (Step.load_box_agg (n := 5) (qs := [.d (.int .i64 a.f7.f0), .d (.int .i64 a.f7.f1), .d (.int .i64 a.f7.f2), .d (.ints .u8 a.f7.f3), .d (.bss a.f7.f4)]) rfl rfl (lt_ok rfl) (by kernel_rfl) rfl rfl rfl rfl) ?_
 refine TL.cons rfl (Step.call (f := 23) (xs := [.tmp 32]) (ps := [(.agg [.d (.int .i64 a.f7.f0), .d (.int .i64 a.f7.f1), .d (.int .i64 a.f7.f2), .d (.ints .u8 a.f7.f3), .d (.bss a.f7.f4)])]) false (g := .func 23) rfl rfl (lt_ok rfl) rfl (by kernel_rfl) rfl (.cons (.agg (.cons (.d _) (.cons (.d _) (.cons (.d _) (.cons (.d _) (.cons (.d _) .nil)))))) .nil) (ok_laws_toIncl a.f7 (by first | assumption | exact ⟨‹_›, ‹_›⟩ | (refine mem_getD (p := SIncl.sm) h0_.2 (by omega)) | exact mem_getD h0_.2 (by omega))) (.inr rfl) rfl (by simp) rfl) ?_
 refine TL.cons rfl (Step.fieldAddr (q := 0) (off := 40) (n := 5) (one := false) rfl rfl (lt_ok rfl) (by kernel_rfl) (Nat.succ_ne_zero _) rfl) ?_
 refine TL.cons rfl (Step.store_box (n := 5) (p := (.agg [.d (.int .i64 a.f7.f0), .d (.int .i64 a.f7.f1), .d (.int .i64 a.f7.f2), .row 4033 [], .row 5033 []])) (qs := [.d (.int .i64 a.f7.f0), .d (.int .i64 a.f7.f1), .d (.int .i64 a.f7.f2), .row 4033 [], .row 5033 []]) (ps' := [.d (.int .i64 a.f0), .d (.int .i64 a.f1.f0), .d (.int .i64 a.f1.f1), .row 3009 [], .d (.int .i64 a.f1.f3), .row 5009 [], .d (.int .i64 a.f2.f0), .d (.int .i64 a.f2.f1), .row 3013 [], .row 4013 [], .row 5013 [], .d (.int .i64 a.f3.f0), .d (.int .i64 a.f3.f1), .d (.int .i64 a.f3.f2), .row 4017 [], .row 5017 [], .d (.int .i64 a.f3.f5.f0), .d (.int .i64 a.f3.f5.f1), .row 8017 [], .row 9017 [], .row 10017 [], .d (.int .i64 a.f4.f0.f0), .d (.int .i64 a.f4.f0.f1), .d (.int .i64 a.f4.f0.f2), .row 4021 [], .row 5021 [], .d (.int .i64 a.f4.f0.f5.f0), .d (.int .i64 a.f4.f0.f5.f1), .row 8021 [], .row 9021 [], .row 10021 [], .row 11021 [], .d (.int .i64 a.f5.f0), .row 2025 [], .row 1029 [], .d (.int .i64 a.f6.f1.f0), .d (.int .i64 a.f6.f1.f1), .row 4029 [], .row 5029 [], .row 6029 [], .d (.int .i64 a.f7.f0), .d (.int .i64 a.f7.f1), .d (.int .i64 a.f7.f2), .row 4033 [], .row 5033 []]) rfl rfl (by kernel_rfl) rfl rfl rfl rfl rfl rfl (le_ok rfl) rfl) ?_
 refine TL.nil ?_
 refine T.seq ?_
 refine T.region ?_
 refine TL.cons rfl (Step.load_box_agg (n := 45) (qs := [.d (.int .i64 a.f0), .d (.int .i64 a.f1.f0), .d (.int .i64 a.f1.f1), .row 3009 [], .d (.int .i64 a.f1.f3), .row 5009 [], .d (.int .i64 a.f2.f0), .d (.int .i64 a.f2.f1), .row 3013 [], .row 4013 [], .row 5013 [], .d (.int .i64 a.f3.f0), .d (.int .i64 a.f3.f1), .d (.int .i64 a.f3.f2), .row 4017 [], .row 5017 [], .d (.int .i64 a.f3.f5.f0), .d (.int .i64 a.f3.f5.f1), .row 8017 [], .row 9017 [], .row 10017 [], .d (.int .i64 a.f4.f0.f0), .d (.int .i64 a.f4.f0.f1), .d (.int .i64 a.f4.f0.f2), .row 4021 [], .row 5021 [], .d (.int .i64 a.f4.f0.f5.f0), .d (.int .i64 a.f4.f0.f5.f1), .row 8021 [], .row 9021 [], .row 10021 [], .row 11021 [], .d (.int .i64 a.f5.f0), .row 2025 [], .row 1029 [], .d (.int .i64 a.f6.f1.f0), .d (.int .i64 a.f6.f1.f1), .row 4029 [], .row 5029 [], .row 6029 [], .d (.int .i64 a.f7.f0), .d (.int .i64 a.f7.f1), .d (.int .i64 a.f7.f2), .row 4033 [], .row 5033 []]) rfl rfl (lt_ok rfl) (by kernel_rfl) rfl rfl rfl rfl) ?_
 refine TL.cons rfl (Step.store_box (n := 45) (p := (.agg [.d (.int .i64 a.f0), .d (.int .i64 a.f1.f0), .d (.int .i64 a.f1.f1), .row 3009 [], .d (.int .i64 a.f1.f3), .row 5009 [], .d (.int .i64 a.f2.f0), .d (.int .i64 a.f2.f1), .row 3013 [], .row 4013 [], .row 5013 [], .d (.int .i64 a.f3.f0), .d (.int .i64 a.f3.f1), .d (.int .i64 a.f3.f2), .row 4017 [], .row 5017 [], .d (.int .i64 a.f3.f5.f0), .d (.int .i64 a.f3.f5.f1), .row 8017 [], .row 9017 [], .row 10017 [], .d (.int .i64 a.f4.f0.f0), .d (.int .i64 a.f4.f0.f1), .d (.int .i64 a.f4.f0.f2), .row 4021 [], .row 5021 [], .d (.int .i64 a.f4.f0.f5.f0), .d (.int .i64 a.f4.f0.f5.f1), .row 8021 [], .row 9021 [], .row 10021 [], .row 11021 [], .d (.int .i64 a.f5.f0), .row 2025 [], .row 1029 [], .d (.int .i64 a.f6.f1.f0), .d (.int .i64 a.f6.f1.f1), .row 4029 [], .row 5029 [], .row 6029 [], .d (.int .i64 a.f7.f0), .d (.int .i64 a.f7.f1), .d (.int .i64 a.f7.f2), .row 4033 [], .row 5033 []])) (qs := [.d (.int .i64 a.f0), .d (.int .i64 a.f1.f0), .d (.int .i64 a.f1.f1), .row 3009 [], .d (.int .i64 a.f1.f3), .row 5009 [], .d (.int .i64 a.f2.f0), .d (.int .i64 a.f2.f1), .row 3013 [], .row 4013 [], .row 5013 [], .d (.int .i64 a.f3.f0), .d (.int .i64 a.f3.f1), .d (.int .i64 a.f3.f2), .row 4017 [], .row 5017 [], .d (.int .i64 a.f3.f5.f0), .d (.int .i64 a.f3.f5.f1), .row 8017 [], .row 9017 [], .row 10017 [], .d (.int .i64 a.f4.f0.f0), .d (.int .i64 a.f4.f0.f1), .d (.int .i64 a.f4.f0.f2), .row 4021 [], .row 5021 [], .d (.int .i64 a.f4.f0.f5.f0), .d (.int .i64 a.f4.f0.f5.f1), .row 8021 [], .row 9021 [], .row 10021 [], .row 11021 [], .d (.int .i64 a.f5.f0), .row 2025 [], .row 1029 [], .d (.int .i64 a.f6.f1.f0), .d (.int .i64 a.f6.f1.f1), .row 4029 [], .row 5029 [], .row 6029 [], .d (.int .i64 a.f7.f0), .d (.int .i64 a.f7.f1), .d (.int .i64 a.f7.f2), .row 4033 [], .row 5033 []]) (ps' := [.d (.int .i64 a.f0), .d (.int .i64 a.f1.f0), .d (.int .i64 a.f1.f1), .row 3009 [], .d (.int .i64 a.f1.f3), .row 5009 [], .d (.int .i64 a.f2.f0), .d (.int .i64 a.f2.f1), .row 3013 [], .row 4013 [], .row 5013 [], .d (.int .i64 a.f3.f0), .d (.int .i64 a.f3.f1), .d (.int .i64 a.f3.f2), .row 4017 [], .row 5017 [], .d (.int .i64 a.f3.f5.f0), .d (.int .i64 a.f3.f5.f1), .row 8017 [], .row 9017 [], .row 10017 [], .d (.int .i64 a.f4.f0.f0), .d (.int .i64 a.f4.f0.f1), .d (.int .i64 a.f4.f0.f2), .row 4021 [], .row 5021 [], .d (.int .i64 a.f4.f0.f5.f0), .d (.int .i64 a.f4.f0.f5.f1), .row 8021 [], .row 9021 [], .row 10021 [], .row 11021 [], .d (.int .i64 a.f5.f0), .row 2025 [], .row 1029 [], .d (.int .i64 a.f6.f1.f0), .d (.int .i64 a.f6.f1.f1), .row 4029 [], .row 5029 [], .row 6029 [], .d (.int .i64 a.f7.f0), .d (.int .i64 a.f7.f1), .d (.int .i64 a.f7.f2), .row 4033 [], .row 5033 []]) rfl rfl (by kernel_rfl) rfl rfl rfl rfl rfl rfl (le_ok rfl) rfl) ?_
 refine TL.nil ?_
 refine T.weaken (E' := { tm := [(2, (.one (.ptr 2 0)))], rows := [(3009, (5, (.ints .u8 a.f1.f2))), (5009, (5, (.ints .u8 a.f1.f4))), (3013, (5, (.ints .u8 a.f2.f2))), (4013, (5, (.ints .u8 a.f2.f3))), (5013, (37, (.bss a.f2.f4))), (4017, (5, (.ints .u8 a.f3.f3))), (5017, (5, (.ints .u8 a.f3.f4))), (8017, (5, (.ints .u8 a.f3.f5.f2))), (9017, (5, (.ints .u8 a.f3.f5.f3))), (10017, (37, (.bss a.f3.f5.f4))), (4021, (5, (.ints .u8 a.f4.f0.f3))), (5021, (5, (.ints .u8 a.f4.f0.f4))), (8021, (5, (.ints .u8 a.f4.f0.f5.f2))), (9021, (5, (.ints .u8 a.f4.f0.f5.f3))), (10021, (37, (.bss a.f4.f0.f5.f4))), (11021, (37, (.bss a.f4.f1))), (2025, (113, (.sl 3 (a.f5.f1.map SEntry.cells)))), (1029, (55, (.sl 10 (a.f6.f0.map SHead.cells)))), (4029, (5, (.ints .u8 a.f6.f1.f2))), (5029, (5, (.ints .u8 a.f6.f1.f3))), (6029, (37, (.bss a.f6.f1.f4))), (4033, (5, (.ints .u8 a.f7.f3))), (5033, (37, (.bss a.f7.f4)))], boxes := [(2, (150, [.d (.int .i64 a.f0), .d (.int .i64 a.f1.f0), .d (.int .i64 a.f1.f1), .row 3009 [], .d (.int .i64 a.f1.f3), .row 5009 [], .d (.int .i64 a.f2.f0), .d (.int .i64 a.f2.f1), .row 3013 [], .row 4013 [], .row 5013 [], .d (.int .i64 a.f3.f0), .d (.int .i64 a.f3.f1), .d (.int .i64 a.f3.f2), .row 4017 [], .row 5017 [], .d (.int .i64 a.f3.f5.f0), .d (.int .i64 a.f3.f5.f1), .row 8017 [], .row 9017 [], .row 10017 [], .d (.int .i64 a.f4.f0.f0), .d (.int .i64 a.f4.f0.f1), .d (.int .i64 a.f4.f0.f2), .row 4021 [], .row 5021 [], .d (.int .i64 a.f4.f0.f5.f0), .d (.int .i64 a.f4.f0.f5.f1), .row 8021 [], .row 9021 [], .row 10021 [], .row 11021 [], .d (.int .i64 a.f5.f0), .row 2025 [], .row 1029 [], .d (.int .i64 a.f6.f1.f0), .d (.int .i64 a.f6.f1.f1), .row 4029 [], .row 5029 [], .row 6029 [], .d (.int .i64 a.f7.f0), .d (.int .i64 a.f7.f1), .d (.int .i64 a.f7.f2), .row 4033 [], .row 5033 []]))] }) (Env.le_mk ⟨by kernel_rfl, trivial⟩ ⟨by kernel_rfl, by kernel_rfl, by kernel_rfl, by kernel_rfl, by kernel_rfl, by kernel_rfl, by kernel_rfl, by kernel_rfl, by kernel_rfl, by kernel_rfl, by kernel_rfl, by kernel_rfl, by kernel_rfl, by kernel_rfl, by kernel_rfl, by kernel_rfl, by kernel_rfl, by kernel_rfl, by kernel_rfl, by kernel_rfl, by kernel_rfl, by kernel_rfl, by kernel_rfl, trivial⟩ ⟨by kernel_rfl, trivial⟩) ?_
 refine T.ret ?_
 exact ⟨[(true, [.d (.int .i64 a.f0), .d (.int .i64 a.f1.f0), .d (.int .i64 a.f1.f1), .row 3009 [], .d (.int .i64 a.f1.f3), .row 5009 [], .d (.int .i64 a.f2.f0), .d (.int .i64 a.f2.f1), .row 3013 [], .row 4013 [], .row 5013 [], .d (.int .i64 a.f3.f0), .d (.int .i64 a.f3.f1), .d (.int .i64 a.f3.f2), .row 4017 [], .row 5017 [], .d (.int .i64 a.f3.f5.f0), .d (.int .i64 a.f3.f5.f1), .row 8017 [], .row 9017 [], .row 10017 [], .d (.int .i64 a.f4.f0.f0), .d (.int .i64 a.f4.f0.f1), .d (.int .i64 a.f4.f0.f2), .row 4021 [], .row 5021 [], .d (.int .i64 a.f4.f0.f5.f0), .d (.int .i64 a.f4.f0.f5.f1), .row 8021 [], .row 9021 [], .row 10021 [], .row 11021 [], .d (.int .i64 a.f5.f0), .row 2025 [], .row 1029 [], .d (.int .i64 a.f6.f1.f0), .d (.int .i64 a.f6.f1.f1), .row 4029 [], .row 5029 [], .row 6029 [], .d (.int .i64 a.f7.f0), .d (.int .i64 a.f7.f1), .d (.int .i64 a.f7.f2), .row 4033 [], .row 5033 []])], (.cons rfl .nil), rfl, [3009, 5009, 3013, 4013, 5013, 4017, 5017, 8017, 9017, 10017, 4021, 5021, 8021, 9021, 10021, 11021, 2025, 1029, 4029, 5029, 6029, 4033, 5033], (RetC.rd' (by rfl) (RetC.rd' (by rfl) (RetC.rd' (by rfl) (RetC.own' rfl (by rfl) rfl (RetC.rd' (by rfl) (RetC.own' rfl (by rfl) rfl (RetC.rd' (by rfl) (RetC.rd' (by rfl) (RetC.own' rfl (by rfl) rfl (RetC.own' rfl (by rfl) rfl (RetC.own' rfl (by rfl) rfl (RetC.rd' (by rfl) (RetC.rd' (by rfl) (RetC.rd' (by rfl) (RetC.own' rfl (by rfl) rfl (RetC.own' rfl (by rfl) rfl (RetC.rd' (by rfl) (RetC.rd' (by rfl) (RetC.own' rfl (by rfl) rfl (RetC.own' rfl (by rfl) rfl (RetC.own' rfl (by rfl) rfl (RetC.rd' (by rfl) (RetC.rd' (by rfl) (RetC.rd' (by rfl) (RetC.own' rfl (by rfl) rfl (RetC.own' rfl (by rfl) rfl (RetC.rd' (by rfl) (RetC.rd' (by rfl) (RetC.own' rfl (by rfl) rfl (RetC.own' rfl (by rfl) rfl (RetC.own' rfl (by rfl) rfl (RetC.own' rfl (by rfl) rfl (RetC.rd' (by rfl) (RetC.own' rfl (by rfl) rfl (RetC.own' rfl (by rfl) rfl (RetC.rd' (by rfl) (RetC.rd' (by rfl) (RetC.own' rfl (by rfl) rfl (RetC.own' rfl (by rfl) rfl (RetC.own' rfl (by rfl) rfl (RetC.rd' (by rfl) (RetC.rd' (by rfl) (RetC.rd' (by rfl) (RetC.own' rfl (by rfl) rfl (RetC.own' rfl (by rfl) rfl .nil)))))))))))))))))))))))))))))))))))))))))))))⟩
end Go.Proofs.Ytniapflmmigbjaa.Rf
