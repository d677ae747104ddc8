/- The functions that FnExactEventsSame calls, each held to what it answers. Printed by a program of this session; Lean checks it. -/
import Derived.Test.YtppldhkkhadngaaProg
import Derived.Test.YtppldhkkhadngaaRf16
namespace Go.Proofs.Ytppldhkkhadngaa.Rf
open Go.RowKit
set_option linter.unusedVariables false
set_option linter.unnecessarySimpa false
set_option linter.unusedSimpArgs false
set_option maxRecDepth 100000
set_option maxHeartbeats 4000000
@[ext] structure SVote where
  f0 : Int
  f1 : Int
  f2 : List Int
  f3 : Int
  f4 : List Int
  deriving Inhabited, DecidableEq
def SVote.cells (x : SVote) : List D := [(.int .i64 x.f0), (.int .i64 x.f1), (.ints .u8 x.f2), (.int .i64 x.f3), (.ints .u8 x.f4)]
theorem SVote.len (x : SVote) : x.cells.length = 5 := rfl
def SVote.sz (x : SVote) (l : Int) : Int := szThen (szB x.f2 l) fun l0 => szThen (szB x.f4 l0) fun l1 => l1
def SVote.sm (x : SVote) : Prop := (x.f2.length ≤ 1048576) ∧ (x.f4.length ≤ 1048576)
def SVote.ok (x : SVote) : Prop := (I64 x.f0) ∧ (I64 x.f1) ∧ (U8s x.f2) ∧ (I64 x.f3) ∧ (U8s x.f4)
theorem SVote.sz_le (x : SVote) {l : Int} (h : 0 ≤ l) : x.sz l ≤ l := by
  unfold SVote.sz
  exact szThen_le' (szB_le _ h) h fun l0 h0 => szThen_le' (szB_le _ h0) h0 fun l1 h1 => Int.le_refl _
theorem SVote.sz_sm (x : SVote) {l : Int} (h0 : 0 ≤ l) (hl : l ≤ 1048576) (h : 0 ≤ x.sz l) : x.sm := by
  unfold SVote.sz at h
  have ⟨p0, h⟩ := szThen_nn h
  have e0 : (szB x.f2 l) ≤ l := szB_le _ h0
  have s0 := szB_sm p0 hl
  have c0 := Int.le_trans e0 hl
  have ⟨p1, h⟩ := szThen_nn h
  have e1 : (szB x.f4 (szB x.f2 l)) ≤ (szB x.f2 l) := szB_le _ p0
  have s1 := szB_sm p1 c0
  have c1 := Int.le_trans e1 c0
  exact ⟨s0, s1⟩
@[ext] structure SQc where
  f0 : Int
  f1 : Int
  f2 : List Int
  f3 : List Int
  f4 : List (List Int)
  deriving Inhabited, DecidableEq
def SQc.cells (x : SQc) : List D := [(.int .i64 x.f0), (.int .i64 x.f1), (.ints .u8 x.f2), (.ints .u8 x.f3), (.bss x.f4)]
theorem SQc.len (x : SQc) : x.cells.length = 5 := rfl
def SQc.sz (x : SQc) (l : Int) : Int := szThen (szB x.f2 l) fun l0 => szThen (szB x.f3 l0) fun l1 => szThen (szLs szB x.f4 l1) fun l2 => l2
def SQc.sm (x : SQc) : Prop := (x.f2.length ≤ 1048576) ∧ (x.f3.length ≤ 1048576) ∧ (x.f4.length ≤ 1048576 ∧ ∀ y ∈ x.f4, y.length ≤ 1048576)
def SQc.ok (x : SQc) : Prop := (I64 x.f0) ∧ (I64 x.f1) ∧ (U8s x.f2) ∧ (U8s x.f3) ∧ (∀ y ∈ x.f4, U8s y)
theorem SQc.sz_le (x : SQc) {l : Int} (h : 0 ≤ l) : x.sz l ≤ l := by
  unfold SQc.sz
  exact szThen_le' (szB_le _ h) h fun l0 h0 => szThen_le' (szB_le _ h0) h0 fun l1 h1 => szThen_le' (szLs_le (fun x l h => szB_le x h) _ h1) h1 fun l2 h2 => Int.le_refl _
theorem SQc.sz_sm (x : SQc) {l : Int} (h0 : 0 ≤ l) (hl : l ≤ 1048576) (h : 0 ≤ x.sz l) : x.sm := by
  unfold SQc.sz at h
  have ⟨p0, h⟩ := szThen_nn h
  have e0 : (szB x.f2 l) ≤ l := szB_le _ h0
  have s0 := szB_sm p0 hl
  have c0 := Int.le_trans e0 hl
  have ⟨p1, h⟩ := szThen_nn h
  have e1 : (szB x.f3 (szB x.f2 l)) ≤ (szB x.f2 l) := szB_le _ p0
  have s1 := szB_sm p1 c0
  have c1 := Int.le_trans e1 c0
  have ⟨p2, h⟩ := szThen_nn h
  have e2 : (szLs szB x.f4 (szB x.f3 (szB x.f2 l))) ≤ (szB x.f3 (szB x.f2 l)) := szLs_le (fun x l h => szB_le x h) _ p1
  have s2 := szLs_sm (p := fun y => y.length ≤ 1048576) (fun x l h => szB_le x h) (fun x l h h0 hl => szB_sm h hl) p2 c1
  have c2 := Int.le_trans e2 c1
  exact ⟨s0, s1, s2⟩
@[ext] structure SHead where
  f0 : Int
  f1 : Int
  f2 : Int
  f3 : List Int
  f4 : List Int
  f5 : SQc
  deriving Inhabited, DecidableEq
def SHead.cells (x : SHead) : List D := [(.int .i64 x.f0), (.int .i64 x.f1), (.int .i64 x.f2), (.ints .u8 x.f3), (.ints .u8 x.f4), (.int .i64 x.f5.f0), (.int .i64 x.f5.f1), (.ints .u8 x.f5.f2), (.ints .u8 x.f5.f3), (.bss x.f5.f4)]
theorem SHead.len (x : SHead) : x.cells.length = 10 := rfl
def SHead.sz (x : SHead) (l : Int) : Int := szThen (szB x.f3 l) fun l0 => szThen (szB x.f4 l0) fun l1 => szThen (SQc.sz x.f5 l1) fun l2 => l2
def SHead.sm (x : SHead) : Prop := (x.f3.length ≤ 1048576) ∧ (x.f4.length ≤ 1048576) ∧ (x.f5.sm)
def SHead.ok (x : SHead) : Prop := (I64 x.f0) ∧ (I64 x.f1) ∧ (I64 x.f2) ∧ (U8s x.f3) ∧ (U8s x.f4) ∧ (x.f5.ok)
theorem SHead.sz_le (x : SHead) {l : Int} (h : 0 ≤ l) : x.sz l ≤ l := by
  unfold SHead.sz
  exact szThen_le' (szB_le _ h) h fun l0 h0 => szThen_le' (szB_le _ h0) h0 fun l1 h1 => szThen_le' (SQc.sz_le _ h1) h1 fun l2 h2 => Int.le_refl _
theorem SHead.sz_sm (x : SHead) {l : Int} (h0 : 0 ≤ l) (hl : l ≤ 1048576) (h : 0 ≤ x.sz l) : x.sm := by
  unfold SHead.sz at h
  have ⟨p0, h⟩ := szThen_nn h
  have e0 : (szB x.f3 l) ≤ l := szB_le _ h0
  have s0 := szB_sm p0 hl
  have c0 := Int.le_trans e0 hl
  have ⟨p1, h⟩ := szThen_nn h
  have e1 : (szB x.f4 (szB x.f3 l)) ≤ (szB x.f3 l) := szB_le _ p0
  have s1 := szB_sm p1 c0
  have c1 := Int.le_trans e1 c0
  have ⟨p2, h⟩ := szThen_nn h
  have e2 : (SQc.sz x.f5 (szB x.f4 (szB x.f3 l))) ≤ (szB x.f4 (szB x.f3 l)) := SQc.sz_le _ p1
  have s2 := SQc.sz_sm _ p1 c1 p2
  have c2 := Int.le_trans e2 c1
  exact ⟨s0, s1, s2⟩
@[ext] structure SBlock where
  f0 : SHead
  f1 : List (List Int)
  deriving Inhabited, DecidableEq
def SBlock.cells (x : SBlock) : List D := [(.int .i64 x.f0.f0), (.int .i64 x.f0.f1), (.int .i64 x.f0.f2), (.ints .u8 x.f0.f3), (.ints .u8 x.f0.f4), (.int .i64 x.f0.f5.f0), (.int .i64 x.f0.f5.f1), (.ints .u8 x.f0.f5.f2), (.ints .u8 x.f0.f5.f3), (.bss x.f0.f5.f4), (.bss x.f1)]
theorem SBlock.len (x : SBlock) : x.cells.length = 11 := rfl
def SBlock.sz (x : SBlock) (l : Int) : Int := szThen (SHead.sz x.f0 l) fun l0 => szThen (szLs szB x.f1 l0) fun l1 => l1
def SBlock.sm (x : SBlock) : Prop := (x.f0.sm) ∧ (x.f1.length ≤ 1048576 ∧ ∀ y ∈ x.f1, y.length ≤ 1048576)
def SBlock.ok (x : SBlock) : Prop := (x.f0.ok) ∧ (∀ y ∈ x.f1, U8s y)
theorem SBlock.sz_le (x : SBlock) {l : Int} (h : 0 ≤ l) : x.sz l ≤ l := by
  unfold SBlock.sz
  exact szThen_le' (SHead.sz_le _ h) h fun l0 h0 => szThen_le' (szLs_le (fun x l h => szB_le x h) _ h0) h0 fun l1 h1 => Int.le_refl _
theorem SBlock.sz_sm (x : SBlock) {l : Int} (h0 : 0 ≤ l) (hl : l ≤ 1048576) (h : 0 ≤ x.sz l) : x.sm := by
  unfold SBlock.sz at h
  have ⟨p0, h⟩ := szThen_nn h
  have e0 : (SHead.sz x.f0 l) ≤ l := SHead.sz_le _ h0
  have s0 := SHead.sz_sm _ h0 hl p0
  have c0 := Int.le_trans e0 hl
  have ⟨p1, h⟩ := szThen_nn h
  have e1 : (szLs szB x.f1 (SHead.sz x.f0 l)) ≤ (SHead.sz x.f0 l) := szLs_le (fun x l h => szB_le x h) _ p0
  have s1 := szLs_sm (p := fun y => y.length ≤ 1048576) (fun x l h => szB_le x h) (fun x l h h0 hl => szB_sm h hl) p1 c0
  have c1 := Int.le_trans e1 c0
  exact ⟨s0, s1⟩
@[ext] structure SEntry where
  f0 : Int
  f1 : Int
  f2 : List Int
  deriving Inhabited, DecidableEq
def SEntry.cells (x : SEntry) : List D := [(.int .i64 x.f0), (.int .i64 x.f1), (.ints .u8 x.f2)]
theorem SEntry.len (x : SEntry) : x.cells.length = 3 := rfl
def SEntry.sz (x : SEntry) (l : Int) : Int := szThen (szB x.f2 l) fun l0 => l0
def SEntry.sm (x : SEntry) : Prop := (x.f2.length ≤ 1048576)
def SEntry.ok (x : SEntry) : Prop := (I64 x.f0) ∧ (I64 x.f1) ∧ (U8s x.f2)
theorem SEntry.sz_le (x : SEntry) {l : Int} (h : 0 ≤ l) : x.sz l ≤ l := by
  unfold SEntry.sz
  exact szThen_le' (szB_le _ h) h fun l0 h0 => Int.le_refl _
theorem SEntry.sz_sm (x : SEntry) {l : Int} (h0 : 0 ≤ l) (hl : l ≤ 1048576) (h : 0 ≤ x.sz l) : x.sm := by
  unfold SEntry.sz at h
  have ⟨p0, h⟩ := szThen_nn h
  have e0 : (szB x.f2 l) ≤ l := szB_le _ h0
  have s0 := szB_sm p0 hl
  have c0 := Int.le_trans e0 hl
  exact s0
@[ext] structure STc where
  f0 : Int
  f1 : List SEntry
  deriving Inhabited, DecidableEq
def STc.cells (x : STc) : List D := [(.int .i64 x.f0), (.sl 3 (x.f1.map SEntry.cells))]
theorem STc.len (x : STc) : x.cells.length = 2 := rfl
def STc.sz (x : STc) (l : Int) : Int := szThen (szLs SEntry.sz x.f1 l) fun l0 => l0
def STc.sm (x : STc) : Prop := (x.f1.length ≤ 1048576 ∧ ∀ y ∈ x.f1, SEntry.sm y)
def STc.ok (x : STc) : Prop := (I64 x.f0) ∧ (∀ y ∈ x.f1, SEntry.ok y)
theorem STc.sz_le (x : STc) {l : Int} (h : 0 ≤ l) : x.sz l ≤ l := by
  unfold STc.sz
  exact szThen_le' (szLs_le (fun x l h => SEntry.sz_le x h) _ h) h fun l0 h0 => Int.le_refl _
theorem STc.sz_sm (x : STc) {l : Int} (h0 : 0 ≤ l) (hl : l ≤ 1048576) (h : 0 ≤ x.sz l) : x.sm := by
  unfold STc.sz at h
  have ⟨p0, h⟩ := szThen_nn h
  have e0 : (szLs SEntry.sz x.f1 l) ≤ l := szLs_le (fun x l h => SEntry.sz_le x h) _ h0
  have s0 := szLs_sm (p := SEntry.sm) (fun x l h => SEntry.sz_le x h) (fun x l h h0 hl => SEntry.sz_sm x h0 hl h) p0 hl
  have c0 := Int.le_trans e0 hl
  exact s0
@[ext] structure SProof where
  f0 : List SHead
  f1 : SQc
  deriving Inhabited, DecidableEq
def SProof.cells (x : SProof) : List D := [(.sl 10 (x.f0.map SHead.cells)), (.int .i64 x.f1.f0), (.int .i64 x.f1.f1), (.ints .u8 x.f1.f2), (.ints .u8 x.f1.f3), (.bss x.f1.f4)]
theorem SProof.len (x : SProof) : x.cells.length = 6 := rfl
def SProof.sz (x : SProof) (l : Int) : Int := szThen (szLs SHead.sz x.f0 l) fun l0 => szThen (SQc.sz x.f1 l0) fun l1 => l1
def SProof.sm (x : SProof) : Prop := (x.f0.length ≤ 1048576 ∧ ∀ y ∈ x.f0, SHead.sm y) ∧ (x.f1.sm)
def SProof.ok (x : SProof) : Prop := (∀ y ∈ x.f0, SHead.ok y) ∧ (x.f1.ok)
theorem SProof.sz_le (x : SProof) {l : Int} (h : 0 ≤ l) : x.sz l ≤ l := by
  unfold SProof.sz
  exact szThen_le' (szLs_le (fun x l h => SHead.sz_le x h) _ h) h fun l0 h0 => szThen_le' (SQc.sz_le _ h0) h0 fun l1 h1 => Int.le_refl _
theorem SProof.sz_sm (x : SProof) {l : Int} (h0 : 0 ≤ l) (hl : l ≤ 1048576) (h : 0 ≤ x.sz l) : x.sm := by
  unfold SProof.sz at h
  have ⟨p0, h⟩ := szThen_nn h
  have e0 : (szLs SHead.sz x.f0 l) ≤ l := szLs_le (fun x l h => SHead.sz_le x h) _ h0
  have s0 := szLs_sm (p := SHead.sm) (fun x l h => SHead.sz_le x h) (fun x l h h0 hl => SHead.sz_sm x h0 hl h) p0 hl
  have c0 := Int.le_trans e0 hl
  have ⟨p1, h⟩ := szThen_nn h
  have e1 : (SQc.sz x.f1 (szLs SHead.sz x.f0 l)) ≤ (szLs SHead.sz x.f0 l) := SQc.sz_le _ p0
  have s1 := SQc.sz_sm _ p0 c0 p1
  have c1 := Int.le_trans e1 c0
  exact ⟨s0, s1⟩
@[ext] structure SIncl where
  f0 : Int
  f1 : Int
  f2 : Int
  f3 : List Int
  f4 : List (List Int)
  deriving Inhabited, DecidableEq
def SIncl.cells (x : SIncl) : List D := [(.int .i64 x.f0), (.int .i64 x.f1), (.int .i64 x.f2), (.ints .u8 x.f3), (.bss x.f4)]
theorem SIncl.len (x : SIncl) : x.cells.length = 5 := rfl
def SIncl.sz (x : SIncl) (l : Int) : Int := szThen (szB x.f3 l) fun l0 => szThen (szLs szB x.f4 l0) fun l1 => l1
def SIncl.sm (x : SIncl) : Prop := (x.f3.length ≤ 1048576) ∧ (x.f4.length ≤ 1048576 ∧ ∀ y ∈ x.f4, y.length ≤ 1048576)
def SIncl.ok (x : SIncl) : Prop := (I64 x.f0) ∧ (I64 x.f1) ∧ (I64 x.f2) ∧ (U8s x.f3) ∧ (∀ y ∈ x.f4, U8s y)
theorem SIncl.sz_le (x : SIncl) {l : Int} (h : 0 ≤ l) : x.sz l ≤ l := by
  unfold SIncl.sz
  exact szThen_le' (szB_le _ h) h fun l0 h0 => szThen_le' (szLs_le (fun x l h => szB_le x h) _ h0) h0 fun l1 h1 => Int.le_refl _
theorem SIncl.sz_sm (x : SIncl) {l : Int} (h0 : 0 ≤ l) (hl : l ≤ 1048576) (h : 0 ≤ x.sz l) : x.sm := by
  unfold SIncl.sz at h
  have ⟨p0, h⟩ := szThen_nn h
  have e0 : (szB x.f3 l) ≤ l := szB_le _ h0
  have s0 := szB_sm p0 hl
  have c0 := Int.le_trans e0 hl
  have ⟨p1, h⟩ := szThen_nn h
  have e1 : (szLs szB x.f4 (szB x.f3 l)) ≤ (szB x.f3 l) := szLs_le (fun x l h => szB_le x h) _ p0
  have s1 := szLs_sm (p := fun y => y.length ≤ 1048576) (fun x l h => szB_le x h) (fun x l h h0 hl => szB_sm h hl) p1 c0
  have c1 := Int.le_trans e1 c0
  exact ⟨s0, s1⟩
@[ext] structure SMsg where
  f0 : Int
  f1 : SVote
  f2 : SQc
  f3 : SHead
  f4 : SBlock
  f5 : STc
  f6 : SProof
  f7 : SIncl
  deriving Inhabited, DecidableEq
def SMsg.cells (x : SMsg) : List D := [(.int .i64 x.f0), (.int .i64 x.f1.f0), (.int .i64 x.f1.f1), (.ints .u8 x.f1.f2), (.int .i64 x.f1.f3), (.ints .u8 x.f1.f4), (.int .i64 x.f2.f0), (.int .i64 x.f2.f1), (.ints .u8 x.f2.f2), (.ints .u8 x.f2.f3), (.bss x.f2.f4), (.int .i64 x.f3.f0), (.int .i64 x.f3.f1), (.int .i64 x.f3.f2), (.ints .u8 x.f3.f3), (.ints .u8 x.f3.f4), (.int .i64 x.f3.f5.f0), (.int .i64 x.f3.f5.f1), (.ints .u8 x.f3.f5.f2), (.ints .u8 x.f3.f5.f3), (.bss x.f3.f5.f4), (.int .i64 x.f4.f0.f0), (.int .i64 x.f4.f0.f1), (.int .i64 x.f4.f0.f2), (.ints .u8 x.f4.f0.f3), (.ints .u8 x.f4.f0.f4), (.int .i64 x.f4.f0.f5.f0), (.int .i64 x.f4.f0.f5.f1), (.ints .u8 x.f4.f0.f5.f2), (.ints .u8 x.f4.f0.f5.f3), (.bss x.f4.f0.f5.f4), (.bss x.f4.f1), (.int .i64 x.f5.f0), (.sl 3 (x.f5.f1.map SEntry.cells)), (.sl 10 (x.f6.f0.map SHead.cells)), (.int .i64 x.f6.f1.f0), (.int .i64 x.f6.f1.f1), (.ints .u8 x.f6.f1.f2), (.ints .u8 x.f6.f1.f3), (.bss x.f6.f1.f4), (.int .i64 x.f7.f0), (.int .i64 x.f7.f1), (.int .i64 x.f7.f2), (.ints .u8 x.f7.f3), (.bss x.f7.f4)]
theorem SMsg.len (x : SMsg) : x.cells.length = 45 := rfl
def SMsg.sz (x : SMsg) (l : Int) : Int := szThen (SVote.sz x.f1 l) fun l0 => szThen (SQc.sz x.f2 l0) fun l1 => szThen (SHead.sz x.f3 l1) fun l2 => szThen (SBlock.sz x.f4 l2) fun l3 => szThen (STc.sz x.f5 l3) fun l4 => szThen (SProof.sz x.f6 l4) fun l5 => szThen (SIncl.sz x.f7 l5) fun l6 => l6
def SMsg.sm (x : SMsg) : Prop := (x.f1.sm) ∧ (x.f2.sm) ∧ (x.f3.sm) ∧ (x.f4.sm) ∧ (x.f5.sm) ∧ (x.f6.sm) ∧ (x.f7.sm)
def SMsg.ok (x : SMsg) : Prop := (I64 x.f0) ∧ (x.f1.ok) ∧ (x.f2.ok) ∧ (x.f3.ok) ∧ (x.f4.ok) ∧ (x.f5.ok) ∧ (x.f6.ok) ∧ (x.f7.ok)
theorem SMsg.sz_le (x : SMsg) {l : Int} (h : 0 ≤ l) : x.sz l ≤ l := by
  unfold SMsg.sz
  exact szThen_le' (SVote.sz_le _ h) h fun l0 h0 => szThen_le' (SQc.sz_le _ h0) h0 fun l1 h1 => szThen_le' (SHead.sz_le _ h1) h1 fun l2 h2 => szThen_le' (SBlock.sz_le _ h2) h2 fun l3 h3 => szThen_le' (STc.sz_le _ h3) h3 fun l4 h4 => szThen_le' (SProof.sz_le _ h4) h4 fun l5 h5 => szThen_le' (SIncl.sz_le _ h5) h5 fun l6 h6 => Int.le_refl _
theorem SMsg.sz_sm (x : SMsg) {l : Int} (h0 : 0 ≤ l) (hl : l ≤ 1048576) (h : 0 ≤ x.sz l) : x.sm := by
  unfold SMsg.sz at h
  have ⟨p0, h⟩ := szThen_nn h
  have e0 : (SVote.sz x.f1 l) ≤ l := SVote.sz_le _ h0
  have s0 := SVote.sz_sm _ h0 hl p0
  have c0 := Int.le_trans e0 hl
  have ⟨p1, h⟩ := szThen_nn h
  have e1 : (SQc.sz x.f2 (SVote.sz x.f1 l)) ≤ (SVote.sz x.f1 l) := SQc.sz_le _ p0
  have s1 := SQc.sz_sm _ p0 c0 p1
  have c1 := Int.le_trans e1 c0
  have ⟨p2, h⟩ := szThen_nn h
  have e2 : (SHead.sz x.f3 (SQc.sz x.f2 (SVote.sz x.f1 l))) ≤ (SQc.sz x.f2 (SVote.sz x.f1 l)) := SHead.sz_le _ p1
  have s2 := SHead.sz_sm _ p1 c1 p2
  have c2 := Int.le_trans e2 c1
  have ⟨p3, h⟩ := szThen_nn h
  have e3 : (SBlock.sz x.f4 (SHead.sz x.f3 (SQc.sz x.f2 (SVote.sz x.f1 l)))) ≤ (SHead.sz x.f3 (SQc.sz x.f2 (SVote.sz x.f1 l))) := SBlock.sz_le _ p2
  have s3 := SBlock.sz_sm _ p2 c2 p3
  have c3 := Int.le_trans e3 c2
  have ⟨p4, h⟩ := szThen_nn h
  have e4 : (STc.sz x.f5 (SBlock.sz x.f4 (SHead.sz x.f3 (SQc.sz x.f2 (SVote.sz x.f1 l))))) ≤ (SBlock.sz x.f4 (SHead.sz x.f3 (SQc.sz x.f2 (SVote.sz x.f1 l)))) := STc.sz_le _ p3
  have s4 := STc.sz_sm _ p3 c3 p4
  have c4 := Int.le_trans e4 c3
  have ⟨p5, h⟩ := szThen_nn h
  have e5 : (SProof.sz x.f6 (STc.sz x.f5 (SBlock.sz x.f4 (SHead.sz x.f3 (SQc.sz x.f2 (SVote.sz x.f1 l)))))) ≤ (STc.sz x.f5 (SBlock.sz x.f4 (SHead.sz x.f3 (SQc.sz x.f2 (SVote.sz x.f1 l))))) := SProof.sz_le _ p4
  have s5 := SProof.sz_sm _ p4 c4 p5
  have c5 := Int.le_trans e5 c4
  have ⟨p6, h⟩ := szThen_nn h
  have e6 : (SIncl.sz x.f7 (SProof.sz x.f6 (STc.sz x.f5 (SBlock.sz x.f4 (SHead.sz x.f3 (SQc.sz x.f2 (SVote.sz x.f1 l))))))) ≤ (SProof.sz x.f6 (STc.sz x.f5 (SBlock.sz x.f4 (SHead.sz x.f3 (SQc.sz x.f2 (SVote.sz x.f1 l)))))) := SIncl.sz_le _ p5
  have s6 := SIncl.sz_sm _ p5 c5 p6
  have c6 := Int.le_trans e6 c5
  exact ⟨s0, s1, s2, s3, s4, s5, s6⟩
@[ext] structure SEvent where
  f0 : Int
  f1 : Int
  f2 : SMsg
  deriving Inhabited, DecidableEq
def SEvent.cells (x : SEvent) : List D := [(.int .i64 x.f0), (.int .i64 x.f1), (.int .i64 x.f2.f0), (.int .i64 x.f2.f1.f0), (.int .i64 x.f2.f1.f1), (.ints .u8 x.f2.f1.f2), (.int .i64 x.f2.f1.f3), (.ints .u8 x.f2.f1.f4), (.int .i64 x.f2.f2.f0), (.int .i64 x.f2.f2.f1), (.ints .u8 x.f2.f2.f2), (.ints .u8 x.f2.f2.f3), (.bss x.f2.f2.f4), (.int .i64 x.f2.f3.f0), (.int .i64 x.f2.f3.f1), (.int .i64 x.f2.f3.f2), (.ints .u8 x.f2.f3.f3), (.ints .u8 x.f2.f3.f4), (.int .i64 x.f2.f3.f5.f0), (.int .i64 x.f2.f3.f5.f1), (.ints .u8 x.f2.f3.f5.f2), (.ints .u8 x.f2.f3.f5.f3), (.bss x.f2.f3.f5.f4), (.int .i64 x.f2.f4.f0.f0), (.int .i64 x.f2.f4.f0.f1), (.int .i64 x.f2.f4.f0.f2), (.ints .u8 x.f2.f4.f0.f3), (.ints .u8 x.f2.f4.f0.f4), (.int .i64 x.f2.f4.f0.f5.f0), (.int .i64 x.f2.f4.f0.f5.f1), (.ints .u8 x.f2.f4.f0.f5.f2), (.ints .u8 x.f2.f4.f0.f5.f3), (.bss x.f2.f4.f0.f5.f4), (.bss x.f2.f4.f1), (.int .i64 x.f2.f5.f0), (.sl 3 (x.f2.f5.f1.map SEntry.cells)), (.sl 10 (x.f2.f6.f0.map SHead.cells)), (.int .i64 x.f2.f6.f1.f0), (.int .i64 x.f2.f6.f1.f1), (.ints .u8 x.f2.f6.f1.f2), (.ints .u8 x.f2.f6.f1.f3), (.bss x.f2.f6.f1.f4), (.int .i64 x.f2.f7.f0), (.int .i64 x.f2.f7.f1), (.int .i64 x.f2.f7.f2), (.ints .u8 x.f2.f7.f3), (.bss x.f2.f7.f4)]
theorem SEvent.len (x : SEvent) : x.cells.length = 47 := rfl
def SEvent.sz (x : SEvent) (l : Int) : Int := szThen (SMsg.sz x.f2 l) fun l0 => l0
def SEvent.sm (x : SEvent) : Prop := (x.f2.sm)
def SEvent.ok (x : SEvent) : Prop := (I64 x.f0) ∧ (I64 x.f1) ∧ (x.f2.ok)
theorem SEvent.sz_le (x : SEvent) {l : Int} (h : 0 ≤ l) : x.sz l ≤ l := by
  unfold SEvent.sz
  exact szThen_le' (SMsg.sz_le _ h) h fun l0 h0 => Int.le_refl _
theorem SEvent.sz_sm (x : SEvent) {l : Int} (h0 : 0 ≤ l) (hl : l ≤ 1048576) (h : 0 ≤ x.sz l) : x.sm := by
  unfold SEvent.sz at h
  have ⟨p0, h⟩ := szThen_nn h
  have e0 : (SMsg.sz x.f2 l) ≤ l := SMsg.sz_le _ h0
  have s0 := SMsg.sz_sm _ h0 hl p0
  have c0 := Int.le_trans e0 hl
  exact s0

theorem ok_laws_szByteS (a : List Int) (left : Int) (h0_ : 0 ≤ left) (h1_ : left ≤ 9223372036854775807) : RO Try.prog 38 [.one (.ints .u8 a), .one (.int .i64 left)] [(false, [.rd (.int .i64 (szB a left))])] := by
 refine RO.intro Try.func38 rfl 12 rfl (le_ok rfl) fun w Z => ?_
 refine T.bnd 0 0 rfl rfl fun hb_0_0 => ?_
 simp only [D.size, List.length_map] at hb_0_0
 refine T.seq ?_
 refine T.region ?_
 refine TL.cons rfl (Step.assign (p := (.one (.d (.int .i64 0)))) rfl rfl (lt_ok rfl) rfl) ?_
 refine TL.nil ?_
 refine T.seq ?_
 refine T.region ?_
 refine TL.cons rfl (Step.move (p := (.one (.d (.int .i64 left)))) rfl rfl (lt_ok rfl) rfl) ?_
 refine TL.cons rfl (Step.move (p := (.one (.d (.ints .u8 a)))) rfl rfl (lt_ok rfl) rfl) ?_
 refine TL.cons rfl (Step.len (e := 5) (z := 1) (d := (.ints .u8 a)) rfl rfl (lt_ok rfl) (by kernel_rfl) rfl rfl) ?_
 refine TL.cons rfl (Step.bin (r := .int .i64 (left - (a.length : Int))) rfl rfl (lt_ok rfl) rfl rfl (Bin.sub (a := left) (b := (a.length : Int)) (by first | exact wrap_ok (by first | omega | (simp; omega)) (by first | omega | (simp; omega)) | rfl))) ?_
 refine TL.cons rfl (Step.assign (p := (.one (.d (.int .i64 (left - (a.length : Int)))))) rfl rfl (lt_ok rfl) rfl) ?_
 refine TL.nil ?_
 refine T.seq ?_
 refine T.seq ?_
 refine T.region ?_
 refine TL.cons rfl (Step.move (p := (.one (.d (.int .i64 (left - (a.length : Int)))))) rfl rfl (lt_ok rfl) rfl) ?_
 refine TL.cons rfl (Step.bin rfl rfl (lt_ok rfl) rfl rfl (Bin.lss (k := .i64) (a := (left - (a.length : Int))) (b := 0))) ?_
 refine TL.nil ?_
 refine T.cond (b := decide ((left - (a.length : Int)) < 0)) rfl (fun h1 => ?_) (fun h1 => ?_)
 ·
  replace h1 := of_decide_eq_true h1
  refine T.seq ?_
  refine T.region ?_
  refine TL.cons rfl (Step.assign (p := (.one (.d (.int .i64 (-1))))) rfl rfl (lt_ok rfl) rfl) ?_
  refine TL.nil ?_
  refine T.ret ?_
  exact ⟨[(false, [.d (.int .i64 (-1))])], (.cons rfl .nil), rfl, [], (RetC.rd' (by (congr 1; unfold szB; split <;> omega)) .nil)⟩
 ·
  replace h1 := of_decide_eq_false h1
  refine T.skip ?_
  refine T.seq ?_
  refine T.region ?_
  refine TL.cons rfl (Step.move (p := (.one (.d (.int .i64 (left - (a.length : Int)))))) rfl rfl (lt_ok rfl) rfl) ?_
  refine TL.cons rfl (Step.assign (p := (.one (.d (.int .i64 (left - (a.length : Int)))))) rfl rfl (lt_ok rfl) rfl) ?_
  refine TL.nil ?_
  refine T.ret ?_
  exact ⟨[(false, [.d (.int .i64 (left - (a.length : Int)))])], (.cons rfl .nil), rfl, [], (RetC.rd' (by (congr 1; unfold szB; split <;> omega)) .nil)⟩
theorem ok_laws_szVote (a : SVote) (left : Int) (h0_ : 0 ≤ left) (h1_ : left ≤ 9223372036854775807) : RO Try.prog 8 [.agg a.cells, .one (.int .i64 left)] [(false, [.rd (.int .i64 (a.sz left))])] := by
 refine RO.intro Try.func8 rfl 18 rfl (le_ok rfl) fun w Z => ?_
 refine T.seq ?_
 refine T.region ?_
 refine TL.cons rfl (Step.box (p := (.agg [.d (.int .i64 a.f0), .d (.int .i64 a.f1), .d (.ints .u8 a.f2), .d (.int .i64 a.f3), .d (.ints .u8 a.f4)])) (ps := [.d (.int .i64 a.f0), .d (.int .i64 a.f1), .d (.ints .u8 a.f2), .d (.int .i64 a.f3), .d (.ints .u8 a.f4)]) rfl rfl (lt_ok rfl) rfl rfl rfl rfl rfl) ?_
 refine TL.cons rfl (Step.assign (p := (.one (.d (.int .i64 0)))) rfl rfl (lt_ok rfl) rfl) ?_
 refine TL.nil ?_
 refine T.seq ?_
 refine T.region ?_
 refine TL.cons rfl (Step.fieldAddr (q := 0) (off := 2) (n := 1) (one := true) rfl rfl (lt_ok rfl) (by kernel_rfl) (Nat.succ_ne_zero _) rfl) ?_
 refine TL.cons rfl (Step.load_box (c := .d (.ints .u8 a.f2)) rfl rfl (lt_ok rfl) (by kernel_rfl) rfl rfl rfl) ?_
 refine TL.cons rfl (Step.move (p := (.one (.d (.int .i64 left)))) rfl rfl (lt_ok rfl) rfl) ?_
 refine TL.cons rfl (Step.call (f := 38) (xs := [.tmp 6, .tmp 7]) (ps := [(.one (.d (.ints .u8 a.f2))), (.one (.d (.int .i64 left)))]) false (g := .func 38) rfl rfl (lt_ok rfl) rfl (by kernel_rfl) rfl (.cons (.one (.d _)) (.cons (.one (.d _)) .nil)) (ok_laws_szByteS a.f2 left (by omega) (by omega)) (.inr rfl) rfl (by simp) rfl) ?_
 refine TL.cons rfl (Step.assign (p := (.one (.d (.int .i64 (szB a.f2 left))))) rfl rfl (lt_ok rfl) rfl) ?_
 refine TL.nil ?_
 refine T.seq ?_
 refine T.seq ?_
 refine T.region ?_
 refine TL.cons rfl (Step.move (p := (.one (.d (.int .i64 (szB a.f2 left))))) rfl rfl (lt_ok rfl) rfl) ?_
 refine TL.cons rfl (Step.bin rfl rfl (lt_ok rfl) rfl rfl (Bin.lss (k := .i64) (a := (szB a.f2 left)) (b := 0))) ?_
 refine TL.nil ?_
 refine T.cond (b := decide ((szB a.f2 left) < 0)) rfl (fun h2 => ?_) (fun h2 => ?_)
 ·
  replace h2 := of_decide_eq_true h2
  refine T.seq ?_
  refine T.region ?_
  refine TL.cons rfl (Step.assign (p := (.one (.d (.int .i64 (-1))))) rfl rfl (lt_ok rfl) rfl) ?_
  refine TL.nil ?_
  refine T.ret ?_
  exact ⟨[(false, [.d (.int .i64 (-1))])], (.cons rfl .nil), rfl, [], (RetC.rd' (by first | rfl | (congr 1; simp only [SVote.sz, szThen]; repeat' (split <;> try omega))) .nil)⟩
 ·
  replace h2 := of_decide_eq_false h2
  have z1_le : szB a.f2 left ≤ left := szB_le _ (by omega)
  refine T.skip ?_
  refine T.seq ?_
  refine T.region ?_
  refine TL.cons rfl (Step.fieldAddr (q := 0) (off := 4) (n := 1) (one := true) rfl rfl (lt_ok rfl) (by kernel_rfl) (Nat.succ_ne_zero _) rfl) ?_
  refine TL.cons rfl (Step.load_box (c := .d (.ints .u8 a.f4)) rfl rfl (lt_ok rfl) (by kernel_rfl) rfl rfl rfl) ?_
  refine TL.cons rfl (Step.move (p := (.one (.d (.int .i64 (szB a.f2 left))))) rfl rfl (lt_ok rfl) rfl) ?_
  refine TL.cons rfl (Step.call (f := 38) (xs := [.tmp 12, .tmp 13]) (ps := [(.one (.d (.ints .u8 a.f4))), (.one (.d (.int .i64 (szB a.f2 left))))]) false (g := .func 38) rfl rfl (lt_ok rfl) rfl (by kernel_rfl) rfl (.cons (.one (.d _)) (.cons (.one (.d _)) .nil)) (ok_laws_szByteS a.f4 (szB a.f2 left) (by omega) (by omega)) (.inr rfl) rfl (by simp) rfl) ?_
  refine TL.cons rfl (Step.assign (p := (.one (.d (.int .i64 (szB a.f4 (szB a.f2 left)))))) rfl rfl (lt_ok rfl) rfl) ?_
  refine TL.nil ?_
  refine T.seq ?_
  refine T.seq ?_
  refine T.region ?_
  refine TL.cons rfl (Step.move (p := (.one (.d (.int .i64 (szB a.f4 (szB a.f2 left)))))) rfl rfl (lt_ok rfl) rfl) ?_
  refine TL.cons rfl (Step.bin rfl rfl (lt_ok rfl) rfl rfl (Bin.lss (k := .i64) (a := (szB a.f4 (szB a.f2 left))) (b := 0))) ?_
  refine TL.nil ?_
  refine T.cond (b := decide ((szB a.f4 (szB a.f2 left)) < 0)) rfl (fun h4 => ?_) (fun h4 => ?_)
  ·
   replace h4 := of_decide_eq_true h4
   refine T.seq ?_
   refine T.region ?_
   refine TL.cons rfl (Step.assign (p := (.one (.d (.int .i64 (-1))))) rfl rfl (lt_ok rfl) rfl) ?_
   refine TL.nil ?_
   refine T.ret ?_
   exact ⟨[(false, [.d (.int .i64 (-1))])], (.cons rfl .nil), rfl, [], (RetC.rd' (by first | rfl | (congr 1; simp only [SVote.sz, szThen]; repeat' (split <;> try omega))) .nil)⟩
  ·
   replace h4 := of_decide_eq_false h4
   have z3_le : szB a.f4 (szB a.f2 left) ≤ (szB a.f2 left) := szB_le _ (by omega)
   refine T.skip ?_
   refine T.seq ?_
   refine T.region ?_
   refine TL.cons rfl (Step.move (p := (.one (.d (.int .i64 (szB a.f4 (szB a.f2 left)))))) rfl rfl (lt_ok rfl) rfl) ?_
   refine TL.cons rfl (Step.assign (p := (.one (.d (.int .i64 (szB a.f4 (szB a.f2 left)))))) rfl rfl (lt_ok rfl) rfl) ?_
   refine TL.nil ?_
   refine T.ret ?_
   exact ⟨[(false, [.d (.int .i64 (szB a.f4 (szB a.f2 left)))])], (.cons rfl .nil), rfl, [], (RetC.rd' (by first | rfl | (congr 1; simp only [SVote.sz, szThen]; repeat' (split <;> try omega))) .nil)⟩
theorem ok_laws_szByteSS (a : List (List Int)) (left : Int) (h0_ : 0 ≤ left) (h1_ : left ≤ 9223372036854775807) : RO Try.prog 97 [.one (.bss a), .one (.int .i64 left)] [(false, [.rd (.int .i64 (szLs szB a left))])] := by
 refine RO.intro Try.func97 rfl 27 rfl (le_ok rfl) fun w Z => ?_
 refine T.bnd 0 0 rfl rfl fun hb_0_0 => ?_
 simp only [D.size, List.length_map] at hb_0_0
 refine T.seq ?_
 refine T.region ?_
 refine TL.cons rfl (Step.assign (p := (.one (.d (.int .i64 0)))) rfl rfl (lt_ok rfl) rfl) ?_
 refine TL.nil ?_
 refine T.seq ?_
 refine T.region ?_
 refine TL.cons rfl (Step.move (p := (.one (.d (.int .i64 left)))) rfl rfl (lt_ok rfl) rfl) ?_
 refine TL.cons rfl (Step.move (p := (.one (.d (.bss a)))) rfl rfl (lt_ok rfl) rfl) ?_
 refine TL.cons rfl (Step.len (e := 22) (z := 1) (d := (.bss a)) rfl rfl (lt_ok rfl) (by kernel_rfl) rfl rfl) ?_
 refine TL.cons rfl (Step.bin (r := .int .i64 (left - (a.length : Int))) rfl rfl (lt_ok rfl) rfl rfl (Bin.sub (a := left) (b := (a.length : Int)) (by first | exact wrap_ok (by first | omega | (simp; omega)) (by first | omega | (simp; omega)) | rfl))) ?_
 refine TL.cons rfl (Step.assign (p := (.one (.d (.int .i64 (left - (a.length : Int)))))) rfl rfl (lt_ok rfl) rfl) ?_
 refine TL.nil ?_
 refine T.seq ?_
 refine T.seq ?_
 refine T.region ?_
 refine TL.cons rfl (Step.move (p := (.one (.d (.int .i64 (left - (a.length : Int)))))) rfl rfl (lt_ok rfl) rfl) ?_
 refine TL.cons rfl (Step.bin rfl rfl (lt_ok rfl) rfl rfl (Bin.lss (k := .i64) (a := (left - (a.length : Int))) (b := 0))) ?_
 refine TL.nil ?_
 refine T.cond (b := decide ((left - (a.length : Int)) < 0)) rfl (fun h1 => ?_) (fun h1 => ?_)
 ·
  replace h1 := of_decide_eq_true h1
  refine T.seq ?_
  refine T.region ?_
  refine TL.cons rfl (Step.assign (p := (.one (.d (.int .i64 (-1))))) rfl rfl (lt_ok rfl) rfl) ?_
  refine TL.nil ?_
  refine T.ret ?_
  exact ⟨[(false, [.d (.int .i64 (-1))])], (.cons rfl .nil), rfl, [], (RetC.rd' (by (congr 1; first | (rw [← hx4, szL_drop (dflt := []) a i l (by omega), if_pos (by omega)]; done) | (rw [← hx4, List.drop_of_length_le (by omega)]; rfl) | (unfold szLs; rw [if_pos (by omega)]; done))) .nil)⟩
 ·
  replace h1 := of_decide_eq_false h1
  refine T.skip ?_
  refine T.seq ?_
  refine T.seq ?_
  refine T.region ?_
  refine TL.cons rfl (Step.assign (p := (.one (.d (.int .i64 0)))) rfl rfl (lt_ok rfl) rfl) ?_
  refine TL.nil ?_
  refine T.block ?_
  refine T.loop (ι := Nat × Int) (fun x => { tm := [(0, (.one (.d (.bss a)))), (5, (.one (.d (.int .i64 ((x.1) : Int))))), (1, (.one (.d (.int .i64 (x.2)))))], rows := [], boxes := [] }) (fun x => (x.1) ≤ a.length ∧ 0 ≤ (x.2) ∧ (x.2) ≤ 9223372036854775807 ∧ szL szB (a.drop (x.1)) (x.2) = szLs szB a left) (fun x => a.length - (x.1)) (0, left - (a.length : Int)) ?_ ?_ ?_
  · exact Env.le_mk ⟨rfl, by first | rfl | (simp; done) | (congr 3; omega), by first | rfl | (simp; done) | (congr 3; omega), trivial⟩ trivial trivial
  · (refine ⟨Nat.zero_le _, by omega, by omega, ?_⟩; unfold szLs; rw [if_neg (by omega), List.drop_zero])
  ·
   intro x hx
   obtain ⟨i, l⟩ := x
   try dsimp only at hx ⊢
   obtain ⟨hx1, hx2, hx3, hx4⟩ := hx
   refine T.seq ?_
   refine T.seq ?_
   refine T.region ?_
   refine TL.cons rfl (Step.move (p := (.one (.d (.int .i64 (i : Int))))) rfl rfl (lt_ok rfl) rfl) ?_
   refine TL.cons rfl (Step.move (p := (.one (.d (.bss a)))) rfl rfl (lt_ok rfl) rfl) ?_
   refine TL.cons rfl (Step.len (e := 22) (z := 1) (d := (.bss a)) rfl rfl (lt_ok rfl) (by kernel_rfl) rfl rfl) ?_
   refine TL.cons rfl (Step.bin rfl rfl (lt_ok rfl) rfl rfl (Bin.lss (k := .i64) (a := (i : Int)) (b := (a.length : Int)))) ?_
   refine TL.nil ?_
   refine T.cond (b := decide ((i : Int) < (a.length : Int))) rfl (fun h2 => ?_) (fun h2 => ?_)
   ·
    replace h2 := of_decide_eq_true h2
    refine T.skip ?_
    refine T.seq ?_
    refine T.block ?_
    refine T.seq ?_
    refine T.region ?_
    refine TL.cons rfl (Step.move (p := (.one (.d (.bss a)))) rfl rfl (lt_ok rfl) rfl) ?_
    refine TL.cons rfl (Step.move (p := (.one (.d (.int .i64 (i : Int))))) rfl rfl (lt_ok rfl) rfl) ?_
    refine TL.cons rfl (Step.index (e := 22) (z := 1) (i := (i : Int)) rfl rfl (lt_ok rfl) (by kernel_rfl) rfl rfl rfl (lt_ok rfl) rfl (by first | omega | (simp; omega)) (by simp only [D.size]; first | omega | (simp; omega))) ?_
    refine TL.cons rfl (Step.load (e := (.ints .u8 (a.getD i []))) rfl rfl (lt_ok rfl) (by kernel_rfl) rfl rfl) ?_
    refine TL.cons rfl (Step.move (p := (.one (.d (.int .i64 l)))) rfl rfl (lt_ok rfl) rfl) ?_
    refine TL.cons rfl (Step.call (f := 38) (xs := [.tmp 21, .tmp 22]) (ps := [(.one (.d (.ints .u8 (a.getD i [])))), (.one (.d (.int .i64 l)))]) false (g := .func 38) rfl rfl (lt_ok rfl) rfl (by kernel_rfl) rfl (.cons (.one (.d _)) (.cons (.one (.d _)) .nil)) (ok_laws_szByteS (a.getD i []) l (by omega) (by omega)) (.inr rfl) rfl (by simp) rfl) ?_
    refine TL.cons rfl (Step.assign (p := (.one (.d (.int .i64 (szB (a.getD i []) l))))) rfl rfl (lt_ok rfl) rfl) ?_
    refine TL.nil ?_
    refine T.seq ?_
    refine T.region ?_
    refine TL.cons rfl (Step.move (p := (.one (.d (.int .i64 (szB (a.getD i []) l))))) rfl rfl (lt_ok rfl) rfl) ?_
    refine TL.cons rfl (Step.bin rfl rfl (lt_ok rfl) rfl rfl (Bin.lss (k := .i64) (a := (szB (a.getD i []) l)) (b := 0))) ?_
    refine TL.nil ?_
    refine T.cond (b := decide ((szB (a.getD i []) l) < 0)) rfl (fun h4 => ?_) (fun h4 => ?_)
    ·
     replace h4 := of_decide_eq_true h4
     refine T.seq ?_
     refine T.region ?_
     refine TL.cons rfl (Step.assign (p := (.one (.d (.int .i64 (-1))))) rfl rfl (lt_ok rfl) rfl) ?_
     refine TL.nil ?_
     refine T.ret ?_
     exact ⟨[(false, [.d (.int .i64 (-1))])], (.cons rfl .nil), rfl, [], (RetC.rd' (by (congr 1; first | (rw [← hx4, szL_drop (dflt := []) a i l (by omega), if_pos (by omega)]; done) | (rw [← hx4, List.drop_of_length_le (by omega)]; rfl) | (unfold szLs; rw [if_pos (by omega)]; done))) .nil)⟩
    ·
     replace h4 := of_decide_eq_false h4
     have z3_le : szB (a.getD i []) l ≤ l := szB_le _ (by omega)
     refine T.skip ?_
     refine T.region ?_
     refine TL.cons rfl (Step.move (p := (.one (.d (.int .i64 (i : Int))))) rfl rfl (lt_ok rfl) rfl) ?_
     refine TL.cons rfl (Step.bin (r := .int .i64 ((i : Int) + 1)) rfl rfl (lt_ok rfl) rfl rfl (Bin.add (a := (i : Int)) (b := 1) (by first | exact wrap_ok (by first | omega | (simp; omega)) (by first | omega | (simp; omega)) | rfl))) ?_
     refine TL.cons rfl (Step.assign (p := (.one (.d (.int .i64 ((i : Int) + 1))))) rfl rfl (lt_ok rfl) rfl) ?_
     refine TL.nil ?_
     exact ⟨(i + 1, (szB (a.getD i []) l)), by (refine ⟨by omega, by omega, by omega, ?_⟩; rw [← hx4, szL_drop (dflt := []) a i l (by omega), if_neg (by omega)]), by (dsimp only; omega), Env.le_mk ⟨rfl, by first | rfl | (simp; done) | (congr 3; omega), by first | rfl | (simp; done) | (congr 3; omega), trivial⟩ trivial trivial⟩
   ·
    replace h2 := of_decide_eq_false h2
    refine T.exit ?_
    refine T.seq ?_
    refine T.region ?_
    refine TL.cons rfl (Step.move (p := (.one (.d (.int .i64 l)))) rfl rfl (lt_ok rfl) rfl) ?_
    refine TL.cons rfl (Step.assign (p := (.one (.d (.int .i64 l)))) rfl rfl (lt_ok rfl) rfl) ?_
    refine TL.nil ?_
    refine T.ret ?_
    exact ⟨[(false, [.d (.int .i64 l)])], (.cons rfl .nil), rfl, [], (RetC.rd' (by (congr 1; first | (rw [← hx4, szL_drop (dflt := []) a i l (by omega), if_pos (by omega)]; done) | (rw [← hx4, List.drop_of_length_le (by omega)]; rfl) | (unfold szLs; rw [if_pos (by omega)]; done))) .nil)⟩
theorem ok_laws_szQc (a : SQc) (left : Int) (h0_ : 0 ≤ left) (h1_ : left ≤ 9223372036854775807) : RO Try.prog 60 [.agg a.cells, .one (.int .i64 left)] [(false, [.rd (.int .i64 (a.sz left))])] := by
 refine RO.intro Try.func60 rfl 24 rfl (le_ok rfl) fun w Z => ?_
 refine T.seq ?_
 refine T.region ?_
 refine TL.cons rfl (Step.box (p := (.agg [.d (.int .i64 a.f0), .d (.int .i64 a.f1), .d (.ints .u8 a.f2), .d (.ints .u8 a.f3), .d (.bss a.f4)])) (ps := [.d (.int .i64 a.f0), .d (.int .i64 a.f1), .d (.ints .u8 a.f2), .d (.ints .u8 a.f3), .d (.bss a.f4)]) rfl rfl (lt_ok rfl) rfl rfl rfl rfl rfl) ?_
 refine TL.cons rfl (Step.assign (p := (.one (.d (.int .i64 0)))) rfl rfl (lt_ok rfl) rfl) ?_
 refine TL.nil ?_
 refine T.seq ?_
 refine T.region ?_
 refine TL.cons rfl (Step.fieldAddr (q := 0) (off := 2) (n := 1) (one := true) rfl rfl (lt_ok rfl) (by kernel_rfl) (Nat.succ_ne_zero _) rfl) ?_
 refine TL.cons rfl (Step.load_box (c := .d (.ints .u8 a.f2)) rfl rfl (lt_ok rfl) (by kernel_rfl) rfl rfl rfl) ?_
 refine TL.cons rfl (Step.move (p := (.one (.d (.int .i64 left)))) rfl rfl (lt_ok rfl) rfl) ?_
 refine TL.cons rfl (Step.call (f := 38) (xs := [.tmp 6, .tmp 7]) (ps := [(.one (.d (.ints .u8 a.f2))), (.one (.d (.int .i64 left)))]) false (g := .func 38) rfl rfl (lt_ok rfl) rfl (by kernel_rfl) rfl (.cons (.one (.d _)) (.cons (.one (.d _)) .nil)) (ok_laws_szByteS a.f2 left (by omega) (by omega)) (.inr rfl) rfl (by simp) rfl) ?_
 refine TL.cons rfl (Step.assign (p := (.one (.d (.int .i64 (szB a.f2 left))))) rfl rfl (lt_ok rfl) rfl) ?_
 refine TL.nil ?_
 refine T.seq ?_
 refine T.seq ?_
 refine T.region ?_
 refine TL.cons rfl (Step.move (p := (.one (.d (.int .i64 (szB a.f2 left))))) rfl rfl (lt_ok rfl) rfl) ?_
 refine TL.cons rfl (Step.bin rfl rfl (lt_ok rfl) rfl rfl (Bin.lss (k := .i64) (a := (szB a.f2 left)) (b := 0))) ?_
 refine TL.nil ?_
 refine T.cond (b := decide ((szB a.f2 left) < 0)) rfl (fun h2 => ?_) (fun h2 => ?_)
 ·
  replace h2 := of_decide_eq_true h2
  refine T.seq ?_
  refine T.region ?_
  refine TL.cons rfl (Step.assign (p := (.one (.d (.int .i64 (-1))))) rfl rfl (lt_ok rfl) rfl) ?_
  refine TL.nil ?_
  refine T.ret ?_
  exact ⟨[(false, [.d (.int .i64 (-1))])], (.cons rfl .nil), rfl, [], (RetC.rd' (by first | rfl | (congr 1; simp only [SQc.sz, szThen]; repeat' (split <;> try omega))) .nil)⟩
 ·
  replace h2 := of_decide_eq_false h2
  have z1_le : szB a.f2 left ≤ left := szB_le _ (by omega)
  refine T.skip ?_
  refine T.seq ?_
  refine T.region ?_
  refine TL.cons rfl (Step.fieldAddr (q := 0) (off := 3) (n := 1) (one := true) rfl rfl (lt_ok rfl) (by kernel_rfl) (Nat.succ_ne_zero _) rfl) ?_
  refine TL.cons rfl (Step.load_box (c := .d (.ints .u8 a.f3)) rfl rfl (lt_ok rfl) (by kernel_rfl) rfl rfl rfl) ?_
  refine TL.cons rfl (Step.move (p := (.one (.d (.int .i64 (szB a.f2 left))))) rfl rfl (lt_ok rfl) rfl) ?_
  refine TL.cons rfl (Step.call (f := 38) (xs := [.tmp 12, .tmp 13]) (ps := [(.one (.d (.ints .u8 a.f3))), (.one (.d (.int .i64 (szB a.f2 left))))]) false (g := .func 38) rfl rfl (lt_ok rfl) rfl (by kernel_rfl) rfl (.cons (.one (.d _)) (.cons (.one (.d _)) .nil)) (ok_laws_szByteS a.f3 (szB a.f2 left) (by omega) (by omega)) (.inr rfl) rfl (by simp) rfl) ?_
  refine TL.cons rfl (Step.assign (p := (.one (.d (.int .i64 (szB a.f3 (szB a.f2 left)))))) rfl rfl (lt_ok rfl) rfl) ?_
  refine TL.nil ?_
  refine T.seq ?_
  refine T.seq ?_
  refine T.region ?_
  refine TL.cons rfl (Step.move (p := (.one (.d (.int .i64 (szB a.f3 (szB a.f2 left)))))) rfl rfl (lt_ok rfl) rfl) ?_
  refine TL.cons rfl (Step.bin rfl rfl (lt_ok rfl) rfl rfl (Bin.lss (k := .i64) (a := (szB a.f3 (szB a.f2 left))) (b := 0))) ?_
  refine TL.nil ?_
  refine T.cond (b := decide ((szB a.f3 (szB a.f2 left)) < 0)) rfl (fun h4 => ?_) (fun h4 => ?_)
  ·
   replace h4 := of_decide_eq_true h4
   refine T.seq ?_
   refine T.region ?_
   refine TL.cons rfl (Step.assign (p := (.one (.d (.int .i64 (-1))))) rfl rfl (lt_ok rfl) rfl) ?_
   refine TL.nil ?_
   refine T.ret ?_
   exact ⟨[(false, [.d (.int .i64 (-1))])], (.cons rfl .nil), rfl, [], (RetC.rd' (by first | rfl | (congr 1; simp only [SQc.sz, szThen]; repeat' (split <;> try omega))) .nil)⟩
  ·
   replace h4 := of_decide_eq_false h4
   have z3_le : szB a.f3 (szB a.f2 left) ≤ (szB a.f2 left) := szB_le _ (by omega)
   refine T.skip ?_
   refine T.seq ?_
   refine T.region ?_
   refine TL.cons rfl (Step.fieldAddr (q := 0) (off := 4) (n := 1) (one := true) rfl rfl (lt_ok rfl) (by kernel_rfl) (Nat.succ_ne_zero _) rfl) ?_
   refine TL.cons rfl (Step.load_box (c := .d (.bss a.f4)) rfl rfl (lt_ok rfl) (by kernel_rfl) rfl rfl rfl) ?_
   refine TL.cons rfl (Step.move (p := (.one (.d (.int .i64 (szB a.f3 (szB a.f2 left)))))) rfl rfl (lt_ok rfl) rfl) ?_
   refine TL.cons rfl (Step.call (f := 97) (xs := [.tmp 18, .tmp 19]) (ps := [(.one (.d (.bss a.f4))), (.one (.d (.int .i64 (szB a.f3 (szB a.f2 left)))))]) false (g := .func 97) rfl rfl (lt_ok rfl) rfl (by kernel_rfl) rfl (.cons (.one (.d _)) (.cons (.one (.d _)) .nil)) (ok_laws_szByteSS a.f4 (szB a.f3 (szB a.f2 left)) (by omega) (by omega)) (.inr rfl) rfl (by simp) rfl) ?_
   refine TL.cons rfl (Step.assign (p := (.one (.d (.int .i64 (szLs szB a.f4 (szB a.f3 (szB a.f2 left))))))) rfl rfl (lt_ok rfl) rfl) ?_
   refine TL.nil ?_
   refine T.seq ?_
   refine T.seq ?_
   refine T.region ?_
   refine TL.cons rfl (Step.move (p := (.one (.d (.int .i64 (szLs szB a.f4 (szB a.f3 (szB a.f2 left))))))) rfl rfl (lt_ok rfl) rfl) ?_
   refine TL.cons rfl (Step.bin rfl rfl (lt_ok rfl) rfl rfl (Bin.lss (k := .i64) (a := (szLs szB a.f4 (szB a.f3 (szB a.f2 left)))) (b := 0))) ?_
   refine TL.nil ?_
   refine T.cond (b := decide ((szLs szB a.f4 (szB a.f3 (szB a.f2 left))) < 0)) rfl (fun h6 => ?_) (fun h6 => ?_)
   ·
    replace h6 := of_decide_eq_true h6
    refine T.seq ?_
    refine T.region ?_
    refine TL.cons rfl (Step.assign (p := (.one (.d (.int .i64 (-1))))) rfl rfl (lt_ok rfl) rfl) ?_
    refine TL.nil ?_
    refine T.ret ?_
    exact ⟨[(false, [.d (.int .i64 (-1))])], (.cons rfl .nil), rfl, [], (RetC.rd' (by first | rfl | (congr 1; simp only [SQc.sz, szThen]; repeat' (split <;> try omega))) .nil)⟩
   ·
    replace h6 := of_decide_eq_false h6
    have z5_le : szLs szB a.f4 (szB a.f3 (szB a.f2 left)) ≤ (szB a.f3 (szB a.f2 left)) := szLs_le (fun x l h => szB_le x h) _ (by omega)
    refine T.skip ?_
    refine T.seq ?_
    refine T.region ?_
    refine TL.cons rfl (Step.move (p := (.one (.d (.int .i64 (szLs szB a.f4 (szB a.f3 (szB a.f2 left))))))) rfl rfl (lt_ok rfl) rfl) ?_
    refine TL.cons rfl (Step.assign (p := (.one (.d (.int .i64 (szLs szB a.f4 (szB a.f3 (szB a.f2 left))))))) rfl rfl (lt_ok rfl) rfl) ?_
    refine TL.nil ?_
    refine T.ret ?_
    exact ⟨[(false, [.d (.int .i64 (szLs szB a.f4 (szB a.f3 (szB a.f2 left))))])], (.cons rfl .nil), rfl, [], (RetC.rd' (by first | rfl | (congr 1; simp only [SQc.sz, szThen]; repeat' (split <;> try omega))) .nil)⟩
theorem ok_laws_szHead (a : SHead) (left : Int) (h0_ : 0 ≤ left) (h1_ : left ≤ 9223372036854775807) : RO Try.prog 61 [.agg a.cells, .one (.int .i64 left)] [(false, [.rd (.int .i64 (a.sz left))])] := by
 refine RO.intro Try.func61 rfl 24 rfl (le_ok rfl) fun w Z => ?_
 refine T.seq ?_
 refine T.region ?_
 refine TL.cons rfl (Step.box (p := (.agg [.d (.int .i64 a.f0), .d (.int .i64 a.f1), .d (.int .i64 a.f2), .d (.ints .u8 a.f3), .d (.ints .u8 a.f4), .d (.int .i64 a.f5.f0), .d (.int .i64 a.f5.f1), .d (.ints .u8 a.f5.f2), .d (.ints .u8 a.f5.f3), .d (.bss a.f5.f4)])) (ps := [.d (.int .i64 a.f0), .d (.int .i64 a.f1), .d (.int .i64 a.f2), .d (.ints .u8 a.f3), .d (.ints .u8 a.f4), .d (.int .i64 a.f5.f0), .d (.int .i64 a.f5.f1), .d (.ints .u8 a.f5.f2), .d (.ints .u8 a.f5.f3), .d (.bss a.f5.f4)]) rfl rfl (lt_ok rfl) rfl rfl rfl rfl rfl) ?_
 refine TL.cons rfl (Step.assign (p := (.one (.d (.int .i64 0)))) rfl rfl (lt_ok rfl) rfl) ?_
 refine TL.nil ?_
 refine T.seq ?_
 refine T.region ?_
 refine TL.cons rfl (Step.fieldAddr (q := 0) (off := 3) (n := 1) (one := true) rfl rfl (lt_ok rfl) (by kernel_rfl) (Nat.succ_ne_zero _) rfl) ?_
 refine TL.cons rfl (Step.load_box (c := .d (.ints .u8 a.f3)) rfl rfl (lt_ok rfl) (by kernel_rfl) rfl rfl rfl) ?_
 refine TL.cons rfl (Step.move (p := (.one (.d (.int .i64 left)))) rfl rfl (lt_ok rfl) rfl) ?_
 refine TL.cons rfl (Step.call (f := 38) (xs := [.tmp 6, .tmp 7]) (ps := [(.one (.d (.ints .u8 a.f3))), (.one (.d (.int .i64 left)))]) false (g := .func 38) rfl rfl (lt_ok rfl) rfl (by kernel_rfl) rfl (.cons (.one (.d _)) (.cons (.one (.d _)) .nil)) (ok_laws_szByteS a.f3 left (by omega) (by omega)) (.inr rfl) rfl (by simp) rfl) ?_
 refine TL.cons rfl (Step.assign (p := (.one (.d (.int .i64 (szB a.f3 left))))) rfl rfl (lt_ok rfl) rfl) ?_
 refine TL.nil ?_
 refine T.seq ?_
 refine T.seq ?_
 refine T.region ?_
 refine TL.cons rfl (Step.move (p := (.one (.d (.int .i64 (szB a.f3 left))))) rfl rfl (lt_ok rfl) rfl) ?_
 refine TL.cons rfl (Step.bin rfl rfl (lt_ok rfl) rfl rfl (Bin.lss (k := .i64) (a := (szB a.f3 left)) (b := 0))) ?_
 refine TL.nil ?_
 refine T.cond (b := decide ((szB a.f3 left) < 0)) rfl (fun h2 => ?_) (fun h2 => ?_)
 ·
  replace h2 := of_decide_eq_true h2
  refine T.seq ?_
  refine T.region ?_
  refine TL.cons rfl (Step.assign (p := (.one (.d (.int .i64 (-1))))) rfl rfl (lt_ok rfl) rfl) ?_
  refine TL.nil ?_
  refine T.ret ?_
  exact ⟨[(false, [.d (.int .i64 (-1))])], (.cons rfl .nil), rfl, [], (RetC.rd' (by first | rfl | (congr 1; simp only [SHead.sz, szThen]; repeat' (split <;> try omega))) .nil)⟩
 ·
  replace h2 := of_decide_eq_false h2
  have z1_le : szB a.f3 left ≤ left := szB_le _ (by omega)
  refine T.skip ?_
  refine T.seq ?_
  refine T.region ?_
  refine TL.cons rfl (Step.fieldAddr (q := 0) (off := 4) (n := 1) (one := true) rfl rfl (lt_ok rfl) (by kernel_rfl) (Nat.succ_ne_zero _) rfl) ?_
  refine TL.cons rfl (Step.load_box (c := .d (.ints .u8 a.f4)) rfl rfl (lt_ok rfl) (by kernel_rfl) rfl rfl rfl) ?_
  refine TL.cons rfl (Step.move (p := (.one (.d (.int .i64 (szB a.f3 left))))) rfl rfl (lt_ok rfl) rfl) ?_
  refine TL.cons rfl (Step.call (f := 38) (xs := [.tmp 12, .tmp 13]) (ps := [(.one (.d (.ints .u8 a.f4))), (.one (.d (.int .i64 (szB a.f3 left))))]) false (g := .func 38) rfl rfl (lt_ok rfl) rfl (by kernel_rfl) rfl (.cons (.one (.d _)) (.cons (.one (.d _)) .nil)) (ok_laws_szByteS a.f4 (szB a.f3 left) (by omega) (by omega)) (.inr rfl) rfl (by simp) rfl) ?_
  refine TL.cons rfl (Step.assign (p := (.one (.d (.int .i64 (szB a.f4 (szB a.f3 left)))))) rfl rfl (lt_ok rfl) rfl) ?_
  refine TL.nil ?_
  refine T.seq ?_
  refine T.seq ?_
  refine T.region ?_
  refine TL.cons rfl (Step.move (p := (.one (.d (.int .i64 (szB a.f4 (szB a.f3 left)))))) rfl rfl (lt_ok rfl) rfl) ?_
  refine TL.cons rfl (Step.bin rfl rfl (lt_ok rfl) rfl rfl (Bin.lss (k := .i64) (a := (szB a.f4 (szB a.f3 left))) (b := 0))) ?_
  refine TL.nil ?_
  refine T.cond (b := decide ((szB a.f4 (szB a.f3 left)) < 0)) rfl (fun h4 => ?_) (fun h4 => ?_)
  ·
   replace h4 := of_decide_eq_true h4
   refine T.seq ?_
   refine T.region ?_
   refine TL.cons rfl (Step.assign (p := (.one (.d (.int .i64 (-1))))) rfl rfl (lt_ok rfl) rfl) ?_
   refine TL.nil ?_
   refine T.ret ?_
   exact ⟨[(false, [.d (.int .i64 (-1))])], (.cons rfl .nil), rfl, [], (RetC.rd' (by first | rfl | (congr 1; simp only [SHead.sz, szThen]; repeat' (split <;> try omega))) .nil)⟩
  ·
   replace h4 := of_decide_eq_false h4
   have z3_le : szB a.f4 (szB a.f3 left) ≤ (szB a.f3 left) := szB_le _ (by omega)
   refine T.skip ?_
   refine T.seq ?_
   refine T.region ?_
   refine TL.cons rfl (Step.fieldAddr (q := 0) (off := 5) (n := 5) (one := false) rfl rfl (lt_ok rfl) (by kernel_rfl) (Nat.succ_ne_zero _) rfl) ?_
   refine TL.cons rfl (Step.load_box_agg (n := 5) (qs := [.d (.int .i64 a.f5.f0), .d (.int .i64 a.f5.f1), .d (.ints .u8 a.f5.f2), .d (.ints .u8 a.f5.f3), .d (.bss a.f5.f4)]) rfl rfl (lt_ok rfl) (by kernel_rfl) rfl rfl rfl rfl) ?_
   refine TL.cons rfl (Step.move (p := (.one (.d (.int .i64 (szB a.f4 (szB a.f3 left)))))) rfl rfl (lt_ok rfl) rfl) ?_
   refine TL.cons rfl (Step.call (f := 60) (xs := [.tmp 18, .tmp 19]) (ps := [(.agg [.d (.int .i64 a.f5.f0), .d (.int .i64 a.f5.f1), .d (.ints .u8 a.f5.f2), .d (.ints .u8 a.f5.f3), .d (.bss a.f5.f4)]), (.one (.d (.int .i64 (szB a.f4 (szB a.f3 left)))))]) false (g := .func 60) rfl rfl (lt_ok rfl) rfl (by kernel_rfl) rfl (.cons (.agg (.cons (.d _) (.cons (.d _) (.cons (.d _) (.cons (.d _) (.cons (.d _) .nil)))))) (.cons (.one (.d _)) .nil)) (ok_laws_szQc a.f5 (szB a.f4 (szB a.f3 left)) (by omega) (by omega)) (.inr rfl) rfl (by simp) rfl) ?_
   refine TL.cons rfl (Step.assign (p := (.one (.d (.int .i64 (a.f5.sz (szB a.f4 (szB a.f3 left))))))) rfl rfl (lt_ok rfl) rfl) ?_
   refine TL.nil ?_
   refine T.seq ?_
   refine T.seq ?_
   refine T.region ?_
   refine TL.cons rfl (Step.move (p := (.one (.d (.int .i64 (a.f5.sz (szB a.f4 (szB a.f3 left))))))) rfl rfl (lt_ok rfl) rfl) ?_
   refine TL.cons rfl (Step.bin rfl rfl (lt_ok rfl) rfl rfl (Bin.lss (k := .i64) (a := (a.f5.sz (szB a.f4 (szB a.f3 left)))) (b := 0))) ?_
   refine TL.nil ?_
   refine T.cond (b := decide ((a.f5.sz (szB a.f4 (szB a.f3 left))) < 0)) rfl (fun h6 => ?_) (fun h6 => ?_)
   ·
    replace h6 := of_decide_eq_true h6
    refine T.seq ?_
    refine T.region ?_
    refine TL.cons rfl (Step.assign (p := (.one (.d (.int .i64 (-1))))) rfl rfl (lt_ok rfl) rfl) ?_
    refine TL.nil ?_
    refine T.ret ?_
    exact ⟨[(false, [.d (.int .i64 (-1))])], (.cons rfl .nil), rfl, [], (RetC.rd' (by first | rfl | (congr 1; simp only [SHead.sz, szThen]; repeat' (split <;> try omega))) .nil)⟩
   ·
    replace h6 := of_decide_eq_false h6
    have z5_le : a.f5.sz (szB a.f4 (szB a.f3 left)) ≤ (szB a.f4 (szB a.f3 left)) := SQc.sz_le _ (by omega)
    refine T.skip ?_
    refine T.seq ?_
    refine T.region ?_
    refine TL.cons rfl (Step.move (p := (.one (.d (.int .i64 (a.f5.sz (szB a.f4 (szB a.f3 left))))))) rfl rfl (lt_ok rfl) rfl) ?_
    refine TL.cons rfl (Step.assign (p := (.one (.d (.int .i64 (a.f5.sz (szB a.f4 (szB a.f3 left))))))) rfl rfl (lt_ok rfl) rfl) ?_
    refine TL.nil ?_
    refine T.ret ?_
    exact ⟨[(false, [.d (.int .i64 (a.f5.sz (szB a.f4 (szB a.f3 left))))])], (.cons rfl .nil), rfl, [], (RetC.rd' (by first | rfl | (congr 1; simp only [SHead.sz, szThen]; repeat' (split <;> try omega))) .nil)⟩
theorem ok_laws_szBlock (a : SBlock) (left : Int) (h0_ : 0 ≤ left) (h1_ : left ≤ 9223372036854775807) : RO Try.prog 62 [.agg a.cells, .one (.int .i64 left)] [(false, [.rd (.int .i64 (a.sz left))])] := by
 refine RO.intro Try.func62 rfl 18 rfl (le_ok rfl) fun w Z => ?_
 refine T.seq ?_
 refine T.region ?_
 refine TL.cons rfl (Step.box (p := (.agg [.d (.int .i64 a.f0.f0), .d (.int .i64 a.f0.f1), .d (.int .i64 a.f0.f2), .d (.ints .u8 a.f0.f3), .d (.ints .u8 a.f0.f4), .d (.int .i64 a.f0.f5.f0), .d (.int .i64 a.f0.f5.f1), .d (.ints .u8 a.f0.f5.f2), .d (.ints .u8 a.f0.f5.f3), .d (.bss a.f0.f5.f4), .d (.bss a.f1)])) (ps := [.d (.int .i64 a.f0.f0), .d (.int .i64 a.f0.f1), .d (.int .i64 a.f0.f2), .d (.ints .u8 a.f0.f3), .d (.ints .u8 a.f0.f4), .d (.int .i64 a.f0.f5.f0), .d (.int .i64 a.f0.f5.f1), .d (.ints .u8 a.f0.f5.f2), .d (.ints .u8 a.f0.f5.f3), .d (.bss a.f0.f5.f4), .d (.bss a.f1)]) rfl rfl (lt_ok rfl) rfl rfl rfl rfl rfl) ?_
 refine TL.cons rfl (Step.assign (p := (.one (.d (.int .i64 0)))) rfl rfl (lt_ok rfl) rfl) ?_
 refine TL.nil ?_
 refine T.seq ?_
 refine T.region ?_
 refine TL.cons rfl (Step.fieldAddr (q := 0) (off := 0) (n := 10) (one := false) rfl rfl (lt_ok rfl) (by kernel_rfl) (Nat.succ_ne_zero _) rfl) ?_
 refine TL.cons rfl (Step.load_box_agg (n := 10) (qs := [.d (.int .i64 a.f0.f0), .d (.int .i64 a.f0.f1), .d (.int .i64 a.f0.f2), .d (.ints .u8 a.f0.f3), .d (.ints .u8 a.f0.f4), .d (.int .i64 a.f0.f5.f0), .d (.int .i64 a.f0.f5.f1), .d (.ints .u8 a.f0.f5.f2), .d (.ints .u8 a.f0.f5.f3), .d (.bss a.f0.f5.f4)]) rfl rfl (lt_ok rfl) (by kernel_rfl) rfl rfl rfl rfl) ?_
 refine TL.cons rfl (Step.move (p := (.one (.d (.int .i64 left)))) rfl rfl (lt_ok rfl) rfl) ?_
 refine TL.cons rfl (Step.call (f := 61) (xs := [.tmp 6, .tmp 7]) (ps := [(.agg [.d (.int .i64 a.f0.f0), .d (.int .i64 a.f0.f1), .d (.int .i64 a.f0.f2), .d (.ints .u8 a.f0.f3), .d (.ints .u8 a.f0.f4), .d (.int .i64 a.f0.f5.f0), .d (.int .i64 a.f0.f5.f1), .d (.ints .u8 a.f0.f5.f2), .d (.ints .u8 a.f0.f5.f3), .d (.bss a.f0.f5.f4)]), (.one (.d (.int .i64 left)))]) false (g := .func 61) rfl rfl (lt_ok rfl) rfl (by kernel_rfl) rfl (.cons (.agg (.cons (.d _) (.cons (.d _) (.cons (.d _) (.cons (.d _) (.cons (.d _) (.cons (.d _) (.cons (.d _) (.cons (.d _) (.cons (.d _) (.cons (.d _) .nil))))))))))) (.cons (.one (.d _)) .nil)) (ok_laws_szHead a.f0 left (by omega) (by omega)) (.inr rfl) rfl (by simp) rfl) ?_
 refine TL.cons rfl (Step.assign (p := (.one (.d (.int .i64 (a.f0.sz left))))) rfl rfl (lt_ok rfl) rfl) ?_
 refine TL.nil ?_
 refine T.seq ?_
 refine T.seq ?_
 refine T.region ?_
 refine TL.cons rfl (Step.move (p := (.one (.d (.int .i64 (a.f0.sz left))))) rfl rfl (lt_ok rfl) rfl) ?_
 refine TL.cons rfl (Step.bin rfl rfl (lt_ok rfl) rfl rfl (Bin.lss (k := .i64) (a := (a.f0.sz left)) (b := 0))) ?_
 refine TL.nil ?_
 refine T.cond (b := decide ((a.f0.sz left) < 0)) rfl (fun h2 => ?_) (fun h2 => ?_)
 ·
  replace h2 := of_decide_eq_true h2
  refine T.seq ?_
  refine T.region ?_
  refine TL.cons rfl (Step.assign (p := (.one (.d (.int .i64 (-1))))) rfl rfl (lt_ok rfl) rfl) ?_
  refine TL.nil ?_
  refine T.ret ?_
  exact ⟨[(false, [.d (.int .i64 (-1))])], (.cons rfl .nil), rfl, [], (RetC.rd' (by first | rfl | (congr 1; simp only [SBlock.sz, szThen]; repeat' (split <;> try omega))) .nil)⟩
 ·
  replace h2 := of_decide_eq_false h2
  have z1_le : a.f0.sz left ≤ left := SHead.sz_le _ (by omega)
  refine T.skip ?_
  refine T.seq ?_
  refine T.region ?_
  refine TL.cons rfl (Step.fieldAddr (q := 0) (off := 10) (n := 1) (one := true) rfl rfl (lt_ok rfl) (by kernel_rfl) (Nat.succ_ne_zero _) rfl) ?_
  refine TL.cons rfl (Step.load_box (c := .d (.bss a.f1)) rfl rfl (lt_ok rfl) (by kernel_rfl) rfl rfl rfl) ?_
  refine TL.cons rfl (Step.move (p := (.one (.d (.int .i64 (a.f0.sz left))))) rfl rfl (lt_ok rfl) rfl) ?_
  refine TL.cons rfl (Step.call (f := 97) (xs := [.tmp 12, .tmp 13]) (ps := [(.one (.d (.bss a.f1))), (.one (.d (.int .i64 (a.f0.sz left))))]) false (g := .func 97) rfl rfl (lt_ok rfl) rfl (by kernel_rfl) rfl (.cons (.one (.d _)) (.cons (.one (.d _)) .nil)) (ok_laws_szByteSS a.f1 (a.f0.sz left) (by omega) (by omega)) (.inr rfl) rfl (by simp) rfl) ?_
  refine TL.cons rfl (Step.assign (p := (.one (.d (.int .i64 (szLs szB a.f1 (a.f0.sz left)))))) rfl rfl (lt_ok rfl) rfl) ?_
  refine TL.nil ?_
  refine T.seq ?_
  refine T.seq ?_
  refine T.region ?_
  refine TL.cons rfl (Step.move (p := (.one (.d (.int .i64 (szLs szB a.f1 (a.f0.sz left)))))) rfl rfl (lt_ok rfl) rfl) ?_
  refine TL.cons rfl (Step.bin rfl rfl (lt_ok rfl) rfl rfl (Bin.lss (k := .i64) (a := (szLs szB a.f1 (a.f0.sz left))) (b := 0))) ?_
  refine TL.nil ?_
  refine T.cond (b := decide ((szLs szB a.f1 (a.f0.sz left)) < 0)) rfl (fun h4 => ?_) (fun h4 => ?_)
  ·
   replace h4 := of_decide_eq_true h4
   refine T.seq ?_
   refine T.region ?_
   refine TL.cons rfl (Step.assign (p := (.one (.d (.int .i64 (-1))))) rfl rfl (lt_ok rfl) rfl) ?_
   refine TL.nil ?_
   refine T.ret ?_
   exact ⟨[(false, [.d (.int .i64 (-1))])], (.cons rfl .nil), rfl, [], (RetC.rd' (by first | rfl | (congr 1; simp only [SBlock.sz, szThen]; repeat' (split <;> try omega))) .nil)⟩
  ·
   replace h4 := of_decide_eq_false h4
   have z3_le : szLs szB a.f1 (a.f0.sz left) ≤ (a.f0.sz left) := szLs_le (fun x l h => szB_le x h) _ (by omega)
   refine T.skip ?_
   refine T.seq ?_
   refine T.region ?_
   refine TL.cons rfl (Step.move (p := (.one (.d (.int .i64 (szLs szB a.f1 (a.f0.sz left)))))) rfl rfl (lt_ok rfl) rfl) ?_
   refine TL.cons rfl (Step.assign (p := (.one (.d (.int .i64 (szLs szB a.f1 (a.f0.sz left)))))) rfl rfl (lt_ok rfl) rfl) ?_
   refine TL.nil ?_
   refine T.ret ?_
   exact ⟨[(false, [.d (.int .i64 (szLs szB a.f1 (a.f0.sz left)))])], (.cons rfl .nil), rfl, [], (RetC.rd' (by first | rfl | (congr 1; simp only [SBlock.sz, szThen]; repeat' (split <;> try omega))) .nil)⟩
theorem ok_laws_szEntry (a : SEntry) (left : Int) (h0_ : 0 ≤ left) (h1_ : left ≤ 9223372036854775807) : RO Try.prog 118 [.agg a.cells, .one (.int .i64 left)] [(false, [.rd (.int .i64 (a.sz left))])] := by
 refine RO.intro Try.func118 rfl 12 rfl (le_ok rfl) fun w Z => ?_
 refine T.seq ?_
 refine T.region ?_
 refine TL.cons rfl (Step.box (p := (.agg [.d (.int .i64 a.f0), .d (.int .i64 a.f1), .d (.ints .u8 a.f2)])) (ps := [.d (.int .i64 a.f0), .d (.int .i64 a.f1), .d (.ints .u8 a.f2)]) rfl rfl (lt_ok rfl) rfl rfl rfl rfl rfl) ?_
 refine TL.cons rfl (Step.assign (p := (.one (.d (.int .i64 0)))) rfl rfl (lt_ok rfl) rfl) ?_
 refine TL.nil ?_
 refine T.seq ?_
 refine T.region ?_
 refine TL.cons rfl (Step.fieldAddr (q := 0) (off := 2) (n := 1) (one := true) rfl rfl (lt_ok rfl) (by kernel_rfl) (Nat.succ_ne_zero _) rfl) ?_
 refine TL.cons rfl (Step.load_box (c := .d (.ints .u8 a.f2)) rfl rfl (lt_ok rfl) (by kernel_rfl) rfl rfl rfl) ?_
 refine TL.cons rfl (Step.move (p := (.one (.d (.int .i64 left)))) rfl rfl (lt_ok rfl) rfl) ?_
 refine TL.cons rfl (Step.call (f := 38) (xs := [.tmp 6, .tmp 7]) (ps := [(.one (.d (.ints .u8 a.f2))), (.one (.d (.int .i64 left)))]) false (g := .func 38) rfl rfl (lt_ok rfl) rfl (by kernel_rfl) rfl (.cons (.one (.d _)) (.cons (.one (.d _)) .nil)) (ok_laws_szByteS a.f2 left (by omega) (by omega)) (.inr rfl) rfl (by simp) rfl) ?_
 refine TL.cons rfl (Step.assign (p := (.one (.d (.int .i64 (szB a.f2 left))))) rfl rfl (lt_ok rfl) rfl) ?_
 refine TL.nil ?_
 refine T.seq ?_
 refine T.seq ?_
 refine T.region ?_
 refine TL.cons rfl (Step.move (p := (.one (.d (.int .i64 (szB a.f2 left))))) rfl rfl (lt_ok rfl) rfl) ?_
 refine TL.cons rfl (Step.bin rfl rfl (lt_ok rfl) rfl rfl (Bin.lss (k := .i64) (a := (szB a.f2 left)) (b := 0))) ?_
 refine TL.nil ?_
 refine T.cond (b := decide ((szB a.f2 left) < 0)) rfl (fun h2 => ?_) (fun h2 => ?_)
 ·
  replace h2 := of_decide_eq_true h2
  refine T.seq ?_
  refine T.region ?_
  refine TL.cons rfl (Step.assign (p := (.one (.d (.int .i64 (-1))))) rfl rfl (lt_ok rfl) rfl) ?_
  refine TL.nil ?_
  refine T.ret ?_
  exact ⟨[(false, [.d (.int .i64 (-1))])], (.cons rfl .nil), rfl, [], (RetC.rd' (by first | rfl | (congr 1; simp only [SEntry.sz, szThen]; repeat' (split <;> try omega))) .nil)⟩
 ·
  replace h2 := of_decide_eq_false h2
  have z1_le : szB a.f2 left ≤ left := szB_le _ (by omega)
  refine T.skip ?_
  refine T.seq ?_
  refine T.region ?_
  refine TL.cons rfl (Step.move (p := (.one (.d (.int .i64 (szB a.f2 left))))) rfl rfl (lt_ok rfl) rfl) ?_
  refine TL.cons rfl (Step.assign (p := (.one (.d (.int .i64 (szB a.f2 left))))) rfl rfl (lt_ok rfl) rfl) ?_
  refine TL.nil ?_
  refine T.ret ?_
  exact ⟨[(false, [.d (.int .i64 (szB a.f2 left))])], (.cons rfl .nil), rfl, [], (RetC.rd' (by first | rfl | (congr 1; simp only [SEntry.sz, szThen]; repeat' (split <;> try omega))) .nil)⟩
theorem ok_laws_szEntryS (a : List SEntry) (left : Int) (h0_ : 0 ≤ left) (h1_ : left ≤ 9223372036854775807) : RO Try.prog 98 [.one (.sl 3 (a.map SEntry.cells)), .one (.int .i64 left)] [(false, [.rd (.int .i64 (szLs SEntry.sz a left))])] := by
 refine RO.intro Try.func98 rfl 27 rfl (le_ok rfl) fun w Z => ?_
 refine T.bnd 0 0 rfl rfl fun hb_0_0 => ?_
 simp only [D.size, List.length_map] at hb_0_0
 refine T.seq ?_
 refine T.region ?_
 refine TL.cons rfl (Step.assign (p := (.one (.d (.int .i64 0)))) rfl rfl (lt_ok rfl) rfl) ?_
 refine TL.nil ?_
 refine T.seq ?_
 refine T.region ?_
 refine TL.cons rfl (Step.move (p := (.one (.d (.int .i64 left)))) rfl rfl (lt_ok rfl) rfl) ?_
 refine TL.cons rfl (Step.move (p := (.one (.d (.sl 3 (a.map SEntry.cells))))) rfl rfl (lt_ok rfl) rfl) ?_
 refine TL.cons rfl (Step.len' (e := 138) (z := 3) (d := (.sl 3 (a.map SEntry.cells))) (n := a.length) rfl rfl (lt_ok rfl) (by kernel_rfl) rfl rfl (by simp [D.size])) ?_
 refine TL.cons rfl (Step.bin (r := .int .i64 (left - (a.length : Int))) rfl rfl (lt_ok rfl) rfl rfl (Bin.sub (a := left) (b := (a.length : Int)) (by first | exact wrap_ok (by first | omega | (simp; omega)) (by first | omega | (simp; omega)) | rfl))) ?_
 refine TL.cons rfl (Step.assign (p := (.one (.d (.int .i64 (left - (a.length : Int)))))) rfl rfl (lt_ok rfl) rfl) ?_
 refine TL.nil ?_
 refine T.seq ?_
 refine T.seq ?_
 refine T.region ?_
 refine TL.cons rfl (Step.move (p := (.one (.d (.int .i64 (left - (a.length : Int)))))) rfl rfl (lt_ok rfl) rfl) ?_
 refine TL.cons rfl (Step.bin rfl rfl (lt_ok rfl) rfl rfl (Bin.lss (k := .i64) (a := (left - (a.length : Int))) (b := 0))) ?_
 refine TL.nil ?_
 refine T.cond (b := decide ((left - (a.length : Int)) < 0)) rfl (fun h1 => ?_) (fun h1 => ?_)
 ·
  replace h1 := of_decide_eq_true h1
  refine T.seq ?_
  refine T.region ?_
  refine TL.cons rfl (Step.assign (p := (.one (.d (.int .i64 (-1))))) rfl rfl (lt_ok rfl) rfl) ?_
  refine TL.nil ?_
  refine T.ret ?_
  exact ⟨[(false, [.d (.int .i64 (-1))])], (.cons rfl .nil), rfl, [], (RetC.rd' (by (congr 1; first | (rw [← hx4, szL_drop (dflt := default) a i l (by omega), if_pos (by omega)]; done) | (rw [← hx4, List.drop_of_length_le (by omega)]; rfl) | (unfold szLs; rw [if_pos (by omega)]; done))) .nil)⟩
 ·
  replace h1 := of_decide_eq_false h1
  refine T.skip ?_
  refine T.seq ?_
  refine T.seq ?_
  refine T.region ?_
  refine TL.cons rfl (Step.assign (p := (.one (.d (.int .i64 0)))) rfl rfl (lt_ok rfl) rfl) ?_
  refine TL.nil ?_
  refine T.block ?_
  refine T.loop (ι := Nat × Int) (fun x => { tm := [(0, (.one (.d (.sl 3 (a.map SEntry.cells))))), (5, (.one (.d (.int .i64 ((x.1) : Int))))), (1, (.one (.d (.int .i64 (x.2)))))], rows := [], boxes := [] }) (fun x => (x.1) ≤ a.length ∧ 0 ≤ (x.2) ∧ (x.2) ≤ 9223372036854775807 ∧ szL SEntry.sz (a.drop (x.1)) (x.2) = szLs SEntry.sz a left) (fun x => a.length - (x.1)) (0, left - (a.length : Int)) ?_ ?_ ?_
  · exact Env.le_mk ⟨rfl, by first | rfl | (simp; done) | (congr 3; omega), by first | rfl | (simp; done) | (congr 3; omega), trivial⟩ trivial trivial
  · (refine ⟨Nat.zero_le _, by omega, by omega, ?_⟩; unfold szLs; rw [if_neg (by omega), List.drop_zero])
  ·
   intro x hx
   obtain ⟨i, l⟩ := x
   try dsimp only at hx ⊢
   obtain ⟨hx1, hx2, hx3, hx4⟩ := hx
   refine T.seq ?_
   refine T.seq ?_
   refine T.region ?_
   refine TL.cons rfl (Step.move (p := (.one (.d (.int .i64 (i : Int))))) rfl rfl (lt_ok rfl) rfl) ?_
   refine TL.cons rfl (Step.move (p := (.one (.d (.sl 3 (a.map SEntry.cells))))) rfl rfl (lt_ok rfl) rfl) ?_
   refine TL.cons rfl (Step.len' (e := 138) (z := 3) (d := (.sl 3 (a.map SEntry.cells))) (n := a.length) rfl rfl (lt_ok rfl) (by kernel_rfl) rfl rfl (by simp [D.size])) ?_
   refine TL.cons rfl (Step.bin rfl rfl (lt_ok rfl) rfl rfl (Bin.lss (k := .i64) (a := (i : Int)) (b := (a.length : Int)))) ?_
   refine TL.nil ?_
   refine T.cond (b := decide ((i : Int) < (a.length : Int))) rfl (fun h2 => ?_) (fun h2 => ?_)
   ·
    replace h2 := of_decide_eq_true h2
    refine T.skip ?_
    refine T.seq ?_
    refine T.block ?_
    refine T.seq ?_
    refine T.region ?_
    refine TL.cons rfl (Step.move (p := (.one (.d (.sl 3 (a.map SEntry.cells))))) rfl rfl (lt_ok rfl) rfl) ?_
    refine TL.cons rfl (Step.move (p := (.one (.d (.int .i64 (i : Int))))) rfl rfl (lt_ok rfl) rfl) ?_
    refine TL.cons rfl (Step.index (e := 138) (z := 3) (i := (i : Int)) rfl rfl (lt_ok rfl) (by kernel_rfl) rfl rfl rfl (lt_ok rfl) rfl (by first | omega | (simp; omega)) (by simp only [D.size]; first | omega | (simp; omega))) ?_
    refine TL.cons rfl (Step.load_agg (n := 3) (cs := [.d (.int .i64 (a.getD i default).f0), .d (.int .i64 (a.getD i default).f1), .d (.ints .u8 (a.getD i default).f2)]) rfl rfl (lt_ok rfl) (by kernel_rfl) rfl rfl (by simp only [List.range, List.range.loop, List.map_cons, List.map_nil]; rw [cell_map default (by first | omega | (simp; omega)), cell_map default (by first | omega | (simp; omega)), cell_map default (by first | omega | (simp; omega))]; rfl)) ?_
    refine TL.cons rfl (Step.move (p := (.one (.d (.int .i64 l)))) rfl rfl (lt_ok rfl) rfl) ?_
    refine TL.cons rfl (Step.call (f := 118) (xs := [.tmp 21, .tmp 22]) (ps := [(.agg [.d (.int .i64 (a.getD i default).f0), .d (.int .i64 (a.getD i default).f1), .d (.ints .u8 (a.getD i default).f2)]), (.one (.d (.int .i64 l)))]) false (g := .func 118) rfl rfl (lt_ok rfl) rfl (by kernel_rfl) rfl (.cons (.agg (.cons (.d _) (.cons (.d _) (.cons (.d _) .nil)))) (.cons (.one (.d _)) .nil)) (ok_laws_szEntry (a.getD i default) l (by omega) (by omega)) (.inr rfl) rfl (by simp) rfl) ?_
    refine TL.cons rfl (Step.assign (p := (.one (.d (.int .i64 ((a.getD i default).sz l))))) rfl rfl (lt_ok rfl) rfl) ?_
    refine TL.nil ?_
    refine T.seq ?_
    refine T.region ?_
    refine TL.cons rfl (Step.move (p := (.one (.d (.int .i64 ((a.getD i default).sz l))))) rfl rfl (lt_ok rfl) rfl) ?_
    refine TL.cons rfl (Step.bin rfl rfl (lt_ok rfl) rfl rfl (Bin.lss (k := .i64) (a := ((a.getD i default).sz l)) (b := 0))) ?_
    refine TL.nil ?_
    refine T.cond (b := decide (((a.getD i default).sz l) < 0)) rfl (fun h4 => ?_) (fun h4 => ?_)
    ·
     replace h4 := of_decide_eq_true h4
     refine T.seq ?_
     refine T.region ?_
     refine TL.cons rfl (Step.assign (p := (.one (.d (.int .i64 (-1))))) rfl rfl (lt_ok rfl) rfl) ?_
     refine TL.nil ?_
     refine T.ret ?_
     exact ⟨[(false, [.d (.int .i64 (-1))])], (.cons rfl .nil), rfl, [], (RetC.rd' (by (congr 1; first | (rw [← hx4, szL_drop (dflt := default) a i l (by omega), if_pos (by omega)]; done) | (rw [← hx4, List.drop_of_length_le (by omega)]; rfl) | (unfold szLs; rw [if_pos (by omega)]; done))) .nil)⟩
    ·
     replace h4 := of_decide_eq_false h4
     have z3_le : (a.getD i default).sz l ≤ l := SEntry.sz_le _ (by omega)
     refine T.skip ?_
     refine T.region ?_
     refine TL.cons rfl (Step.move (p := (.one (.d (.int .i64 (i : Int))))) rfl rfl (lt_ok rfl) rfl) ?_
     refine TL.cons rfl (Step.bin (r := .int .i64 ((i : Int) + 1)) rfl rfl (lt_ok rfl) rfl rfl (Bin.add (a := (i : Int)) (b := 1) (by first | exact wrap_ok (by first | omega | (simp; omega)) (by first | omega | (simp; omega)) | rfl))) ?_
     refine TL.cons rfl (Step.assign (p := (.one (.d (.int .i64 ((i : Int) + 1))))) rfl rfl (lt_ok rfl) rfl) ?_
     refine TL.nil ?_
     exact ⟨(i + 1, (SEntry.sz (a.getD i default) l)), by (refine ⟨by omega, by omega, by omega, ?_⟩; rw [← hx4, szL_drop (dflt := default) a i l (by omega), if_neg (by omega)]), by (dsimp only; omega), Env.le_mk ⟨rfl, by first | rfl | (simp; done) | (congr 3; omega), by first | rfl | (simp; done) | (congr 3; omega), trivial⟩ trivial trivial⟩
   ·
    replace h2 := of_decide_eq_false h2
    refine T.exit ?_
    refine T.seq ?_
    refine T.region ?_
    refine TL.cons rfl (Step.move (p := (.one (.d (.int .i64 l)))) rfl rfl (lt_ok rfl) rfl) ?_
    refine TL.cons rfl (Step.assign (p := (.one (.d (.int .i64 l)))) rfl rfl (lt_ok rfl) rfl) ?_
    refine TL.nil ?_
    refine T.ret ?_
    exact ⟨[(false, [.d (.int .i64 l)])], (.cons rfl .nil), rfl, [], (RetC.rd' (by (congr 1; first | (rw [← hx4, szL_drop (dflt := default) a i l (by omega), if_pos (by omega)]; done) | (rw [← hx4, List.drop_of_length_le (by omega)]; rfl) | (unfold szLs; rw [if_pos (by omega)]; done))) .nil)⟩
theorem ok_laws_szTc (a : STc) (left : Int) (h0_ : 0 ≤ left) (h1_ : left ≤ 9223372036854775807) : RO Try.prog 63 [.agg a.cells, .one (.int .i64 left)] [(false, [.rd (.int .i64 (a.sz left))])] := by
 refine RO.intro Try.func63 rfl 12 rfl (le_ok rfl) fun w Z => ?_
 refine T.seq ?_
 refine T.region ?_
 refine TL.cons rfl (Step.box (p := (.agg [.d (.int .i64 a.f0), .d (.sl 3 (a.f1.map SEntry.cells))])) (ps := [.d (.int .i64 a.f0), .d (.sl 3 (a.f1.map SEntry.cells))]) rfl rfl (lt_ok rfl) rfl rfl rfl rfl rfl) ?_
 refine TL.cons rfl (Step.assign (p := (.one (.d (.int .i64 0)))) rfl rfl (lt_ok rfl) rfl) ?_
 refine TL.nil ?_
 refine T.seq ?_
 refine T.region ?_
 refine TL.cons rfl (Step.fieldAddr (q := 0) (off := 1) (n := 1) (one := true) rfl rfl (lt_ok rfl) (by kernel_rfl) (Nat.succ_ne_zero _) rfl) ?_
 refine TL.cons rfl (Step.load_box (c := .d (.sl 3 (a.f1.map SEntry.cells))) rfl rfl (lt_ok rfl) (by kernel_rfl) rfl rfl rfl) ?_
 refine TL.cons rfl (Step.move (p := (.one (.d (.int .i64 left)))) rfl rfl (lt_ok rfl) rfl) ?_
 refine TL.cons rfl (Step.call (f := 98) (xs := [.tmp 6, .tmp 7]) (ps := [(.one (.d (.sl 3 (a.f1.map SEntry.cells)))), (.one (.d (.int .i64 left)))]) false (g := .func 98) rfl rfl (lt_ok rfl) rfl (by kernel_rfl) rfl (.cons (.one (.d _)) (.cons (.one (.d _)) .nil)) (ok_laws_szEntryS a.f1 left (by omega) (by omega)) (.inr rfl) rfl (by simp) rfl) ?_
 refine TL.cons rfl (Step.assign (p := (.one (.d (.int .i64 (szLs SEntry.sz a.f1 left))))) rfl rfl (lt_ok rfl) rfl) ?_
 refine TL.nil ?_
 refine T.seq ?_
 refine T.seq ?_
 refine T.region ?_
 refine TL.cons rfl (Step.move (p := (.one (.d (.int .i64 (szLs SEntry.sz a.f1 left))))) rfl rfl (lt_ok rfl) rfl) ?_
 refine TL.cons rfl (Step.bin rfl rfl (lt_ok rfl) rfl rfl (Bin.lss (k := .i64) (a := (szLs SEntry.sz a.f1 left)) (b := 0))) ?_
 refine TL.nil ?_
 refine T.cond (b := decide ((szLs SEntry.sz a.f1 left) < 0)) rfl (fun h2 => ?_) (fun h2 => ?_)
 ·
  replace h2 := of_decide_eq_true h2
  refine T.seq ?_
  refine T.region ?_
  refine TL.cons rfl (Step.assign (p := (.one (.d (.int .i64 (-1))))) rfl rfl (lt_ok rfl) rfl) ?_
  refine TL.nil ?_
  refine T.ret ?_
  exact ⟨[(false, [.d (.int .i64 (-1))])], (.cons rfl .nil), rfl, [], (RetC.rd' (by first | rfl | (congr 1; simp only [STc.sz, szThen]; repeat' (split <;> try omega))) .nil)⟩
 ·
  replace h2 := of_decide_eq_false h2
  have z1_le : szLs SEntry.sz a.f1 left ≤ left := szLs_le (fun x l h => SEntry.sz_le x h) _ (by omega)
  refine T.skip ?_
  refine T.seq ?_
  refine T.region ?_
  refine TL.cons rfl (Step.move (p := (.one (.d (.int .i64 (szLs SEntry.sz a.f1 left))))) rfl rfl (lt_ok rfl) rfl) ?_
  refine TL.cons rfl (Step.assign (p := (.one (.d (.int .i64 (szLs SEntry.sz a.f1 left))))) rfl rfl (lt_ok rfl) rfl) ?_
  refine TL.nil ?_
  refine T.ret ?_
  exact ⟨[(false, [.d (.int .i64 (szLs SEntry.sz a.f1 left))])], (.cons rfl .nil), rfl, [], (RetC.rd' (by first | rfl | (congr 1; simp only [STc.sz, szThen]; repeat' (split <;> try omega))) .nil)⟩
theorem ok_laws_szHeadS (a : List SHead) (left : Int) (h0_ : 0 ≤ left) (h1_ : left ≤ 9223372036854775807) : RO Try.prog 99 [.one (.sl 10 (a.map SHead.cells)), .one (.int .i64 left)] [(false, [.rd (.int .i64 (szLs SHead.sz a left))])] := by
 refine RO.intro Try.func99 rfl 27 rfl (le_ok rfl) fun w Z => ?_
 refine T.bnd 0 0 rfl rfl fun hb_0_0 => ?_
 simp only [D.size, List.length_map] at hb_0_0
 refine T.seq ?_
 refine T.region ?_
 refine TL.cons rfl (Step.assign (p := (.one (.d (.int .i64 0)))) rfl rfl (lt_ok rfl) rfl) ?_
 refine TL.nil ?_
 refine T.seq ?_
 refine T.region ?_
 refine TL.cons rfl (Step.move (p := (.one (.d (.int .i64 left)))) rfl rfl (lt_ok rfl) rfl) ?_
 refine TL.cons rfl (Step.move (p := (.one (.d (.sl 10 (a.map SHead.cells))))) rfl rfl (lt_ok rfl) rfl) ?_
 refine TL.cons rfl (Step.len' (e := 53) (z := 10) (d := (.sl 10 (a.map SHead.cells))) (n := a.length) rfl rfl (lt_ok rfl) (by kernel_rfl) rfl rfl (by simp [D.size])) ?_
 refine TL.cons rfl (Step.bin (r := .int .i64 (left - (a.length : Int))) rfl rfl (lt_ok rfl) rfl rfl (Bin.sub (a := left) (b := (a.length : Int)) (by first | exact wrap_ok (by first | omega | (simp; omega)) (by first | omega | (simp; omega)) | rfl))) ?_
 refine TL.cons rfl (Step.assign (p := (.one (.d (.int .i64 (left - (a.length : Int)))))) rfl rfl (lt_ok rfl) rfl) ?_
 refine TL.nil ?_
 refine T.seq ?_
 refine T.seq ?_
 refine T.region ?_
 refine TL.cons rfl (Step.move (p := (.one (.d (.int .i64 (left - (a.length : Int)))))) rfl rfl (lt_ok rfl) rfl) ?_
 refine TL.cons rfl (Step.bin rfl rfl (lt_ok rfl) rfl rfl (Bin.lss (k := .i64) (a := (left - (a.length : Int))) (b := 0))) ?_
 refine TL.nil ?_
 refine T.cond (b := decide ((left - (a.length : Int)) < 0)) rfl (fun h1 => ?_) (fun h1 => ?_)
 ·
  replace h1 := of_decide_eq_true h1
  refine T.seq ?_
  refine T.region ?_
  refine TL.cons rfl (Step.assign (p := (.one (.d (.int .i64 (-1))))) rfl rfl (lt_ok rfl) rfl) ?_
  refine TL.nil ?_
  refine T.ret ?_
  exact ⟨[(false, [.d (.int .i64 (-1))])], (.cons rfl .nil), rfl, [], (RetC.rd' (by (congr 1; first | (rw [← hx4, szL_drop (dflt := default) a i l (by omega), if_pos (by omega)]; done) | (rw [← hx4, List.drop_of_length_le (by omega)]; rfl) | (unfold szLs; rw [if_pos (by omega)]; done))) .nil)⟩
 ·
  replace h1 := of_decide_eq_false h1
  refine T.skip ?_
  refine T.seq ?_
  refine T.seq ?_
  refine T.region ?_
  refine TL.cons rfl (Step.assign (p := (.one (.d (.int .i64 0)))) rfl rfl (lt_ok rfl) rfl) ?_
  refine TL.nil ?_
  refine T.block ?_
  refine T.loop (ι := Nat × Int) (fun x => { tm := [(0, (.one (.d (.sl 10 (a.map SHead.cells))))), (5, (.one (.d (.int .i64 ((x.1) : Int))))), (1, (.one (.d (.int .i64 (x.2)))))], rows := [], boxes := [] }) (fun x => (x.1) ≤ a.length ∧ 0 ≤ (x.2) ∧ (x.2) ≤ 9223372036854775807 ∧ szL SHead.sz (a.drop (x.1)) (x.2) = szLs SHead.sz a left) (fun x => a.length - (x.1)) (0, left - (a.length : Int)) ?_ ?_ ?_
  · exact Env.le_mk ⟨rfl, by first | rfl | (simp; done) | (congr 3; omega), by first | rfl | (simp; done) | (congr 3; omega), trivial⟩ trivial trivial
  · (refine ⟨Nat.zero_le _, by omega, by omega, ?_⟩; unfold szLs; rw [if_neg (by omega), List.drop_zero])
  ·
   intro x hx
   obtain ⟨i, l⟩ := x
   try dsimp only at hx ⊢
   obtain ⟨hx1, hx2, hx3, hx4⟩ := hx
   refine T.seq ?_
   refine T.seq ?_
   refine T.region ?_
   refine TL.cons rfl (Step.move (p := (.one (.d (.int .i64 (i : Int))))) rfl rfl (lt_ok rfl) rfl) ?_
   refine TL.cons rfl (Step.move (p := (.one (.d (.sl 10 (a.map SHead.cells))))) rfl rfl (lt_ok rfl) rfl) ?_
   refine TL.cons rfl (Step.len' (e := 53) (z := 10) (d := (.sl 10 (a.map SHead.cells))) (n := a.length) rfl rfl (lt_ok rfl) (by kernel_rfl) rfl rfl (by simp [D.size])) ?_
   refine TL.cons rfl (Step.bin rfl rfl (lt_ok rfl) rfl rfl (Bin.lss (k := .i64) (a := (i : Int)) (b := (a.length : Int)))) ?_
   refine TL.nil ?_
   refine T.cond (b := decide ((i : Int) < (a.length : Int))) rfl (fun h2 => ?_) (fun h2 => ?_)
   ·
    replace h2 := of_decide_eq_true h2
    refine T.skip ?_
    refine T.seq ?_
    refine T.block ?_
    refine T.seq ?_
    refine T.region ?_
    refine TL.cons rfl (Step.move (p := (.one (.d (.sl 10 (a.map SHead.cells))))) rfl rfl (lt_ok rfl) rfl) ?_
    refine TL.cons rfl (Step.move (p := (.one (.d (.int .i64 (i : Int))))) rfl rfl (lt_ok rfl) rfl) ?_
    refine TL.cons rfl (Step.index (e := 53) (z := 10) (i := (i : Int)) rfl rfl (lt_ok rfl) (by kernel_rfl) rfl rfl rfl (lt_ok rfl) rfl (by first | omega | (simp; omega)) (by simp only [D.size]; first | omega | (simp; omega))) ?_
    refine TL.cons rfl (Step.load_agg (n := 10) (cs := [.d (.int .i64 (a.getD i default).f0), .d (.int .i64 (a.getD i default).f1), .d (.int .i64 (a.getD i default).f2), .d (.ints .u8 (a.getD i default).f3), .d (.ints .u8 (a.getD i default).f4), .d (.int .i64 (a.getD i default).f5.f0), .d (.int .i64 (a.getD i default).f5.f1), .d (.ints .u8 (a.getD i default).f5.f2), .d (.ints .u8 (a.getD i default).f5.f3), .d (.bss (a.getD i default).f5.f4)]) rfl rfl (lt_ok rfl) (by kernel_rfl) rfl rfl (by simp only [List.range, List.range.loop, List.map_cons, List.map_nil]; rw [cell_map default (by first | omega | (simp; omega)), cell_map default (by first | omega | (simp; omega)), cell_map default (by first | omega | (simp; omega)), cell_map default (by first | omega | (simp; omega)), cell_map default (by first | omega | (simp; omega)), cell_map default (by first | omega | (simp; omega)), cell_map default (by first | omega | (simp; omega)), cell_map default (by first | omega | (simp; omega)), cell_map default (by first | omega | (simp; omega)), cell_map default (by first | omega | (simp; omega))]; rfl)) ?_
    refine TL.cons rfl (Step.move (p := (.one (.d (.int .i64 l)))) rfl rfl (lt_ok rfl) rfl) ?_
    refine TL.cons rfl (Step.call (f := 61) (xs := [.tmp 21, .tmp 22]) (ps := [(.agg [.d (.int .i64 (a.getD i default).f0), .d (.int .i64 (a.getD i default).f1), .d (.int .i64 (a.getD i default).f2), .d (.ints .u8 (a.getD i default).f3), .d (.ints .u8 (a.getD i default).f4), .d (.int .i64 (a.getD i default).f5.f0), .d (.int .i64 (a.getD i default).f5.f1), .d (.ints .u8 (a.getD i default).f5.f2), .d (.ints .u8 (a.getD i default).f5.f3), .d (.bss (a.getD i default).f5.f4)]), (.one (.d (.int .i64 l)))]) false (g := .func 61) rfl rfl (lt_ok rfl) rfl (by kernel_rfl) rfl (.cons (.agg (.cons (.d _) (.cons (.d _) (.cons (.d _) (.cons (.d _) (.cons (.d _) (.cons (.d _) (.cons (.d _) (.cons (.d _) (.cons (.d _) (.cons (.d _) .nil))))))))))) (.cons (.one (.d _)) .nil)) (ok_laws_szHead (a.getD i default) l (by omega) (by omega)) (.inr rfl) rfl (by simp) rfl) ?_
    refine TL.cons rfl (Step.assign (p := (.one (.d (.int .i64 ((a.getD i default).sz l))))) rfl rfl (lt_ok rfl) rfl) ?_
    refine TL.nil ?_
    refine T.seq ?_
    refine T.region ?_
    refine TL.cons rfl (Step.move (p := (.one (.d (.int .i64 ((a.getD i default).sz l))))) rfl rfl (lt_ok rfl) rfl) ?_
    refine TL.cons rfl (Step.bin rfl rfl (lt_ok rfl) rfl rfl (Bin.lss (k := .i64) (a := ((a.getD i default).sz l)) (b := 0))) ?_
    refine TL.nil ?_
    refine T.cond (b := decide (((a.getD i default).sz l) < 0)) rfl (fun h4 => ?_) (fun h4 => ?_)
    ·
     replace h4 := of_decide_eq_true h4
     refine T.seq ?_
     refine T.region ?_
     refine TL.cons rfl (Step.assign (p := (.one (.d (.int .i64 (-1))))) rfl rfl (lt_ok rfl) rfl) ?_
     refine TL.nil ?_
     refine T.ret ?_
     exact ⟨[(false, [.d (.int .i64 (-1))])], (.cons rfl .nil), rfl, [], (RetC.rd' (by (congr 1; first | (rw [← hx4, szL_drop (dflt := default) a i l (by omega), if_pos (by omega)]; done) | (rw [← hx4, List.drop_of_length_le (by omega)]; rfl) | (unfold szLs; rw [if_pos (by omega)]; done))) .nil)⟩
    ·
     replace h4 := of_decide_eq_false h4
     have z3_le : (a.getD i default).sz l ≤ l := SHead.sz_le _ (by omega)
     refine T.skip ?_
     refine T.region ?_
     refine TL.cons rfl (Step.move (p := (.one (.d (.int .i64 (i : Int))))) rfl rfl (lt_ok rfl) rfl) ?_
     refine TL.cons rfl (Step.bin (r := .int .i64 ((i : Int) + 1)) rfl rfl (lt_ok rfl) rfl rfl (Bin.add (a := (i : Int)) (b := 1) (by first | exact wrap_ok (by first | omega | (simp; omega)) (by first | omega | (simp; omega)) | rfl))) ?_
     refine TL.cons rfl (Step.assign (p := (.one (.d (.int .i64 ((i : Int) + 1))))) rfl rfl (lt_ok rfl) rfl) ?_
     refine TL.nil ?_
     exact ⟨(i + 1, (SHead.sz (a.getD i default) l)), by (refine ⟨by omega, by omega, by omega, ?_⟩; rw [← hx4, szL_drop (dflt := default) a i l (by omega), if_neg (by omega)]), by (dsimp only; omega), Env.le_mk ⟨rfl, by first | rfl | (simp; done) | (congr 3; omega), by first | rfl | (simp; done) | (congr 3; omega), trivial⟩ trivial trivial⟩
   ·
    replace h2 := of_decide_eq_false h2
    refine T.exit ?_
    refine T.seq ?_
    refine T.region ?_
    refine TL.cons rfl (Step.move (p := (.one (.d (.int .i64 l)))) rfl rfl (lt_ok rfl) rfl) ?_
    refine TL.cons rfl (Step.assign (p := (.one (.d (.int .i64 l)))) rfl rfl (lt_ok rfl) rfl) ?_
    refine TL.nil ?_
    refine T.ret ?_
    exact ⟨[(false, [.d (.int .i64 l)])], (.cons rfl .nil), rfl, [], (RetC.rd' (by (congr 1; first | (rw [← hx4, szL_drop (dflt := default) a i l (by omega), if_pos (by omega)]; done) | (rw [← hx4, List.drop_of_length_le (by omega)]; rfl) | (unfold szLs; rw [if_pos (by omega)]; done))) .nil)⟩
theorem ok_laws_szProof (a : SProof) (left : Int) (h0_ : 0 ≤ left) (h1_ : left ≤ 9223372036854775807) : RO Try.prog 64 [.agg a.cells, .one (.int .i64 left)] [(false, [.rd (.int .i64 (a.sz left))])] := by
 refine RO.intro Try.func64 rfl 18 rfl (le_ok rfl) fun w Z => ?_
 refine T.seq ?_
 refine T.region ?_
 refine TL.cons rfl (Step.box (p := (.agg [.d (.sl 10 (a.f0.map SHead.cells)), .d (.int .i64 a.f1.f0), .d (.int .i64 a.f1.f1), .d (.ints .u8 a.f1.f2), .d (.ints .u8 a.f1.f3), .d (.bss a.f1.f4)])) (ps := [.d (.sl 10 (a.f0.map SHead.cells)), .d (.int .i64 a.f1.f0), .d (.int .i64 a.f1.f1), .d (.ints .u8 a.f1.f2), .d (.ints .u8 a.f1.f3), .d (.bss a.f1.f4)]) rfl rfl (lt_ok rfl) rfl rfl rfl rfl rfl) ?_
 refine TL.cons rfl (Step.assign (p := (.one (.d (.int .i64 0)))) rfl rfl (lt_ok rfl) rfl) ?_
 refine TL.nil ?_
 refine T.seq ?_
 refine T.region ?_
 refine TL.cons rfl (Step.fieldAddr (q := 0) (off := 0) (n := 1) (one := true) rfl rfl (lt_ok rfl) (by kernel_rfl) (Nat.succ_ne_zero _) rfl) ?_
 refine TL.cons rfl (Step.load_box (c := .d (.sl 10 (a.f0.map SHead.cells))) rfl rfl (lt_ok rfl) (by kernel_rfl) rfl rfl rfl) ?_
 refine TL.cons rfl (Step.move (p := (.one (.d (.int .i64 left)))) rfl rfl (lt_ok rfl) rfl) ?_
 refine TL.cons rfl (Step.call (f := 99) (xs := [.tmp 6, .tmp 7]) (ps := [(.one (.d (.sl 10 (a.f0.map SHead.cells)))), (.one (.d (.int .i64 left)))]) false (g := .func 99) rfl rfl (lt_ok rfl) rfl (by kernel_rfl) rfl (.cons (.one (.d _)) (.cons (.one (.d _)) .nil)) (ok_laws_szHeadS a.f0 left (by omega) (by omega)) (.inr rfl) rfl (by simp) rfl) ?_
 refine TL.cons rfl (Step.assign (p := (.one (.d (.int .i64 (szLs SHead.sz a.f0 left))))) rfl rfl (lt_ok rfl) rfl) ?_
 refine TL.nil ?_
 refine T.seq ?_
 refine T.seq ?_
 refine T.region ?_
 refine TL.cons rfl (Step.move (p := (.one (.d (.int .i64 (szLs SHead.sz a.f0 left))))) rfl rfl (lt_ok rfl) rfl) ?_
 refine TL.cons rfl (Step.bin rfl rfl (lt_ok rfl) rfl rfl (Bin.lss (k := .i64) (a := (szLs SHead.sz a.f0 left)) (b := 0))) ?_
 refine TL.nil ?_
 refine T.cond (b := decide ((szLs SHead.sz a.f0 left) < 0)) rfl (fun h2 => ?_) (fun h2 => ?_)
 ·
  replace h2 := of_decide_eq_true h2
  refine T.seq ?_
  refine T.region ?_
  refine TL.cons rfl (Step.assign (p := (.one (.d (.int .i64 (-1))))) rfl rfl (lt_ok rfl) rfl) ?_
  refine TL.nil ?_
  refine T.ret ?_
  exact ⟨[(false, [.d (.int .i64 (-1))])], (.cons rfl .nil), rfl, [], (RetC.rd' (by first | rfl | (congr 1; simp only [SProof.sz, szThen]; repeat' (split <;> try omega))) .nil)⟩
 ·
  replace h2 := of_decide_eq_false h2
  have z1_le : szLs SHead.sz a.f0 left ≤ left := szLs_le (fun x l h => SHead.sz_le x h) _ (by omega)
  refine T.skip ?_
  refine T.seq ?_
  refine T.region ?_
  refine TL.cons rfl (Step.fieldAddr (q := 0) (off := 1) (n := 5) (one := false) rfl rfl (lt_ok rfl) (by kernel_rfl) (Nat.succ_ne_zero _) rfl) ?_
  refine TL.cons rfl (Step.load_box_agg (n := 5) (qs := [.d (.int .i64 a.f1.f0), .d (.int .i64 a.f1.f1), .d (.ints .u8 a.f1.f2), .d (.ints .u8 a.f1.f3), .d (.bss a.f1.f4)]) rfl rfl (lt_ok rfl) (by kernel_rfl) rfl rfl rfl rfl) ?_
  refine TL.cons rfl (Step.move (p := (.one (.d (.int .i64 (szLs SHead.sz a.f0 left))))) rfl rfl (lt_ok rfl) rfl) ?_
  refine TL.cons rfl (Step.call (f := 60) (xs := [.tmp 12, .tmp 13]) (ps := [(.agg [.d (.int .i64 a.f1.f0), .d (.int .i64 a.f1.f1), .d (.ints .u8 a.f1.f2), .d (.ints .u8 a.f1.f3), .d (.bss a.f1.f4)]), (.one (.d (.int .i64 (szLs SHead.sz a.f0 left))))]) false (g := .func 60) rfl rfl (lt_ok rfl) rfl (by kernel_rfl) rfl (.cons (.agg (.cons (.d _) (.cons (.d _) (.cons (.d _) (.cons (.d _) (.cons (.d _) .nil)))))) (.cons (.one (.d _)) .nil)) (ok_laws_szQc a.f1 (szLs SHead.sz a.f0 left) (by omega) (by omega)) (.inr rfl) rfl (by simp) rfl) ?_
  refine TL.cons rfl (Step.assign (p := (.one (.d (.int .i64 (a.f1.sz (szLs SHead.sz a.f0 left)))))) rfl rfl (lt_ok rfl) rfl) ?_
  refine TL.nil ?_
  refine T.seq ?_
  refine T.seq ?_
  refine T.region ?_
  refine TL.cons rfl (Step.move (p := (.one (.d (.int .i64 (a.f1.sz (szLs SHead.sz a.f0 left)))))) rfl rfl (lt_ok rfl) rfl) ?_
  refine TL.cons rfl (Step.bin rfl rfl (lt_ok rfl) rfl rfl (Bin.lss (k := .i64) (a := (a.f1.sz (szLs SHead.sz a.f0 left))) (b := 0))) ?_
  refine TL.nil ?_
  refine T.cond (b := decide ((a.f1.sz (szLs SHead.sz a.f0 left)) < 0)) rfl (fun h4 => ?_) (fun h4 => ?_)
  ·
   replace h4 := of_decide_eq_true h4
   refine T.seq ?_
   refine T.region ?_
   refine TL.cons rfl (Step.assign (p := (.one (.d (.int .i64 (-1))))) rfl rfl (lt_ok rfl) rfl) ?_
   refine TL.nil ?_
   refine T.ret ?_
   exact ⟨[(false, [.d (.int .i64 (-1))])], (.cons rfl .nil), rfl, [], (RetC.rd' (by first | rfl | (congr 1; simp only [SProof.sz, szThen]; repeat' (split <;> try omega))) .nil)⟩
  ·
   replace h4 := of_decide_eq_false h4
   have z3_le : a.f1.sz (szLs SHead.sz a.f0 left) ≤ (szLs SHead.sz a.f0 left) := SQc.sz_le _ (by omega)
   refine T.skip ?_
   refine T.seq ?_
   refine T.region ?_
   refine TL.cons rfl (Step.move (p := (.one (.d (.int .i64 (a.f1.sz (szLs SHead.sz a.f0 left)))))) rfl rfl (lt_ok rfl) rfl) ?_
   refine TL.cons rfl (Step.assign (p := (.one (.d (.int .i64 (a.f1.sz (szLs SHead.sz a.f0 left)))))) rfl rfl (lt_ok rfl) rfl) ?_
   refine TL.nil ?_
   refine T.ret ?_
   exact ⟨[(false, [.d (.int .i64 (a.f1.sz (szLs SHead.sz a.f0 left)))])], (.cons rfl .nil), rfl, [], (RetC.rd' (by first | rfl | (congr 1; simp only [SProof.sz, szThen]; repeat' (split <;> try omega))) .nil)⟩
theorem ok_laws_szIncl (a : SIncl) (left : Int) (h0_ : 0 ≤ left) (h1_ : left ≤ 9223372036854775807) : RO Try.prog 65 [.agg a.cells, .one (.int .i64 left)] [(false, [.rd (.int .i64 (a.sz left))])] := by
 refine RO.intro Try.func65 rfl 18 rfl (le_ok rfl) fun w Z => ?_
 refine T.seq ?_
 refine T.region ?_
 refine TL.cons rfl (Step.box (p := (.agg [.d (.int .i64 a.f0), .d (.int .i64 a.f1), .d (.int .i64 a.f2), .d (.ints .u8 a.f3), .d (.bss a.f4)])) (ps := [.d (.int .i64 a.f0), .d (.int .i64 a.f1), .d (.int .i64 a.f2), .d (.ints .u8 a.f3), .d (.bss a.f4)]) rfl rfl (lt_ok rfl) rfl rfl rfl rfl rfl) ?_
 refine TL.cons rfl (Step.assign (p := (.one (.d (.int .i64 0)))) rfl rfl (lt_ok rfl) rfl) ?_
 refine TL.nil ?_
 refine T.seq ?_
 refine T.region ?_
 refine TL.cons rfl (Step.fieldAddr (q := 0) (off := 3) (n := 1) (one := true) rfl rfl (lt_ok rfl) (by kernel_rfl) (Nat.succ_ne_zero _) rfl) ?_
 refine TL.cons rfl (Step.load_box (c := .d (.ints .u8 a.f3)) rfl rfl (lt_ok rfl) (by kernel_rfl) rfl rfl rfl) ?_
 refine TL.cons rfl (Step.move (p := (.one (.d (.int .i64 left)))) rfl rfl (lt_ok rfl) rfl) ?_
 refine TL.cons rfl (Step.call (f := 38) (xs := [.tmp 6, .tmp 7]) (ps := [(.one (.d (.ints .u8 a.f3))), (.one (.d (.int .i64 left)))]) false (g := .func 38) rfl rfl (lt_ok rfl) rfl (by kernel_rfl) rfl (.cons (.one (.d _)) (.cons (.one (.d _)) .nil)) (ok_laws_szByteS a.f3 left (by omega) (by omega)) (.inr rfl) rfl (by simp) rfl) ?_
 refine TL.cons rfl (Step.assign (p := (.one (.d (.int .i64 (szB a.f3 left))))) rfl rfl (lt_ok rfl) rfl) ?_
 refine TL.nil ?_
 refine T.seq ?_
 refine T.seq ?_
 refine T.region ?_
 refine TL.cons rfl (Step.move (p := (.one (.d (.int .i64 (szB a.f3 left))))) rfl rfl (lt_ok rfl) rfl) ?_
 refine TL.cons rfl (Step.bin rfl rfl (lt_ok rfl) rfl rfl (Bin.lss (k := .i64) (a := (szB a.f3 left)) (b := 0))) ?_
 refine TL.nil ?_
 refine T.cond (b := decide ((szB a.f3 left) < 0)) rfl (fun h2 => ?_) (fun h2 => ?_)
 ·
  replace h2 := of_decide_eq_true h2
  refine T.seq ?_
  refine T.region ?_
  refine TL.cons rfl (Step.assign (p := (.one (.d (.int .i64 (-1))))) rfl rfl (lt_ok rfl) rfl) ?_
  refine TL.nil ?_
  refine T.ret ?_
  exact ⟨[(false, [.d (.int .i64 (-1))])], (.cons rfl .nil), rfl, [], (RetC.rd' (by first | rfl | (congr 1; simp only [SIncl.sz, szThen]; repeat' (split <;> try omega))) .nil)⟩
 ·
  replace h2 := of_decide_eq_false h2
  have z1_le : szB a.f3 left ≤ left := szB_le _ (by omega)
  refine T.skip ?_
  refine T.seq ?_
  refine T.region ?_
  refine TL.cons rfl (Step.fieldAddr (q := 0) (off := 4) (n := 1) (one := true) rfl rfl (lt_ok rfl) (by kernel_rfl) (Nat.succ_ne_zero _) rfl) ?_
  refine TL.cons rfl (Step.load_box (c := .d (.bss a.f4)) rfl rfl (lt_ok rfl) (by kernel_rfl) rfl rfl rfl) ?_
  refine TL.cons rfl (Step.move (p := (.one (.d (.int .i64 (szB a.f3 left))))) rfl rfl (lt_ok rfl) rfl) ?_
  refine TL.cons rfl (Step.call (f := 97) (xs := [.tmp 12, .tmp 13]) (ps := [(.one (.d (.bss a.f4))), (.one (.d (.int .i64 (szB a.f3 left))))]) false (g := .func 97) rfl rfl (lt_ok rfl) rfl (by kernel_rfl) rfl (.cons (.one (.d _)) (.cons (.one (.d _)) .nil)) (ok_laws_szByteSS a.f4 (szB a.f3 left) (by omega) (by omega)) (.inr rfl) rfl (by simp) rfl) ?_
  refine TL.cons rfl (Step.assign (p := (.one (.d (.int .i64 (szLs szB a.f4 (szB a.f3 left)))))) rfl rfl (lt_ok rfl) rfl) ?_
  refine TL.nil ?_
  refine T.seq ?_
  refine T.seq ?_
  refine T.region ?_
  refine TL.cons rfl (Step.move (p := (.one (.d (.int .i64 (szLs szB a.f4 (szB a.f3 left)))))) rfl rfl (lt_ok rfl) rfl) ?_
  refine TL.cons rfl (Step.bin rfl rfl (lt_ok rfl) rfl rfl (Bin.lss (k := .i64) (a := (szLs szB a.f4 (szB a.f3 left))) (b := 0))) ?_
  refine TL.nil ?_
  refine T.cond (b := decide ((szLs szB a.f4 (szB a.f3 left)) < 0)) rfl (fun h4 => ?_) (fun h4 => ?_)
  ·
   replace h4 := of_decide_eq_true h4
   refine T.seq ?_
   refine T.region ?_
   refine TL.cons rfl (Step.assign (p := (.one (.d (.int .i64 (-1))))) rfl rfl (lt_ok rfl) rfl) ?_
   refine TL.nil ?_
   refine T.ret ?_
   exact ⟨[(false, [.d (.int .i64 (-1))])], (.cons rfl .nil), rfl, [], (RetC.rd' (by first | rfl | (congr 1; simp only [SIncl.sz, szThen]; repeat' (split <;> try omega))) .nil)⟩
  ·
   replace h4 := of_decide_eq_false h4
   have z3_le : szLs szB a.f4 (szB a.f3 left) ≤ (szB a.f3 left) := szLs_le (fun x l h => szB_le x h) _ (by omega)
   refine T.skip ?_
   refine T.seq ?_
   refine T.region ?_
   refine TL.cons rfl (Step.move (p := (.one (.d (.int .i64 (szLs szB a.f4 (szB a.f3 left)))))) rfl rfl (lt_ok rfl) rfl) ?_
   refine TL.cons rfl (Step.assign (p := (.one (.d (.int .i64 (szLs szB a.f4 (szB a.f3 left)))))) rfl rfl (lt_ok rfl) rfl) ?_
   refine TL.nil ?_
   refine T.ret ?_
   exact ⟨[(false, [.d (.int .i64 (szLs szB a.f4 (szB a.f3 left)))])], (.cons rfl .nil), rfl, [], (RetC.rd' (by first | rfl | (congr 1; simp only [SIncl.sz, szThen]; repeat' (split <;> try omega))) .nil)⟩
theorem ok_laws_szMsg (a : SMsg) (left : Int) (h0_ : 0 ≤ left) (h1_ : left ≤ 9223372036854775807) : RO Try.prog 17 [.agg a.cells, .one (.int .i64 left)] [(false, [.rd (.int .i64 (a.sz left))])] := by
 refine RO.intro Try.func17 rfl 48 rfl (le_ok rfl) fun w Z => ?_
 refine T.seq ?_
 refine T.region ?_
 refine TL.cons rfl (Step.box (p := (.agg [.d (.int .i64 a.f0), .d (.int .i64 a.f1.f0), .d (.int .i64 a.f1.f1), .d (.ints .u8 a.f1.f2), .d (.int .i64 a.f1.f3), .d (.ints .u8 a.f1.f4), .d (.int .i64 a.f2.f0), .d (.int .i64 a.f2.f1), .d (.ints .u8 a.f2.f2), .d (.ints .u8 a.f2.f3), .d (.bss a.f2.f4), .d (.int .i64 a.f3.f0), .d (.int .i64 a.f3.f1), .d (.int .i64 a.f3.f2), .d (.ints .u8 a.f3.f3), .d (.ints .u8 a.f3.f4), .d (.int .i64 a.f3.f5.f0), .d (.int .i64 a.f3.f5.f1), .d (.ints .u8 a.f3.f5.f2), .d (.ints .u8 a.f3.f5.f3), .d (.bss a.f3.f5.f4), .d (.int .i64 a.f4.f0.f0), .d (.int .i64 a.f4.f0.f1), .d (.int .i64 a.f4.f0.f2), .d (.ints .u8 a.f4.f0.f3), .d (.ints .u8 a.f4.f0.f4), .d (.int .i64 a.f4.f0.f5.f0), .d (.int .i64 a.f4.f0.f5.f1), .d (.ints .u8 a.f4.f0.f5.f2), .d (.ints .u8 a.f4.f0.f5.f3), .d (.bss a.f4.f0.f5.f4), .d (.bss a.f4.f1), .d (.int .i64 a.f5.f0), .d (.sl 3 (a.f5.f1.map SEntry.cells)), .d (.sl 10 (a.f6.f0.map SHead.cells)), .d (.int .i64 a.f6.f1.f0), .d (.int .i64 a.f6.f1.f1), .d (.ints .u8 a.f6.f1.f2), .d (.ints .u8 a.f6.f1.f3), .d (.bss a.f6.f1.f4), .d (.int .i64 a.f7.f0), .d (.int .i64 a.f7.f1), .d (.int .i64 a.f7.f2), .d (.ints .u8 a.f7.f3), .d (.bss a.f7.f4)])) (ps := [.d (.int .i64 a.f0), .d (.int .i64 a.f1.f0), .d (.int .i64 a.f1.f1), .d (.ints .u8 a.f1.f2), .d (.int .i64 a.f1.f3), .d (.ints .u8 a.f1.f4), .d (.int .i64 a.f2.f0), .d (.int .i64 a.f2.f1), .d (.ints .u8 a.f2.f2), .d (.ints .u8 a.f2.f3), .d (.bss a.f2.f4), .d (.int .i64 a.f3.f0), .d (.int .i64 a.f3.f1), .d (.int .i64 a.f3.f2), .d (.ints .u8 a.f3.f3), .d (.ints .u8 a.f3.f4), .d (.int .i64 a.f3.f5.f0), .d (.int .i64 a.f3.f5.f1), .d (.ints .u8 a.f3.f5.f2), .d (.ints .u8 a.f3.f5.f3), .d (.bss a.f3.f5.f4), .d (.int .i64 a.f4.f0.f0), .d (.int .i64 a.f4.f0.f1), .d (.int .i64 a.f4.f0.f2), .d (.ints .u8 a.f4.f0.f3), .d (.ints .u8 a.f4.f0.f4), .d (.int .i64 a.f4.f0.f5.f0), .d (.int .i64 a.f4.f0.f5.f1), .d (.ints .u8 a.f4.f0.f5.f2), .d (.ints .u8 a.f4.f0.f5.f3), .d (.bss a.f4.f0.f5.f4), .d (.bss a.f4.f1), .d (.int .i64 a.f5.f0), .d (.sl 3 (a.f5.f1.map SEntry.cells)), .d (.sl 10 (a.f6.f0.map SHead.cells)), .d (.int .i64 a.f6.f1.f0), .d (.int .i64 a.f6.f1.f1), .d (.ints .u8 a.f6.f1.f2), .d (.ints .u8 a.f6.f1.f3), .d (.bss a.f6.f1.f4), .d (.int .i64 a.f7.f0), .d (.int .i64 a.f7.f1), .d (.int .i64 a.f7.f2), .d (.ints .u8 a.f7.f3), .d (.bss a.f7.f4)]) rfl rfl (lt_ok rfl) rfl rfl rfl rfl rfl) ?_
 refine TL.cons rfl (Step.assign (p := (.one (.d (.int .i64 0)))) rfl rfl (lt_ok rfl) rfl) ?_
 refine TL.nil ?_
 refine T.seq ?_
 refine T.region ?_
 refine TL.cons rfl (Step.fieldAddr (q := 0) (off := 1) (n := 5) (one := false) rfl rfl (lt_ok rfl) (by kernel_rfl) (Nat.succ_ne_zero _) rfl) ?_
 refine TL.cons rfl (Step.load_box_agg (n := 5) (qs := [.d (.int .i64 a.f1.f0), .d (.int .i64 a.f1.f1), .d (.ints .u8 a.f1.f2), .d (.int .i64 a.f1.f3), .d (.ints .u8 a.f1.f4)]) rfl rfl (lt_ok rfl) (by kernel_rfl) rfl rfl rfl rfl) ?_
 refine TL.cons rfl (Step.move (p := (.one (.d (.int .i64 left)))) rfl rfl (lt_ok rfl) rfl) ?_
 refine TL.cons rfl (Step.call (f := 8) (xs := [.tmp 6, .tmp 7]) (ps := [(.agg [.d (.int .i64 a.f1.f0), .d (.int .i64 a.f1.f1), .d (.ints .u8 a.f1.f2), .d (.int .i64 a.f1.f3), .d (.ints .u8 a.f1.f4)]), (.one (.d (.int .i64 left)))]) false (g := .func 8) rfl rfl (lt_ok rfl) rfl (by kernel_rfl) rfl (.cons (.agg (.cons (.d _) (.cons (.d _) (.cons (.d _) (.cons (.d _) (.cons (.d _) .nil)))))) (.cons (.one (.d _)) .nil)) (ok_laws_szVote a.f1 left (by omega) (by omega)) (.inr rfl) rfl (by simp) rfl) ?_
 refine TL.cons rfl (Step.assign (p := (.one (.d (.int .i64 (a.f1.sz left))))) rfl rfl (lt_ok rfl) rfl) ?_
 refine TL.nil ?_
 refine T.seq ?_
 refine T.seq ?_
 refine T.region ?_
 refine TL.cons rfl (Step.move (p := (.one (.d (.int .i64 (a.f1.sz left))))) rfl rfl (lt_ok rfl) rfl) ?_
 refine TL.cons rfl (Step.bin rfl rfl (lt_ok rfl) rfl rfl (Bin.lss (k := .i64) (a := (a.f1.sz left)) (b := 0))) ?_
 refine TL.nil ?_
 refine T.cond (b := decide ((a.f1.sz left) < 0)) rfl (fun h2 => ?_) (fun h2 => ?_)
 ·
  replace h2 := of_decide_eq_true h2
  refine T.seq ?_
  refine T.region ?_
  refine TL.cons rfl (Step.assign (p := (.one (.d (.int .i64 (-1))))) rfl rfl (lt_ok rfl) rfl) ?_
  refine TL.nil ?_
  refine T.ret ?_
  exact ⟨[(false, [.d (.int .i64 (-1))])], (.cons rfl .nil), rfl, [], (RetC.rd' (by first | rfl | (congr 1; simp only [SMsg.sz, szThen]; repeat' (split <;> try omega))) .nil)⟩
 ·
  replace h2 := of_decide_eq_false h2
  have z1_le : a.f1.sz left ≤ left := SVote.sz_le _ (by omega)
  refine T.skip ?_
  refine T.seq ?_
  refine T.region ?_
  refine TL.cons rfl (Step.fieldAddr (q := 0) (off := 6) (n := 5) (one := false) rfl rfl (lt_ok rfl) (by kernel_rfl) (Nat.succ_ne_zero _) rfl) ?_
  refine TL.cons rfl (Step.load_box_agg (n := 5) (qs := [.d (.int .i64 a.f2.f0), .d (.int .i64 a.f2.f1), .d (.ints .u8 a.f2.f2), .d (.ints .u8 a.f2.f3), .d (.bss a.f2.f4)]) rfl rfl (lt_ok rfl) (by kernel_rfl) rfl rfl rfl rfl) ?_
  refine TL.cons rfl (Step.move (p := (.one (.d (.int .i64 (a.f1.sz left))))) rfl rfl (lt_ok rfl) rfl) ?_
  refine TL.cons rfl (Step.call (f := 60) (xs := [.tmp 12, .tmp 13]) (ps := [(.agg [.d (.int .i64 a.f2.f0), .d (.int .i64 a.f2.f1), .d (.ints .u8 a.f2.f2), .d (.ints .u8 a.f2.f3), .d (.bss a.f2.f4)]), (.one (.d (.int .i64 (a.f1.sz left))))]) false (g := .func 60) rfl rfl (lt_ok rfl) rfl (by kernel_rfl) rfl (.cons (.agg (.cons (.d _) (.cons (.d _) (.cons (.d _) (.cons (.d _) (.cons (.d _) .nil)))))) (.cons (.one (.d _)) .nil)) (ok_laws_szQc a.f2 (a.f1.sz left) (by omega) (by omega)) (.inr rfl) rfl (by simp) rfl) ?_
  refine TL.cons rfl (Step.assign (p := (.one (.d (.int .i64 (a.f2.sz (a.f1.sz left)))))) rfl rfl (lt_ok rfl) rfl) ?_
  refine TL.nil ?_
  refine T.weaken (E' := { tm := [(1, (.one (.d (.int .i64 (a.f2.sz (a.f1.sz left)))))), (2, (.one (.ptr 2 0))), (4, (.one (.d (.int .i64 0))))], rows := [], boxes := [(2, (64, [.d (.int .i64 a.f0), .d (.int .i64 a.f1.f0), .d (.int .i64 a.f1.f1), .d (.ints .u8 a.f1.f2), .d (.int .i64 a.f1.f3), .d (.ints .u8 a.f1.f4), .d (.int .i64 a.f2.f0), .d (.int .i64 a.f2.f1), .d (.ints .u8 a.f2.f2), .d (.ints .u8 a.f2.f3), .d (.bss a.f2.f4), .d (.int .i64 a.f3.f0), .d (.int .i64 a.f3.f1), .d (.int .i64 a.f3.f2), .d (.ints .u8 a.f3.f3), .d (.ints .u8 a.f3.f4), .d (.int .i64 a.f3.f5.f0), .d (.int .i64 a.f3.f5.f1), .d (.ints .u8 a.f3.f5.f2), .d (.ints .u8 a.f3.f5.f3), .d (.bss a.f3.f5.f4), .d (.int .i64 a.f4.f0.f0), .d (.int .i64 a.f4.f0.f1), .d (.int .i64 a.f4.f0.f2), .d (.ints .u8 a.f4.f0.f3), .d (.ints .u8 a.f4.f0.f4), .d (.int .i64 a.f4.f0.f5.f0), .d (.int .i64 a.f4.f0.f5.f1), .d (.ints .u8 a.f4.f0.f5.f2), .d (.ints .u8 a.f4.f0.f5.f3), .d (.bss a.f4.f0.f5.f4), .d (.bss a.f4.f1), .d (.int .i64 a.f5.f0), .d (.sl 3 (a.f5.f1.map SEntry.cells)), .d (.sl 10 (a.f6.f0.map SHead.cells)), .d (.int .i64 a.f6.f1.f0), .d (.int .i64 a.f6.f1.f1), .d (.ints .u8 a.f6.f1.f2), .d (.ints .u8 a.f6.f1.f3), .d (.bss a.f6.f1.f4), .d (.int .i64 a.f7.f0), .d (.int .i64 a.f7.f1), .d (.int .i64 a.f7.f2), .d (.ints .u8 a.f7.f3), .d (.bss a.f7.f4)]))] }) (Env.le_mk ⟨by kernel_rfl, by kernel_rfl, by kernel_rfl, trivial⟩ trivial ⟨by kernel_rfl, trivial⟩) ?_
  refine T.seq ?_
  refine T.seq ?_
  refine T.region ?_
  refine TL.cons rfl (Step.move (p := (.one (.d (.int .i64 (a.f2.sz (a.f1.sz left)))))) rfl rfl (lt_ok rfl) rfl) ?_
  refine TL.cons rfl (Step.bin rfl rfl (lt_ok rfl) rfl rfl (Bin.lss (k := .i64) (a := (a.f2.sz (a.f1.sz left))) (b := 0))) ?_
  refine TL.nil ?_
  refine T.cond (b := decide ((a.f2.sz (a.f1.sz left)) < 0)) rfl (fun h4 => ?_) (fun h4 => ?_)
  ·
   replace h4 := of_decide_eq_true h4
   refine T.seq ?_
   refine T.region ?_
   refine TL.cons rfl (Step.assign (p := (.one (.d (.int .i64 (-1))))) rfl rfl (lt_ok rfl) rfl) ?_
   refine TL.nil ?_
   refine T.ret ?_
   exact ⟨[(false, [.d (.int .i64 (-1))])], (.cons rfl .nil), rfl, [], (RetC.rd' (by first | rfl | (congr 1; simp only [SMsg.sz, szThen]; repeat' (split <;> try omega))) .nil)⟩
  ·
   replace h4 := of_decide_eq_false h4
   have z3_le : a.f2.sz (a.f1.sz left) ≤ (a.f1.sz left) := SQc.sz_le _ (by omega)
   refine T.skip ?_
   refine T.seq ?_
   refine T.region ?_
   refine TL.cons rfl (Step.fieldAddr (q := 0) (off := 11) (n := 10) (one := false) rfl rfl (lt_ok rfl) (by kernel_rfl) (Nat.succ_ne_zero _) rfl) ?_
   refine TL.cons rfl (Step.load_box_agg (n := 10) (qs := [.d (.int .i64 a.f3.f0), .d (.int .i64 a.f3.f1), .d (.int .i64 a.f3.f2), .d (.ints .u8 a.f3.f3), .d (.ints .u8 a.f3.f4), .d (.int .i64 a.f3.f5.f0), .d (.int .i64 a.f3.f5.f1), .d (.ints .u8 a.f3.f5.f2), .d (.ints .u8 a.f3.f5.f3), .d (.bss a.f3.f5.f4)]) rfl rfl (lt_ok rfl) (by kernel_rfl) rfl rfl rfl rfl) ?_
   refine TL.cons rfl (Step.move (p := (.one (.d (.int .i64 (a.f2.sz (a.f1.sz left)))))) rfl rfl (lt_ok rfl) rfl) ?_
   refine TL.cons rfl (Step.call (f := 61) (xs := [.tmp 18, .tmp 19]) (ps := [(.agg [.d (.int .i64 a.f3.f0), .d (.int .i64 a.f3.f1), .d (.int .i64 a.f3.f2), .d (.ints .u8 a.f3.f3), .d (.ints .u8 a.f3.f4), .d (.int .i64 a.f3.f5.f0), .d (.int .i64 a.f3.f5.f1), .d (.ints .u8 a.f3.f5.f2), .d (.ints .u8 a.f3.f5.f3), .d (.bss a.f3.f5.f4)]), (.one (.d (.int .i64 (a.f2.sz (a.f1.sz left)))))]) false (g := .func 61) rfl rfl (lt_ok rfl) rfl (by kernel_rfl) rfl (.cons (.agg (.cons (.d _) (.cons (.d _) (.cons (.d _) (.cons (.d _) (.cons (.d _) (.cons (.d _) (.cons (.d _) (.cons (.d _) (.cons (.d _) (.cons (.d _) .nil))))))))))) (.cons (.one (.d _)) .nil)) (ok_laws_szHead a.f3 (a.f2.sz (a.f1.sz left)) (by omega) (by omega)) (.inr rfl) rfl (by simp) rfl) ?_
   refine TL.cons rfl (Step.assign (p := (.one (.d (.int .i64 (a.f3.sz (a.f2.sz (a.f1.sz left))))))) rfl rfl (lt_ok rfl) rfl) ?_
   refine TL.nil ?_
   refine T.seq ?_
   refine T.seq ?_
   refine T.region ?_
   refine TL.cons rfl (Step.move (p := (.one (.d (.int .i64 (a.f3.sz (a.f2.sz (a.f1.sz left))))))) rfl rfl (lt_ok rfl) rfl) ?_
   refine TL.cons rfl (Step.bin rfl rfl (lt_ok rfl) rfl rfl (Bin.lss (k := .i64) (a := (a.f3.sz (a.f2.sz (a.f1.sz left)))) (b := 0))) ?_
   refine TL.nil ?_
   refine T.cond (b := decide ((a.f3.sz (a.f2.sz (a.f1.sz left))) < 0)) rfl (fun h6 => ?_) (fun h6 => ?_)
   ·
    replace h6 := of_decide_eq_true h6
    refine T.seq ?_
    refine T.region ?_
    refine TL.cons rfl (Step.assign (p := (.one (.d (.int .i64 (-1))))) rfl rfl (lt_ok rfl) rfl) ?_
    refine TL.nil ?_
    refine T.ret ?_
    exact ⟨[(false, [.d (.int .i64 (-1))])], (.cons rfl .nil), rfl, [], (RetC.rd' (by first | rfl | (congr 1; simp only [SMsg.sz, szThen]; repeat' (split <;> try omega))) .nil)⟩
   ·
    replace h6 := of_decide_eq_false h6
    have z5_le : a.f3.sz (a.f2.sz (a.f1.sz left)) ≤ (a.f2.sz (a.f1.sz left)) := SHead.sz_le _ (by omega)
    refine T.skip ?_
    refine T.seq ?_
    refine T.region ?_
    refine TL.cons rfl (Step.fieldAddr (q := 0) (off := 21) (n := 11) (one := false) rfl rfl (lt_ok rfl) (by kernel_rfl) (Nat.succ_ne_zero _) rfl) ?_
    refine TL.cons rfl (Step.load_box_agg (n := 11) (qs := [.d (.int .i64 a.f4.f0.f0), .d (.int .i64 a.f4.f0.f1), .d (.int .i64 a.f4.f0.f2), .d (.ints .u8 a.f4.f0.f3), .d (.ints .u8 a.f4.f0.f4), .d (.int .i64 a.f4.f0.f5.f0), .d (.int .i64 a.f4.f0.f5.f1), .d (.ints .u8 a.f4.f0.f5.f2), .d (.ints .u8 a.f4.f0.f5.f3), .d (.bss a.f4.f0.f5.f4), .d (.bss a.f4.f1)]) rfl rfl (lt_ok rfl) (by kernel_rfl) rfl rfl rfl rfl) ?_
    refine TL.cons rfl (Step.move (p := (.one (.d (.int .i64 (a.f3.sz (a.f2.sz (a.f1.sz left))))))) rfl rfl (lt_ok rfl) rfl) ?_
    refine TL.cons rfl (Step.call (f := 62) (xs := [.tmp 24, .tmp 25]) (ps := [(.agg [.d (.int .i64 a.f4.f0.f0), .d (.int .i64 a.f4.f0.f1), .d (.int .i64 a.f4.f0.f2), .d (.ints .u8 a.f4.f0.f3), .d (.ints .u8 a.f4.f0.f4), .d (.int .i64 a.f4.f0.f5.f0), .d (.int .i64 a.f4.f0.f5.f1), .d (.ints .u8 a.f4.f0.f5.f2), .d (.ints .u8 a.f4.f0.f5.f3), .d (.bss a.f4.f0.f5.f4), .d (.bss a.f4.f1)]), (.one (.d (.int .i64 (a.f3.sz (a.f2.sz (a.f1.sz left))))))]) false (g := .func 62) rfl rfl (lt_ok rfl) rfl (by kernel_rfl) rfl (.cons (.agg (.cons (.d _) (.cons (.d _) (.cons (.d _) (.cons (.d _) (.cons (.d _) (.cons (.d _) (.cons (.d _) (.cons (.d _) (.cons (.d _) (.cons (.d _) (.cons (.d _) .nil)))))))))))) (.cons (.one (.d _)) .nil)) (ok_laws_szBlock a.f4 (a.f3.sz (a.f2.sz (a.f1.sz left))) (by omega) (by omega)) (.inr rfl) rfl (by simp) rfl) ?_
    refine TL.cons rfl (Step.assign (p := (.one (.d (.int .i64 (a.f4.sz (a.f3.sz (a.f2.sz (a.f1.sz left)))))))) rfl rfl (lt_ok rfl) rfl) ?_
    refine TL.nil ?_
    refine T.seq ?_
    refine T.seq ?_
    refine T.region ?_
    refine TL.cons rfl (Step.move (p := (.one (.d (.int .i64 (a.f4.sz (a.f3.sz (a.f2.sz (a.f1.sz left)))))))) rfl rfl (lt_ok rfl) rfl) ?_
    refine TL.cons rfl (Step.bin rfl rfl (lt_ok rfl) rfl rfl (Bin.lss (k := .i64) (a := (a.f4.sz (a.f3.sz (a.f2.sz (a.f1.sz left))))) (b := 0))) ?_
    refine TL.nil ?_
    refine T.cond (b := decide ((a.f4.sz (a.f3.sz (a.f2.sz (a.f1.sz left)))) < 0)) rfl (fun h8 => ?_) (fun h8 => ?_)
    ·
     replace h8 := of_decide_eq_true h8
     refine T.seq ?_
     refine T.region ?_
     refine TL.cons rfl (Step.assign (p := (.one (.d (.int .i64 (-1))))) rfl rfl (lt_ok rfl) rfl) ?_
     refine TL.nil ?_
     refine T.ret ?_
     exact ⟨[(false, [.d (.int .i64 (-1))])], (.cons rfl .nil), rfl, [], (RetC.rd' (by first | rfl | (congr 1; simp only [SMsg.sz, szThen]; repeat' (split <;> try omega))) .nil)⟩
    ·
     replace h8 := of_decide_eq_false h8
     have z7_le : a.f4.sz (a.f3.sz (a.f2.sz (a.f1.sz left))) ≤ (a.f3.sz (a.f2.sz (a.f1.sz left))) := SBlock.sz_le _ (by omega)
     refine T.skip ?_
     refine T.seq ?_
     refine T.region ?_
     refine TL.cons rfl (Step.fieldAddr (q := 0) (off := 32) (n := 2) (one := false) rfl rfl (lt_ok rfl) (by kernel_rfl) (Nat.succ_ne_zero _) rfl) ?_
     refine TL.cons rfl (Step.load_box_agg (n := 2) (qs := [.d (.int .i64 a.f5.f0), .d (.sl 3 (a.f5.f1.map SEntry.cells))]) rfl rfl (lt_ok rfl) (by kernel_rfl) rfl rfl rfl rfl) ?_
     refine TL.cons rfl (Step.move (p := (.one (.d (.int .i64 (a.f4.sz (a.f3.sz (a.f2.sz (a.f1.sz left)))))))) rfl rfl (lt_ok rfl) rfl) ?_
     refine TL.cons rfl (Step.call (f := 63) (xs := [.tmp 30, .tmp 31]) (ps := [(.agg [.d (.int .i64 a.f5.f0), .d (.sl 3 (a.f5.f1.map SEntry.cells))]), (.one (.d (.int .i64 (a.f4.sz (a.f3.sz (a.f2.sz (a.f1.sz left)))))))]) false (g := .func 63) rfl rfl (lt_ok rfl) rfl (by kernel_rfl) rfl (.cons (.agg (.cons (.d _) (.cons (.d _) .nil))) (.cons (.one (.d _)) .nil)) (ok_laws_szTc a.f5 (a.f4.sz (a.f3.sz (a.f2.sz (a.f1.sz left)))) (by omega) (by omega)) (.inr rfl) rfl (by simp) rfl) ?_
     refine TL.cons rfl (Step.assign (p := (.one (.d (.int .i64 (a.f5.sz (a.f4.sz (a.f3.sz (a.f2.sz (a.f1.sz left))))))))) rfl rfl (lt_ok rfl) rfl) ?_
     refine TL.nil ?_
     refine T.seq ?_
     refine T.seq ?_
     refine T.region ?_
     refine TL.cons rfl (Step.move (p := (.one (.d (.int .i64 (a.f5.sz (a.f4.sz (a.f3.sz (a.f2.sz (a.f1.sz left))))))))) rfl rfl (lt_ok rfl) rfl) ?_
     refine TL.cons rfl (Step.bin rfl rfl (lt_ok rfl) rfl rfl (Bin.lss (k := .i64) (a := (a.f5.sz (a.f4.sz (a.f3.sz (a.f2.sz (a.f1.sz left)))))) (b := 0))) ?_
     refine TL.nil ?_
     refine T.cond (b := decide ((a.f5.sz (a.f4.sz (a.f3.sz (a.f2.sz (a.f1.sz left))))) < 0)) rfl (fun h10 => ?_) (fun h10 => ?_)
     ·
      replace h10 := of_decide_eq_true h10
      refine T.seq ?_
      refine T.region ?_
      refine TL.cons rfl (Step.assign (p := (.one (.d (.int .i64 (-1))))) rfl rfl (lt_ok rfl) rfl) ?_
      refine TL.nil ?_
      refine T.ret ?_
      exact ⟨[(false, [.d (.int .i64 (-1))])], (.cons rfl .nil), rfl, [], (RetC.rd' (by first | rfl | (congr 1; simp only [SMsg.sz, szThen]; repeat' (split <;> try omega))) .nil)⟩
     ·
      replace h10 := of_decide_eq_false h10
      have z9_le : a.f5.sz (a.f4.sz (a.f3.sz (a.f2.sz (a.f1.sz left)))) ≤ (a.f4.sz (a.f3.sz (a.f2.sz (a.f1.sz left)))) := STc.sz_le _ (by omega)
      refine T.skip ?_
      refine T.seq ?_
      refine T.region ?_
      refine TL.cons rfl (Step.fieldAddr (q := 0) (off := 34) (n := 6) (one := false) rfl rfl (lt_ok rfl) (by kernel_rfl) (Nat.succ_ne_zero _) rfl) ?_
      refine TL.cons rfl (Step.load_box_agg (n := 6) (qs := [.d (.sl 10 (a.f6.f0.map SHead.cells)), .d (.int .i64 a.f6.f1.f0), .d (.int .i64 a.f6.f1.f1), .d (.ints .u8 a.f6.f1.f2), .d (.ints .u8 a.f6.f1.f3), .d (.bss a.f6.f1.f4)]) rfl rfl (lt_ok rfl) (by kernel_rfl) rfl rfl rfl rfl) ?_
      refine TL.cons rfl (Step.move (p := (.one (.d (.int .i64 (a.f5.sz (a.f4.sz (a.f3.sz (a.f2.sz (a.f1.sz left))))))))) rfl rfl (lt_ok rfl) rfl) ?_
      refine TL.cons rfl (Step.call (f := 64) (xs := [.tmp 36, .tmp 37]) (ps := [(.agg [.d (.sl 10 (a.f6.f0.map SHead.cells)), .d (.int .i64 a.f6.f1.f0), .d (.int .i64 a.f6.f1.f1), .d (.ints .u8 a.f6.f1.f2), .d (.ints .u8 a.f6.f1.f3), .d (.bss a.f6.f1.f4)]), (.one (.d (.int .i64 (a.f5.sz (a.f4.sz (a.f3.sz (a.f2.sz (a.f1.sz left))))))))]) false (g := .func 64) rfl rfl (lt_ok rfl) rfl (by kernel_rfl) rfl (.cons (.agg (.cons (.d _) (.cons (.d _) (.cons (.d _) (.cons (.d _) (.cons (.d _) (.cons (.d _) .nil))))))) (.cons (.one (.d _)) .nil)) (ok_laws_szProof a.f6 (a.f5.sz (a.f4.sz (a.f3.sz (a.f2.sz (a.f1.sz left))))) (by omega) (by omega)) (.inr rfl) rfl (by simp) rfl) ?_
      refine TL.cons rfl (Step.assign (p := (.one (.d (.int .i64 (a.f6.sz (a.f5.sz (a.f4.sz (a.f3.sz (a.f2.sz (a.f1.sz left)))))))))) rfl rfl (lt_ok rfl) rfl) ?_
      refine TL.nil ?_
      refine T.seq ?_
      refine T.seq ?_
      refine T.region ?_
      refine TL.cons rfl (Step.move (p := (.one (.d (.int .i64 (a.f6.sz (a.f5.sz (a.f4.sz (a.f3.sz (a.f2.sz (a.f1.sz left)))))))))) rfl rfl (lt_ok rfl) rfl) ?_
      refine TL.cons rfl (Step.bin rfl rfl (lt_ok rfl) rfl rfl (Bin.lss (k := .i64) (a := (a.f6.sz (a.f5.sz (a.f4.sz (a.f3.sz (a.f2.sz (a.f1.sz left))))))) (b := 0))) ?_
      refine TL.nil ?_
      refine T.cond (b := decide ((a.f6.sz (a.f5.sz (a.f4.sz (a.f3.sz (a.f2.sz (a.f1.sz left)))))) < 0)) rfl (fun h12 => ?_) (fun h12 => ?_)
      ·
       replace h12 := of_decide_eq_true h12
       refine T.seq ?_
       refine T.region ?_
       refine TL.cons rfl (Step.assign (p := (.one (.d (.int .i64 (-1))))) rfl rfl (lt_ok rfl) rfl) ?_
       refine TL.nil ?_
       refine T.ret ?_
       exact ⟨[(false, [.d (.int .i64 (-1))])], (.cons rfl .nil), rfl, [], (RetC.rd' (by first | rfl | (congr 1; simp only [SMsg.sz, szThen]; repeat' (split <;> try omega))) .nil)⟩
      ·
       replace h12 := of_decide_eq_false h12
       have z11_le : a.f6.sz (a.f5.sz (a.f4.sz (a.f3.sz (a.f2.sz (a.f1.sz left))))) ≤ (a.f5.sz (a.f4.sz (a.f3.sz (a.f2.sz (a.f1.sz left))))) := SProof.sz_le _ (by omega)
       refine T.skip ?_
       refine T.seq ?_
       refine T.region ?_
       refine TL.cons rfl (Step.fieldAddr (q := 0) (off := 40) (n := 5) (one := false) rfl rfl (lt_ok rfl) (by kernel_rfl) (Nat.succ_ne_zero _) rfl) ?_
       refine TL.cons rfl (Step.load_box_agg (n := 5) (qs := [.d (.int .i64 a.f7.f0), .d (.int .i64 a.f7.f1), .d (.int .i64 a.f7.f2), .d (.ints .u8 a.f7.f3), .d (.bss a.f7.f4)]) rfl rfl (lt_ok rfl) (by kernel_rfl) rfl rfl rfl rfl) ?_
       refine TL.cons rfl (Step.move (p := (.one (.d (.int .i64 (a.f6.sz (a.f5.sz (a.f4.sz (a.f3.sz (a.f2.sz (a.f1.sz left)))))))))) rfl rfl (lt_ok rfl) rfl) ?_
       refine TL.cons rfl (Step.call (f := 65) (xs := [.tmp 42, .tmp 43]) (ps := [(.agg [.d (.int .i64 a.f7.f0), .d (.int .i64 a.f7.f1), .d (.int .i64 a.f7.f2), .d (.ints .u8 a.f7.f3), .d (.bss a.f7.f4)]), (.one (.d (.int .i64 (a.f6.sz (a.f5.sz (a.f4.sz (a.f3.sz (a.f2.sz (a.f1.sz left)))))))))]) false (g := .func 65) rfl rfl (lt_ok rfl) rfl (by kernel_rfl) rfl (.cons (.agg (.cons (.d _) (.cons (.d _) (.cons (.d _) (.cons (.d _) (.cons (.d _) .nil)))))) (.cons (.one (.d _)) .nil)) (ok_laws_szIncl a.f7 (a.f6.sz (a.f5.sz (a.f4.sz (a.f3.sz (a.f2.sz (a.f1.sz left)))))) (by omega) (by omega)) (.inr rfl) rfl (by simp) rfl) ?_
       refine TL.cons rfl (Step.assign (p := (.one (.d (.int .i64 (a.f7.sz (a.f6.sz (a.f5.sz (a.f4.sz (a.f3.sz (a.f2.sz (a.f1.sz left))))))))))) rfl rfl (lt_ok rfl) rfl) ?_
       refine TL.nil ?_
       refine T.weaken (E' := { tm := [(1, (.one (.d (.int .i64 (a.f7.sz (a.f6.sz (a.f5.sz (a.f4.sz (a.f3.sz (a.f2.sz (a.f1.sz left))))))))))), (4, (.one (.d (.int .i64 0))))], rows := [], boxes := [] }) (Env.le_mk ⟨by kernel_rfl, by kernel_rfl, trivial⟩ trivial trivial) ?_
       refine T.seq ?_
       refine T.seq ?_
       refine T.region ?_
       refine TL.cons rfl (Step.move (p := (.one (.d (.int .i64 (a.f7.sz (a.f6.sz (a.f5.sz (a.f4.sz (a.f3.sz (a.f2.sz (a.f1.sz left))))))))))) rfl rfl (lt_ok rfl) rfl) ?_
       refine TL.cons rfl (Step.bin rfl rfl (lt_ok rfl) rfl rfl (Bin.lss (k := .i64) (a := (a.f7.sz (a.f6.sz (a.f5.sz (a.f4.sz (a.f3.sz (a.f2.sz (a.f1.sz left)))))))) (b := 0))) ?_
       refine TL.nil ?_
       refine T.cond (b := decide ((a.f7.sz (a.f6.sz (a.f5.sz (a.f4.sz (a.f3.sz (a.f2.sz (a.f1.sz left))))))) < 0)) rfl (fun h14 => ?_) (fun h14 => ?_)
       ·
        replace h14 := of_decide_eq_true h14
        refine T.seq ?_
        refine T.region ?_
        refine TL.cons rfl (Step.assign (p := (.one (.d (.int .i64 (-1))))) rfl rfl (lt_ok rfl) rfl) ?_
        refine TL.nil ?_
        refine T.ret ?_
        exact ⟨[(false, [.d (.int .i64 (-1))])], (.cons rfl .nil), rfl, [], (RetC.rd' (by first | rfl | (congr 1; simp only [SMsg.sz, szThen]; repeat' (split <;> try omega))) .nil)⟩
       ·
        replace h14 := of_decide_eq_false h14
        have z13_le : a.f7.sz (a.f6.sz (a.f5.sz (a.f4.sz (a.f3.sz (a.f2.sz (a.f1.sz left)))))) ≤ (a.f6.sz (a.f5.sz (a.f4.sz (a.f3.sz (a.f2.sz (a.f1.sz left)))))) := SIncl.sz_le _ (by omega)
        refine T.skip ?_
        refine T.seq ?_
        refine T.region ?_
        refine TL.cons rfl (Step.move (p := (.one (.d (.int .i64 (a.f7.sz (a.f6.sz (a.f5.sz (a.f4.sz (a.f3.sz (a.f2.sz (a.f1.sz left))))))))))) rfl rfl (lt_ok rfl) rfl) ?_
        refine TL.cons rfl (Step.assign (p := (.one (.d (.int .i64 (a.f7.sz (a.f6.sz (a.f5.sz (a.f4.sz (a.f3.sz (a.f2.sz (a.f1.sz left))))))))))) rfl rfl (lt_ok rfl) rfl) ?_
        refine TL.nil ?_
        refine T.ret ?_
        exact ⟨[(false, [.d (.int .i64 (a.f7.sz (a.f6.sz (a.f5.sz (a.f4.sz (a.f3.sz (a.f2.sz (a.f1.sz left))))))))])], (.cons rfl .nil), rfl, [], (RetC.rd' (by first | rfl | (congr 1; simp only [SMsg.sz, szThen]; repeat' (split <;> try omega))) .nil)⟩
theorem ok_laws_szEvent (a : SEvent) (left : Int) (h0_ : 0 ≤ left) (h1_ : left ≤ 9223372036854775807) : RO Try.prog 21 [.agg a.cells, .one (.int .i64 left)] [(false, [.rd (.int .i64 (a.sz left))])] := by
 refine RO.intro Try.func21 rfl 12 rfl (le_ok rfl) fun w Z => ?_
 refine T.seq ?_
 refine T.region ?_
 refine TL.cons rfl (Step.box (p := (.agg [.d (.int .i64 a.f0), .d (.int .i64 a.f1), .d (.int .i64 a.f2.f0), .d (.int .i64 a.f2.f1.f0), .d (.int .i64 a.f2.f1.f1), .d (.ints .u8 a.f2.f1.f2), .d (.int .i64 a.f2.f1.f3), .d (.ints .u8 a.f2.f1.f4), .d (.int .i64 a.f2.f2.f0), .d (.int .i64 a.f2.f2.f1), .d (.ints .u8 a.f2.f2.f2), .d (.ints .u8 a.f2.f2.f3), .d (.bss a.f2.f2.f4), .d (.int .i64 a.f2.f3.f0), .d (.int .i64 a.f2.f3.f1), .d (.int .i64 a.f2.f3.f2), .d (.ints .u8 a.f2.f3.f3), .d (.ints .u8 a.f2.f3.f4), .d (.int .i64 a.f2.f3.f5.f0), .d (.int .i64 a.f2.f3.f5.f1), .d (.ints .u8 a.f2.f3.f5.f2), .d (.ints .u8 a.f2.f3.f5.f3), .d (.bss a.f2.f3.f5.f4), .d (.int .i64 a.f2.f4.f0.f0), .d (.int .i64 a.f2.f4.f0.f1), .d (.int .i64 a.f2.f4.f0.f2), .d (.ints .u8 a.f2.f4.f0.f3), .d (.ints .u8 a.f2.f4.f0.f4), .d (.int .i64 a.f2.f4.f0.f5.f0), .d (.int .i64 a.f2.f4.f0.f5.f1), .d (.ints .u8 a.f2.f4.f0.f5.f2), .d (.ints .u8 a.f2.f4.f0.f5.f3), .d (.bss a.f2.f4.f0.f5.f4), .d (.bss a.f2.f4.f1), .d (.int .i64 a.f2.f5.f0), .d (.sl 3 (a.f2.f5.f1.map SEntry.cells)), .d (.sl 10 (a.f2.f6.f0.map SHead.cells)), .d (.int .i64 a.f2.f6.f1.f0), .d (.int .i64 a.f2.f6.f1.f1), .d (.ints .u8 a.f2.f6.f1.f2), .d (.ints .u8 a.f2.f6.f1.f3), .d (.bss a.f2.f6.f1.f4), .d (.int .i64 a.f2.f7.f0), .d (.int .i64 a.f2.f7.f1), .d (.int .i64 a.f2.f7.f2), .d (.ints .u8 a.f2.f7.f3), .d (.bss a.f2.f7.f4)])) (ps := [.d (.int .i64 a.f0), .d (.int .i64 a.f1), .d (.int .i64 a.f2.f0), .d (.int .i64 a.f2.f1.f0), .d (.int .i64 a.f2.f1.f1), .d (.ints .u8 a.f2.f1.f2), .d (.int .i64 a.f2.f1.f3), .d (.ints .u8 a.f2.f1.f4), .d (.int .i64 a.f2.f2.f0), .d (.int .i64 a.f2.f2.f1), .d (.ints .u8 a.f2.f2.f2), .d (.ints .u8 a.f2.f2.f3), .d (.bss a.f2.f2.f4), .d (.int .i64 a.f2.f3.f0), .d (.int .i64 a.f2.f3.f1), .d (.int .i64 a.f2.f3.f2), .d (.ints .u8 a.f2.f3.f3), .d (.ints .u8 a.f2.f3.f4), .d (.int .i64 a.f2.f3.f5.f0), .d (.int .i64 a.f2.f3.f5.f1), .d (.ints .u8 a.f2.f3.f5.f2), .d (.ints .u8 a.f2.f3.f5.f3), .d (.bss a.f2.f3.f5.f4), .d (.int .i64 a.f2.f4.f0.f0), .d (.int .i64 a.f2.f4.f0.f1), .d (.int .i64 a.f2.f4.f0.f2), .d (.ints .u8 a.f2.f4.f0.f3), .d (.ints .u8 a.f2.f4.f0.f4), .d (.int .i64 a.f2.f4.f0.f5.f0), .d (.int .i64 a.f2.f4.f0.f5.f1), .d (.ints .u8 a.f2.f4.f0.f5.f2), .d (.ints .u8 a.f2.f4.f0.f5.f3), .d (.bss a.f2.f4.f0.f5.f4), .d (.bss a.f2.f4.f1), .d (.int .i64 a.f2.f5.f0), .d (.sl 3 (a.f2.f5.f1.map SEntry.cells)), .d (.sl 10 (a.f2.f6.f0.map SHead.cells)), .d (.int .i64 a.f2.f6.f1.f0), .d (.int .i64 a.f2.f6.f1.f1), .d (.ints .u8 a.f2.f6.f1.f2), .d (.ints .u8 a.f2.f6.f1.f3), .d (.bss a.f2.f6.f1.f4), .d (.int .i64 a.f2.f7.f0), .d (.int .i64 a.f2.f7.f1), .d (.int .i64 a.f2.f7.f2), .d (.ints .u8 a.f2.f7.f3), .d (.bss a.f2.f7.f4)]) rfl rfl (lt_ok rfl) rfl rfl rfl rfl rfl) ?_
 refine TL.cons rfl (Step.assign (p := (.one (.d (.int .i64 0)))) rfl rfl (lt_ok rfl) rfl) ?_
 refine TL.nil ?_
 refine T.seq ?_
 refine T.region ?_
 refine TL.cons rfl (Step.fieldAddr (q := 0) (off := 2) (n := 45) (one := false) rfl rfl (lt_ok rfl) (by kernel_rfl) (Nat.succ_ne_zero _) rfl) ?_
 refine TL.cons rfl (Step.load_box_agg (n := 45) (qs := [.d (.int .i64 a.f2.f0), .d (.int .i64 a.f2.f1.f0), .d (.int .i64 a.f2.f1.f1), .d (.ints .u8 a.f2.f1.f2), .d (.int .i64 a.f2.f1.f3), .d (.ints .u8 a.f2.f1.f4), .d (.int .i64 a.f2.f2.f0), .d (.int .i64 a.f2.f2.f1), .d (.ints .u8 a.f2.f2.f2), .d (.ints .u8 a.f2.f2.f3), .d (.bss a.f2.f2.f4), .d (.int .i64 a.f2.f3.f0), .d (.int .i64 a.f2.f3.f1), .d (.int .i64 a.f2.f3.f2), .d (.ints .u8 a.f2.f3.f3), .d (.ints .u8 a.f2.f3.f4), .d (.int .i64 a.f2.f3.f5.f0), .d (.int .i64 a.f2.f3.f5.f1), .d (.ints .u8 a.f2.f3.f5.f2), .d (.ints .u8 a.f2.f3.f5.f3), .d (.bss a.f2.f3.f5.f4), .d (.int .i64 a.f2.f4.f0.f0), .d (.int .i64 a.f2.f4.f0.f1), .d (.int .i64 a.f2.f4.f0.f2), .d (.ints .u8 a.f2.f4.f0.f3), .d (.ints .u8 a.f2.f4.f0.f4), .d (.int .i64 a.f2.f4.f0.f5.f0), .d (.int .i64 a.f2.f4.f0.f5.f1), .d (.ints .u8 a.f2.f4.f0.f5.f2), .d (.ints .u8 a.f2.f4.f0.f5.f3), .d (.bss a.f2.f4.f0.f5.f4), .d (.bss a.f2.f4.f1), .d (.int .i64 a.f2.f5.f0), .d (.sl 3 (a.f2.f5.f1.map SEntry.cells)), .d (.sl 10 (a.f2.f6.f0.map SHead.cells)), .d (.int .i64 a.f2.f6.f1.f0), .d (.int .i64 a.f2.f6.f1.f1), .d (.ints .u8 a.f2.f6.f1.f2), .d (.ints .u8 a.f2.f6.f1.f3), .d (.bss a.f2.f6.f1.f4), .d (.int .i64 a.f2.f7.f0), .d (.int .i64 a.f2.f7.f1), .d (.int .i64 a.f2.f7.f2), .d (.ints .u8 a.f2.f7.f3), .d (.bss a.f2.f7.f4)]) rfl rfl (lt_ok rfl) (by kernel_rfl) rfl rfl rfl rfl) ?_
 refine TL.cons rfl (Step.move (p := (.one (.d (.int .i64 left)))) rfl rfl (lt_ok rfl) rfl) ?_
 refine TL.cons rfl (Step.call (f := 17) (xs := [.tmp 6, .tmp 7]) (ps := [(.agg [.d (.int .i64 a.f2.f0), .d (.int .i64 a.f2.f1.f0), .d (.int .i64 a.f2.f1.f1), .d (.ints .u8 a.f2.f1.f2), .d (.int .i64 a.f2.f1.f3), .d (.ints .u8 a.f2.f1.f4), .d (.int .i64 a.f2.f2.f0), .d (.int .i64 a.f2.f2.f1), .d (.ints .u8 a.f2.f2.f2), .d (.ints .u8 a.f2.f2.f3), .d (.bss a.f2.f2.f4), .d (.int .i64 a.f2.f3.f0), .d (.int .i64 a.f2.f3.f1), .d (.int .i64 a.f2.f3.f2), .d (.ints .u8 a.f2.f3.f3), .d (.ints .u8 a.f2.f3.f4), .d (.int .i64 a.f2.f3.f5.f0), .d (.int .i64 a.f2.f3.f5.f1), .d (.ints .u8 a.f2.f3.f5.f2), .d (.ints .u8 a.f2.f3.f5.f3), .d (.bss a.f2.f3.f5.f4), .d (.int .i64 a.f2.f4.f0.f0), .d (.int .i64 a.f2.f4.f0.f1), .d (.int .i64 a.f2.f4.f0.f2), .d (.ints .u8 a.f2.f4.f0.f3), .d (.ints .u8 a.f2.f4.f0.f4), .d (.int .i64 a.f2.f4.f0.f5.f0), .d (.int .i64 a.f2.f4.f0.f5.f1), .d (.ints .u8 a.f2.f4.f0.f5.f2), .d (.ints .u8 a.f2.f4.f0.f5.f3), .d (.bss a.f2.f4.f0.f5.f4), .d (.bss a.f2.f4.f1), .d (.int .i64 a.f2.f5.f0), .d (.sl 3 (a.f2.f5.f1.map SEntry.cells)), .d (.sl 10 (a.f2.f6.f0.map SHead.cells)), .d (.int .i64 a.f2.f6.f1.f0), .d (.int .i64 a.f2.f6.f1.f1), .d (.ints .u8 a.f2.f6.f1.f2), .d (.ints .u8 a.f2.f6.f1.f3), .d (.bss a.f2.f6.f1.f4), .d (.int .i64 a.f2.f7.f0), .d (.int .i64 a.f2.f7.f1), .d (.int .i64 a.f2.f7.f2), .d (.ints .u8 a.f2.f7.f3), .d (.bss a.f2.f7.f4)]), (.one (.d (.int .i64 left)))]) false (g := .func 17) rfl rfl (lt_ok rfl) rfl (by kernel_rfl) rfl (.cons (.agg (.cons (.d _) (.cons (.d _) (.cons (.d _) (.cons (.d _) (.cons (.d _) (.cons (.d _) (.cons (.d _) (.cons (.d _) (.cons (.d _) (.cons (.d _) (.cons (.d _) (.cons (.d _) (.cons (.d _) (.cons (.d _) (.cons (.d _) (.cons (.d _) (.cons (.d _) (.cons (.d _) (.cons (.d _) (.cons (.d _) (.cons (.d _) (.cons (.d _) (.cons (.d _) (.cons (.d _) (.cons (.d _) (.cons (.d _) (.cons (.d _) (.cons (.d _) (.cons (.d _) (.cons (.d _) (.cons (.d _) (.cons (.d _) (.cons (.d _) (.cons (.d _) (.cons (.d _) (.cons (.d _) (.cons (.d _) (.cons (.d _) (.cons (.d _) (.cons (.d _) (.cons (.d _) (.cons (.d _) (.cons (.d _) (.cons (.d _) (.cons (.d _) .nil)))))))))))))))))))))))))))))))))))))))))))))) (.cons (.one (.d _)) .nil)) (ok_laws_szMsg a.f2 left (by omega) (by omega)) (.inr rfl) rfl (by simp) rfl) ?_
 refine TL.cons rfl (Step.assign (p := (.one (.d (.int .i64 (a.f2.sz left))))) rfl rfl (lt_ok rfl) rfl) ?_
 refine TL.nil ?_
 refine T.weaken (E' := { tm := [(1, (.one (.d (.int .i64 (a.f2.sz left))))), (4, (.one (.d (.int .i64 0))))], rows := [], boxes := [] }) (Env.le_mk ⟨by kernel_rfl, by kernel_rfl, trivial⟩ trivial trivial) ?_
 refine T.seq ?_
 refine T.seq ?_
 refine T.region ?_
 refine TL.cons rfl (Step.move (p := (.one (.d (.int .i64 (a.f2.sz left))))) rfl rfl (lt_ok rfl) rfl) ?_
 refine TL.cons rfl (Step.bin rfl rfl (lt_ok rfl) rfl rfl (Bin.lss (k := .i64) (a := (a.f2.sz left)) (b := 0))) ?_
 refine TL.nil ?_
 refine T.cond (b := decide ((a.f2.sz left) < 0)) rfl (fun h2 => ?_) (fun h2 => ?_)
 ·
  replace h2 := of_decide_eq_true h2
  refine T.seq ?_
  refine T.region ?_
  refine TL.cons rfl (Step.assign (p := (.one (.d (.int .i64 (-1))))) rfl rfl (lt_ok rfl) rfl) ?_
  refine TL.nil ?_
  refine T.ret ?_
  exact ⟨[(false, [.d (.int .i64 (-1))])], (.cons rfl .nil), rfl, [], (RetC.rd' (by first | rfl | (congr 1; simp only [SEvent.sz, szThen]; repeat' (split <;> try omega))) .nil)⟩
 ·
  replace h2 := of_decide_eq_false h2
  have z1_le : a.f2.sz left ≤ left := SMsg.sz_le _ (by omega)
  refine T.skip ?_
  refine T.seq ?_
  refine T.region ?_
  refine TL.cons rfl (Step.move (p := (.one (.d (.int .i64 (a.f2.sz left))))) rfl rfl (lt_ok rfl) rfl) ?_
  refine TL.cons rfl (Step.assign (p := (.one (.d (.int .i64 (a.f2.sz left))))) rfl rfl (lt_ok rfl) rfl) ?_
  refine TL.nil ?_
  refine T.ret ?_
  exact ⟨[(false, [.d (.int .i64 (a.f2.sz left))])], (.cons rfl .nil), rfl, [], (RetC.rd' (by first | rfl | (congr 1; simp only [SEvent.sz, szThen]; repeat' (split <;> try omega))) .nil)⟩
theorem ok_laws_szEventS (a : List SEvent) (left : Int) (h0_ : 0 ≤ left) (h1_ : left ≤ 9223372036854775807) : RO Try.prog 26 [.one (.sl 47 (a.map SEvent.cells)), .one (.int .i64 left)] [(false, [.rd (.int .i64 (szLs SEvent.sz a left))])] := by
 refine RO.intro Try.func26 rfl 27 rfl (le_ok rfl) fun w Z => ?_
 refine T.bnd 0 0 rfl rfl fun hb_0_0 => ?_
 simp only [D.size, List.length_map] at hb_0_0
 refine T.seq ?_
 refine T.region ?_
 refine TL.cons rfl (Step.assign (p := (.one (.d (.int .i64 0)))) rfl rfl (lt_ok rfl) rfl) ?_
 refine TL.nil ?_
 refine T.seq ?_
 refine T.region ?_
 refine TL.cons rfl (Step.move (p := (.one (.d (.int .i64 left)))) rfl rfl (lt_ok rfl) rfl) ?_
 refine TL.cons rfl (Step.move (p := (.one (.d (.sl 47 (a.map SEvent.cells))))) rfl rfl (lt_ok rfl) rfl) ?_
 refine TL.cons rfl (Step.len' (e := 69) (z := 47) (d := (.sl 47 (a.map SEvent.cells))) (n := a.length) rfl rfl (lt_ok rfl) (by kernel_rfl) rfl rfl (by simp [D.size])) ?_
 refine TL.cons rfl (Step.bin (r := .int .i64 (left - (a.length : Int))) rfl rfl (lt_ok rfl) rfl rfl (Bin.sub (a := left) (b := (a.length : Int)) (by first | exact wrap_ok (by first | omega | (simp; omega)) (by first | omega | (simp; omega)) | rfl))) ?_
 refine TL.cons rfl (Step.assign (p := (.one (.d (.int .i64 (left - (a.length : Int)))))) rfl rfl (lt_ok rfl) rfl) ?_
 refine TL.nil ?_
 refine T.seq ?_
 refine T.seq ?_
 refine T.region ?_
 refine TL.cons rfl (Step.move (p := (.one (.d (.int .i64 (left - (a.length : Int)))))) rfl rfl (lt_ok rfl) rfl) ?_
 refine TL.cons rfl (Step.bin rfl rfl (lt_ok rfl) rfl rfl (Bin.lss (k := .i64) (a := (left - (a.length : Int))) (b := 0))) ?_
 refine TL.nil ?_
 refine T.cond (b := decide ((left - (a.length : Int)) < 0)) rfl (fun h1 => ?_) (fun h1 => ?_)
 ·
  replace h1 := of_decide_eq_true h1
  refine T.seq ?_
  refine T.region ?_
  refine TL.cons rfl (Step.assign (p := (.one (.d (.int .i64 (-1))))) rfl rfl (lt_ok rfl) rfl) ?_
  refine TL.nil ?_
  refine T.ret ?_
  exact ⟨[(false, [.d (.int .i64 (-1))])], (.cons rfl .nil), rfl, [], (RetC.rd' (by (congr 1; first | (rw [← hx4, szL_drop (dflt := default) a i l (by omega), if_pos (by omega)]; done) | (rw [← hx4, List.drop_of_length_le (by omega)]; rfl) | (unfold szLs; rw [if_pos (by omega)]; done))) .nil)⟩
 ·
  replace h1 := of_decide_eq_false h1
  refine T.skip ?_
  refine T.seq ?_
  refine T.seq ?_
  refine T.region ?_
  refine TL.cons rfl (Step.assign (p := (.one (.d (.int .i64 0)))) rfl rfl (lt_ok rfl) rfl) ?_
  refine TL.nil ?_
  refine T.block ?_
  refine T.loop (ι := Nat × Int) (fun x => { tm := [(0, (.one (.d (.sl 47 (a.map SEvent.cells))))), (5, (.one (.d (.int .i64 ((x.1) : Int))))), (1, (.one (.d (.int .i64 (x.2)))))], rows := [], boxes := [] }) (fun x => (x.1) ≤ a.length ∧ 0 ≤ (x.2) ∧ (x.2) ≤ 9223372036854775807 ∧ szL SEvent.sz (a.drop (x.1)) (x.2) = szLs SEvent.sz a left) (fun x => a.length - (x.1)) (0, left - (a.length : Int)) ?_ ?_ ?_
  · exact Env.le_mk ⟨rfl, by first | rfl | (simp; done) | (congr 3; omega), by first | rfl | (simp; done) | (congr 3; omega), trivial⟩ trivial trivial
  · (refine ⟨Nat.zero_le _, by omega, by omega, ?_⟩; unfold szLs; rw [if_neg (by omega), List.drop_zero])
  ·
   intro x hx
   obtain ⟨i, l⟩ := x
   try dsimp only at hx ⊢
   obtain ⟨hx1, hx2, hx3, hx4⟩ := hx
   refine T.seq ?_
   refine T.seq ?_
   refine T.region ?_
   refine TL.cons rfl (Step.move (p := (.one (.d (.int .i64 (i : Int))))) rfl rfl (lt_ok rfl) rfl) ?_
   refine TL.cons rfl (Step.move (p := (.one (.d (.sl 47 (a.map SEvent.cells))))) rfl rfl (lt_ok rfl) rfl) ?_
   refine TL.cons rfl (Step.len' (e := 69) (z := 47) (d := (.sl 47 (a.map SEvent.cells))) (n := a.length) rfl rfl (lt_ok rfl) (by kernel_rfl) rfl rfl (by simp [D.size])) ?_
   refine TL.cons rfl (Step.bin rfl rfl (lt_ok rfl) rfl rfl (Bin.lss (k := .i64) (a := (i : Int)) (b := (a.length : Int)))) ?_
   refine TL.nil ?_
   refine T.cond (b := decide ((i : Int) < (a.length : Int))) rfl (fun h2 => ?_) (fun h2 => ?_)
   ·
    replace h2 := of_decide_eq_true h2
    refine T.skip ?_
    refine T.seq ?_
    refine T.block ?_
    refine T.seq ?_
    refine T.region ?_
    refine TL.cons rfl (Step.move (p := (.one (.d (.sl 47 (a.map SEvent.cells))))) rfl rfl (lt_ok rfl) rfl) ?_
    refine TL.cons rfl (Step.move (p := (.one (.d (.int .i64 (i : Int))))) rfl rfl (lt_ok rfl) rfl) ?_
    refine TL.cons rfl (Step.index (e := 69) (z := 47) (i := (i : Int)) rfl rfl (lt_ok rfl) (by kernel_rfl) rfl rfl rfl (lt_ok rfl) rfl (by first | omega | (simp; omega)) (by simp only [D.size]; first | omega | (simp; omega))) ?_
    refine TL.cons rfl (Step.load_agg (n := 47) (cs := [.d (.int .i64 (a.getD i default).f0), .d (.int .i64 (a.getD i default).f1), .d (.int .i64 (a.getD i default).f2.f0), .d (.int .i64 (a.getD i default).f2.f1.f0), .d (.int .i64 (a.getD i default).f2.f1.f1), .d (.ints .u8 (a.getD i default).f2.f1.f2), .d (.int .i64 (a.getD i default).f2.f1.f3), .d (.ints .u8 (a.getD i default).f2.f1.f4), .d (.int .i64 (a.getD i default).f2.f2.f0), .d (.int .i64 (a.getD i default).f2.f2.f1), .d (.ints .u8 (a.getD i default).f2.f2.f2), .d (.ints .u8 (a.getD i default).f2.f2.f3), .d (.bss (a.getD i default).f2.f2.f4), .d (.int .i64 (a.getD i default).f2.f3.f0), .d (.int .i64 (a.getD i default).f2.f3.f1), .d (.int .i64 (a.getD i default).f2.f3.f2), .d (.ints .u8 (a.getD i default).f2.f3.f3), .d (.ints .u8 (a.getD i default).f2.f3.f4), .d (.int .i64 (a.getD i default).f2.f3.f5.f0), .d (.int .i64 (a.getD i default).f2.f3.f5.f1), .d (.ints .u8 (a.getD i default).f2.f3.f5.f2), .d (.ints .u8 (a.getD i default).f2.f3.f5.f3), .d (.bss (a.getD i default).f2.f3.f5.f4), .d (.int .i64 (a.getD i default).f2.f4.f0.f0), .d (.int .i64 (a.getD i default).f2.f4.f0.f1), .d (.int .i64 (a.getD i default).f2.f4.f0.f2), .d (.ints .u8 (a.getD i default).f2.f4.f0.f3), .d (.ints .u8 (a.getD i default).f2.f4.f0.f4), .d (.int .i64 (a.getD i default).f2.f4.f0.f5.f0), .d (.int .i64 (a.getD i default).f2.f4.f0.f5.f1), .d (.ints .u8 (a.getD i default).f2.f4.f0.f5.f2), .d (.ints .u8 (a.getD i default).f2.f4.f0.f5.f3), .d (.bss (a.getD i default).f2.f4.f0.f5.f4), .d (.bss (a.getD i default).f2.f4.f1), .d (.int .i64 (a.getD i default).f2.f5.f0), .d (.sl 3 ((a.getD i default).f2.f5.f1.map SEntry.cells)), .d (.sl 10 ((a.getD i default).f2.f6.f0.map SHead.cells)), .d (.int .i64 (a.getD i default).f2.f6.f1.f0), .d (.int .i64 (a.getD i default).f2.f6.f1.f1), .d (.ints .u8 (a.getD i default).f2.f6.f1.f2), .d (.ints .u8 (a.getD i default).f2.f6.f1.f3), .d (.bss (a.getD i default).f2.f6.f1.f4), .d (.int .i64 (a.getD i default).f2.f7.f0), .d (.int .i64 (a.getD i default).f2.f7.f1), .d (.int .i64 (a.getD i default).f2.f7.f2), .d (.ints .u8 (a.getD i default).f2.f7.f3), .d (.bss (a.getD i default).f2.f7.f4)]) rfl rfl (lt_ok rfl) (by kernel_rfl) rfl rfl (by simp only [List.range, List.range.loop, List.map_cons, List.map_nil]; rw [cell_map default (by first | omega | (simp; omega)), cell_map default (by first | omega | (simp; omega)), cell_map default (by first | omega | (simp; omega)), cell_map default (by first | omega | (simp; omega)), cell_map default (by first | omega | (simp; omega)), cell_map default (by first | omega | (simp; omega)), cell_map default (by first | omega | (simp; omega)), cell_map default (by first | omega | (simp; omega)), cell_map default (by first | omega | (simp; omega)), cell_map default (by first | omega | (simp; omega)), cell_map default (by first | omega | (simp; omega)), cell_map default (by first | omega | (simp; omega)), cell_map default (by first | omega | (simp; omega)), cell_map default (by first | omega | (simp; omega)), cell_map default (by first | omega | (simp; omega)), cell_map default (by first | omega | (simp; omega)), cell_map default (by first | omega | (simp; omega)), cell_map default (by first | omega | (simp; omega)), cell_map default (by first | omega | (simp; omega)), cell_map default (by first | omega | (simp; omega)), cell_map default (by first | omega | (simp; omega)), cell_map default (by first | omega | (simp; omega)), cell_map default (by first | omega | (simp; omega)), cell_map default (by first | omega | (simp; omega)), cell_map default (by first | omega | (simp; omega)), cell_map default (by first | omega | (simp; omega)), cell_map default (by first | omega | (simp; omega)), cell_map default (by first | omega | (simp; omega)), cell_map default (by first | omega | (simp; omega)), cell_map default (by first | omega | (simp; omega)), cell_map default (by first | omega | (simp; omega)), cell_map default (by first | omega | (simp; omega)), cell_map default (by first | omega | (simp; omega)), cell_map default (by first | omega | (simp; omega)), cell_map default (by first | omega | (simp; omega)), cell_map default (by first | omega | (simp; omega)), cell_map default (by first | omega | (simp; omega)), cell_map default (by first | omega | (simp; omega)), cell_map default (by first | omega | (simp; omega)), cell_map default (by first | omega | (simp; omega)), cell_map default (by first | omega | (simp; omega)), cell_map default (by first | omega | (simp; omega)), cell_map default (by first | omega | (simp; omega)), cell_map default (by first | omega | (simp; omega)), cell_map default (by first | omega | (simp; omega)), cell_map default (by first | omega | (simp; omega)), cell_map default (by first | omega | (simp; omega))]; rfl)) ?_
    refine TL.cons rfl (Step.move (p := (.one (.d (.int .i64 l)))) rfl rfl (lt_ok rfl) rfl) ?_
    refine TL.cons rfl (Step.call (f := 21) (xs := [.tmp 21, .tmp 22]) (ps := [(.agg [.d (.int .i64 (a.getD i default).f0), .d (.int .i64 (a.getD i default).f1), .d (.int .i64 (a.getD i default).f2.f0), .d (.int .i64 (a.getD i default).f2.f1.f0), .d (.int .i64 (a.getD i default).f2.f1.f1), .d (.ints .u8 (a.getD i default).f2.f1.f2), .d (.int .i64 (a.getD i default).f2.f1.f3), .d (.ints .u8 (a.getD i default).f2.f1.f4), .d (.int .i64 (a.getD i default).f2.f2.f0), .d (.int .i64 (a.getD i default).f2.f2.f1), .d (.ints .u8 (a.getD i default).f2.f2.f2), .d (.ints .u8 (a.getD i default).f2.f2.f3), .d (.bss (a.getD i default).f2.f2.f4), .d (.int .i64 (a.getD i default).f2.f3.f0), .d (.int .i64 (a.getD i default).f2.f3.f1), .d (.int .i64 (a.getD i default).f2.f3.f2), .d (.ints .u8 (a.getD i default).f2.f3.f3), .d (.ints .u8 (a.getD i default).f2.f3.f4), .d (.int .i64 (a.getD i default).f2.f3.f5.f0), .d (.int .i64 (a.getD i default).f2.f3.f5.f1), .d (.ints .u8 (a.getD i default).f2.f3.f5.f2), .d (.ints .u8 (a.getD i default).f2.f3.f5.f3), .d (.bss (a.getD i default).f2.f3.f5.f4), .d (.int .i64 (a.getD i default).f2.f4.f0.f0), .d (.int .i64 (a.getD i default).f2.f4.f0.f1), .d (.int .i64 (a.getD i default).f2.f4.f0.f2), .d (.ints .u8 (a.getD i default).f2.f4.f0.f3), .d (.ints .u8 (a.getD i default).f2.f4.f0.f4), .d (.int .i64 (a.getD i default).f2.f4.f0.f5.f0), .d (.int .i64 (a.getD i default).f2.f4.f0.f5.f1), .d (.ints .u8 (a.getD i default).f2.f4.f0.f5.f2), .d (.ints .u8 (a.getD i default).f2.f4.f0.f5.f3), .d (.bss (a.getD i default).f2.f4.f0.f5.f4), .d (.bss (a.getD i default).f2.f4.f1), .d (.int .i64 (a.getD i default).f2.f5.f0), .d (.sl 3 ((a.getD i default).f2.f5.f1.map SEntry.cells)), .d (.sl 10 ((a.getD i default).f2.f6.f0.map SHead.cells)), .d (.int .i64 (a.getD i default).f2.f6.f1.f0), .d (.int .i64 (a.getD i default).f2.f6.f1.f1), .d (.ints .u8 (a.getD i default).f2.f6.f1.f2), .d (.ints .u8 (a.getD i default).f2.f6.f1.f3), .d (.bss (a.getD i default).f2.f6.f1.f4), .d (.int .i64 (a.getD i default).f2.f7.f0), .d (.int .i64 (a.getD i default).f2.f7.f1), .d (.int .i64 (a.getD i default).f2.f7.f2), .d (.ints .u8 (a.getD i default).f2.f7.f3), .d (.bss (a.getD i default).f2.f7.f4)]), (.one (.d (.int .i64 l)))]) false (g := .func 21) rfl rfl (lt_ok rfl) rfl (by kernel_rfl) rfl (.cons (.agg (.cons (.d _) (.cons (.d _) (.cons (.d _) (.cons (.d _) (.cons (.d _) (.cons (.d _) (.cons (.d _) (.cons (.d _) (.cons (.d _) (.cons (.d _) (.cons (.d _) (.cons (.d _) (.cons (.d _) (.cons (.d _) (.cons (.d _) (.cons (.d _) (.cons (.d _) (.cons (.d _) (.cons (.d _) (.cons (.d _) (.cons (.d _) (.cons (.d _) (.cons (.d _) (.cons (.d _) (.cons (.d _) (.cons (.d _) (.cons (.d _) (.cons (.d _) (.cons (.d _) (.cons (.d _) (.cons (.d _) (.cons (.d _) (.cons (.d _) (.cons (.d _) (.cons (.d _) (.cons (.d _) (.cons (.d _) (.cons (.d _) (.cons (.d _) (.cons (.d _) (.cons (.d _) (.cons (.d _) (.cons (.d _) (.cons (.d _) (.cons (.d _) (.cons (.d _) (.cons (.d _) .nil)))))))))))))))))))))))))))))))))))))))))))))))) (.cons (.one (.d _)) .nil)) (ok_laws_szEvent (a.getD i default) l (by omega) (by omega)) (.inr rfl) rfl (by simp) rfl) ?_
    refine TL.cons rfl (Step.assign (p := (.one (.d (.int .i64 ((a.getD i default).sz l))))) rfl rfl (lt_ok rfl) rfl) ?_
    refine TL.nil ?_
    refine T.seq ?_
    refine T.region ?_
    refine TL.cons rfl (Step.move (p := (.one (.d (.int .i64 ((a.getD i default).sz l))))) rfl rfl (lt_ok rfl) rfl) ?_
    refine TL.cons rfl (Step.bin rfl rfl (lt_ok rfl) rfl rfl (Bin.lss (k := .i64) (a := ((a.getD i default).sz l)) (b := 0))) ?_
    refine TL.nil ?_
    refine T.cond (b := decide (((a.getD i default).sz l) < 0)) rfl (fun h4 => ?_) (fun h4 => ?_)
    ·
     replace h4 := of_decide_eq_true h4
     refine T.seq ?_
     refine T.region ?_
     refine TL.cons rfl (Step.assign (p := (.one (.d (.int .i64 (-1))))) rfl rfl (lt_ok rfl) rfl) ?_
     refine TL.nil ?_
     refine T.ret ?_
     exact ⟨[(false, [.d (.int .i64 (-1))])], (.cons rfl .nil), rfl, [], (RetC.rd' (by (congr 1; first | (rw [← hx4, szL_drop (dflt := default) a i l (by omega), if_pos (by omega)]; done) | (rw [← hx4, List.drop_of_length_le (by omega)]; rfl) | (unfold szLs; rw [if_pos (by omega)]; done))) .nil)⟩
    ·
     replace h4 := of_decide_eq_false h4
     have z3_le : (a.getD i default).sz l ≤ l := SEvent.sz_le _ (by omega)
     refine T.skip ?_
     refine T.region ?_
     refine TL.cons rfl (Step.move (p := (.one (.d (.int .i64 (i : Int))))) rfl rfl (lt_ok rfl) rfl) ?_
     refine TL.cons rfl (Step.bin (r := .int .i64 ((i : Int) + 1)) rfl rfl (lt_ok rfl) rfl rfl (Bin.add (a := (i : Int)) (b := 1) (by first | exact wrap_ok (by first | omega | (simp; omega)) (by first | omega | (simp; omega)) | rfl))) ?_
     refine TL.cons rfl (Step.assign (p := (.one (.d (.int .i64 ((i : Int) + 1))))) rfl rfl (lt_ok rfl) rfl) ?_
     refine TL.nil ?_
     exact ⟨(i + 1, (SEvent.sz (a.getD i default) l)), by (refine ⟨by omega, by omega, by omega, ?_⟩; rw [← hx4, szL_drop (dflt := default) a i l (by omega), if_neg (by omega)]), by (dsimp only; omega), Env.le_mk ⟨rfl, by first | rfl | (simp; done) | (congr 3; omega), by first | rfl | (simp; done) | (congr 3; omega), trivial⟩ trivial trivial⟩
   ·
    replace h2 := of_decide_eq_false h2
    refine T.exit ?_
    refine T.seq ?_
    refine T.region ?_
    refine TL.cons rfl (Step.move (p := (.one (.d (.int .i64 l)))) rfl rfl (lt_ok rfl) rfl) ?_
    refine TL.cons rfl (Step.assign (p := (.one (.d (.int .i64 l)))) rfl rfl (lt_ok rfl) rfl) ?_
    refine TL.nil ?_
    refine T.ret ?_
    exact ⟨[(false, [.d (.int .i64 l)])], (.cons rfl .nil), rfl, [], (RetC.rd' (by (congr 1; first | (rw [← hx4, szL_drop (dflt := default) a i l (by omega), if_pos (by omega)]; done) | (rw [← hx4, List.drop_of_length_le (by omega)]; rfl) | (unfold szLs; rw [if_pos (by omega)]; done))) .nil)⟩
theorem ok_spec_SameBytes (a : List Int) (b : List Int) (h0_ : U8s a) (h1_ : U8s b) : RO Try.prog 100 [.one (.ints .u8 a), .one (.ints .u8 b)] [(false, [.rd (.bool (decide (a = b)))])] := by
 refine RO.intro Try.func100 rfl 10 rfl (le_ok rfl) fun w Z => ?_
 refine T.bnd 0 0 rfl rfl fun hb_0_0 => ?_
 simp only [D.size, List.length_map] at hb_0_0
 refine T.bnd 1 0 rfl rfl fun hb_1_0 => ?_
 simp only [D.size, List.length_map] at hb_1_0
 refine T.seq ?_
 refine T.region ?_
 refine TL.cons rfl (Step.assign (p := (.one (.d (.bool false)))) rfl rfl (lt_ok rfl) rfl) ?_
 refine TL.nil ?_
 refine T.seq ?_
 refine T.region ?_
 refine TL.cons rfl (Step.move (p := (.one (.d (.ints .u8 a)))) rfl rfl (lt_ok rfl) rfl) ?_
 refine TL.cons rfl (Step.toStr (e := 5) (xs := a) rfl rfl (lt_ok rfl) (by kernel_rfl) (by kernel_rfl) (by kernel_rfl) rfl rfl) ?_
 refine TL.cons rfl (Step.move (p := (.one (.d (.ints .u8 b)))) rfl rfl (lt_ok rfl) rfl) ?_
 refine TL.cons rfl (Step.toStr (e := 5) (xs := b) rfl rfl (lt_ok rfl) (by kernel_rfl) (by kernel_rfl) (by kernel_rfl) rfl rfl) ?_
 refine TL.cons rfl (Step.bin rfl rfl (lt_ok rfl) rfl rfl Bin.streq) ?_
 refine TL.cons rfl (Step.assign (p := (.one (.d (.bool ((strOfNums a).toList == (strOfNums b).toList))))) rfl rfl (lt_ok rfl) rfl) ?_
 refine TL.nil ?_
 refine T.ret ?_
 exact ⟨[(false, [.d (.bool ((strOfNums a).toList == (strOfNums b).toList))])], (.cons rfl .nil), rfl, [], (RetC.rd' (by exact congrArg D.bool (str_eq h0_ h1_)) .nil)⟩
theorem ok_spec_VoteSame (a : SVote) (b : SVote) (h0_ : a.ok) (h1_ : b.ok) : RO Try.prog 66 [.agg a.cells, .agg b.cells] [(false, [.rd (.bool (decide (a = b)))])] := by
 refine RO.intro Try.func66 rfl 38 rfl (le_ok rfl) fun w Z => ?_
 obtain ⟨k0_0, k0_1, k0_2, k0_3, k0_4⟩ := h0_
 obtain ⟨k1_0, k1_1, k1_2, k1_3, k1_4⟩ := h1_
 refine T.seq ?_
 refine T.region ?_
 refine TL.cons rfl (Step.box (p := (.agg [.d (.int .i64 a.f0), .d (.int .i64 a.f1), .d (.ints .u8 a.f2), .d (.int .i64 a.f3), .d (.ints .u8 a.f4)])) (ps := [.d (.int .i64 a.f0), .d (.int .i64 a.f1), .d (.ints .u8 a.f2), .d (.int .i64 a.f3), .d (.ints .u8 a.f4)]) rfl rfl (lt_ok rfl) rfl rfl rfl rfl rfl) ?_
 refine TL.cons rfl (Step.box (p := (.agg [.d (.int .i64 b.f0), .d (.int .i64 b.f1), .d (.ints .u8 b.f2), .d (.int .i64 b.f3), .d (.ints .u8 b.f4)])) (ps := [.d (.int .i64 b.f0), .d (.int .i64 b.f1), .d (.ints .u8 b.f2), .d (.int .i64 b.f3), .d (.ints .u8 b.f4)]) rfl rfl (lt_ok rfl) rfl rfl rfl rfl rfl) ?_
 refine TL.cons rfl (Step.assign (p := (.one (.d (.bool false)))) rfl rfl (lt_ok rfl) rfl) ?_
 refine TL.nil ?_
 refine T.seq ?_
 refine T.region ?_
 refine TL.cons rfl (Step.fieldAddr (q := 0) (off := 0) (n := 1) (one := true) rfl rfl (lt_ok rfl) (by kernel_rfl) (Nat.succ_ne_zero _) rfl) ?_
 refine TL.cons rfl (Step.load_box (c := .d (.int .i64 a.f0)) rfl rfl (lt_ok rfl) (by kernel_rfl) rfl rfl rfl) ?_
 refine TL.cons rfl (Step.fieldAddr (q := 0) (off := 0) (n := 1) (one := true) rfl rfl (lt_ok rfl) (by kernel_rfl) (Nat.succ_ne_zero _) rfl) ?_
 refine TL.cons rfl (Step.load_box (c := .d (.int .i64 b.f0)) rfl rfl (lt_ok rfl) (by kernel_rfl) rfl rfl rfl) ?_
 refine TL.cons rfl (Step.bin rfl rfl (lt_ok rfl) rfl rfl (Bin.eql (k := .i64) (a := a.f0) (b := b.f0))) ?_
 refine TL.cons rfl (Step.move (p := (.one (.d (.bool (decide (a.f0 = b.f0)))))) rfl rfl (lt_ok rfl) rfl) ?_
 rcases Bool.eq_false_or_eq_true (decide (a.f0 = b.f0)) with hb1 | hb1
 ·
  refine TL.known 10 hb1 rfl ?_
  refine TL.gyes 10 rfl rfl (lt_ok rfl) rfl (Step.fieldAddr (q := 0) (off := 1) (n := 1) (one := true) rfl rfl (lt_ok rfl) (by kernel_rfl) (Nat.succ_ne_zero _) rfl) ?_
  refine TL.gyes 10 rfl rfl (lt_ok rfl) rfl (Step.load_box (c := .d (.int .i64 a.f1)) rfl rfl (lt_ok rfl) (by kernel_rfl) rfl rfl rfl) ?_
  refine TL.gyes 10 rfl rfl (lt_ok rfl) rfl (Step.fieldAddr (q := 0) (off := 1) (n := 1) (one := true) rfl rfl (lt_ok rfl) (by kernel_rfl) (Nat.succ_ne_zero _) rfl) ?_
  refine TL.gyes 10 rfl rfl (lt_ok rfl) rfl (Step.load_box (c := .d (.int .i64 b.f1)) rfl rfl (lt_ok rfl) (by kernel_rfl) rfl rfl rfl) ?_
  refine TL.gyes 10 rfl rfl (lt_ok rfl) rfl (Step.bin rfl rfl (lt_ok rfl) rfl rfl (Bin.eql (k := .i64) (a := a.f1) (b := b.f1))) ?_
  refine TL.cons rfl (Step.pick (b := true) (p := (.one (.d (.bool (decide (a.f1 = b.f1)))))) rfl rfl (lt_ok rfl) rfl rfl) ?_
  refine TL.cons rfl (Step.move (p := (.one (.d (.bool (decide (a.f1 = b.f1)))))) rfl rfl (lt_ok rfl) rfl) ?_
  rcases Bool.eq_false_or_eq_true (decide (a.f1 = b.f1)) with hb2 | hb2
  ·
   refine TL.known 17 hb2 rfl ?_
   refine TL.gyes 17 rfl rfl (lt_ok rfl) rfl (Step.fieldAddr (q := 0) (off := 2) (n := 1) (one := true) rfl rfl (lt_ok rfl) (by kernel_rfl) (Nat.succ_ne_zero _) rfl) ?_
   refine TL.gyes 17 rfl rfl (lt_ok rfl) rfl (Step.load_box (c := .d (.ints .u8 a.f2)) rfl rfl (lt_ok rfl) (by kernel_rfl) rfl rfl rfl) ?_
   refine TL.gyes 17 rfl rfl (lt_ok rfl) rfl (Step.fieldAddr (q := 0) (off := 2) (n := 1) (one := true) rfl rfl (lt_ok rfl) (by kernel_rfl) (Nat.succ_ne_zero _) rfl) ?_
   refine TL.gyes 17 rfl rfl (lt_ok rfl) rfl (Step.load_box (c := .d (.ints .u8 b.f2)) rfl rfl (lt_ok rfl) (by kernel_rfl) rfl rfl rfl) ?_
   refine TL.gyes 17 rfl rfl (lt_ok rfl) rfl (Step.call (f := 100) (xs := [.tmp 19, .tmp 21]) (ps := [(.one (.d (.ints .u8 a.f2))), (.one (.d (.ints .u8 b.f2)))]) false (g := .func 100) rfl rfl (lt_ok rfl) rfl (by kernel_rfl) rfl (.cons (.one (.d _)) (.cons (.one (.d _)) .nil)) (ok_spec_SameBytes a.f2 b.f2 (by first | assumption | exact mem_getD h0_ (by omega) | exact mem_getD h1_ (by omega) | exact m0_ (by omega) | exact m1_ (by omega) | exact (m0_ (by omega)).2.2 | exact (m1_ (by omega)).2.2) (by first | assumption | exact mem_getD h0_ (by omega) | exact mem_getD h1_ (by omega) | exact m0_ (by omega) | exact m1_ (by omega) | exact (m0_ (by omega)).2.2 | exact (m1_ (by omega)).2.2)) (.inr rfl) rfl (by simp) rfl) ?_
   refine TL.cons rfl (Step.pick (b := true) (p := (.one (.d (.bool (decide (a.f2 = b.f2)))))) rfl rfl (lt_ok rfl) rfl rfl) ?_
   refine TL.cons rfl (Step.move (p := (.one (.d (.bool (decide (a.f2 = b.f2)))))) rfl rfl (lt_ok rfl) rfl) ?_
   rcases Bool.eq_false_or_eq_true (decide (a.f2 = b.f2)) with hb3 | hb3
   ·
    refine TL.known 24 hb3 rfl ?_
    refine TL.gyes 24 rfl rfl (lt_ok rfl) rfl (Step.fieldAddr (q := 0) (off := 3) (n := 1) (one := true) rfl rfl (lt_ok rfl) (by kernel_rfl) (Nat.succ_ne_zero _) rfl) ?_
    refine TL.gyes 24 rfl rfl (lt_ok rfl) rfl (Step.load_box (c := .d (.int .i64 a.f3)) rfl rfl (lt_ok rfl) (by kernel_rfl) rfl rfl rfl) ?_
    refine TL.gyes 24 rfl rfl (lt_ok rfl) rfl (Step.fieldAddr (q := 0) (off := 3) (n := 1) (one := true) rfl rfl (lt_ok rfl) (by kernel_rfl) (Nat.succ_ne_zero _) rfl) ?_
    refine TL.gyes 24 rfl rfl (lt_ok rfl) rfl (Step.load_box (c := .d (.int .i64 b.f3)) rfl rfl (lt_ok rfl) (by kernel_rfl) rfl rfl rfl) ?_
    refine TL.gyes 24 rfl rfl (lt_ok rfl) rfl (Step.bin rfl rfl (lt_ok rfl) rfl rfl (Bin.eql (k := .i64) (a := a.f3) (b := b.f3))) ?_
    refine TL.cons rfl (Step.pick (b := true) (p := (.one (.d (.bool (decide (a.f3 = b.f3)))))) rfl rfl (lt_ok rfl) rfl rfl) ?_
    refine TL.cons rfl (Step.move (p := (.one (.d (.bool (decide (a.f3 = b.f3)))))) rfl rfl (lt_ok rfl) rfl) ?_
    rcases Bool.eq_false_or_eq_true (decide (a.f3 = b.f3)) with hb4 | hb4
    ·
     refine TL.known 31 hb4 rfl ?_
     refine TL.gyes 31 rfl rfl (lt_ok rfl) rfl (Step.fieldAddr (q := 0) (off := 4) (n := 1) (one := true) rfl rfl (lt_ok rfl) (by kernel_rfl) (Nat.succ_ne_zero _) rfl) ?_
     refine TL.gyes 31 rfl rfl (lt_ok rfl) rfl (Step.load_box (c := .d (.ints .u8 a.f4)) rfl rfl (lt_ok rfl) (by kernel_rfl) rfl rfl rfl) ?_
     refine TL.gyes 31 rfl rfl (lt_ok rfl) rfl (Step.fieldAddr (q := 0) (off := 4) (n := 1) (one := true) rfl rfl (lt_ok rfl) (by kernel_rfl) (Nat.succ_ne_zero _) rfl) ?_
     refine TL.gyes 31 rfl rfl (lt_ok rfl) rfl (Step.load_box (c := .d (.ints .u8 b.f4)) rfl rfl (lt_ok rfl) (by kernel_rfl) rfl rfl rfl) ?_
     refine TL.gyes 31 rfl rfl (lt_ok rfl) rfl (Step.call (f := 100) (xs := [.tmp 33, .tmp 35]) (ps := [(.one (.d (.ints .u8 a.f4))), (.one (.d (.ints .u8 b.f4)))]) false (g := .func 100) rfl rfl (lt_ok rfl) rfl (by kernel_rfl) rfl (.cons (.one (.d _)) (.cons (.one (.d _)) .nil)) (ok_spec_SameBytes a.f4 b.f4 (by first | assumption | exact mem_getD h0_ (by omega) | exact mem_getD h1_ (by omega) | exact m0_ (by omega) | exact m1_ (by omega) | exact (m0_ (by omega)).2.2 | exact (m1_ (by omega)).2.2) (by first | assumption | exact mem_getD h0_ (by omega) | exact mem_getD h1_ (by omega) | exact m0_ (by omega) | exact m1_ (by omega) | exact (m0_ (by omega)).2.2 | exact (m1_ (by omega)).2.2)) (.inr rfl) rfl (by simp) rfl) ?_
     refine TL.cons rfl (Step.pick (b := true) (p := (.one (.d (.bool (decide (a.f4 = b.f4)))))) rfl rfl (lt_ok rfl) rfl rfl) ?_
     refine TL.cons rfl (Step.assign (p := (.one (.d (.bool (decide (a.f4 = b.f4)))))) rfl rfl (lt_ok rfl) rfl) ?_
     refine TL.nil ?_
     refine T.ret ?_
     exact ⟨[(false, [.d (.bool (decide (a.f4 = b.f4)))])], (.cons rfl .nil), rfl, [], (RetC.rd' (by (congr 1; symm; first | (apply decide_eq_false; rintro rfl; first | exact absurd rfl ‹¬ _ = _› | exact absurd rfl (of_decide_eq_false (by assumption)) | contradiction | simp_all) | (apply decide_eq_true; apply SVote.ext <;> first | assumption | exact of_decide_eq_true (by assumption) | exact Decidable.not_not.1 (by assumption) | exact take_all hx2 (by omega) hx3 | simp_all) | (apply decide_eq_decide.2; constructor; (rintro rfl; rfl); intro h_; apply SVote.ext <;> first | assumption | exact of_decide_eq_true (by assumption) | exact Decidable.not_not.1 (by assumption) | exact take_all hx2 (by omega) hx3 | simp_all))) .nil)⟩
    ·
     refine TL.known 31 hb4 rfl ?_
     refine TL.gno 31 rfl rfl (lt_ok rfl) rfl rfl rfl (lt_ok rfl) ?_
     refine TL.gno 31 rfl rfl (lt_ok rfl) rfl rfl rfl (lt_ok rfl) ?_
     refine TL.gno 31 rfl rfl (lt_ok rfl) rfl rfl rfl (lt_ok rfl) ?_
     refine TL.gno 31 rfl rfl (lt_ok rfl) rfl rfl rfl (lt_ok rfl) ?_
     refine TL.gno 31 rfl rfl (lt_ok rfl) rfl rfl rfl (lt_ok rfl) ?_
     refine TL.cons rfl (Step.pick (b := false) (p := (.one (.d (.bool false)))) rfl rfl (lt_ok rfl) rfl rfl) ?_
     refine TL.cons rfl (Step.assign (p := (.one (.d (.bool false)))) rfl rfl (lt_ok rfl) rfl) ?_
     refine TL.nil ?_
     refine T.ret ?_
     exact ⟨[(false, [.d (.bool false)])], (.cons rfl .nil), rfl, [], (RetC.rd' (by (congr 1; symm; first | (apply decide_eq_false; rintro rfl; first | exact absurd rfl ‹¬ _ = _› | exact absurd rfl (of_decide_eq_false (by assumption)) | contradiction | simp_all) | (apply decide_eq_true; apply SVote.ext <;> first | assumption | exact of_decide_eq_true (by assumption) | exact Decidable.not_not.1 (by assumption) | exact take_all hx2 (by omega) hx3 | simp_all) | (apply decide_eq_decide.2; constructor; (rintro rfl; rfl); intro h_; apply SVote.ext <;> first | assumption | exact of_decide_eq_true (by assumption) | exact Decidable.not_not.1 (by assumption) | exact take_all hx2 (by omega) hx3 | simp_all))) .nil)⟩
   ·
    refine TL.known 24 hb3 rfl ?_
    refine TL.gno 24 rfl rfl (lt_ok rfl) rfl rfl rfl (lt_ok rfl) ?_
    refine TL.gno 24 rfl rfl (lt_ok rfl) rfl rfl rfl (lt_ok rfl) ?_
    refine TL.gno 24 rfl rfl (lt_ok rfl) rfl rfl rfl (lt_ok rfl) ?_
    refine TL.gno 24 rfl rfl (lt_ok rfl) rfl rfl rfl (lt_ok rfl) ?_
    refine TL.gno 24 rfl rfl (lt_ok rfl) rfl rfl rfl (lt_ok rfl) ?_
    refine TL.cons rfl (Step.pick (b := false) (p := (.one (.d (.bool false)))) rfl rfl (lt_ok rfl) rfl rfl) ?_
    refine TL.cons rfl (Step.move (p := (.one (.d (.bool false)))) rfl rfl (lt_ok rfl) rfl) ?_
    refine TL.gno 31 rfl rfl (lt_ok rfl) rfl rfl rfl (lt_ok rfl) ?_
    refine TL.gno 31 rfl rfl (lt_ok rfl) rfl rfl rfl (lt_ok rfl) ?_
    refine TL.gno 31 rfl rfl (lt_ok rfl) rfl rfl rfl (lt_ok rfl) ?_
    refine TL.gno 31 rfl rfl (lt_ok rfl) rfl rfl rfl (lt_ok rfl) ?_
    refine TL.gno 31 rfl rfl (lt_ok rfl) rfl rfl rfl (lt_ok rfl) ?_
    refine TL.cons rfl (Step.pick (b := false) (p := (.one (.d (.bool false)))) rfl rfl (lt_ok rfl) rfl rfl) ?_
    refine TL.cons rfl (Step.assign (p := (.one (.d (.bool false)))) rfl rfl (lt_ok rfl) rfl) ?_
    refine TL.nil ?_
    refine T.ret ?_
    exact ⟨[(false, [.d (.bool false)])], (.cons rfl .nil), rfl, [], (RetC.rd' (by (congr 1; symm; first | (apply decide_eq_false; rintro rfl; first | exact absurd rfl ‹¬ _ = _› | exact absurd rfl (of_decide_eq_false (by assumption)) | contradiction | simp_all) | (apply decide_eq_true; apply SVote.ext <;> first | assumption | exact of_decide_eq_true (by assumption) | exact Decidable.not_not.1 (by assumption) | exact take_all hx2 (by omega) hx3 | simp_all) | (apply decide_eq_decide.2; constructor; (rintro rfl; rfl); intro h_; apply SVote.ext <;> first | assumption | exact of_decide_eq_true (by assumption) | exact Decidable.not_not.1 (by assumption) | exact take_all hx2 (by omega) hx3 | simp_all))) .nil)⟩
  ·
   refine TL.known 17 hb2 rfl ?_
   refine TL.gno 17 rfl rfl (lt_ok rfl) rfl rfl rfl (lt_ok rfl) ?_
   refine TL.gno 17 rfl rfl (lt_ok rfl) rfl rfl rfl (lt_ok rfl) ?_
   refine TL.gno 17 rfl rfl (lt_ok rfl) rfl rfl rfl (lt_ok rfl) ?_
   refine TL.gno 17 rfl rfl (lt_ok rfl) rfl rfl rfl (lt_ok rfl) ?_
   refine TL.gno 17 rfl rfl (lt_ok rfl) rfl rfl rfl (lt_ok rfl) ?_
   refine TL.cons rfl (Step.pick (b := false) (p := (.one (.d (.bool false)))) rfl rfl (lt_ok rfl) rfl rfl) ?_
   refine TL.cons rfl (Step.move (p := (.one (.d (.bool false)))) rfl rfl (lt_ok rfl) rfl) ?_
   refine TL.gno 24 rfl rfl (lt_ok rfl) rfl rfl rfl (lt_ok rfl) ?_
   refine TL.gno 24 rfl rfl (lt_ok rfl) rfl rfl rfl (lt_ok rfl) ?_
   refine TL.gno 24 rfl rfl (lt_ok rfl) rfl rfl rfl (lt_ok rfl) ?_
   refine TL.gno 24 rfl rfl (lt_ok rfl) rfl rfl rfl (lt_ok rfl) ?_
   refine TL.gno 24 rfl rfl (lt_ok rfl) rfl rfl rfl (lt_ok rfl) ?_
   refine TL.cons rfl (Step.pick (b := false) (p := (.one (.d (.bool false)))) rfl rfl (lt_ok rfl) rfl rfl) ?_
   refine TL.cons rfl (Step.move (p := (.one (.d (.bool false)))) rfl rfl (lt_ok rfl) rfl) ?_
   refine TL.gno 31 rfl rfl (lt_ok rfl) rfl rfl rfl (lt_ok rfl) ?_
   refine TL.gno 31 rfl rfl (lt_ok rfl) rfl rfl rfl (lt_ok rfl) ?_
   refine TL.gno 31 rfl rfl (lt_ok rfl) rfl rfl rfl (lt_ok rfl) ?_
   refine TL.gno 31 rfl rfl (lt_ok rfl) rfl rfl rfl (lt_ok rfl) ?_
   refine TL.gno 31 rfl rfl (lt_ok rfl) rfl rfl rfl (lt_ok rfl) ?_
   refine TL.cons rfl (Step.pick (b := false) (p := (.one (.d (.bool false)))) rfl rfl (lt_ok rfl) rfl rfl) ?_
   refine TL.cons rfl (Step.assign (p := (.one (.d (.bool false)))) rfl rfl (lt_ok rfl) rfl) ?_
   refine TL.nil ?_
   refine T.ret ?_
   exact ⟨[(false, [.d (.bool false)])], (.cons rfl .nil), rfl, [], (RetC.rd' (by (congr 1; symm; first | (apply decide_eq_false; rintro rfl; first | exact absurd rfl ‹¬ _ = _› | exact absurd rfl (of_decide_eq_false (by assumption)) | contradiction | simp_all) | (apply decide_eq_true; apply SVote.ext <;> first | assumption | exact of_decide_eq_true (by assumption) | exact Decidable.not_not.1 (by assumption) | exact take_all hx2 (by omega) hx3 | simp_all) | (apply decide_eq_decide.2; constructor; (rintro rfl; rfl); intro h_; apply SVote.ext <;> first | assumption | exact of_decide_eq_true (by assumption) | exact Decidable.not_not.1 (by assumption) | exact take_all hx2 (by omega) hx3 | simp_all))) .nil)⟩
 ·
  refine TL.known 10 hb1 rfl ?_
  refine TL.gno 10 rfl rfl (lt_ok rfl) rfl rfl rfl (lt_ok rfl) ?_
  refine TL.gno 10 rfl rfl (lt_ok rfl) rfl rfl rfl (lt_ok rfl) ?_
  refine TL.gno 10 rfl rfl (lt_ok rfl) rfl rfl rfl (lt_ok rfl) ?_
  refine TL.gno 10 rfl rfl (lt_ok rfl) rfl rfl rfl (lt_ok rfl) ?_
  refine TL.gno 10 rfl rfl (lt_ok rfl) rfl rfl rfl (lt_ok rfl) ?_
  refine TL.cons rfl (Step.pick (b := false) (p := (.one (.d (.bool false)))) rfl rfl (lt_ok rfl) rfl rfl) ?_
  refine TL.cons rfl (Step.move (p := (.one (.d (.bool false)))) rfl rfl (lt_ok rfl) rfl) ?_
  refine TL.gno 17 rfl rfl (lt_ok rfl) rfl rfl rfl (lt_ok rfl) ?_
  refine TL.gno 17 rfl rfl (lt_ok rfl) rfl rfl rfl (lt_ok rfl) ?_
  refine TL.gno 17 rfl rfl (lt_ok rfl) rfl rfl rfl (lt_ok rfl) ?_
  refine TL.gno 17 rfl rfl (lt_ok rfl) rfl rfl rfl (lt_ok rfl) ?_
  refine TL.gno 17 rfl rfl (lt_ok rfl) rfl rfl rfl (lt_ok rfl) ?_
  refine TL.cons rfl (Step.pick (b := false) (p := (.one (.d (.bool false)))) rfl rfl (lt_ok rfl) rfl rfl) ?_
  refine TL.cons rfl (Step.move (p := (.one (.d (.bool false)))) rfl rfl (lt_ok rfl) rfl) ?_
  refine TL.gno 24 rfl rfl (lt_ok rfl) rfl rfl rfl (lt_ok rfl) ?_
  refine TL.gno 24 rfl rfl (lt_ok rfl) rfl rfl rfl (lt_ok rfl) ?_
  refine TL.gno 24 rfl rfl (lt_ok rfl) rfl rfl rfl (lt_ok rfl) ?_
  refine TL.gno 24 rfl rfl (lt_ok rfl) rfl rfl rfl (lt_ok rfl) ?_
  refine TL.gno 24 rfl rfl (lt_ok rfl) rfl rfl rfl (lt_ok rfl) ?_
  refine TL.cons rfl (Step.pick (b := false) (p := (.one (.d (.bool false)))) rfl rfl (lt_ok rfl) rfl rfl) ?_
  refine TL.cons rfl (Step.move (p := (.one (.d (.bool false)))) rfl rfl (lt_ok rfl) rfl) ?_
  refine TL.gno 31 rfl rfl (lt_ok rfl) rfl rfl rfl (lt_ok rfl) ?_
  refine TL.gno 31 rfl rfl (lt_ok rfl) rfl rfl rfl (lt_ok rfl) ?_
  refine TL.gno 31 rfl rfl (lt_ok rfl) rfl rfl rfl (lt_ok rfl) ?_
  refine TL.gno 31 rfl rfl (lt_ok rfl) rfl rfl rfl (lt_ok rfl) ?_
  refine TL.gno 31 rfl rfl (lt_ok rfl) rfl rfl rfl (lt_ok rfl) ?_
  refine TL.cons rfl (Step.pick (b := false) (p := (.one (.d (.bool false)))) rfl rfl (lt_ok rfl) rfl rfl) ?_
  refine TL.cons rfl (Step.assign (p := (.one (.d (.bool false)))) rfl rfl (lt_ok rfl) rfl) ?_
  refine TL.nil ?_
  refine T.ret ?_
  exact ⟨[(false, [.d (.bool false)])], (.cons rfl .nil), rfl, [], (RetC.rd' (by (congr 1; symm; first | (apply decide_eq_false; rintro rfl; first | exact absurd rfl ‹¬ _ = _› | exact absurd rfl (of_decide_eq_false (by assumption)) | contradiction | simp_all) | (apply decide_eq_true; apply SVote.ext <;> first | assumption | exact of_decide_eq_true (by assumption) | exact Decidable.not_not.1 (by assumption) | exact take_all hx2 (by omega) hx3 | simp_all) | (apply decide_eq_decide.2; constructor; (rintro rfl; rfl); intro h_; apply SVote.ext <;> first | assumption | exact of_decide_eq_true (by assumption) | exact Decidable.not_not.1 (by assumption) | exact take_all hx2 (by omega) hx3 | simp_all))) .nil)⟩
theorem ok_spec_TreeSame (a : List (List Int)) (b : List (List Int)) (h0_ : ∀ y ∈ a, U8s y) (h1_ : ∀ y ∈ b, U8s y) : RO Try.prog 101 [.one (.bss a), .one (.bss b)] [(false, [.rd (.bool (decide (a = b)))])] := by
 refine RO.intro Try.func101 rfl 27 rfl (le_ok rfl) fun w Z => ?_
 refine T.bnd 0 0 rfl rfl fun hb_0_0 => ?_
 simp only [D.size, List.length_map] at hb_0_0
 refine T.bnd 1 0 rfl rfl fun hb_1_0 => ?_
 simp only [D.size, List.length_map] at hb_1_0
 refine T.seq ?_
 refine T.region ?_
 refine TL.cons rfl (Step.assign (p := (.one (.d (.bool false)))) rfl rfl (lt_ok rfl) rfl) ?_
 refine TL.nil ?_
 refine T.seq ?_
 refine T.seq ?_
 refine T.region ?_
 refine TL.cons rfl (Step.move (p := (.one (.d (.bss a)))) rfl rfl (lt_ok rfl) rfl) ?_
 refine TL.cons rfl (Step.len (e := 22) (z := 1) (d := (.bss a)) rfl rfl (lt_ok rfl) (by kernel_rfl) rfl rfl) ?_
 refine TL.cons rfl (Step.move (p := (.one (.d (.bss b)))) rfl rfl (lt_ok rfl) rfl) ?_
 refine TL.cons rfl (Step.len (e := 22) (z := 1) (d := (.bss b)) rfl rfl (lt_ok rfl) (by kernel_rfl) rfl rfl) ?_
 refine TL.cons rfl (Step.bin rfl rfl (lt_ok rfl) rfl rfl (Bin.neq (k := .i64) (a := (a.length : Int)) (b := (b.length : Int)))) ?_
 refine TL.nil ?_
 refine T.cond (b := decide ((a.length : Int) ≠ (b.length : Int))) rfl (fun h1 => ?_) (fun h1 => ?_)
 ·
  replace h1 := of_decide_eq_true h1
  refine T.seq ?_
  refine T.region ?_
  refine TL.cons rfl (Step.assign (p := (.one (.d (.bool false)))) rfl rfl (lt_ok rfl) rfl) ?_
  refine TL.nil ?_
  refine T.ret ?_
  exact ⟨[(false, [.d (.bool false)])], (.cons rfl .nil), rfl, [], (RetC.rd' (by (congr 1; symm; first | (apply decide_eq_false; rintro rfl; first | exact absurd rfl ‹¬ _ = _› | exact absurd rfl (of_decide_eq_false (by assumption)) | contradiction | simp_all) | (apply decide_eq_true; exact take_all hx2 (by omega) hx3))) .nil)⟩
 ·
  replace h1 := of_decide_eq_false h1
  refine T.skip ?_
  refine T.seq ?_
  refine T.seq ?_
  refine T.region ?_
  refine TL.cons rfl (Step.move (p := (.one (.d (.bss a)))) rfl rfl (lt_ok rfl) rfl) ?_
  refine TL.cons rfl (Step.len (e := 22) (z := 1) (d := (.bss a)) rfl rfl (lt_ok rfl) (by kernel_rfl) rfl rfl) ?_
  refine TL.cons rfl (Step.move (p := (.one (.d (.int .i64 0)))) rfl rfl (lt_ok rfl) rfl) ?_
  refine TL.nil ?_
  refine T.block ?_
  refine T.loop (ι := Nat) (fun x => { tm := [(0, (.one (.d (.bss a)))), (1, (.one (.d (.bss b)))), (12, (.one (.d (.int .i64 (a.length : Int))))), (13, (.one (.d (.int .i64 (x : Int)))))], rows := [], boxes := [] }) (fun x => x ≤ a.length ∧ a.length = b.length ∧ a.take x = b.take x) (fun x => a.length - x) 0 ?_ ?_ ?_
  · exact Env.le_mk ⟨rfl, rfl, rfl, by first | rfl | (simp; done) | (congr 3; omega), trivial⟩ trivial trivial
  · (refine ⟨Nat.zero_le _, by omega, by simp⟩)
  ·
   intro i hx
   try dsimp only at hx ⊢
   obtain ⟨hx1, hx2, hx3⟩ := hx
   refine T.seq ?_
   refine T.region ?_
   refine TL.cons rfl (Step.bin rfl rfl (lt_ok rfl) rfl rfl (Bin.lss (k := .i64) (a := (i : Int)) (b := (a.length : Int)))) ?_
   refine TL.nil ?_
   refine T.seq ?_
   refine T.cond (b := decide ((i : Int) < (a.length : Int))) rfl (fun h2 => ?_) (fun h2 => ?_)
   ·
    replace h2 := of_decide_eq_true h2
    refine T.skip ?_
    refine T.seq ?_
    refine T.block ?_
    refine T.seq ?_
    refine T.region ?_
    refine TL.cons rfl (Step.move (p := (.one (.d (.int .i64 (i : Int))))) rfl rfl (lt_ok rfl) rfl) ?_
    refine TL.cons rfl (Step.assign (p := (.one (.d (.int .i64 (i : Int))))) rfl rfl (lt_ok rfl) rfl) ?_
    refine TL.nil ?_
    refine T.seq ?_
    refine T.draw [⟨16, (.one (.d (.bss a))), []⟩, ⟨17, (.one (.d (.int .i64 (i : Int)))), []⟩, ⟨18, (.one (.eptr (.bss a) i 0)), []⟩, ⟨19, (.one (.d (.ints .u8 (a.getD i [])))), []⟩, ⟨20, (.one (.d (.bss b))), []⟩, ⟨21, (.one (.d (.int .i64 (i : Int)))), []⟩, ⟨22, (.one (.eptr (.bss b) i 0)), []⟩, ⟨23, (.one (.d (.ints .u8 (b.getD i [])))), []⟩, ⟨24, (.one (.d (.bool (decide ((a.getD i []) = (b.getD i [])))))), []⟩, ⟨25, (.one (.d (.bool (!(decide ((a.getD i []) = (b.getD i []))))))), []⟩] (by kernel_rfl) (by kernel_rfl) ?_ ?_
    ·
     refine .cons (fun E h => by have g0 := h.get 0 (by decide); exact OpStep.plain rfl (Step.move (p := (.one (.d (.bss a)))) (t := 16) rfl rfl (by exact lt_ok rfl) (show Env.ev E (.tmp 0) = _ from g0.trans rfl))) ?_
     refine .cons (fun E h => by have g5 := h.get 5 (by decide); exact OpStep.plain rfl (Step.move (p := (.one (.d (.int .i64 (i : Int))))) (t := 17) rfl rfl (by exact lt_ok rfl) (show Env.ev E (.tmp 5) = _ from g5.trans rfl))) ?_
     refine .cons (fun E h => by have g16 := h.get 16 (by decide); have g17 := h.get 17 (by decide); exact OpStep.plain rfl (Step.index (e := 22) (z := 1) (i := (i : Int)) (t := 18) rfl rfl (by exact lt_ok rfl) (by kernel_rfl) (show Env.ev E (.tmp 16) = _ from g16.trans rfl) rfl rfl (lt_ok rfl) (show Env.ev E (.tmp 17) = _ from g17.trans rfl) (by first | omega | (simp; omega)) (by simp only [D.size]; first | omega | (simp; omega)))) ?_
     refine .cons (fun E h => by have g18 := h.get 18 (by decide); exact OpStep.plain rfl (Step.load (e := (.ints .u8 (a.getD i []))) (t := 19) rfl rfl (by exact lt_ok rfl) (by kernel_rfl) (show Env.ev E (.tmp 18) = _ from g18.trans rfl) rfl)) ?_
     refine .cons (fun E h => by have g1 := h.get 1 (by decide); exact OpStep.plain rfl (Step.move (p := (.one (.d (.bss b)))) (t := 20) rfl rfl (by exact lt_ok rfl) (show Env.ev E (.tmp 1) = _ from g1.trans rfl))) ?_
     refine .cons (fun E h => by have g5 := h.get 5 (by decide); exact OpStep.plain rfl (Step.move (p := (.one (.d (.int .i64 (i : Int))))) (t := 21) rfl rfl (by exact lt_ok rfl) (show Env.ev E (.tmp 5) = _ from g5.trans rfl))) ?_
     refine .cons (fun E h => by have g20 := h.get 20 (by decide); have g21 := h.get 21 (by decide); exact OpStep.plain rfl (Step.index (e := 22) (z := 1) (i := (i : Int)) (t := 22) rfl rfl (by exact lt_ok rfl) (by kernel_rfl) (show Env.ev E (.tmp 20) = _ from g20.trans rfl) rfl rfl (lt_ok rfl) (show Env.ev E (.tmp 21) = _ from g21.trans rfl) (by first | omega | (simp; omega)) (by simp only [D.size]; first | omega | (simp; omega)))) ?_
     refine .cons (fun E h => by have g22 := h.get 22 (by decide); exact OpStep.plain rfl (Step.load (e := (.ints .u8 (b.getD i []))) (t := 23) rfl rfl (by exact lt_ok rfl) (by kernel_rfl) (show Env.ev E (.tmp 22) = _ from g22.trans rfl) rfl)) ?_
     refine .cons (fun E h => by have g19 := h.get 19 (by decide); have g23 := h.get 23 (by decide); exact OpStep.plain rfl (Step.call (f := 100) (xs := [.tmp 19, .tmp 23]) (ps := [(.one (.d (.ints .u8 (a.getD i [])))), (.one (.d (.ints .u8 (b.getD i []))))]) false (g := .func 100) (t := 24) rfl rfl (by exact lt_ok rfl) rfl (by kernel_rfl) (evs_cons (show Env.ev E (.tmp 19) = _ from g19.trans rfl) (evs_cons (show Env.ev E (.tmp 23) = _ from g23.trans rfl) (rfl))) (.cons (.one (.d _)) (.cons (.one (.d _)) .nil)) (ok_spec_SameBytes (a.getD i []) (b.getD i []) (by first | assumption | exact mem_getD h0_ (by omega) | exact mem_getD h1_ (by omega) | exact m0_ (by omega) | exact m1_ (by omega) | exact (m0_ (by omega)).2.2 | exact (m1_ (by omega)).2.2) (by first | assumption | exact mem_getD h0_ (by omega) | exact mem_getD h1_ (by omega) | exact m0_ (by omega) | exact m1_ (by omega) | exact (m0_ (by omega)).2.2 | exact (m1_ (by omega)).2.2)) (.inr rfl) (At.freshRows h rfl) (by simp) rfl)) ?_
     refine .cons (fun E h => by have g24 := h.get 24 (by decide); exact OpStep.plain rfl (Step.not (b := (decide ((a.getD i []) = (b.getD i [])))) (t := 25) rfl rfl (by exact lt_ok rfl) (show Env.ev E (.tmp 24) = _ from g24.trans rfl))) ?_
     exact .nil _ _
    refine TL.nil ?_
    refine T.cond (b := !(decide ((a.getD i []) = (b.getD i [])))) rfl (fun h3 => ?_) (fun h3 => ?_)
    ·
     replace h3 : (decide ((a.getD i []) = (b.getD i []))) = false := by simpa only [Bool.not_eq_true', Bool.not_eq_false'] using h3
     replace h3 := of_decide_eq_false h3
     refine T.seq ?_
     refine T.region ?_
     refine TL.cons rfl (Step.assign (p := (.one (.d (.bool false)))) rfl rfl (lt_ok rfl) rfl) ?_
     refine TL.nil ?_
     refine T.ret ?_
     exact ⟨[(false, [.d (.bool false)])], (.cons rfl .nil), rfl, [], (RetC.rd' (by (congr 1; symm; first | (apply decide_eq_false; rintro rfl; first | exact absurd rfl ‹¬ _ = _› | exact absurd rfl (of_decide_eq_false (by assumption)) | contradiction | simp_all) | (apply decide_eq_true; exact take_all hx2 (by omega) hx3))) .nil)⟩
    ·
     replace h3 : (decide ((a.getD i []) = (b.getD i []))) = true := by simpa only [Bool.not_eq_true', Bool.not_eq_false'] using h3
     replace h3 := of_decide_eq_true h3
     refine T.skip ?_
     refine T.region ?_
     refine TL.cons rfl (Step.bin (r := .int .i64 ((i : Int) + 1)) rfl rfl (lt_ok rfl) rfl rfl (Bin.add (a := (i : Int)) (b := 1) (by first | exact wrap_ok (by first | omega | (simp; omega)) (by first | omega | (simp; omega)) | rfl))) ?_
     refine TL.cons rfl (Step.move (p := (.one (.d (.int .i64 ((i : Int) + 1))))) rfl rfl (lt_ok rfl) rfl) ?_
     refine TL.nil ?_
     exact ⟨i + 1, by (refine ⟨by omega, hx2, take_step (d := []) hx2 (by omega) hx3 (by first | assumption | exact Decidable.not_not.1 (by assumption) | omega)⟩), by omega, Env.le_mk ⟨rfl, rfl, rfl, by first | rfl | (simp; done) | (congr 3; omega), trivial⟩ trivial trivial⟩
   ·
    replace h2 := of_decide_eq_false h2
    refine T.exit ?_
    refine T.seq ?_
    refine T.region ?_
    refine TL.cons rfl (Step.assign (p := (.one (.d (.bool true)))) rfl rfl (lt_ok rfl) rfl) ?_
    refine TL.nil ?_
    refine T.ret ?_
    exact ⟨[(false, [.d (.bool true)])], (.cons rfl .nil), rfl, [], (RetC.rd' (by (congr 1; symm; first | (apply decide_eq_false; rintro rfl; first | exact absurd rfl ‹¬ _ = _› | exact absurd rfl (of_decide_eq_false (by assumption)) | contradiction | simp_all) | (apply decide_eq_true; exact take_all hx2 (by omega) hx3))) .nil)⟩
theorem ok_spec_QcSame (a : SQc) (b : SQc) (h0_ : a.ok) (h1_ : b.ok) : RO Try.prog 67 [.agg a.cells, .agg b.cells] [(false, [.rd (.bool (decide (a = b)))])] := by
 refine RO.intro Try.func67 rfl 38 rfl (le_ok rfl) fun w Z => ?_
 obtain ⟨k0_0, k0_1, k0_2, k0_3, k0_4⟩ := h0_
 obtain ⟨k1_0, k1_1, k1_2, k1_3, k1_4⟩ := h1_
 refine T.seq ?_
 refine T.region ?_
 refine TL.cons rfl (Step.box (p := (.agg [.d (.int .i64 a.f0), .d (.int .i64 a.f1), .d (.ints .u8 a.f2), .d (.ints .u8 a.f3), .d (.bss a.f4)])) (ps := [.d (.int .i64 a.f0), .d (.int .i64 a.f1), .d (.ints .u8 a.f2), .d (.ints .u8 a.f3), .d (.bss a.f4)]) rfl rfl (lt_ok rfl) rfl rfl rfl rfl rfl) ?_
 refine TL.cons rfl (Step.box (p := (.agg [.d (.int .i64 b.f0), .d (.int .i64 b.f1), .d (.ints .u8 b.f2), .d (.ints .u8 b.f3), .d (.bss b.f4)])) (ps := [.d (.int .i64 b.f0), .d (.int .i64 b.f1), .d (.ints .u8 b.f2), .d (.ints .u8 b.f3), .d (.bss b.f4)]) rfl rfl (lt_ok rfl) rfl rfl rfl rfl rfl) ?_
 refine TL.cons rfl (Step.assign (p := (.one (.d (.bool false)))) rfl rfl (lt_ok rfl) rfl) ?_
 refine TL.nil ?_
 refine T.seq ?_
 refine T.region ?_
 refine TL.cons rfl (Step.fieldAddr (q := 0) (off := 0) (n := 1) (one := true) rfl rfl (lt_ok rfl) (by kernel_rfl) (Nat.succ_ne_zero _) rfl) ?_
 refine TL.cons rfl (Step.load_box (c := .d (.int .i64 a.f0)) rfl rfl (lt_ok rfl) (by kernel_rfl) rfl rfl rfl) ?_
 refine TL.cons rfl (Step.fieldAddr (q := 0) (off := 0) (n := 1) (one := true) rfl rfl (lt_ok rfl) (by kernel_rfl) (Nat.succ_ne_zero _) rfl) ?_
 refine TL.cons rfl (Step.load_box (c := .d (.int .i64 b.f0)) rfl rfl (lt_ok rfl) (by kernel_rfl) rfl rfl rfl) ?_
 refine TL.cons rfl (Step.bin rfl rfl (lt_ok rfl) rfl rfl (Bin.eql (k := .i64) (a := a.f0) (b := b.f0))) ?_
 refine TL.cons rfl (Step.move (p := (.one (.d (.bool (decide (a.f0 = b.f0)))))) rfl rfl (lt_ok rfl) rfl) ?_
 rcases Bool.eq_false_or_eq_true (decide (a.f0 = b.f0)) with hb1 | hb1
 ·
  refine TL.known 10 hb1 rfl ?_
  refine TL.gyes 10 rfl rfl (lt_ok rfl) rfl (Step.fieldAddr (q := 0) (off := 1) (n := 1) (one := true) rfl rfl (lt_ok rfl) (by kernel_rfl) (Nat.succ_ne_zero _) rfl) ?_
  refine TL.gyes 10 rfl rfl (lt_ok rfl) rfl (Step.load_box (c := .d (.int .i64 a.f1)) rfl rfl (lt_ok rfl) (by kernel_rfl) rfl rfl rfl) ?_
  refine TL.gyes 10 rfl rfl (lt_ok rfl) rfl (Step.fieldAddr (q := 0) (off := 1) (n := 1) (one := true) rfl rfl (lt_ok rfl) (by kernel_rfl) (Nat.succ_ne_zero _) rfl) ?_
  refine TL.gyes 10 rfl rfl (lt_ok rfl) rfl (Step.load_box (c := .d (.int .i64 b.f1)) rfl rfl (lt_ok rfl) (by kernel_rfl) rfl rfl rfl) ?_
  refine TL.gyes 10 rfl rfl (lt_ok rfl) rfl (Step.bin rfl rfl (lt_ok rfl) rfl rfl (Bin.eql (k := .i64) (a := a.f1) (b := b.f1))) ?_
  refine TL.cons rfl (Step.pick (b := true) (p := (.one (.d (.bool (decide (a.f1 = b.f1)))))) rfl rfl (lt_ok rfl) rfl rfl) ?_
  refine TL.cons rfl (Step.move (p := (.one (.d (.bool (decide (a.f1 = b.f1)))))) rfl rfl (lt_ok rfl) rfl) ?_
  rcases Bool.eq_false_or_eq_true (decide (a.f1 = b.f1)) with hb2 | hb2
  ·
   refine TL.known 17 hb2 rfl ?_
   refine TL.gyes 17 rfl rfl (lt_ok rfl) rfl (Step.fieldAddr (q := 0) (off := 2) (n := 1) (one := true) rfl rfl (lt_ok rfl) (by kernel_rfl) (Nat.succ_ne_zero _) rfl) ?_
   refine TL.gyes 17 rfl rfl (lt_ok rfl) rfl (Step.load_box (c := .d (.ints .u8 a.f2)) rfl rfl (lt_ok rfl) (by kernel_rfl) rfl rfl rfl) ?_
   refine TL.gyes 17 rfl rfl (lt_ok rfl) rfl (Step.fieldAddr (q := 0) (off := 2) (n := 1) (one := true) rfl rfl (lt_ok rfl) (by kernel_rfl) (Nat.succ_ne_zero _) rfl) ?_
   refine TL.gyes 17 rfl rfl (lt_ok rfl) rfl (Step.load_box (c := .d (.ints .u8 b.f2)) rfl rfl (lt_ok rfl) (by kernel_rfl) rfl rfl rfl) ?_
   refine TL.gyes 17 rfl rfl (lt_ok rfl) rfl (Step.call (f := 100) (xs := [.tmp 19, .tmp 21]) (ps := [(.one (.d (.ints .u8 a.f2))), (.one (.d (.ints .u8 b.f2)))]) false (g := .func 100) rfl rfl (lt_ok rfl) rfl (by kernel_rfl) rfl (.cons (.one (.d _)) (.cons (.one (.d _)) .nil)) (ok_spec_SameBytes a.f2 b.f2 (by first | assumption | exact mem_getD h0_ (by omega) | exact mem_getD h1_ (by omega) | exact m0_ (by omega) | exact m1_ (by omega) | exact (m0_ (by omega)).2.2 | exact (m1_ (by omega)).2.2) (by first | assumption | exact mem_getD h0_ (by omega) | exact mem_getD h1_ (by omega) | exact m0_ (by omega) | exact m1_ (by omega) | exact (m0_ (by omega)).2.2 | exact (m1_ (by omega)).2.2)) (.inr rfl) rfl (by simp) rfl) ?_
   refine TL.cons rfl (Step.pick (b := true) (p := (.one (.d (.bool (decide (a.f2 = b.f2)))))) rfl rfl (lt_ok rfl) rfl rfl) ?_
   refine TL.cons rfl (Step.move (p := (.one (.d (.bool (decide (a.f2 = b.f2)))))) rfl rfl (lt_ok rfl) rfl) ?_
   rcases Bool.eq_false_or_eq_true (decide (a.f2 = b.f2)) with hb3 | hb3
   ·
    refine TL.known 24 hb3 rfl ?_
    refine TL.gyes 24 rfl rfl (lt_ok rfl) rfl (Step.fieldAddr (q := 0) (off := 3) (n := 1) (one := true) rfl rfl (lt_ok rfl) (by kernel_rfl) (Nat.succ_ne_zero _) rfl) ?_
    refine TL.gyes 24 rfl rfl (lt_ok rfl) rfl (Step.load_box (c := .d (.ints .u8 a.f3)) rfl rfl (lt_ok rfl) (by kernel_rfl) rfl rfl rfl) ?_
    refine TL.gyes 24 rfl rfl (lt_ok rfl) rfl (Step.fieldAddr (q := 0) (off := 3) (n := 1) (one := true) rfl rfl (lt_ok rfl) (by kernel_rfl) (Nat.succ_ne_zero _) rfl) ?_
    refine TL.gyes 24 rfl rfl (lt_ok rfl) rfl (Step.load_box (c := .d (.ints .u8 b.f3)) rfl rfl (lt_ok rfl) (by kernel_rfl) rfl rfl rfl) ?_
    refine TL.gyes 24 rfl rfl (lt_ok rfl) rfl (Step.call (f := 100) (xs := [.tmp 26, .tmp 28]) (ps := [(.one (.d (.ints .u8 a.f3))), (.one (.d (.ints .u8 b.f3)))]) false (g := .func 100) rfl rfl (lt_ok rfl) rfl (by kernel_rfl) rfl (.cons (.one (.d _)) (.cons (.one (.d _)) .nil)) (ok_spec_SameBytes a.f3 b.f3 (by first | assumption | exact mem_getD h0_ (by omega) | exact mem_getD h1_ (by omega) | exact m0_ (by omega) | exact m1_ (by omega) | exact (m0_ (by omega)).2.2 | exact (m1_ (by omega)).2.2) (by first | assumption | exact mem_getD h0_ (by omega) | exact mem_getD h1_ (by omega) | exact m0_ (by omega) | exact m1_ (by omega) | exact (m0_ (by omega)).2.2 | exact (m1_ (by omega)).2.2)) (.inr rfl) rfl (by simp) rfl) ?_
    refine TL.cons rfl (Step.pick (b := true) (p := (.one (.d (.bool (decide (a.f3 = b.f3)))))) rfl rfl (lt_ok rfl) rfl rfl) ?_
    refine TL.cons rfl (Step.move (p := (.one (.d (.bool (decide (a.f3 = b.f3)))))) rfl rfl (lt_ok rfl) rfl) ?_
    rcases Bool.eq_false_or_eq_true (decide (a.f3 = b.f3)) with hb4 | hb4
    ·
     refine TL.known 31 hb4 rfl ?_
     refine TL.gyes 31 rfl rfl (lt_ok rfl) rfl (Step.fieldAddr (q := 0) (off := 4) (n := 1) (one := true) rfl rfl (lt_ok rfl) (by kernel_rfl) (Nat.succ_ne_zero _) rfl) ?_
     refine TL.gyes 31 rfl rfl (lt_ok rfl) rfl (Step.load_box (c := .d (.bss a.f4)) rfl rfl (lt_ok rfl) (by kernel_rfl) rfl rfl rfl) ?_
     refine TL.gyes 31 rfl rfl (lt_ok rfl) rfl (Step.fieldAddr (q := 0) (off := 4) (n := 1) (one := true) rfl rfl (lt_ok rfl) (by kernel_rfl) (Nat.succ_ne_zero _) rfl) ?_
     refine TL.gyes 31 rfl rfl (lt_ok rfl) rfl (Step.load_box (c := .d (.bss b.f4)) rfl rfl (lt_ok rfl) (by kernel_rfl) rfl rfl rfl) ?_
     refine TL.gyes 31 rfl rfl (lt_ok rfl) rfl (Step.call (f := 101) (xs := [.tmp 33, .tmp 35]) (ps := [(.one (.d (.bss a.f4))), (.one (.d (.bss b.f4)))]) false (g := .func 101) rfl rfl (lt_ok rfl) rfl (by kernel_rfl) rfl (.cons (.one (.d _)) (.cons (.one (.d _)) .nil)) (ok_spec_TreeSame a.f4 b.f4 (by first | assumption | exact mem_getD h0_ (by omega) | exact mem_getD h1_ (by omega) | exact m0_ (by omega) | exact m1_ (by omega) | exact (m0_ (by omega)).2.2 | exact (m1_ (by omega)).2.2) (by first | assumption | exact mem_getD h0_ (by omega) | exact mem_getD h1_ (by omega) | exact m0_ (by omega) | exact m1_ (by omega) | exact (m0_ (by omega)).2.2 | exact (m1_ (by omega)).2.2)) (.inr rfl) rfl (by simp) rfl) ?_
     refine TL.cons rfl (Step.pick (b := true) (p := (.one (.d (.bool (decide (a.f4 = b.f4)))))) rfl rfl (lt_ok rfl) rfl rfl) ?_
     refine TL.cons rfl (Step.assign (p := (.one (.d (.bool (decide (a.f4 = b.f4)))))) rfl rfl (lt_ok rfl) rfl) ?_
     refine TL.nil ?_
     refine T.ret ?_
     exact ⟨[(false, [.d (.bool (decide (a.f4 = b.f4)))])], (.cons rfl .nil), rfl, [], (RetC.rd' (by (congr 1; symm; first | (apply decide_eq_false; rintro rfl; first | exact absurd rfl ‹¬ _ = _› | exact absurd rfl (of_decide_eq_false (by assumption)) | contradiction | simp_all) | (apply decide_eq_true; apply SQc.ext <;> first | assumption | exact of_decide_eq_true (by assumption) | exact Decidable.not_not.1 (by assumption) | exact take_all hx2 (by omega) hx3 | simp_all) | (apply decide_eq_decide.2; constructor; (rintro rfl; rfl); intro h_; apply SQc.ext <;> first | assumption | exact of_decide_eq_true (by assumption) | exact Decidable.not_not.1 (by assumption) | exact take_all hx2 (by omega) hx3 | simp_all))) .nil)⟩
    ·
     refine TL.known 31 hb4 rfl ?_
     refine TL.gno 31 rfl rfl (lt_ok rfl) rfl rfl rfl (lt_ok rfl) ?_
     refine TL.gno 31 rfl rfl (lt_ok rfl) rfl rfl rfl (lt_ok rfl) ?_
     refine TL.gno 31 rfl rfl (lt_ok rfl) rfl rfl rfl (lt_ok rfl) ?_
     refine TL.gno 31 rfl rfl (lt_ok rfl) rfl rfl rfl (lt_ok rfl) ?_
     refine TL.gno 31 rfl rfl (lt_ok rfl) rfl rfl rfl (lt_ok rfl) ?_
     refine TL.cons rfl (Step.pick (b := false) (p := (.one (.d (.bool false)))) rfl rfl (lt_ok rfl) rfl rfl) ?_
     refine TL.cons rfl (Step.assign (p := (.one (.d (.bool false)))) rfl rfl (lt_ok rfl) rfl) ?_
     refine TL.nil ?_
     refine T.ret ?_
     exact ⟨[(false, [.d (.bool false)])], (.cons rfl .nil), rfl, [], (RetC.rd' (by (congr 1; symm; first | (apply decide_eq_false; rintro rfl; first | exact absurd rfl ‹¬ _ = _› | exact absurd rfl (of_decide_eq_false (by assumption)) | contradiction | simp_all) | (apply decide_eq_true; apply SQc.ext <;> first | assumption | exact of_decide_eq_true (by assumption) | exact Decidable.not_not.1 (by assumption) | exact take_all hx2 (by omega) hx3 | simp_all) | (apply decide_eq_decide.2; constructor; (rintro rfl; rfl); intro h_; apply SQc.ext <;> first | assumption | exact of_decide_eq_true (by assumption) | exact Decidable.not_not.1 (by assumption) | exact take_all hx2 (by omega) hx3 | simp_all))) .nil)⟩
   ·
    refine TL.known 24 hb3 rfl ?_
    refine TL.gno 24 rfl rfl (lt_ok rfl) rfl rfl rfl (lt_ok rfl) ?_
    refine TL.gno 24 rfl rfl (lt_ok rfl) rfl rfl rfl (lt_ok rfl) ?_
    refine TL.gno 24 rfl rfl (lt_ok rfl) rfl rfl rfl (lt_ok rfl) ?_
    refine TL.gno 24 rfl rfl (lt_ok rfl) rfl rfl rfl (lt_ok rfl) ?_
    refine TL.gno 24 rfl rfl (lt_ok rfl) rfl rfl rfl (lt_ok rfl) ?_
    refine TL.cons rfl (Step.pick (b := false) (p := (.one (.d (.bool false)))) rfl rfl (lt_ok rfl) rfl rfl) ?_
    refine TL.cons rfl (Step.move (p := (.one (.d (.bool false)))) rfl rfl (lt_ok rfl) rfl) ?_
    refine TL.gno 31 rfl rfl (lt_ok rfl) rfl rfl rfl (lt_ok rfl) ?_
    refine TL.gno 31 rfl rfl (lt_ok rfl) rfl rfl rfl (lt_ok rfl) ?_
    refine TL.gno 31 rfl rfl (lt_ok rfl) rfl rfl rfl (lt_ok rfl) ?_
    refine TL.gno 31 rfl rfl (lt_ok rfl) rfl rfl rfl (lt_ok rfl) ?_
    refine TL.gno 31 rfl rfl (lt_ok rfl) rfl rfl rfl (lt_ok rfl) ?_
    refine TL.cons rfl (Step.pick (b := false) (p := (.one (.d (.bool false)))) rfl rfl (lt_ok rfl) rfl rfl) ?_
    refine TL.cons rfl (Step.assign (p := (.one (.d (.bool false)))) rfl rfl (lt_ok rfl) rfl) ?_
    refine TL.nil ?_
    refine T.ret ?_
    exact ⟨[(false, [.d (.bool false)])], (.cons rfl .nil), rfl, [], (RetC.rd' (by (congr 1; symm; first | (apply decide_eq_false; rintro rfl; first | exact absurd rfl ‹¬ _ = _› | exact absurd rfl (of_decide_eq_false (by assumption)) | contradiction | simp_all) | (apply decide_eq_true; apply SQc.ext <;> first | assumption | exact of_decide_eq_true (by assumption) | exact Decidable.not_not.1 (by assumption) | exact take_all hx2 (by omega) hx3 | simp_all) | (apply decide_eq_decide.2; constructor; (rintro rfl; rfl); intro h_; apply SQc.ext <;> first | assumption | exact of_decide_eq_true (by assumption) | exact Decidable.not_not.1 (by assumption) | exact take_all hx2 (by omega) hx3 | simp_all))) .nil)⟩
  ·
   refine TL.known 17 hb2 rfl ?_
   refine TL.gno 17 rfl rfl (lt_ok rfl) rfl rfl rfl (lt_ok rfl) ?_
   refine TL.gno 17 rfl rfl (lt_ok rfl) rfl rfl rfl (lt_ok rfl) ?_
   refine TL.gno 17 rfl rfl (lt_ok rfl) rfl rfl rfl (lt_ok rfl) ?_
   refine TL.gno 17 rfl rfl (lt_ok rfl) rfl rfl rfl (lt_ok rfl) ?_
   refine TL.gno 17 rfl rfl (lt_ok rfl) rfl rfl rfl (lt_ok rfl) ?_
   refine TL.cons rfl (Step.pick (b := false) (p := (.one (.d (.bool false)))) rfl rfl (lt_ok rfl) rfl rfl) ?_
   refine TL.cons rfl (Step.move (p := (.one (.d (.bool false)))) rfl rfl (lt_ok rfl) rfl) ?_
   refine TL.gno 24 rfl rfl (lt_ok rfl) rfl rfl rfl (lt_ok rfl) ?_
   refine TL.gno 24 rfl rfl (lt_ok rfl) rfl rfl rfl (lt_ok rfl) ?_
   refine TL.gno 24 rfl rfl (lt_ok rfl) rfl rfl rfl (lt_ok rfl) ?_
   refine TL.gno 24 rfl rfl (lt_ok rfl) rfl rfl rfl (lt_ok rfl) ?_
   refine TL.gno 24 rfl rfl (lt_ok rfl) rfl rfl rfl (lt_ok rfl) ?_
   refine TL.cons rfl (Step.pick (b := false) (p := (.one (.d (.bool false)))) rfl rfl (lt_ok rfl) rfl rfl) ?_
   refine TL.cons rfl (Step.move (p := (.one (.d (.bool false)))) rfl rfl (lt_ok rfl) rfl) ?_
   refine TL.gno 31 rfl rfl (lt_ok rfl) rfl rfl rfl (lt_ok rfl) ?_
   refine TL.gno 31 rfl rfl (lt_ok rfl) rfl rfl rfl (lt_ok rfl) ?_
   refine TL.gno 31 rfl rfl (lt_ok rfl) rfl rfl rfl (lt_ok rfl) ?_
   refine TL.gno 31 rfl rfl (lt_ok rfl) rfl rfl rfl (lt_ok rfl) ?_
   refine TL.gno 31 rfl rfl (lt_ok rfl) rfl rfl rfl (lt_ok rfl) ?_
   refine TL.cons rfl (Step.pick (b := false) (p := (.one (.d (.bool false)))) rfl rfl (lt_ok rfl) rfl rfl) ?_
   refine TL.cons rfl (Step.assign (p := (.one (.d (.bool false)))) rfl rfl (lt_ok rfl) rfl) ?_
   refine TL.nil ?_
   refine T.ret ?_
   exact ⟨[(false, [.d (.bool false)])], (.cons rfl .nil), rfl, [], (RetC.rd' (by (congr 1; symm; first | (apply decide_eq_false; rintro rfl; first | exact absurd rfl ‹¬ _ = _› | exact absurd rfl (of_decide_eq_false (by assumption)) | contradiction | simp_all) | (apply decide_eq_true; apply SQc.ext <;> first | assumption | exact of_decide_eq_true (by assumption) | exact Decidable.not_not.1 (by assumption) | exact take_all hx2 (by omega) hx3 | simp_all) | (apply decide_eq_decide.2; constructor; (rintro rfl; rfl); intro h_; apply SQc.ext <;> first | assumption | exact of_decide_eq_true (by assumption) | exact Decidable.not_not.1 (by assumption) | exact take_all hx2 (by omega) hx3 | simp_all))) .nil)⟩
 ·
  refine TL.known 10 hb1 rfl ?_
  refine TL.gno 10 rfl rfl (lt_ok rfl) rfl rfl rfl (lt_ok rfl) ?_
  refine TL.gno 10 rfl rfl (lt_ok rfl) rfl rfl rfl (lt_ok rfl) ?_
  refine TL.gno 10 rfl rfl (lt_ok rfl) rfl rfl rfl (lt_ok rfl) ?_
  refine TL.gno 10 rfl rfl (lt_ok rfl) rfl rfl rfl (lt_ok rfl) ?_
  refine TL.gno 10 rfl rfl (lt_ok rfl) rfl rfl rfl (lt_ok rfl) ?_
  refine TL.cons rfl (Step.pick (b := false) (p := (.one (.d (.bool false)))) rfl rfl (lt_ok rfl) rfl rfl) ?_
  refine TL.cons rfl (Step.move (p := (.one (.d (.bool false)))) rfl rfl (lt_ok rfl) rfl) ?_
  refine TL.gno 17 rfl rfl (lt_ok rfl) rfl rfl rfl (lt_ok rfl) ?_
  refine TL.gno 17 rfl rfl (lt_ok rfl) rfl rfl rfl (lt_ok rfl) ?_
  refine TL.gno 17 rfl rfl (lt_ok rfl) rfl rfl rfl (lt_ok rfl) ?_
  refine TL.gno 17 rfl rfl (lt_ok rfl) rfl rfl rfl (lt_ok rfl) ?_
  refine TL.gno 17 rfl rfl (lt_ok rfl) rfl rfl rfl (lt_ok rfl) ?_
  refine TL.cons rfl (Step.pick (b := false) (p := (.one (.d (.bool false)))) rfl rfl (lt_ok rfl) rfl rfl) ?_
  refine TL.cons rfl (Step.move (p := (.one (.d (.bool false)))) rfl rfl (lt_ok rfl) rfl) ?_
  refine TL.gno 24 rfl rfl (lt_ok rfl) rfl rfl rfl (lt_ok rfl) ?_
  refine TL.gno 24 rfl rfl (lt_ok rfl) rfl rfl rfl (lt_ok rfl) ?_
  refine TL.gno 24 rfl rfl (lt_ok rfl) rfl rfl rfl (lt_ok rfl) ?_
  refine TL.gno 24 rfl rfl (lt_ok rfl) rfl rfl rfl (lt_ok rfl) ?_
  refine TL.gno 24 rfl rfl (lt_ok rfl) rfl rfl rfl (lt_ok rfl) ?_
  refine TL.cons rfl (Step.pick (b := false) (p := (.one (.d (.bool false)))) rfl rfl (lt_ok rfl) rfl rfl) ?_
  refine TL.cons rfl (Step.move (p := (.one (.d (.bool false)))) rfl rfl (lt_ok rfl) rfl) ?_
  refine TL.gno 31 rfl rfl (lt_ok rfl) rfl rfl rfl (lt_ok rfl) ?_
  refine TL.gno 31 rfl rfl (lt_ok rfl) rfl rfl rfl (lt_ok rfl) ?_
  refine TL.gno 31 rfl rfl (lt_ok rfl) rfl rfl rfl (lt_ok rfl) ?_
  refine TL.gno 31 rfl rfl (lt_ok rfl) rfl rfl rfl (lt_ok rfl) ?_
  refine TL.gno 31 rfl rfl (lt_ok rfl) rfl rfl rfl (lt_ok rfl) ?_
  refine TL.cons rfl (Step.pick (b := false) (p := (.one (.d (.bool false)))) rfl rfl (lt_ok rfl) rfl rfl) ?_
  refine TL.cons rfl (Step.assign (p := (.one (.d (.bool false)))) rfl rfl (lt_ok rfl) rfl) ?_
  refine TL.nil ?_
  refine T.ret ?_
  exact ⟨[(false, [.d (.bool false)])], (.cons rfl .nil), rfl, [], (RetC.rd' (by (congr 1; symm; first | (apply decide_eq_false; rintro rfl; first | exact absurd rfl ‹¬ _ = _› | exact absurd rfl (of_decide_eq_false (by assumption)) | contradiction | simp_all) | (apply decide_eq_true; apply SQc.ext <;> first | assumption | exact of_decide_eq_true (by assumption) | exact Decidable.not_not.1 (by assumption) | exact take_all hx2 (by omega) hx3 | simp_all) | (apply decide_eq_decide.2; constructor; (rintro rfl; rfl); intro h_; apply SQc.ext <;> first | assumption | exact of_decide_eq_true (by assumption) | exact Decidable.not_not.1 (by assumption) | exact take_all hx2 (by omega) hx3 | simp_all))) .nil)⟩
theorem ok_spec_HeadSame (a : SHead) (b : SHead) (h0_ : a.ok) (h1_ : b.ok) : RO Try.prog 68 [.agg a.cells, .agg b.cells] [(false, [.rd (.bool (decide (a = b)))])] := by
 refine RO.intro Try.func68 rfl 45 rfl (le_ok rfl) fun w Z => ?_
 obtain ⟨k0_0, k0_1, k0_2, k0_3, k0_4, k0_5⟩ := h0_
 obtain ⟨k1_0, k1_1, k1_2, k1_3, k1_4, k1_5⟩ := h1_
 refine T.seq ?_
 refine T.region ?_
 refine TL.cons rfl (Step.box (p := (.agg [.d (.int .i64 a.f0), .d (.int .i64 a.f1), .d (.int .i64 a.f2), .d (.ints .u8 a.f3), .d (.ints .u8 a.f4), .d (.int .i64 a.f5.f0), .d (.int .i64 a.f5.f1), .d (.ints .u8 a.f5.f2), .d (.ints .u8 a.f5.f3), .d (.bss a.f5.f4)])) (ps := [.d (.int .i64 a.f0), .d (.int .i64 a.f1), .d (.int .i64 a.f2), .d (.ints .u8 a.f3), .d (.ints .u8 a.f4), .d (.int .i64 a.f5.f0), .d (.int .i64 a.f5.f1), .d (.ints .u8 a.f5.f2), .d (.ints .u8 a.f5.f3), .d (.bss a.f5.f4)]) rfl rfl (lt_ok rfl) rfl rfl rfl rfl rfl) ?_
 refine TL.cons rfl (Step.box (p := (.agg [.d (.int .i64 b.f0), .d (.int .i64 b.f1), .d (.int .i64 b.f2), .d (.ints .u8 b.f3), .d (.ints .u8 b.f4), .d (.int .i64 b.f5.f0), .d (.int .i64 b.f5.f1), .d (.ints .u8 b.f5.f2), .d (.ints .u8 b.f5.f3), .d (.bss b.f5.f4)])) (ps := [.d (.int .i64 b.f0), .d (.int .i64 b.f1), .d (.int .i64 b.f2), .d (.ints .u8 b.f3), .d (.ints .u8 b.f4), .d (.int .i64 b.f5.f0), .d (.int .i64 b.f5.f1), .d (.ints .u8 b.f5.f2), .d (.ints .u8 b.f5.f3), .d (.bss b.f5.f4)]) rfl rfl (lt_ok rfl) rfl rfl rfl rfl rfl) ?_
 refine TL.cons rfl (Step.assign (p := (.one (.d (.bool false)))) rfl rfl (lt_ok rfl) rfl) ?_
 refine TL.nil ?_
 refine T.seq ?_
 refine T.region ?_
 refine TL.cons rfl (Step.fieldAddr (q := 0) (off := 0) (n := 1) (one := true) rfl rfl (lt_ok rfl) (by kernel_rfl) (Nat.succ_ne_zero _) rfl) ?_
 refine TL.cons rfl (Step.load_box (c := .d (.int .i64 a.f0)) rfl rfl (lt_ok rfl) (by kernel_rfl) rfl rfl rfl) ?_
 refine TL.cons rfl (Step.fieldAddr (q := 0) (off := 0) (n := 1) (one := true) rfl rfl (lt_ok rfl) (by kernel_rfl) (Nat.succ_ne_zero _) rfl) ?_
 refine TL.cons rfl (Step.load_box (c := .d (.int .i64 b.f0)) rfl rfl (lt_ok rfl) (by kernel_rfl) rfl rfl rfl) ?_
 refine TL.cons rfl (Step.bin rfl rfl (lt_ok rfl) rfl rfl (Bin.eql (k := .i64) (a := a.f0) (b := b.f0))) ?_
 refine TL.cons rfl (Step.move (p := (.one (.d (.bool (decide (a.f0 = b.f0)))))) rfl rfl (lt_ok rfl) rfl) ?_
 rcases Bool.eq_false_or_eq_true (decide (a.f0 = b.f0)) with hb1 | hb1
 ·
  refine TL.known 10 hb1 rfl ?_
  refine TL.gyes 10 rfl rfl (lt_ok rfl) rfl (Step.fieldAddr (q := 0) (off := 1) (n := 1) (one := true) rfl rfl (lt_ok rfl) (by kernel_rfl) (Nat.succ_ne_zero _) rfl) ?_
  refine TL.gyes 10 rfl rfl (lt_ok rfl) rfl (Step.load_box (c := .d (.int .i64 a.f1)) rfl rfl (lt_ok rfl) (by kernel_rfl) rfl rfl rfl) ?_
  refine TL.gyes 10 rfl rfl (lt_ok rfl) rfl (Step.fieldAddr (q := 0) (off := 1) (n := 1) (one := true) rfl rfl (lt_ok rfl) (by kernel_rfl) (Nat.succ_ne_zero _) rfl) ?_
  refine TL.gyes 10 rfl rfl (lt_ok rfl) rfl (Step.load_box (c := .d (.int .i64 b.f1)) rfl rfl (lt_ok rfl) (by kernel_rfl) rfl rfl rfl) ?_
  refine TL.gyes 10 rfl rfl (lt_ok rfl) rfl (Step.bin rfl rfl (lt_ok rfl) rfl rfl (Bin.eql (k := .i64) (a := a.f1) (b := b.f1))) ?_
  refine TL.cons rfl (Step.pick (b := true) (p := (.one (.d (.bool (decide (a.f1 = b.f1)))))) rfl rfl (lt_ok rfl) rfl rfl) ?_
  refine TL.cons rfl (Step.move (p := (.one (.d (.bool (decide (a.f1 = b.f1)))))) rfl rfl (lt_ok rfl) rfl) ?_
  rcases Bool.eq_false_or_eq_true (decide (a.f1 = b.f1)) with hb2 | hb2
  ·
   refine TL.known 17 hb2 rfl ?_
   refine TL.gyes 17 rfl rfl (lt_ok rfl) rfl (Step.fieldAddr (q := 0) (off := 2) (n := 1) (one := true) rfl rfl (lt_ok rfl) (by kernel_rfl) (Nat.succ_ne_zero _) rfl) ?_
   refine TL.gyes 17 rfl rfl (lt_ok rfl) rfl (Step.load_box (c := .d (.int .i64 a.f2)) rfl rfl (lt_ok rfl) (by kernel_rfl) rfl rfl rfl) ?_
   refine TL.gyes 17 rfl rfl (lt_ok rfl) rfl (Step.fieldAddr (q := 0) (off := 2) (n := 1) (one := true) rfl rfl (lt_ok rfl) (by kernel_rfl) (Nat.succ_ne_zero _) rfl) ?_
   refine TL.gyes 17 rfl rfl (lt_ok rfl) rfl (Step.load_box (c := .d (.int .i64 b.f2)) rfl rfl (lt_ok rfl) (by kernel_rfl) rfl rfl rfl) ?_
   refine TL.gyes 17 rfl rfl (lt_ok rfl) rfl (Step.bin rfl rfl (lt_ok rfl) rfl rfl (Bin.eql (k := .i64) (a := a.f2) (b := b.f2))) ?_
   refine TL.cons rfl (Step.pick (b := true) (p := (.one (.d (.bool (decide (a.f2 = b.f2)))))) rfl rfl (lt_ok rfl) rfl rfl) ?_
   refine TL.cons rfl (Step.move (p := (.one (.d (.bool (decide (a.f2 = b.f2)))))) rfl rfl (lt_ok rfl) rfl) ?_
   rcases Bool.eq_false_or_eq_true (decide (a.f2 = b.f2)) with hb3 | hb3
   ·
    refine TL.known 24 hb3 rfl ?_
    refine TL.gyes 24 rfl rfl (lt_ok rfl) rfl (Step.fieldAddr (q := 0) (off := 3) (n := 1) (one := true) rfl rfl (lt_ok rfl) (by kernel_rfl) (Nat.succ_ne_zero _) rfl) ?_
    refine TL.gyes 24 rfl rfl (lt_ok rfl) rfl (Step.load_box (c := .d (.ints .u8 a.f3)) rfl rfl (lt_ok rfl) (by kernel_rfl) rfl rfl rfl) ?_
    refine TL.gyes 24 rfl rfl (lt_ok rfl) rfl (Step.fieldAddr (q := 0) (off := 3) (n := 1) (one := true) rfl rfl (lt_ok rfl) (by kernel_rfl) (Nat.succ_ne_zero _) rfl) ?_
    refine TL.gyes 24 rfl rfl (lt_ok rfl) rfl (Step.load_box (c := .d (.ints .u8 b.f3)) rfl rfl (lt_ok rfl) (by kernel_rfl) rfl rfl rfl) ?_
    refine TL.gyes 24 rfl rfl (lt_ok rfl) rfl (Step.call (f := 100) (xs := [.tmp 26, .tmp 28]) (ps := [(.one (.d (.ints .u8 a.f3))), (.one (.d (.ints .u8 b.f3)))]) false (g := .func 100) rfl rfl (lt_ok rfl) rfl (by kernel_rfl) rfl (.cons (.one (.d _)) (.cons (.one (.d _)) .nil)) (ok_spec_SameBytes a.f3 b.f3 (by first | assumption | exact mem_getD h0_ (by omega) | exact mem_getD h1_ (by omega) | exact m0_ (by omega) | exact m1_ (by omega) | exact (m0_ (by omega)).2.2 | exact (m1_ (by omega)).2.2) (by first | assumption | exact mem_getD h0_ (by omega) | exact mem_getD h1_ (by omega) | exact m0_ (by omega) | exact m1_ (by omega) | exact (m0_ (by omega)).2.2 | exact (m1_ (by omega)).2.2)) (.inr rfl) rfl (by simp) rfl) ?_
    refine TL.cons rfl (Step.pick (b := true) (p := (.one (.d (.bool (decide (a.f3 = b.f3)))))) rfl rfl (lt_ok rfl) rfl rfl) ?_
    refine TL.cons rfl (Step.move (p := (.one (.d (.bool (decide (a.f3 = b.f3)))))) rfl rfl (lt_ok rfl) rfl) ?_
    rcases Bool.eq_false_or_eq_true (decide (a.f3 = b.f3)) with hb4 | hb4
    ·
     refine TL.known 31 hb4 rfl ?_
     refine TL.gyes 31 rfl rfl (lt_ok rfl) rfl (Step.fieldAddr (q := 0) (off := 4) (n := 1) (one := true) rfl rfl (lt_ok rfl) (by kernel_rfl) (Nat.succ_ne_zero _) rfl) ?_
     refine TL.gyes 31 rfl rfl (lt_ok rfl) rfl (Step.load_box (c := .d (.ints .u8 a.f4)) rfl rfl (lt_ok rfl) (by kernel_rfl) rfl rfl rfl) ?_
     refine TL.gyes 31 rfl rfl (lt_ok rfl) rfl (Step.fieldAddr (q := 0) (off := 4) (n := 1) (one := true) rfl rfl (lt_ok rfl) (by kernel_rfl) (Nat.succ_ne_zero _) rfl) ?_
     refine TL.gyes 31 rfl rfl (lt_ok rfl) rfl (Step.load_box (c := .d (.ints .u8 b.f4)) rfl rfl (lt_ok rfl) (by kernel_rfl) rfl rfl rfl) ?_
     refine TL.gyes 31 rfl rfl (lt_ok rfl) rfl (Step.call (f := 100) (xs := [.tmp 33, .tmp 35]) (ps := [(.one (.d (.ints .u8 a.f4))), (.one (.d (.ints .u8 b.f4)))]) false (g := .func 100) rfl rfl (lt_ok rfl) rfl (by kernel_rfl) rfl (.cons (.one (.d _)) (.cons (.one (.d _)) .nil)) (ok_spec_SameBytes a.f4 b.f4 (by first | assumption | exact mem_getD h0_ (by omega) | exact mem_getD h1_ (by omega) | exact m0_ (by omega) | exact m1_ (by omega) | exact (m0_ (by omega)).2.2 | exact (m1_ (by omega)).2.2) (by first | assumption | exact mem_getD h0_ (by omega) | exact mem_getD h1_ (by omega) | exact m0_ (by omega) | exact m1_ (by omega) | exact (m0_ (by omega)).2.2 | exact (m1_ (by omega)).2.2)) (.inr rfl) rfl (by simp) rfl) ?_
     refine TL.cons rfl (Step.pick (b := true) (p := (.one (.d (.bool (decide (a.f4 = b.f4)))))) rfl rfl (lt_ok rfl) rfl rfl) ?_
     refine TL.cons rfl (Step.move (p := (.one (.d (.bool (decide (a.f4 = b.f4)))))) rfl rfl (lt_ok rfl) rfl) ?_
     rcases Bool.eq_false_or_eq_true (decide (a.f4 = b.f4)) with hb5 | hb5
     ·
      refine TL.known 38 hb5 rfl ?_
      refine TL.gyes 38 rfl rfl (lt_ok rfl) rfl (Step.fieldAddr (q := 0) (off := 5) (n := 5) (one := false) rfl rfl (lt_ok rfl) (by kernel_rfl) (Nat.succ_ne_zero _) rfl) ?_
      refine TL.gyes 38 rfl rfl (lt_ok rfl) rfl (Step.load_box_agg (n := 5) (qs := [.d (.int .i64 a.f5.f0), .d (.int .i64 a.f5.f1), .d (.ints .u8 a.f5.f2), .d (.ints .u8 a.f5.f3), .d (.bss a.f5.f4)]) rfl rfl (lt_ok rfl) (by kernel_rfl) rfl rfl rfl rfl) ?_
      refine TL.gyes 38 rfl rfl (lt_ok rfl) rfl (Step.fieldAddr (q := 0) (off := 5) (n := 5) (one := false) rfl rfl (lt_ok rfl) (by kernel_rfl) (Nat.succ_ne_zero _) rfl) ?_
      refine TL.gyes 38 rfl rfl (lt_ok rfl) rfl (Step.load_box_agg (n := 5) (qs := [.d (.int .i64 b.f5.f0), .d (.int .i64 b.f5.f1), .d (.ints .u8 b.f5.f2), .d (.ints .u8 b.f5.f3), .d (.bss b.f5.f4)]) rfl rfl (lt_ok rfl) (by kernel_rfl) rfl rfl rfl rfl) ?_
      refine TL.gyes 38 rfl rfl (lt_ok rfl) rfl (Step.call (f := 67) (xs := [.tmp 40, .tmp 42]) (ps := [(.agg [.d (.int .i64 a.f5.f0), .d (.int .i64 a.f5.f1), .d (.ints .u8 a.f5.f2), .d (.ints .u8 a.f5.f3), .d (.bss a.f5.f4)]), (.agg [.d (.int .i64 b.f5.f0), .d (.int .i64 b.f5.f1), .d (.ints .u8 b.f5.f2), .d (.ints .u8 b.f5.f3), .d (.bss b.f5.f4)])]) false (g := .func 67) rfl rfl (lt_ok rfl) rfl (by kernel_rfl) rfl (.cons (.agg (.cons (.d _) (.cons (.d _) (.cons (.d _) (.cons (.d _) (.cons (.d _) .nil)))))) (.cons (.agg (.cons (.d _) (.cons (.d _) (.cons (.d _) (.cons (.d _) (.cons (.d _) .nil)))))) .nil)) (ok_spec_QcSame a.f5 b.f5 (by first | assumption | exact mem_getD h0_ (by omega) | exact mem_getD h1_ (by omega) | exact m0_ (by omega) | exact m1_ (by omega) | exact (m0_ (by omega)).2.2 | exact (m1_ (by omega)).2.2) (by first | assumption | exact mem_getD h0_ (by omega) | exact mem_getD h1_ (by omega) | exact m0_ (by omega) | exact m1_ (by omega) | exact (m0_ (by omega)).2.2 | exact (m1_ (by omega)).2.2)) (.inr rfl) rfl (by simp) rfl) ?_
      refine TL.cons rfl (Step.pick (b := true) (p := (.one (.d (.bool (decide (a.f5 = b.f5)))))) rfl rfl (lt_ok rfl) rfl rfl) ?_
      refine TL.cons rfl (Step.assign (p := (.one (.d (.bool (decide (a.f5 = b.f5)))))) rfl rfl (lt_ok rfl) rfl) ?_
      refine TL.nil ?_
      refine T.weaken (E' := { tm := [(4, (.one (.d (.bool (decide (a.f5 = b.f5))))))], rows := [], boxes := [] }) (Env.le_mk ⟨by kernel_rfl, trivial⟩ trivial trivial) ?_
      refine T.ret ?_
      exact ⟨[(false, [.d (.bool (decide (a.f5 = b.f5)))])], (.cons rfl .nil), rfl, [], (RetC.rd' (by (congr 1; symm; first | (apply decide_eq_false; rintro rfl; first | exact absurd rfl ‹¬ _ = _› | exact absurd rfl (of_decide_eq_false (by assumption)) | contradiction | simp_all) | (apply decide_eq_true; apply SHead.ext <;> first | assumption | exact of_decide_eq_true (by assumption) | exact Decidable.not_not.1 (by assumption) | exact take_all hx2 (by omega) hx3 | simp_all) | (apply decide_eq_decide.2; constructor; (rintro rfl; rfl); intro h_; apply SHead.ext <;> first | assumption | exact of_decide_eq_true (by assumption) | exact Decidable.not_not.1 (by assumption) | exact take_all hx2 (by omega) hx3 | simp_all))) .nil)⟩
     ·
      refine TL.known 38 hb5 rfl ?_
      refine TL.gno 38 rfl rfl (lt_ok rfl) rfl rfl rfl (lt_ok rfl) ?_
      refine TL.gno 38 rfl rfl (lt_ok rfl) rfl rfl rfl (lt_ok rfl) ?_
      refine TL.gno 38 rfl rfl (lt_ok rfl) rfl rfl rfl (lt_ok rfl) ?_
      refine TL.gno 38 rfl rfl (lt_ok rfl) rfl rfl rfl (lt_ok rfl) ?_
      refine TL.gno 38 rfl rfl (lt_ok rfl) rfl rfl rfl (lt_ok rfl) ?_
      refine TL.cons rfl (Step.pick (b := false) (p := (.one (.d (.bool false)))) rfl rfl (lt_ok rfl) rfl rfl) ?_
      refine TL.cons rfl (Step.assign (p := (.one (.d (.bool false)))) rfl rfl (lt_ok rfl) rfl) ?_
      refine TL.nil ?_
      refine T.weaken (E' := { tm := [(4, (.one (.d (.bool false))))], rows := [], boxes := [] }) (Env.le_mk ⟨by kernel_rfl, trivial⟩ trivial trivial) ?_
      refine T.ret ?_
      exact ⟨[(false, [.d (.bool false)])], (.cons rfl .nil), rfl, [], (RetC.rd' (by (congr 1; symm; first | (apply decide_eq_false; rintro rfl; first | exact absurd rfl ‹¬ _ = _› | exact absurd rfl (of_decide_eq_false (by assumption)) | contradiction | simp_all) | (apply decide_eq_true; apply SHead.ext <;> first | assumption | exact of_decide_eq_true (by assumption) | exact Decidable.not_not.1 (by assumption) | exact take_all hx2 (by omega) hx3 | simp_all) | (apply decide_eq_decide.2; constructor; (rintro rfl; rfl); intro h_; apply SHead.ext <;> first | assumption | exact of_decide_eq_true (by assumption) | exact Decidable.not_not.1 (by assumption) | exact take_all hx2 (by omega) hx3 | simp_all))) .nil)⟩
    ·
     refine TL.known 31 hb4 rfl ?_
     refine TL.gno 31 rfl rfl (lt_ok rfl) rfl rfl rfl (lt_ok rfl) ?_
     refine TL.gno 31 rfl rfl (lt_ok rfl) rfl rfl rfl (lt_ok rfl) ?_
     refine TL.gno 31 rfl rfl (lt_ok rfl) rfl rfl rfl (lt_ok rfl) ?_
     refine TL.gno 31 rfl rfl (lt_ok rfl) rfl rfl rfl (lt_ok rfl) ?_
     refine TL.gno 31 rfl rfl (lt_ok rfl) rfl rfl rfl (lt_ok rfl) ?_
     refine TL.cons rfl (Step.pick (b := false) (p := (.one (.d (.bool false)))) rfl rfl (lt_ok rfl) rfl rfl) ?_
     refine TL.cons rfl (Step.move (p := (.one (.d (.bool false)))) rfl rfl (lt_ok rfl) rfl) ?_
     refine TL.gno 38 rfl rfl (lt_ok rfl) rfl rfl rfl (lt_ok rfl) ?_
     refine TL.gno 38 rfl rfl (lt_ok rfl) rfl rfl rfl (lt_ok rfl) ?_
     refine TL.gno 38 rfl rfl (lt_ok rfl) rfl rfl rfl (lt_ok rfl) ?_
     refine TL.gno 38 rfl rfl (lt_ok rfl) rfl rfl rfl (lt_ok rfl) ?_
     refine TL.gno 38 rfl rfl (lt_ok rfl) rfl rfl rfl (lt_ok rfl) ?_
     refine TL.cons rfl (Step.pick (b := false) (p := (.one (.d (.bool false)))) rfl rfl (lt_ok rfl) rfl rfl) ?_
     refine TL.cons rfl (Step.assign (p := (.one (.d (.bool false)))) rfl rfl (lt_ok rfl) rfl) ?_
     refine TL.nil ?_
     refine T.weaken (E' := { tm := [(4, (.one (.d (.bool false))))], rows := [], boxes := [] }) (Env.le_mk ⟨by kernel_rfl, trivial⟩ trivial trivial) ?_
     refine T.ret ?_
     exact ⟨[(false, [.d (.bool false)])], (.cons rfl .nil), rfl, [], (RetC.rd' (by (congr 1; symm; first | (apply decide_eq_false; rintro rfl; first | exact absurd rfl ‹¬ _ = _› | exact absurd rfl (of_decide_eq_false (by assumption)) | contradiction | simp_all) | (apply decide_eq_true; apply SHead.ext <;> first | assumption | exact of_decide_eq_true (by assumption) | exact Decidable.not_not.1 (by assumption) | exact take_all hx2 (by omega) hx3 | simp_all) | (apply decide_eq_decide.2; constructor; (rintro rfl; rfl); intro h_; apply SHead.ext <;> first | assumption | exact of_decide_eq_true (by assumption) | exact Decidable.not_not.1 (by assumption) | exact take_all hx2 (by omega) hx3 | simp_all))) .nil)⟩
   ·
    refine TL.known 24 hb3 rfl ?_
    refine TL.gno 24 rfl rfl (lt_ok rfl) rfl rfl rfl (lt_ok rfl) ?_
    refine TL.gno 24 rfl rfl (lt_ok rfl) rfl rfl rfl (lt_ok rfl) ?_
    refine TL.gno 24 rfl rfl (lt_ok rfl) rfl rfl rfl (lt_ok rfl) ?_
    refine TL.gno 24 rfl rfl (lt_ok rfl) rfl rfl rfl (lt_ok rfl) ?_
    refine TL.gno 24 rfl rfl (lt_ok rfl) rfl rfl rfl (lt_ok rfl) ?_
    refine TL.cons rfl (Step.pick (b := false) (p := (.one (.d (.bool false)))) rfl rfl (lt_ok rfl) rfl rfl) ?_
    refine TL.cons rfl (Step.move (p := (.one (.d (.bool false)))) rfl rfl (lt_ok rfl) rfl) ?_
    refine TL.gno 31 rfl rfl (lt_ok rfl) rfl rfl rfl (lt_ok rfl) ?_
    refine TL.gno 31 rfl rfl (lt_ok rfl) rfl rfl rfl (lt_ok rfl) ?_
    refine TL.gno 31 rfl rfl (lt_ok rfl) rfl rfl rfl (lt_ok rfl) ?_
    refine TL.gno 31 rfl rfl (lt_ok rfl) rfl rfl rfl (lt_ok rfl) ?_
    refine TL.gno 31 rfl rfl (lt_ok rfl) rfl rfl rfl (lt_ok rfl) ?_
    refine TL.cons rfl (Step.pick (b := false) (p := (.one (.d (.bool false)))) rfl rfl (lt_ok rfl) rfl rfl) ?_
    refine TL.cons rfl (Step.move (p := (.one (.d (.bool false)))) rfl rfl (lt_ok rfl) rfl) ?_
    refine TL.gno 38 rfl rfl (lt_ok rfl) rfl rfl rfl (lt_ok rfl) ?_
    refine TL.gno 38 rfl rfl (lt_ok rfl) rfl rfl rfl (lt_ok rfl) ?_
    refine TL.gno 38 rfl rfl (lt_ok rfl) rfl rfl rfl (lt_ok rfl) ?_
    refine TL.gno 38 rfl rfl (lt_ok rfl) rfl rfl rfl (lt_ok rfl) ?_
    refine TL.gno 38 rfl rfl (lt_ok rfl) rfl rfl rfl (lt_ok rfl) ?_
    refine TL.cons rfl (Step.pick (b := false) (p := (.one (.d (.bool false)))) rfl rfl (lt_ok rfl) rfl rfl) ?_
    refine TL.cons rfl (Step.assign (p := (.one (.d (.bool false)))) rfl rfl (lt_ok rfl) rfl) ?_
    refine TL.nil ?_
    refine T.weaken (E' := { tm := [(4, (.one (.d (.bool false))))], rows := [], boxes := [] }) (Env.le_mk ⟨by kernel_rfl, trivial⟩ trivial trivial) ?_
    refine T.ret ?_
    exact ⟨[(false, [.d (.bool false)])], (.cons rfl .nil), rfl, [], (RetC.rd' (by (congr 1; symm; first | (apply decide_eq_false; rintro rfl; first | exact absurd rfl ‹¬ _ = _› | exact absurd rfl (of_decide_eq_false (by assumption)) | contradiction | simp_all) | (apply decide_eq_true; apply SHead.ext <;> first | assumption | exact of_decide_eq_true (by assumption) | exact Decidable.not_not.1 (by assumption) | exact take_all hx2 (by omega) hx3 | simp_all) | (apply decide_eq_decide.2; constructor; (rintro rfl; rfl); intro h_; apply SHead.ext <;> first | assumption | exact of_decide_eq_true (by assumption) | exact Decidable.not_not.1 (by assumption) | exact take_all hx2 (by omega) hx3 | simp_all))) .nil)⟩
  ·
   refine TL.known 17 hb2 rfl ?_
   refine TL.gno 17 rfl rfl (lt_ok rfl) rfl rfl rfl (lt_ok rfl) ?_
   refine TL.gno 17 rfl rfl (lt_ok rfl) rfl rfl rfl (lt_ok rfl) ?_
   refine TL.gno 17 rfl rfl (lt_ok rfl) rfl rfl rfl (lt_ok rfl) ?_
   refine TL.gno 17 rfl rfl (lt_ok rfl) rfl rfl rfl (lt_ok rfl) ?_
   refine TL.gno 17 rfl rfl (lt_ok rfl) rfl rfl rfl (lt_ok rfl) ?_
   refine TL.cons rfl (Step.pick (b := false) (p := (.one (.d (.bool false)))) rfl rfl (lt_ok rfl) rfl rfl) ?_
   refine TL.cons rfl (Step.move (p := (.one (.d (.bool false)))) rfl rfl (lt_ok rfl) rfl) ?_
   refine TL.gno 24 rfl rfl (lt_ok rfl) rfl rfl rfl (lt_ok rfl) ?_
   refine TL.gno 24 rfl rfl (lt_ok rfl) rfl rfl rfl (lt_ok rfl) ?_
   refine TL.gno 24 rfl rfl (lt_ok rfl) rfl rfl rfl (lt_ok rfl) ?_
   refine TL.gno 24 rfl rfl (lt_ok rfl) rfl rfl rfl (lt_ok rfl) ?_
   refine TL.gno 24 rfl rfl (lt_ok rfl) rfl rfl rfl (lt_ok rfl) ?_
   refine TL.cons rfl (Step.pick (b := false) (p := (.one (.d (.bool false)))) rfl rfl (lt_ok rfl) rfl rfl) ?_
   refine TL.cons rfl (Step.move (p := (.one (.d (.bool false)))) rfl rfl (lt_ok rfl) rfl) ?_
   refine TL.gno 31 rfl rfl (lt_ok rfl) rfl rfl rfl (lt_ok rfl) ?_
   refine TL.gno 31 rfl rfl (lt_ok rfl) rfl rfl rfl (lt_ok rfl) ?_
   refine TL.gno 31 rfl rfl (lt_ok rfl) rfl rfl rfl (lt_ok rfl) ?_
   refine TL.gno 31 rfl rfl (lt_ok rfl) rfl rfl rfl (lt_ok rfl) ?_
   refine TL.gno 31 rfl rfl (lt_ok rfl) rfl rfl rfl (lt_ok rfl) ?_
   refine TL.cons rfl (Step.pick (b := false) (p := (.one (.d (.bool false)))) rfl rfl (lt_ok rfl) rfl rfl) ?_
   refine TL.cons rfl (Step.move (p := (.one (.d (.bool false)))) rfl rfl (lt_ok rfl) rfl) ?_
   refine TL.gno 38 rfl rfl (lt_ok rfl) rfl rfl rfl (lt_ok rfl) ?_
   refine TL.gno 38 rfl rfl (lt_ok rfl) rfl rfl rfl (lt_ok rfl) ?_
   refine TL.gno 38 rfl rfl (lt_ok rfl) rfl rfl rfl (lt_ok rfl) ?_
   refine TL.gno 38 rfl rfl (lt_ok rfl) rfl rfl rfl (lt_ok rfl) ?_
   refine TL.gno 38 rfl rfl (lt_ok rfl) rfl rfl rfl (lt_ok rfl) ?_
   refine TL.cons rfl (Step.pick (b := false) (p := (.one (.d (.bool false)))) rfl rfl (lt_ok rfl) rfl rfl) ?_
   refine TL.cons rfl (Step.assign (p := (.one (.d (.bool false)))) rfl rfl (lt_ok rfl) rfl) ?_
   refine TL.nil ?_
   refine T.weaken (E' := { tm := [(4, (.one (.d (.bool false))))], rows := [], boxes := [] }) (Env.le_mk ⟨by kernel_rfl, trivial⟩ trivial trivial) ?_
   refine T.ret ?_
   exact ⟨[(false, [.d (.bool false)])], (.cons rfl .nil), rfl, [], (RetC.rd' (by (congr 1; symm; first | (apply decide_eq_false; rintro rfl; first | exact absurd rfl ‹¬ _ = _› | exact absurd rfl (of_decide_eq_false (by assumption)) | contradiction | simp_all) | (apply decide_eq_true; apply SHead.ext <;> first | assumption | exact of_decide_eq_true (by assumption) | exact Decidable.not_not.1 (by assumption) | exact take_all hx2 (by omega) hx3 | simp_all) | (apply decide_eq_decide.2; constructor; (rintro rfl; rfl); intro h_; apply SHead.ext <;> first | assumption | exact of_decide_eq_true (by assumption) | exact Decidable.not_not.1 (by assumption) | exact take_all hx2 (by omega) hx3 | simp_all))) .nil)⟩
 ·
  refine TL.known 10 hb1 rfl ?_
  refine TL.gno 10 rfl rfl (lt_ok rfl) rfl rfl rfl (lt_ok rfl) ?_
  refine TL.gno 10 rfl rfl (lt_ok rfl) rfl rfl rfl (lt_ok rfl) ?_
  refine TL.gno 10 rfl rfl (lt_ok rfl) rfl rfl rfl (lt_ok rfl) ?_
  refine TL.gno 10 rfl rfl (lt_ok rfl) rfl rfl rfl (lt_ok rfl) ?_
  refine TL.gno 10 rfl rfl (lt_ok rfl) rfl rfl rfl (lt_ok rfl) ?_
  refine TL.cons rfl (Step.pick (b := false) (p := (.one (.d (.bool false)))) rfl rfl (lt_ok rfl) rfl rfl) ?_
  refine TL.cons rfl (Step.move (p := (.one (.d (.bool false)))) rfl rfl (lt_ok rfl) rfl) ?_
  refine TL.gno 17 rfl rfl (lt_ok rfl) rfl rfl rfl (lt_ok rfl) ?_
  refine TL.gno 17 rfl rfl (lt_ok rfl) rfl rfl rfl (lt_ok rfl) ?_
  refine TL.gno 17 rfl rfl (lt_ok rfl) rfl rfl rfl (lt_ok rfl) ?_
  refine TL.gno 17 rfl rfl (lt_ok rfl) rfl rfl rfl (lt_ok rfl) ?_
  refine TL.gno 17 rfl rfl (lt_ok rfl) rfl rfl rfl (lt_ok rfl) ?_
  refine TL.cons rfl (Step.pick (b := false) (p := (.one (.d (.bool false)))) rfl rfl (lt_ok rfl) rfl rfl) ?_
  refine TL.cons rfl (Step.move (p := (.one (.d (.bool false)))) rfl rfl (lt_ok rfl) rfl) ?_
  refine TL.gno 24 rfl rfl (lt_ok rfl) rfl rfl rfl (lt_ok rfl) ?_
  refine TL.gno 24 rfl rfl (lt_ok rfl) rfl rfl rfl (lt_ok rfl) ?_
  refine TL.gno 24 rfl rfl (lt_ok rfl) rfl rfl rfl (lt_ok rfl) ?_
  refine TL.gno 24 rfl rfl (lt_ok rfl) rfl rfl rfl (lt_ok rfl) ?_
  refine TL.gno 24 rfl rfl (lt_ok rfl) rfl rfl rfl (lt_ok rfl) ?_
  refine TL.cons rfl (Step.pick (b := false) (p := (.one (.d (.bool false)))) rfl rfl (lt_ok rfl) rfl rfl) ?_
  refine TL.cons rfl (Step.move (p := (.one (.d (.bool false)))) rfl rfl (lt_ok rfl) rfl) ?_
  refine TL.gno 31 rfl rfl (lt_ok rfl) rfl rfl rfl (lt_ok rfl) ?_
  refine TL.gno 31 rfl rfl (lt_ok rfl) rfl rfl rfl (lt_ok rfl) ?_
  refine TL.gno 31 rfl rfl (lt_ok rfl) rfl rfl rfl (lt_ok rfl) ?_
  refine TL.gno 31 rfl rfl (lt_ok rfl) rfl rfl rfl (lt_ok rfl) ?_
  refine TL.gno 31 rfl rfl (lt_ok rfl) rfl rfl rfl (lt_ok rfl) ?_
  refine TL.cons rfl (Step.pick (b := false) (p := (.one (.d (.bool false)))) rfl rfl (lt_ok rfl) rfl rfl) ?_
  refine TL.cons rfl (Step.move (p := (.one (.d (.bool false)))) rfl rfl (lt_ok rfl) rfl) ?_
  refine TL.gno 38 rfl rfl (lt_ok rfl) rfl rfl rfl (lt_ok rfl) ?_
  refine TL.gno 38 rfl rfl (lt_ok rfl) rfl rfl rfl (lt_ok rfl) ?_
  refine TL.gno 38 rfl rfl (lt_ok rfl) rfl rfl rfl (lt_ok rfl) ?_
  refine TL.gno 38 rfl rfl (lt_ok rfl) rfl rfl rfl (lt_ok rfl) ?_
  refine TL.gno 38 rfl rfl (lt_ok rfl) rfl rfl rfl (lt_ok rfl) ?_
  refine TL.cons rfl (Step.pick (b := false) (p := (.one (.d (.bool false)))) rfl rfl (lt_ok rfl) rfl rfl) ?_
  refine TL.cons rfl (Step.assign (p := (.one (.d (.bool false)))) rfl rfl (lt_ok rfl) rfl) ?_
  refine TL.nil ?_
  refine T.weaken (E' := { tm := [(4, (.one (.d (.bool false))))], rows := [], boxes := [] }) (Env.le_mk ⟨by kernel_rfl, trivial⟩ trivial trivial) ?_
  refine T.ret ?_
  exact ⟨[(false, [.d (.bool false)])], (.cons rfl .nil), rfl, [], (RetC.rd' (by (congr 1; symm; first | (apply decide_eq_false; rintro rfl; first | exact absurd rfl ‹¬ _ = _› | exact absurd rfl (of_decide_eq_false (by assumption)) | contradiction | simp_all) | (apply decide_eq_true; apply SHead.ext <;> first | assumption | exact of_decide_eq_true (by assumption) | exact Decidable.not_not.1 (by assumption) | exact take_all hx2 (by omega) hx3 | simp_all) | (apply decide_eq_decide.2; constructor; (rintro rfl; rfl); intro h_; apply SHead.ext <;> first | assumption | exact of_decide_eq_true (by assumption) | exact Decidable.not_not.1 (by assumption) | exact take_all hx2 (by omega) hx3 | simp_all))) .nil)⟩
theorem ok_spec_BlockSame (a : SBlock) (b : SBlock) (h0_ : a.ok) (h1_ : b.ok) : RO Try.prog 69 [.agg a.cells, .agg b.cells] [(false, [.rd (.bool (decide (a = b)))])] := by
 refine RO.intro Try.func69 rfl 17 rfl (le_ok rfl) fun w Z => ?_
 obtain ⟨k0_0, k0_1⟩ := h0_
 obtain ⟨k1_0, k1_1⟩ := h1_
 refine T.seq ?_
 refine T.region ?_
 refine TL.cons rfl (Step.box (p := (.agg [.d (.int .i64 a.f0.f0), .d (.int .i64 a.f0.f1), .d (.int .i64 a.f0.f2), .d (.ints .u8 a.f0.f3), .d (.ints .u8 a.f0.f4), .d (.int .i64 a.f0.f5.f0), .d (.int .i64 a.f0.f5.f1), .d (.ints .u8 a.f0.f5.f2), .d (.ints .u8 a.f0.f5.f3), .d (.bss a.f0.f5.f4), .d (.bss a.f1)])) (ps := [.d (.int .i64 a.f0.f0), .d (.int .i64 a.f0.f1), .d (.int .i64 a.f0.f2), .d (.ints .u8 a.f0.f3), .d (.ints .u8 a.f0.f4), .d (.int .i64 a.f0.f5.f0), .d (.int .i64 a.f0.f5.f1), .d (.ints .u8 a.f0.f5.f2), .d (.ints .u8 a.f0.f5.f3), .d (.bss a.f0.f5.f4), .d (.bss a.f1)]) rfl rfl (lt_ok rfl) rfl rfl rfl rfl rfl) ?_
 refine TL.cons rfl (Step.box (p := (.agg [.d (.int .i64 b.f0.f0), .d (.int .i64 b.f0.f1), .d (.int .i64 b.f0.f2), .d (.ints .u8 b.f0.f3), .d (.ints .u8 b.f0.f4), .d (.int .i64 b.f0.f5.f0), .d (.int .i64 b.f0.f5.f1), .d (.ints .u8 b.f0.f5.f2), .d (.ints .u8 b.f0.f5.f3), .d (.bss b.f0.f5.f4), .d (.bss b.f1)])) (ps := [.d (.int .i64 b.f0.f0), .d (.int .i64 b.f0.f1), .d (.int .i64 b.f0.f2), .d (.ints .u8 b.f0.f3), .d (.ints .u8 b.f0.f4), .d (.int .i64 b.f0.f5.f0), .d (.int .i64 b.f0.f5.f1), .d (.ints .u8 b.f0.f5.f2), .d (.ints .u8 b.f0.f5.f3), .d (.bss b.f0.f5.f4), .d (.bss b.f1)]) rfl rfl (lt_ok rfl) rfl rfl rfl rfl rfl) ?_
 refine TL.cons rfl (Step.assign (p := (.one (.d (.bool false)))) rfl rfl (lt_ok rfl) rfl) ?_
 refine TL.nil ?_
 refine T.seq ?_
 refine T.region ?_
 refine TL.cons rfl (Step.fieldAddr (q := 0) (off := 0) (n := 10) (one := false) rfl rfl (lt_ok rfl) (by kernel_rfl) (Nat.succ_ne_zero _) rfl) ?_
 refine TL.cons rfl (Step.load_box_agg (n := 10) (qs := [.d (.int .i64 a.f0.f0), .d (.int .i64 a.f0.f1), .d (.int .i64 a.f0.f2), .d (.ints .u8 a.f0.f3), .d (.ints .u8 a.f0.f4), .d (.int .i64 a.f0.f5.f0), .d (.int .i64 a.f0.f5.f1), .d (.ints .u8 a.f0.f5.f2), .d (.ints .u8 a.f0.f5.f3), .d (.bss a.f0.f5.f4)]) rfl rfl (lt_ok rfl) (by kernel_rfl) rfl rfl rfl rfl) ?_
 refine TL.cons rfl (Step.fieldAddr (q := 0) (off := 0) (n := 10) (one := false) rfl rfl (lt_ok rfl) (by kernel_rfl) (Nat.succ_ne_zero _) rfl) ?_
 refine TL.cons rfl (Step.load_box_agg (n := 10) (qs := [.d (.int .i64 b.f0.f0), .d (.int .i64 b.f0.f1), .d (.int .i64 b.f0.f2), .d (.ints .u8 b.f0.f3), .d (.ints .u8 b.f0.f4), .d (.int .i64 b.f0.f5.f0), .d (.int .i64 b.f0.f5.f1), .d (.ints .u8 b.f0.f5.f2), .d (.ints .u8 b.f0.f5.f3), .d (.bss b.f0.f5.f4)]) rfl rfl (lt_ok rfl) (by kernel_rfl) rfl rfl rfl rfl) ?_
 refine TL.cons rfl (Step.call (f := 68) (xs := [.tmp 6, .tmp 8]) (ps := [(.agg [.d (.int .i64 a.f0.f0), .d (.int .i64 a.f0.f1), .d (.int .i64 a.f0.f2), .d (.ints .u8 a.f0.f3), .d (.ints .u8 a.f0.f4), .d (.int .i64 a.f0.f5.f0), .d (.int .i64 a.f0.f5.f1), .d (.ints .u8 a.f0.f5.f2), .d (.ints .u8 a.f0.f5.f3), .d (.bss a.f0.f5.f4)]), (.agg [.d (.int .i64 b.f0.f0), .d (.int .i64 b.f0.f1), .d (.int .i64 b.f0.f2), .d (.ints .u8 b.f0.f3), .d (.ints .u8 b.f0.f4), .d (.int .i64 b.f0.f5.f0), .d (.int .i64 b.f0.f5.f1), .d (.ints .u8 b.f0.f5.f2), .d (.ints .u8 b.f0.f5.f3), .d (.bss b.f0.f5.f4)])]) false (g := .func 68) rfl rfl (lt_ok rfl) rfl (by kernel_rfl) rfl (.cons (.agg (.cons (.d _) (.cons (.d _) (.cons (.d _) (.cons (.d _) (.cons (.d _) (.cons (.d _) (.cons (.d _) (.cons (.d _) (.cons (.d _) (.cons (.d _) .nil))))))))))) (.cons (.agg (.cons (.d _) (.cons (.d _) (.cons (.d _) (.cons (.d _) (.cons (.d _) (.cons (.d _) (.cons (.d _) (.cons (.d _) (.cons (.d _) (.cons (.d _) .nil))))))))))) .nil)) (ok_spec_HeadSame a.f0 b.f0 (by first | assumption | exact mem_getD h0_ (by omega) | exact mem_getD h1_ (by omega) | exact m0_ (by omega) | exact m1_ (by omega) | exact (m0_ (by omega)).2.2 | exact (m1_ (by omega)).2.2) (by first | assumption | exact mem_getD h0_ (by omega) | exact mem_getD h1_ (by omega) | exact m0_ (by omega) | exact m1_ (by omega) | exact (m0_ (by omega)).2.2 | exact (m1_ (by omega)).2.2)) (.inr rfl) rfl (by simp) rfl) ?_
 refine TL.cons rfl (Step.move (p := (.one (.d (.bool (decide (a.f0 = b.f0)))))) rfl rfl (lt_ok rfl) rfl) ?_
 rcases Bool.eq_false_or_eq_true (decide (a.f0 = b.f0)) with hb1 | hb1
 ·
  refine TL.known 10 hb1 rfl ?_
  refine TL.gyes 10 rfl rfl (lt_ok rfl) rfl (Step.fieldAddr (q := 0) (off := 10) (n := 1) (one := true) rfl rfl (lt_ok rfl) (by kernel_rfl) (Nat.succ_ne_zero _) rfl) ?_
  refine TL.gyes 10 rfl rfl (lt_ok rfl) rfl (Step.load_box (c := .d (.bss a.f1)) rfl rfl (lt_ok rfl) (by kernel_rfl) rfl rfl rfl) ?_
  refine TL.gyes 10 rfl rfl (lt_ok rfl) rfl (Step.fieldAddr (q := 0) (off := 10) (n := 1) (one := true) rfl rfl (lt_ok rfl) (by kernel_rfl) (Nat.succ_ne_zero _) rfl) ?_
  refine TL.gyes 10 rfl rfl (lt_ok rfl) rfl (Step.load_box (c := .d (.bss b.f1)) rfl rfl (lt_ok rfl) (by kernel_rfl) rfl rfl rfl) ?_
  refine TL.gyes 10 rfl rfl (lt_ok rfl) rfl (Step.call (f := 101) (xs := [.tmp 12, .tmp 14]) (ps := [(.one (.d (.bss a.f1))), (.one (.d (.bss b.f1)))]) false (g := .func 101) rfl rfl (lt_ok rfl) rfl (by kernel_rfl) rfl (.cons (.one (.d _)) (.cons (.one (.d _)) .nil)) (ok_spec_TreeSame a.f1 b.f1 (by first | assumption | exact mem_getD h0_ (by omega) | exact mem_getD h1_ (by omega) | exact m0_ (by omega) | exact m1_ (by omega) | exact (m0_ (by omega)).2.2 | exact (m1_ (by omega)).2.2) (by first | assumption | exact mem_getD h0_ (by omega) | exact mem_getD h1_ (by omega) | exact m0_ (by omega) | exact m1_ (by omega) | exact (m0_ (by omega)).2.2 | exact (m1_ (by omega)).2.2)) (.inr rfl) rfl (by simp) rfl) ?_
  refine TL.cons rfl (Step.pick (b := true) (p := (.one (.d (.bool (decide (a.f1 = b.f1)))))) rfl rfl (lt_ok rfl) rfl rfl) ?_
  refine TL.cons rfl (Step.assign (p := (.one (.d (.bool (decide (a.f1 = b.f1)))))) rfl rfl (lt_ok rfl) rfl) ?_
  refine TL.nil ?_
  refine T.ret ?_
  exact ⟨[(false, [.d (.bool (decide (a.f1 = b.f1)))])], (.cons rfl .nil), rfl, [], (RetC.rd' (by (congr 1; symm; first | (apply decide_eq_false; rintro rfl; first | exact absurd rfl ‹¬ _ = _› | exact absurd rfl (of_decide_eq_false (by assumption)) | contradiction | simp_all) | (apply decide_eq_true; apply SBlock.ext <;> first | assumption | exact of_decide_eq_true (by assumption) | exact Decidable.not_not.1 (by assumption) | exact take_all hx2 (by omega) hx3 | simp_all) | (apply decide_eq_decide.2; constructor; (rintro rfl; rfl); intro h_; apply SBlock.ext <;> first | assumption | exact of_decide_eq_true (by assumption) | exact Decidable.not_not.1 (by assumption) | exact take_all hx2 (by omega) hx3 | simp_all))) .nil)⟩
 ·
  refine TL.known 10 hb1 rfl ?_
  refine TL.gno 10 rfl rfl (lt_ok rfl) rfl rfl rfl (lt_ok rfl) ?_
  refine TL.gno 10 rfl rfl (lt_ok rfl) rfl rfl rfl (lt_ok rfl) ?_
  refine TL.gno 10 rfl rfl (lt_ok rfl) rfl rfl rfl (lt_ok rfl) ?_
  refine TL.gno 10 rfl rfl (lt_ok rfl) rfl rfl rfl (lt_ok rfl) ?_
  refine TL.gno 10 rfl rfl (lt_ok rfl) rfl rfl rfl (lt_ok rfl) ?_
  refine TL.cons rfl (Step.pick (b := false) (p := (.one (.d (.bool false)))) rfl rfl (lt_ok rfl) rfl rfl) ?_
  refine TL.cons rfl (Step.assign (p := (.one (.d (.bool false)))) rfl rfl (lt_ok rfl) rfl) ?_
  refine TL.nil ?_
  refine T.ret ?_
  exact ⟨[(false, [.d (.bool false)])], (.cons rfl .nil), rfl, [], (RetC.rd' (by (congr 1; symm; first | (apply decide_eq_false; rintro rfl; first | exact absurd rfl ‹¬ _ = _› | exact absurd rfl (of_decide_eq_false (by assumption)) | contradiction | simp_all) | (apply decide_eq_true; apply SBlock.ext <;> first | assumption | exact of_decide_eq_true (by assumption) | exact Decidable.not_not.1 (by assumption) | exact take_all hx2 (by omega) hx3 | simp_all) | (apply decide_eq_decide.2; constructor; (rintro rfl; rfl); intro h_; apply SBlock.ext <;> first | assumption | exact of_decide_eq_true (by assumption) | exact Decidable.not_not.1 (by assumption) | exact take_all hx2 (by omega) hx3 | simp_all))) .nil)⟩
theorem ok_spec_TcSame (a : STc) (b : STc) (h0_ : a.ok) (h1_ : b.ok) : RO Try.prog 70 [.agg a.cells, .agg b.cells] [(false, [.rd (.bool (decide (a = b)))])] := by
 refine RO.intro Try.func70 rfl 56 rfl (le_ok rfl) fun w Z => ?_
 refine T.bnd 0 1 rfl rfl fun hb_0_1 => ?_
 simp only [D.size, List.length_map] at hb_0_1
 refine T.bnd 1 1 rfl rfl fun hb_1_1 => ?_
 simp only [D.size, List.length_map] at hb_1_1
 obtain ⟨k0_0, k0_1⟩ := h0_
 obtain ⟨k1_0, k1_1⟩ := h1_
 refine T.seq ?_
 refine T.region ?_
 refine TL.cons rfl (Step.box (p := (.agg [.d (.int .i64 a.f0), .d (.sl 3 (a.f1.map SEntry.cells))])) (ps := [.d (.int .i64 a.f0), .d (.sl 3 (a.f1.map SEntry.cells))]) rfl rfl (lt_ok rfl) rfl rfl rfl rfl rfl) ?_
 refine TL.cons rfl (Step.box (p := (.agg [.d (.int .i64 b.f0), .d (.sl 3 (b.f1.map SEntry.cells))])) (ps := [.d (.int .i64 b.f0), .d (.sl 3 (b.f1.map SEntry.cells))]) rfl rfl (lt_ok rfl) rfl rfl rfl rfl rfl) ?_
 refine TL.cons rfl (Step.assign (p := (.one (.d (.bool false)))) rfl rfl (lt_ok rfl) rfl) ?_
 refine TL.nil ?_
 refine T.seq ?_
 refine T.seq ?_
 refine T.region ?_
 refine TL.cons rfl (Step.fieldAddr (q := 0) (off := 0) (n := 1) (one := true) rfl rfl (lt_ok rfl) (by kernel_rfl) (Nat.succ_ne_zero _) rfl) ?_
 refine TL.cons rfl (Step.load_box (c := .d (.int .i64 a.f0)) rfl rfl (lt_ok rfl) (by kernel_rfl) rfl rfl rfl) ?_
 refine TL.cons rfl (Step.fieldAddr (q := 0) (off := 0) (n := 1) (one := true) rfl rfl (lt_ok rfl) (by kernel_rfl) (Nat.succ_ne_zero _) rfl) ?_
 refine TL.cons rfl (Step.load_box (c := .d (.int .i64 b.f0)) rfl rfl (lt_ok rfl) (by kernel_rfl) rfl rfl rfl) ?_
 refine TL.cons rfl (Step.bin rfl rfl (lt_ok rfl) rfl rfl (Bin.neq (k := .i64) (a := a.f0) (b := b.f0))) ?_
 refine TL.cons rfl (Step.move (p := (.one (.d (.bool (decide (a.f0 ≠ b.f0)))))) rfl rfl (lt_ok rfl) rfl) ?_
 rcases Bool.eq_false_or_eq_true (decide (a.f0 ≠ b.f0)) with hb1 | hb1
 ·
  refine TL.known 13 hb1 rfl ?_
  refine TL.gno 13 rfl rfl (lt_ok rfl) rfl rfl rfl (lt_ok rfl) ?_
  refine TL.gno 13 rfl rfl (lt_ok rfl) rfl rfl rfl (lt_ok rfl) ?_
  refine TL.gno 13 rfl rfl (lt_ok rfl) rfl rfl rfl (lt_ok rfl) ?_
  refine TL.gno 13 rfl rfl (lt_ok rfl) rfl rfl rfl (lt_ok rfl) ?_
  refine TL.gno 13 rfl rfl (lt_ok rfl) rfl rfl rfl (lt_ok rfl) ?_
  refine TL.gno 13 rfl rfl (lt_ok rfl) rfl rfl rfl (lt_ok rfl) ?_
  refine TL.gno 13 rfl rfl (lt_ok rfl) rfl rfl rfl (lt_ok rfl) ?_
  refine TL.cons rfl (Step.pick (b := true) (p := (.one (.d (.bool true)))) rfl rfl (lt_ok rfl) rfl rfl) ?_
  refine TL.nil ?_
  refine T.cond (b := true) rfl (fun h2_ => ?_) (fun h2_ => absurd h2_ (by simp))
  refine T.seq ?_
  refine T.region ?_
  refine TL.cons rfl (Step.assign (p := (.one (.d (.bool false)))) rfl rfl (lt_ok rfl) rfl) ?_
  refine TL.nil ?_
  refine T.ret ?_
  exact ⟨[(false, [.d (.bool false)])], (.cons rfl .nil), rfl, [], (RetC.rd' (by (congr 1; symm; first | (apply decide_eq_false; rintro rfl; first | exact absurd rfl ‹¬ _ = _› | exact absurd rfl (of_decide_eq_false (by assumption)) | contradiction | simp_all) | (apply decide_eq_true; apply STc.ext <;> first | assumption | exact of_decide_eq_true (by assumption) | exact Decidable.not_not.1 (by assumption) | exact take_all hx2 (by omega) hx3 | simp_all) | (apply decide_eq_decide.2; constructor; (rintro rfl; rfl); intro h_; apply STc.ext <;> first | assumption | exact of_decide_eq_true (by assumption) | exact Decidable.not_not.1 (by assumption) | exact take_all hx2 (by omega) hx3 | simp_all))) .nil)⟩
 ·
  refine TL.known 13 hb1 rfl ?_
  refine TL.gyes 13 rfl rfl (lt_ok rfl) rfl (Step.fieldAddr (q := 0) (off := 1) (n := 1) (one := true) rfl rfl (lt_ok rfl) (by kernel_rfl) (Nat.succ_ne_zero _) rfl) ?_
  refine TL.gyes 13 rfl rfl (lt_ok rfl) rfl (Step.load_box (c := .d (.sl 3 (a.f1.map SEntry.cells))) rfl rfl (lt_ok rfl) (by kernel_rfl) rfl rfl rfl) ?_
  refine TL.gyes 13 rfl rfl (lt_ok rfl) rfl (Step.len' (e := 127) (z := 3) (d := (.sl 3 (a.f1.map SEntry.cells))) (n := a.f1.length) rfl rfl (lt_ok rfl) (by kernel_rfl) rfl rfl (by simp [D.size])) ?_
  refine TL.gyes 13 rfl rfl (lt_ok rfl) rfl (Step.fieldAddr (q := 0) (off := 1) (n := 1) (one := true) rfl rfl (lt_ok rfl) (by kernel_rfl) (Nat.succ_ne_zero _) rfl) ?_
  refine TL.gyes 13 rfl rfl (lt_ok rfl) rfl (Step.load_box (c := .d (.sl 3 (b.f1.map SEntry.cells))) rfl rfl (lt_ok rfl) (by kernel_rfl) rfl rfl rfl) ?_
  refine TL.gyes 13 rfl rfl (lt_ok rfl) rfl (Step.len' (e := 127) (z := 3) (d := (.sl 3 (b.f1.map SEntry.cells))) (n := b.f1.length) rfl rfl (lt_ok rfl) (by kernel_rfl) rfl rfl (by simp [D.size])) ?_
  refine TL.gyes 13 rfl rfl (lt_ok rfl) rfl (Step.bin rfl rfl (lt_ok rfl) rfl rfl (Bin.neq (k := .i64) (a := (a.f1.length : Int)) (b := (b.f1.length : Int)))) ?_
  refine TL.cons rfl (Step.pick (b := false) (p := (.one (.d (.bool (decide ((a.f1.length : Int) ≠ (b.f1.length : Int))))))) rfl rfl (lt_ok rfl) rfl rfl) ?_
  refine TL.nil ?_
  refine T.cond (b := decide ((a.f1.length : Int) ≠ (b.f1.length : Int))) rfl (fun h3 => ?_) (fun h3 => ?_)
  ·
   replace h3 := of_decide_eq_true h3
   refine T.seq ?_
   refine T.region ?_
   refine TL.cons rfl (Step.assign (p := (.one (.d (.bool false)))) rfl rfl (lt_ok rfl) rfl) ?_
   refine TL.nil ?_
   refine T.ret ?_
   exact ⟨[(false, [.d (.bool false)])], (.cons rfl .nil), rfl, [], (RetC.rd' (by (congr 1; symm; first | (apply decide_eq_false; rintro rfl; first | exact absurd rfl ‹¬ _ = _› | exact absurd rfl (of_decide_eq_false (by assumption)) | contradiction | simp_all) | (apply decide_eq_true; apply STc.ext <;> first | assumption | exact of_decide_eq_true (by assumption) | exact Decidable.not_not.1 (by assumption) | exact take_all hx2 (by omega) hx3 | simp_all) | (apply decide_eq_decide.2; constructor; (rintro rfl; rfl); intro h_; apply STc.ext <;> first | assumption | exact of_decide_eq_true (by assumption) | exact Decidable.not_not.1 (by assumption) | exact take_all hx2 (by omega) hx3 | simp_all))) .nil)⟩
  ·
   replace h3 := of_decide_eq_false h3
   refine T.skip ?_
   refine T.seq ?_
   refine T.seq ?_
   refine T.region ?_
   refine TL.cons rfl (Step.fieldAddr (q := 0) (off := 1) (n := 1) (one := true) rfl rfl (lt_ok rfl) (by kernel_rfl) (Nat.succ_ne_zero _) rfl) ?_
   refine TL.cons rfl (Step.load_box (c := .d (.sl 3 (a.f1.map SEntry.cells))) rfl rfl (lt_ok rfl) (by kernel_rfl) rfl rfl rfl) ?_
   refine TL.cons rfl (Step.len' (e := 127) (z := 3) (d := (.sl 3 (a.f1.map SEntry.cells))) (n := a.f1.length) rfl rfl (lt_ok rfl) (by kernel_rfl) rfl rfl (by simp [D.size])) ?_
   refine TL.cons rfl (Step.move (p := (.one (.d (.int .i64 0)))) rfl rfl (lt_ok rfl) rfl) ?_
   refine TL.nil ?_
   refine T.block ?_
   refine T.loop (ι := Nat) (fun x => { tm := [(3, (.one (.ptr 3 0))), (23, (.one (.d (.sl 3 (a.f1.map SEntry.cells))))), (24, (.one (.d (.int .i64 (a.f1.length : Int))))), (25, (.one (.d (.int .i64 (x : Int)))))], rows := [], boxes := [(2, (36, [.d (.int .i64 a.f0), .d (.sl 3 (a.f1.map SEntry.cells))])), (3, (36, [.d (.int .i64 b.f0), .d (.sl 3 (b.f1.map SEntry.cells))]))] }) (fun x => x ≤ a.f1.length ∧ a.f1.length = b.f1.length ∧ a.f1.take x = b.f1.take x) (fun x => a.f1.length - x) 0 ?_ ?_ ?_
   · exact Env.le_mk ⟨rfl, rfl, rfl, by first | rfl | (simp; done) | (congr 3; omega), trivial⟩ trivial ⟨rfl, rfl, trivial⟩
   · (refine ⟨Nat.zero_le _, by omega, by simp⟩)
   ·
    intro i hx
    try dsimp only at hx ⊢
    obtain ⟨hx1, hx2, hx3⟩ := hx
    have m0_ := fun (hi : i < a.f1.length) => mem_getD (d := default) k0_1 hi
    have m1_ := fun (hi : i < b.f1.length) => mem_getD (d := default) k1_1 hi
    refine T.seq ?_
    refine T.region ?_
    refine TL.cons rfl (Step.bin rfl rfl (lt_ok rfl) rfl rfl (Bin.lss (k := .i64) (a := (i : Int)) (b := (a.f1.length : Int)))) ?_
    refine TL.nil ?_
    refine T.seq ?_
    refine T.cond (b := decide ((i : Int) < (a.f1.length : Int))) rfl (fun h4 => ?_) (fun h4 => ?_)
    ·
     replace h4 := of_decide_eq_true h4
     refine T.skip ?_
     refine T.seq ?_
     refine T.block ?_
     refine T.seq ?_
     refine T.region ?_
     refine TL.cons rfl (Step.move (p := (.one (.d (.int .i64 (i : Int))))) rfl rfl (lt_ok rfl) rfl) ?_
     refine TL.cons rfl (Step.index (e := 127) (z := 3) (i := (i : Int)) rfl rfl (lt_ok rfl) (by kernel_rfl) rfl rfl rfl (lt_ok rfl) rfl (by first | omega | (simp; omega)) (by simp only [D.size]; first | omega | (simp; omega))) ?_
     refine TL.cons rfl (Step.load_agg (n := 3) (cs := [.d (.int .i64 (a.f1.getD i default).f0), .d (.int .i64 (a.f1.getD i default).f1), .d (.ints .u8 (a.f1.getD i default).f2)]) rfl rfl (lt_ok rfl) (by kernel_rfl) rfl rfl (by simp only [List.range, List.range.loop, List.map_cons, List.map_nil]; rw [cell_map default (by first | omega | (simp; omega)), cell_map default (by first | omega | (simp; omega)), cell_map default (by first | omega | (simp; omega))]; rfl)) ?_
     refine TL.cons rfl (Step.alloc (cs := [.int .i64 0, .int .i64 0, .slice none 0 0]) (ps := [.d (.int .i64 0), .d (.int .i64 0), .nil]) rfl rfl (lt_ok rfl) (by kernel_rfl) rfl rfl rfl rfl) ?_
     refine TL.cons rfl (Step.assign (p := (.one (.d (.int .i64 (i : Int))))) rfl rfl (lt_ok rfl) rfl) ?_
     refine TL.cons rfl (Step.store_box (n := 3) (p := (.agg [.d (.int .i64 (a.f1.getD i default).f0), .d (.int .i64 (a.f1.getD i default).f1), .d (.ints .u8 (a.f1.getD i default).f2)])) (qs := [.d (.int .i64 (a.f1.getD i default).f0), .d (.int .i64 (a.f1.getD i default).f1), .d (.ints .u8 (a.f1.getD i default).f2)]) (ps' := [.d (.int .i64 (a.f1.getD i default).f0), .d (.int .i64 (a.f1.getD i default).f1), .d (.ints .u8 (a.f1.getD i default).f2)]) rfl rfl (by kernel_rfl) rfl rfl rfl rfl rfl rfl (le_ok rfl) rfl) ?_
     refine TL.nil ?_
     refine T.seq ?_
     refine T.region ?_
     refine TL.cons rfl (Step.fieldAddr (q := 0) (off := 1) (n := 1) (one := true) rfl rfl (lt_ok rfl) (by kernel_rfl) (Nat.succ_ne_zero _) rfl) ?_
     refine TL.cons rfl (Step.load_box (c := .d (.sl 3 (b.f1.map SEntry.cells))) rfl rfl (lt_ok rfl) (by kernel_rfl) rfl rfl rfl) ?_
     refine TL.cons rfl (Step.move (p := (.one (.d (.int .i64 (i : Int))))) rfl rfl (lt_ok rfl) rfl) ?_
     refine TL.cons rfl (Step.index (e := 127) (z := 3) (i := (i : Int)) rfl rfl (lt_ok rfl) (by kernel_rfl) rfl rfl rfl (lt_ok rfl) rfl (by first | omega | (simp; omega)) (by simp only [D.size]; first | omega | (simp; omega))) ?_
     refine TL.cons rfl (Step.load_agg (n := 3) (cs := [.d (.int .i64 (b.f1.getD i default).f0), .d (.int .i64 (b.f1.getD i default).f1), .d (.ints .u8 (b.f1.getD i default).f2)]) rfl rfl (lt_ok rfl) (by kernel_rfl) rfl rfl (by simp only [List.range, List.range.loop, List.map_cons, List.map_nil]; rw [cell_map default (by first | omega | (simp; omega)), cell_map default (by first | omega | (simp; omega)), cell_map default (by first | omega | (simp; omega))]; rfl)) ?_
     refine TL.cons rfl (Step.alloc (cs := [.int .i64 0, .int .i64 0, .slice none 0 0]) (ps := [.d (.int .i64 0), .d (.int .i64 0), .nil]) rfl rfl (lt_ok rfl) (by kernel_rfl) rfl rfl rfl rfl) ?_
     refine TL.cons rfl (Step.store_box (n := 3) (p := (.agg [.d (.int .i64 (b.f1.getD i default).f0), .d (.int .i64 (b.f1.getD i default).f1), .d (.ints .u8 (b.f1.getD i default).f2)])) (qs := [.d (.int .i64 (b.f1.getD i default).f0), .d (.int .i64 (b.f1.getD i default).f1), .d (.ints .u8 (b.f1.getD i default).f2)]) (ps' := [.d (.int .i64 (b.f1.getD i default).f0), .d (.int .i64 (b.f1.getD i default).f1), .d (.ints .u8 (b.f1.getD i default).f2)]) rfl rfl (by kernel_rfl) rfl rfl rfl rfl rfl rfl (le_ok rfl) rfl) ?_
     refine TL.nil ?_
     refine T.seq ?_
     refine T.region ?_
     refine TL.cons rfl (Step.fieldAddr (q := 0) (off := 0) (n := 1) (one := true) rfl rfl (lt_ok rfl) (by kernel_rfl) (Nat.succ_ne_zero _) rfl) ?_
     refine TL.cons rfl (Step.load_box (c := .d (.int .i64 (a.f1.getD i default).f0)) rfl rfl (lt_ok rfl) (by kernel_rfl) rfl rfl rfl) ?_
     refine TL.cons rfl (Step.fieldAddr (q := 0) (off := 0) (n := 1) (one := true) rfl rfl (lt_ok rfl) (by kernel_rfl) (Nat.succ_ne_zero _) rfl) ?_
     refine TL.cons rfl (Step.load_box (c := .d (.int .i64 (b.f1.getD i default).f0)) rfl rfl (lt_ok rfl) (by kernel_rfl) rfl rfl rfl) ?_
     refine TL.cons rfl (Step.bin rfl rfl (lt_ok rfl) rfl rfl (Bin.neq (k := .i64) (a := (a.f1.getD i default).f0) (b := (b.f1.getD i default).f0))) ?_
     refine TL.cons rfl (Step.move (p := (.one (.d (.bool (decide ((a.f1.getD i default).f0 ≠ (b.f1.getD i default).f0)))))) rfl rfl (lt_ok rfl) rfl) ?_
     rcases Bool.eq_false_or_eq_true (decide ((a.f1.getD i default).f0 ≠ (b.f1.getD i default).f0)) with hb5 | hb5
     ·
      refine TL.known 40 hb5 rfl ?_
      refine TL.gno 40 rfl rfl (lt_ok rfl) rfl rfl rfl (lt_ok rfl) ?_
      refine TL.gno 40 rfl rfl (lt_ok rfl) rfl rfl rfl (lt_ok rfl) ?_
      refine TL.gno 40 rfl rfl (lt_ok rfl) rfl rfl rfl (lt_ok rfl) ?_
      refine TL.gno 40 rfl rfl (lt_ok rfl) rfl rfl rfl (lt_ok rfl) ?_
      refine TL.gno 40 rfl rfl (lt_ok rfl) rfl rfl rfl (lt_ok rfl) ?_
      refine TL.cons rfl (Step.pick (b := true) (p := (.one (.d (.bool true)))) rfl rfl (lt_ok rfl) rfl rfl) ?_
      refine TL.cons rfl (Step.move (p := (.one (.d (.bool true)))) rfl rfl (lt_ok rfl) rfl) ?_
      refine TL.gno 47 rfl rfl (lt_ok rfl) rfl rfl rfl (lt_ok rfl) ?_
      refine TL.gno 47 rfl rfl (lt_ok rfl) rfl rfl rfl (lt_ok rfl) ?_
      refine TL.gno 47 rfl rfl (lt_ok rfl) rfl rfl rfl (lt_ok rfl) ?_
      refine TL.gno 47 rfl rfl (lt_ok rfl) rfl rfl rfl (lt_ok rfl) ?_
      refine TL.gno 47 rfl rfl (lt_ok rfl) rfl rfl rfl (lt_ok rfl) ?_
      refine TL.gno 47 rfl rfl (lt_ok rfl) rfl rfl rfl (lt_ok rfl) ?_
      refine TL.cons rfl (Step.pick (b := true) (p := (.one (.d (.bool true)))) rfl rfl (lt_ok rfl) rfl rfl) ?_
      refine TL.nil ?_
      refine T.cond (b := true) rfl (fun h6_ => ?_) (fun h6_ => absurd h6_ (by simp))
      refine T.seq ?_
      refine T.region ?_
      refine TL.cons rfl (Step.assign (p := (.one (.d (.bool false)))) rfl rfl (lt_ok rfl) rfl) ?_
      refine TL.nil ?_
      refine T.ret ?_
      exact ⟨[(false, [.d (.bool false)])], (.cons rfl .nil), rfl, [], (RetC.rd' (by (congr 1; symm; first | (apply decide_eq_false; rintro rfl; first | exact absurd rfl ‹¬ _ = _› | exact absurd rfl (of_decide_eq_false (by assumption)) | contradiction | simp_all) | (apply decide_eq_true; apply STc.ext <;> first | assumption | exact of_decide_eq_true (by assumption) | exact Decidable.not_not.1 (by assumption) | exact take_all hx2 (by omega) hx3 | simp_all) | (apply decide_eq_decide.2; constructor; (rintro rfl; rfl); intro h_; apply STc.ext <;> first | assumption | exact of_decide_eq_true (by assumption) | exact Decidable.not_not.1 (by assumption) | exact take_all hx2 (by omega) hx3 | simp_all))) .nil)⟩
     ·
      refine TL.known 40 hb5 rfl ?_
      refine TL.gyes 40 rfl rfl (lt_ok rfl) rfl (Step.fieldAddr (q := 0) (off := 1) (n := 1) (one := true) rfl rfl (lt_ok rfl) (by kernel_rfl) (Nat.succ_ne_zero _) rfl) ?_
      refine TL.gyes 40 rfl rfl (lt_ok rfl) rfl (Step.load_box (c := .d (.int .i64 (a.f1.getD i default).f1)) rfl rfl (lt_ok rfl) (by kernel_rfl) rfl rfl rfl) ?_
      refine TL.gyes 40 rfl rfl (lt_ok rfl) rfl (Step.fieldAddr (q := 0) (off := 1) (n := 1) (one := true) rfl rfl (lt_ok rfl) (by kernel_rfl) (Nat.succ_ne_zero _) rfl) ?_
      refine TL.gyes 40 rfl rfl (lt_ok rfl) rfl (Step.load_box (c := .d (.int .i64 (b.f1.getD i default).f1)) rfl rfl (lt_ok rfl) (by kernel_rfl) rfl rfl rfl) ?_
      refine TL.gyes 40 rfl rfl (lt_ok rfl) rfl (Step.bin rfl rfl (lt_ok rfl) rfl rfl (Bin.neq (k := .i64) (a := (a.f1.getD i default).f1) (b := (b.f1.getD i default).f1))) ?_
      refine TL.cons rfl (Step.pick (b := false) (p := (.one (.d (.bool (decide ((a.f1.getD i default).f1 ≠ (b.f1.getD i default).f1)))))) rfl rfl (lt_ok rfl) rfl rfl) ?_
      refine TL.cons rfl (Step.move (p := (.one (.d (.bool (decide ((a.f1.getD i default).f1 ≠ (b.f1.getD i default).f1)))))) rfl rfl (lt_ok rfl) rfl) ?_
      rcases Bool.eq_false_or_eq_true (decide ((a.f1.getD i default).f1 ≠ (b.f1.getD i default).f1)) with hb7 | hb7
      ·
       refine TL.known 47 hb7 rfl ?_
       refine TL.gno 47 rfl rfl (lt_ok rfl) rfl rfl rfl (lt_ok rfl) ?_
       refine TL.gno 47 rfl rfl (lt_ok rfl) rfl rfl rfl (lt_ok rfl) ?_
       refine TL.gno 47 rfl rfl (lt_ok rfl) rfl rfl rfl (lt_ok rfl) ?_
       refine TL.gno 47 rfl rfl (lt_ok rfl) rfl rfl rfl (lt_ok rfl) ?_
       refine TL.gno 47 rfl rfl (lt_ok rfl) rfl rfl rfl (lt_ok rfl) ?_
       refine TL.gno 47 rfl rfl (lt_ok rfl) rfl rfl rfl (lt_ok rfl) ?_
       refine TL.cons rfl (Step.pick (b := true) (p := (.one (.d (.bool true)))) rfl rfl (lt_ok rfl) rfl rfl) ?_
       refine TL.nil ?_
       refine T.cond (b := true) rfl (fun h8_ => ?_) (fun h8_ => absurd h8_ (by simp))
       refine T.seq ?_
       refine T.region ?_
       refine TL.cons rfl (Step.assign (p := (.one (.d (.bool false)))) rfl rfl (lt_ok rfl) rfl) ?_
       refine TL.nil ?_
       refine T.ret ?_
       exact ⟨[(false, [.d (.bool false)])], (.cons rfl .nil), rfl, [], (RetC.rd' (by (congr 1; symm; first | (apply decide_eq_false; rintro rfl; first | exact absurd rfl ‹¬ _ = _› | exact absurd rfl (of_decide_eq_false (by assumption)) | contradiction | simp_all) | (apply decide_eq_true; apply STc.ext <;> first | assumption | exact of_decide_eq_true (by assumption) | exact Decidable.not_not.1 (by assumption) | exact take_all hx2 (by omega) hx3 | simp_all) | (apply decide_eq_decide.2; constructor; (rintro rfl; rfl); intro h_; apply STc.ext <;> first | assumption | exact of_decide_eq_true (by assumption) | exact Decidable.not_not.1 (by assumption) | exact take_all hx2 (by omega) hx3 | simp_all))) .nil)⟩
      ·
       refine TL.known 47 hb7 rfl ?_
       refine TL.gyes 47 rfl rfl (lt_ok rfl) rfl (Step.fieldAddr (q := 0) (off := 2) (n := 1) (one := true) rfl rfl (lt_ok rfl) (by kernel_rfl) (Nat.succ_ne_zero _) rfl) ?_
       refine TL.gyes 47 rfl rfl (lt_ok rfl) rfl (Step.load_box (c := .d (.ints .u8 (a.f1.getD i default).f2)) rfl rfl (lt_ok rfl) (by kernel_rfl) rfl rfl rfl) ?_
       refine TL.gyes 47 rfl rfl (lt_ok rfl) rfl (Step.fieldAddr (q := 0) (off := 2) (n := 1) (one := true) rfl rfl (lt_ok rfl) (by kernel_rfl) (Nat.succ_ne_zero _) rfl) ?_
       refine TL.gyes 47 rfl rfl (lt_ok rfl) rfl (Step.load_box (c := .d (.ints .u8 (b.f1.getD i default).f2)) rfl rfl (lt_ok rfl) (by kernel_rfl) rfl rfl rfl) ?_
       refine TL.gyes 47 rfl rfl (lt_ok rfl) rfl (Step.call (f := 100) (xs := [.tmp 49, .tmp 51]) (ps := [(.one (.d (.ints .u8 (a.f1.getD i default).f2))), (.one (.d (.ints .u8 (b.f1.getD i default).f2)))]) false (g := .func 100) rfl rfl (lt_ok rfl) rfl (by kernel_rfl) rfl (.cons (.one (.d _)) (.cons (.one (.d _)) .nil)) (ok_spec_SameBytes (a.f1.getD i default).f2 (b.f1.getD i default).f2 (by first | assumption | exact mem_getD h0_ (by omega) | exact mem_getD h1_ (by omega) | exact m0_ (by omega) | exact m1_ (by omega) | exact (m0_ (by omega)).2.2 | exact (m1_ (by omega)).2.2) (by first | assumption | exact mem_getD h0_ (by omega) | exact mem_getD h1_ (by omega) | exact m0_ (by omega) | exact m1_ (by omega) | exact (m0_ (by omega)).2.2 | exact (m1_ (by omega)).2.2)) (.inr rfl) rfl (by simp) rfl) ?_
       refine TL.gyes 47 rfl rfl (lt_ok rfl) rfl (Step.not (b := (decide ((a.f1.getD i default).f2 = (b.f1.getD i default).f2))) rfl rfl (lt_ok rfl) rfl) ?_
       refine TL.cons rfl (Step.pick (b := false) (p := (.one (.d (.bool (!(decide ((a.f1.getD i default).f2 = (b.f1.getD i default).f2))))))) rfl rfl (lt_ok rfl) rfl rfl) ?_
       refine TL.nil ?_
       refine T.cond (b := !(decide ((a.f1.getD i default).f2 = (b.f1.getD i default).f2))) rfl (fun h9 => ?_) (fun h9 => ?_)
       ·
        replace h9 : (decide ((a.f1.getD i default).f2 = (b.f1.getD i default).f2)) = false := by simpa only [Bool.not_eq_true', Bool.not_eq_false'] using h9
        replace h9 := of_decide_eq_false h9
        refine T.seq ?_
        refine T.region ?_
        refine TL.cons rfl (Step.assign (p := (.one (.d (.bool false)))) rfl rfl (lt_ok rfl) rfl) ?_
        refine TL.nil ?_
        refine T.ret ?_
        exact ⟨[(false, [.d (.bool false)])], (.cons rfl .nil), rfl, [], (RetC.rd' (by (congr 1; symm; first | (apply decide_eq_false; rintro rfl; first | exact absurd rfl ‹¬ _ = _› | exact absurd rfl (of_decide_eq_false (by assumption)) | contradiction | simp_all) | (apply decide_eq_true; apply STc.ext <;> first | assumption | exact of_decide_eq_true (by assumption) | exact Decidable.not_not.1 (by assumption) | exact take_all hx2 (by omega) hx3 | simp_all) | (apply decide_eq_decide.2; constructor; (rintro rfl; rfl); intro h_; apply STc.ext <;> first | assumption | exact of_decide_eq_true (by assumption) | exact Decidable.not_not.1 (by assumption) | exact take_all hx2 (by omega) hx3 | simp_all))) .nil)⟩
       ·
        replace h9 : (decide ((a.f1.getD i default).f2 = (b.f1.getD i default).f2)) = true := by simpa only [Bool.not_eq_true', Bool.not_eq_false'] using h9
        replace h9 := of_decide_eq_true h9
        refine T.skip ?_
        refine T.region ?_
        refine TL.cons rfl (Step.bin (r := .int .i64 ((i : Int) + 1)) rfl rfl (lt_ok rfl) rfl rfl (Bin.add (a := (i : Int)) (b := 1) (by first | exact wrap_ok (by first | omega | (simp; omega)) (by first | omega | (simp; omega)) | rfl))) ?_
        refine TL.cons rfl (Step.move (p := (.one (.d (.int .i64 ((i : Int) + 1))))) rfl rfl (lt_ok rfl) rfl) ?_
        refine TL.nil ?_
        exact ⟨i + 1, by (refine ⟨by omega, hx2, take_step (d := default) hx2 (by omega) hx3 (by first | assumption | (apply SEntry.ext <;> first | assumption | simp_all))⟩), by omega, Env.le_mk ⟨rfl, rfl, rfl, by first | rfl | (simp; done) | (congr 3; omega), trivial⟩ trivial ⟨rfl, rfl, trivial⟩⟩
    ·
     replace h4 := of_decide_eq_false h4
     refine T.exit ?_
     refine T.seq ?_
     refine T.region ?_
     refine TL.cons rfl (Step.assign (p := (.one (.d (.bool true)))) rfl rfl (lt_ok rfl) rfl) ?_
     refine TL.nil ?_
     refine T.ret ?_
     exact ⟨[(false, [.d (.bool true)])], (.cons rfl .nil), rfl, [], (RetC.rd' (by (congr 1; symm; first | (apply decide_eq_false; rintro rfl; first | exact absurd rfl ‹¬ _ = _› | exact absurd rfl (of_decide_eq_false (by assumption)) | contradiction | simp_all) | (apply decide_eq_true; apply STc.ext <;> first | assumption | exact of_decide_eq_true (by assumption) | exact Decidable.not_not.1 (by assumption) | exact take_all hx2 (by omega) hx3 | simp_all) | (apply decide_eq_decide.2; constructor; (rintro rfl; rfl); intro h_; apply STc.ext <;> first | assumption | exact of_decide_eq_true (by assumption) | exact Decidable.not_not.1 (by assumption) | exact take_all hx2 (by omega) hx3 | simp_all))) .nil)⟩
theorem ok_spec_ProofSame (a : SProof) (b : SProof) (h0_ : a.ok) (h1_ : b.ok) : RO Try.prog 71 [.agg a.cells, .agg b.cells] [(false, [.rd (.bool (decide (a = b)))])] := by
 refine RO.intro Try.func71 rfl 37 rfl (le_ok rfl) fun w Z => ?_
 refine T.bnd 0 0 rfl rfl fun hb_0_0 => ?_
 simp only [D.size, List.length_map] at hb_0_0
 refine T.bnd 0 3 rfl rfl fun hb_0_3 => ?_
 simp only [D.size, List.length_map] at hb_0_3
 refine T.bnd 0 4 rfl rfl fun hb_0_4 => ?_
 simp only [D.size, List.length_map] at hb_0_4
 refine T.bnd 0 5 rfl rfl fun hb_0_5 => ?_
 simp only [D.size, List.length_map] at hb_0_5
 refine T.bnd 1 0 rfl rfl fun hb_1_0 => ?_
 simp only [D.size, List.length_map] at hb_1_0
 refine T.bnd 1 3 rfl rfl fun hb_1_3 => ?_
 simp only [D.size, List.length_map] at hb_1_3
 refine T.bnd 1 4 rfl rfl fun hb_1_4 => ?_
 simp only [D.size, List.length_map] at hb_1_4
 refine T.bnd 1 5 rfl rfl fun hb_1_5 => ?_
 simp only [D.size, List.length_map] at hb_1_5
 obtain ⟨k0_0, k0_1⟩ := h0_
 obtain ⟨k1_0, k1_1⟩ := h1_
 refine T.seq ?_
 refine T.region ?_
 refine TL.cons rfl (Step.box (p := (.agg [.d (.sl 10 (a.f0.map SHead.cells)), .d (.int .i64 a.f1.f0), .d (.int .i64 a.f1.f1), .d (.ints .u8 a.f1.f2), .d (.ints .u8 a.f1.f3), .d (.bss a.f1.f4)])) (ps := [.d (.sl 10 (a.f0.map SHead.cells)), .d (.int .i64 a.f1.f0), .d (.int .i64 a.f1.f1), .d (.ints .u8 a.f1.f2), .d (.ints .u8 a.f1.f3), .d (.bss a.f1.f4)]) rfl rfl (lt_ok rfl) rfl rfl rfl rfl rfl) ?_
 refine TL.cons rfl (Step.box (p := (.agg [.d (.sl 10 (b.f0.map SHead.cells)), .d (.int .i64 b.f1.f0), .d (.int .i64 b.f1.f1), .d (.ints .u8 b.f1.f2), .d (.ints .u8 b.f1.f3), .d (.bss b.f1.f4)])) (ps := [.d (.sl 10 (b.f0.map SHead.cells)), .d (.int .i64 b.f1.f0), .d (.int .i64 b.f1.f1), .d (.ints .u8 b.f1.f2), .d (.ints .u8 b.f1.f3), .d (.bss b.f1.f4)]) rfl rfl (lt_ok rfl) rfl rfl rfl rfl rfl) ?_
 refine TL.cons rfl (Step.assign (p := (.one (.d (.bool false)))) rfl rfl (lt_ok rfl) rfl) ?_
 refine TL.nil ?_
 refine T.seq ?_
 refine T.seq ?_
 refine T.region ?_
 refine TL.cons rfl (Step.fieldAddr (q := 0) (off := 0) (n := 1) (one := true) rfl rfl (lt_ok rfl) (by kernel_rfl) (Nat.succ_ne_zero _) rfl) ?_
 refine TL.cons rfl (Step.load_box (c := .d (.sl 10 (a.f0.map SHead.cells))) rfl rfl (lt_ok rfl) (by kernel_rfl) rfl rfl rfl) ?_
 refine TL.cons rfl (Step.len' (e := 31) (z := 10) (d := (.sl 10 (a.f0.map SHead.cells))) (n := a.f0.length) rfl rfl (lt_ok rfl) (by kernel_rfl) rfl rfl (by simp [D.size])) ?_
 refine TL.cons rfl (Step.fieldAddr (q := 0) (off := 0) (n := 1) (one := true) rfl rfl (lt_ok rfl) (by kernel_rfl) (Nat.succ_ne_zero _) rfl) ?_
 refine TL.cons rfl (Step.load_box (c := .d (.sl 10 (b.f0.map SHead.cells))) rfl rfl (lt_ok rfl) (by kernel_rfl) rfl rfl rfl) ?_
 refine TL.cons rfl (Step.len' (e := 31) (z := 10) (d := (.sl 10 (b.f0.map SHead.cells))) (n := b.f0.length) rfl rfl (lt_ok rfl) (by kernel_rfl) rfl rfl (by simp [D.size])) ?_
 refine TL.cons rfl (Step.bin rfl rfl (lt_ok rfl) rfl rfl (Bin.neq (k := .i64) (a := (a.f0.length : Int)) (b := (b.f0.length : Int)))) ?_
 refine TL.nil ?_
 refine T.cond (b := decide ((a.f0.length : Int) ≠ (b.f0.length : Int))) rfl (fun h1 => ?_) (fun h1 => ?_)
 ·
  replace h1 := of_decide_eq_true h1
  refine T.seq ?_
  refine T.region ?_
  refine TL.cons rfl (Step.assign (p := (.one (.d (.bool false)))) rfl rfl (lt_ok rfl) rfl) ?_
  refine TL.nil ?_
  refine T.ret ?_
  exact ⟨[(false, [.d (.bool false)])], (.cons rfl .nil), rfl, [], (RetC.rd' (by (congr 1; symm; first | (apply decide_eq_false; rintro rfl; first | exact absurd rfl ‹¬ _ = _› | exact absurd rfl (of_decide_eq_false (by assumption)) | contradiction | simp_all) | (apply decide_eq_true; apply SProof.ext <;> first | assumption | exact of_decide_eq_true (by assumption) | exact Decidable.not_not.1 (by assumption) | exact take_all hx2 (by omega) hx3 | simp_all) | (apply decide_eq_decide.2; constructor; (rintro rfl; rfl); intro h_; apply SProof.ext <;> first | assumption | exact of_decide_eq_true (by assumption) | exact Decidable.not_not.1 (by assumption) | exact take_all hx2 (by omega) hx3 | simp_all))) .nil)⟩
 ·
  replace h1 := of_decide_eq_false h1
  refine T.skip ?_
  refine T.seq ?_
  refine T.seq ?_
  refine T.region ?_
  refine TL.cons rfl (Step.fieldAddr (q := 0) (off := 0) (n := 1) (one := true) rfl rfl (lt_ok rfl) (by kernel_rfl) (Nat.succ_ne_zero _) rfl) ?_
  refine TL.cons rfl (Step.load_box (c := .d (.sl 10 (a.f0.map SHead.cells))) rfl rfl (lt_ok rfl) (by kernel_rfl) rfl rfl rfl) ?_
  refine TL.cons rfl (Step.len' (e := 31) (z := 10) (d := (.sl 10 (a.f0.map SHead.cells))) (n := a.f0.length) rfl rfl (lt_ok rfl) (by kernel_rfl) rfl rfl (by simp [D.size])) ?_
  refine TL.cons rfl (Step.move (p := (.one (.d (.int .i64 0)))) rfl rfl (lt_ok rfl) rfl) ?_
  refine TL.nil ?_
  refine T.block ?_
  refine T.loop (ι := Nat) (fun x => { tm := [(2, (.one (.ptr 2 0))), (3, (.one (.ptr 3 0))), (15, (.one (.d (.int .i64 (a.f0.length : Int))))), (16, (.one (.d (.int .i64 (x : Int)))))], rows := [], boxes := [(2, (39, [.d (.sl 10 (a.f0.map SHead.cells)), .d (.int .i64 a.f1.f0), .d (.int .i64 a.f1.f1), .d (.ints .u8 a.f1.f2), .d (.ints .u8 a.f1.f3), .d (.bss a.f1.f4)])), (3, (39, [.d (.sl 10 (b.f0.map SHead.cells)), .d (.int .i64 b.f1.f0), .d (.int .i64 b.f1.f1), .d (.ints .u8 b.f1.f2), .d (.ints .u8 b.f1.f3), .d (.bss b.f1.f4)]))] }) (fun x => x ≤ a.f0.length ∧ a.f0.length = b.f0.length ∧ a.f0.take x = b.f0.take x) (fun x => a.f0.length - x) 0 ?_ ?_ ?_
  · exact Env.le_mk ⟨rfl, rfl, rfl, by first | rfl | (simp; done) | (congr 3; omega), trivial⟩ trivial ⟨rfl, rfl, trivial⟩
  · (refine ⟨Nat.zero_le _, by omega, by simp⟩)
  ·
   intro i hx
   try dsimp only at hx ⊢
   obtain ⟨hx1, hx2, hx3⟩ := hx
   have m0_ := fun (hi : i < a.f0.length) => mem_getD (d := default) k0_0 hi
   have m1_ := fun (hi : i < b.f0.length) => mem_getD (d := default) k1_0 hi
   refine T.seq ?_
   refine T.region ?_
   refine TL.cons rfl (Step.bin rfl rfl (lt_ok rfl) rfl rfl (Bin.lss (k := .i64) (a := (i : Int)) (b := (a.f0.length : Int)))) ?_
   refine TL.nil ?_
   refine T.seq ?_
   refine T.cond (b := decide ((i : Int) < (a.f0.length : Int))) rfl (fun h2 => ?_) (fun h2 => ?_)
   ·
    replace h2 := of_decide_eq_true h2
    refine T.skip ?_
    refine T.seq ?_
    refine T.block ?_
    refine T.seq ?_
    refine T.region ?_
    refine TL.cons rfl (Step.move (p := (.one (.d (.int .i64 (i : Int))))) rfl rfl (lt_ok rfl) rfl) ?_
    refine TL.cons rfl (Step.assign (p := (.one (.d (.int .i64 (i : Int))))) rfl rfl (lt_ok rfl) rfl) ?_
    refine TL.nil ?_
    refine T.seq ?_
    refine T.draw [⟨19, (.one (.ptr 2 0)), []⟩, ⟨20, (.one (.d (.sl 10 (a.f0.map SHead.cells)))), []⟩, ⟨21, (.one (.d (.int .i64 (i : Int)))), []⟩, ⟨22, (.one (.eptr (.sl 10 (a.f0.map SHead.cells)) i 0)), []⟩, ⟨23, (.agg [.d (.int .i64 (a.f0.getD i default).f0), .d (.int .i64 (a.f0.getD i default).f1), .d (.int .i64 (a.f0.getD i default).f2), .d (.ints .u8 (a.f0.getD i default).f3), .d (.ints .u8 (a.f0.getD i default).f4), .d (.int .i64 (a.f0.getD i default).f5.f0), .d (.int .i64 (a.f0.getD i default).f5.f1), .d (.ints .u8 (a.f0.getD i default).f5.f2), .d (.ints .u8 (a.f0.getD i default).f5.f3), .d (.bss (a.f0.getD i default).f5.f4)]), []⟩, ⟨24, (.one (.ptr 3 0)), []⟩, ⟨25, (.one (.d (.sl 10 (b.f0.map SHead.cells)))), []⟩, ⟨26, (.one (.d (.int .i64 (i : Int)))), []⟩, ⟨27, (.one (.eptr (.sl 10 (b.f0.map SHead.cells)) i 0)), []⟩, ⟨28, (.agg [.d (.int .i64 (b.f0.getD i default).f0), .d (.int .i64 (b.f0.getD i default).f1), .d (.int .i64 (b.f0.getD i default).f2), .d (.ints .u8 (b.f0.getD i default).f3), .d (.ints .u8 (b.f0.getD i default).f4), .d (.int .i64 (b.f0.getD i default).f5.f0), .d (.int .i64 (b.f0.getD i default).f5.f1), .d (.ints .u8 (b.f0.getD i default).f5.f2), .d (.ints .u8 (b.f0.getD i default).f5.f3), .d (.bss (b.f0.getD i default).f5.f4)]), []⟩, ⟨29, (.one (.d (.bool (decide ((a.f0.getD i default) = (b.f0.getD i default)))))), []⟩, ⟨30, (.one (.d (.bool (!(decide ((a.f0.getD i default) = (b.f0.getD i default))))))), []⟩] (by kernel_rfl) (by kernel_rfl) ?_ ?_
    ·
     refine .cons (fun E h => by have g2 := h.get 2 (by decide); exact OpStep.plain rfl (Step.fieldAddr (q := 0) (off := 0) (n := 1) (one := true) (t := 19) rfl rfl (by exact lt_ok rfl) (by kernel_rfl) (Nat.succ_ne_zero _) (show Env.ev E (.tmp 2) = _ from g2.trans rfl))) ?_
     refine .cons (fun E h => by have g19 := h.get 19 (by decide); exact OpStep.plain rfl (Step.load_box (c := .d (.sl 10 (a.f0.map SHead.cells))) (t := 20) rfl rfl (by exact lt_ok rfl) (by kernel_rfl) (show Env.ev E (.tmp 19) = _ from g19.trans rfl) (by exact h.box rfl) rfl)) ?_
     refine .cons (fun E h => by have g5 := h.get 5 (by decide); exact OpStep.plain rfl (Step.move (p := (.one (.d (.int .i64 (i : Int))))) (t := 21) rfl rfl (by exact lt_ok rfl) (show Env.ev E (.tmp 5) = _ from g5.trans rfl))) ?_
     refine .cons (fun E h => by have g20 := h.get 20 (by decide); have g21 := h.get 21 (by decide); exact OpStep.plain rfl (Step.index (e := 31) (z := 10) (i := (i : Int)) (t := 22) rfl rfl (by exact lt_ok rfl) (by kernel_rfl) (show Env.ev E (.tmp 20) = _ from g20.trans rfl) rfl rfl (lt_ok rfl) (show Env.ev E (.tmp 21) = _ from g21.trans rfl) (by first | omega | (simp; omega)) (by simp only [D.size]; first | omega | (simp; omega)))) ?_
     refine .cons (fun E h => by have g22 := h.get 22 (by decide); exact OpStep.plain rfl (Step.load_agg (n := 10) (cs := [.d (.int .i64 (a.f0.getD i default).f0), .d (.int .i64 (a.f0.getD i default).f1), .d (.int .i64 (a.f0.getD i default).f2), .d (.ints .u8 (a.f0.getD i default).f3), .d (.ints .u8 (a.f0.getD i default).f4), .d (.int .i64 (a.f0.getD i default).f5.f0), .d (.int .i64 (a.f0.getD i default).f5.f1), .d (.ints .u8 (a.f0.getD i default).f5.f2), .d (.ints .u8 (a.f0.getD i default).f5.f3), .d (.bss (a.f0.getD i default).f5.f4)]) (t := 23) rfl rfl (by exact lt_ok rfl) (by kernel_rfl) (show Env.ev E (.tmp 22) = _ from g22.trans rfl) rfl (by simp only [List.range, List.range.loop, List.map_cons, List.map_nil]; rw [cell_map default (by first | omega | (simp; omega)), cell_map default (by first | omega | (simp; omega)), cell_map default (by first | omega | (simp; omega)), cell_map default (by first | omega | (simp; omega)), cell_map default (by first | omega | (simp; omega)), cell_map default (by first | omega | (simp; omega)), cell_map default (by first | omega | (simp; omega)), cell_map default (by first | omega | (simp; omega)), cell_map default (by first | omega | (simp; omega)), cell_map default (by first | omega | (simp; omega))]; rfl))) ?_
     refine .cons (fun E h => by have g3 := h.get 3 (by decide); exact OpStep.plain rfl (Step.fieldAddr (q := 0) (off := 0) (n := 1) (one := true) (t := 24) rfl rfl (by exact lt_ok rfl) (by kernel_rfl) (Nat.succ_ne_zero _) (show Env.ev E (.tmp 3) = _ from g3.trans rfl))) ?_
     refine .cons (fun E h => by have g24 := h.get 24 (by decide); exact OpStep.plain rfl (Step.load_box (c := .d (.sl 10 (b.f0.map SHead.cells))) (t := 25) rfl rfl (by exact lt_ok rfl) (by kernel_rfl) (show Env.ev E (.tmp 24) = _ from g24.trans rfl) (by exact h.box rfl) rfl)) ?_
     refine .cons (fun E h => by have g5 := h.get 5 (by decide); exact OpStep.plain rfl (Step.move (p := (.one (.d (.int .i64 (i : Int))))) (t := 26) rfl rfl (by exact lt_ok rfl) (show Env.ev E (.tmp 5) = _ from g5.trans rfl))) ?_
     refine .cons (fun E h => by have g25 := h.get 25 (by decide); have g26 := h.get 26 (by decide); exact OpStep.plain rfl (Step.index (e := 31) (z := 10) (i := (i : Int)) (t := 27) rfl rfl (by exact lt_ok rfl) (by kernel_rfl) (show Env.ev E (.tmp 25) = _ from g25.trans rfl) rfl rfl (lt_ok rfl) (show Env.ev E (.tmp 26) = _ from g26.trans rfl) (by first | omega | (simp; omega)) (by simp only [D.size]; first | omega | (simp; omega)))) ?_
     refine .cons (fun E h => by have g27 := h.get 27 (by decide); exact OpStep.plain rfl (Step.load_agg (n := 10) (cs := [.d (.int .i64 (b.f0.getD i default).f0), .d (.int .i64 (b.f0.getD i default).f1), .d (.int .i64 (b.f0.getD i default).f2), .d (.ints .u8 (b.f0.getD i default).f3), .d (.ints .u8 (b.f0.getD i default).f4), .d (.int .i64 (b.f0.getD i default).f5.f0), .d (.int .i64 (b.f0.getD i default).f5.f1), .d (.ints .u8 (b.f0.getD i default).f5.f2), .d (.ints .u8 (b.f0.getD i default).f5.f3), .d (.bss (b.f0.getD i default).f5.f4)]) (t := 28) rfl rfl (by exact lt_ok rfl) (by kernel_rfl) (show Env.ev E (.tmp 27) = _ from g27.trans rfl) rfl (by simp only [List.range, List.range.loop, List.map_cons, List.map_nil]; rw [cell_map default (by first | omega | (simp; omega)), cell_map default (by first | omega | (simp; omega)), cell_map default (by first | omega | (simp; omega)), cell_map default (by first | omega | (simp; omega)), cell_map default (by first | omega | (simp; omega)), cell_map default (by first | omega | (simp; omega)), cell_map default (by first | omega | (simp; omega)), cell_map default (by first | omega | (simp; omega)), cell_map default (by first | omega | (simp; omega)), cell_map default (by first | omega | (simp; omega))]; rfl))) ?_
     refine .cons (fun E h => by have g23 := h.get 23 (by decide); have g28 := h.get 28 (by decide); exact OpStep.plain rfl (Step.call (f := 68) (xs := [.tmp 23, .tmp 28]) (ps := [(.agg [.d (.int .i64 (a.f0.getD i default).f0), .d (.int .i64 (a.f0.getD i default).f1), .d (.int .i64 (a.f0.getD i default).f2), .d (.ints .u8 (a.f0.getD i default).f3), .d (.ints .u8 (a.f0.getD i default).f4), .d (.int .i64 (a.f0.getD i default).f5.f0), .d (.int .i64 (a.f0.getD i default).f5.f1), .d (.ints .u8 (a.f0.getD i default).f5.f2), .d (.ints .u8 (a.f0.getD i default).f5.f3), .d (.bss (a.f0.getD i default).f5.f4)]), (.agg [.d (.int .i64 (b.f0.getD i default).f0), .d (.int .i64 (b.f0.getD i default).f1), .d (.int .i64 (b.f0.getD i default).f2), .d (.ints .u8 (b.f0.getD i default).f3), .d (.ints .u8 (b.f0.getD i default).f4), .d (.int .i64 (b.f0.getD i default).f5.f0), .d (.int .i64 (b.f0.getD i default).f5.f1), .d (.ints .u8 (b.f0.getD i default).f5.f2), .d (.ints .u8 (b.f0.getD i default).f5.f3), .d (.bss (b.f0.getD i default).f5.f4)])]) false (g := .func 68) (t := 29) rfl rfl (by exact lt_ok rfl) rfl (by kernel_rfl) (evs_cons (show Env.ev E (.tmp 23) = _ from g23.trans rfl) (evs_cons (show Env.ev E (.tmp 28) = _ from g28.trans rfl) (rfl))) (.cons (.agg (.cons (.d _) (.cons (.d _) (.cons (.d _) (.cons (.d _) (.cons (.d _) (.cons (.d _) (.cons (.d _) (.cons (.d _) (.cons (.d _) (.cons (.d _) .nil))))))))))) (.cons (.agg (.cons (.d _) (.cons (.d _) (.cons (.d _) (.cons (.d _) (.cons (.d _) (.cons (.d _) (.cons (.d _) (.cons (.d _) (.cons (.d _) (.cons (.d _) .nil))))))))))) .nil)) (ok_spec_HeadSame (a.f0.getD i default) (b.f0.getD i default) (by first | assumption | exact mem_getD h0_ (by omega) | exact mem_getD h1_ (by omega) | exact m0_ (by omega) | exact m1_ (by omega) | exact (m0_ (by omega)).2.2 | exact (m1_ (by omega)).2.2) (by first | assumption | exact mem_getD h0_ (by omega) | exact mem_getD h1_ (by omega) | exact m0_ (by omega) | exact m1_ (by omega) | exact (m0_ (by omega)).2.2 | exact (m1_ (by omega)).2.2)) (.inr rfl) (At.freshRows h rfl) (by simp) rfl)) ?_
     refine .cons (fun E h => by have g29 := h.get 29 (by decide); exact OpStep.plain rfl (Step.not (b := (decide ((a.f0.getD i default) = (b.f0.getD i default)))) (t := 30) rfl rfl (by exact lt_ok rfl) (show Env.ev E (.tmp 29) = _ from g29.trans rfl))) ?_
     exact .nil _ _
    refine TL.nil ?_
    refine T.cond (b := !(decide ((a.f0.getD i default) = (b.f0.getD i default)))) rfl (fun h3 => ?_) (fun h3 => ?_)
    ·
     replace h3 : (decide ((a.f0.getD i default) = (b.f0.getD i default))) = false := by simpa only [Bool.not_eq_true', Bool.not_eq_false'] using h3
     replace h3 := of_decide_eq_false h3
     refine T.seq ?_
     refine T.region ?_
     refine TL.cons rfl (Step.assign (p := (.one (.d (.bool false)))) rfl rfl (lt_ok rfl) rfl) ?_
     refine TL.nil ?_
     refine T.ret ?_
     exact ⟨[(false, [.d (.bool false)])], (.cons rfl .nil), rfl, [], (RetC.rd' (by (congr 1; symm; first | (apply decide_eq_false; rintro rfl; first | exact absurd rfl ‹¬ _ = _› | exact absurd rfl (of_decide_eq_false (by assumption)) | contradiction | simp_all) | (apply decide_eq_true; apply SProof.ext <;> first | assumption | exact of_decide_eq_true (by assumption) | exact Decidable.not_not.1 (by assumption) | exact take_all hx2 (by omega) hx3 | simp_all) | (apply decide_eq_decide.2; constructor; (rintro rfl; rfl); intro h_; apply SProof.ext <;> first | assumption | exact of_decide_eq_true (by assumption) | exact Decidable.not_not.1 (by assumption) | exact take_all hx2 (by omega) hx3 | simp_all))) .nil)⟩
    ·
     replace h3 : (decide ((a.f0.getD i default) = (b.f0.getD i default))) = true := by simpa only [Bool.not_eq_true', Bool.not_eq_false'] using h3
     replace h3 := of_decide_eq_true h3
     refine T.skip ?_
     refine T.region ?_
     refine TL.cons rfl (Step.bin (r := .int .i64 ((i : Int) + 1)) rfl rfl (lt_ok rfl) rfl rfl (Bin.add (a := (i : Int)) (b := 1) (by first | exact wrap_ok (by first | omega | (simp; omega)) (by first | omega | (simp; omega)) | rfl))) ?_
     refine TL.cons rfl (Step.move (p := (.one (.d (.int .i64 ((i : Int) + 1))))) rfl rfl (lt_ok rfl) rfl) ?_
     refine TL.nil ?_
     exact ⟨i + 1, by (refine ⟨by omega, hx2, take_step (d := default) hx2 (by omega) hx3 (by first | assumption | (apply SHead.ext <;> first | assumption | simp_all))⟩), by omega, Env.le_mk ⟨rfl, rfl, rfl, by first | rfl | (simp; done) | (congr 3; omega), trivial⟩ trivial ⟨rfl, rfl, trivial⟩⟩
   ·
    replace h2 := of_decide_eq_false h2
    refine T.exit ?_
    refine T.seq ?_
    refine T.region ?_
    refine TL.cons rfl (Step.fieldAddr (q := 0) (off := 1) (n := 5) (one := false) rfl rfl (lt_ok rfl) (by kernel_rfl) (Nat.succ_ne_zero _) rfl) ?_
    refine TL.cons rfl (Step.load_box_agg (n := 5) (qs := [.d (.int .i64 a.f1.f0), .d (.int .i64 a.f1.f1), .d (.ints .u8 a.f1.f2), .d (.ints .u8 a.f1.f3), .d (.bss a.f1.f4)]) rfl rfl (lt_ok rfl) (by kernel_rfl) rfl rfl rfl rfl) ?_
    refine TL.cons rfl (Step.fieldAddr (q := 0) (off := 1) (n := 5) (one := false) rfl rfl (lt_ok rfl) (by kernel_rfl) (Nat.succ_ne_zero _) rfl) ?_
    refine TL.cons rfl (Step.load_box_agg (n := 5) (qs := [.d (.int .i64 b.f1.f0), .d (.int .i64 b.f1.f1), .d (.ints .u8 b.f1.f2), .d (.ints .u8 b.f1.f3), .d (.bss b.f1.f4)]) rfl rfl (lt_ok rfl) (by kernel_rfl) rfl rfl rfl rfl) ?_
    refine TL.cons rfl (Step.call (f := 67) (xs := [.tmp 33, .tmp 35]) (ps := [(.agg [.d (.int .i64 a.f1.f0), .d (.int .i64 a.f1.f1), .d (.ints .u8 a.f1.f2), .d (.ints .u8 a.f1.f3), .d (.bss a.f1.f4)]), (.agg [.d (.int .i64 b.f1.f0), .d (.int .i64 b.f1.f1), .d (.ints .u8 b.f1.f2), .d (.ints .u8 b.f1.f3), .d (.bss b.f1.f4)])]) false (g := .func 67) rfl rfl (lt_ok rfl) rfl (by kernel_rfl) rfl (.cons (.agg (.cons (.d _) (.cons (.d _) (.cons (.d _) (.cons (.d _) (.cons (.d _) .nil)))))) (.cons (.agg (.cons (.d _) (.cons (.d _) (.cons (.d _) (.cons (.d _) (.cons (.d _) .nil)))))) .nil)) (ok_spec_QcSame a.f1 b.f1 (by first | assumption | exact mem_getD h0_ (by omega) | exact mem_getD h1_ (by omega) | exact m0_ (by omega) | exact m1_ (by omega) | exact (m0_ (by omega)).2.2 | exact (m1_ (by omega)).2.2) (by first | assumption | exact mem_getD h0_ (by omega) | exact mem_getD h1_ (by omega) | exact m0_ (by omega) | exact m1_ (by omega) | exact (m0_ (by omega)).2.2 | exact (m1_ (by omega)).2.2)) (.inr rfl) rfl (by simp) rfl) ?_
    refine TL.cons rfl (Step.assign (p := (.one (.d (.bool (decide (a.f1 = b.f1)))))) rfl rfl (lt_ok rfl) rfl) ?_
    refine TL.nil ?_
    refine T.ret ?_
    exact ⟨[(false, [.d (.bool (decide (a.f1 = b.f1)))])], (.cons rfl .nil), rfl, [], (RetC.rd' (by (congr 1; symm; first | (apply decide_eq_false; rintro rfl; first | exact absurd rfl ‹¬ _ = _› | exact absurd rfl (of_decide_eq_false (by assumption)) | contradiction | simp_all) | (apply decide_eq_true; apply SProof.ext <;> first | assumption | exact of_decide_eq_true (by assumption) | exact Decidable.not_not.1 (by assumption) | exact take_all hx2 (by omega) hx3 | simp_all) | (apply decide_eq_decide.2; constructor; (rintro rfl; rfl); intro h_; apply SProof.ext <;> first | assumption | exact of_decide_eq_true (by assumption) | exact Decidable.not_not.1 (by assumption) | exact take_all hx2 (by omega) hx3 | simp_all))) .nil)⟩
theorem ok_spec_InclSame (a : SIncl) (b : SIncl) (h0_ : a.ok) (h1_ : b.ok) : RO Try.prog 72 [.agg a.cells, .agg b.cells] [(false, [.rd (.bool (decide (a = b)))])] := by
 refine RO.intro Try.func72 rfl 38 rfl (le_ok rfl) fun w Z => ?_
 obtain ⟨k0_0, k0_1, k0_2, k0_3, k0_4⟩ := h0_
 obtain ⟨k1_0, k1_1, k1_2, k1_3, k1_4⟩ := h1_
 refine T.seq ?_
 refine T.region ?_
 refine TL.cons rfl (Step.box (p := (.agg [.d (.int .i64 a.f0), .d (.int .i64 a.f1), .d (.int .i64 a.f2), .d (.ints .u8 a.f3), .d (.bss a.f4)])) (ps := [.d (.int .i64 a.f0), .d (.int .i64 a.f1), .d (.int .i64 a.f2), .d (.ints .u8 a.f3), .d (.bss a.f4)]) rfl rfl (lt_ok rfl) rfl rfl rfl rfl rfl) ?_
 refine TL.cons rfl (Step.box (p := (.agg [.d (.int .i64 b.f0), .d (.int .i64 b.f1), .d (.int .i64 b.f2), .d (.ints .u8 b.f3), .d (.bss b.f4)])) (ps := [.d (.int .i64 b.f0), .d (.int .i64 b.f1), .d (.int .i64 b.f2), .d (.ints .u8 b.f3), .d (.bss b.f4)]) rfl rfl (lt_ok rfl) rfl rfl rfl rfl rfl) ?_
 refine TL.cons rfl (Step.assign (p := (.one (.d (.bool false)))) rfl rfl (lt_ok rfl) rfl) ?_
 refine TL.nil ?_
 refine T.seq ?_
 refine T.region ?_
 refine TL.cons rfl (Step.fieldAddr (q := 0) (off := 0) (n := 1) (one := true) rfl rfl (lt_ok rfl) (by kernel_rfl) (Nat.succ_ne_zero _) rfl) ?_
 refine TL.cons rfl (Step.load_box (c := .d (.int .i64 a.f0)) rfl rfl (lt_ok rfl) (by kernel_rfl) rfl rfl rfl) ?_
 refine TL.cons rfl (Step.fieldAddr (q := 0) (off := 0) (n := 1) (one := true) rfl rfl (lt_ok rfl) (by kernel_rfl) (Nat.succ_ne_zero _) rfl) ?_
 refine TL.cons rfl (Step.load_box (c := .d (.int .i64 b.f0)) rfl rfl (lt_ok rfl) (by kernel_rfl) rfl rfl rfl) ?_
 refine TL.cons rfl (Step.bin rfl rfl (lt_ok rfl) rfl rfl (Bin.eql (k := .i64) (a := a.f0) (b := b.f0))) ?_
 refine TL.cons rfl (Step.move (p := (.one (.d (.bool (decide (a.f0 = b.f0)))))) rfl rfl (lt_ok rfl) rfl) ?_
 rcases Bool.eq_false_or_eq_true (decide (a.f0 = b.f0)) with hb1 | hb1
 ·
  refine TL.known 10 hb1 rfl ?_
  refine TL.gyes 10 rfl rfl (lt_ok rfl) rfl (Step.fieldAddr (q := 0) (off := 1) (n := 1) (one := true) rfl rfl (lt_ok rfl) (by kernel_rfl) (Nat.succ_ne_zero _) rfl) ?_
  refine TL.gyes 10 rfl rfl (lt_ok rfl) rfl (Step.load_box (c := .d (.int .i64 a.f1)) rfl rfl (lt_ok rfl) (by kernel_rfl) rfl rfl rfl) ?_
  refine TL.gyes 10 rfl rfl (lt_ok rfl) rfl (Step.fieldAddr (q := 0) (off := 1) (n := 1) (one := true) rfl rfl (lt_ok rfl) (by kernel_rfl) (Nat.succ_ne_zero _) rfl) ?_
  refine TL.gyes 10 rfl rfl (lt_ok rfl) rfl (Step.load_box (c := .d (.int .i64 b.f1)) rfl rfl (lt_ok rfl) (by kernel_rfl) rfl rfl rfl) ?_
  refine TL.gyes 10 rfl rfl (lt_ok rfl) rfl (Step.bin rfl rfl (lt_ok rfl) rfl rfl (Bin.eql (k := .i64) (a := a.f1) (b := b.f1))) ?_
  refine TL.cons rfl (Step.pick (b := true) (p := (.one (.d (.bool (decide (a.f1 = b.f1)))))) rfl rfl (lt_ok rfl) rfl rfl) ?_
  refine TL.cons rfl (Step.move (p := (.one (.d (.bool (decide (a.f1 = b.f1)))))) rfl rfl (lt_ok rfl) rfl) ?_
  rcases Bool.eq_false_or_eq_true (decide (a.f1 = b.f1)) with hb2 | hb2
  ·
   refine TL.known 17 hb2 rfl ?_
   refine TL.gyes 17 rfl rfl (lt_ok rfl) rfl (Step.fieldAddr (q := 0) (off := 2) (n := 1) (one := true) rfl rfl (lt_ok rfl) (by kernel_rfl) (Nat.succ_ne_zero _) rfl) ?_
   refine TL.gyes 17 rfl rfl (lt_ok rfl) rfl (Step.load_box (c := .d (.int .i64 a.f2)) rfl rfl (lt_ok rfl) (by kernel_rfl) rfl rfl rfl) ?_
   refine TL.gyes 17 rfl rfl (lt_ok rfl) rfl (Step.fieldAddr (q := 0) (off := 2) (n := 1) (one := true) rfl rfl (lt_ok rfl) (by kernel_rfl) (Nat.succ_ne_zero _) rfl) ?_
   refine TL.gyes 17 rfl rfl (lt_ok rfl) rfl (Step.load_box (c := .d (.int .i64 b.f2)) rfl rfl (lt_ok rfl) (by kernel_rfl) rfl rfl rfl) ?_
   refine TL.gyes 17 rfl rfl (lt_ok rfl) rfl (Step.bin rfl rfl (lt_ok rfl) rfl rfl (Bin.eql (k := .i64) (a := a.f2) (b := b.f2))) ?_
   refine TL.cons rfl (Step.pick (b := true) (p := (.one (.d (.bool (decide (a.f2 = b.f2)))))) rfl rfl (lt_ok rfl) rfl rfl) ?_
   refine TL.cons rfl (Step.move (p := (.one (.d (.bool (decide (a.f2 = b.f2)))))) rfl rfl (lt_ok rfl) rfl) ?_
   rcases Bool.eq_false_or_eq_true (decide (a.f2 = b.f2)) with hb3 | hb3
   ·
    refine TL.known 24 hb3 rfl ?_
    refine TL.gyes 24 rfl rfl (lt_ok rfl) rfl (Step.fieldAddr (q := 0) (off := 3) (n := 1) (one := true) rfl rfl (lt_ok rfl) (by kernel_rfl) (Nat.succ_ne_zero _) rfl) ?_
    refine TL.gyes 24 rfl rfl (lt_ok rfl) rfl (Step.load_box (c := .d (.ints .u8 a.f3)) rfl rfl (lt_ok rfl) (by kernel_rfl) rfl rfl rfl) ?_
    refine TL.gyes 24 rfl rfl (lt_ok rfl) rfl (Step.fieldAddr (q := 0) (off := 3) (n := 1) (one := true) rfl rfl (lt_ok rfl) (by kernel_rfl) (Nat.succ_ne_zero _) rfl) ?_
    refine TL.gyes 24 rfl rfl (lt_ok rfl) rfl (Step.load_box (c := .d (.ints .u8 b.f3)) rfl rfl (lt_ok rfl) (by kernel_rfl) rfl rfl rfl) ?_
    refine TL.gyes 24 rfl rfl (lt_ok rfl) rfl (Step.call (f := 100) (xs := [.tmp 26, .tmp 28]) (ps := [(.one (.d (.ints .u8 a.f3))), (.one (.d (.ints .u8 b.f3)))]) false (g := .func 100) rfl rfl (lt_ok rfl) rfl (by kernel_rfl) rfl (.cons (.one (.d _)) (.cons (.one (.d _)) .nil)) (ok_spec_SameBytes a.f3 b.f3 (by first | assumption | exact mem_getD h0_ (by omega) | exact mem_getD h1_ (by omega) | exact m0_ (by omega) | exact m1_ (by omega) | exact (m0_ (by omega)).2.2 | exact (m1_ (by omega)).2.2) (by first | assumption | exact mem_getD h0_ (by omega) | exact mem_getD h1_ (by omega) | exact m0_ (by omega) | exact m1_ (by omega) | exact (m0_ (by omega)).2.2 | exact (m1_ (by omega)).2.2)) (.inr rfl) rfl (by simp) rfl) ?_
    refine TL.cons rfl (Step.pick (b := true) (p := (.one (.d (.bool (decide (a.f3 = b.f3)))))) rfl rfl (lt_ok rfl) rfl rfl) ?_
    refine TL.cons rfl (Step.move (p := (.one (.d (.bool (decide (a.f3 = b.f3)))))) rfl rfl (lt_ok rfl) rfl) ?_
    rcases Bool.eq_false_or_eq_true (decide (a.f3 = b.f3)) with hb4 | hb4
    ·
     refine TL.known 31 hb4 rfl ?_
     refine TL.gyes 31 rfl rfl (lt_ok rfl) rfl (Step.fieldAddr (q := 0) (off := 4) (n := 1) (one := true) rfl rfl (lt_ok rfl) (by kernel_rfl) (Nat.succ_ne_zero _) rfl) ?_
     refine TL.gyes 31 rfl rfl (lt_ok rfl) rfl (Step.load_box (c := .d (.bss a.f4)) rfl rfl (lt_ok rfl) (by kernel_rfl) rfl rfl rfl) ?_
     refine TL.gyes 31 rfl rfl (lt_ok rfl) rfl (Step.fieldAddr (q := 0) (off := 4) (n := 1) (one := true) rfl rfl (lt_ok rfl) (by kernel_rfl) (Nat.succ_ne_zero _) rfl) ?_
     refine TL.gyes 31 rfl rfl (lt_ok rfl) rfl (Step.load_box (c := .d (.bss b.f4)) rfl rfl (lt_ok rfl) (by kernel_rfl) rfl rfl rfl) ?_
     refine TL.gyes 31 rfl rfl (lt_ok rfl) rfl (Step.call (f := 101) (xs := [.tmp 33, .tmp 35]) (ps := [(.one (.d (.bss a.f4))), (.one (.d (.bss b.f4)))]) false (g := .func 101) rfl rfl (lt_ok rfl) rfl (by kernel_rfl) rfl (.cons (.one (.d _)) (.cons (.one (.d _)) .nil)) (ok_spec_TreeSame a.f4 b.f4 (by first | assumption | exact mem_getD h0_ (by omega) | exact mem_getD h1_ (by omega) | exact m0_ (by omega) | exact m1_ (by omega) | exact (m0_ (by omega)).2.2 | exact (m1_ (by omega)).2.2) (by first | assumption | exact mem_getD h0_ (by omega) | exact mem_getD h1_ (by omega) | exact m0_ (by omega) | exact m1_ (by omega) | exact (m0_ (by omega)).2.2 | exact (m1_ (by omega)).2.2)) (.inr rfl) rfl (by simp) rfl) ?_
     refine TL.cons rfl (Step.pick (b := true) (p := (.one (.d (.bool (decide (a.f4 = b.f4)))))) rfl rfl (lt_ok rfl) rfl rfl) ?_
     refine TL.cons rfl (Step.assign (p := (.one (.d (.bool (decide (a.f4 = b.f4)))))) rfl rfl (lt_ok rfl) rfl) ?_
     refine TL.nil ?_
     refine T.ret ?_
     exact ⟨[(false, [.d (.bool (decide (a.f4 = b.f4)))])], (.cons rfl .nil), rfl, [], (RetC.rd' (by (congr 1; symm; first | (apply decide_eq_false; rintro rfl; first | exact absurd rfl ‹¬ _ = _› | exact absurd rfl (of_decide_eq_false (by assumption)) | contradiction | simp_all) | (apply decide_eq_true; apply SIncl.ext <;> first | assumption | exact of_decide_eq_true (by assumption) | exact Decidable.not_not.1 (by assumption) | exact take_all hx2 (by omega) hx3 | simp_all) | (apply decide_eq_decide.2; constructor; (rintro rfl; rfl); intro h_; apply SIncl.ext <;> first | assumption | exact of_decide_eq_true (by assumption) | exact Decidable.not_not.1 (by assumption) | exact take_all hx2 (by omega) hx3 | simp_all))) .nil)⟩
    ·
     refine TL.known 31 hb4 rfl ?_
     refine TL.gno 31 rfl rfl (lt_ok rfl) rfl rfl rfl (lt_ok rfl) ?_
     refine TL.gno 31 rfl rfl (lt_ok rfl) rfl rfl rfl (lt_ok rfl) ?_
     refine TL.gno 31 rfl rfl (lt_ok rfl) rfl rfl rfl (lt_ok rfl) ?_
     refine TL.gno 31 rfl rfl (lt_ok rfl) rfl rfl rfl (lt_ok rfl) ?_
     refine TL.gno 31 rfl rfl (lt_ok rfl) rfl rfl rfl (lt_ok rfl) ?_
     refine TL.cons rfl (Step.pick (b := false) (p := (.one (.d (.bool false)))) rfl rfl (lt_ok rfl) rfl rfl) ?_
     refine TL.cons rfl (Step.assign (p := (.one (.d (.bool false)))) rfl rfl (lt_ok rfl) rfl) ?_
     refine TL.nil ?_
     refine T.ret ?_
     exact ⟨[(false, [.d (.bool false)])], (.cons rfl .nil), rfl, [], (RetC.rd' (by (congr 1; symm; first | (apply decide_eq_false; rintro rfl; first | exact absurd rfl ‹¬ _ = _› | exact absurd rfl (of_decide_eq_false (by assumption)) | contradiction | simp_all) | (apply decide_eq_true; apply SIncl.ext <;> first | assumption | exact of_decide_eq_true (by assumption) | exact Decidable.not_not.1 (by assumption) | exact take_all hx2 (by omega) hx3 | simp_all) | (apply decide_eq_decide.2; constructor; (rintro rfl; rfl); intro h_; apply SIncl.ext <;> first | assumption | exact of_decide_eq_true (by assumption) | exact Decidable.not_not.1 (by assumption) | exact take_all hx2 (by omega) hx3 | simp_all))) .nil)⟩
   ·
    refine TL.known 24 hb3 rfl ?_
    refine TL.gno 24 rfl rfl (lt_ok rfl) rfl rfl rfl (lt_ok rfl) ?_
    refine TL.gno 24 rfl rfl (lt_ok rfl) rfl rfl rfl (lt_ok rfl) ?_
    refine TL.gno 24 rfl rfl (lt_ok rfl) rfl rfl rfl (lt_ok rfl) ?_
    refine TL.gno 24 rfl rfl (lt_ok rfl) rfl rfl rfl (lt_ok rfl) ?_
    refine TL.gno 24 rfl rfl (lt_ok rfl) rfl rfl rfl (lt_ok rfl) ?_
    refine TL.cons rfl (Step.pick (b := false) (p := (.one (.d (.bool false)))) rfl rfl (lt_ok rfl) rfl rfl) ?_
    refine TL.cons rfl (Step.move (p := (.one (.d (.bool false)))) rfl rfl (lt_ok rfl) rfl) ?_
    refine TL.gno 31 rfl rfl (lt_ok rfl) rfl rfl rfl (lt_ok rfl) ?_
    refine TL.gno 31 rfl rfl (lt_ok rfl) rfl rfl rfl (lt_ok rfl) ?_
    refine TL.gno 31 rfl rfl (lt_ok rfl) rfl rfl rfl (lt_ok rfl) ?_
    refine TL.gno 31 rfl rfl (lt_ok rfl) rfl rfl rfl (lt_ok rfl) ?_
    refine TL.gno 31 rfl rfl (lt_ok rfl) rfl rfl rfl (lt_ok rfl) ?_
    refine TL.cons rfl (Step.pick (b := false) (p := (.one (.d (.bool false)))) rfl rfl (lt_ok rfl) rfl rfl) ?_
    refine TL.cons rfl (Step.assign (p := (.one (.d (.bool false)))) rfl rfl (lt_ok rfl) rfl) ?_
    refine TL.nil ?_
    refine T.ret ?_
    exact ⟨[(false, [.d (.bool false)])], (.cons rfl .nil), rfl, [], (RetC.rd' (by (congr 1; symm; first | (apply decide_eq_false; rintro rfl; first | exact absurd rfl ‹¬ _ = _› | exact absurd rfl (of_decide_eq_false (by assumption)) | contradiction | simp_all) | (apply decide_eq_true; apply SIncl.ext <;> first | assumption | exact of_decide_eq_true (by assumption) | exact Decidable.not_not.1 (by assumption) | exact take_all hx2 (by omega) hx3 | simp_all) | (apply decide_eq_decide.2; constructor; (rintro rfl; rfl); intro h_; apply SIncl.ext <;> first | assumption | exact of_decide_eq_true (by assumption) | exact Decidable.not_not.1 (by assumption) | exact take_all hx2 (by omega) hx3 | simp_all))) .nil)⟩
  ·
   refine TL.known 17 hb2 rfl ?_
   refine TL.gno 17 rfl rfl (lt_ok rfl) rfl rfl rfl (lt_ok rfl) ?_
   refine TL.gno 17 rfl rfl (lt_ok rfl) rfl rfl rfl (lt_ok rfl) ?_
   refine TL.gno 17 rfl rfl (lt_ok rfl) rfl rfl rfl (lt_ok rfl) ?_
   refine TL.gno 17 rfl rfl (lt_ok rfl) rfl rfl rfl (lt_ok rfl) ?_
   refine TL.gno 17 rfl rfl (lt_ok rfl) rfl rfl rfl (lt_ok rfl) ?_
   refine TL.cons rfl (Step.pick (b := false) (p := (.one (.d (.bool false)))) rfl rfl (lt_ok rfl) rfl rfl) ?_
   refine TL.cons rfl (Step.move (p := (.one (.d (.bool false)))) rfl rfl (lt_ok rfl) rfl) ?_
   refine TL.gno 24 rfl rfl (lt_ok rfl) rfl rfl rfl (lt_ok rfl) ?_
   refine TL.gno 24 rfl rfl (lt_ok rfl) rfl rfl rfl (lt_ok rfl) ?_
   refine TL.gno 24 rfl rfl (lt_ok rfl) rfl rfl rfl (lt_ok rfl) ?_
   refine TL.gno 24 rfl rfl (lt_ok rfl) rfl rfl rfl (lt_ok rfl) ?_
   refine TL.gno 24 rfl rfl (lt_ok rfl) rfl rfl rfl (lt_ok rfl) ?_
   refine TL.cons rfl (Step.pick (b := false) (p := (.one (.d (.bool false)))) rfl rfl (lt_ok rfl) rfl rfl) ?_
   refine TL.cons rfl (Step.move (p := (.one (.d (.bool false)))) rfl rfl (lt_ok rfl) rfl) ?_
   refine TL.gno 31 rfl rfl (lt_ok rfl) rfl rfl rfl (lt_ok rfl) ?_
   refine TL.gno 31 rfl rfl (lt_ok rfl) rfl rfl rfl (lt_ok rfl) ?_
   refine TL.gno 31 rfl rfl (lt_ok rfl) rfl rfl rfl (lt_ok rfl) ?_
   refine TL.gno 31 rfl rfl (lt_ok rfl) rfl rfl rfl (lt_ok rfl) ?_
   refine TL.gno 31 rfl rfl (lt_ok rfl) rfl rfl rfl (lt_ok rfl) ?_
   refine TL.cons rfl (Step.pick (b := false) (p := (.one (.d (.bool false)))) rfl rfl (lt_ok rfl) rfl rfl) ?_
   refine TL.cons rfl (Step.assign (p := (.one (.d (.bool false)))) rfl rfl (lt_ok rfl) rfl) ?_
   refine TL.nil ?_
   refine T.ret ?_
   exact ⟨[(false, [.d (.bool false)])], (.cons rfl .nil), rfl, [], (RetC.rd' (by (congr 1; symm; first | (apply decide_eq_false; rintro rfl; first | exact absurd rfl ‹¬ _ = _› | exact absurd rfl (of_decide_eq_false (by assumption)) | contradiction | simp_all) | (apply decide_eq_true; apply SIncl.ext <;> first | assumption | exact of_decide_eq_true (by assumption) | exact Decidable.not_not.1 (by assumption) | exact take_all hx2 (by omega) hx3 | simp_all) | (apply decide_eq_decide.2; constructor; (rintro rfl; rfl); intro h_; apply SIncl.ext <;> first | assumption | exact of_decide_eq_true (by assumption) | exact Decidable.not_not.1 (by assumption) | exact take_all hx2 (by omega) hx3 | simp_all))) .nil)⟩
 ·
  refine TL.known 10 hb1 rfl ?_
  refine TL.gno 10 rfl rfl (lt_ok rfl) rfl rfl rfl (lt_ok rfl) ?_
  refine TL.gno 10 rfl rfl (lt_ok rfl) rfl rfl rfl (lt_ok rfl) ?_
  refine TL.gno 10 rfl rfl (lt_ok rfl) rfl rfl rfl (lt_ok rfl) ?_
  refine TL.gno 10 rfl rfl (lt_ok rfl) rfl rfl rfl (lt_ok rfl) ?_
  refine TL.gno 10 rfl rfl (lt_ok rfl) rfl rfl rfl (lt_ok rfl) ?_
  refine TL.cons rfl (Step.pick (b := false) (p := (.one (.d (.bool false)))) rfl rfl (lt_ok rfl) rfl rfl) ?_
  refine TL.cons rfl (Step.move (p := (.one (.d (.bool false)))) rfl rfl (lt_ok rfl) rfl) ?_
  refine TL.gno 17 rfl rfl (lt_ok rfl) rfl rfl rfl (lt_ok rfl) ?_
  refine TL.gno 17 rfl rfl (lt_ok rfl) rfl rfl rfl (lt_ok rfl) ?_
  refine TL.gno 17 rfl rfl (lt_ok rfl) rfl rfl rfl (lt_ok rfl) ?_
  refine TL.gno 17 rfl rfl (lt_ok rfl) rfl rfl rfl (lt_ok rfl) ?_
  refine TL.gno 17 rfl rfl (lt_ok rfl) rfl rfl rfl (lt_ok rfl) ?_
  refine TL.cons rfl (Step.pick (b := false) (p := (.one (.d (.bool false)))) rfl rfl (lt_ok rfl) rfl rfl) ?_
  refine TL.cons rfl (Step.move (p := (.one (.d (.bool false)))) rfl rfl (lt_ok rfl) rfl) ?_
  refine TL.gno 24 rfl rfl (lt_ok rfl) rfl rfl rfl (lt_ok rfl) ?_
  refine TL.gno 24 rfl rfl (lt_ok rfl) rfl rfl rfl (lt_ok rfl) ?_
  refine TL.gno 24 rfl rfl (lt_ok rfl) rfl rfl rfl (lt_ok rfl) ?_
  refine TL.gno 24 rfl rfl (lt_ok rfl) rfl rfl rfl (lt_ok rfl) ?_
  refine TL.gno 24 rfl rfl (lt_ok rfl) rfl rfl rfl (lt_ok rfl) ?_
  refine TL.cons rfl (Step.pick (b := false) (p := (.one (.d (.bool false)))) rfl rfl (lt_ok rfl) rfl rfl) ?_
  refine TL.cons rfl (Step.move (p := (.one (.d (.bool false)))) rfl rfl (lt_ok rfl) rfl) ?_
  refine TL.gno 31 rfl rfl (lt_ok rfl) rfl rfl rfl (lt_ok rfl) ?_
  refine TL.gno 31 rfl rfl (lt_ok rfl) rfl rfl rfl (lt_ok rfl) ?_
  refine TL.gno 31 rfl rfl (lt_ok rfl) rfl rfl rfl (lt_ok rfl) ?_
  refine TL.gno 31 rfl rfl (lt_ok rfl) rfl rfl rfl (lt_ok rfl) ?_
  refine TL.gno 31 rfl rfl (lt_ok rfl) rfl rfl rfl (lt_ok rfl) ?_
  refine TL.cons rfl (Step.pick (b := false) (p := (.one (.d (.bool false)))) rfl rfl (lt_ok rfl) rfl rfl) ?_
  refine TL.cons rfl (Step.assign (p := (.one (.d (.bool false)))) rfl rfl (lt_ok rfl) rfl) ?_
  refine TL.nil ?_
  refine T.ret ?_
  exact ⟨[(false, [.d (.bool false)])], (.cons rfl .nil), rfl, [], (RetC.rd' (by (congr 1; symm; first | (apply decide_eq_false; rintro rfl; first | exact absurd rfl ‹¬ _ = _› | exact absurd rfl (of_decide_eq_false (by assumption)) | contradiction | simp_all) | (apply decide_eq_true; apply SIncl.ext <;> first | assumption | exact of_decide_eq_true (by assumption) | exact Decidable.not_not.1 (by assumption) | exact take_all hx2 (by omega) hx3 | simp_all) | (apply decide_eq_decide.2; constructor; (rintro rfl; rfl); intro h_; apply SIncl.ext <;> first | assumption | exact of_decide_eq_true (by assumption) | exact Decidable.not_not.1 (by assumption) | exact take_all hx2 (by omega) hx3 | simp_all))) .nil)⟩
end Go.Proofs.Ytppldhkkhadngaa.Rf
