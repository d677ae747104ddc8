/- The functions that FnExactOfVote calls, each held to what it answers. Printed by a program of this session; Lean checks it. -/
import Derived.Test.YthaagegnobegjaaProg
import Derived.Test.YthaagegnobegjaaRf21
namespace Go.Proofs.Ythaagegnobegjaa.Rf
open Go.RowKit
set_option linter.unusedVariables false
set_option linter.unnecessarySimpa false
set_option linter.unusedSimpArgs false
set_option maxRecDepth 100000
set_option maxHeartbeats 4000000
@[ext] structure SVote where
  f0 : Int
  f1 : Int
  f2 : List Int
  f3 : Int
  f4 : List Int
  deriving Inhabited, DecidableEq
def SVote.cells (x : SVote) : List D := [(.int .i64 x.f0), (.int .i64 x.f1), (.ints .u8 x.f2), (.int .i64 x.f3), (.ints .u8 x.f4)]
theorem SVote.len (x : SVote) : x.cells.length = 5 := rfl
def SVote.sz (x : SVote) (l : Int) : Int := szThen (szB x.f2 l) fun l0 => szThen (szB x.f4 l0) fun l1 => l1
def SVote.sm (x : SVote) : Prop := (x.f2.length ≤ 1048576) ∧ (x.f4.length ≤ 1048576)
def SVote.ok (x : SVote) : Prop := (I64 x.f0) ∧ (I64 x.f1) ∧ (U8s x.f2) ∧ (I64 x.f3) ∧ (U8s x.f4)
theorem SVote.sz_le (x : SVote) {l : Int} (h : 0 ≤ l) : x.sz l ≤ l := by
  unfold SVote.sz
  exact szThen_le' (szB_le _ h) h fun l0 h0 => szThen_le' (szB_le _ h0) h0 fun l1 h1 => Int.le_refl _
theorem SVote.sz_sm (x : SVote) {l : Int} (h0 : 0 ≤ l) (hl : l ≤ 1048576) (h : 0 ≤ x.sz l) : x.sm := by
  unfold SVote.sz at h
  have ⟨p0, h⟩ := szThen_nn h
  have e0 : (szB x.f2 l) ≤ l := szB_le _ h0
  have s0 := szB_sm p0 hl
  have c0 := Int.le_trans e0 hl
  have ⟨p1, h⟩ := szThen_nn h
  have e1 : (szB x.f4 (szB x.f2 l)) ≤ (szB x.f2 l) := szB_le _ p0
  have s1 := szB_sm p1 c0
  have c1 := Int.le_trans e1 c0
  exact ⟨s0, s1⟩
def SVote.cm (x : SVote) : Int := (x.f2.length : Int) + (x.f4.length : Int)
def SVote.hm (a b : SVote) (k : Int) : Prop := (b.f2 = mkB a.f2 k) ∧ (b.f4 = mkB a.f4 (k + (a.f2.length : Int)))
theorem SVote.cm_nn (x : SVote) : 0 ≤ x.cm := by
  unfold SVote.cm
  omega
theorem SVote.cm_le {x : SVote} (h : x.sm) : x.cm ≤ 2097152 := by
  unfold SVote.cm
  obtain ⟨p2, p4⟩ := h
  have e2 := p2
  have e4 := p4
  omega
theorem SVote.sm_df : (default : SVote).sm := by (repeat' (first | exact Nat.zero_le _ | (intro y hy; exact absurd hy (List.not_mem_nil)) | apply And.intro))
def SVote.ce (x : SVote) : Int := 1 + 1 + (x.f2.length : Int) + 1 + (x.f4.length : Int)
def SVote.me (x : SVote) (k : Int) : SVote := ⟨k, k + 1, mkB x.f2 ((k + 1) + 1), ((k + 1) + 1) + (x.f2.length : Int), mkB x.f4 ((((k + 1) + 1) + (x.f2.length : Int)) + 1)⟩
theorem SVote.ce_nn (x : SVote) : 0 ≤ x.ce := by
  unfold SVote.ce
  omega
theorem SVote.ce_le {x : SVote} (h : x.sm) : x.ce ≤ 2097155 := by
  unfold SVote.ce
  obtain ⟨p2, p4⟩ := h
  have e2 := p2
  have e4 := p4
  omega
theorem SVote.cL_le {xs : List SVote} (h : xs.length ≤ 1048576 ∧ ∀ y ∈ xs, SVote.sm y) : cntL SVote.ce xs ≤ 2199026401280 := by
  have h1 := cntL_le (cnt := SVote.ce) (n := 2097155) xs fun x hx => SVote.ce_le (h.2 x hx)
  have h2 := h.1
  omega
@[ext] structure SQc where
  f0 : Int
  f1 : Int
  f2 : List Int
  f3 : List Int
  f4 : List (List Int)
  deriving Inhabited, DecidableEq
def SQc.cells (x : SQc) : List D := [(.int .i64 x.f0), (.int .i64 x.f1), (.ints .u8 x.f2), (.ints .u8 x.f3), (.bss x.f4)]
theorem SQc.len (x : SQc) : x.cells.length = 5 := rfl
def SQc.sz (x : SQc) (l : Int) : Int := szThen (szB x.f2 l) fun l0 => szThen (szB x.f3 l0) fun l1 => szThen (szLs szB x.f4 l1) fun l2 => l2
def SQc.sm (x : SQc) : Prop := (x.f2.length ≤ 1048576) ∧ (x.f3.length ≤ 1048576) ∧ (x.f4.length ≤ 1048576 ∧ ∀ y ∈ x.f4, y.length ≤ 1048576)
def SQc.ok (x : SQc) : Prop := (I64 x.f0) ∧ (I64 x.f1) ∧ (U8s x.f2) ∧ (U8s x.f3) ∧ (∀ y ∈ x.f4, U8s y)
theorem SQc.sz_le (x : SQc) {l : Int} (h : 0 ≤ l) : x.sz l ≤ l := by
  unfold SQc.sz
  exact szThen_le' (szB_le _ h) h fun l0 h0 => szThen_le' (szB_le _ h0) h0 fun l1 h1 => szThen_le' (szLs_le (fun x l h => szB_le x h) _ h1) h1 fun l2 h2 => Int.le_refl _
theorem SQc.sz_sm (x : SQc) {l : Int} (h0 : 0 ≤ l) (hl : l ≤ 1048576) (h : 0 ≤ x.sz l) : x.sm := by
  unfold SQc.sz at h
  have ⟨p0, h⟩ := szThen_nn h
  have e0 : (szB x.f2 l) ≤ l := szB_le _ h0
  have s0 := szB_sm p0 hl
  have c0 := Int.le_trans e0 hl
  have ⟨p1, h⟩ := szThen_nn h
  have e1 : (szB x.f3 (szB x.f2 l)) ≤ (szB x.f2 l) := szB_le _ p0
  have s1 := szB_sm p1 c0
  have c1 := Int.le_trans e1 c0
  have ⟨p2, h⟩ := szThen_nn h
  have e2 : (szLs szB x.f4 (szB x.f3 (szB x.f2 l))) ≤ (szB x.f3 (szB x.f2 l)) := szLs_le (fun x l h => szB_le x h) _ p1
  have s2 := szLs_sm (p := fun y => y.length ≤ 1048576) (fun x l h => szB_le x h) (fun x l h h0 hl => szB_sm h hl) p2 c1
  have c2 := Int.le_trans e2 c1
  exact ⟨s0, s1, s2⟩
def SQc.cm (x : SQc) : Int := (x.f2.length : Int) + (x.f3.length : Int) + cntL (fun x : List Int => (x.length : Int)) x.f4
def SQc.hm (a b : SQc) (k : Int) : Prop := (b.f2 = mkB a.f2 k) ∧ (b.f3 = mkB a.f3 (k + (a.f2.length : Int))) ∧ (b.f4 = mkBs a.f4 ((k + (a.f2.length : Int)) + (a.f3.length : Int)))
theorem SQc.cm_nn (x : SQc) : 0 ≤ x.cm := by
  unfold SQc.cm
  have n4 := cntBs_nonneg x.f4
  omega
theorem SQc.cm_le {x : SQc} (h : x.sm) : x.cm ≤ 1099513724928 := by
  unfold SQc.cm
  obtain ⟨p2, p3, p4⟩ := h
  have e2 := p2
  have e3 := p3
  have e4 := cntBs_le p4
  omega
theorem SQc.sm_df : (default : SQc).sm := by (repeat' (first | exact Nat.zero_le _ | (intro y hy; exact absurd hy (List.not_mem_nil)) | apply And.intro))
def SQc.ce (x : SQc) : Int := 1 + 1 + (x.f2.length : Int) + (x.f3.length : Int) + cntL (fun x : List Int => (x.length : Int)) x.f4
def SQc.me (x : SQc) (k : Int) : SQc := ⟨k, k + 1, mkB x.f2 ((k + 1) + 1), mkB x.f3 (((k + 1) + 1) + (x.f2.length : Int)), mkBs x.f4 ((((k + 1) + 1) + (x.f2.length : Int)) + (x.f3.length : Int))⟩
theorem SQc.ce_nn (x : SQc) : 0 ≤ x.ce := by
  unfold SQc.ce
  have n4 := cntBs_nonneg x.f4
  omega
theorem SQc.ce_le {x : SQc} (h : x.sm) : x.ce ≤ 1099513724930 := by
  unfold SQc.ce
  obtain ⟨p2, p3, p4⟩ := h
  have e2 := p2
  have e3 := p3
  have e4 := cntBs_le p4
  omega
theorem SQc.cL_le {xs : List SQc} (h : xs.length ≤ 1048576 ∧ ∀ y ∈ xs, SQc.sm y) : cntL SQc.ce xs ≤ 1152923703632199680 := by
  have h1 := cntL_le (cnt := SQc.ce) (n := 1099513724930) xs fun x hx => SQc.ce_le (h.2 x hx)
  have h2 := h.1
  omega
@[ext] structure SEntry where
  f0 : Int
  f1 : Int
  f2 : List Int
  deriving Inhabited, DecidableEq
def SEntry.cells (x : SEntry) : List D := [(.int .i64 x.f0), (.int .i64 x.f1), (.ints .u8 x.f2)]
theorem SEntry.len (x : SEntry) : x.cells.length = 3 := rfl
def SEntry.sz (x : SEntry) (l : Int) : Int := szThen (szB x.f2 l) fun l0 => l0
def SEntry.sm (x : SEntry) : Prop := (x.f2.length ≤ 1048576)
def SEntry.ok (x : SEntry) : Prop := (I64 x.f0) ∧ (I64 x.f1) ∧ (U8s x.f2)
theorem SEntry.sz_le (x : SEntry) {l : Int} (h : 0 ≤ l) : x.sz l ≤ l := by
  unfold SEntry.sz
  exact szThen_le' (szB_le _ h) h fun l0 h0 => Int.le_refl _
theorem SEntry.sz_sm (x : SEntry) {l : Int} (h0 : 0 ≤ l) (hl : l ≤ 1048576) (h : 0 ≤ x.sz l) : x.sm := by
  unfold SEntry.sz at h
  have ⟨p0, h⟩ := szThen_nn h
  have e0 : (szB x.f2 l) ≤ l := szB_le _ h0
  have s0 := szB_sm p0 hl
  have c0 := Int.le_trans e0 hl
  exact s0
def SEntry.cm (x : SEntry) : Int := (x.f2.length : Int)
def SEntry.hm (a b : SEntry) (k : Int) : Prop := (b.f2 = mkB a.f2 k)
theorem SEntry.cm_nn (x : SEntry) : 0 ≤ x.cm := by
  unfold SEntry.cm
  omega
theorem SEntry.cm_le {x : SEntry} (h : x.sm) : x.cm ≤ 1048576 := by
  unfold SEntry.cm
  have p2 : x.f2.length ≤ 1048576 := h
  have e2 := p2
  omega
theorem SEntry.sm_df : (default : SEntry).sm := by (repeat' (first | exact Nat.zero_le _ | (intro y hy; exact absurd hy (List.not_mem_nil)) | apply And.intro))
def SEntry.ce (x : SEntry) : Int := 1 + 1 + (x.f2.length : Int)
def SEntry.me (x : SEntry) (k : Int) : SEntry := ⟨k, k + 1, mkB x.f2 ((k + 1) + 1)⟩
theorem SEntry.ce_nn (x : SEntry) : 0 ≤ x.ce := by
  unfold SEntry.ce
  omega
theorem SEntry.ce_le {x : SEntry} (h : x.sm) : x.ce ≤ 1048578 := by
  unfold SEntry.ce
  have p2 : x.f2.length ≤ 1048576 := h
  have e2 := p2
  omega
theorem SEntry.cL_le {xs : List SEntry} (h : xs.length ≤ 1048576 ∧ ∀ y ∈ xs, SEntry.sm y) : cntL SEntry.ce xs ≤ 1099513724928 := by
  have h1 := cntL_le (cnt := SEntry.ce) (n := 1048578) xs fun x hx => SEntry.ce_le (h.2 x hx)
  have h2 := h.1
  omega
@[ext] structure STc where
  f0 : Int
  f1 : List SEntry
  deriving Inhabited, DecidableEq
def STc.cells (x : STc) : List D := [(.int .i64 x.f0), (.sl 3 (x.f1.map SEntry.cells))]
theorem STc.len (x : STc) : x.cells.length = 2 := rfl
def STc.sz (x : STc) (l : Int) : Int := szThen (szLs SEntry.sz x.f1 l) fun l0 => l0
def STc.sm (x : STc) : Prop := (x.f1.length ≤ 1048576 ∧ ∀ y ∈ x.f1, SEntry.sm y)
def STc.ok (x : STc) : Prop := (I64 x.f0) ∧ (∀ y ∈ x.f1, SEntry.ok y)
theorem STc.sz_le (x : STc) {l : Int} (h : 0 ≤ l) : x.sz l ≤ l := by
  unfold STc.sz
  exact szThen_le' (szLs_le (fun x l h => SEntry.sz_le x h) _ h) h fun l0 h0 => Int.le_refl _
theorem STc.sz_sm (x : STc) {l : Int} (h0 : 0 ≤ l) (hl : l ≤ 1048576) (h : 0 ≤ x.sz l) : x.sm := by
  unfold STc.sz at h
  have ⟨p0, h⟩ := szThen_nn h
  have e0 : (szLs SEntry.sz x.f1 l) ≤ l := szLs_le (fun x l h => SEntry.sz_le x h) _ h0
  have s0 := szLs_sm (p := SEntry.sm) (fun x l h => SEntry.sz_le x h) (fun x l h h0 hl => SEntry.sz_sm x h0 hl h) p0 hl
  have c0 := Int.le_trans e0 hl
  exact s0
def STc.cm (x : STc) : Int := cntL SEntry.ce x.f1
def STc.hm (a b : STc) (k : Int) : Prop := (b.f1 = mkL SEntry.ce SEntry.me a.f1 k)
theorem STc.cm_nn (x : STc) : 0 ≤ x.cm := by
  unfold STc.cm
  have n1 := cntL_nonneg SEntry.ce_nn x.f1
  omega
theorem STc.cm_le {x : STc} (h : x.sm) : x.cm ≤ 1099513724928 := by
  unfold STc.cm
  have p1 : x.f1.length ≤ 1048576 ∧ ∀ y ∈ x.f1, SEntry.sm y := h
  have e1 := SEntry.cL_le p1
  omega
theorem STc.sm_df : (default : STc).sm := by (repeat' (first | exact Nat.zero_le _ | (intro y hy; exact absurd hy (List.not_mem_nil)) | apply And.intro))
def STc.ce (x : STc) : Int := 1 + cntL SEntry.ce x.f1
def STc.me (x : STc) (k : Int) : STc := ⟨k, mkL SEntry.ce SEntry.me x.f1 (k + 1)⟩
theorem STc.ce_nn (x : STc) : 0 ≤ x.ce := by
  unfold STc.ce
  have n1 := cntL_nonneg SEntry.ce_nn x.f1
  omega
theorem STc.ce_le {x : STc} (h : x.sm) : x.ce ≤ 1099513724929 := by
  unfold STc.ce
  have p1 : x.f1.length ≤ 1048576 ∧ ∀ y ∈ x.f1, SEntry.sm y := h
  have e1 := SEntry.cL_le p1
  omega
theorem STc.cL_le {xs : List STc} (h : xs.length ≤ 1048576 ∧ ∀ y ∈ xs, STc.sm y) : cntL STc.ce xs ≤ 1152923703631151104 := by
  have h1 := cntL_le (cnt := STc.ce) (n := 1099513724929) xs fun x hx => STc.ce_le (h.2 x hx)
  have h2 := h.1
  omega
@[ext] structure SIncl where
  f0 : Int
  f1 : Int
  f2 : Int
  f3 : List Int
  f4 : List (List Int)
  deriving Inhabited, DecidableEq
def SIncl.cells (x : SIncl) : List D := [(.int .i64 x.f0), (.int .i64 x.f1), (.int .i64 x.f2), (.ints .u8 x.f3), (.bss x.f4)]
theorem SIncl.len (x : SIncl) : x.cells.length = 5 := rfl
def SIncl.sz (x : SIncl) (l : Int) : Int := szThen (szB x.f3 l) fun l0 => szThen (szLs szB x.f4 l0) fun l1 => l1
def SIncl.sm (x : SIncl) : Prop := (x.f3.length ≤ 1048576) ∧ (x.f4.length ≤ 1048576 ∧ ∀ y ∈ x.f4, y.length ≤ 1048576)
def SIncl.ok (x : SIncl) : Prop := (I64 x.f0) ∧ (I64 x.f1) ∧ (I64 x.f2) ∧ (U8s x.f3) ∧ (∀ y ∈ x.f4, U8s y)
theorem SIncl.sz_le (x : SIncl) {l : Int} (h : 0 ≤ l) : x.sz l ≤ l := by
  unfold SIncl.sz
  exact szThen_le' (szB_le _ h) h fun l0 h0 => szThen_le' (szLs_le (fun x l h => szB_le x h) _ h0) h0 fun l1 h1 => Int.le_refl _
theorem SIncl.sz_sm (x : SIncl) {l : Int} (h0 : 0 ≤ l) (hl : l ≤ 1048576) (h : 0 ≤ x.sz l) : x.sm := by
  unfold SIncl.sz at h
  have ⟨p0, h⟩ := szThen_nn h
  have e0 : (szB x.f3 l) ≤ l := szB_le _ h0
  have s0 := szB_sm p0 hl
  have c0 := Int.le_trans e0 hl
  have ⟨p1, h⟩ := szThen_nn h
  have e1 : (szLs szB x.f4 (szB x.f3 l)) ≤ (szB x.f3 l) := szLs_le (fun x l h => szB_le x h) _ p0
  have s1 := szLs_sm (p := fun y => y.length ≤ 1048576) (fun x l h => szB_le x h) (fun x l h h0 hl => szB_sm h hl) p1 c0
  have c1 := Int.le_trans e1 c0
  exact ⟨s0, s1⟩
def SIncl.cm (x : SIncl) : Int := (x.f3.length : Int) + cntL (fun x : List Int => (x.length : Int)) x.f4
def SIncl.hm (a b : SIncl) (k : Int) : Prop := (b.f3 = mkB a.f3 k) ∧ (b.f4 = mkBs a.f4 (k + (a.f3.length : Int)))
theorem SIncl.cm_nn (x : SIncl) : 0 ≤ x.cm := by
  unfold SIncl.cm
  have n4 := cntBs_nonneg x.f4
  omega
theorem SIncl.cm_le {x : SIncl} (h : x.sm) : x.cm ≤ 1099512676352 := by
  unfold SIncl.cm
  obtain ⟨p3, p4⟩ := h
  have e3 := p3
  have e4 := cntBs_le p4
  omega
theorem SIncl.sm_df : (default : SIncl).sm := by (repeat' (first | exact Nat.zero_le _ | (intro y hy; exact absurd hy (List.not_mem_nil)) | apply And.intro))
def SIncl.ce (x : SIncl) : Int := 1 + 1 + 1 + (x.f3.length : Int) + cntL (fun x : List Int => (x.length : Int)) x.f4
def SIncl.me (x : SIncl) (k : Int) : SIncl := ⟨k, k + 1, (k + 1) + 1, mkB x.f3 (((k + 1) + 1) + 1), mkBs x.f4 ((((k + 1) + 1) + 1) + (x.f3.length : Int))⟩
theorem SIncl.ce_nn (x : SIncl) : 0 ≤ x.ce := by
  unfold SIncl.ce
  have n4 := cntBs_nonneg x.f4
  omega
theorem SIncl.ce_le {x : SIncl} (h : x.sm) : x.ce ≤ 1099512676355 := by
  unfold SIncl.ce
  obtain ⟨p3, p4⟩ := h
  have e3 := p3
  have e4 := cntBs_le p4
  omega
theorem SIncl.cL_le {xs : List SIncl} (h : xs.length ≤ 1048576 ∧ ∀ y ∈ xs, SIncl.sm y) : cntL SIncl.ce xs ≤ 1152922604121620480 := by
  have h1 := cntL_le (cnt := SIncl.ce) (n := 1099512676355) xs fun x hx => SIncl.ce_le (h.2 x hx)
  have h2 := h.1
  omega
@[ext] structure SHead where
  f0 : Int
  f1 : Int
  f2 : Int
  f3 : List Int
  f4 : List Int
  f5 : SQc
  deriving Inhabited, DecidableEq
def SHead.cells (x : SHead) : List D := [(.int .i64 x.f0), (.int .i64 x.f1), (.int .i64 x.f2), (.ints .u8 x.f3), (.ints .u8 x.f4), (.int .i64 x.f5.f0), (.int .i64 x.f5.f1), (.ints .u8 x.f5.f2), (.ints .u8 x.f5.f3), (.bss x.f5.f4)]
theorem SHead.len (x : SHead) : x.cells.length = 10 := rfl
def SHead.sz (x : SHead) (l : Int) : Int := szThen (szB x.f3 l) fun l0 => szThen (szB x.f4 l0) fun l1 => szThen (SQc.sz x.f5 l1) fun l2 => l2
def SHead.sm (x : SHead) : Prop := (x.f3.length ≤ 1048576) ∧ (x.f4.length ≤ 1048576) ∧ (x.f5.sm)
def SHead.ok (x : SHead) : Prop := (I64 x.f0) ∧ (I64 x.f1) ∧ (I64 x.f2) ∧ (U8s x.f3) ∧ (U8s x.f4) ∧ (x.f5.ok)
theorem SHead.sz_le (x : SHead) {l : Int} (h : 0 ≤ l) : x.sz l ≤ l := by
  unfold SHead.sz
  exact szThen_le' (szB_le _ h) h fun l0 h0 => szThen_le' (szB_le _ h0) h0 fun l1 h1 => szThen_le' (SQc.sz_le _ h1) h1 fun l2 h2 => Int.le_refl _
theorem SHead.sz_sm (x : SHead) {l : Int} (h0 : 0 ≤ l) (hl : l ≤ 1048576) (h : 0 ≤ x.sz l) : x.sm := by
  unfold SHead.sz at h
  have ⟨p0, h⟩ := szThen_nn h
  have e0 : (szB x.f3 l) ≤ l := szB_le _ h0
  have s0 := szB_sm p0 hl
  have c0 := Int.le_trans e0 hl
  have ⟨p1, h⟩ := szThen_nn h
  have e1 : (szB x.f4 (szB x.f3 l)) ≤ (szB x.f3 l) := szB_le _ p0
  have s1 := szB_sm p1 c0
  have c1 := Int.le_trans e1 c0
  have ⟨p2, h⟩ := szThen_nn h
  have e2 : (SQc.sz x.f5 (szB x.f4 (szB x.f3 l))) ≤ (szB x.f4 (szB x.f3 l)) := SQc.sz_le _ p1
  have s2 := SQc.sz_sm _ p1 c1 p2
  have c2 := Int.le_trans e2 c1
  exact ⟨s0, s1, s2⟩
def SHead.cm (x : SHead) : Int := (x.f3.length : Int) + (x.f4.length : Int) + x.f5.cm
def SHead.hm (a b : SHead) (k : Int) : Prop := (b.f3 = mkB a.f3 k) ∧ (b.f4 = mkB a.f4 (k + (a.f3.length : Int))) ∧ (SQc.hm a.f5 b.f5 ((k + (a.f3.length : Int)) + (a.f4.length : Int)))
theorem SHead.cm_nn (x : SHead) : 0 ≤ x.cm := by
  unfold SHead.cm
  have n5 := SQc.cm_nn x.f5
  omega
theorem SHead.cm_le {x : SHead} (h : x.sm) : x.cm ≤ 1099515822080 := by
  unfold SHead.cm
  obtain ⟨p3, p4, p5⟩ := h
  have e3 := p3
  have e4 := p4
  have e5 := SQc.cm_le p5
  omega
theorem SHead.sm_df : (default : SHead).sm := by (repeat' (first | exact Nat.zero_le _ | (intro y hy; exact absurd hy (List.not_mem_nil)) | apply And.intro))
def SHead.ce (x : SHead) : Int := 1 + 1 + 1 + (x.f3.length : Int) + (x.f4.length : Int) + x.f5.ce
def SHead.me (x : SHead) (k : Int) : SHead := ⟨k, k + 1, (k + 1) + 1, mkB x.f3 (((k + 1) + 1) + 1), mkB x.f4 ((((k + 1) + 1) + 1) + (x.f3.length : Int)), x.f5.me (((((k + 1) + 1) + 1) + (x.f3.length : Int)) + (x.f4.length : Int))⟩
theorem SHead.ce_nn (x : SHead) : 0 ≤ x.ce := by
  unfold SHead.ce
  have n5 := SQc.ce_nn x.f5
  omega
theorem SHead.ce_le {x : SHead} (h : x.sm) : x.ce ≤ 1099515822085 := by
  unfold SHead.ce
  obtain ⟨p3, p4, p5⟩ := h
  have e3 := p3
  have e4 := p4
  have e5 := SQc.ce_le p5
  omega
theorem SHead.cL_le {xs : List SHead} (h : xs.length ≤ 1048576 ∧ ∀ y ∈ xs, SHead.sm y) : cntL SHead.ce xs ≤ 1152925902658600960 := by
  have h1 := cntL_le (cnt := SHead.ce) (n := 1099515822085) xs fun x hx => SHead.ce_le (h.2 x hx)
  have h2 := h.1
  omega
@[ext] structure SBlock where
  f0 : SHead
  f1 : List (List Int)
  deriving Inhabited, DecidableEq
def SBlock.cells (x : SBlock) : List D := [(.int .i64 x.f0.f0), (.int .i64 x.f0.f1), (.int .i64 x.f0.f2), (.ints .u8 x.f0.f3), (.ints .u8 x.f0.f4), (.int .i64 x.f0.f5.f0), (.int .i64 x.f0.f5.f1), (.ints .u8 x.f0.f5.f2), (.ints .u8 x.f0.f5.f3), (.bss x.f0.f5.f4), (.bss x.f1)]
theorem SBlock.len (x : SBlock) : x.cells.length = 11 := rfl
def SBlock.sz (x : SBlock) (l : Int) : Int := szThen (SHead.sz x.f0 l) fun l0 => szThen (szLs szB x.f1 l0) fun l1 => l1
def SBlock.sm (x : SBlock) : Prop := (x.f0.sm) ∧ (x.f1.length ≤ 1048576 ∧ ∀ y ∈ x.f1, y.length ≤ 1048576)
def SBlock.ok (x : SBlock) : Prop := (x.f0.ok) ∧ (∀ y ∈ x.f1, U8s y)
theorem SBlock.sz_le (x : SBlock) {l : Int} (h : 0 ≤ l) : x.sz l ≤ l := by
  unfold SBlock.sz
  exact szThen_le' (SHead.sz_le _ h) h fun l0 h0 => szThen_le' (szLs_le (fun x l h => szB_le x h) _ h0) h0 fun l1 h1 => Int.le_refl _
theorem SBlock.sz_sm (x : SBlock) {l : Int} (h0 : 0 ≤ l) (hl : l ≤ 1048576) (h : 0 ≤ x.sz l) : x.sm := by
  unfold SBlock.sz at h
  have ⟨p0, h⟩ := szThen_nn h
  have e0 : (SHead.sz x.f0 l) ≤ l := SHead.sz_le _ h0
  have s0 := SHead.sz_sm _ h0 hl p0
  have c0 := Int.le_trans e0 hl
  have ⟨p1, h⟩ := szThen_nn h
  have e1 : (szLs szB x.f1 (SHead.sz x.f0 l)) ≤ (SHead.sz x.f0 l) := szLs_le (fun x l h => szB_le x h) _ p0
  have s1 := szLs_sm (p := fun y => y.length ≤ 1048576) (fun x l h => szB_le x h) (fun x l h h0 hl => szB_sm h hl) p1 c0
  have c1 := Int.le_trans e1 c0
  exact ⟨s0, s1⟩
def SBlock.cm (x : SBlock) : Int := x.f0.cm + cntL (fun x : List Int => (x.length : Int)) x.f1
def SBlock.hm (a b : SBlock) (k : Int) : Prop := (SHead.hm a.f0 b.f0 k) ∧ (b.f1 = mkBs a.f1 (k + a.f0.cm))
theorem SBlock.cm_nn (x : SBlock) : 0 ≤ x.cm := by
  unfold SBlock.cm
  have n0 := SHead.cm_nn x.f0
  have n1 := cntBs_nonneg x.f1
  omega
theorem SBlock.cm_le {x : SBlock} (h : x.sm) : x.cm ≤ 2199027449856 := by
  unfold SBlock.cm
  obtain ⟨p0, p1⟩ := h
  have e0 := SHead.cm_le p0
  have e1 := cntBs_le p1
  omega
theorem SBlock.sm_df : (default : SBlock).sm := by (repeat' (first | exact Nat.zero_le _ | (intro y hy; exact absurd hy (List.not_mem_nil)) | apply And.intro))
def SBlock.ce (x : SBlock) : Int := x.f0.ce + cntL (fun x : List Int => (x.length : Int)) x.f1
def SBlock.me (x : SBlock) (k : Int) : SBlock := ⟨x.f0.me k, mkBs x.f1 ((((((((((k + 1) + 1) + 1) + (x.f0.f3.length : Int)) + (x.f0.f4.length : Int)) + 1) + 1) + (x.f0.f5.f2.length : Int)) + (x.f0.f5.f3.length : Int)) + cntL (fun x : List Int => (x.length : Int)) x.f0.f5.f4)⟩
theorem SBlock.ce_nn (x : SBlock) : 0 ≤ x.ce := by
  unfold SBlock.ce
  have n0 := SHead.ce_nn x.f0
  have n1 := cntBs_nonneg x.f1
  omega
theorem SBlock.ce_le {x : SBlock} (h : x.sm) : x.ce ≤ 2199027449861 := by
  unfold SBlock.ce
  obtain ⟨p0, p1⟩ := h
  have e0 := SHead.ce_le p0
  have e1 := cntBs_le p1
  omega
theorem SBlock.cL_le {xs : List SBlock} (h : xs.length ≤ 1048576 ∧ ∀ y ∈ xs, SBlock.sm y) : cntL SBlock.ce xs ≤ 2305847407265447936 := by
  have h1 := cntL_le (cnt := SBlock.ce) (n := 2199027449861) xs fun x hx => SBlock.ce_le (h.2 x hx)
  have h2 := h.1
  omega
@[ext] structure SProof where
  f0 : List SHead
  f1 : SQc
  deriving Inhabited, DecidableEq
def SProof.cells (x : SProof) : List D := [(.sl 10 (x.f0.map SHead.cells)), (.int .i64 x.f1.f0), (.int .i64 x.f1.f1), (.ints .u8 x.f1.f2), (.ints .u8 x.f1.f3), (.bss x.f1.f4)]
theorem SProof.len (x : SProof) : x.cells.length = 6 := rfl
def SProof.sz (x : SProof) (l : Int) : Int := szThen (szLs SHead.sz x.f0 l) fun l0 => szThen (SQc.sz x.f1 l0) fun l1 => l1
def SProof.sm (x : SProof) : Prop := (x.f0.length ≤ 1048576 ∧ ∀ y ∈ x.f0, SHead.sm y) ∧ (x.f1.sm)
def SProof.ok (x : SProof) : Prop := (∀ y ∈ x.f0, SHead.ok y) ∧ (x.f1.ok)
theorem SProof.sz_le (x : SProof) {l : Int} (h : 0 ≤ l) : x.sz l ≤ l := by
  unfold SProof.sz
  exact szThen_le' (szLs_le (fun x l h => SHead.sz_le x h) _ h) h fun l0 h0 => szThen_le' (SQc.sz_le _ h0) h0 fun l1 h1 => Int.le_refl _
theorem SProof.sz_sm (x : SProof) {l : Int} (h0 : 0 ≤ l) (hl : l ≤ 1048576) (h : 0 ≤ x.sz l) : x.sm := by
  unfold SProof.sz at h
  have ⟨p0, h⟩ := szThen_nn h
  have e0 : (szLs SHead.sz x.f0 l) ≤ l := szLs_le (fun x l h => SHead.sz_le x h) _ h0
  have s0 := szLs_sm (p := SHead.sm) (fun x l h => SHead.sz_le x h) (fun x l h h0 hl => SHead.sz_sm x h0 hl h) p0 hl
  have c0 := Int.le_trans e0 hl
  have ⟨p1, h⟩ := szThen_nn h
  have e1 : (SQc.sz x.f1 (szLs SHead.sz x.f0 l)) ≤ (szLs SHead.sz x.f0 l) := SQc.sz_le _ p0
  have s1 := SQc.sz_sm _ p0 c0 p1
  have c1 := Int.le_trans e1 c0
  exact ⟨s0, s1⟩
def SProof.cm (x : SProof) : Int := cntL SHead.ce x.f0 + x.f1.cm
def SProof.hm (a b : SProof) (k : Int) : Prop := (b.f0 = mkL SHead.ce SHead.me a.f0 k) ∧ (SQc.hm a.f1 b.f1 (k + cntL SHead.ce a.f0))
theorem SProof.cm_nn (x : SProof) : 0 ≤ x.cm := by
  unfold SProof.cm
  have n0 := cntL_nonneg SHead.ce_nn x.f0
  have n1 := SQc.cm_nn x.f1
  omega
theorem SProof.cm_le {x : SProof} (h : x.sm) : x.cm ≤ 1152927002172325888 := by
  unfold SProof.cm
  obtain ⟨p0, p1⟩ := h
  have e0 := SHead.cL_le p0
  have e1 := SQc.cm_le p1
  omega
theorem SProof.sm_df : (default : SProof).sm := by (repeat' (first | exact Nat.zero_le _ | (intro y hy; exact absurd hy (List.not_mem_nil)) | apply And.intro))
def SProof.ce (x : SProof) : Int := cntL SHead.ce x.f0 + x.f1.ce
def SProof.me (x : SProof) (k : Int) : SProof := ⟨mkL SHead.ce SHead.me x.f0 k, x.f1.me (k + cntL SHead.ce x.f0)⟩
theorem SProof.ce_nn (x : SProof) : 0 ≤ x.ce := by
  unfold SProof.ce
  have n0 := cntL_nonneg SHead.ce_nn x.f0
  have n1 := SQc.ce_nn x.f1
  omega
theorem SProof.ce_le {x : SProof} (h : x.sm) : x.ce ≤ 1152927002172325890 := by
  unfold SProof.ce
  obtain ⟨p0, p1⟩ := h
  have e0 := SHead.cL_le p0
  have e1 := SQc.ce_le p1
  omega
theorem SProof.cL_le {xs : List SProof} (h : xs.length ≤ 1048576 ∧ ∀ y ∈ xs, SProof.sm y) : cntL SProof.ce xs ≤ 1208931584229848792432640 := by
  have h1 := cntL_le (cnt := SProof.ce) (n := 1152927002172325890) xs fun x hx => SProof.ce_le (h.2 x hx)
  have h2 := h.1
  omega
@[ext] structure SMsg where
  f0 : Int
  f1 : SVote
  f2 : SQc
  f3 : SHead
  f4 : SBlock
  f5 : STc
  f6 : SProof
  f7 : SIncl
  deriving Inhabited, DecidableEq
def SMsg.cells (x : SMsg) : List D := [(.int .i64 x.f0), (.int .i64 x.f1.f0), (.int .i64 x.f1.f1), (.ints .u8 x.f1.f2), (.int .i64 x.f1.f3), (.ints .u8 x.f1.f4), (.int .i64 x.f2.f0), (.int .i64 x.f2.f1), (.ints .u8 x.f2.f2), (.ints .u8 x.f2.f3), (.bss x.f2.f4), (.int .i64 x.f3.f0), (.int .i64 x.f3.f1), (.int .i64 x.f3.f2), (.ints .u8 x.f3.f3), (.ints .u8 x.f3.f4), (.int .i64 x.f3.f5.f0), (.int .i64 x.f3.f5.f1), (.ints .u8 x.f3.f5.f2), (.ints .u8 x.f3.f5.f3), (.bss x.f3.f5.f4), (.int .i64 x.f4.f0.f0), (.int .i64 x.f4.f0.f1), (.int .i64 x.f4.f0.f2), (.ints .u8 x.f4.f0.f3), (.ints .u8 x.f4.f0.f4), (.int .i64 x.f4.f0.f5.f0), (.int .i64 x.f4.f0.f5.f1), (.ints .u8 x.f4.f0.f5.f2), (.ints .u8 x.f4.f0.f5.f3), (.bss x.f4.f0.f5.f4), (.bss x.f4.f1), (.int .i64 x.f5.f0), (.sl 3 (x.f5.f1.map SEntry.cells)), (.sl 10 (x.f6.f0.map SHead.cells)), (.int .i64 x.f6.f1.f0), (.int .i64 x.f6.f1.f1), (.ints .u8 x.f6.f1.f2), (.ints .u8 x.f6.f1.f3), (.bss x.f6.f1.f4), (.int .i64 x.f7.f0), (.int .i64 x.f7.f1), (.int .i64 x.f7.f2), (.ints .u8 x.f7.f3), (.bss x.f7.f4)]
theorem SMsg.len (x : SMsg) : x.cells.length = 45 := rfl
def SMsg.sz (x : SMsg) (l : Int) : Int := szThen (SVote.sz x.f1 l) fun l0 => szThen (SQc.sz x.f2 l0) fun l1 => szThen (SHead.sz x.f3 l1) fun l2 => szThen (SBlock.sz x.f4 l2) fun l3 => szThen (STc.sz x.f5 l3) fun l4 => szThen (SProof.sz x.f6 l4) fun l5 => szThen (SIncl.sz x.f7 l5) fun l6 => l6
def SMsg.sm (x : SMsg) : Prop := (x.f1.sm) ∧ (x.f2.sm) ∧ (x.f3.sm) ∧ (x.f4.sm) ∧ (x.f5.sm) ∧ (x.f6.sm) ∧ (x.f7.sm)
def SMsg.ok (x : SMsg) : Prop := (I64 x.f0) ∧ (x.f1.ok) ∧ (x.f2.ok) ∧ (x.f3.ok) ∧ (x.f4.ok) ∧ (x.f5.ok) ∧ (x.f6.ok) ∧ (x.f7.ok)
theorem SMsg.sz_le (x : SMsg) {l : Int} (h : 0 ≤ l) : x.sz l ≤ l := by
  unfold SMsg.sz
  exact szThen_le' (SVote.sz_le _ h) h fun l0 h0 => szThen_le' (SQc.sz_le _ h0) h0 fun l1 h1 => szThen_le' (SHead.sz_le _ h1) h1 fun l2 h2 => szThen_le' (SBlock.sz_le _ h2) h2 fun l3 h3 => szThen_le' (STc.sz_le _ h3) h3 fun l4 h4 => szThen_le' (SProof.sz_le _ h4) h4 fun l5 h5 => szThen_le' (SIncl.sz_le _ h5) h5 fun l6 h6 => Int.le_refl _
theorem SMsg.sz_sm (x : SMsg) {l : Int} (h0 : 0 ≤ l) (hl : l ≤ 1048576) (h : 0 ≤ x.sz l) : x.sm := by
  unfold SMsg.sz at h
  have ⟨p0, h⟩ := szThen_nn h
  have e0 : (SVote.sz x.f1 l) ≤ l := SVote.sz_le _ h0
  have s0 := SVote.sz_sm _ h0 hl p0
  have c0 := Int.le_trans e0 hl
  have ⟨p1, h⟩ := szThen_nn h
  have e1 : (SQc.sz x.f2 (SVote.sz x.f1 l)) ≤ (SVote.sz x.f1 l) := SQc.sz_le _ p0
  have s1 := SQc.sz_sm _ p0 c0 p1
  have c1 := Int.le_trans e1 c0
  have ⟨p2, h⟩ := szThen_nn h
  have e2 : (SHead.sz x.f3 (SQc.sz x.f2 (SVote.sz x.f1 l))) ≤ (SQc.sz x.f2 (SVote.sz x.f1 l)) := SHead.sz_le _ p1
  have s2 := SHead.sz_sm _ p1 c1 p2
  have c2 := Int.le_trans e2 c1
  have ⟨p3, h⟩ := szThen_nn h
  have e3 : (SBlock.sz x.f4 (SHead.sz x.f3 (SQc.sz x.f2 (SVote.sz x.f1 l)))) ≤ (SHead.sz x.f3 (SQc.sz x.f2 (SVote.sz x.f1 l))) := SBlock.sz_le _ p2
  have s3 := SBlock.sz_sm _ p2 c2 p3
  have c3 := Int.le_trans e3 c2
  have ⟨p4, h⟩ := szThen_nn h
  have e4 : (STc.sz x.f5 (SBlock.sz x.f4 (SHead.sz x.f3 (SQc.sz x.f2 (SVote.sz x.f1 l))))) ≤ (SBlock.sz x.f4 (SHead.sz x.f3 (SQc.sz x.f2 (SVote.sz x.f1 l)))) := STc.sz_le _ p3
  have s4 := STc.sz_sm _ p3 c3 p4
  have c4 := Int.le_trans e4 c3
  have ⟨p5, h⟩ := szThen_nn h
  have e5 : (SProof.sz x.f6 (STc.sz x.f5 (SBlock.sz x.f4 (SHead.sz x.f3 (SQc.sz x.f2 (SVote.sz x.f1 l)))))) ≤ (STc.sz x.f5 (SBlock.sz x.f4 (SHead.sz x.f3 (SQc.sz x.f2 (SVote.sz x.f1 l))))) := SProof.sz_le _ p4
  have s5 := SProof.sz_sm _ p4 c4 p5
  have c5 := Int.le_trans e5 c4
  have ⟨p6, h⟩ := szThen_nn h
  have e6 : (SIncl.sz x.f7 (SProof.sz x.f6 (STc.sz x.f5 (SBlock.sz x.f4 (SHead.sz x.f3 (SQc.sz x.f2 (SVote.sz x.f1 l))))))) ≤ (SProof.sz x.f6 (STc.sz x.f5 (SBlock.sz x.f4 (SHead.sz x.f3 (SQc.sz x.f2 (SVote.sz x.f1 l)))))) := SIncl.sz_le _ p5
  have s6 := SIncl.sz_sm _ p5 c5 p6
  have c6 := Int.le_trans e6 c5
  exact ⟨s0, s1, s2, s3, s4, s5, s6⟩
def SMsg.cm (x : SMsg) : Int := x.f1.cm + x.f2.cm + x.f3.cm + x.f4.cm + x.f5.cm + x.f6.cm + x.f7.cm
def SMsg.hm (a b : SMsg) (k : Int) : Prop := (SVote.hm a.f1 b.f1 k) ∧ (SQc.hm a.f2 b.f2 (k + a.f1.cm)) ∧ (SHead.hm a.f3 b.f3 ((k + a.f1.cm) + a.f2.cm)) ∧ (SBlock.hm a.f4 b.f4 (((k + a.f1.cm) + a.f2.cm) + a.f3.cm)) ∧ (STc.hm a.f5 b.f5 ((((k + a.f1.cm) + a.f2.cm) + a.f3.cm) + a.f4.cm)) ∧ (SProof.hm a.f6 b.f6 (((((k + a.f1.cm) + a.f2.cm) + a.f3.cm) + a.f4.cm) + a.f5.cm)) ∧ (SIncl.hm a.f7 b.f7 ((((((k + a.f1.cm) + a.f2.cm) + a.f3.cm) + a.f4.cm) + a.f5.cm) + a.f6.cm))
theorem SMsg.cm_nn (x : SMsg) : 0 ≤ x.cm := by
  unfold SMsg.cm
  have n1 := SVote.cm_nn x.f1
  have n2 := SQc.cm_nn x.f2
  have n3 := SHead.cm_nn x.f3
  have n4 := SBlock.cm_nn x.f4
  have n5 := STc.cm_nn x.f5
  have n6 := SProof.cm_nn x.f6
  have n7 := SIncl.cm_nn x.f7
  omega
theorem SMsg.cm_le {x : SMsg} (h : x.sm) : x.cm ≤ 1152933599257821184 := by
  unfold SMsg.cm
  obtain ⟨p1, p2, p3, p4, p5, p6, p7⟩ := h
  have e1 := SVote.cm_le p1
  have e2 := SQc.cm_le p2
  have e3 := SHead.cm_le p3
  have e4 := SBlock.cm_le p4
  have e5 := STc.cm_le p5
  have e6 := SProof.cm_le p6
  have e7 := SIncl.cm_le p7
  omega
theorem SMsg.sm_df : (default : SMsg).sm := by (repeat' (first | exact Nat.zero_le _ | (intro y hy; exact absurd hy (List.not_mem_nil)) | apply And.intro))
def SMsg.ce (x : SMsg) : Int := 1 + x.f1.ce + x.f2.ce + x.f3.ce + x.f4.ce + x.f5.ce + x.f6.ce + x.f7.ce
def SMsg.me (x : SMsg) (k : Int) : SMsg := ⟨k, x.f1.me (k + 1), x.f2.me ((((((k + 1) + 1) + 1) + (x.f1.f2.length : Int)) + 1) + (x.f1.f4.length : Int)), x.f3.me (((((((((((k + 1) + 1) + 1) + (x.f1.f2.length : Int)) + 1) + (x.f1.f4.length : Int)) + 1) + 1) + (x.f2.f2.length : Int)) + (x.f2.f3.length : Int)) + cntL (fun x : List Int => (x.length : Int)) x.f2.f4), x.f4.me (((((((((((((((((((((k + 1) + 1) + 1) + (x.f1.f2.length : Int)) + 1) + (x.f1.f4.length : Int)) + 1) + 1) + (x.f2.f2.length : Int)) + (x.f2.f3.length : Int)) + cntL (fun x : List Int => (x.length : Int)) x.f2.f4) + 1) + 1) + 1) + (x.f3.f3.length : Int)) + (x.f3.f4.length : Int)) + 1) + 1) + (x.f3.f5.f2.length : Int)) + (x.f3.f5.f3.length : Int)) + cntL (fun x : List Int => (x.length : Int)) x.f3.f5.f4), x.f5.me ((((((((((((((((((((((((((((((((k + 1) + 1) + 1) + (x.f1.f2.length : Int)) + 1) + (x.f1.f4.length : Int)) + 1) + 1) + (x.f2.f2.length : Int)) + (x.f2.f3.length : Int)) + cntL (fun x : List Int => (x.length : Int)) x.f2.f4) + 1) + 1) + 1) + (x.f3.f3.length : Int)) + (x.f3.f4.length : Int)) + 1) + 1) + (x.f3.f5.f2.length : Int)) + (x.f3.f5.f3.length : Int)) + cntL (fun x : List Int => (x.length : Int)) x.f3.f5.f4) + 1) + 1) + 1) + (x.f4.f0.f3.length : Int)) + (x.f4.f0.f4.length : Int)) + 1) + 1) + (x.f4.f0.f5.f2.length : Int)) + (x.f4.f0.f5.f3.length : Int)) + cntL (fun x : List Int => (x.length : Int)) x.f4.f0.f5.f4) + cntL (fun x : List Int => (x.length : Int)) x.f4.f1), x.f6.me ((((((((((((((((((((((((((((((((((k + 1) + 1) + 1) + (x.f1.f2.length : Int)) + 1) + (x.f1.f4.length : Int)) + 1) + 1) + (x.f2.f2.length : Int)) + (x.f2.f3.length : Int)) + cntL (fun x : List Int => (x.length : Int)) x.f2.f4) + 1) + 1) + 1) + (x.f3.f3.length : Int)) + (x.f3.f4.length : Int)) + 1) + 1) + (x.f3.f5.f2.length : Int)) + (x.f3.f5.f3.length : Int)) + cntL (fun x : List Int => (x.length : Int)) x.f3.f5.f4) + 1) + 1) + 1) + (x.f4.f0.f3.length : Int)) + (x.f4.f0.f4.length : Int)) + 1) + 1) + (x.f4.f0.f5.f2.length : Int)) + (x.f4.f0.f5.f3.length : Int)) + cntL (fun x : List Int => (x.length : Int)) x.f4.f0.f5.f4) + cntL (fun x : List Int => (x.length : Int)) x.f4.f1) + 1) + cntL SEntry.ce x.f5.f1), x.f7.me ((((((((((((((((((((((((((((((((((((((((k + 1) + 1) + 1) + (x.f1.f2.length : Int)) + 1) + (x.f1.f4.length : Int)) + 1) + 1) + (x.f2.f2.length : Int)) + (x.f2.f3.length : Int)) + cntL (fun x : List Int => (x.length : Int)) x.f2.f4) + 1) + 1) + 1) + (x.f3.f3.length : Int)) + (x.f3.f4.length : Int)) + 1) + 1) + (x.f3.f5.f2.length : Int)) + (x.f3.f5.f3.length : Int)) + cntL (fun x : List Int => (x.length : Int)) x.f3.f5.f4) + 1) + 1) + 1) + (x.f4.f0.f3.length : Int)) + (x.f4.f0.f4.length : Int)) + 1) + 1) + (x.f4.f0.f5.f2.length : Int)) + (x.f4.f0.f5.f3.length : Int)) + cntL (fun x : List Int => (x.length : Int)) x.f4.f0.f5.f4) + cntL (fun x : List Int => (x.length : Int)) x.f4.f1) + 1) + cntL SEntry.ce x.f5.f1) + cntL SHead.ce x.f6.f0) + 1) + 1) + (x.f6.f1.f2.length : Int)) + (x.f6.f1.f3.length : Int)) + cntL (fun x : List Int => (x.length : Int)) x.f6.f1.f4)⟩
theorem SMsg.ce_nn (x : SMsg) : 0 ≤ x.ce := by
  unfold SMsg.ce
  have n1 := SVote.ce_nn x.f1
  have n2 := SQc.ce_nn x.f2
  have n3 := SHead.ce_nn x.f3
  have n4 := SBlock.ce_nn x.f4
  have n5 := STc.ce_nn x.f5
  have n6 := SProof.ce_nn x.f6
  have n7 := SIncl.ce_nn x.f7
  omega
theorem SMsg.ce_le {x : SMsg} (h : x.sm) : x.ce ≤ 1152933599257821206 := by
  unfold SMsg.ce
  obtain ⟨p1, p2, p3, p4, p5, p6, p7⟩ := h
  have e1 := SVote.ce_le p1
  have e2 := SQc.ce_le p2
  have e3 := SHead.ce_le p3
  have e4 := SBlock.ce_le p4
  have e5 := STc.ce_le p5
  have e6 := SProof.ce_le p6
  have e7 := SIncl.ce_le p7
  omega
theorem SMsg.cL_le {xs : List SMsg} (h : xs.length ≤ 1048576 ∧ ∀ y ∈ xs, SMsg.sm y) : cntL SMsg.ce xs ≤ 1208938501775369128902656 := by
  have h1 := cntL_le (cnt := SMsg.ce) (n := 1152933599257821206) xs fun x hx => SMsg.ce_le (h.2 x hx)
  have h2 := h.1
  omega
def ofVote (v : SVote) : SMsg := ⟨1, v, default, default, default, default, default, default⟩
theorem ofVote_sm {v : SVote} (h : v.sm) : (ofVote v).sm := ⟨h, SQc.sm_df, SHead.sm_df, SBlock.sm_df, STc.sm_df, SProof.sm_df, SIncl.sm_df⟩

theorem ok_laws_szByteS (a : List Int) (left : Int) (h0_ : 0 ≤ left) (h1_ : left ≤ 9223372036854775807) : RO Try.prog 76 [.one (.ints .u8 a), .one (.int .i64 left)] [(false, [.rd (.int .i64 (szB a left))])] := by
 refine RO.intro Try.func76 rfl 12 rfl (le_ok rfl) fun w Z => ?_
 refine T.bnd 0 0 rfl rfl fun hb_0_0 => ?_
 simp only [D.size, List.length_map] at hb_0_0
 refine T.seq ?_
 refine T.region ?_
 refine TL.cons rfl (Step.assign (p := (.one (.d (.int .i64 0)))) rfl rfl (lt_ok rfl) rfl) ?_
 refine TL.nil ?_
 refine T.seq ?_
 refine T.region ?_
 refine TL.cons rfl (Step.move (p := (.one (.d (.int .i64 left)))) rfl rfl (lt_ok rfl) rfl) ?_
 refine TL.cons rfl (Step.move (p := (.one (.d (.ints .u8 a)))) rfl rfl (lt_ok rfl) rfl) ?_
 refine TL.cons rfl (Step.len (e := 5) (z := 1) (d := (.ints .u8 a)) rfl rfl (lt_ok rfl) (by kernel_rfl) rfl rfl) ?_
 refine TL.cons rfl (Step.bin (r := .int .i64 (left - (a.length : Int))) rfl rfl (lt_ok rfl) rfl rfl (Bin.sub (a := left) (b := (a.length : Int)) (by first | exact wrap_ok (by first | omega | (simp; omega)) (by first | omega | (simp; omega)) | rfl))) ?_
 refine TL.cons rfl (Step.assign (p := (.one (.d (.int .i64 (left - (a.length : Int)))))) rfl rfl (lt_ok rfl) rfl) ?_
 refine TL.nil ?_
 refine T.seq ?_
 refine T.seq ?_
 refine T.region ?_
 refine TL.cons rfl (Step.move (p := (.one (.d (.int .i64 (left - (a.length : Int)))))) rfl rfl (lt_ok rfl) rfl) ?_
 refine TL.cons rfl (Step.bin rfl rfl (lt_ok rfl) rfl rfl (Bin.lss (k := .i64) (a := (left - (a.length : Int))) (b := 0))) ?_
 refine TL.nil ?_
 refine T.cond (b := decide ((left - (a.length : Int)) < 0)) rfl (fun h1 => ?_) (fun h1 => ?_)
 ·
  replace h1 := of_decide_eq_true h1
  refine T.seq ?_
  refine T.region ?_
  refine TL.cons rfl (Step.assign (p := (.one (.d (.int .i64 (-1))))) rfl rfl (lt_ok rfl) rfl) ?_
  refine TL.nil ?_
  refine T.ret ?_
  exact ⟨[(false, [.d (.int .i64 (-1))])], (.cons rfl .nil), rfl, [], (RetC.rd' (by (congr 1; unfold szB; split <;> omega)) .nil)⟩
 ·
  replace h1 := of_decide_eq_false h1
  refine T.skip ?_
  refine T.seq ?_
  refine T.region ?_
  refine TL.cons rfl (Step.move (p := (.one (.d (.int .i64 (left - (a.length : Int)))))) rfl rfl (lt_ok rfl) rfl) ?_
  refine TL.cons rfl (Step.assign (p := (.one (.d (.int .i64 (left - (a.length : Int)))))) rfl rfl (lt_ok rfl) rfl) ?_
  refine TL.nil ?_
  refine T.ret ?_
  exact ⟨[(false, [.d (.int .i64 (left - (a.length : Int)))])], (.cons rfl .nil), rfl, [], (RetC.rd' (by (congr 1; unfold szB; split <;> omega)) .nil)⟩
theorem ok_laws_szVote (a : SVote) (left : Int) (h0_ : 0 ≤ left) (h1_ : left ≤ 9223372036854775807) : RO Try.prog 39 [.agg a.cells, .one (.int .i64 left)] [(false, [.rd (.int .i64 (a.sz left))])] := by
 refine RO.intro Try.func39 rfl 18 rfl (le_ok rfl) fun w Z => ?_
 refine T.seq ?_
 refine T.region ?_
 refine TL.cons rfl (Step.box (p := (.agg [.d (.int .i64 a.f0), .d (.int .i64 a.f1), .d (.ints .u8 a.f2), .d (.int .i64 a.f3), .d (.ints .u8 a.f4)])) (ps := [.d (.int .i64 a.f0), .d (.int .i64 a.f1), .d (.ints .u8 a.f2), .d (.int .i64 a.f3), .d (.ints .u8 a.f4)]) rfl rfl (lt_ok rfl) rfl rfl rfl rfl rfl) ?_
 refine TL.cons rfl (Step.assign (p := (.one (.d (.int .i64 0)))) rfl rfl (lt_ok rfl) rfl) ?_
 refine TL.nil ?_
 refine T.seq ?_
 refine T.region ?_
 refine TL.cons rfl (Step.fieldAddr (q := 0) (off := 2) (n := 1) (one := true) rfl rfl (lt_ok rfl) (by kernel_rfl) (Nat.succ_ne_zero _) rfl) ?_
 refine TL.cons rfl (Step.load_box (c := .d (.ints .u8 a.f2)) rfl rfl (lt_ok rfl) (by kernel_rfl) rfl rfl rfl) ?_
 refine TL.cons rfl (Step.move (p := (.one (.d (.int .i64 left)))) rfl rfl (lt_ok rfl) rfl) ?_
 refine TL.cons rfl (Step.call (f := 76) (xs := [.tmp 6, .tmp 7]) (ps := [(.one (.d (.ints .u8 a.f2))), (.one (.d (.int .i64 left)))]) false (g := .func 76) rfl rfl (lt_ok rfl) rfl (by kernel_rfl) rfl (.cons (.one (.d _)) (.cons (.one (.d _)) .nil)) (ok_laws_szByteS a.f2 left (by omega) (by omega)) (.inr rfl) rfl (by simp) rfl) ?_
 refine TL.cons rfl (Step.assign (p := (.one (.d (.int .i64 (szB a.f2 left))))) rfl rfl (lt_ok rfl) rfl) ?_
 refine TL.nil ?_
 refine T.seq ?_
 refine T.seq ?_
 refine T.region ?_
 refine TL.cons rfl (Step.move (p := (.one (.d (.int .i64 (szB a.f2 left))))) rfl rfl (lt_ok rfl) rfl) ?_
 refine TL.cons rfl (Step.bin rfl rfl (lt_ok rfl) rfl rfl (Bin.lss (k := .i64) (a := (szB a.f2 left)) (b := 0))) ?_
 refine TL.nil ?_
 refine T.cond (b := decide ((szB a.f2 left) < 0)) rfl (fun h2 => ?_) (fun h2 => ?_)
 ·
  replace h2 := of_decide_eq_true h2
  refine T.seq ?_
  refine T.region ?_
  refine TL.cons rfl (Step.assign (p := (.one (.d (.int .i64 (-1))))) rfl rfl (lt_ok rfl) rfl) ?_
  refine TL.nil ?_
  refine T.ret ?_
  exact ⟨[(false, [.d (.int .i64 (-1))])], (.cons rfl .nil), rfl, [], (RetC.rd' (by first | rfl | (congr 1; simp only [SVote.sz, szThen]; repeat' (split <;> try omega))) .nil)⟩
 ·
  replace h2 := of_decide_eq_false h2
  have z1_le : szB a.f2 left ≤ left := szB_le _ (by omega)
  refine T.skip ?_
  refine T.seq ?_
  refine T.region ?_
  refine TL.cons rfl (Step.fieldAddr (q := 0) (off := 4) (n := 1) (one := true) rfl rfl (lt_ok rfl) (by kernel_rfl) (Nat.succ_ne_zero _) rfl) ?_
  refine TL.cons rfl (Step.load_box (c := .d (.ints .u8 a.f4)) rfl rfl (lt_ok rfl) (by kernel_rfl) rfl rfl rfl) ?_
  refine TL.cons rfl (Step.move (p := (.one (.d (.int .i64 (szB a.f2 left))))) rfl rfl (lt_ok rfl) rfl) ?_
  refine TL.cons rfl (Step.call (f := 76) (xs := [.tmp 12, .tmp 13]) (ps := [(.one (.d (.ints .u8 a.f4))), (.one (.d (.int .i64 (szB a.f2 left))))]) false (g := .func 76) rfl rfl (lt_ok rfl) rfl (by kernel_rfl) rfl (.cons (.one (.d _)) (.cons (.one (.d _)) .nil)) (ok_laws_szByteS a.f4 (szB a.f2 left) (by omega) (by omega)) (.inr rfl) rfl (by simp) rfl) ?_
  refine TL.cons rfl (Step.assign (p := (.one (.d (.int .i64 (szB a.f4 (szB a.f2 left)))))) rfl rfl (lt_ok rfl) rfl) ?_
  refine TL.nil ?_
  refine T.seq ?_
  refine T.seq ?_
  refine T.region ?_
  refine TL.cons rfl (Step.move (p := (.one (.d (.int .i64 (szB a.f4 (szB a.f2 left)))))) rfl rfl (lt_ok rfl) rfl) ?_
  refine TL.cons rfl (Step.bin rfl rfl (lt_ok rfl) rfl rfl (Bin.lss (k := .i64) (a := (szB a.f4 (szB a.f2 left))) (b := 0))) ?_
  refine TL.nil ?_
  refine T.cond (b := decide ((szB a.f4 (szB a.f2 left)) < 0)) rfl (fun h4 => ?_) (fun h4 => ?_)
  ·
   replace h4 := of_decide_eq_true h4
   refine T.seq ?_
   refine T.region ?_
   refine TL.cons rfl (Step.assign (p := (.one (.d (.int .i64 (-1))))) rfl rfl (lt_ok rfl) rfl) ?_
   refine TL.nil ?_
   refine T.ret ?_
   exact ⟨[(false, [.d (.int .i64 (-1))])], (.cons rfl .nil), rfl, [], (RetC.rd' (by first | rfl | (congr 1; simp only [SVote.sz, szThen]; repeat' (split <;> try omega))) .nil)⟩
  ·
   replace h4 := of_decide_eq_false h4
   have z3_le : szB a.f4 (szB a.f2 left) ≤ (szB a.f2 left) := szB_le _ (by omega)
   refine T.skip ?_
   refine T.seq ?_
   refine T.region ?_
   refine TL.cons rfl (Step.move (p := (.one (.d (.int .i64 (szB a.f4 (szB a.f2 left)))))) rfl rfl (lt_ok rfl) rfl) ?_
   refine TL.cons rfl (Step.assign (p := (.one (.d (.int .i64 (szB a.f4 (szB a.f2 left)))))) rfl rfl (lt_ok rfl) rfl) ?_
   refine TL.nil ?_
   refine T.ret ?_
   exact ⟨[(false, [.d (.int .i64 (szB a.f4 (szB a.f2 left)))])], (.cons rfl .nil), rfl, [], (RetC.rd' (by first | rfl | (congr 1; simp only [SVote.sz, szThen]; repeat' (split <;> try omega))) .nil)⟩
theorem ok_spec_l01Copy (a : List Int) (h0_ : a.length ≤ 1099511627776) : RO Try.prog 79 [.one (.ints .u8 a)] [(false, [.own 5 (.ints .u8 a)])] := by
 refine RO.intro Try.func79 rfl 6 rfl (le_ok rfl) fun w Z => ?_
 refine T.bnd 0 0 rfl rfl fun hb_0_0 => ?_
 simp only [D.size, List.length_map] at hb_0_0
 refine T.seq ?_
 refine T.region ?_
 refine TL.cons rfl (Step.assign (p := (.one (.nil))) rfl rfl (lt_ok rfl) rfl) ?_
 refine TL.nil ?_
 refine T.seq ?_
 refine T.region ?_
 refine TL.cons rfl (Step.lit (e := 5) (z := 1) (by_ := 1) (xs := []) (pss := []) (es := []) (ss := []) (d := (.ints .u8 [])) rfl rfl (lt_ok rfl) (by kernel_rfl) rfl rfl .nil (by simp) (le_ok rfl) (le_ok rfl) rfl .nil rfl (by simp) (by simp) rfl trivial rfl rfl) ?_
 refine TL.cons rfl (Step.move (p := (.one (.d (.ints .u8 a)))) rfl rfl (lt_ok rfl) rfl) ?_
 refine TL.cons rfl (Step.append (e := 5) (z := 1) (by_ := 1) (d := (.ints .u8 [])) (dy := (.ints .u8 a)) (d' := (.ints .u8 ([] ++ a))) (ss := []) rfl rfl (lt_ok rfl) (by kernel_rfl) rfl rfl rfl (lt_ok rfl) rfl (.froz rfl (by simp [D.flat, D.val])) (by simp) rfl (by simp only [D.size]; first | omega | (simp; omega)) (by simp only [D.size]; first | omega | (simp; omega)) (by simp)) ?_
 refine TL.cons rfl (Step.assign (p := (.one (.row 3 []))) rfl rfl (lt_ok rfl) rfl) ?_
 refine TL.nil ?_
 refine T.ret ?_
 exact ⟨[(false, [.row 3 []])], (.cons rfl .nil), rfl, [3], (RetC.own' rfl (by rfl) rfl .nil)⟩
theorem ok_spec_OfVote (v : SVote) (h0_ : v.sm) : RO Try.prog 40 [.agg v.cells] [(true, [.rd (.int .i64 (ofVote v).f0), .rd (.int .i64 (ofVote v).f1.f0), .rd (.int .i64 (ofVote v).f1.f1), .own 5 (.ints .u8 (ofVote v).f1.f2), .rd (.int .i64 (ofVote v).f1.f3), .own 5 (.ints .u8 (ofVote v).f1.f4), .rd (.int .i64 (ofVote v).f2.f0), .rd (.int .i64 (ofVote v).f2.f1), .own 5 (.ints .u8 (ofVote v).f2.f2), .own 5 (.ints .u8 (ofVote v).f2.f3), .own 22 (.bss (ofVote v).f2.f4), .rd (.int .i64 (ofVote v).f3.f0), .rd (.int .i64 (ofVote v).f3.f1), .rd (.int .i64 (ofVote v).f3.f2), .own 5 (.ints .u8 (ofVote v).f3.f3), .own 5 (.ints .u8 (ofVote v).f3.f4), .rd (.int .i64 (ofVote v).f3.f5.f0), .rd (.int .i64 (ofVote v).f3.f5.f1), .own 5 (.ints .u8 (ofVote v).f3.f5.f2), .own 5 (.ints .u8 (ofVote v).f3.f5.f3), .own 22 (.bss (ofVote v).f3.f5.f4), .rd (.int .i64 (ofVote v).f4.f0.f0), .rd (.int .i64 (ofVote v).f4.f0.f1), .rd (.int .i64 (ofVote v).f4.f0.f2), .own 5 (.ints .u8 (ofVote v).f4.f0.f3), .own 5 (.ints .u8 (ofVote v).f4.f0.f4), .rd (.int .i64 (ofVote v).f4.f0.f5.f0), .rd (.int .i64 (ofVote v).f4.f0.f5.f1), .own 5 (.ints .u8 (ofVote v).f4.f0.f5.f2), .own 5 (.ints .u8 (ofVote v).f4.f0.f5.f3), .own 22 (.bss (ofVote v).f4.f0.f5.f4), .own 22 (.bss (ofVote v).f4.f1), .rd (.int .i64 (ofVote v).f5.f0), .own 121 (.sl 3 ((ofVote v).f5.f1.map SEntry.cells)), .own 66 (.sl 10 ((ofVote v).f6.f0.map SHead.cells)), .rd (.int .i64 (ofVote v).f6.f1.f0), .rd (.int .i64 (ofVote v).f6.f1.f1), .own 5 (.ints .u8 (ofVote v).f6.f1.f2), .own 5 (.ints .u8 (ofVote v).f6.f1.f3), .own 22 (.bss (ofVote v).f6.f1.f4), .rd (.int .i64 (ofVote v).f7.f0), .rd (.int .i64 (ofVote v).f7.f1), .rd (.int .i64 (ofVote v).f7.f2), .own 5 (.ints .u8 (ofVote v).f7.f3), .own 22 (.bss (ofVote v).f7.f4)])] := by
 refine RO.intro Try.func40 rfl 13 rfl (le_ok rfl) fun w Z => ?_
 obtain ⟨s0, s1⟩ := h0_
 refine T.seq ?_
 refine T.region ?_
 refine TL.cons rfl (Step.box (p := (.agg [.d (.int .i64 v.f0), .d (.int .i64 v.f1), .d (.ints .u8 v.f2), .d (.int .i64 v.f3), .d (.ints .u8 v.f4)])) (ps := [.d (.int .i64 v.f0), .d (.int .i64 v.f1), .d (.ints .u8 v.f2), .d (.int .i64 v.f3), .d (.ints .u8 v.f4)]) rfl rfl (lt_ok rfl) rfl rfl rfl rfl rfl) ?_
 refine TL.cons rfl (Step.alloc (cs := [.int .i64 0, .int .i64 0, .int .i64 0, .slice none 0 0, .int .i64 0, .slice none 0 0, .int .i64 0, .int .i64 0, .slice none 0 0, .slice none 0 0, .slice none 0 0, .int .i64 0, .int .i64 0, .int .i64 0, .slice none 0 0, .slice none 0 0, .int .i64 0, .int .i64 0, .slice none 0 0, .slice none 0 0, .slice none 0 0, .int .i64 0, .int .i64 0, .int .i64 0, .slice none 0 0, .slice none 0 0, .int .i64 0, .int .i64 0, .slice none 0 0, .slice none 0 0, .slice none 0 0, .slice none 0 0, .int .i64 0, .slice none 0 0, .slice none 0 0, .int .i64 0, .int .i64 0, .slice none 0 0, .slice none 0 0, .slice none 0 0, .int .i64 0, .int .i64 0, .int .i64 0, .slice none 0 0, .slice none 0 0]) (ps := [.d (.int .i64 0), .d (.int .i64 0), .d (.int .i64 0), .nil, .d (.int .i64 0), .nil, .d (.int .i64 0), .d (.int .i64 0), .nil, .nil, .nil, .d (.int .i64 0), .d (.int .i64 0), .d (.int .i64 0), .nil, .nil, .d (.int .i64 0), .d (.int .i64 0), .nil, .nil, .nil, .d (.int .i64 0), .d (.int .i64 0), .d (.int .i64 0), .nil, .nil, .d (.int .i64 0), .d (.int .i64 0), .nil, .nil, .nil, .nil, .d (.int .i64 0), .nil, .nil, .d (.int .i64 0), .d (.int .i64 0), .nil, .nil, .nil, .d (.int .i64 0), .d (.int .i64 0), .d (.int .i64 0), .nil, .nil]) rfl rfl (lt_ok rfl) (by kernel_rfl) rfl rfl rfl rfl) ?_
 refine TL.nil ?_
 refine T.seq ?_
 refine T.region ?_
 refine TL.cons rfl (Step.fieldAddr (q := 0) (off := 2) (n := 1) (one := true) rfl rfl (lt_ok rfl) (by kernel_rfl) (Nat.succ_ne_zero _) rfl) ?_
 refine TL.cons rfl (Step.load_box (c := .d (.ints .u8 v.f2)) rfl rfl (lt_ok rfl) (by kernel_rfl) rfl rfl rfl) ?_
 refine TL.cons rfl (Step.call (f := 79) (xs := [.tmp 4]) (ps := [(.one (.d (.ints .u8 v.f2)))]) false (g := .func 79) rfl rfl (lt_ok rfl) rfl (by kernel_rfl) rfl (.cons (.one (.d _)) .nil) (ok_spec_l01Copy v.f2 (by first | omega | assumption)) (.inr rfl) rfl (by simp) rfl) ?_
 refine TL.cons rfl (Step.fieldAddr (q := 0) (off := 2) (n := 1) (one := true) rfl rfl (lt_ok rfl) (by kernel_rfl) (Nat.succ_ne_zero _) rfl) ?_
 refine TL.cons rfl (Step.store_box (n := 1) (p := (.one (.row 1005 []))) (qs := [.row 1005 []]) (ps' := [.d (.int .i64 v.f0), .d (.int .i64 v.f1), .row 1005 [], .d (.int .i64 v.f3), .d (.ints .u8 v.f4)]) rfl rfl (by kernel_rfl) rfl rfl rfl rfl rfl rfl (le_ok rfl) rfl) ?_
 refine TL.nil ?_
 refine T.seq ?_
 refine T.region ?_
 refine TL.cons rfl (Step.fieldAddr (q := 0) (off := 4) (n := 1) (one := true) rfl rfl (lt_ok rfl) (by kernel_rfl) (Nat.succ_ne_zero _) rfl) ?_
 refine TL.cons rfl (Step.load_box (c := .d (.ints .u8 v.f4)) rfl rfl (lt_ok rfl) (by kernel_rfl) rfl rfl rfl) ?_
 refine TL.cons rfl (Step.call (f := 79) (xs := [.tmp 8]) (ps := [(.one (.d (.ints .u8 v.f4)))]) false (g := .func 79) rfl rfl (lt_ok rfl) rfl (by kernel_rfl) rfl (.cons (.one (.d _)) .nil) (ok_spec_l01Copy v.f4 (by first | omega | assumption)) (.inr rfl) rfl (by simp) rfl) ?_
 refine TL.cons rfl (Step.fieldAddr (q := 0) (off := 4) (n := 1) (one := true) rfl rfl (lt_ok rfl) (by kernel_rfl) (Nat.succ_ne_zero _) rfl) ?_
 refine TL.cons rfl (Step.store_box (n := 1) (p := (.one (.row 1009 []))) (qs := [.row 1009 []]) (ps' := [.d (.int .i64 v.f0), .d (.int .i64 v.f1), .row 1005 [], .d (.int .i64 v.f3), .row 1009 []]) rfl rfl (by kernel_rfl) rfl rfl rfl rfl rfl rfl (le_ok rfl) rfl) ?_
 refine TL.nil ?_
 refine T.seq ?_
 refine T.region ?_
 refine TL.cons rfl (Step.load_box_agg (n := 5) (qs := [.d (.int .i64 v.f0), .d (.int .i64 v.f1), .row 1005 [], .d (.int .i64 v.f3), .row 1009 []]) rfl rfl (lt_ok rfl) (by kernel_rfl) rfl rfl rfl rfl) ?_
 refine TL.cons rfl (Step.build (zs := [.int .i64 0, .int .i64 0, .int .i64 0, .slice none 0 0, .int .i64 0, .slice none 0 0, .int .i64 0, .int .i64 0, .slice none 0 0, .slice none 0 0, .slice none 0 0, .int .i64 0, .int .i64 0, .int .i64 0, .slice none 0 0, .slice none 0 0, .int .i64 0, .int .i64 0, .slice none 0 0, .slice none 0 0, .slice none 0 0, .int .i64 0, .int .i64 0, .int .i64 0, .slice none 0 0, .slice none 0 0, .int .i64 0, .int .i64 0, .slice none 0 0, .slice none 0 0, .slice none 0 0, .slice none 0 0, .int .i64 0, .slice none 0 0, .slice none 0 0, .int .i64 0, .int .i64 0, .slice none 0 0, .slice none 0 0, .slice none 0 0, .int .i64 0, .int .i64 0, .int .i64 0, .slice none 0 0, .slice none 0 0]) (places := [(0, 1), (1, 5), (6, 5), (11, 10), (21, 11), (32, 2), (34, 6), (40, 5)]) (pss := [(0, [.d (.int .i64 1)]), (1, [.d (.int .i64 v.f0), .d (.int .i64 v.f1), .row 1005 [], .d (.int .i64 v.f3), .row 1009 []])]) (ps' := [.d (.int .i64 1), .d (.int .i64 v.f0), .d (.int .i64 v.f1), .row 1005 [], .d (.int .i64 v.f3), .row 1009 [], .d (.int .i64 0), .d (.int .i64 0), .nil, .nil, .nil, .d (.int .i64 0), .d (.int .i64 0), .d (.int .i64 0), .nil, .nil, .d (.int .i64 0), .d (.int .i64 0), .nil, .nil, .nil, .d (.int .i64 0), .d (.int .i64 0), .d (.int .i64 0), .nil, .nil, .d (.int .i64 0), .d (.int .i64 0), .nil, .nil, .nil, .nil, .d (.int .i64 0), .nil, .nil, .d (.int .i64 0), .d (.int .i64 0), .nil, .nil, .nil, .d (.int .i64 0), .d (.int .i64 0), .d (.int .i64 0), .nil, .nil]) rfl rfl (lt_ok rfl) (by kernel_rfl) (.cons ⟨rfl, rfl⟩ (.cons ⟨rfl, rfl⟩ .nil)) rfl rfl rfl) ?_
 refine TL.cons rfl (Step.store_box (n := 45) (p := (.agg [.d (.int .i64 1), .d (.int .i64 v.f0), .d (.int .i64 v.f1), .row 1005 [], .d (.int .i64 v.f3), .row 1009 [], .d (.int .i64 0), .d (.int .i64 0), .nil, .nil, .nil, .d (.int .i64 0), .d (.int .i64 0), .d (.int .i64 0), .nil, .nil, .d (.int .i64 0), .d (.int .i64 0), .nil, .nil, .nil, .d (.int .i64 0), .d (.int .i64 0), .d (.int .i64 0), .nil, .nil, .d (.int .i64 0), .d (.int .i64 0), .nil, .nil, .nil, .nil, .d (.int .i64 0), .nil, .nil, .d (.int .i64 0), .d (.int .i64 0), .nil, .nil, .nil, .d (.int .i64 0), .d (.int .i64 0), .d (.int .i64 0), .nil, .nil])) (qs := [.d (.int .i64 1), .d (.int .i64 v.f0), .d (.int .i64 v.f1), .row 1005 [], .d (.int .i64 v.f3), .row 1009 [], .d (.int .i64 0), .d (.int .i64 0), .nil, .nil, .nil, .d (.int .i64 0), .d (.int .i64 0), .d (.int .i64 0), .nil, .nil, .d (.int .i64 0), .d (.int .i64 0), .nil, .nil, .nil, .d (.int .i64 0), .d (.int .i64 0), .d (.int .i64 0), .nil, .nil, .d (.int .i64 0), .d (.int .i64 0), .nil, .nil, .nil, .nil, .d (.int .i64 0), .nil, .nil, .d (.int .i64 0), .d (.int .i64 0), .nil, .nil, .nil, .d (.int .i64 0), .d (.int .i64 0), .d (.int .i64 0), .nil, .nil]) (ps' := [.d (.int .i64 1), .d (.int .i64 v.f0), .d (.int .i64 v.f1), .row 1005 [], .d (.int .i64 v.f3), .row 1009 [], .d (.int .i64 0), .d (.int .i64 0), .nil, .nil, .nil, .d (.int .i64 0), .d (.int .i64 0), .d (.int .i64 0), .nil, .nil, .d (.int .i64 0), .d (.int .i64 0), .nil, .nil, .nil, .d (.int .i64 0), .d (.int .i64 0), .d (.int .i64 0), .nil, .nil, .d (.int .i64 0), .d (.int .i64 0), .nil, .nil, .nil, .nil, .d (.int .i64 0), .nil, .nil, .d (.int .i64 0), .d (.int .i64 0), .nil, .nil, .nil, .d (.int .i64 0), .d (.int .i64 0), .d (.int .i64 0), .nil, .nil]) rfl rfl (by kernel_rfl) rfl rfl rfl rfl rfl rfl (le_ok rfl) rfl) ?_
 refine TL.nil ?_
 refine T.weaken (E' := { tm := [(2, (.one (.ptr 2 0)))], rows := [(1005, (5, (.ints .u8 v.f2))), (1009, (5, (.ints .u8 v.f4)))], boxes := [(2, (75, [.d (.int .i64 1), .d (.int .i64 v.f0), .d (.int .i64 v.f1), .row 1005 [], .d (.int .i64 v.f3), .row 1009 [], .d (.int .i64 0), .d (.int .i64 0), .nil, .nil, .nil, .d (.int .i64 0), .d (.int .i64 0), .d (.int .i64 0), .nil, .nil, .d (.int .i64 0), .d (.int .i64 0), .nil, .nil, .nil, .d (.int .i64 0), .d (.int .i64 0), .d (.int .i64 0), .nil, .nil, .d (.int .i64 0), .d (.int .i64 0), .nil, .nil, .nil, .nil, .d (.int .i64 0), .nil, .nil, .d (.int .i64 0), .d (.int .i64 0), .nil, .nil, .nil, .d (.int .i64 0), .d (.int .i64 0), .d (.int .i64 0), .nil, .nil]))] }) (Env.le_mk ⟨by kernel_rfl, trivial⟩ ⟨by kernel_rfl, by kernel_rfl, trivial⟩ ⟨by kernel_rfl, trivial⟩) ?_
 refine T.ret ?_
 exact ⟨[(true, [.d (.int .i64 1), .d (.int .i64 v.f0), .d (.int .i64 v.f1), .row 1005 [], .d (.int .i64 v.f3), .row 1009 [], .d (.int .i64 0), .d (.int .i64 0), .nil, .nil, .nil, .d (.int .i64 0), .d (.int .i64 0), .d (.int .i64 0), .nil, .nil, .d (.int .i64 0), .d (.int .i64 0), .nil, .nil, .nil, .d (.int .i64 0), .d (.int .i64 0), .d (.int .i64 0), .nil, .nil, .d (.int .i64 0), .d (.int .i64 0), .nil, .nil, .nil, .nil, .d (.int .i64 0), .nil, .nil, .d (.int .i64 0), .d (.int .i64 0), .nil, .nil, .nil, .d (.int .i64 0), .d (.int .i64 0), .d (.int .i64 0), .nil, .nil])], (.cons rfl .nil), rfl, [1005, 1009], (RetC.rd' (by rfl) (RetC.rd' (by rfl) (RetC.rd' (by rfl) (RetC.own' rfl (by rfl) rfl (RetC.rd' (by rfl) (RetC.own' rfl (by rfl) rfl (RetC.rd' (by rfl) (RetC.rd' (by rfl) (RetC.nilown' rfl (by rfl) (by first | exact trivial | exact D.wf_nil _) (RetC.nilown' rfl (by rfl) (by first | exact trivial | exact D.wf_nil _) (RetC.nilown' rfl (by rfl) (by first | exact trivial | exact D.wf_nil _) (RetC.rd' (by rfl) (RetC.rd' (by rfl) (RetC.rd' (by rfl) (RetC.nilown' rfl (by rfl) (by first | exact trivial | exact D.wf_nil _) (RetC.nilown' rfl (by rfl) (by first | exact trivial | exact D.wf_nil _) (RetC.rd' (by rfl) (RetC.rd' (by rfl) (RetC.nilown' rfl (by rfl) (by first | exact trivial | exact D.wf_nil _) (RetC.nilown' rfl (by rfl) (by first | exact trivial | exact D.wf_nil _) (RetC.nilown' rfl (by rfl) (by first | exact trivial | exact D.wf_nil _) (RetC.rd' (by rfl) (RetC.rd' (by rfl) (RetC.rd' (by rfl) (RetC.nilown' rfl (by rfl) (by first | exact trivial | exact D.wf_nil _) (RetC.nilown' rfl (by rfl) (by first | exact trivial | exact D.wf_nil _) (RetC.rd' (by rfl) (RetC.rd' (by rfl) (RetC.nilown' rfl (by rfl) (by first | exact trivial | exact D.wf_nil _) (RetC.nilown' rfl (by rfl) (by first | exact trivial | exact D.wf_nil _) (RetC.nilown' rfl (by rfl) (by first | exact trivial | exact D.wf_nil _) (RetC.nilown' rfl (by rfl) (by first | exact trivial | exact D.wf_nil _) (RetC.rd' (by rfl) (RetC.nilown' rfl (by rfl) (by first | exact trivial | exact D.wf_nil _) (RetC.nilown' rfl (by rfl) (by first | exact trivial | exact D.wf_nil _) (RetC.rd' (by rfl) (RetC.rd' (by rfl) (RetC.nilown' rfl (by rfl) (by first | exact trivial | exact D.wf_nil _) (RetC.nilown' rfl (by rfl) (by first | exact trivial | exact D.wf_nil _) (RetC.nilown' rfl (by rfl) (by first | exact trivial | exact D.wf_nil _) (RetC.rd' (by rfl) (RetC.rd' (by rfl) (RetC.rd' (by rfl) (RetC.nilown' rfl (by rfl) (by first | exact trivial | exact D.wf_nil _) (RetC.nilown' rfl (by rfl) (by first | exact trivial | exact D.wf_nil _) .nil)))))))))))))))))))))))))))))))))))))))))))))⟩
theorem ok_laws_toByteS (a : List Int) (h0_ : a.length ≤ 1048576) : RO Try.prog 49 [.one (.ints .u8 a)] [(false, [.own 5 (.ints .u8 a)])] := by
 refine RO.intro Try.func49 rfl 22 rfl (le_ok rfl) fun w Z => ?_
 refine T.bnd 0 0 rfl rfl fun hb_0_0 => ?_
 simp only [D.size, List.length_map] at hb_0_0
 have h0b := h0_
 refine T.seq ?_
 refine T.region ?_
 refine TL.cons rfl (Step.assign (p := (.one (.nil))) rfl rfl (lt_ok rfl) rfl) ?_
 refine TL.nil ?_
 refine T.seq ?_
 refine T.region ?_
 refine TL.cons rfl (Step.move (p := (.one (.d (.ints .u8 a)))) rfl rfl (lt_ok rfl) rfl) ?_
 refine TL.cons rfl (Step.len (e := 5) (z := 1) (d := (.ints .u8 a)) rfl rfl (lt_ok rfl) (by kernel_rfl) rfl rfl) ?_
 refine TL.cons rfl (Step.make (e := 5) (z := 1) (by_ := 1) (n := (a.length : Int)) (zs := [.int .u8 0]) (zd := [.int .u8 0]) (d := (.ints .u8 (List.replicate a.length 0))) rfl rfl (lt_ok rfl) (by kernel_rfl) (lt_ok rfl) rfl (by first | omega | (simp; omega)) (by first | omega | (simp; omega)) (by first | omega | (simp; omega)) (by kernel_rfl) (.val rfl .nil) rfl (by simp) (by simp [D.flat, List.flatten_replicate_singleton]) (by simp [D.size]) rfl trivial) ?_
 refine TL.cons rfl (Step.assign (p := (.one (.row 7 []))) rfl rfl (lt_ok rfl) rfl) ?_
 refine TL.nil ?_
 refine T.seq ?_
 refine T.seq ?_
 refine T.region ?_
 refine TL.cons rfl (Step.assign (p := (.one (.d (.int .i64 0)))) rfl rfl (lt_ok rfl) rfl) ?_
 refine TL.nil ?_
 refine T.block ?_
 refine T.loop (ι := Nat) (fun x => { tm := [(0, (.one (.d (.ints .u8 a)))), (2, (.one (.nil))), (3, (.one (.row 7 []))), (4, (.one (.d (.int .i64 (x : Int)))))], rows := [(7, (5, (.ints .u8 (a.take x ++ List.replicate (a.length - x) 0 : List Int))))], boxes := [] }) (fun x => x ≤ a.length) (fun x => a.length - x) 0 ?_ ?_ ?_
 · exact Env.le_mk ⟨rfl, rfl, rfl, by first | rfl | exact congrArg (fun x => some (5, ((.ints .u8 x) : D))) (fill_set a 0 0 i (by omega)), trivial⟩ ⟨by first | rfl | exact congrArg (fun x => some (5, ((.ints .u8 x) : D))) (fill_set a 0 0 i (by omega)), trivial⟩ trivial
 · exact Nat.zero_le _
 ·
  intro i hx
  try dsimp only at hx ⊢
  refine T.seq ?_
  refine T.seq ?_
  refine T.region ?_
  refine TL.cons rfl (Step.move (p := (.one (.d (.int .i64 (i : Int))))) rfl rfl (lt_ok rfl) rfl) ?_
  refine TL.cons rfl (Step.move (p := (.one (.d (.ints .u8 a)))) rfl rfl (lt_ok rfl) rfl) ?_
  refine TL.cons rfl (Step.len (e := 5) (z := 1) (d := (.ints .u8 a)) rfl rfl (lt_ok rfl) (by kernel_rfl) rfl rfl) ?_
  refine TL.cons rfl (Step.bin rfl rfl (lt_ok rfl) rfl rfl (Bin.lss (k := .i64) (a := (i : Int)) (b := (a.length : Int)))) ?_
  refine TL.nil ?_
  refine T.cond (b := decide ((i : Int) < (a.length : Int))) rfl (fun h1 => ?_) (fun h1 => ?_)
  ·
   replace h1 := of_decide_eq_true h1
   refine T.skip ?_
   refine T.seq ?_
   refine T.block ?_
   refine T.region ?_
   refine TL.cons rfl (Step.move (p := (.one (.row 7 []))) rfl rfl (lt_ok rfl) rfl) ?_
   refine TL.cons rfl (Step.move (p := (.one (.d (.int .i64 (i : Int))))) rfl rfl (lt_ok rfl) rfl) ?_
   refine TL.cons rfl (Step.move (p := (.one (.d (.ints .u8 a)))) rfl rfl (lt_ok rfl) rfl) ?_
   refine TL.cons rfl (Step.move (p := (.one (.d (.int .i64 (i : Int))))) rfl rfl (lt_ok rfl) rfl) ?_
   refine TL.cons rfl (Step.index (e := 5) (z := 1) (i := (i : Int)) rfl rfl (lt_ok rfl) (by kernel_rfl) rfl rfl rfl (lt_ok rfl) rfl (by first | omega | (simp; omega)) (by simp only [D.size]; first | omega | (simp; omega))) ?_
   refine TL.cons rfl (Step.load (e := (.int .u8 (a.getD i 0))) rfl rfl (lt_ok rfl) (by kernel_rfl) rfl rfl) ?_
   refine TL.cons rfl (Step.index_row (e := 5) (z := 1) (i := (i : Int)) rfl rfl (lt_ok rfl) (by kernel_rfl) rfl rfl rfl rfl (lt_ok rfl) rfl (by first | omega | (simp; omega)) (by simp only [D.at_, D.cell, D.size]; first | omega | (simp; omega))) ?_
   refine TL.cons rfl (Step.store_row (n := 1) (p := (.one (.d (.int .u8 (a.getD i 0))))) (ps := [.d (.int .u8 (a.getD i 0))]) (es := [(.int .u8 (a.getD i 0))]) (ss := []) (d1 := (.ints .u8 ((a.take i ++ List.replicate (a.length - i) 0 : List Int).set i (a.getD i 0)))) (d' := (.ints .u8 ((a.take i ++ List.replicate (a.length - i) 0 : List Int).set i (a.getD i 0)))) rfl rfl (by kernel_rfl) rfl rfl rfl rfl rfl rfl (.val rfl .nil) (by simp) (Putd.one rfl trivial rfl (by simp only [D.at_, D.size, List.length_set, upTo_length]; first | omega | (simp; omega)) (lt_ok rfl)) rfl) ?_
   refine TL.nil ?_
   refine T.region ?_
   refine TL.cons rfl (Step.move (p := (.one (.d (.int .i64 (i : Int))))) rfl rfl (lt_ok rfl) rfl) ?_
   refine TL.cons rfl (Step.bin (r := .int .i64 ((i : Int) + 1)) rfl rfl (lt_ok rfl) rfl rfl (Bin.add (a := (i : Int)) (b := 1) (by first | exact wrap_ok (by first | omega | (simp; omega)) (by first | omega | (simp; omega)) | rfl))) ?_
   refine TL.cons rfl (Step.assign (p := (.one (.d (.int .i64 ((i : Int) + 1))))) rfl rfl (lt_ok rfl) rfl) ?_
   refine TL.nil ?_
   exact ⟨i + 1, by omega, by omega, Env.le_mk ⟨rfl, rfl, rfl, by first | rfl | exact congrArg (fun x => some (5, ((.ints .u8 x) : D))) (fill_set a 0 0 i (by omega)), trivial⟩ ⟨by first | rfl | exact congrArg (fun x => some (5, ((.ints .u8 x) : D))) (fill_set a 0 0 i (by omega)), trivial⟩ trivial⟩
  ·
   replace h1 := of_decide_eq_false h1
   refine T.exit ?_
   refine T.seq ?_
   refine T.region ?_
   refine TL.cons rfl (Step.move (p := (.one (.row 7 []))) rfl rfl (lt_ok rfl) rfl) ?_
   refine TL.cons rfl (Step.assign (p := (.one (.row 7 []))) rfl rfl (lt_ok rfl) rfl) ?_
   refine TL.nil ?_
   refine T.ret ?_
   exact ⟨[(false, [.row 7 []])], (.cons rfl .nil), rfl, [7], (RetC.own' rfl (by first | rfl | (congr 1; rw [fill_all' _ _ _ (by omega)]) | (rw [fill_all' _ _ _ (by omega)])) rfl .nil)⟩
theorem ok_laws_toVote (a : SVote) (h0_ : a.sm) : RO Try.prog 41 [.agg a.cells] [(true, [.rd (.int .i64 a.f0), .rd (.int .i64 a.f1), .own 5 (.ints .u8 a.f2), .rd (.int .i64 a.f3), .own 5 (.ints .u8 a.f4)])] := by
 refine RO.intro Try.func41 rfl 22 rfl (le_ok rfl) fun w Z => ?_
 obtain ⟨s0, s1⟩ := h0_
 refine T.seq ?_
 refine T.region ?_
 refine TL.cons rfl (Step.box (p := (.agg [.d (.int .i64 a.f0), .d (.int .i64 a.f1), .d (.ints .u8 a.f2), .d (.int .i64 a.f3), .d (.ints .u8 a.f4)])) (ps := [.d (.int .i64 a.f0), .d (.int .i64 a.f1), .d (.ints .u8 a.f2), .d (.int .i64 a.f3), .d (.ints .u8 a.f4)]) rfl rfl (lt_ok rfl) rfl rfl rfl rfl rfl) ?_
 refine TL.cons rfl (Step.alloc (cs := [.int .i64 0, .int .i64 0, .slice none 0 0, .int .i64 0, .slice none 0 0]) (ps := [.d (.int .i64 0), .d (.int .i64 0), .nil, .d (.int .i64 0), .nil]) rfl rfl (lt_ok rfl) (by kernel_rfl) rfl rfl rfl rfl) ?_
 refine TL.nil ?_
 refine T.seq ?_
 refine T.region ?_
 refine TL.cons rfl (Step.alloc (cs := [.int .i64 0, .int .i64 0, .slice none 0 0, .int .i64 0, .slice none 0 0]) (ps := [.d (.int .i64 0), .d (.int .i64 0), .nil, .d (.int .i64 0), .nil]) rfl rfl (lt_ok rfl) (by kernel_rfl) rfl rfl rfl rfl) ?_
 refine TL.nil ?_
 refine T.seq ?_
 refine T.region ?_
 refine TL.cons rfl (Step.fieldAddr (q := 0) (off := 0) (n := 1) (one := true) rfl rfl (lt_ok rfl) (by kernel_rfl) (Nat.succ_ne_zero _) rfl) ?_
 refine TL.cons rfl (Step.load_box (c := .d (.int .i64 a.f0)) rfl rfl (lt_ok rfl) (by kernel_rfl) rfl rfl rfl) ?_
 refine TL.cons rfl (Step.fieldAddr (q := 0) (off := 0) (n := 1) (one := true) rfl rfl (lt_ok rfl) (by kernel_rfl) (Nat.succ_ne_zero _) rfl) ?_
 refine TL.cons rfl (Step.store_box (n := 1) (p := (.one (.d (.int .i64 a.f0)))) (qs := [.d (.int .i64 a.f0)]) (ps' := [.d (.int .i64 a.f0), .d (.int .i64 0), .nil, .d (.int .i64 0), .nil]) rfl rfl (by kernel_rfl) rfl rfl rfl rfl rfl rfl (le_ok rfl) rfl) ?_
 refine TL.nil ?_
 refine T.seq ?_
 refine T.region ?_
 refine TL.cons rfl (Step.fieldAddr (q := 0) (off := 1) (n := 1) (one := true) rfl rfl (lt_ok rfl) (by kernel_rfl) (Nat.succ_ne_zero _) rfl) ?_
 refine TL.cons rfl (Step.load_box (c := .d (.int .i64 a.f1)) rfl rfl (lt_ok rfl) (by kernel_rfl) rfl rfl rfl) ?_
 refine TL.cons rfl (Step.fieldAddr (q := 0) (off := 1) (n := 1) (one := true) rfl rfl (lt_ok rfl) (by kernel_rfl) (Nat.succ_ne_zero _) rfl) ?_
 refine TL.cons rfl (Step.store_box (n := 1) (p := (.one (.d (.int .i64 a.f1)))) (qs := [.d (.int .i64 a.f1)]) (ps' := [.d (.int .i64 a.f0), .d (.int .i64 a.f1), .nil, .d (.int .i64 0), .nil]) rfl rfl (by kernel_rfl) rfl rfl rfl rfl rfl rfl (le_ok rfl) rfl) ?_
 refine TL.nil ?_
 refine T.seq ?_
 refine T.region ?_
 refine TL.cons rfl (Step.fieldAddr (q := 0) (off := 2) (n := 1) (one := true) rfl rfl (lt_ok rfl) (by kernel_rfl) (Nat.succ_ne_zero _) rfl) ?_
 refine TL.cons rfl (Step.load_box (c := .d (.ints .u8 a.f2)) rfl rfl (lt_ok rfl) (by kernel_rfl) rfl rfl rfl) ?_
 refine TL.cons rfl (Step.call (f := 49) (xs := [.tmp 11]) (ps := [(.one (.d (.ints .u8 a.f2)))]) false (g := .func 49) rfl rfl (lt_ok rfl) rfl (by kernel_rfl) rfl (.cons (.one (.d _)) .nil) (ok_laws_toByteS a.f2 (by first | assumption | exact ⟨‹_›, ‹_›⟩ | exact mem_getD h0_.2 (by omega))) (.inr rfl) rfl (by simp) rfl) ?_
 refine TL.cons rfl (Step.fieldAddr (q := 0) (off := 2) (n := 1) (one := true) rfl rfl (lt_ok rfl) (by kernel_rfl) (Nat.succ_ne_zero _) rfl) ?_
 refine TL.cons rfl (Step.store_box (n := 1) (p := (.one (.row 1012 []))) (qs := [.row 1012 []]) (ps' := [.d (.int .i64 a.f0), .d (.int .i64 a.f1), .row 1012 [], .d (.int .i64 0), .nil]) rfl rfl (by kernel_rfl) rfl rfl rfl rfl rfl rfl (le_ok rfl) rfl) ?_
 refine TL.nil ?_
 refine T.seq ?_
 refine T.region ?_
 refine TL.cons rfl (Step.fieldAddr (q := 0) (off := 3) (n := 1) (one := true) rfl rfl (lt_ok rfl) (by kernel_rfl) (Nat.succ_ne_zero _) rfl) ?_
 refine TL.cons rfl (Step.load_box (c := .d (.int .i64 a.f3)) rfl rfl (lt_ok rfl) (by kernel_rfl) rfl rfl rfl) ?_
 refine TL.cons rfl (Step.fieldAddr (q := 0) (off := 3) (n := 1) (one := true) rfl rfl (lt_ok rfl) (by kernel_rfl) (Nat.succ_ne_zero _) rfl) ?_
 refine TL.cons rfl (Step.store_box (n := 1) (p := (.one (.d (.int .i64 a.f3)))) (qs := [.d (.int .i64 a.f3)]) (ps' := [.d (.int .i64 a.f0), .d (.int .i64 a.f1), .row 1012 [], .d (.int .i64 a.f3), .nil]) rfl rfl (by kernel_rfl) rfl rfl rfl rfl rfl rfl (le_ok rfl) rfl) ?_
 refine TL.nil ?_
 refine T.seq ?_
 refine T.region ?_
 refine TL.cons rfl (Step.fieldAddr (q := 0) (off := 4) (n := 1) (one := true) rfl rfl (lt_ok rfl) (by kernel_rfl) (Nat.succ_ne_zero _) rfl) ?_
 refine TL.cons rfl (Step.load_box (c := .d (.ints .u8 a.f4)) rfl rfl (lt_ok rfl) (by kernel_rfl) rfl rfl rfl) ?_
 refine TL.cons rfl (Step.call (f := 49) (xs := [.tmp 18]) (ps := [(.one (.d (.ints .u8 a.f4)))]) false (g := .func 49) rfl rfl (lt_ok rfl) rfl (by kernel_rfl) rfl (.cons (.one (.d _)) .nil) (ok_laws_toByteS a.f4 (by first | assumption | exact ⟨‹_›, ‹_›⟩ | exact mem_getD h0_.2 (by omega))) (.inr rfl) rfl (by simp) rfl) ?_
 refine TL.cons rfl (Step.fieldAddr (q := 0) (off := 4) (n := 1) (one := true) rfl rfl (lt_ok rfl) (by kernel_rfl) (Nat.succ_ne_zero _) rfl) ?_
 refine TL.cons rfl (Step.store_box (n := 1) (p := (.one (.row 1019 []))) (qs := [.row 1019 []]) (ps' := [.d (.int .i64 a.f0), .d (.int .i64 a.f1), .row 1012 [], .d (.int .i64 a.f3), .row 1019 []]) rfl rfl (by kernel_rfl) rfl rfl rfl rfl rfl rfl (le_ok rfl) rfl) ?_
 refine TL.nil ?_
 refine T.seq ?_
 refine T.region ?_
 refine TL.cons rfl (Step.load_box_agg (n := 5) (qs := [.d (.int .i64 a.f0), .d (.int .i64 a.f1), .row 1012 [], .d (.int .i64 a.f3), .row 1019 []]) rfl rfl (lt_ok rfl) (by kernel_rfl) rfl rfl rfl rfl) ?_
 refine TL.cons rfl (Step.store_box (n := 5) (p := (.agg [.d (.int .i64 a.f0), .d (.int .i64 a.f1), .row 1012 [], .d (.int .i64 a.f3), .row 1019 []])) (qs := [.d (.int .i64 a.f0), .d (.int .i64 a.f1), .row 1012 [], .d (.int .i64 a.f3), .row 1019 []]) (ps' := [.d (.int .i64 a.f0), .d (.int .i64 a.f1), .row 1012 [], .d (.int .i64 a.f3), .row 1019 []]) rfl rfl (by kernel_rfl) rfl rfl rfl rfl rfl rfl (le_ok rfl) rfl) ?_
 refine TL.nil ?_
 refine T.ret ?_
 exact ⟨[(true, [.d (.int .i64 a.f0), .d (.int .i64 a.f1), .row 1012 [], .d (.int .i64 a.f3), .row 1019 []])], (.cons rfl .nil), rfl, [1012, 1019], (RetC.rd' (by rfl) (RetC.rd' (by rfl) (RetC.own' rfl (by rfl) rfl (RetC.rd' (by rfl) (RetC.own' rfl (by rfl) rfl .nil)))))⟩
theorem ok_impl_copyBytes (a : List Int) (h0_ : a.length ≤ 1099511627776) : RO Try.prog 83 [.one (.ints .u8 a)] [(false, [.own 5 (.ints .u8 a)])] := by
 refine RO.intro Try.func83 rfl 6 rfl (le_ok rfl) fun w Z => ?_
 refine T.bnd 0 0 rfl rfl fun hb_0_0 => ?_
 simp only [D.size, List.length_map] at hb_0_0
 refine T.seq ?_
 refine T.region ?_
 refine TL.cons rfl (Step.assign (p := (.one (.nil))) rfl rfl (lt_ok rfl) rfl) ?_
 refine TL.nil ?_
 refine T.seq ?_
 refine T.region ?_
 refine TL.cons rfl (Step.lit (e := 5) (z := 1) (by_ := 1) (xs := []) (pss := []) (es := []) (ss := []) (d := (.ints .u8 [])) rfl rfl (lt_ok rfl) (by kernel_rfl) rfl rfl .nil (by simp) (le_ok rfl) (le_ok rfl) rfl .nil rfl (by simp) (by simp) rfl trivial rfl rfl) ?_
 refine TL.cons rfl (Step.move (p := (.one (.d (.ints .u8 a)))) rfl rfl (lt_ok rfl) rfl) ?_
 refine TL.cons rfl (Step.append (e := 5) (z := 1) (by_ := 1) (d := (.ints .u8 [])) (dy := (.ints .u8 a)) (d' := (.ints .u8 ([] ++ a))) (ss := []) rfl rfl (lt_ok rfl) (by kernel_rfl) rfl rfl rfl (lt_ok rfl) rfl (.froz rfl (by simp [D.flat, D.val])) (by simp) rfl (by simp only [D.size]; first | omega | (simp; omega)) (by simp only [D.size]; first | omega | (simp; omega)) (by simp)) ?_
 refine TL.cons rfl (Step.assign (p := (.one (.row 3 []))) rfl rfl (lt_ok rfl) rfl) ?_
 refine TL.nil ?_
 refine T.ret ?_
 exact ⟨[(false, [.row 3 []])], (.cons rfl .nil), rfl, [3], (RetC.own' rfl (by rfl) rfl .nil)⟩
theorem ok_impl_OfVote (v : SVote) (h0_ : v.sm) : RO Try.prog 42 [.agg v.cells] [(true, [.rd (.int .i64 (ofVote v).f0), .rd (.int .i64 (ofVote v).f1.f0), .rd (.int .i64 (ofVote v).f1.f1), .own 5 (.ints .u8 (ofVote v).f1.f2), .rd (.int .i64 (ofVote v).f1.f3), .own 5 (.ints .u8 (ofVote v).f1.f4), .rd (.int .i64 (ofVote v).f2.f0), .rd (.int .i64 (ofVote v).f2.f1), .own 5 (.ints .u8 (ofVote v).f2.f2), .own 5 (.ints .u8 (ofVote v).f2.f3), .own 22 (.bss (ofVote v).f2.f4), .rd (.int .i64 (ofVote v).f3.f0), .rd (.int .i64 (ofVote v).f3.f1), .rd (.int .i64 (ofVote v).f3.f2), .own 5 (.ints .u8 (ofVote v).f3.f3), .own 5 (.ints .u8 (ofVote v).f3.f4), .rd (.int .i64 (ofVote v).f3.f5.f0), .rd (.int .i64 (ofVote v).f3.f5.f1), .own 5 (.ints .u8 (ofVote v).f3.f5.f2), .own 5 (.ints .u8 (ofVote v).f3.f5.f3), .own 22 (.bss (ofVote v).f3.f5.f4), .rd (.int .i64 (ofVote v).f4.f0.f0), .rd (.int .i64 (ofVote v).f4.f0.f1), .rd (.int .i64 (ofVote v).f4.f0.f2), .own 5 (.ints .u8 (ofVote v).f4.f0.f3), .own 5 (.ints .u8 (ofVote v).f4.f0.f4), .rd (.int .i64 (ofVote v).f4.f0.f5.f0), .rd (.int .i64 (ofVote v).f4.f0.f5.f1), .own 5 (.ints .u8 (ofVote v).f4.f0.f5.f2), .own 5 (.ints .u8 (ofVote v).f4.f0.f5.f3), .own 22 (.bss (ofVote v).f4.f0.f5.f4), .own 22 (.bss (ofVote v).f4.f1), .rd (.int .i64 (ofVote v).f5.f0), .own 121 (.sl 3 ((ofVote v).f5.f1.map SEntry.cells)), .own 66 (.sl 10 ((ofVote v).f6.f0.map SHead.cells)), .rd (.int .i64 (ofVote v).f6.f1.f0), .rd (.int .i64 (ofVote v).f6.f1.f1), .own 5 (.ints .u8 (ofVote v).f6.f1.f2), .own 5 (.ints .u8 (ofVote v).f6.f1.f3), .own 22 (.bss (ofVote v).f6.f1.f4), .rd (.int .i64 (ofVote v).f7.f0), .rd (.int .i64 (ofVote v).f7.f1), .rd (.int .i64 (ofVote v).f7.f2), .own 5 (.ints .u8 (ofVote v).f7.f3), .own 22 (.bss (ofVote v).f7.f4)])] := by
 refine RO.intro Try.func42 rfl 13 rfl (le_ok rfl) fun w Z => ?_
 obtain ⟨s0, s1⟩ := h0_
 refine T.seq ?_
 refine T.region ?_
 refine TL.cons rfl (Step.box (p := (.agg [.d (.int .i64 v.f0), .d (.int .i64 v.f1), .d (.ints .u8 v.f2), .d (.int .i64 v.f3), .d (.ints .u8 v.f4)])) (ps := [.d (.int .i64 v.f0), .d (.int .i64 v.f1), .d (.ints .u8 v.f2), .d (.int .i64 v.f3), .d (.ints .u8 v.f4)]) rfl rfl (lt_ok rfl) rfl rfl rfl rfl rfl) ?_
 refine TL.cons rfl (Step.alloc (cs := [.int .i64 0, .int .i64 0, .int .i64 0, .slice none 0 0, .int .i64 0, .slice none 0 0, .int .i64 0, .int .i64 0, .slice none 0 0, .slice none 0 0, .slice none 0 0, .int .i64 0, .int .i64 0, .int .i64 0, .slice none 0 0, .slice none 0 0, .int .i64 0, .int .i64 0, .slice none 0 0, .slice none 0 0, .slice none 0 0, .int .i64 0, .int .i64 0, .int .i64 0, .slice none 0 0, .slice none 0 0, .int .i64 0, .int .i64 0, .slice none 0 0, .slice none 0 0, .slice none 0 0, .slice none 0 0, .int .i64 0, .slice none 0 0, .slice none 0 0, .int .i64 0, .int .i64 0, .slice none 0 0, .slice none 0 0, .slice none 0 0, .int .i64 0, .int .i64 0, .int .i64 0, .slice none 0 0, .slice none 0 0]) (ps := [.d (.int .i64 0), .d (.int .i64 0), .d (.int .i64 0), .nil, .d (.int .i64 0), .nil, .d (.int .i64 0), .d (.int .i64 0), .nil, .nil, .nil, .d (.int .i64 0), .d (.int .i64 0), .d (.int .i64 0), .nil, .nil, .d (.int .i64 0), .d (.int .i64 0), .nil, .nil, .nil, .d (.int .i64 0), .d (.int .i64 0), .d (.int .i64 0), .nil, .nil, .d (.int .i64 0), .d (.int .i64 0), .nil, .nil, .nil, .nil, .d (.int .i64 0), .nil, .nil, .d (.int .i64 0), .d (.int .i64 0), .nil, .nil, .nil, .d (.int .i64 0), .d (.int .i64 0), .d (.int .i64 0), .nil, .nil]) rfl rfl (lt_ok rfl) (by kernel_rfl) rfl rfl rfl rfl) ?_
 refine TL.nil ?_
 refine T.seq ?_
 refine T.draw [⟨3, (.one (.ptr 1 2)), []⟩, ⟨4, (.one (.d (.ints .u8 v.f2))), []⟩, ⟨5, (.one (.row 1005 [])), [(1005, (5, (.ints .u8 v.f2)))]⟩, ⟨6, (.one (.ptr 1 4)), []⟩, ⟨7, (.one (.d (.ints .u8 v.f4))), []⟩, ⟨8, (.one (.row 1008 [])), [(1008, (5, (.ints .u8 v.f4)))]⟩, ⟨9, (.one (.ptr 1 2)), []⟩] (by kernel_rfl) (by kernel_rfl) ?_ ?_
 ·
  refine .cons (fun E h => by have g1 := h.get 1 (by decide); exact OpStep.plain rfl (Step.fieldAddr (q := 0) (off := 2) (n := 1) (one := true) (t := 3) rfl rfl (by exact lt_ok rfl) (by kernel_rfl) (Nat.succ_ne_zero _) (show Env.ev E (.tmp 1) = _ from g1.trans rfl))) ?_
  refine .cons (fun E h => by have g3 := h.get 3 (by decide); exact OpStep.plain rfl (Step.load_box (c := .d (.ints .u8 v.f2)) (t := 4) rfl rfl (by exact lt_ok rfl) (by kernel_rfl) (show Env.ev E (.tmp 3) = _ from g3.trans rfl) (by exact h.box rfl) rfl)) ?_
  refine .cons (fun E h => by have g4 := h.get 4 (by decide); exact OpStep.plain rfl (Step.call (f := 83) (xs := [.tmp 4]) (ps := [(.one (.d (.ints .u8 v.f2)))]) false (g := .func 83) (t := 5) rfl rfl (by exact lt_ok rfl) rfl (by kernel_rfl) (evs_cons (show Env.ev E (.tmp 4) = _ from g4.trans rfl) (rfl)) (.cons (.one (.d _)) .nil) (ok_impl_copyBytes v.f2 (by first | omega | assumption)) (.inr rfl) (At.freshRows h rfl) (by simp) rfl)) ?_
  refine .cons (fun E h => by have g1 := h.get 1 (by decide); exact OpStep.plain rfl (Step.fieldAddr (q := 0) (off := 4) (n := 1) (one := true) (t := 6) rfl rfl (by exact lt_ok rfl) (by kernel_rfl) (Nat.succ_ne_zero _) (show Env.ev E (.tmp 1) = _ from g1.trans rfl))) ?_
  refine .cons (fun E h => by have g6 := h.get 6 (by decide); exact OpStep.plain rfl (Step.load_box (c := .d (.ints .u8 v.f4)) (t := 7) rfl rfl (by exact lt_ok rfl) (by kernel_rfl) (show Env.ev E (.tmp 6) = _ from g6.trans rfl) (by exact h.box rfl) rfl)) ?_
  refine .cons (fun E h => by have g7 := h.get 7 (by decide); exact OpStep.plain rfl (Step.call (f := 83) (xs := [.tmp 7]) (ps := [(.one (.d (.ints .u8 v.f4)))]) false (g := .func 83) (t := 8) rfl rfl (by exact lt_ok rfl) rfl (by kernel_rfl) (evs_cons (show Env.ev E (.tmp 7) = _ from g7.trans rfl) (rfl)) (.cons (.one (.d _)) .nil) (ok_impl_copyBytes v.f4 (by first | omega | assumption)) (.inr rfl) (At.freshRows h rfl) (by simp) rfl)) ?_
  refine .cons (fun E h => by have g1 := h.get 1 (by decide); exact OpStep.plain rfl (Step.fieldAddr (q := 0) (off := 2) (n := 1) (one := true) (t := 9) rfl rfl (by exact lt_ok rfl) (by kernel_rfl) (Nat.succ_ne_zero _) (show Env.ev E (.tmp 1) = _ from g1.trans rfl))) ?_
  exact .nil _ _
 refine TL.cons rfl (Step.store_box (n := 1) (p := (.one (.row 1005 []))) (qs := [.row 1005 []]) (ps' := [.d (.int .i64 v.f0), .d (.int .i64 v.f1), .row 1005 [], .d (.int .i64 v.f3), .d (.ints .u8 v.f4)]) rfl rfl (by kernel_rfl) rfl rfl rfl rfl rfl rfl (le_ok rfl) rfl) ?_
 refine TL.cons rfl (Step.fieldAddr (q := 0) (off := 4) (n := 1) (one := true) rfl rfl (lt_ok rfl) (by kernel_rfl) (Nat.succ_ne_zero _) rfl) ?_
 refine TL.cons rfl (Step.store_box (n := 1) (p := (.one (.row 1008 []))) (qs := [.row 1008 []]) (ps' := [.d (.int .i64 v.f0), .d (.int .i64 v.f1), .row 1005 [], .d (.int .i64 v.f3), .row 1008 []]) rfl rfl (by kernel_rfl) rfl rfl rfl rfl rfl rfl (le_ok rfl) rfl) ?_
 refine TL.nil ?_
 refine T.seq ?_
 refine T.region ?_
 refine TL.cons rfl (Step.load_box_agg (n := 5) (qs := [.d (.int .i64 v.f0), .d (.int .i64 v.f1), .row 1005 [], .d (.int .i64 v.f3), .row 1008 []]) rfl rfl (lt_ok rfl) (by kernel_rfl) rfl rfl rfl rfl) ?_
 refine TL.cons rfl (Step.build (zs := [.int .i64 0, .int .i64 0, .int .i64 0, .slice none 0 0, .int .i64 0, .slice none 0 0, .int .i64 0, .int .i64 0, .slice none 0 0, .slice none 0 0, .slice none 0 0, .int .i64 0, .int .i64 0, .int .i64 0, .slice none 0 0, .slice none 0 0, .int .i64 0, .int .i64 0, .slice none 0 0, .slice none 0 0, .slice none 0 0, .int .i64 0, .int .i64 0, .int .i64 0, .slice none 0 0, .slice none 0 0, .int .i64 0, .int .i64 0, .slice none 0 0, .slice none 0 0, .slice none 0 0, .slice none 0 0, .int .i64 0, .slice none 0 0, .slice none 0 0, .int .i64 0, .int .i64 0, .slice none 0 0, .slice none 0 0, .slice none 0 0, .int .i64 0, .int .i64 0, .int .i64 0, .slice none 0 0, .slice none 0 0]) (places := [(0, 1), (1, 5), (6, 5), (11, 10), (21, 11), (32, 2), (34, 6), (40, 5)]) (pss := [(0, [.d (.int .i64 1)]), (1, [.d (.int .i64 v.f0), .d (.int .i64 v.f1), .row 1005 [], .d (.int .i64 v.f3), .row 1008 []])]) (ps' := [.d (.int .i64 1), .d (.int .i64 v.f0), .d (.int .i64 v.f1), .row 1005 [], .d (.int .i64 v.f3), .row 1008 [], .d (.int .i64 0), .d (.int .i64 0), .nil, .nil, .nil, .d (.int .i64 0), .d (.int .i64 0), .d (.int .i64 0), .nil, .nil, .d (.int .i64 0), .d (.int .i64 0), .nil, .nil, .nil, .d (.int .i64 0), .d (.int .i64 0), .d (.int .i64 0), .nil, .nil, .d (.int .i64 0), .d (.int .i64 0), .nil, .nil, .nil, .nil, .d (.int .i64 0), .nil, .nil, .d (.int .i64 0), .d (.int .i64 0), .nil, .nil, .nil, .d (.int .i64 0), .d (.int .i64 0), .d (.int .i64 0), .nil, .nil]) rfl rfl (lt_ok rfl) (by kernel_rfl) (.cons ⟨rfl, rfl⟩ (.cons ⟨rfl, rfl⟩ .nil)) rfl rfl rfl) ?_
 refine TL.cons rfl (Step.store_box (n := 45) (p := (.agg [.d (.int .i64 1), .d (.int .i64 v.f0), .d (.int .i64 v.f1), .row 1005 [], .d (.int .i64 v.f3), .row 1008 [], .d (.int .i64 0), .d (.int .i64 0), .nil, .nil, .nil, .d (.int .i64 0), .d (.int .i64 0), .d (.int .i64 0), .nil, .nil, .d (.int .i64 0), .d (.int .i64 0), .nil, .nil, .nil, .d (.int .i64 0), .d (.int .i64 0), .d (.int .i64 0), .nil, .nil, .d (.int .i64 0), .d (.int .i64 0), .nil, .nil, .nil, .nil, .d (.int .i64 0), .nil, .nil, .d (.int .i64 0), .d (.int .i64 0), .nil, .nil, .nil, .d (.int .i64 0), .d (.int .i64 0), .d (.int .i64 0), .nil, .nil])) (qs := [.d (.int .i64 1), .d (.int .i64 v.f0), .d (.int .i64 v.f1), .row 1005 [], .d (.int .i64 v.f3), .row 1008 [], .d (.int .i64 0), .d (.int .i64 0), .nil, .nil, .nil, .d (.int .i64 0), .d (.int .i64 0), .d (.int .i64 0), .nil, .nil, .d (.int .i64 0), .d (.int .i64 0), .nil, .nil, .nil, .d (.int .i64 0), .d (.int .i64 0), .d (.int .i64 0), .nil, .nil, .d (.int .i64 0), .d (.int .i64 0), .nil, .nil, .nil, .nil, .d (.int .i64 0), .nil, .nil, .d (.int .i64 0), .d (.int .i64 0), .nil, .nil, .nil, .d (.int .i64 0), .d (.int .i64 0), .d (.int .i64 0), .nil, .nil]) (ps' := [.d (.int .i64 1), .d (.int .i64 v.f0), .d (.int .i64 v.f1), .row 1005 [], .d (.int .i64 v.f3), .row 1008 [], .d (.int .i64 0), .d (.int .i64 0), .nil, .nil, .nil, .d (.int .i64 0), .d (.int .i64 0), .d (.int .i64 0), .nil, .nil, .d (.int .i64 0), .d (.int .i64 0), .nil, .nil, .nil, .d (.int .i64 0), .d (.int .i64 0), .d (.int .i64 0), .nil, .nil, .d (.int .i64 0), .d (.int .i64 0), .nil, .nil, .nil, .nil, .d (.int .i64 0), .nil, .nil, .d (.int .i64 0), .d (.int .i64 0), .nil, .nil, .nil, .d (.int .i64 0), .d (.int .i64 0), .d (.int .i64 0), .nil, .nil]) rfl rfl (by kernel_rfl) rfl rfl rfl rfl rfl rfl (le_ok rfl) rfl) ?_
 refine TL.nil ?_
 refine T.weaken (E' := { tm := [(2, (.one (.ptr 2 0)))], rows := [(1005, (5, (.ints .u8 v.f2))), (1008, (5, (.ints .u8 v.f4)))], boxes := [(2, (75, [.d (.int .i64 1), .d (.int .i64 v.f0), .d (.int .i64 v.f1), .row 1005 [], .d (.int .i64 v.f3), .row 1008 [], .d (.int .i64 0), .d (.int .i64 0), .nil, .nil, .nil, .d (.int .i64 0), .d (.int .i64 0), .d (.int .i64 0), .nil, .nil, .d (.int .i64 0), .d (.int .i64 0), .nil, .nil, .nil, .d (.int .i64 0), .d (.int .i64 0), .d (.int .i64 0), .nil, .nil, .d (.int .i64 0), .d (.int .i64 0), .nil, .nil, .nil, .nil, .d (.int .i64 0), .nil, .nil, .d (.int .i64 0), .d (.int .i64 0), .nil, .nil, .nil, .d (.int .i64 0), .d (.int .i64 0), .d (.int .i64 0), .nil, .nil]))] }) (Env.le_mk ⟨by kernel_rfl, trivial⟩ ⟨by kernel_rfl, by kernel_rfl, trivial⟩ ⟨by kernel_rfl, trivial⟩) ?_
 refine T.ret ?_
 exact ⟨[(true, [.d (.int .i64 1), .d (.int .i64 v.f0), .d (.int .i64 v.f1), .row 1005 [], .d (.int .i64 v.f3), .row 1008 [], .d (.int .i64 0), .d (.int .i64 0), .nil, .nil, .nil, .d (.int .i64 0), .d (.int .i64 0), .d (.int .i64 0), .nil, .nil, .d (.int .i64 0), .d (.int .i64 0), .nil, .nil, .nil, .d (.int .i64 0), .d (.int .i64 0), .d (.int .i64 0), .nil, .nil, .d (.int .i64 0), .d (.int .i64 0), .nil, .nil, .nil, .nil, .d (.int .i64 0), .nil, .nil, .d (.int .i64 0), .d (.int .i64 0), .nil, .nil, .nil, .d (.int .i64 0), .d (.int .i64 0), .d (.int .i64 0), .nil, .nil])], (.cons rfl .nil), rfl, [1005, 1008], (RetC.rd' (by rfl) (RetC.rd' (by rfl) (RetC.rd' (by rfl) (RetC.own' rfl (by rfl) rfl (RetC.rd' (by rfl) (RetC.own' rfl (by rfl) rfl (RetC.rd' (by rfl) (RetC.rd' (by rfl) (RetC.nilown' rfl (by rfl) (by first | exact trivial | exact D.wf_nil _) (RetC.nilown' rfl (by rfl) (by first | exact trivial | exact D.wf_nil _) (RetC.nilown' rfl (by rfl) (by first | exact trivial | exact D.wf_nil _) (RetC.rd' (by rfl) (RetC.rd' (by rfl) (RetC.rd' (by rfl) (RetC.nilown' rfl (by rfl) (by first | exact trivial | exact D.wf_nil _) (RetC.nilown' rfl (by rfl) (by first | exact trivial | exact D.wf_nil _) (RetC.rd' (by rfl) (RetC.rd' (by rfl) (RetC.nilown' rfl (by rfl) (by first | exact trivial | exact D.wf_nil _) (RetC.nilown' rfl (by rfl) (by first | exact trivial | exact D.wf_nil _) (RetC.nilown' rfl (by rfl) (by first | exact trivial | exact D.wf_nil _) (RetC.rd' (by rfl) (RetC.rd' (by rfl) (RetC.rd' (by rfl) (RetC.nilown' rfl (by rfl) (by first | exact trivial | exact D.wf_nil _) (RetC.nilown' rfl (by rfl) (by first | exact trivial | exact D.wf_nil _) (RetC.rd' (by rfl) (RetC.rd' (by rfl) (RetC.nilown' rfl (by rfl) (by first | exact trivial | exact D.wf_nil _) (RetC.nilown' rfl (by rfl) (by first | exact trivial | exact D.wf_nil _) (RetC.nilown' rfl (by rfl) (by first | exact trivial | exact D.wf_nil _) (RetC.nilown' rfl (by rfl) (by first | exact trivial | exact D.wf_nil _) (RetC.rd' (by rfl) (RetC.nilown' rfl (by rfl) (by first | exact trivial | exact D.wf_nil _) (RetC.nilown' rfl (by rfl) (by first | exact trivial | exact D.wf_nil _) (RetC.rd' (by rfl) (RetC.rd' (by rfl) (RetC.nilown' rfl (by rfl) (by first | exact trivial | exact D.wf_nil _) (RetC.nilown' rfl (by rfl) (by first | exact trivial | exact D.wf_nil _) (RetC.nilown' rfl (by rfl) (by first | exact trivial | exact D.wf_nil _) (RetC.rd' (by rfl) (RetC.rd' (by rfl) (RetC.rd' (by rfl) (RetC.nilown' rfl (by rfl) (by first | exact trivial | exact D.wf_nil _) (RetC.nilown' rfl (by rfl) (by first | exact trivial | exact D.wf_nil _) .nil)))))))))))))))))))))))))))))))))))))))))))))⟩
theorem ok_laws_eqByteS (a : List Int) (b : List Int) : RO Try.prog 29 [.one (.ints .u8 a), .one (.ints .u8 b)] [(false, [.rd (.bool (decide (a = b)))])] := by
 refine RO.intro Try.func29 rfl 26 rfl (le_ok rfl) fun w Z => ?_
 refine T.bnd 0 0 rfl rfl fun hb_0_0 => ?_
 simp only [D.size, List.length_map] at hb_0_0
 refine T.bnd 1 0 rfl rfl fun hb_1_0 => ?_
 simp only [D.size, List.length_map] at hb_1_0
 refine T.seq ?_
 refine T.region ?_
 refine TL.cons rfl (Step.assign (p := (.one (.d (.bool false)))) rfl rfl (lt_ok rfl) rfl) ?_
 refine TL.nil ?_
 refine T.seq ?_
 refine T.seq ?_
 refine T.region ?_
 refine TL.cons rfl (Step.move (p := (.one (.d (.ints .u8 a)))) rfl rfl (lt_ok rfl) rfl) ?_
 refine TL.cons rfl (Step.len (e := 5) (z := 1) (d := (.ints .u8 a)) rfl rfl (lt_ok rfl) (by kernel_rfl) rfl rfl) ?_
 refine TL.cons rfl (Step.move (p := (.one (.d (.ints .u8 b)))) rfl rfl (lt_ok rfl) rfl) ?_
 refine TL.cons rfl (Step.len (e := 5) (z := 1) (d := (.ints .u8 b)) rfl rfl (lt_ok rfl) (by kernel_rfl) rfl rfl) ?_
 refine TL.cons rfl (Step.bin rfl rfl (lt_ok rfl) rfl rfl (Bin.neq (k := .i64) (a := (a.length : Int)) (b := (b.length : Int)))) ?_
 refine TL.nil ?_
 refine T.cond (b := decide ((a.length : Int) ≠ (b.length : Int))) rfl (fun h1 => ?_) (fun h1 => ?_)
 ·
  replace h1 := of_decide_eq_true h1
  refine T.seq ?_
  refine T.region ?_
  refine TL.cons rfl (Step.assign (p := (.one (.d (.bool false)))) rfl rfl (lt_ok rfl) rfl) ?_
  refine TL.nil ?_
  refine T.ret ?_
  exact ⟨[(false, [.d (.bool false)])], (.cons rfl .nil), rfl, [], (RetC.rd' (by (congr 1; symm; first | (apply decide_eq_false; rintro rfl; first | exact absurd rfl ‹¬ _ = _› | exact absurd rfl (of_decide_eq_false (by assumption)) | contradiction | simp_all) | (apply decide_eq_true; exact take_all hx2 (by omega) hx3))) .nil)⟩
 ·
  replace h1 := of_decide_eq_false h1
  refine T.skip ?_
  refine T.seq ?_
  refine T.seq ?_
  refine T.region ?_
  refine TL.cons rfl (Step.assign (p := (.one (.d (.int .i64 0)))) rfl rfl (lt_ok rfl) rfl) ?_
  refine TL.nil ?_
  refine T.block ?_
  refine T.loop (ι := Nat) (fun x => { tm := [(0, (.one (.d (.ints .u8 a)))), (1, (.one (.d (.ints .u8 b)))), (5, (.one (.d (.int .i64 (x : Int)))))], rows := [], boxes := [] }) (fun x => x ≤ a.length ∧ a.length = b.length ∧ a.take x = b.take x) (fun x => a.length - x) 0 ?_ ?_ ?_
  · exact Env.le_mk ⟨rfl, rfl, by first | rfl | (simp; done) | (congr 3; omega), trivial⟩ trivial trivial
  · (refine ⟨Nat.zero_le _, by omega, by simp⟩)
  ·
   intro i hx
   try dsimp only at hx ⊢
   obtain ⟨hx1, hx2, hx3⟩ := hx
   refine T.seq ?_
   refine T.seq ?_
   refine T.region ?_
   refine TL.cons rfl (Step.move (p := (.one (.d (.int .i64 (i : Int))))) rfl rfl (lt_ok rfl) rfl) ?_
   refine TL.cons rfl (Step.move (p := (.one (.d (.ints .u8 a)))) rfl rfl (lt_ok rfl) rfl) ?_
   refine TL.cons rfl (Step.len (e := 5) (z := 1) (d := (.ints .u8 a)) rfl rfl (lt_ok rfl) (by kernel_rfl) rfl rfl) ?_
   refine TL.cons rfl (Step.bin rfl rfl (lt_ok rfl) rfl rfl (Bin.lss (k := .i64) (a := (i : Int)) (b := (a.length : Int)))) ?_
   refine TL.nil ?_
   refine T.cond (b := decide ((i : Int) < (a.length : Int))) rfl (fun h2 => ?_) (fun h2 => ?_)
   ·
    replace h2 := of_decide_eq_true h2
    refine T.skip ?_
    refine T.seq ?_
    refine T.block ?_
    refine T.seq ?_
    refine T.draw [⟨17, (.one (.d (.ints .u8 a))), []⟩, ⟨18, (.one (.d (.int .i64 (i : Int)))), []⟩, ⟨19, (.one (.eptr (.ints .u8 a) i 0)), []⟩, ⟨20, (.one (.d (.int .u8 (a.getD i 0)))), []⟩, ⟨21, (.one (.d (.ints .u8 b))), []⟩, ⟨22, (.one (.d (.int .i64 (i : Int)))), []⟩, ⟨23, (.one (.eptr (.ints .u8 b) i 0)), []⟩, ⟨24, (.one (.d (.int .u8 (b.getD i 0)))), []⟩, ⟨25, (.one (.d (.bool (decide ((a.getD i 0) ≠ (b.getD i 0)))))), []⟩] (by kernel_rfl) (by kernel_rfl) ?_ ?_
    ·
     refine .cons (fun E h => by have g0 := h.get 0 (by decide); exact OpStep.plain rfl (Step.move (p := (.one (.d (.ints .u8 a)))) (t := 17) rfl rfl (by exact lt_ok rfl) (show Env.ev E (.tmp 0) = _ from g0.trans rfl))) ?_
     refine .cons (fun E h => by have g5 := h.get 5 (by decide); exact OpStep.plain rfl (Step.move (p := (.one (.d (.int .i64 (i : Int))))) (t := 18) rfl rfl (by exact lt_ok rfl) (show Env.ev E (.tmp 5) = _ from g5.trans rfl))) ?_
     refine .cons (fun E h => by have g17 := h.get 17 (by decide); have g18 := h.get 18 (by decide); exact OpStep.plain rfl (Step.index (e := 5) (z := 1) (i := (i : Int)) (t := 19) rfl rfl (by exact lt_ok rfl) (by kernel_rfl) (show Env.ev E (.tmp 17) = _ from g17.trans rfl) rfl rfl (lt_ok rfl) (show Env.ev E (.tmp 18) = _ from g18.trans rfl) (by first | omega | (simp; omega)) (by simp only [D.size]; first | omega | (simp; omega)))) ?_
     refine .cons (fun E h => by have g19 := h.get 19 (by decide); exact OpStep.plain rfl (Step.load (e := (.int .u8 (a.getD i 0))) (t := 20) rfl rfl (by exact lt_ok rfl) (by kernel_rfl) (show Env.ev E (.tmp 19) = _ from g19.trans rfl) rfl)) ?_
     refine .cons (fun E h => by have g1 := h.get 1 (by decide); exact OpStep.plain rfl (Step.move (p := (.one (.d (.ints .u8 b)))) (t := 21) rfl rfl (by exact lt_ok rfl) (show Env.ev E (.tmp 1) = _ from g1.trans rfl))) ?_
     refine .cons (fun E h => by have g5 := h.get 5 (by decide); exact OpStep.plain rfl (Step.move (p := (.one (.d (.int .i64 (i : Int))))) (t := 22) rfl rfl (by exact lt_ok rfl) (show Env.ev E (.tmp 5) = _ from g5.trans rfl))) ?_
     refine .cons (fun E h => by have g21 := h.get 21 (by decide); have g22 := h.get 22 (by decide); exact OpStep.plain rfl (Step.index (e := 5) (z := 1) (i := (i : Int)) (t := 23) rfl rfl (by exact lt_ok rfl) (by kernel_rfl) (show Env.ev E (.tmp 21) = _ from g21.trans rfl) rfl rfl (lt_ok rfl) (show Env.ev E (.tmp 22) = _ from g22.trans rfl) (by first | omega | (simp; omega)) (by simp only [D.size]; first | omega | (simp; omega)))) ?_
     refine .cons (fun E h => by have g23 := h.get 23 (by decide); exact OpStep.plain rfl (Step.load (e := (.int .u8 (b.getD i 0))) (t := 24) rfl rfl (by exact lt_ok rfl) (by kernel_rfl) (show Env.ev E (.tmp 23) = _ from g23.trans rfl) rfl)) ?_
     refine .cons (fun E h => by have g20 := h.get 20 (by decide); have g24 := h.get 24 (by decide); exact OpStep.plain rfl (Step.bin (t := 25) rfl rfl (by exact lt_ok rfl) (show Env.ev E (.tmp 20) = _ from g20.trans rfl) (show Env.ev E (.tmp 24) = _ from g24.trans rfl) (Bin.neq (k := .u8) (a := (a.getD i 0)) (b := (b.getD i 0))))) ?_
     exact .nil _ _
    refine TL.nil ?_
    refine T.cond (b := decide ((a.getD i 0) ≠ (b.getD i 0))) rfl (fun h3 => ?_) (fun h3 => ?_)
    ·
     replace h3 := of_decide_eq_true h3
     refine T.seq ?_
     refine T.region ?_
     refine TL.cons rfl (Step.assign (p := (.one (.d (.bool false)))) rfl rfl (lt_ok rfl) rfl) ?_
     refine TL.nil ?_
     refine T.ret ?_
     exact ⟨[(false, [.d (.bool false)])], (.cons rfl .nil), rfl, [], (RetC.rd' (by (congr 1; symm; first | (apply decide_eq_false; rintro rfl; first | exact absurd rfl ‹¬ _ = _› | exact absurd rfl (of_decide_eq_false (by assumption)) | contradiction | simp_all) | (apply decide_eq_true; exact take_all hx2 (by omega) hx3))) .nil)⟩
    ·
     replace h3 := of_decide_eq_false h3
     refine T.skip ?_
     refine T.region ?_
     refine TL.cons rfl (Step.move (p := (.one (.d (.int .i64 (i : Int))))) rfl rfl (lt_ok rfl) rfl) ?_
     refine TL.cons rfl (Step.bin (r := .int .i64 ((i : Int) + 1)) rfl rfl (lt_ok rfl) rfl rfl (Bin.add (a := (i : Int)) (b := 1) (by first | exact wrap_ok (by first | omega | (simp; omega)) (by first | omega | (simp; omega)) | rfl))) ?_
     refine TL.cons rfl (Step.assign (p := (.one (.d (.int .i64 ((i : Int) + 1))))) rfl rfl (lt_ok rfl) rfl) ?_
     refine TL.nil ?_
     exact ⟨i + 1, by (refine ⟨by omega, hx2, take_step (d := 0) hx2 (by omega) hx3 (by first | assumption | exact Decidable.not_not.1 (by assumption) | omega)⟩), by omega, Env.le_mk ⟨rfl, rfl, by first | rfl | (simp; done) | (congr 3; omega), trivial⟩ trivial trivial⟩
   ·
    replace h2 := of_decide_eq_false h2
    refine T.exit ?_
    refine T.seq ?_
    refine T.region ?_
    refine TL.cons rfl (Step.assign (p := (.one (.d (.bool true)))) rfl rfl (lt_ok rfl) rfl) ?_
    refine TL.nil ?_
    refine T.ret ?_
    exact ⟨[(false, [.d (.bool true)])], (.cons rfl .nil), rfl, [], (RetC.rd' (by (congr 1; symm; first | (apply decide_eq_false; rintro rfl; first | exact absurd rfl ‹¬ _ = _› | exact absurd rfl (of_decide_eq_false (by assumption)) | contradiction | simp_all) | (apply decide_eq_true; exact take_all hx2 (by omega) hx3))) .nil)⟩
theorem ok_laws_eqByteSS (a : List (List Int)) (b : List (List Int)) : RO Try.prog 84 [.one (.bss a), .one (.bss b)] [(false, [.rd (.bool (decide (a = b)))])] := by
 refine RO.intro Try.func84 rfl 27 rfl (le_ok rfl) fun w Z => ?_
 refine T.bnd 0 0 rfl rfl fun hb_0_0 => ?_
 simp only [D.size, List.length_map] at hb_0_0
 refine T.bnd 1 0 rfl rfl fun hb_1_0 => ?_
 simp only [D.size, List.length_map] at hb_1_0
 refine T.seq ?_
 refine T.region ?_
 refine TL.cons rfl (Step.assign (p := (.one (.d (.bool false)))) rfl rfl (lt_ok rfl) rfl) ?_
 refine TL.nil ?_
 refine T.seq ?_
 refine T.seq ?_
 refine T.region ?_
 refine TL.cons rfl (Step.move (p := (.one (.d (.bss a)))) rfl rfl (lt_ok rfl) rfl) ?_
 refine TL.cons rfl (Step.len (e := 22) (z := 1) (d := (.bss a)) rfl rfl (lt_ok rfl) (by kernel_rfl) rfl rfl) ?_
 refine TL.cons rfl (Step.move (p := (.one (.d (.bss b)))) rfl rfl (lt_ok rfl) rfl) ?_
 refine TL.cons rfl (Step.len (e := 22) (z := 1) (d := (.bss b)) rfl rfl (lt_ok rfl) (by kernel_rfl) rfl rfl) ?_
 refine TL.cons rfl (Step.bin rfl rfl (lt_ok rfl) rfl rfl (Bin.neq (k := .i64) (a := (a.length : Int)) (b := (b.length : Int)))) ?_
 refine TL.nil ?_
 refine T.cond (b := decide ((a.length : Int) ≠ (b.length : Int))) rfl (fun h1 => ?_) (fun h1 => ?_)
 ·
  replace h1 := of_decide_eq_true h1
  refine T.seq ?_
  refine T.region ?_
  refine TL.cons rfl (Step.assign (p := (.one (.d (.bool false)))) rfl rfl (lt_ok rfl) rfl) ?_
  refine TL.nil ?_
  refine T.ret ?_
  exact ⟨[(false, [.d (.bool false)])], (.cons rfl .nil), rfl, [], (RetC.rd' (by (congr 1; symm; first | (apply decide_eq_false; rintro rfl; first | exact absurd rfl ‹¬ _ = _› | exact absurd rfl (of_decide_eq_false (by assumption)) | contradiction | simp_all) | (apply decide_eq_true; exact take_all hx2 (by omega) hx3))) .nil)⟩
 ·
  replace h1 := of_decide_eq_false h1
  refine T.skip ?_
  refine T.seq ?_
  refine T.seq ?_
  refine T.region ?_
  refine TL.cons rfl (Step.assign (p := (.one (.d (.int .i64 0)))) rfl rfl (lt_ok rfl) rfl) ?_
  refine TL.nil ?_
  refine T.block ?_
  refine T.loop (ι := Nat) (fun x => { tm := [(0, (.one (.d (.bss a)))), (1, (.one (.d (.bss b)))), (5, (.one (.d (.int .i64 (x : Int)))))], rows := [], boxes := [] }) (fun x => x ≤ a.length ∧ a.length = b.length ∧ a.take x = b.take x) (fun x => a.length - x) 0 ?_ ?_ ?_
  · exact Env.le_mk ⟨rfl, rfl, by first | rfl | (simp; done) | (congr 3; omega), trivial⟩ trivial trivial
  · (refine ⟨Nat.zero_le _, by omega, by simp⟩)
  ·
   intro i hx
   try dsimp only at hx ⊢
   obtain ⟨hx1, hx2, hx3⟩ := hx
   refine T.seq ?_
   refine T.seq ?_
   refine T.region ?_
   refine TL.cons rfl (Step.move (p := (.one (.d (.int .i64 (i : Int))))) rfl rfl (lt_ok rfl) rfl) ?_
   refine TL.cons rfl (Step.move (p := (.one (.d (.bss a)))) rfl rfl (lt_ok rfl) rfl) ?_
   refine TL.cons rfl (Step.len (e := 22) (z := 1) (d := (.bss a)) rfl rfl (lt_ok rfl) (by kernel_rfl) rfl rfl) ?_
   refine TL.cons rfl (Step.bin rfl rfl (lt_ok rfl) rfl rfl (Bin.lss (k := .i64) (a := (i : Int)) (b := (a.length : Int)))) ?_
   refine TL.nil ?_
   refine T.cond (b := decide ((i : Int) < (a.length : Int))) rfl (fun h2 => ?_) (fun h2 => ?_)
   ·
    replace h2 := of_decide_eq_true h2
    refine T.skip ?_
    refine T.seq ?_
    refine T.block ?_
    refine T.seq ?_
    refine T.draw [⟨17, (.one (.d (.bss a))), []⟩, ⟨18, (.one (.d (.int .i64 (i : Int)))), []⟩, ⟨19, (.one (.eptr (.bss a) i 0)), []⟩, ⟨20, (.one (.d (.ints .u8 (a.getD i [])))), []⟩, ⟨21, (.one (.d (.bss b))), []⟩, ⟨22, (.one (.d (.int .i64 (i : Int)))), []⟩, ⟨23, (.one (.eptr (.bss b) i 0)), []⟩, ⟨24, (.one (.d (.ints .u8 (b.getD i [])))), []⟩, ⟨25, (.one (.d (.bool (decide ((a.getD i []) = (b.getD i [])))))), []⟩, ⟨26, (.one (.d (.bool (!(decide ((a.getD i []) = (b.getD i []))))))), []⟩] (by kernel_rfl) (by kernel_rfl) ?_ ?_
    ·
     refine .cons (fun E h => by have g0 := h.get 0 (by decide); exact OpStep.plain rfl (Step.move (p := (.one (.d (.bss a)))) (t := 17) rfl rfl (by exact lt_ok rfl) (show Env.ev E (.tmp 0) = _ from g0.trans rfl))) ?_
     refine .cons (fun E h => by have g5 := h.get 5 (by decide); exact OpStep.plain rfl (Step.move (p := (.one (.d (.int .i64 (i : Int))))) (t := 18) rfl rfl (by exact lt_ok rfl) (show Env.ev E (.tmp 5) = _ from g5.trans rfl))) ?_
     refine .cons (fun E h => by have g17 := h.get 17 (by decide); have g18 := h.get 18 (by decide); exact OpStep.plain rfl (Step.index (e := 22) (z := 1) (i := (i : Int)) (t := 19) rfl rfl (by exact lt_ok rfl) (by kernel_rfl) (show Env.ev E (.tmp 17) = _ from g17.trans rfl) rfl rfl (lt_ok rfl) (show Env.ev E (.tmp 18) = _ from g18.trans rfl) (by first | omega | (simp; omega)) (by simp only [D.size]; first | omega | (simp; omega)))) ?_
     refine .cons (fun E h => by have g19 := h.get 19 (by decide); exact OpStep.plain rfl (Step.load (e := (.ints .u8 (a.getD i []))) (t := 20) rfl rfl (by exact lt_ok rfl) (by kernel_rfl) (show Env.ev E (.tmp 19) = _ from g19.trans rfl) rfl)) ?_
     refine .cons (fun E h => by have g1 := h.get 1 (by decide); exact OpStep.plain rfl (Step.move (p := (.one (.d (.bss b)))) (t := 21) rfl rfl (by exact lt_ok rfl) (show Env.ev E (.tmp 1) = _ from g1.trans rfl))) ?_
     refine .cons (fun E h => by have g5 := h.get 5 (by decide); exact OpStep.plain rfl (Step.move (p := (.one (.d (.int .i64 (i : Int))))) (t := 22) rfl rfl (by exact lt_ok rfl) (show Env.ev E (.tmp 5) = _ from g5.trans rfl))) ?_
     refine .cons (fun E h => by have g21 := h.get 21 (by decide); have g22 := h.get 22 (by decide); exact OpStep.plain rfl (Step.index (e := 22) (z := 1) (i := (i : Int)) (t := 23) rfl rfl (by exact lt_ok rfl) (by kernel_rfl) (show Env.ev E (.tmp 21) = _ from g21.trans rfl) rfl rfl (lt_ok rfl) (show Env.ev E (.tmp 22) = _ from g22.trans rfl) (by first | omega | (simp; omega)) (by simp only [D.size]; first | omega | (simp; omega)))) ?_
     refine .cons (fun E h => by have g23 := h.get 23 (by decide); exact OpStep.plain rfl (Step.load (e := (.ints .u8 (b.getD i []))) (t := 24) rfl rfl (by exact lt_ok rfl) (by kernel_rfl) (show Env.ev E (.tmp 23) = _ from g23.trans rfl) rfl)) ?_
     refine .cons (fun E h => by have g20 := h.get 20 (by decide); have g24 := h.get 24 (by decide); exact OpStep.plain rfl (Step.call (f := 29) (xs := [.tmp 20, .tmp 24]) (ps := [(.one (.d (.ints .u8 (a.getD i [])))), (.one (.d (.ints .u8 (b.getD i []))))]) false (g := .func 29) (t := 25) rfl rfl (by exact lt_ok rfl) rfl (by kernel_rfl) (evs_cons (show Env.ev E (.tmp 20) = _ from g20.trans rfl) (evs_cons (show Env.ev E (.tmp 24) = _ from g24.trans rfl) (rfl))) (.cons (.one (.d _)) (.cons (.one (.d _)) .nil)) (ok_laws_eqByteS (a.getD i []) (b.getD i [])) (.inr rfl) (At.freshRows h rfl) (by simp) rfl)) ?_
     refine .cons (fun E h => by have g25 := h.get 25 (by decide); exact OpStep.plain rfl (Step.not (b := (decide ((a.getD i []) = (b.getD i [])))) (t := 26) rfl rfl (by exact lt_ok rfl) (show Env.ev E (.tmp 25) = _ from g25.trans rfl))) ?_
     exact .nil _ _
    refine TL.nil ?_
    refine T.cond (b := !(decide ((a.getD i []) = (b.getD i [])))) rfl (fun h3 => ?_) (fun h3 => ?_)
    ·
     replace h3 : (decide ((a.getD i []) = (b.getD i []))) = false := by simpa only [Bool.not_eq_true', Bool.not_eq_false'] using h3
     replace h3 := of_decide_eq_false h3
     refine T.seq ?_
     refine T.region ?_
     refine TL.cons rfl (Step.assign (p := (.one (.d (.bool false)))) rfl rfl (lt_ok rfl) rfl) ?_
     refine TL.nil ?_
     refine T.ret ?_
     exact ⟨[(false, [.d (.bool false)])], (.cons rfl .nil), rfl, [], (RetC.rd' (by (congr 1; symm; first | (apply decide_eq_false; rintro rfl; first | exact absurd rfl ‹¬ _ = _› | exact absurd rfl (of_decide_eq_false (by assumption)) | contradiction | simp_all) | (apply decide_eq_true; exact take_all hx2 (by omega) hx3))) .nil)⟩
    ·
     replace h3 : (decide ((a.getD i []) = (b.getD i []))) = true := by simpa only [Bool.not_eq_true', Bool.not_eq_false'] using h3
     replace h3 := of_decide_eq_true h3
     refine T.skip ?_
     refine T.region ?_
     refine TL.cons rfl (Step.move (p := (.one (.d (.int .i64 (i : Int))))) rfl rfl (lt_ok rfl) rfl) ?_
     refine TL.cons rfl (Step.bin (r := .int .i64 ((i : Int) + 1)) rfl rfl (lt_ok rfl) rfl rfl (Bin.add (a := (i : Int)) (b := 1) (by first | exact wrap_ok (by first | omega | (simp; omega)) (by first | omega | (simp; omega)) | rfl))) ?_
     refine TL.cons rfl (Step.assign (p := (.one (.d (.int .i64 ((i : Int) + 1))))) rfl rfl (lt_ok rfl) rfl) ?_
     refine TL.nil ?_
     exact ⟨i + 1, by (refine ⟨by omega, hx2, take_step (d := []) hx2 (by omega) hx3 (by first | assumption | exact Decidable.not_not.1 (by assumption) | omega)⟩), by omega, Env.le_mk ⟨rfl, rfl, by first | rfl | (simp; done) | (congr 3; omega), trivial⟩ trivial trivial⟩
   ·
    replace h2 := of_decide_eq_false h2
    refine T.exit ?_
    refine T.seq ?_
    refine T.region ?_
    refine TL.cons rfl (Step.assign (p := (.one (.d (.bool true)))) rfl rfl (lt_ok rfl) rfl) ?_
    refine TL.nil ?_
    refine T.ret ?_
    exact ⟨[(false, [.d (.bool true)])], (.cons rfl .nil), rfl, [], (RetC.rd' (by (congr 1; symm; first | (apply decide_eq_false; rintro rfl; first | exact absurd rfl ‹¬ _ = _› | exact absurd rfl (of_decide_eq_false (by assumption)) | contradiction | simp_all) | (apply decide_eq_true; exact take_all hx2 (by omega) hx3))) .nil)⟩
theorem ok_laws_eqQc (a : SQc) (b : SQc) : RO Try.prog 20 [.agg a.cells, .agg b.cells] [(false, [.rd (.bool (decide (a = b)))])] := by
 refine RO.intro Try.func20 rfl 33 rfl (le_ok rfl) fun w Z => ?_
 refine T.seq ?_
 refine T.region ?_
 refine TL.cons rfl (Step.box (p := (.agg [.d (.int .i64 a.f0), .d (.int .i64 a.f1), .d (.ints .u8 a.f2), .d (.ints .u8 a.f3), .d (.bss a.f4)])) (ps := [.d (.int .i64 a.f0), .d (.int .i64 a.f1), .d (.ints .u8 a.f2), .d (.ints .u8 a.f3), .d (.bss a.f4)]) rfl rfl (lt_ok rfl) rfl rfl rfl rfl rfl) ?_
 refine TL.cons rfl (Step.box (p := (.agg [.d (.int .i64 b.f0), .d (.int .i64 b.f1), .d (.ints .u8 b.f2), .d (.ints .u8 b.f3), .d (.bss b.f4)])) (ps := [.d (.int .i64 b.f0), .d (.int .i64 b.f1), .d (.ints .u8 b.f2), .d (.ints .u8 b.f3), .d (.bss b.f4)]) rfl rfl (lt_ok rfl) rfl rfl rfl rfl rfl) ?_
 refine TL.cons rfl (Step.assign (p := (.one (.d (.bool false)))) rfl rfl (lt_ok rfl) rfl) ?_
 refine TL.nil ?_
 refine T.seq ?_
 refine T.seq ?_
 refine T.region ?_
 refine TL.cons rfl (Step.fieldAddr (q := 0) (off := 0) (n := 1) (one := true) rfl rfl (lt_ok rfl) (by kernel_rfl) (Nat.succ_ne_zero _) rfl) ?_
 refine TL.cons rfl (Step.load_box (c := .d (.int .i64 a.f0)) rfl rfl (lt_ok rfl) (by kernel_rfl) rfl rfl rfl) ?_
 refine TL.cons rfl (Step.fieldAddr (q := 0) (off := 0) (n := 1) (one := true) rfl rfl (lt_ok rfl) (by kernel_rfl) (Nat.succ_ne_zero _) rfl) ?_
 refine TL.cons rfl (Step.load_box (c := .d (.int .i64 b.f0)) rfl rfl (lt_ok rfl) (by kernel_rfl) rfl rfl rfl) ?_
 refine TL.cons rfl (Step.bin rfl rfl (lt_ok rfl) rfl rfl (Bin.neq (k := .i64) (a := a.f0) (b := b.f0))) ?_
 refine TL.nil ?_
 refine T.cond (b := decide (a.f0 ≠ b.f0)) rfl (fun h1 => ?_) (fun h1 => ?_)
 ·
  replace h1 := of_decide_eq_true h1
  refine T.seq ?_
  refine T.region ?_
  refine TL.cons rfl (Step.assign (p := (.one (.d (.bool false)))) rfl rfl (lt_ok rfl) rfl) ?_
  refine TL.nil ?_
  refine T.ret ?_
  exact ⟨[(false, [.d (.bool false)])], (.cons rfl .nil), rfl, [], (RetC.rd' (by (congr 1; symm; first | (apply decide_eq_false; rintro rfl; first | exact absurd rfl ‹¬ _ = _› | contradiction) | (apply decide_eq_true; apply SQc.ext <;> first | assumption | exact Decidable.not_not.1 (by assumption)))) .nil)⟩
 ·
  replace h1 := of_decide_eq_false h1
  refine T.skip ?_
  refine T.seq ?_
  refine T.seq ?_
  refine T.region ?_
  refine TL.cons rfl (Step.fieldAddr (q := 0) (off := 1) (n := 1) (one := true) rfl rfl (lt_ok rfl) (by kernel_rfl) (Nat.succ_ne_zero _) rfl) ?_
  refine TL.cons rfl (Step.load_box (c := .d (.int .i64 a.f1)) rfl rfl (lt_ok rfl) (by kernel_rfl) rfl rfl rfl) ?_
  refine TL.cons rfl (Step.fieldAddr (q := 0) (off := 1) (n := 1) (one := true) rfl rfl (lt_ok rfl) (by kernel_rfl) (Nat.succ_ne_zero _) rfl) ?_
  refine TL.cons rfl (Step.load_box (c := .d (.int .i64 b.f1)) rfl rfl (lt_ok rfl) (by kernel_rfl) rfl rfl rfl) ?_
  refine TL.cons rfl (Step.bin rfl rfl (lt_ok rfl) rfl rfl (Bin.neq (k := .i64) (a := a.f1) (b := b.f1))) ?_
  refine TL.nil ?_
  refine T.cond (b := decide (a.f1 ≠ b.f1)) rfl (fun h2 => ?_) (fun h2 => ?_)
  ·
   replace h2 := of_decide_eq_true h2
   refine T.seq ?_
   refine T.region ?_
   refine TL.cons rfl (Step.assign (p := (.one (.d (.bool false)))) rfl rfl (lt_ok rfl) rfl) ?_
   refine TL.nil ?_
   refine T.ret ?_
   exact ⟨[(false, [.d (.bool false)])], (.cons rfl .nil), rfl, [], (RetC.rd' (by (congr 1; symm; first | (apply decide_eq_false; rintro rfl; first | exact absurd rfl ‹¬ _ = _› | contradiction) | (apply decide_eq_true; apply SQc.ext <;> first | assumption | exact Decidable.not_not.1 (by assumption)))) .nil)⟩
  ·
   replace h2 := of_decide_eq_false h2
   refine T.skip ?_
   refine T.seq ?_
   refine T.seq ?_
   refine T.region ?_
   refine TL.cons rfl (Step.fieldAddr (q := 0) (off := 2) (n := 1) (one := true) rfl rfl (lt_ok rfl) (by kernel_rfl) (Nat.succ_ne_zero _) rfl) ?_
   refine TL.cons rfl (Step.load_box (c := .d (.ints .u8 a.f2)) rfl rfl (lt_ok rfl) (by kernel_rfl) rfl rfl rfl) ?_
   refine TL.cons rfl (Step.fieldAddr (q := 0) (off := 2) (n := 1) (one := true) rfl rfl (lt_ok rfl) (by kernel_rfl) (Nat.succ_ne_zero _) rfl) ?_
   refine TL.cons rfl (Step.load_box (c := .d (.ints .u8 b.f2)) rfl rfl (lt_ok rfl) (by kernel_rfl) rfl rfl rfl) ?_
   refine TL.cons rfl (Step.call (f := 29) (xs := [.tmp 16, .tmp 18]) (ps := [(.one (.d (.ints .u8 a.f2))), (.one (.d (.ints .u8 b.f2)))]) false (g := .func 29) rfl rfl (lt_ok rfl) rfl (by kernel_rfl) rfl (.cons (.one (.d _)) (.cons (.one (.d _)) .nil)) (ok_laws_eqByteS a.f2 b.f2) (.inr rfl) rfl (by simp) rfl) ?_
   refine TL.cons rfl (Step.not (b := (decide (a.f2 = b.f2))) rfl rfl (lt_ok rfl) rfl) ?_
   refine TL.nil ?_
   refine T.cond (b := !(decide (a.f2 = b.f2))) rfl (fun h3 => ?_) (fun h3 => ?_)
   ·
    replace h3 : (decide (a.f2 = b.f2)) = false := by simpa only [Bool.not_eq_true', Bool.not_eq_false'] using h3
    replace h3 := of_decide_eq_false h3
    refine T.seq ?_
    refine T.region ?_
    refine TL.cons rfl (Step.assign (p := (.one (.d (.bool false)))) rfl rfl (lt_ok rfl) rfl) ?_
    refine TL.nil ?_
    refine T.ret ?_
    exact ⟨[(false, [.d (.bool false)])], (.cons rfl .nil), rfl, [], (RetC.rd' (by (congr 1; symm; first | (apply decide_eq_false; rintro rfl; first | exact absurd rfl ‹¬ _ = _› | contradiction) | (apply decide_eq_true; apply SQc.ext <;> first | assumption | exact Decidable.not_not.1 (by assumption)))) .nil)⟩
   ·
    replace h3 : (decide (a.f2 = b.f2)) = true := by simpa only [Bool.not_eq_true', Bool.not_eq_false'] using h3
    replace h3 := of_decide_eq_true h3
    refine T.skip ?_
    refine T.seq ?_
    refine T.seq ?_
    refine T.region ?_
    refine TL.cons rfl (Step.fieldAddr (q := 0) (off := 3) (n := 1) (one := true) rfl rfl (lt_ok rfl) (by kernel_rfl) (Nat.succ_ne_zero _) rfl) ?_
    refine TL.cons rfl (Step.load_box (c := .d (.ints .u8 a.f3)) rfl rfl (lt_ok rfl) (by kernel_rfl) rfl rfl rfl) ?_
    refine TL.cons rfl (Step.fieldAddr (q := 0) (off := 3) (n := 1) (one := true) rfl rfl (lt_ok rfl) (by kernel_rfl) (Nat.succ_ne_zero _) rfl) ?_
    refine TL.cons rfl (Step.load_box (c := .d (.ints .u8 b.f3)) rfl rfl (lt_ok rfl) (by kernel_rfl) rfl rfl rfl) ?_
    refine TL.cons rfl (Step.call (f := 29) (xs := [.tmp 22, .tmp 24]) (ps := [(.one (.d (.ints .u8 a.f3))), (.one (.d (.ints .u8 b.f3)))]) false (g := .func 29) rfl rfl (lt_ok rfl) rfl (by kernel_rfl) rfl (.cons (.one (.d _)) (.cons (.one (.d _)) .nil)) (ok_laws_eqByteS a.f3 b.f3) (.inr rfl) rfl (by simp) rfl) ?_
    refine TL.cons rfl (Step.not (b := (decide (a.f3 = b.f3))) rfl rfl (lt_ok rfl) rfl) ?_
    refine TL.nil ?_
    refine T.cond (b := !(decide (a.f3 = b.f3))) rfl (fun h4 => ?_) (fun h4 => ?_)
    ·
     replace h4 : (decide (a.f3 = b.f3)) = false := by simpa only [Bool.not_eq_true', Bool.not_eq_false'] using h4
     replace h4 := of_decide_eq_false h4
     refine T.seq ?_
     refine T.region ?_
     refine TL.cons rfl (Step.assign (p := (.one (.d (.bool false)))) rfl rfl (lt_ok rfl) rfl) ?_
     refine TL.nil ?_
     refine T.ret ?_
     exact ⟨[(false, [.d (.bool false)])], (.cons rfl .nil), rfl, [], (RetC.rd' (by (congr 1; symm; first | (apply decide_eq_false; rintro rfl; first | exact absurd rfl ‹¬ _ = _› | contradiction) | (apply decide_eq_true; apply SQc.ext <;> first | assumption | exact Decidable.not_not.1 (by assumption)))) .nil)⟩
    ·
     replace h4 : (decide (a.f3 = b.f3)) = true := by simpa only [Bool.not_eq_true', Bool.not_eq_false'] using h4
     replace h4 := of_decide_eq_true h4
     refine T.skip ?_
     refine T.seq ?_
     refine T.seq ?_
     refine T.region ?_
     refine TL.cons rfl (Step.fieldAddr (q := 0) (off := 4) (n := 1) (one := true) rfl rfl (lt_ok rfl) (by kernel_rfl) (Nat.succ_ne_zero _) rfl) ?_
     refine TL.cons rfl (Step.load_box (c := .d (.bss a.f4)) rfl rfl (lt_ok rfl) (by kernel_rfl) rfl rfl rfl) ?_
     refine TL.cons rfl (Step.fieldAddr (q := 0) (off := 4) (n := 1) (one := true) rfl rfl (lt_ok rfl) (by kernel_rfl) (Nat.succ_ne_zero _) rfl) ?_
     refine TL.cons rfl (Step.load_box (c := .d (.bss b.f4)) rfl rfl (lt_ok rfl) (by kernel_rfl) rfl rfl rfl) ?_
     refine TL.cons rfl (Step.call (f := 84) (xs := [.tmp 28, .tmp 30]) (ps := [(.one (.d (.bss a.f4))), (.one (.d (.bss b.f4)))]) false (g := .func 84) rfl rfl (lt_ok rfl) rfl (by kernel_rfl) rfl (.cons (.one (.d _)) (.cons (.one (.d _)) .nil)) (ok_laws_eqByteSS a.f4 b.f4) (.inr rfl) rfl (by simp) rfl) ?_
     refine TL.cons rfl (Step.not (b := (decide (a.f4 = b.f4))) rfl rfl (lt_ok rfl) rfl) ?_
     refine TL.nil ?_
     refine T.cond (b := !(decide (a.f4 = b.f4))) rfl (fun h5 => ?_) (fun h5 => ?_)
     ·
      replace h5 : (decide (a.f4 = b.f4)) = false := by simpa only [Bool.not_eq_true', Bool.not_eq_false'] using h5
      replace h5 := of_decide_eq_false h5
      refine T.seq ?_
      refine T.region ?_
      refine TL.cons rfl (Step.assign (p := (.one (.d (.bool false)))) rfl rfl (lt_ok rfl) rfl) ?_
      refine TL.nil ?_
      refine T.ret ?_
      exact ⟨[(false, [.d (.bool false)])], (.cons rfl .nil), rfl, [], (RetC.rd' (by (congr 1; symm; first | (apply decide_eq_false; rintro rfl; first | exact absurd rfl ‹¬ _ = _› | contradiction) | (apply decide_eq_true; apply SQc.ext <;> first | assumption | exact Decidable.not_not.1 (by assumption)))) .nil)⟩
     ·
      replace h5 : (decide (a.f4 = b.f4)) = true := by simpa only [Bool.not_eq_true', Bool.not_eq_false'] using h5
      replace h5 := of_decide_eq_true h5
      refine T.skip ?_
      refine T.seq ?_
      refine T.region ?_
      refine TL.cons rfl (Step.assign (p := (.one (.d (.bool true)))) rfl rfl (lt_ok rfl) rfl) ?_
      refine TL.nil ?_
      refine T.ret ?_
      exact ⟨[(false, [.d (.bool true)])], (.cons rfl .nil), rfl, [], (RetC.rd' (by (congr 1; symm; first | (apply decide_eq_false; rintro rfl; first | exact absurd rfl ‹¬ _ = _› | contradiction) | (apply decide_eq_true; apply SQc.ext <;> first | assumption | exact Decidable.not_not.1 (by assumption)))) .nil)⟩
theorem ok_laws_eqEntry (a : SEntry) (b : SEntry) : RO Try.prog 149 [.agg a.cells, .agg b.cells] [(false, [.rd (.bool (decide (a = b)))])] := by
 refine RO.intro Try.func149 rfl 21 rfl (le_ok rfl) fun w Z => ?_
 refine T.seq ?_
 refine T.region ?_
 refine TL.cons rfl (Step.box (p := (.agg [.d (.int .i64 a.f0), .d (.int .i64 a.f1), .d (.ints .u8 a.f2)])) (ps := [.d (.int .i64 a.f0), .d (.int .i64 a.f1), .d (.ints .u8 a.f2)]) rfl rfl (lt_ok rfl) rfl rfl rfl rfl rfl) ?_
 refine TL.cons rfl (Step.box (p := (.agg [.d (.int .i64 b.f0), .d (.int .i64 b.f1), .d (.ints .u8 b.f2)])) (ps := [.d (.int .i64 b.f0), .d (.int .i64 b.f1), .d (.ints .u8 b.f2)]) rfl rfl (lt_ok rfl) rfl rfl rfl rfl rfl) ?_
 refine TL.cons rfl (Step.assign (p := (.one (.d (.bool false)))) rfl rfl (lt_ok rfl) rfl) ?_
 refine TL.nil ?_
 refine T.seq ?_
 refine T.seq ?_
 refine T.region ?_
 refine TL.cons rfl (Step.fieldAddr (q := 0) (off := 0) (n := 1) (one := true) rfl rfl (lt_ok rfl) (by kernel_rfl) (Nat.succ_ne_zero _) rfl) ?_
 refine TL.cons rfl (Step.load_box (c := .d (.int .i64 a.f0)) rfl rfl (lt_ok rfl) (by kernel_rfl) rfl rfl rfl) ?_
 refine TL.cons rfl (Step.fieldAddr (q := 0) (off := 0) (n := 1) (one := true) rfl rfl (lt_ok rfl) (by kernel_rfl) (Nat.succ_ne_zero _) rfl) ?_
 refine TL.cons rfl (Step.load_box (c := .d (.int .i64 b.f0)) rfl rfl (lt_ok rfl) (by kernel_rfl) rfl rfl rfl) ?_
 refine TL.cons rfl (Step.bin rfl rfl (lt_ok rfl) rfl rfl (Bin.neq (k := .i64) (a := a.f0) (b := b.f0))) ?_
 refine TL.nil ?_
 refine T.cond (b := decide (a.f0 ≠ b.f0)) rfl (fun h1 => ?_) (fun h1 => ?_)
 ·
  replace h1 := of_decide_eq_true h1
  refine T.seq ?_
  refine T.region ?_
  refine TL.cons rfl (Step.assign (p := (.one (.d (.bool false)))) rfl rfl (lt_ok rfl) rfl) ?_
  refine TL.nil ?_
  refine T.ret ?_
  exact ⟨[(false, [.d (.bool false)])], (.cons rfl .nil), rfl, [], (RetC.rd' (by (congr 1; symm; first | (apply decide_eq_false; rintro rfl; first | exact absurd rfl ‹¬ _ = _› | contradiction) | (apply decide_eq_true; apply SEntry.ext <;> first | assumption | exact Decidable.not_not.1 (by assumption)))) .nil)⟩
 ·
  replace h1 := of_decide_eq_false h1
  refine T.skip ?_
  refine T.seq ?_
  refine T.seq ?_
  refine T.region ?_
  refine TL.cons rfl (Step.fieldAddr (q := 0) (off := 1) (n := 1) (one := true) rfl rfl (lt_ok rfl) (by kernel_rfl) (Nat.succ_ne_zero _) rfl) ?_
  refine TL.cons rfl (Step.load_box (c := .d (.int .i64 a.f1)) rfl rfl (lt_ok rfl) (by kernel_rfl) rfl rfl rfl) ?_
  refine TL.cons rfl (Step.fieldAddr (q := 0) (off := 1) (n := 1) (one := true) rfl rfl (lt_ok rfl) (by kernel_rfl) (Nat.succ_ne_zero _) rfl) ?_
  refine TL.cons rfl (Step.load_box (c := .d (.int .i64 b.f1)) rfl rfl (lt_ok rfl) (by kernel_rfl) rfl rfl rfl) ?_
  refine TL.cons rfl (Step.bin rfl rfl (lt_ok rfl) rfl rfl (Bin.neq (k := .i64) (a := a.f1) (b := b.f1))) ?_
  refine TL.nil ?_
  refine T.cond (b := decide (a.f1 ≠ b.f1)) rfl (fun h2 => ?_) (fun h2 => ?_)
  ·
   replace h2 := of_decide_eq_true h2
   refine T.seq ?_
   refine T.region ?_
   refine TL.cons rfl (Step.assign (p := (.one (.d (.bool false)))) rfl rfl (lt_ok rfl) rfl) ?_
   refine TL.nil ?_
   refine T.ret ?_
   exact ⟨[(false, [.d (.bool false)])], (.cons rfl .nil), rfl, [], (RetC.rd' (by (congr 1; symm; first | (apply decide_eq_false; rintro rfl; first | exact absurd rfl ‹¬ _ = _› | contradiction) | (apply decide_eq_true; apply SEntry.ext <;> first | assumption | exact Decidable.not_not.1 (by assumption)))) .nil)⟩
  ·
   replace h2 := of_decide_eq_false h2
   refine T.skip ?_
   refine T.seq ?_
   refine T.seq ?_
   refine T.region ?_
   refine TL.cons rfl (Step.fieldAddr (q := 0) (off := 2) (n := 1) (one := true) rfl rfl (lt_ok rfl) (by kernel_rfl) (Nat.succ_ne_zero _) rfl) ?_
   refine TL.cons rfl (Step.load_box (c := .d (.ints .u8 a.f2)) rfl rfl (lt_ok rfl) (by kernel_rfl) rfl rfl rfl) ?_
   refine TL.cons rfl (Step.fieldAddr (q := 0) (off := 2) (n := 1) (one := true) rfl rfl (lt_ok rfl) (by kernel_rfl) (Nat.succ_ne_zero _) rfl) ?_
   refine TL.cons rfl (Step.load_box (c := .d (.ints .u8 b.f2)) rfl rfl (lt_ok rfl) (by kernel_rfl) rfl rfl rfl) ?_
   refine TL.cons rfl (Step.call (f := 29) (xs := [.tmp 16, .tmp 18]) (ps := [(.one (.d (.ints .u8 a.f2))), (.one (.d (.ints .u8 b.f2)))]) false (g := .func 29) rfl rfl (lt_ok rfl) rfl (by kernel_rfl) rfl (.cons (.one (.d _)) (.cons (.one (.d _)) .nil)) (ok_laws_eqByteS a.f2 b.f2) (.inr rfl) rfl (by simp) rfl) ?_
   refine TL.cons rfl (Step.not (b := (decide (a.f2 = b.f2))) rfl rfl (lt_ok rfl) rfl) ?_
   refine TL.nil ?_
   refine T.cond (b := !(decide (a.f2 = b.f2))) rfl (fun h3 => ?_) (fun h3 => ?_)
   ·
    replace h3 : (decide (a.f2 = b.f2)) = false := by simpa only [Bool.not_eq_true', Bool.not_eq_false'] using h3
    replace h3 := of_decide_eq_false h3
    refine T.seq ?_
    refine T.region ?_
    refine TL.cons rfl (Step.assign (p := (.one (.d (.bool false)))) rfl rfl (lt_ok rfl) rfl) ?_
    refine TL.nil ?_
    refine T.ret ?_
    exact ⟨[(false, [.d (.bool false)])], (.cons rfl .nil), rfl, [], (RetC.rd' (by (congr 1; symm; first | (apply decide_eq_false; rintro rfl; first | exact absurd rfl ‹¬ _ = _› | contradiction) | (apply decide_eq_true; apply SEntry.ext <;> first | assumption | exact Decidable.not_not.1 (by assumption)))) .nil)⟩
   ·
    replace h3 : (decide (a.f2 = b.f2)) = true := by simpa only [Bool.not_eq_true', Bool.not_eq_false'] using h3
    replace h3 := of_decide_eq_true h3
    refine T.skip ?_
    refine T.seq ?_
    refine T.region ?_
    refine TL.cons rfl (Step.assign (p := (.one (.d (.bool true)))) rfl rfl (lt_ok rfl) rfl) ?_
    refine TL.nil ?_
    refine T.ret ?_
    exact ⟨[(false, [.d (.bool true)])], (.cons rfl .nil), rfl, [], (RetC.rd' (by (congr 1; symm; first | (apply decide_eq_false; rintro rfl; first | exact absurd rfl ‹¬ _ = _› | contradiction) | (apply decide_eq_true; apply SEntry.ext <;> first | assumption | exact Decidable.not_not.1 (by assumption)))) .nil)⟩
theorem ok_laws_eqEntryS (a : List SEntry) (b : List SEntry) : RO Try.prog 92 [.one (.sl 3 (a.map SEntry.cells)), .one (.sl 3 (b.map SEntry.cells))] [(false, [.rd (.bool (decide (a = b)))])] := by
 refine RO.intro Try.func92 rfl 27 rfl (le_ok rfl) fun w Z => ?_
 refine T.bnd 0 0 rfl rfl fun hb_0_0 => ?_
 simp only [D.size, List.length_map] at hb_0_0
 refine T.bnd 1 0 rfl rfl fun hb_1_0 => ?_
 simp only [D.size, List.length_map] at hb_1_0
 refine T.seq ?_
 refine T.region ?_
 refine TL.cons rfl (Step.assign (p := (.one (.d (.bool false)))) rfl rfl (lt_ok rfl) rfl) ?_
 refine TL.nil ?_
 refine T.seq ?_
 refine T.seq ?_
 refine T.region ?_
 refine TL.cons rfl (Step.move (p := (.one (.d (.sl 3 (a.map SEntry.cells))))) rfl rfl (lt_ok rfl) rfl) ?_
 refine TL.cons rfl (Step.len' (e := 121) (z := 3) (d := (.sl 3 (a.map SEntry.cells))) (n := a.length) rfl rfl (lt_ok rfl) (by kernel_rfl) rfl rfl (by simp [D.size])) ?_
 refine TL.cons rfl (Step.move (p := (.one (.d (.sl 3 (b.map SEntry.cells))))) rfl rfl (lt_ok rfl) rfl) ?_
 refine TL.cons rfl (Step.len' (e := 121) (z := 3) (d := (.sl 3 (b.map SEntry.cells))) (n := b.length) rfl rfl (lt_ok rfl) (by kernel_rfl) rfl rfl (by simp [D.size])) ?_
 refine TL.cons rfl (Step.bin rfl rfl (lt_ok rfl) rfl rfl (Bin.neq (k := .i64) (a := (a.length : Int)) (b := (b.length : Int)))) ?_
 refine TL.nil ?_
 refine T.cond (b := decide ((a.length : Int) ≠ (b.length : Int))) rfl (fun h1 => ?_) (fun h1 => ?_)
 ·
  replace h1 := of_decide_eq_true h1
  refine T.seq ?_
  refine T.region ?_
  refine TL.cons rfl (Step.assign (p := (.one (.d (.bool false)))) rfl rfl (lt_ok rfl) rfl) ?_
  refine TL.nil ?_
  refine T.ret ?_
  exact ⟨[(false, [.d (.bool false)])], (.cons rfl .nil), rfl, [], (RetC.rd' (by (congr 1; symm; first | (apply decide_eq_false; rintro rfl; first | exact absurd rfl ‹¬ _ = _› | exact absurd rfl (of_decide_eq_false (by assumption)) | contradiction | simp_all) | (apply decide_eq_true; exact take_all hx2 (by omega) hx3))) .nil)⟩
 ·
  replace h1 := of_decide_eq_false h1
  refine T.skip ?_
  refine T.seq ?_
  refine T.seq ?_
  refine T.region ?_
  refine TL.cons rfl (Step.assign (p := (.one (.d (.int .i64 0)))) rfl rfl (lt_ok rfl) rfl) ?_
  refine TL.nil ?_
  refine T.block ?_
  refine T.loop (ι := Nat) (fun x => { tm := [(0, (.one (.d (.sl 3 (a.map SEntry.cells))))), (1, (.one (.d (.sl 3 (b.map SEntry.cells))))), (5, (.one (.d (.int .i64 (x : Int)))))], rows := [], boxes := [] }) (fun x => x ≤ a.length ∧ a.length = b.length ∧ a.take x = b.take x) (fun x => a.length - x) 0 ?_ ?_ ?_
  · exact Env.le_mk ⟨rfl, rfl, by first | rfl | (simp; done) | (congr 3; omega), trivial⟩ trivial trivial
  · (refine ⟨Nat.zero_le _, by omega, by simp⟩)
  ·
   intro i hx
   try dsimp only at hx ⊢
   obtain ⟨hx1, hx2, hx3⟩ := hx
   refine T.seq ?_
   refine T.seq ?_
   refine T.region ?_
   refine TL.cons rfl (Step.move (p := (.one (.d (.int .i64 (i : Int))))) rfl rfl (lt_ok rfl) rfl) ?_
   refine TL.cons rfl (Step.move (p := (.one (.d (.sl 3 (a.map SEntry.cells))))) rfl rfl (lt_ok rfl) rfl) ?_
   refine TL.cons rfl (Step.len' (e := 121) (z := 3) (d := (.sl 3 (a.map SEntry.cells))) (n := a.length) rfl rfl (lt_ok rfl) (by kernel_rfl) rfl rfl (by simp [D.size])) ?_
   refine TL.cons rfl (Step.bin rfl rfl (lt_ok rfl) rfl rfl (Bin.lss (k := .i64) (a := (i : Int)) (b := (a.length : Int)))) ?_
   refine TL.nil ?_
   refine T.cond (b := decide ((i : Int) < (a.length : Int))) rfl (fun h2 => ?_) (fun h2 => ?_)
   ·
    replace h2 := of_decide_eq_true h2
    refine T.skip ?_
    refine T.seq ?_
    refine T.block ?_
    refine T.seq ?_
    refine T.draw [⟨17, (.one (.d (.sl 3 (a.map SEntry.cells)))), []⟩, ⟨18, (.one (.d (.int .i64 (i : Int)))), []⟩, ⟨19, (.one (.eptr (.sl 3 (a.map SEntry.cells)) i 0)), []⟩, ⟨20, (.agg [.d (.int .i64 (a.getD i default).f0), .d (.int .i64 (a.getD i default).f1), .d (.ints .u8 (a.getD i default).f2)]), []⟩, ⟨21, (.one (.d (.sl 3 (b.map SEntry.cells)))), []⟩, ⟨22, (.one (.d (.int .i64 (i : Int)))), []⟩, ⟨23, (.one (.eptr (.sl 3 (b.map SEntry.cells)) i 0)), []⟩, ⟨24, (.agg [.d (.int .i64 (b.getD i default).f0), .d (.int .i64 (b.getD i default).f1), .d (.ints .u8 (b.getD i default).f2)]), []⟩, ⟨25, (.one (.d (.bool (decide ((a.getD i default) = (b.getD i default)))))), []⟩, ⟨26, (.one (.d (.bool (!(decide ((a.getD i default) = (b.getD i default))))))), []⟩] (by kernel_rfl) (by kernel_rfl) ?_ ?_
    ·
     refine .cons (fun E h => by have g0 := h.get 0 (by decide); exact OpStep.plain rfl (Step.move (p := (.one (.d (.sl 3 (a.map SEntry.cells))))) (t := 17) rfl rfl (by exact lt_ok rfl) (show Env.ev E (.tmp 0) = _ from g0.trans rfl))) ?_
     refine .cons (fun E h => by have g5 := h.get 5 (by decide); exact OpStep.plain rfl (Step.move (p := (.one (.d (.int .i64 (i : Int))))) (t := 18) rfl rfl (by exact lt_ok rfl) (show Env.ev E (.tmp 5) = _ from g5.trans rfl))) ?_
     refine .cons (fun E h => by have g17 := h.get 17 (by decide); have g18 := h.get 18 (by decide); exact OpStep.plain rfl (Step.index (e := 121) (z := 3) (i := (i : Int)) (t := 19) rfl rfl (by exact lt_ok rfl) (by kernel_rfl) (show Env.ev E (.tmp 17) = _ from g17.trans rfl) rfl rfl (lt_ok rfl) (show Env.ev E (.tmp 18) = _ from g18.trans rfl) (by first | omega | (simp; omega)) (by simp only [D.size]; first | omega | (simp; omega)))) ?_
     refine .cons (fun E h => by have g19 := h.get 19 (by decide); exact OpStep.plain rfl (Step.load_agg (n := 3) (cs := [.d (.int .i64 (a.getD i default).f0), .d (.int .i64 (a.getD i default).f1), .d (.ints .u8 (a.getD i default).f2)]) (t := 20) rfl rfl (by exact lt_ok rfl) (by kernel_rfl) (show Env.ev E (.tmp 19) = _ from g19.trans rfl) rfl (by simp only [List.range, List.range.loop, List.map_cons, List.map_nil]; rw [cell_map default (by first | omega | (simp; omega)), cell_map default (by first | omega | (simp; omega)), cell_map default (by first | omega | (simp; omega))]; rfl))) ?_
     refine .cons (fun E h => by have g1 := h.get 1 (by decide); exact OpStep.plain rfl (Step.move (p := (.one (.d (.sl 3 (b.map SEntry.cells))))) (t := 21) rfl rfl (by exact lt_ok rfl) (show Env.ev E (.tmp 1) = _ from g1.trans rfl))) ?_
     refine .cons (fun E h => by have g5 := h.get 5 (by decide); exact OpStep.plain rfl (Step.move (p := (.one (.d (.int .i64 (i : Int))))) (t := 22) rfl rfl (by exact lt_ok rfl) (show Env.ev E (.tmp 5) = _ from g5.trans rfl))) ?_
     refine .cons (fun E h => by have g21 := h.get 21 (by decide); have g22 := h.get 22 (by decide); exact OpStep.plain rfl (Step.index (e := 121) (z := 3) (i := (i : Int)) (t := 23) rfl rfl (by exact lt_ok rfl) (by kernel_rfl) (show Env.ev E (.tmp 21) = _ from g21.trans rfl) rfl rfl (lt_ok rfl) (show Env.ev E (.tmp 22) = _ from g22.trans rfl) (by first | omega | (simp; omega)) (by simp only [D.size]; first | omega | (simp; omega)))) ?_
     refine .cons (fun E h => by have g23 := h.get 23 (by decide); exact OpStep.plain rfl (Step.load_agg (n := 3) (cs := [.d (.int .i64 (b.getD i default).f0), .d (.int .i64 (b.getD i default).f1), .d (.ints .u8 (b.getD i default).f2)]) (t := 24) rfl rfl (by exact lt_ok rfl) (by kernel_rfl) (show Env.ev E (.tmp 23) = _ from g23.trans rfl) rfl (by simp only [List.range, List.range.loop, List.map_cons, List.map_nil]; rw [cell_map default (by first | omega | (simp; omega)), cell_map default (by first | omega | (simp; omega)), cell_map default (by first | omega | (simp; omega))]; rfl))) ?_
     refine .cons (fun E h => by have g20 := h.get 20 (by decide); have g24 := h.get 24 (by decide); exact OpStep.plain rfl (Step.call (f := 149) (xs := [.tmp 20, .tmp 24]) (ps := [(.agg [.d (.int .i64 (a.getD i default).f0), .d (.int .i64 (a.getD i default).f1), .d (.ints .u8 (a.getD i default).f2)]), (.agg [.d (.int .i64 (b.getD i default).f0), .d (.int .i64 (b.getD i default).f1), .d (.ints .u8 (b.getD i default).f2)])]) false (g := .func 149) (t := 25) rfl rfl (by exact lt_ok rfl) rfl (by kernel_rfl) (evs_cons (show Env.ev E (.tmp 20) = _ from g20.trans rfl) (evs_cons (show Env.ev E (.tmp 24) = _ from g24.trans rfl) (rfl))) (.cons (.agg (.cons (.d _) (.cons (.d _) (.cons (.d _) .nil)))) (.cons (.agg (.cons (.d _) (.cons (.d _) (.cons (.d _) .nil)))) .nil)) (ok_laws_eqEntry (a.getD i default) (b.getD i default)) (.inr rfl) (At.freshRows h rfl) (by simp) rfl)) ?_
     refine .cons (fun E h => by have g25 := h.get 25 (by decide); exact OpStep.plain rfl (Step.not (b := (decide ((a.getD i default) = (b.getD i default)))) (t := 26) rfl rfl (by exact lt_ok rfl) (show Env.ev E (.tmp 25) = _ from g25.trans rfl))) ?_
     exact .nil _ _
    refine TL.nil ?_
    refine T.cond (b := !(decide ((a.getD i default) = (b.getD i default)))) rfl (fun h3 => ?_) (fun h3 => ?_)
    ·
     replace h3 : (decide ((a.getD i default) = (b.getD i default))) = false := by simpa only [Bool.not_eq_true', Bool.not_eq_false'] using h3
     replace h3 := of_decide_eq_false h3
     refine T.seq ?_
     refine T.region ?_
     refine TL.cons rfl (Step.assign (p := (.one (.d (.bool false)))) rfl rfl (lt_ok rfl) rfl) ?_
     refine TL.nil ?_
     refine T.ret ?_
     exact ⟨[(false, [.d (.bool false)])], (.cons rfl .nil), rfl, [], (RetC.rd' (by (congr 1; symm; first | (apply decide_eq_false; rintro rfl; first | exact absurd rfl ‹¬ _ = _› | exact absurd rfl (of_decide_eq_false (by assumption)) | contradiction | simp_all) | (apply decide_eq_true; exact take_all hx2 (by omega) hx3))) .nil)⟩
    ·
     replace h3 : (decide ((a.getD i default) = (b.getD i default))) = true := by simpa only [Bool.not_eq_true', Bool.not_eq_false'] using h3
     replace h3 := of_decide_eq_true h3
     refine T.skip ?_
     refine T.region ?_
     refine TL.cons rfl (Step.move (p := (.one (.d (.int .i64 (i : Int))))) rfl rfl (lt_ok rfl) rfl) ?_
     refine TL.cons rfl (Step.bin (r := .int .i64 ((i : Int) + 1)) rfl rfl (lt_ok rfl) rfl rfl (Bin.add (a := (i : Int)) (b := 1) (by first | exact wrap_ok (by first | omega | (simp; omega)) (by first | omega | (simp; omega)) | rfl))) ?_
     refine TL.cons rfl (Step.assign (p := (.one (.d (.int .i64 ((i : Int) + 1))))) rfl rfl (lt_ok rfl) rfl) ?_
     refine TL.nil ?_
     exact ⟨i + 1, by (refine ⟨by omega, hx2, take_step (d := default) hx2 (by omega) hx3 (by first | assumption | exact Decidable.not_not.1 (by assumption) | omega)⟩), by omega, Env.le_mk ⟨rfl, rfl, by first | rfl | (simp; done) | (congr 3; omega), trivial⟩ trivial trivial⟩
   ·
    replace h2 := of_decide_eq_false h2
    refine T.exit ?_
    refine T.seq ?_
    refine T.region ?_
    refine TL.cons rfl (Step.assign (p := (.one (.d (.bool true)))) rfl rfl (lt_ok rfl) rfl) ?_
    refine TL.nil ?_
    refine T.ret ?_
    exact ⟨[(false, [.d (.bool true)])], (.cons rfl .nil), rfl, [], (RetC.rd' (by (congr 1; symm; first | (apply decide_eq_false; rintro rfl; first | exact absurd rfl ‹¬ _ = _› | exact absurd rfl (of_decide_eq_false (by assumption)) | contradiction | simp_all) | (apply decide_eq_true; exact take_all hx2 (by omega) hx3))) .nil)⟩
theorem ok_laws_eqTc (a : STc) (b : STc) : RO Try.prog 30 [.agg a.cells, .agg b.cells] [(false, [.rd (.bool (decide (a = b)))])] := by
 refine RO.intro Try.func30 rfl 16 rfl (le_ok rfl) fun w Z => ?_
 refine T.seq ?_
 refine T.region ?_
 refine TL.cons rfl (Step.box (p := (.agg [.d (.int .i64 a.f0), .d (.sl 3 (a.f1.map SEntry.cells))])) (ps := [.d (.int .i64 a.f0), .d (.sl 3 (a.f1.map SEntry.cells))]) rfl rfl (lt_ok rfl) rfl rfl rfl rfl rfl) ?_
 refine TL.cons rfl (Step.box (p := (.agg [.d (.int .i64 b.f0), .d (.sl 3 (b.f1.map SEntry.cells))])) (ps := [.d (.int .i64 b.f0), .d (.sl 3 (b.f1.map SEntry.cells))]) rfl rfl (lt_ok rfl) rfl rfl rfl rfl rfl) ?_
 refine TL.cons rfl (Step.assign (p := (.one (.d (.bool false)))) rfl rfl (lt_ok rfl) rfl) ?_
 refine TL.nil ?_
 refine T.seq ?_
 refine T.seq ?_
 refine T.region ?_
 refine TL.cons rfl (Step.fieldAddr (q := 0) (off := 0) (n := 1) (one := true) rfl rfl (lt_ok rfl) (by kernel_rfl) (Nat.succ_ne_zero _) rfl) ?_
 refine TL.cons rfl (Step.load_box (c := .d (.int .i64 a.f0)) rfl rfl (lt_ok rfl) (by kernel_rfl) rfl rfl rfl) ?_
 refine TL.cons rfl (Step.fieldAddr (q := 0) (off := 0) (n := 1) (one := true) rfl rfl (lt_ok rfl) (by kernel_rfl) (Nat.succ_ne_zero _) rfl) ?_
 refine TL.cons rfl (Step.load_box (c := .d (.int .i64 b.f0)) rfl rfl (lt_ok rfl) (by kernel_rfl) rfl rfl rfl) ?_
 refine TL.cons rfl (Step.bin rfl rfl (lt_ok rfl) rfl rfl (Bin.neq (k := .i64) (a := a.f0) (b := b.f0))) ?_
 refine TL.nil ?_
 refine T.cond (b := decide (a.f0 ≠ b.f0)) rfl (fun h1 => ?_) (fun h1 => ?_)
 ·
  replace h1 := of_decide_eq_true h1
  refine T.seq ?_
  refine T.region ?_
  refine TL.cons rfl (Step.assign (p := (.one (.d (.bool false)))) rfl rfl (lt_ok rfl) rfl) ?_
  refine TL.nil ?_
  refine T.ret ?_
  exact ⟨[(false, [.d (.bool false)])], (.cons rfl .nil), rfl, [], (RetC.rd' (by (congr 1; symm; first | (apply decide_eq_false; rintro rfl; first | exact absurd rfl ‹¬ _ = _› | contradiction) | (apply decide_eq_true; apply STc.ext <;> first | assumption | exact Decidable.not_not.1 (by assumption)))) .nil)⟩
 ·
  replace h1 := of_decide_eq_false h1
  refine T.skip ?_
  refine T.seq ?_
  refine T.seq ?_
  refine T.region ?_
  refine TL.cons rfl (Step.fieldAddr (q := 0) (off := 1) (n := 1) (one := true) rfl rfl (lt_ok rfl) (by kernel_rfl) (Nat.succ_ne_zero _) rfl) ?_
  refine TL.cons rfl (Step.load_box (c := .d (.sl 3 (a.f1.map SEntry.cells))) rfl rfl (lt_ok rfl) (by kernel_rfl) rfl rfl rfl) ?_
  refine TL.cons rfl (Step.fieldAddr (q := 0) (off := 1) (n := 1) (one := true) rfl rfl (lt_ok rfl) (by kernel_rfl) (Nat.succ_ne_zero _) rfl) ?_
  refine TL.cons rfl (Step.load_box (c := .d (.sl 3 (b.f1.map SEntry.cells))) rfl rfl (lt_ok rfl) (by kernel_rfl) rfl rfl rfl) ?_
  refine TL.cons rfl (Step.call (f := 92) (xs := [.tmp 11, .tmp 13]) (ps := [(.one (.d (.sl 3 (a.f1.map SEntry.cells)))), (.one (.d (.sl 3 (b.f1.map SEntry.cells))))]) false (g := .func 92) rfl rfl (lt_ok rfl) rfl (by kernel_rfl) rfl (.cons (.one (.d _)) (.cons (.one (.d _)) .nil)) (ok_laws_eqEntryS a.f1 b.f1) (.inr rfl) rfl (by simp) rfl) ?_
  refine TL.cons rfl (Step.not (b := (decide (a.f1 = b.f1))) rfl rfl (lt_ok rfl) rfl) ?_
  refine TL.nil ?_
  refine T.cond (b := !(decide (a.f1 = b.f1))) rfl (fun h2 => ?_) (fun h2 => ?_)
  ·
   replace h2 : (decide (a.f1 = b.f1)) = false := by simpa only [Bool.not_eq_true', Bool.not_eq_false'] using h2
   replace h2 := of_decide_eq_false h2
   refine T.seq ?_
   refine T.region ?_
   refine TL.cons rfl (Step.assign (p := (.one (.d (.bool false)))) rfl rfl (lt_ok rfl) rfl) ?_
   refine TL.nil ?_
   refine T.ret ?_
   exact ⟨[(false, [.d (.bool false)])], (.cons rfl .nil), rfl, [], (RetC.rd' (by (congr 1; symm; first | (apply decide_eq_false; rintro rfl; first | exact absurd rfl ‹¬ _ = _› | contradiction) | (apply decide_eq_true; apply STc.ext <;> first | assumption | exact Decidable.not_not.1 (by assumption)))) .nil)⟩
  ·
   replace h2 : (decide (a.f1 = b.f1)) = true := by simpa only [Bool.not_eq_true', Bool.not_eq_false'] using h2
   replace h2 := of_decide_eq_true h2
   refine T.skip ?_
   refine T.seq ?_
   refine T.region ?_
   refine TL.cons rfl (Step.assign (p := (.one (.d (.bool true)))) rfl rfl (lt_ok rfl) rfl) ?_
   refine TL.nil ?_
   refine T.ret ?_
   exact ⟨[(false, [.d (.bool true)])], (.cons rfl .nil), rfl, [], (RetC.rd' (by (congr 1; symm; first | (apply decide_eq_false; rintro rfl; first | exact absurd rfl ‹¬ _ = _› | contradiction) | (apply decide_eq_true; apply STc.ext <;> first | assumption | exact Decidable.not_not.1 (by assumption)))) .nil)⟩
theorem ok_laws_eqVote (a : SVote) (b : SVote) : RO Try.prog 44 [.agg a.cells, .agg b.cells] [(false, [.rd (.bool (decide (a = b)))])] := by
 refine RO.intro Try.func44 rfl 32 rfl (le_ok rfl) fun w Z => ?_
 refine T.seq ?_
 refine T.region ?_
 refine TL.cons rfl (Step.box (p := (.agg [.d (.int .i64 a.f0), .d (.int .i64 a.f1), .d (.ints .u8 a.f2), .d (.int .i64 a.f3), .d (.ints .u8 a.f4)])) (ps := [.d (.int .i64 a.f0), .d (.int .i64 a.f1), .d (.ints .u8 a.f2), .d (.int .i64 a.f3), .d (.ints .u8 a.f4)]) rfl rfl (lt_ok rfl) rfl rfl rfl rfl rfl) ?_
 refine TL.cons rfl (Step.box (p := (.agg [.d (.int .i64 b.f0), .d (.int .i64 b.f1), .d (.ints .u8 b.f2), .d (.int .i64 b.f3), .d (.ints .u8 b.f4)])) (ps := [.d (.int .i64 b.f0), .d (.int .i64 b.f1), .d (.ints .u8 b.f2), .d (.int .i64 b.f3), .d (.ints .u8 b.f4)]) rfl rfl (lt_ok rfl) rfl rfl rfl rfl rfl) ?_
 refine TL.cons rfl (Step.assign (p := (.one (.d (.bool false)))) rfl rfl (lt_ok rfl) rfl) ?_
 refine TL.nil ?_
 refine T.seq ?_
 refine T.seq ?_
 refine T.region ?_
 refine TL.cons rfl (Step.fieldAddr (q := 0) (off := 0) (n := 1) (one := true) rfl rfl (lt_ok rfl) (by kernel_rfl) (Nat.succ_ne_zero _) rfl) ?_
 refine TL.cons rfl (Step.load_box (c := .d (.int .i64 a.f0)) rfl rfl (lt_ok rfl) (by kernel_rfl) rfl rfl rfl) ?_
 refine TL.cons rfl (Step.fieldAddr (q := 0) (off := 0) (n := 1) (one := true) rfl rfl (lt_ok rfl) (by kernel_rfl) (Nat.succ_ne_zero _) rfl) ?_
 refine TL.cons rfl (Step.load_box (c := .d (.int .i64 b.f0)) rfl rfl (lt_ok rfl) (by kernel_rfl) rfl rfl rfl) ?_
 refine TL.cons rfl (Step.bin rfl rfl (lt_ok rfl) rfl rfl (Bin.neq (k := .i64) (a := a.f0) (b := b.f0))) ?_
 refine TL.nil ?_
 refine T.cond (b := decide (a.f0 ≠ b.f0)) rfl (fun h1 => ?_) (fun h1 => ?_)
 ·
  replace h1 := of_decide_eq_true h1
  refine T.seq ?_
  refine T.region ?_
  refine TL.cons rfl (Step.assign (p := (.one (.d (.bool false)))) rfl rfl (lt_ok rfl) rfl) ?_
  refine TL.nil ?_
  refine T.ret ?_
  exact ⟨[(false, [.d (.bool false)])], (.cons rfl .nil), rfl, [], (RetC.rd' (by (congr 1; symm; first | (apply decide_eq_false; rintro rfl; first | exact absurd rfl ‹¬ _ = _› | contradiction) | (apply decide_eq_true; apply SVote.ext <;> first | assumption | exact Decidable.not_not.1 (by assumption)))) .nil)⟩
 ·
  replace h1 := of_decide_eq_false h1
  refine T.skip ?_
  refine T.seq ?_
  refine T.seq ?_
  refine T.region ?_
  refine TL.cons rfl (Step.fieldAddr (q := 0) (off := 1) (n := 1) (one := true) rfl rfl (lt_ok rfl) (by kernel_rfl) (Nat.succ_ne_zero _) rfl) ?_
  refine TL.cons rfl (Step.load_box (c := .d (.int .i64 a.f1)) rfl rfl (lt_ok rfl) (by kernel_rfl) rfl rfl rfl) ?_
  refine TL.cons rfl (Step.fieldAddr (q := 0) (off := 1) (n := 1) (one := true) rfl rfl (lt_ok rfl) (by kernel_rfl) (Nat.succ_ne_zero _) rfl) ?_
  refine TL.cons rfl (Step.load_box (c := .d (.int .i64 b.f1)) rfl rfl (lt_ok rfl) (by kernel_rfl) rfl rfl rfl) ?_
  refine TL.cons rfl (Step.bin rfl rfl (lt_ok rfl) rfl rfl (Bin.neq (k := .i64) (a := a.f1) (b := b.f1))) ?_
  refine TL.nil ?_
  refine T.cond (b := decide (a.f1 ≠ b.f1)) rfl (fun h2 => ?_) (fun h2 => ?_)
  ·
   replace h2 := of_decide_eq_true h2
   refine T.seq ?_
   refine T.region ?_
   refine TL.cons rfl (Step.assign (p := (.one (.d (.bool false)))) rfl rfl (lt_ok rfl) rfl) ?_
   refine TL.nil ?_
   refine T.ret ?_
   exact ⟨[(false, [.d (.bool false)])], (.cons rfl .nil), rfl, [], (RetC.rd' (by (congr 1; symm; first | (apply decide_eq_false; rintro rfl; first | exact absurd rfl ‹¬ _ = _› | contradiction) | (apply decide_eq_true; apply SVote.ext <;> first | assumption | exact Decidable.not_not.1 (by assumption)))) .nil)⟩
  ·
   replace h2 := of_decide_eq_false h2
   refine T.skip ?_
   refine T.seq ?_
   refine T.seq ?_
   refine T.region ?_
   refine TL.cons rfl (Step.fieldAddr (q := 0) (off := 2) (n := 1) (one := true) rfl rfl (lt_ok rfl) (by kernel_rfl) (Nat.succ_ne_zero _) rfl) ?_
   refine TL.cons rfl (Step.load_box (c := .d (.ints .u8 a.f2)) rfl rfl (lt_ok rfl) (by kernel_rfl) rfl rfl rfl) ?_
   refine TL.cons rfl (Step.fieldAddr (q := 0) (off := 2) (n := 1) (one := true) rfl rfl (lt_ok rfl) (by kernel_rfl) (Nat.succ_ne_zero _) rfl) ?_
   refine TL.cons rfl (Step.load_box (c := .d (.ints .u8 b.f2)) rfl rfl (lt_ok rfl) (by kernel_rfl) rfl rfl rfl) ?_
   refine TL.cons rfl (Step.call (f := 29) (xs := [.tmp 16, .tmp 18]) (ps := [(.one (.d (.ints .u8 a.f2))), (.one (.d (.ints .u8 b.f2)))]) false (g := .func 29) rfl rfl (lt_ok rfl) rfl (by kernel_rfl) rfl (.cons (.one (.d _)) (.cons (.one (.d _)) .nil)) (ok_laws_eqByteS a.f2 b.f2) (.inr rfl) rfl (by simp) rfl) ?_
   refine TL.cons rfl (Step.not (b := (decide (a.f2 = b.f2))) rfl rfl (lt_ok rfl) rfl) ?_
   refine TL.nil ?_
   refine T.cond (b := !(decide (a.f2 = b.f2))) rfl (fun h3 => ?_) (fun h3 => ?_)
   ·
    replace h3 : (decide (a.f2 = b.f2)) = false := by simpa only [Bool.not_eq_true', Bool.not_eq_false'] using h3
    replace h3 := of_decide_eq_false h3
    refine T.seq ?_
    refine T.region ?_
    refine TL.cons rfl (Step.assign (p := (.one (.d (.bool false)))) rfl rfl (lt_ok rfl) rfl) ?_
    refine TL.nil ?_
    refine T.ret ?_
    exact ⟨[(false, [.d (.bool false)])], (.cons rfl .nil), rfl, [], (RetC.rd' (by (congr 1; symm; first | (apply decide_eq_false; rintro rfl; first | exact absurd rfl ‹¬ _ = _› | contradiction) | (apply decide_eq_true; apply SVote.ext <;> first | assumption | exact Decidable.not_not.1 (by assumption)))) .nil)⟩
   ·
    replace h3 : (decide (a.f2 = b.f2)) = true := by simpa only [Bool.not_eq_true', Bool.not_eq_false'] using h3
    replace h3 := of_decide_eq_true h3
    refine T.skip ?_
    refine T.seq ?_
    refine T.seq ?_
    refine T.region ?_
    refine TL.cons rfl (Step.fieldAddr (q := 0) (off := 3) (n := 1) (one := true) rfl rfl (lt_ok rfl) (by kernel_rfl) (Nat.succ_ne_zero _) rfl) ?_
    refine TL.cons rfl (Step.load_box (c := .d (.int .i64 a.f3)) rfl rfl (lt_ok rfl) (by kernel_rfl) rfl rfl rfl) ?_
    refine TL.cons rfl (Step.fieldAddr (q := 0) (off := 3) (n := 1) (one := true) rfl rfl (lt_ok rfl) (by kernel_rfl) (Nat.succ_ne_zero _) rfl) ?_
    refine TL.cons rfl (Step.load_box (c := .d (.int .i64 b.f3)) rfl rfl (lt_ok rfl) (by kernel_rfl) rfl rfl rfl) ?_
    refine TL.cons rfl (Step.bin rfl rfl (lt_ok rfl) rfl rfl (Bin.neq (k := .i64) (a := a.f3) (b := b.f3))) ?_
    refine TL.nil ?_
    refine T.cond (b := decide (a.f3 ≠ b.f3)) rfl (fun h4 => ?_) (fun h4 => ?_)
    ·
     replace h4 := of_decide_eq_true h4
     refine T.seq ?_
     refine T.region ?_
     refine TL.cons rfl (Step.assign (p := (.one (.d (.bool false)))) rfl rfl (lt_ok rfl) rfl) ?_
     refine TL.nil ?_
     refine T.ret ?_
     exact ⟨[(false, [.d (.bool false)])], (.cons rfl .nil), rfl, [], (RetC.rd' (by (congr 1; symm; first | (apply decide_eq_false; rintro rfl; first | exact absurd rfl ‹¬ _ = _› | contradiction) | (apply decide_eq_true; apply SVote.ext <;> first | assumption | exact Decidable.not_not.1 (by assumption)))) .nil)⟩
    ·
     replace h4 := of_decide_eq_false h4
     refine T.skip ?_
     refine T.seq ?_
     refine T.seq ?_
     refine T.region ?_
     refine TL.cons rfl (Step.fieldAddr (q := 0) (off := 4) (n := 1) (one := true) rfl rfl (lt_ok rfl) (by kernel_rfl) (Nat.succ_ne_zero _) rfl) ?_
     refine TL.cons rfl (Step.load_box (c := .d (.ints .u8 a.f4)) rfl rfl (lt_ok rfl) (by kernel_rfl) rfl rfl rfl) ?_
     refine TL.cons rfl (Step.fieldAddr (q := 0) (off := 4) (n := 1) (one := true) rfl rfl (lt_ok rfl) (by kernel_rfl) (Nat.succ_ne_zero _) rfl) ?_
     refine TL.cons rfl (Step.load_box (c := .d (.ints .u8 b.f4)) rfl rfl (lt_ok rfl) (by kernel_rfl) rfl rfl rfl) ?_
     refine TL.cons rfl (Step.call (f := 29) (xs := [.tmp 27, .tmp 29]) (ps := [(.one (.d (.ints .u8 a.f4))), (.one (.d (.ints .u8 b.f4)))]) false (g := .func 29) rfl rfl (lt_ok rfl) rfl (by kernel_rfl) rfl (.cons (.one (.d _)) (.cons (.one (.d _)) .nil)) (ok_laws_eqByteS a.f4 b.f4) (.inr rfl) rfl (by simp) rfl) ?_
     refine TL.cons rfl (Step.not (b := (decide (a.f4 = b.f4))) rfl rfl (lt_ok rfl) rfl) ?_
     refine TL.nil ?_
     refine T.cond (b := !(decide (a.f4 = b.f4))) rfl (fun h5 => ?_) (fun h5 => ?_)
     ·
      replace h5 : (decide (a.f4 = b.f4)) = false := by simpa only [Bool.not_eq_true', Bool.not_eq_false'] using h5
      replace h5 := of_decide_eq_false h5
      refine T.seq ?_
      refine T.region ?_
      refine TL.cons rfl (Step.assign (p := (.one (.d (.bool false)))) rfl rfl (lt_ok rfl) rfl) ?_
      refine TL.nil ?_
      refine T.ret ?_
      exact ⟨[(false, [.d (.bool false)])], (.cons rfl .nil), rfl, [], (RetC.rd' (by (congr 1; symm; first | (apply decide_eq_false; rintro rfl; first | exact absurd rfl ‹¬ _ = _› | contradiction) | (apply decide_eq_true; apply SVote.ext <;> first | assumption | exact Decidable.not_not.1 (by assumption)))) .nil)⟩
     ·
      replace h5 : (decide (a.f4 = b.f4)) = true := by simpa only [Bool.not_eq_true', Bool.not_eq_false'] using h5
      replace h5 := of_decide_eq_true h5
      refine T.skip ?_
      refine T.seq ?_
      refine T.region ?_
      refine TL.cons rfl (Step.assign (p := (.one (.d (.bool true)))) rfl rfl (lt_ok rfl) rfl) ?_
      refine TL.nil ?_
      refine T.ret ?_
      exact ⟨[(false, [.d (.bool true)])], (.cons rfl .nil), rfl, [], (RetC.rd' (by (congr 1; symm; first | (apply decide_eq_false; rintro rfl; first | exact absurd rfl ‹¬ _ = _› | contradiction) | (apply decide_eq_true; apply SVote.ext <;> first | assumption | exact Decidable.not_not.1 (by assumption)))) .nil)⟩
theorem ok_laws_eqIncl (a : SIncl) (b : SIncl) : RO Try.prog 57 [.agg a.cells, .agg b.cells] [(false, [.rd (.bool (decide (a = b)))])] := by
 refine RO.intro Try.func57 rfl 32 rfl (le_ok rfl) fun w Z => ?_
 refine T.seq ?_
 refine T.region ?_
 refine TL.cons rfl (Step.box (p := (.agg [.d (.int .i64 a.f0), .d (.int .i64 a.f1), .d (.int .i64 a.f2), .d (.ints .u8 a.f3), .d (.bss a.f4)])) (ps := [.d (.int .i64 a.f0), .d (.int .i64 a.f1), .d (.int .i64 a.f2), .d (.ints .u8 a.f3), .d (.bss a.f4)]) rfl rfl (lt_ok rfl) rfl rfl rfl rfl rfl) ?_
 refine TL.cons rfl (Step.box (p := (.agg [.d (.int .i64 b.f0), .d (.int .i64 b.f1), .d (.int .i64 b.f2), .d (.ints .u8 b.f3), .d (.bss b.f4)])) (ps := [.d (.int .i64 b.f0), .d (.int .i64 b.f1), .d (.int .i64 b.f2), .d (.ints .u8 b.f3), .d (.bss b.f4)]) rfl rfl (lt_ok rfl) rfl rfl rfl rfl rfl) ?_
 refine TL.cons rfl (Step.assign (p := (.one (.d (.bool false)))) rfl rfl (lt_ok rfl) rfl) ?_
 refine TL.nil ?_
 refine T.seq ?_
 refine T.seq ?_
 refine T.region ?_
 refine TL.cons rfl (Step.fieldAddr (q := 0) (off := 0) (n := 1) (one := true) rfl rfl (lt_ok rfl) (by kernel_rfl) (Nat.succ_ne_zero _) rfl) ?_
 refine TL.cons rfl (Step.load_box (c := .d (.int .i64 a.f0)) rfl rfl (lt_ok rfl) (by kernel_rfl) rfl rfl rfl) ?_
 refine TL.cons rfl (Step.fieldAddr (q := 0) (off := 0) (n := 1) (one := true) rfl rfl (lt_ok rfl) (by kernel_rfl) (Nat.succ_ne_zero _) rfl) ?_
 refine TL.cons rfl (Step.load_box (c := .d (.int .i64 b.f0)) rfl rfl (lt_ok rfl) (by kernel_rfl) rfl rfl rfl) ?_
 refine TL.cons rfl (Step.bin rfl rfl (lt_ok rfl) rfl rfl (Bin.neq (k := .i64) (a := a.f0) (b := b.f0))) ?_
 refine TL.nil ?_
 refine T.cond (b := decide (a.f0 ≠ b.f0)) rfl (fun h1 => ?_) (fun h1 => ?_)
 ·
  replace h1 := of_decide_eq_true h1
  refine T.seq ?_
  refine T.region ?_
  refine TL.cons rfl (Step.assign (p := (.one (.d (.bool false)))) rfl rfl (lt_ok rfl) rfl) ?_
  refine TL.nil ?_
  refine T.ret ?_
  exact ⟨[(false, [.d (.bool false)])], (.cons rfl .nil), rfl, [], (RetC.rd' (by (congr 1; symm; first | (apply decide_eq_false; rintro rfl; first | exact absurd rfl ‹¬ _ = _› | contradiction) | (apply decide_eq_true; apply SIncl.ext <;> first | assumption | exact Decidable.not_not.1 (by assumption)))) .nil)⟩
 ·
  replace h1 := of_decide_eq_false h1
  refine T.skip ?_
  refine T.seq ?_
  refine T.seq ?_
  refine T.region ?_
  refine TL.cons rfl (Step.fieldAddr (q := 0) (off := 1) (n := 1) (one := true) rfl rfl (lt_ok rfl) (by kernel_rfl) (Nat.succ_ne_zero _) rfl) ?_
  refine TL.cons rfl (Step.load_box (c := .d (.int .i64 a.f1)) rfl rfl (lt_ok rfl) (by kernel_rfl) rfl rfl rfl) ?_
  refine TL.cons rfl (Step.fieldAddr (q := 0) (off := 1) (n := 1) (one := true) rfl rfl (lt_ok rfl) (by kernel_rfl) (Nat.succ_ne_zero _) rfl) ?_
  refine TL.cons rfl (Step.load_box (c := .d (.int .i64 b.f1)) rfl rfl (lt_ok rfl) (by kernel_rfl) rfl rfl rfl) ?_
  refine TL.cons rfl (Step.bin rfl rfl (lt_ok rfl) rfl rfl (Bin.neq (k := .i64) (a := a.f1) (b := b.f1))) ?_
  refine TL.nil ?_
  refine T.cond (b := decide (a.f1 ≠ b.f1)) rfl (fun h2 => ?_) (fun h2 => ?_)
  ·
   replace h2 := of_decide_eq_true h2
   refine T.seq ?_
   refine T.region ?_
   refine TL.cons rfl (Step.assign (p := (.one (.d (.bool false)))) rfl rfl (lt_ok rfl) rfl) ?_
   refine TL.nil ?_
   refine T.ret ?_
   exact ⟨[(false, [.d (.bool false)])], (.cons rfl .nil), rfl, [], (RetC.rd' (by (congr 1; symm; first | (apply decide_eq_false; rintro rfl; first | exact absurd rfl ‹¬ _ = _› | contradiction) | (apply decide_eq_true; apply SIncl.ext <;> first | assumption | exact Decidable.not_not.1 (by assumption)))) .nil)⟩
  ·
   replace h2 := of_decide_eq_false h2
   refine T.skip ?_
   refine T.seq ?_
   refine T.seq ?_
   refine T.region ?_
   refine TL.cons rfl (Step.fieldAddr (q := 0) (off := 2) (n := 1) (one := true) rfl rfl (lt_ok rfl) (by kernel_rfl) (Nat.succ_ne_zero _) rfl) ?_
   refine TL.cons rfl (Step.load_box (c := .d (.int .i64 a.f2)) rfl rfl (lt_ok rfl) (by kernel_rfl) rfl rfl rfl) ?_
   refine TL.cons rfl (Step.fieldAddr (q := 0) (off := 2) (n := 1) (one := true) rfl rfl (lt_ok rfl) (by kernel_rfl) (Nat.succ_ne_zero _) rfl) ?_
   refine TL.cons rfl (Step.load_box (c := .d (.int .i64 b.f2)) rfl rfl (lt_ok rfl) (by kernel_rfl) rfl rfl rfl) ?_
   refine TL.cons rfl (Step.bin rfl rfl (lt_ok rfl) rfl rfl (Bin.neq (k := .i64) (a := a.f2) (b := b.f2))) ?_
   refine TL.nil ?_
   refine T.cond (b := decide (a.f2 ≠ b.f2)) rfl (fun h3 => ?_) (fun h3 => ?_)
   ·
    replace h3 := of_decide_eq_true h3
    refine T.seq ?_
    refine T.region ?_
    refine TL.cons rfl (Step.assign (p := (.one (.d (.bool false)))) rfl rfl (lt_ok rfl) rfl) ?_
    refine TL.nil ?_
    refine T.ret ?_
    exact ⟨[(false, [.d (.bool false)])], (.cons rfl .nil), rfl, [], (RetC.rd' (by (congr 1; symm; first | (apply decide_eq_false; rintro rfl; first | exact absurd rfl ‹¬ _ = _› | contradiction) | (apply decide_eq_true; apply SIncl.ext <;> first | assumption | exact Decidable.not_not.1 (by assumption)))) .nil)⟩
   ·
    replace h3 := of_decide_eq_false h3
    refine T.skip ?_
    refine T.seq ?_
    refine T.seq ?_
    refine T.region ?_
    refine TL.cons rfl (Step.fieldAddr (q := 0) (off := 3) (n := 1) (one := true) rfl rfl (lt_ok rfl) (by kernel_rfl) (Nat.succ_ne_zero _) rfl) ?_
    refine TL.cons rfl (Step.load_box (c := .d (.ints .u8 a.f3)) rfl rfl (lt_ok rfl) (by kernel_rfl) rfl rfl rfl) ?_
    refine TL.cons rfl (Step.fieldAddr (q := 0) (off := 3) (n := 1) (one := true) rfl rfl (lt_ok rfl) (by kernel_rfl) (Nat.succ_ne_zero _) rfl) ?_
    refine TL.cons rfl (Step.load_box (c := .d (.ints .u8 b.f3)) rfl rfl (lt_ok rfl) (by kernel_rfl) rfl rfl rfl) ?_
    refine TL.cons rfl (Step.call (f := 29) (xs := [.tmp 21, .tmp 23]) (ps := [(.one (.d (.ints .u8 a.f3))), (.one (.d (.ints .u8 b.f3)))]) false (g := .func 29) rfl rfl (lt_ok rfl) rfl (by kernel_rfl) rfl (.cons (.one (.d _)) (.cons (.one (.d _)) .nil)) (ok_laws_eqByteS a.f3 b.f3) (.inr rfl) rfl (by simp) rfl) ?_
    refine TL.cons rfl (Step.not (b := (decide (a.f3 = b.f3))) rfl rfl (lt_ok rfl) rfl) ?_
    refine TL.nil ?_
    refine T.cond (b := !(decide (a.f3 = b.f3))) rfl (fun h4 => ?_) (fun h4 => ?_)
    ·
     replace h4 : (decide (a.f3 = b.f3)) = false := by simpa only [Bool.not_eq_true', Bool.not_eq_false'] using h4
     replace h4 := of_decide_eq_false h4
     refine T.seq ?_
     refine T.region ?_
     refine TL.cons rfl (Step.assign (p := (.one (.d (.bool false)))) rfl rfl (lt_ok rfl) rfl) ?_
     refine TL.nil ?_
     refine T.ret ?_
     exact ⟨[(false, [.d (.bool false)])], (.cons rfl .nil), rfl, [], (RetC.rd' (by (congr 1; symm; first | (apply decide_eq_false; rintro rfl; first | exact absurd rfl ‹¬ _ = _› | contradiction) | (apply decide_eq_true; apply SIncl.ext <;> first | assumption | exact Decidable.not_not.1 (by assumption)))) .nil)⟩
    ·
     replace h4 : (decide (a.f3 = b.f3)) = true := by simpa only [Bool.not_eq_true', Bool.not_eq_false'] using h4
     replace h4 := of_decide_eq_true h4
     refine T.skip ?_
     refine T.seq ?_
     refine T.seq ?_
     refine T.region ?_
     refine TL.cons rfl (Step.fieldAddr (q := 0) (off := 4) (n := 1) (one := true) rfl rfl (lt_ok rfl) (by kernel_rfl) (Nat.succ_ne_zero _) rfl) ?_
     refine TL.cons rfl (Step.load_box (c := .d (.bss a.f4)) rfl rfl (lt_ok rfl) (by kernel_rfl) rfl rfl rfl) ?_
     refine TL.cons rfl (Step.fieldAddr (q := 0) (off := 4) (n := 1) (one := true) rfl rfl (lt_ok rfl) (by kernel_rfl) (Nat.succ_ne_zero _) rfl) ?_
     refine TL.cons rfl (Step.load_box (c := .d (.bss b.f4)) rfl rfl (lt_ok rfl) (by kernel_rfl) rfl rfl rfl) ?_
     refine TL.cons rfl (Step.call (f := 84) (xs := [.tmp 27, .tmp 29]) (ps := [(.one (.d (.bss a.f4))), (.one (.d (.bss b.f4)))]) false (g := .func 84) rfl rfl (lt_ok rfl) rfl (by kernel_rfl) rfl (.cons (.one (.d _)) (.cons (.one (.d _)) .nil)) (ok_laws_eqByteSS a.f4 b.f4) (.inr rfl) rfl (by simp) rfl) ?_
     refine TL.cons rfl (Step.not (b := (decide (a.f4 = b.f4))) rfl rfl (lt_ok rfl) rfl) ?_
     refine TL.nil ?_
     refine T.cond (b := !(decide (a.f4 = b.f4))) rfl (fun h5 => ?_) (fun h5 => ?_)
     ·
      replace h5 : (decide (a.f4 = b.f4)) = false := by simpa only [Bool.not_eq_true', Bool.not_eq_false'] using h5
      replace h5 := of_decide_eq_false h5
      refine T.seq ?_
      refine T.region ?_
      refine TL.cons rfl (Step.assign (p := (.one (.d (.bool false)))) rfl rfl (lt_ok rfl) rfl) ?_
      refine TL.nil ?_
      refine T.ret ?_
      exact ⟨[(false, [.d (.bool false)])], (.cons rfl .nil), rfl, [], (RetC.rd' (by (congr 1; symm; first | (apply decide_eq_false; rintro rfl; first | exact absurd rfl ‹¬ _ = _› | contradiction) | (apply decide_eq_true; apply SIncl.ext <;> first | assumption | exact Decidable.not_not.1 (by assumption)))) .nil)⟩
     ·
      replace h5 : (decide (a.f4 = b.f4)) = true := by simpa only [Bool.not_eq_true', Bool.not_eq_false'] using h5
      replace h5 := of_decide_eq_true h5
      refine T.skip ?_
      refine T.seq ?_
      refine T.region ?_
      refine TL.cons rfl (Step.assign (p := (.one (.d (.bool true)))) rfl rfl (lt_ok rfl) rfl) ?_
      refine TL.nil ?_
      refine T.ret ?_
      exact ⟨[(false, [.d (.bool true)])], (.cons rfl .nil), rfl, [], (RetC.rd' (by (congr 1; symm; first | (apply decide_eq_false; rintro rfl; first | exact absurd rfl ‹¬ _ = _› | contradiction) | (apply decide_eq_true; apply SIncl.ext <;> first | assumption | exact Decidable.not_not.1 (by assumption)))) .nil)⟩
theorem ok_laws_eqHead (a : SHead) (b : SHead) : RO Try.prog 65 [.agg a.cells, .agg b.cells] [(false, [.rd (.bool (decide (a = b)))])] := by
 refine RO.intro Try.func65 rfl 38 rfl (le_ok rfl) fun w Z => ?_
 refine T.seq ?_
 refine T.region ?_
 refine TL.cons rfl (Step.box (p := (.agg [.d (.int .i64 a.f0), .d (.int .i64 a.f1), .d (.int .i64 a.f2), .d (.ints .u8 a.f3), .d (.ints .u8 a.f4), .d (.int .i64 a.f5.f0), .d (.int .i64 a.f5.f1), .d (.ints .u8 a.f5.f2), .d (.ints .u8 a.f5.f3), .d (.bss a.f5.f4)])) (ps := [.d (.int .i64 a.f0), .d (.int .i64 a.f1), .d (.int .i64 a.f2), .d (.ints .u8 a.f3), .d (.ints .u8 a.f4), .d (.int .i64 a.f5.f0), .d (.int .i64 a.f5.f1), .d (.ints .u8 a.f5.f2), .d (.ints .u8 a.f5.f3), .d (.bss a.f5.f4)]) rfl rfl (lt_ok rfl) rfl rfl rfl rfl rfl) ?_
 refine TL.cons rfl (Step.box (p := (.agg [.d (.int .i64 b.f0), .d (.int .i64 b.f1), .d (.int .i64 b.f2), .d (.ints .u8 b.f3), .d (.ints .u8 b.f4), .d (.int .i64 b.f5.f0), .d (.int .i64 b.f5.f1), .d (.ints .u8 b.f5.f2), .d (.ints .u8 b.f5.f3), .d (.bss b.f5.f4)])) (ps := [.d (.int .i64 b.f0), .d (.int .i64 b.f1), .d (.int .i64 b.f2), .d (.ints .u8 b.f3), .d (.ints .u8 b.f4), .d (.int .i64 b.f5.f0), .d (.int .i64 b.f5.f1), .d (.ints .u8 b.f5.f2), .d (.ints .u8 b.f5.f3), .d (.bss b.f5.f4)]) rfl rfl (lt_ok rfl) rfl rfl rfl rfl rfl) ?_
 refine TL.cons rfl (Step.assign (p := (.one (.d (.bool false)))) rfl rfl (lt_ok rfl) rfl) ?_
 refine TL.nil ?_
 refine T.seq ?_
 refine T.seq ?_
 refine T.region ?_
 refine TL.cons rfl (Step.fieldAddr (q := 0) (off := 0) (n := 1) (one := true) rfl rfl (lt_ok rfl) (by kernel_rfl) (Nat.succ_ne_zero _) rfl) ?_
 refine TL.cons rfl (Step.load_box (c := .d (.int .i64 a.f0)) rfl rfl (lt_ok rfl) (by kernel_rfl) rfl rfl rfl) ?_
 refine TL.cons rfl (Step.fieldAddr (q := 0) (off := 0) (n := 1) (one := true) rfl rfl (lt_ok rfl) (by kernel_rfl) (Nat.succ_ne_zero _) rfl) ?_
 refine TL.cons rfl (Step.load_box (c := .d (.int .i64 b.f0)) rfl rfl (lt_ok rfl) (by kernel_rfl) rfl rfl rfl) ?_
 refine TL.cons rfl (Step.bin rfl rfl (lt_ok rfl) rfl rfl (Bin.neq (k := .i64) (a := a.f0) (b := b.f0))) ?_
 refine TL.nil ?_
 refine T.cond (b := decide (a.f0 ≠ b.f0)) rfl (fun h1 => ?_) (fun h1 => ?_)
 ·
  replace h1 := of_decide_eq_true h1
  refine T.seq ?_
  refine T.region ?_
  refine TL.cons rfl (Step.assign (p := (.one (.d (.bool false)))) rfl rfl (lt_ok rfl) rfl) ?_
  refine TL.nil ?_
  refine T.ret ?_
  exact ⟨[(false, [.d (.bool false)])], (.cons rfl .nil), rfl, [], (RetC.rd' (by (congr 1; symm; first | (apply decide_eq_false; rintro rfl; first | exact absurd rfl ‹¬ _ = _› | contradiction) | (apply decide_eq_true; apply SHead.ext <;> first | assumption | exact Decidable.not_not.1 (by assumption)))) .nil)⟩
 ·
  replace h1 := of_decide_eq_false h1
  refine T.skip ?_
  refine T.seq ?_
  refine T.seq ?_
  refine T.region ?_
  refine TL.cons rfl (Step.fieldAddr (q := 0) (off := 1) (n := 1) (one := true) rfl rfl (lt_ok rfl) (by kernel_rfl) (Nat.succ_ne_zero _) rfl) ?_
  refine TL.cons rfl (Step.load_box (c := .d (.int .i64 a.f1)) rfl rfl (lt_ok rfl) (by kernel_rfl) rfl rfl rfl) ?_
  refine TL.cons rfl (Step.fieldAddr (q := 0) (off := 1) (n := 1) (one := true) rfl rfl (lt_ok rfl) (by kernel_rfl) (Nat.succ_ne_zero _) rfl) ?_
  refine TL.cons rfl (Step.load_box (c := .d (.int .i64 b.f1)) rfl rfl (lt_ok rfl) (by kernel_rfl) rfl rfl rfl) ?_
  refine TL.cons rfl (Step.bin rfl rfl (lt_ok rfl) rfl rfl (Bin.neq (k := .i64) (a := a.f1) (b := b.f1))) ?_
  refine TL.nil ?_
  refine T.cond (b := decide (a.f1 ≠ b.f1)) rfl (fun h2 => ?_) (fun h2 => ?_)
  ·
   replace h2 := of_decide_eq_true h2
   refine T.seq ?_
   refine T.region ?_
   refine TL.cons rfl (Step.assign (p := (.one (.d (.bool false)))) rfl rfl (lt_ok rfl) rfl) ?_
   refine TL.nil ?_
   refine T.ret ?_
   exact ⟨[(false, [.d (.bool false)])], (.cons rfl .nil), rfl, [], (RetC.rd' (by (congr 1; symm; first | (apply decide_eq_false; rintro rfl; first | exact absurd rfl ‹¬ _ = _› | contradiction) | (apply decide_eq_true; apply SHead.ext <;> first | assumption | exact Decidable.not_not.1 (by assumption)))) .nil)⟩
  ·
   replace h2 := of_decide_eq_false h2
   refine T.skip ?_
   refine T.seq ?_
   refine T.seq ?_
   refine T.region ?_
   refine TL.cons rfl (Step.fieldAddr (q := 0) (off := 2) (n := 1) (one := true) rfl rfl (lt_ok rfl) (by kernel_rfl) (Nat.succ_ne_zero _) rfl) ?_
   refine TL.cons rfl (Step.load_box (c := .d (.int .i64 a.f2)) rfl rfl (lt_ok rfl) (by kernel_rfl) rfl rfl rfl) ?_
   refine TL.cons rfl (Step.fieldAddr (q := 0) (off := 2) (n := 1) (one := true) rfl rfl (lt_ok rfl) (by kernel_rfl) (Nat.succ_ne_zero _) rfl) ?_
   refine TL.cons rfl (Step.load_box (c := .d (.int .i64 b.f2)) rfl rfl (lt_ok rfl) (by kernel_rfl) rfl rfl rfl) ?_
   refine TL.cons rfl (Step.bin rfl rfl (lt_ok rfl) rfl rfl (Bin.neq (k := .i64) (a := a.f2) (b := b.f2))) ?_
   refine TL.nil ?_
   refine T.cond (b := decide (a.f2 ≠ b.f2)) rfl (fun h3 => ?_) (fun h3 => ?_)
   ·
    replace h3 := of_decide_eq_true h3
    refine T.seq ?_
    refine T.region ?_
    refine TL.cons rfl (Step.assign (p := (.one (.d (.bool false)))) rfl rfl (lt_ok rfl) rfl) ?_
    refine TL.nil ?_
    refine T.ret ?_
    exact ⟨[(false, [.d (.bool false)])], (.cons rfl .nil), rfl, [], (RetC.rd' (by (congr 1; symm; first | (apply decide_eq_false; rintro rfl; first | exact absurd rfl ‹¬ _ = _› | contradiction) | (apply decide_eq_true; apply SHead.ext <;> first | assumption | exact Decidable.not_not.1 (by assumption)))) .nil)⟩
   ·
    replace h3 := of_decide_eq_false h3
    refine T.skip ?_
    refine T.seq ?_
    refine T.seq ?_
    refine T.region ?_
    refine TL.cons rfl (Step.fieldAddr (q := 0) (off := 3) (n := 1) (one := true) rfl rfl (lt_ok rfl) (by kernel_rfl) (Nat.succ_ne_zero _) rfl) ?_
    refine TL.cons rfl (Step.load_box (c := .d (.ints .u8 a.f3)) rfl rfl (lt_ok rfl) (by kernel_rfl) rfl rfl rfl) ?_
    refine TL.cons rfl (Step.fieldAddr (q := 0) (off := 3) (n := 1) (one := true) rfl rfl (lt_ok rfl) (by kernel_rfl) (Nat.succ_ne_zero _) rfl) ?_
    refine TL.cons rfl (Step.load_box (c := .d (.ints .u8 b.f3)) rfl rfl (lt_ok rfl) (by kernel_rfl) rfl rfl rfl) ?_
    refine TL.cons rfl (Step.call (f := 29) (xs := [.tmp 21, .tmp 23]) (ps := [(.one (.d (.ints .u8 a.f3))), (.one (.d (.ints .u8 b.f3)))]) false (g := .func 29) rfl rfl (lt_ok rfl) rfl (by kernel_rfl) rfl (.cons (.one (.d _)) (.cons (.one (.d _)) .nil)) (ok_laws_eqByteS a.f3 b.f3) (.inr rfl) rfl (by simp) rfl) ?_
    refine TL.cons rfl (Step.not (b := (decide (a.f3 = b.f3))) rfl rfl (lt_ok rfl) rfl) ?_
    refine TL.nil ?_
    refine T.cond (b := !(decide (a.f3 = b.f3))) rfl (fun h4 => ?_) (fun h4 => ?_)
    ·
     replace h4 : (decide (a.f3 = b.f3)) = false := by simpa only [Bool.not_eq_true', Bool.not_eq_false'] using h4
     replace h4 := of_decide_eq_false h4
     refine T.seq ?_
     refine T.region ?_
     refine TL.cons rfl (Step.assign (p := (.one (.d (.bool false)))) rfl rfl (lt_ok rfl) rfl) ?_
     refine TL.nil ?_
     refine T.ret ?_
     exact ⟨[(false, [.d (.bool false)])], (.cons rfl .nil), rfl, [], (RetC.rd' (by (congr 1; symm; first | (apply decide_eq_false; rintro rfl; first | exact absurd rfl ‹¬ _ = _› | contradiction) | (apply decide_eq_true; apply SHead.ext <;> first | assumption | exact Decidable.not_not.1 (by assumption)))) .nil)⟩
    ·
     replace h4 : (decide (a.f3 = b.f3)) = true := by simpa only [Bool.not_eq_true', Bool.not_eq_false'] using h4
     replace h4 := of_decide_eq_true h4
     refine T.skip ?_
     refine T.seq ?_
     refine T.seq ?_
     refine T.region ?_
     refine TL.cons rfl (Step.fieldAddr (q := 0) (off := 4) (n := 1) (one := true) rfl rfl (lt_ok rfl) (by kernel_rfl) (Nat.succ_ne_zero _) rfl) ?_
     refine TL.cons rfl (Step.load_box (c := .d (.ints .u8 a.f4)) rfl rfl (lt_ok rfl) (by kernel_rfl) rfl rfl rfl) ?_
     refine TL.cons rfl (Step.fieldAddr (q := 0) (off := 4) (n := 1) (one := true) rfl rfl (lt_ok rfl) (by kernel_rfl) (Nat.succ_ne_zero _) rfl) ?_
     refine TL.cons rfl (Step.load_box (c := .d (.ints .u8 b.f4)) rfl rfl (lt_ok rfl) (by kernel_rfl) rfl rfl rfl) ?_
     refine TL.cons rfl (Step.call (f := 29) (xs := [.tmp 27, .tmp 29]) (ps := [(.one (.d (.ints .u8 a.f4))), (.one (.d (.ints .u8 b.f4)))]) false (g := .func 29) rfl rfl (lt_ok rfl) rfl (by kernel_rfl) rfl (.cons (.one (.d _)) (.cons (.one (.d _)) .nil)) (ok_laws_eqByteS a.f4 b.f4) (.inr rfl) rfl (by simp) rfl) ?_
     refine TL.cons rfl (Step.not (b := (decide (a.f4 = b.f4))) rfl rfl (lt_ok rfl) rfl) ?_
     refine TL.nil ?_
     refine T.cond (b := !(decide (a.f4 = b.f4))) rfl (fun h5 => ?_) (fun h5 => ?_)
     ·
      replace h5 : (decide (a.f4 = b.f4)) = false := by simpa only [Bool.not_eq_true', Bool.not_eq_false'] using h5
      replace h5 := of_decide_eq_false h5
      refine T.seq ?_
      refine T.region ?_
      refine TL.cons rfl (Step.assign (p := (.one (.d (.bool false)))) rfl rfl (lt_ok rfl) rfl) ?_
      refine TL.nil ?_
      refine T.ret ?_
      exact ⟨[(false, [.d (.bool false)])], (.cons rfl .nil), rfl, [], (RetC.rd' (by (congr 1; symm; first | (apply decide_eq_false; rintro rfl; first | exact absurd rfl ‹¬ _ = _› | contradiction) | (apply decide_eq_true; apply SHead.ext <;> first | assumption | exact Decidable.not_not.1 (by assumption)))) .nil)⟩
     ·
      replace h5 : (decide (a.f4 = b.f4)) = true := by simpa only [Bool.not_eq_true', Bool.not_eq_false'] using h5
      replace h5 := of_decide_eq_true h5
      refine T.skip ?_
      refine T.seq ?_
      refine T.seq ?_
      refine T.region ?_
      refine TL.cons rfl (Step.fieldAddr (q := 0) (off := 5) (n := 5) (one := false) rfl rfl (lt_ok rfl) (by kernel_rfl) (Nat.succ_ne_zero _) rfl) ?_
      refine TL.cons rfl (Step.load_box_agg (n := 5) (qs := [.d (.int .i64 a.f5.f0), .d (.int .i64 a.f5.f1), .d (.ints .u8 a.f5.f2), .d (.ints .u8 a.f5.f3), .d (.bss a.f5.f4)]) rfl rfl (lt_ok rfl) (by kernel_rfl) rfl rfl rfl rfl) ?_
      refine TL.cons rfl (Step.fieldAddr (q := 0) (off := 5) (n := 5) (one := false) rfl rfl (lt_ok rfl) (by kernel_rfl) (Nat.succ_ne_zero _) rfl) ?_
      refine TL.cons rfl (Step.load_box_agg (n := 5) (qs := [.d (.int .i64 b.f5.f0), .d (.int .i64 b.f5.f1), .d (.ints .u8 b.f5.f2), .d (.ints .u8 b.f5.f3), .d (.bss b.f5.f4)]) rfl rfl (lt_ok rfl) (by kernel_rfl) rfl rfl rfl rfl) ?_
      refine TL.cons rfl (Step.call (f := 20) (xs := [.tmp 33, .tmp 35]) (ps := [(.agg [.d (.int .i64 a.f5.f0), .d (.int .i64 a.f5.f1), .d (.ints .u8 a.f5.f2), .d (.ints .u8 a.f5.f3), .d (.bss a.f5.f4)]), (.agg [.d (.int .i64 b.f5.f0), .d (.int .i64 b.f5.f1), .d (.ints .u8 b.f5.f2), .d (.ints .u8 b.f5.f3), .d (.bss b.f5.f4)])]) false (g := .func 20) rfl rfl (lt_ok rfl) rfl (by kernel_rfl) rfl (.cons (.agg (.cons (.d _) (.cons (.d _) (.cons (.d _) (.cons (.d _) (.cons (.d _) .nil)))))) (.cons (.agg (.cons (.d _) (.cons (.d _) (.cons (.d _) (.cons (.d _) (.cons (.d _) .nil)))))) .nil)) (ok_laws_eqQc a.f5 b.f5) (.inr rfl) rfl (by simp) rfl) ?_
      refine TL.cons rfl (Step.not (b := (decide (a.f5 = b.f5))) rfl rfl (lt_ok rfl) rfl) ?_
      refine TL.nil ?_
      refine T.weaken (E' := { tm := [(4, (.one (.d (.bool false)))), (37, (.one (.d (.bool (!(decide (a.f5 = b.f5)))))))], rows := [], boxes := [] }) (Env.le_mk ⟨by kernel_rfl, by kernel_rfl, trivial⟩ trivial trivial) ?_
      refine T.cond (b := !(decide (a.f5 = b.f5))) rfl (fun h6 => ?_) (fun h6 => ?_)
      ·
       replace h6 : (decide (a.f5 = b.f5)) = false := by simpa only [Bool.not_eq_true', Bool.not_eq_false'] using h6
       replace h6 := of_decide_eq_false h6
       refine T.seq ?_
       refine T.region ?_
       refine TL.cons rfl (Step.assign (p := (.one (.d (.bool false)))) rfl rfl (lt_ok rfl) rfl) ?_
       refine TL.nil ?_
       refine T.ret ?_
       exact ⟨[(false, [.d (.bool false)])], (.cons rfl .nil), rfl, [], (RetC.rd' (by (congr 1; symm; first | (apply decide_eq_false; rintro rfl; first | exact absurd rfl ‹¬ _ = _› | contradiction) | (apply decide_eq_true; apply SHead.ext <;> first | assumption | exact Decidable.not_not.1 (by assumption)))) .nil)⟩
      ·
       replace h6 : (decide (a.f5 = b.f5)) = true := by simpa only [Bool.not_eq_true', Bool.not_eq_false'] using h6
       replace h6 := of_decide_eq_true h6
       refine T.skip ?_
       refine T.seq ?_
       refine T.region ?_
       refine TL.cons rfl (Step.assign (p := (.one (.d (.bool true)))) rfl rfl (lt_ok rfl) rfl) ?_
       refine TL.nil ?_
       refine T.ret ?_
       exact ⟨[(false, [.d (.bool true)])], (.cons rfl .nil), rfl, [], (RetC.rd' (by (congr 1; symm; first | (apply decide_eq_false; rintro rfl; first | exact absurd rfl ‹¬ _ = _› | contradiction) | (apply decide_eq_true; apply SHead.ext <;> first | assumption | exact Decidable.not_not.1 (by assumption)))) .nil)⟩
theorem ok_laws_eqBlock (a : SBlock) (b : SBlock) : RO Try.prog 100 [.agg a.cells, .agg b.cells] [(false, [.rd (.bool (decide (a = b)))])] := by
 refine RO.intro Try.func100 rfl 17 rfl (le_ok rfl) fun w Z => ?_
 refine T.seq ?_
 refine T.region ?_
 refine TL.cons rfl (Step.box (p := (.agg [.d (.int .i64 a.f0.f0), .d (.int .i64 a.f0.f1), .d (.int .i64 a.f0.f2), .d (.ints .u8 a.f0.f3), .d (.ints .u8 a.f0.f4), .d (.int .i64 a.f0.f5.f0), .d (.int .i64 a.f0.f5.f1), .d (.ints .u8 a.f0.f5.f2), .d (.ints .u8 a.f0.f5.f3), .d (.bss a.f0.f5.f4), .d (.bss a.f1)])) (ps := [.d (.int .i64 a.f0.f0), .d (.int .i64 a.f0.f1), .d (.int .i64 a.f0.f2), .d (.ints .u8 a.f0.f3), .d (.ints .u8 a.f0.f4), .d (.int .i64 a.f0.f5.f0), .d (.int .i64 a.f0.f5.f1), .d (.ints .u8 a.f0.f5.f2), .d (.ints .u8 a.f0.f5.f3), .d (.bss a.f0.f5.f4), .d (.bss a.f1)]) rfl rfl (lt_ok rfl) rfl rfl rfl rfl rfl) ?_
 refine TL.cons rfl (Step.box (p := (.agg [.d (.int .i64 b.f0.f0), .d (.int .i64 b.f0.f1), .d (.int .i64 b.f0.f2), .d (.ints .u8 b.f0.f3), .d (.ints .u8 b.f0.f4), .d (.int .i64 b.f0.f5.f0), .d (.int .i64 b.f0.f5.f1), .d (.ints .u8 b.f0.f5.f2), .d (.ints .u8 b.f0.f5.f3), .d (.bss b.f0.f5.f4), .d (.bss b.f1)])) (ps := [.d (.int .i64 b.f0.f0), .d (.int .i64 b.f0.f1), .d (.int .i64 b.f0.f2), .d (.ints .u8 b.f0.f3), .d (.ints .u8 b.f0.f4), .d (.int .i64 b.f0.f5.f0), .d (.int .i64 b.f0.f5.f1), .d (.ints .u8 b.f0.f5.f2), .d (.ints .u8 b.f0.f5.f3), .d (.bss b.f0.f5.f4), .d (.bss b.f1)]) rfl rfl (lt_ok rfl) rfl rfl rfl rfl rfl) ?_
 refine TL.cons rfl (Step.assign (p := (.one (.d (.bool false)))) rfl rfl (lt_ok rfl) rfl) ?_
 refine TL.nil ?_
 refine T.seq ?_
 refine T.seq ?_
 refine T.region ?_
 refine TL.cons rfl (Step.fieldAddr (q := 0) (off := 0) (n := 10) (one := false) rfl rfl (lt_ok rfl) (by kernel_rfl) (Nat.succ_ne_zero _) rfl) ?_
 refine TL.cons rfl (Step.load_box_agg (n := 10) (qs := [.d (.int .i64 a.f0.f0), .d (.int .i64 a.f0.f1), .d (.int .i64 a.f0.f2), .d (.ints .u8 a.f0.f3), .d (.ints .u8 a.f0.f4), .d (.int .i64 a.f0.f5.f0), .d (.int .i64 a.f0.f5.f1), .d (.ints .u8 a.f0.f5.f2), .d (.ints .u8 a.f0.f5.f3), .d (.bss a.f0.f5.f4)]) rfl rfl (lt_ok rfl) (by kernel_rfl) rfl rfl rfl rfl) ?_
 refine TL.cons rfl (Step.fieldAddr (q := 0) (off := 0) (n := 10) (one := false) rfl rfl (lt_ok rfl) (by kernel_rfl) (Nat.succ_ne_zero _) rfl) ?_
 refine TL.cons rfl (Step.load_box_agg (n := 10) (qs := [.d (.int .i64 b.f0.f0), .d (.int .i64 b.f0.f1), .d (.int .i64 b.f0.f2), .d (.ints .u8 b.f0.f3), .d (.ints .u8 b.f0.f4), .d (.int .i64 b.f0.f5.f0), .d (.int .i64 b.f0.f5.f1), .d (.ints .u8 b.f0.f5.f2), .d (.ints .u8 b.f0.f5.f3), .d (.bss b.f0.f5.f4)]) rfl rfl (lt_ok rfl) (by kernel_rfl) rfl rfl rfl rfl) ?_
 refine TL.cons rfl (Step.call (f := 65) (xs := [.tmp 6, .tmp 8]) (ps := [(.agg [.d (.int .i64 a.f0.f0), .d (.int .i64 a.f0.f1), .d (.int .i64 a.f0.f2), .d (.ints .u8 a.f0.f3), .d (.ints .u8 a.f0.f4), .d (.int .i64 a.f0.f5.f0), .d (.int .i64 a.f0.f5.f1), .d (.ints .u8 a.f0.f5.f2), .d (.ints .u8 a.f0.f5.f3), .d (.bss a.f0.f5.f4)]), (.agg [.d (.int .i64 b.f0.f0), .d (.int .i64 b.f0.f1), .d (.int .i64 b.f0.f2), .d (.ints .u8 b.f0.f3), .d (.ints .u8 b.f0.f4), .d (.int .i64 b.f0.f5.f0), .d (.int .i64 b.f0.f5.f1), .d (.ints .u8 b.f0.f5.f2), .d (.ints .u8 b.f0.f5.f3), .d (.bss b.f0.f5.f4)])]) false (g := .func 65) rfl rfl (lt_ok rfl) rfl (by kernel_rfl) rfl (.cons (.agg (.cons (.d _) (.cons (.d _) (.cons (.d _) (.cons (.d _) (.cons (.d _) (.cons (.d _) (.cons (.d _) (.cons (.d _) (.cons (.d _) (.cons (.d _) .nil))))))))))) (.cons (.agg (.cons (.d _) (.cons (.d _) (.cons (.d _) (.cons (.d _) (.cons (.d _) (.cons (.d _) (.cons (.d _) (.cons (.d _) (.cons (.d _) (.cons (.d _) .nil))))))))))) .nil)) (ok_laws_eqHead a.f0 b.f0) (.inr rfl) rfl (by simp) rfl) ?_
 refine TL.cons rfl (Step.not (b := (decide (a.f0 = b.f0))) rfl rfl (lt_ok rfl) rfl) ?_
 refine TL.nil ?_
 refine T.cond (b := !(decide (a.f0 = b.f0))) rfl (fun h1 => ?_) (fun h1 => ?_)
 ·
  replace h1 : (decide (a.f0 = b.f0)) = false := by simpa only [Bool.not_eq_true', Bool.not_eq_false'] using h1
  replace h1 := of_decide_eq_false h1
  refine T.seq ?_
  refine T.region ?_
  refine TL.cons rfl (Step.assign (p := (.one (.d (.bool false)))) rfl rfl (lt_ok rfl) rfl) ?_
  refine TL.nil ?_
  refine T.ret ?_
  exact ⟨[(false, [.d (.bool false)])], (.cons rfl .nil), rfl, [], (RetC.rd' (by (congr 1; symm; first | (apply decide_eq_false; rintro rfl; first | exact absurd rfl ‹¬ _ = _› | contradiction) | (apply decide_eq_true; apply SBlock.ext <;> first | assumption | exact Decidable.not_not.1 (by assumption)))) .nil)⟩
 ·
  replace h1 : (decide (a.f0 = b.f0)) = true := by simpa only [Bool.not_eq_true', Bool.not_eq_false'] using h1
  replace h1 := of_decide_eq_true h1
  refine T.skip ?_
  refine T.seq ?_
  refine T.seq ?_
  refine T.region ?_
  refine TL.cons rfl (Step.fieldAddr (q := 0) (off := 10) (n := 1) (one := true) rfl rfl (lt_ok rfl) (by kernel_rfl) (Nat.succ_ne_zero _) rfl) ?_
  refine TL.cons rfl (Step.load_box (c := .d (.bss a.f1)) rfl rfl (lt_ok rfl) (by kernel_rfl) rfl rfl rfl) ?_
  refine TL.cons rfl (Step.fieldAddr (q := 0) (off := 10) (n := 1) (one := true) rfl rfl (lt_ok rfl) (by kernel_rfl) (Nat.succ_ne_zero _) rfl) ?_
  refine TL.cons rfl (Step.load_box (c := .d (.bss b.f1)) rfl rfl (lt_ok rfl) (by kernel_rfl) rfl rfl rfl) ?_
  refine TL.cons rfl (Step.call (f := 84) (xs := [.tmp 12, .tmp 14]) (ps := [(.one (.d (.bss a.f1))), (.one (.d (.bss b.f1)))]) false (g := .func 84) rfl rfl (lt_ok rfl) rfl (by kernel_rfl) rfl (.cons (.one (.d _)) (.cons (.one (.d _)) .nil)) (ok_laws_eqByteSS a.f1 b.f1) (.inr rfl) rfl (by simp) rfl) ?_
  refine TL.cons rfl (Step.not (b := (decide (a.f1 = b.f1))) rfl rfl (lt_ok rfl) rfl) ?_
  refine TL.nil ?_
  refine T.cond (b := !(decide (a.f1 = b.f1))) rfl (fun h2 => ?_) (fun h2 => ?_)
  ·
   replace h2 : (decide (a.f1 = b.f1)) = false := by simpa only [Bool.not_eq_true', Bool.not_eq_false'] using h2
   replace h2 := of_decide_eq_false h2
   refine T.seq ?_
   refine T.region ?_
   refine TL.cons rfl (Step.assign (p := (.one (.d (.bool false)))) rfl rfl (lt_ok rfl) rfl) ?_
   refine TL.nil ?_
   refine T.ret ?_
   exact ⟨[(false, [.d (.bool false)])], (.cons rfl .nil), rfl, [], (RetC.rd' (by (congr 1; symm; first | (apply decide_eq_false; rintro rfl; first | exact absurd rfl ‹¬ _ = _› | contradiction) | (apply decide_eq_true; apply SBlock.ext <;> first | assumption | exact Decidable.not_not.1 (by assumption)))) .nil)⟩
  ·
   replace h2 : (decide (a.f1 = b.f1)) = true := by simpa only [Bool.not_eq_true', Bool.not_eq_false'] using h2
   replace h2 := of_decide_eq_true h2
   refine T.skip ?_
   refine T.seq ?_
   refine T.region ?_
   refine TL.cons rfl (Step.assign (p := (.one (.d (.bool true)))) rfl rfl (lt_ok rfl) rfl) ?_
   refine TL.nil ?_
   refine T.ret ?_
   exact ⟨[(false, [.d (.bool true)])], (.cons rfl .nil), rfl, [], (RetC.rd' (by (congr 1; symm; first | (apply decide_eq_false; rintro rfl; first | exact absurd rfl ‹¬ _ = _› | contradiction) | (apply decide_eq_true; apply SBlock.ext <;> first | assumption | exact Decidable.not_not.1 (by assumption)))) .nil)⟩
theorem ok_laws_eqHeadS (a : List SHead) (b : List SHead) : RO Try.prog 156 [.one (.sl 10 (a.map SHead.cells)), .one (.sl 10 (b.map SHead.cells))] [(false, [.rd (.bool (decide (a = b)))])] := by
 refine RO.intro Try.func156 rfl 27 rfl (le_ok rfl) fun w Z => ?_
 refine T.bnd 0 0 rfl rfl fun hb_0_0 => ?_
 simp only [D.size, List.length_map] at hb_0_0
 refine T.bnd 1 0 rfl rfl fun hb_1_0 => ?_
 simp only [D.size, List.length_map] at hb_1_0
 refine T.seq ?_
 refine T.region ?_
 refine TL.cons rfl (Step.assign (p := (.one (.d (.bool false)))) rfl rfl (lt_ok rfl) rfl) ?_
 refine TL.nil ?_
 refine T.seq ?_
 refine T.seq ?_
 refine T.region ?_
 refine TL.cons rfl (Step.move (p := (.one (.d (.sl 10 (a.map SHead.cells))))) rfl rfl (lt_ok rfl) rfl) ?_
 refine TL.cons rfl (Step.len' (e := 66) (z := 10) (d := (.sl 10 (a.map SHead.cells))) (n := a.length) rfl rfl (lt_ok rfl) (by kernel_rfl) rfl rfl (by simp [D.size])) ?_
 refine TL.cons rfl (Step.move (p := (.one (.d (.sl 10 (b.map SHead.cells))))) rfl rfl (lt_ok rfl) rfl) ?_
 refine TL.cons rfl (Step.len' (e := 66) (z := 10) (d := (.sl 10 (b.map SHead.cells))) (n := b.length) rfl rfl (lt_ok rfl) (by kernel_rfl) rfl rfl (by simp [D.size])) ?_
 refine TL.cons rfl (Step.bin rfl rfl (lt_ok rfl) rfl rfl (Bin.neq (k := .i64) (a := (a.length : Int)) (b := (b.length : Int)))) ?_
 refine TL.nil ?_
 refine T.cond (b := decide ((a.length : Int) ≠ (b.length : Int))) rfl (fun h1 => ?_) (fun h1 => ?_)
 ·
  replace h1 := of_decide_eq_true h1
  refine T.seq ?_
  refine T.region ?_
  refine TL.cons rfl (Step.assign (p := (.one (.d (.bool false)))) rfl rfl (lt_ok rfl) rfl) ?_
  refine TL.nil ?_
  refine T.ret ?_
  exact ⟨[(false, [.d (.bool false)])], (.cons rfl .nil), rfl, [], (RetC.rd' (by (congr 1; symm; first | (apply decide_eq_false; rintro rfl; first | exact absurd rfl ‹¬ _ = _› | exact absurd rfl (of_decide_eq_false (by assumption)) | contradiction | simp_all) | (apply decide_eq_true; exact take_all hx2 (by omega) hx3))) .nil)⟩
 ·
  replace h1 := of_decide_eq_false h1
  refine T.skip ?_
  refine T.seq ?_
  refine T.seq ?_
  refine T.region ?_
  refine TL.cons rfl (Step.assign (p := (.one (.d (.int .i64 0)))) rfl rfl (lt_ok rfl) rfl) ?_
  refine TL.nil ?_
  refine T.block ?_
  refine T.loop (ι := Nat) (fun x => { tm := [(0, (.one (.d (.sl 10 (a.map SHead.cells))))), (1, (.one (.d (.sl 10 (b.map SHead.cells))))), (5, (.one (.d (.int .i64 (x : Int)))))], rows := [], boxes := [] }) (fun x => x ≤ a.length ∧ a.length = b.length ∧ a.take x = b.take x) (fun x => a.length - x) 0 ?_ ?_ ?_
  · exact Env.le_mk ⟨rfl, rfl, by first | rfl | (simp; done) | (congr 3; omega), trivial⟩ trivial trivial
  · (refine ⟨Nat.zero_le _, by omega, by simp⟩)
  ·
   intro i hx
   try dsimp only at hx ⊢
   obtain ⟨hx1, hx2, hx3⟩ := hx
   refine T.seq ?_
   refine T.seq ?_
   refine T.region ?_
   refine TL.cons rfl (Step.move (p := (.one (.d (.int .i64 (i : Int))))) rfl rfl (lt_ok rfl) rfl) ?_
   refine TL.cons rfl (Step.move (p := (.one (.d (.sl 10 (a.map SHead.cells))))) rfl rfl (lt_ok rfl) rfl) ?_
   refine TL.cons rfl (Step.len' (e := 66) (z := 10) (d := (.sl 10 (a.map SHead.cells))) (n := a.length) rfl rfl (lt_ok rfl) (by kernel_rfl) rfl rfl (by simp [D.size])) ?_
   refine TL.cons rfl (Step.bin rfl rfl (lt_ok rfl) rfl rfl (Bin.lss (k := .i64) (a := (i : Int)) (b := (a.length : Int)))) ?_
   refine TL.nil ?_
   refine T.cond (b := decide ((i : Int) < (a.length : Int))) rfl (fun h2 => ?_) (fun h2 => ?_)
   ·
    replace h2 := of_decide_eq_true h2
    refine T.skip ?_
    refine T.seq ?_
    refine T.block ?_
    refine T.seq ?_
    refine T.draw [⟨17, (.one (.d (.sl 10 (a.map SHead.cells)))), []⟩, ⟨18, (.one (.d (.int .i64 (i : Int)))), []⟩, ⟨19, (.one (.eptr (.sl 10 (a.map SHead.cells)) i 0)), []⟩, ⟨20, (.agg [.d (.int .i64 (a.getD i default).f0), .d (.int .i64 (a.getD i default).f1), .d (.int .i64 (a.getD i default).f2), .d (.ints .u8 (a.getD i default).f3), .d (.ints .u8 (a.getD i default).f4), .d (.int .i64 (a.getD i default).f5.f0), .d (.int .i64 (a.getD i default).f5.f1), .d (.ints .u8 (a.getD i default).f5.f2), .d (.ints .u8 (a.getD i default).f5.f3), .d (.bss (a.getD i default).f5.f4)]), []⟩, ⟨21, (.one (.d (.sl 10 (b.map SHead.cells)))), []⟩, ⟨22, (.one (.d (.int .i64 (i : Int)))), []⟩, ⟨23, (.one (.eptr (.sl 10 (b.map SHead.cells)) i 0)), []⟩, ⟨24, (.agg [.d (.int .i64 (b.getD i default).f0), .d (.int .i64 (b.getD i default).f1), .d (.int .i64 (b.getD i default).f2), .d (.ints .u8 (b.getD i default).f3), .d (.ints .u8 (b.getD i default).f4), .d (.int .i64 (b.getD i default).f5.f0), .d (.int .i64 (b.getD i default).f5.f1), .d (.ints .u8 (b.getD i default).f5.f2), .d (.ints .u8 (b.getD i default).f5.f3), .d (.bss (b.getD i default).f5.f4)]), []⟩, ⟨25, (.one (.d (.bool (decide ((a.getD i default) = (b.getD i default)))))), []⟩, ⟨26, (.one (.d (.bool (!(decide ((a.getD i default) = (b.getD i default))))))), []⟩] (by kernel_rfl) (by kernel_rfl) ?_ ?_
    ·
     refine .cons (fun E h => by have g0 := h.get 0 (by decide); exact OpStep.plain rfl (Step.move (p := (.one (.d (.sl 10 (a.map SHead.cells))))) (t := 17) rfl rfl (by exact lt_ok rfl) (show Env.ev E (.tmp 0) = _ from g0.trans rfl))) ?_
     refine .cons (fun E h => by have g5 := h.get 5 (by decide); exact OpStep.plain rfl (Step.move (p := (.one (.d (.int .i64 (i : Int))))) (t := 18) rfl rfl (by exact lt_ok rfl) (show Env.ev E (.tmp 5) = _ from g5.trans rfl))) ?_
     refine .cons (fun E h => by have g17 := h.get 17 (by decide); have g18 := h.get 18 (by decide); exact OpStep.plain rfl (Step.index (e := 66) (z := 10) (i := (i : Int)) (t := 19) rfl rfl (by exact lt_ok rfl) (by kernel_rfl) (show Env.ev E (.tmp 17) = _ from g17.trans rfl) rfl rfl (lt_ok rfl) (show Env.ev E (.tmp 18) = _ from g18.trans rfl) (by first | omega | (simp; omega)) (by simp only [D.size]; first | omega | (simp; omega)))) ?_
     refine .cons (fun E h => by have g19 := h.get 19 (by decide); exact OpStep.plain rfl (Step.load_agg (n := 10) (cs := [.d (.int .i64 (a.getD i default).f0), .d (.int .i64 (a.getD i default).f1), .d (.int .i64 (a.getD i default).f2), .d (.ints .u8 (a.getD i default).f3), .d (.ints .u8 (a.getD i default).f4), .d (.int .i64 (a.getD i default).f5.f0), .d (.int .i64 (a.getD i default).f5.f1), .d (.ints .u8 (a.getD i default).f5.f2), .d (.ints .u8 (a.getD i default).f5.f3), .d (.bss (a.getD i default).f5.f4)]) (t := 20) rfl rfl (by exact lt_ok rfl) (by kernel_rfl) (show Env.ev E (.tmp 19) = _ from g19.trans rfl) rfl (by simp only [List.range, List.range.loop, List.map_cons, List.map_nil]; rw [cell_map default (by first | omega | (simp; omega)), cell_map default (by first | omega | (simp; omega)), cell_map default (by first | omega | (simp; omega)), cell_map default (by first | omega | (simp; omega)), cell_map default (by first | omega | (simp; omega)), cell_map default (by first | omega | (simp; omega)), cell_map default (by first | omega | (simp; omega)), cell_map default (by first | omega | (simp; omega)), cell_map default (by first | omega | (simp; omega)), cell_map default (by first | omega | (simp; omega))]; rfl))) ?_
     refine .cons (fun E h => by have g1 := h.get 1 (by decide); exact OpStep.plain rfl (Step.move (p := (.one (.d (.sl 10 (b.map SHead.cells))))) (t := 21) rfl rfl (by exact lt_ok rfl) (show Env.ev E (.tmp 1) = _ from g1.trans rfl))) ?_
     refine .cons (fun E h => by have g5 := h.get 5 (by decide); exact OpStep.plain rfl (Step.move (p := (.one (.d (.int .i64 (i : Int))))) (t := 22) rfl rfl (by exact lt_ok rfl) (show Env.ev E (.tmp 5) = _ from g5.trans rfl))) ?_
     refine .cons (fun E h => by have g21 := h.get 21 (by decide); have g22 := h.get 22 (by decide); exact OpStep.plain rfl (Step.index (e := 66) (z := 10) (i := (i : Int)) (t := 23) rfl rfl (by exact lt_ok rfl) (by kernel_rfl) (show Env.ev E (.tmp 21) = _ from g21.trans rfl) rfl rfl (lt_ok rfl) (show Env.ev E (.tmp 22) = _ from g22.trans rfl) (by first | omega | (simp; omega)) (by simp only [D.size]; first | omega | (simp; omega)))) ?_
     refine .cons (fun E h => by have g23 := h.get 23 (by decide); exact OpStep.plain rfl (Step.load_agg (n := 10) (cs := [.d (.int .i64 (b.getD i default).f0), .d (.int .i64 (b.getD i default).f1), .d (.int .i64 (b.getD i default).f2), .d (.ints .u8 (b.getD i default).f3), .d (.ints .u8 (b.getD i default).f4), .d (.int .i64 (b.getD i default).f5.f0), .d (.int .i64 (b.getD i default).f5.f1), .d (.ints .u8 (b.getD i default).f5.f2), .d (.ints .u8 (b.getD i default).f5.f3), .d (.bss (b.getD i default).f5.f4)]) (t := 24) rfl rfl (by exact lt_ok rfl) (by kernel_rfl) (show Env.ev E (.tmp 23) = _ from g23.trans rfl) rfl (by simp only [List.range, List.range.loop, List.map_cons, List.map_nil]; rw [cell_map default (by first | omega | (simp; omega)), cell_map default (by first | omega | (simp; omega)), cell_map default (by first | omega | (simp; omega)), cell_map default (by first | omega | (simp; omega)), cell_map default (by first | omega | (simp; omega)), cell_map default (by first | omega | (simp; omega)), cell_map default (by first | omega | (simp; omega)), cell_map default (by first | omega | (simp; omega)), cell_map default (by first | omega | (simp; omega)), cell_map default (by first | omega | (simp; omega))]; rfl))) ?_
     refine .cons (fun E h => by have g20 := h.get 20 (by decide); have g24 := h.get 24 (by decide); exact OpStep.plain rfl (Step.call (f := 65) (xs := [.tmp 20, .tmp 24]) (ps := [(.agg [.d (.int .i64 (a.getD i default).f0), .d (.int .i64 (a.getD i default).f1), .d (.int .i64 (a.getD i default).f2), .d (.ints .u8 (a.getD i default).f3), .d (.ints .u8 (a.getD i default).f4), .d (.int .i64 (a.getD i default).f5.f0), .d (.int .i64 (a.getD i default).f5.f1), .d (.ints .u8 (a.getD i default).f5.f2), .d (.ints .u8 (a.getD i default).f5.f3), .d (.bss (a.getD i default).f5.f4)]), (.agg [.d (.int .i64 (b.getD i default).f0), .d (.int .i64 (b.getD i default).f1), .d (.int .i64 (b.getD i default).f2), .d (.ints .u8 (b.getD i default).f3), .d (.ints .u8 (b.getD i default).f4), .d (.int .i64 (b.getD i default).f5.f0), .d (.int .i64 (b.getD i default).f5.f1), .d (.ints .u8 (b.getD i default).f5.f2), .d (.ints .u8 (b.getD i default).f5.f3), .d (.bss (b.getD i default).f5.f4)])]) false (g := .func 65) (t := 25) rfl rfl (by exact lt_ok rfl) rfl (by kernel_rfl) (evs_cons (show Env.ev E (.tmp 20) = _ from g20.trans rfl) (evs_cons (show Env.ev E (.tmp 24) = _ from g24.trans rfl) (rfl))) (.cons (.agg (.cons (.d _) (.cons (.d _) (.cons (.d _) (.cons (.d _) (.cons (.d _) (.cons (.d _) (.cons (.d _) (.cons (.d _) (.cons (.d _) (.cons (.d _) .nil))))))))))) (.cons (.agg (.cons (.d _) (.cons (.d _) (.cons (.d _) (.cons (.d _) (.cons (.d _) (.cons (.d _) (.cons (.d _) (.cons (.d _) (.cons (.d _) (.cons (.d _) .nil))))))))))) .nil)) (ok_laws_eqHead (a.getD i default) (b.getD i default)) (.inr rfl) (At.freshRows h rfl) (by simp) rfl)) ?_
     refine .cons (fun E h => by have g25 := h.get 25 (by decide); exact OpStep.plain rfl (Step.not (b := (decide ((a.getD i default) = (b.getD i default)))) (t := 26) rfl rfl (by exact lt_ok rfl) (show Env.ev E (.tmp 25) = _ from g25.trans rfl))) ?_
     exact .nil _ _
    refine TL.nil ?_
    refine T.cond (b := !(decide ((a.getD i default) = (b.getD i default)))) rfl (fun h3 => ?_) (fun h3 => ?_)
    ·
     replace h3 : (decide ((a.getD i default) = (b.getD i default))) = false := by simpa only [Bool.not_eq_true', Bool.not_eq_false'] using h3
     replace h3 := of_decide_eq_false h3
     refine T.seq ?_
     refine T.region ?_
     refine TL.cons rfl (Step.assign (p := (.one (.d (.bool false)))) rfl rfl (lt_ok rfl) rfl) ?_
     refine TL.nil ?_
     refine T.ret ?_
     exact ⟨[(false, [.d (.bool false)])], (.cons rfl .nil), rfl, [], (RetC.rd' (by (congr 1; symm; first | (apply decide_eq_false; rintro rfl; first | exact absurd rfl ‹¬ _ = _› | exact absurd rfl (of_decide_eq_false (by assumption)) | contradiction | simp_all) | (apply decide_eq_true; exact take_all hx2 (by omega) hx3))) .nil)⟩
    ·
     replace h3 : (decide ((a.getD i default) = (b.getD i default))) = true := by simpa only [Bool.not_eq_true', Bool.not_eq_false'] using h3
     replace h3 := of_decide_eq_true h3
     refine T.skip ?_
     refine T.region ?_
     refine TL.cons rfl (Step.move (p := (.one (.d (.int .i64 (i : Int))))) rfl rfl (lt_ok rfl) rfl) ?_
     refine TL.cons rfl (Step.bin (r := .int .i64 ((i : Int) + 1)) rfl rfl (lt_ok rfl) rfl rfl (Bin.add (a := (i : Int)) (b := 1) (by first | exact wrap_ok (by first | omega | (simp; omega)) (by first | omega | (simp; omega)) | rfl))) ?_
     refine TL.cons rfl (Step.assign (p := (.one (.d (.int .i64 ((i : Int) + 1))))) rfl rfl (lt_ok rfl) rfl) ?_
     refine TL.nil ?_
     exact ⟨i + 1, by (refine ⟨by omega, hx2, take_step (d := default) hx2 (by omega) hx3 (by first | assumption | exact Decidable.not_not.1 (by assumption) | omega)⟩), by omega, Env.le_mk ⟨rfl, rfl, by first | rfl | (simp; done) | (congr 3; omega), trivial⟩ trivial trivial⟩
   ·
    replace h2 := of_decide_eq_false h2
    refine T.exit ?_
    refine T.seq ?_
    refine T.region ?_
    refine TL.cons rfl (Step.assign (p := (.one (.d (.bool true)))) rfl rfl (lt_ok rfl) rfl) ?_
    refine TL.nil ?_
    refine T.ret ?_
    exact ⟨[(false, [.d (.bool true)])], (.cons rfl .nil), rfl, [], (RetC.rd' (by (congr 1; symm; first | (apply decide_eq_false; rintro rfl; first | exact absurd rfl ‹¬ _ = _› | exact absurd rfl (of_decide_eq_false (by assumption)) | contradiction | simp_all) | (apply decide_eq_true; exact take_all hx2 (by omega) hx3))) .nil)⟩
theorem ok_laws_eqProof (a : SProof) (b : SProof) : RO Try.prog 101 [.agg a.cells, .agg b.cells] [(false, [.rd (.bool (decide (a = b)))])] := by
 refine RO.intro Try.func101 rfl 17 rfl (le_ok rfl) fun w Z => ?_
 refine T.seq ?_
 refine T.region ?_
 refine TL.cons rfl (Step.box (p := (.agg [.d (.sl 10 (a.f0.map SHead.cells)), .d (.int .i64 a.f1.f0), .d (.int .i64 a.f1.f1), .d (.ints .u8 a.f1.f2), .d (.ints .u8 a.f1.f3), .d (.bss a.f1.f4)])) (ps := [.d (.sl 10 (a.f0.map SHead.cells)), .d (.int .i64 a.f1.f0), .d (.int .i64 a.f1.f1), .d (.ints .u8 a.f1.f2), .d (.ints .u8 a.f1.f3), .d (.bss a.f1.f4)]) rfl rfl (lt_ok rfl) rfl rfl rfl rfl rfl) ?_
 refine TL.cons rfl (Step.box (p := (.agg [.d (.sl 10 (b.f0.map SHead.cells)), .d (.int .i64 b.f1.f0), .d (.int .i64 b.f1.f1), .d (.ints .u8 b.f1.f2), .d (.ints .u8 b.f1.f3), .d (.bss b.f1.f4)])) (ps := [.d (.sl 10 (b.f0.map SHead.cells)), .d (.int .i64 b.f1.f0), .d (.int .i64 b.f1.f1), .d (.ints .u8 b.f1.f2), .d (.ints .u8 b.f1.f3), .d (.bss b.f1.f4)]) rfl rfl (lt_ok rfl) rfl rfl rfl rfl rfl) ?_
 refine TL.cons rfl (Step.assign (p := (.one (.d (.bool false)))) rfl rfl (lt_ok rfl) rfl) ?_
 refine TL.nil ?_
 refine T.seq ?_
 refine T.seq ?_
 refine T.region ?_
 refine TL.cons rfl (Step.fieldAddr (q := 0) (off := 0) (n := 1) (one := true) rfl rfl (lt_ok rfl) (by kernel_rfl) (Nat.succ_ne_zero _) rfl) ?_
 refine TL.cons rfl (Step.load_box (c := .d (.sl 10 (a.f0.map SHead.cells))) rfl rfl (lt_ok rfl) (by kernel_rfl) rfl rfl rfl) ?_
 refine TL.cons rfl (Step.fieldAddr (q := 0) (off := 0) (n := 1) (one := true) rfl rfl (lt_ok rfl) (by kernel_rfl) (Nat.succ_ne_zero _) rfl) ?_
 refine TL.cons rfl (Step.load_box (c := .d (.sl 10 (b.f0.map SHead.cells))) rfl rfl (lt_ok rfl) (by kernel_rfl) rfl rfl rfl) ?_
 refine TL.cons rfl (Step.call (f := 156) (xs := [.tmp 6, .tmp 8]) (ps := [(.one (.d (.sl 10 (a.f0.map SHead.cells)))), (.one (.d (.sl 10 (b.f0.map SHead.cells))))]) false (g := .func 156) rfl rfl (lt_ok rfl) rfl (by kernel_rfl) rfl (.cons (.one (.d _)) (.cons (.one (.d _)) .nil)) (ok_laws_eqHeadS a.f0 b.f0) (.inr rfl) rfl (by simp) rfl) ?_
 refine TL.cons rfl (Step.not (b := (decide (a.f0 = b.f0))) rfl rfl (lt_ok rfl) rfl) ?_
 refine TL.nil ?_
 refine T.cond (b := !(decide (a.f0 = b.f0))) rfl (fun h1 => ?_) (fun h1 => ?_)
 ·
  replace h1 : (decide (a.f0 = b.f0)) = false := by simpa only [Bool.not_eq_true', Bool.not_eq_false'] using h1
  replace h1 := of_decide_eq_false h1
  refine T.seq ?_
  refine T.region ?_
  refine TL.cons rfl (Step.assign (p := (.one (.d (.bool false)))) rfl rfl (lt_ok rfl) rfl) ?_
  refine TL.nil ?_
  refine T.ret ?_
  exact ⟨[(false, [.d (.bool false)])], (.cons rfl .nil), rfl, [], (RetC.rd' (by (congr 1; symm; first | (apply decide_eq_false; rintro rfl; first | exact absurd rfl ‹¬ _ = _› | contradiction) | (apply decide_eq_true; apply SProof.ext <;> first | assumption | exact Decidable.not_not.1 (by assumption)))) .nil)⟩
 ·
  replace h1 : (decide (a.f0 = b.f0)) = true := by simpa only [Bool.not_eq_true', Bool.not_eq_false'] using h1
  replace h1 := of_decide_eq_true h1
  refine T.skip ?_
  refine T.seq ?_
  refine T.seq ?_
  refine T.region ?_
  refine TL.cons rfl (Step.fieldAddr (q := 0) (off := 1) (n := 5) (one := false) rfl rfl (lt_ok rfl) (by kernel_rfl) (Nat.succ_ne_zero _) rfl) ?_
  refine TL.cons rfl (Step.load_box_agg (n := 5) (qs := [.d (.int .i64 a.f1.f0), .d (.int .i64 a.f1.f1), .d (.ints .u8 a.f1.f2), .d (.ints .u8 a.f1.f3), .d (.bss a.f1.f4)]) rfl rfl (lt_ok rfl) (by kernel_rfl) rfl rfl rfl rfl) ?_
  refine TL.cons rfl (Step.fieldAddr (q := 0) (off := 1) (n := 5) (one := false) rfl rfl (lt_ok rfl) (by kernel_rfl) (Nat.succ_ne_zero _) rfl) ?_
  refine TL.cons rfl (Step.load_box_agg (n := 5) (qs := [.d (.int .i64 b.f1.f0), .d (.int .i64 b.f1.f1), .d (.ints .u8 b.f1.f2), .d (.ints .u8 b.f1.f3), .d (.bss b.f1.f4)]) rfl rfl (lt_ok rfl) (by kernel_rfl) rfl rfl rfl rfl) ?_
  refine TL.cons rfl (Step.call (f := 20) (xs := [.tmp 12, .tmp 14]) (ps := [(.agg [.d (.int .i64 a.f1.f0), .d (.int .i64 a.f1.f1), .d (.ints .u8 a.f1.f2), .d (.ints .u8 a.f1.f3), .d (.bss a.f1.f4)]), (.agg [.d (.int .i64 b.f1.f0), .d (.int .i64 b.f1.f1), .d (.ints .u8 b.f1.f2), .d (.ints .u8 b.f1.f3), .d (.bss b.f1.f4)])]) false (g := .func 20) rfl rfl (lt_ok rfl) rfl (by kernel_rfl) rfl (.cons (.agg (.cons (.d _) (.cons (.d _) (.cons (.d _) (.cons (.d _) (.cons (.d _) .nil)))))) (.cons (.agg (.cons (.d _) (.cons (.d _) (.cons (.d _) (.cons (.d _) (.cons (.d _) .nil)))))) .nil)) (ok_laws_eqQc a.f1 b.f1) (.inr rfl) rfl (by simp) rfl) ?_
  refine TL.cons rfl (Step.not (b := (decide (a.f1 = b.f1))) rfl rfl (lt_ok rfl) rfl) ?_
  refine TL.nil ?_
  refine T.cond (b := !(decide (a.f1 = b.f1))) rfl (fun h2 => ?_) (fun h2 => ?_)
  ·
   replace h2 : (decide (a.f1 = b.f1)) = false := by simpa only [Bool.not_eq_true', Bool.not_eq_false'] using h2
   replace h2 := of_decide_eq_false h2
   refine T.seq ?_
   refine T.region ?_
   refine TL.cons rfl (Step.assign (p := (.one (.d (.bool false)))) rfl rfl (lt_ok rfl) rfl) ?_
   refine TL.nil ?_
   refine T.ret ?_
   exact ⟨[(false, [.d (.bool false)])], (.cons rfl .nil), rfl, [], (RetC.rd' (by (congr 1; symm; first | (apply decide_eq_false; rintro rfl; first | exact absurd rfl ‹¬ _ = _› | contradiction) | (apply decide_eq_true; apply SProof.ext <;> first | assumption | exact Decidable.not_not.1 (by assumption)))) .nil)⟩
  ·
   replace h2 : (decide (a.f1 = b.f1)) = true := by simpa only [Bool.not_eq_true', Bool.not_eq_false'] using h2
   replace h2 := of_decide_eq_true h2
   refine T.skip ?_
   refine T.seq ?_
   refine T.region ?_
   refine TL.cons rfl (Step.assign (p := (.one (.d (.bool true)))) rfl rfl (lt_ok rfl) rfl) ?_
   refine TL.nil ?_
   refine T.ret ?_
   exact ⟨[(false, [.d (.bool true)])], (.cons rfl .nil), rfl, [], (RetC.rd' (by (congr 1; symm; first | (apply decide_eq_false; rintro rfl; first | exact absurd rfl ‹¬ _ = _› | contradiction) | (apply decide_eq_true; apply SProof.ext <;> first | assumption | exact Decidable.not_not.1 (by assumption)))) .nil)⟩
theorem ok_laws_eqMsg (a : SMsg) (b : SMsg) : RO Try.prog 43 [.agg a.cells, .agg b.cells] [(false, [.rd (.bool (decide (a = b)))])] := by
 refine RO.intro Try.func43 rfl 52 rfl (le_ok rfl) fun w Z => ?_
 refine T.seq ?_
 refine T.region ?_
 refine TL.cons rfl (Step.box (p := (.agg [.d (.int .i64 a.f0), .d (.int .i64 a.f1.f0), .d (.int .i64 a.f1.f1), .d (.ints .u8 a.f1.f2), .d (.int .i64 a.f1.f3), .d (.ints .u8 a.f1.f4), .d (.int .i64 a.f2.f0), .d (.int .i64 a.f2.f1), .d (.ints .u8 a.f2.f2), .d (.ints .u8 a.f2.f3), .d (.bss a.f2.f4), .d (.int .i64 a.f3.f0), .d (.int .i64 a.f3.f1), .d (.int .i64 a.f3.f2), .d (.ints .u8 a.f3.f3), .d (.ints .u8 a.f3.f4), .d (.int .i64 a.f3.f5.f0), .d (.int .i64 a.f3.f5.f1), .d (.ints .u8 a.f3.f5.f2), .d (.ints .u8 a.f3.f5.f3), .d (.bss a.f3.f5.f4), .d (.int .i64 a.f4.f0.f0), .d (.int .i64 a.f4.f0.f1), .d (.int .i64 a.f4.f0.f2), .d (.ints .u8 a.f4.f0.f3), .d (.ints .u8 a.f4.f0.f4), .d (.int .i64 a.f4.f0.f5.f0), .d (.int .i64 a.f4.f0.f5.f1), .d (.ints .u8 a.f4.f0.f5.f2), .d (.ints .u8 a.f4.f0.f5.f3), .d (.bss a.f4.f0.f5.f4), .d (.bss a.f4.f1), .d (.int .i64 a.f5.f0), .d (.sl 3 (a.f5.f1.map SEntry.cells)), .d (.sl 10 (a.f6.f0.map SHead.cells)), .d (.int .i64 a.f6.f1.f0), .d (.int .i64 a.f6.f1.f1), .d (.ints .u8 a.f6.f1.f2), .d (.ints .u8 a.f6.f1.f3), .d (.bss a.f6.f1.f4), .d (.int .i64 a.f7.f0), .d (.int .i64 a.f7.f1), .d (.int .i64 a.f7.f2), .d (.ints .u8 a.f7.f3), .d (.bss a.f7.f4)])) (ps := [.d (.int .i64 a.f0), .d (.int .i64 a.f1.f0), .d (.int .i64 a.f1.f1), .d (.ints .u8 a.f1.f2), .d (.int .i64 a.f1.f3), .d (.ints .u8 a.f1.f4), .d (.int .i64 a.f2.f0), .d (.int .i64 a.f2.f1), .d (.ints .u8 a.f2.f2), .d (.ints .u8 a.f2.f3), .d (.bss a.f2.f4), .d (.int .i64 a.f3.f0), .d (.int .i64 a.f3.f1), .d (.int .i64 a.f3.f2), .d (.ints .u8 a.f3.f3), .d (.ints .u8 a.f3.f4), .d (.int .i64 a.f3.f5.f0), .d (.int .i64 a.f3.f5.f1), .d (.ints .u8 a.f3.f5.f2), .d (.ints .u8 a.f3.f5.f3), .d (.bss a.f3.f5.f4), .d (.int .i64 a.f4.f0.f0), .d (.int .i64 a.f4.f0.f1), .d (.int .i64 a.f4.f0.f2), .d (.ints .u8 a.f4.f0.f3), .d (.ints .u8 a.f4.f0.f4), .d (.int .i64 a.f4.f0.f5.f0), .d (.int .i64 a.f4.f0.f5.f1), .d (.ints .u8 a.f4.f0.f5.f2), .d (.ints .u8 a.f4.f0.f5.f3), .d (.bss a.f4.f0.f5.f4), .d (.bss a.f4.f1), .d (.int .i64 a.f5.f0), .d (.sl 3 (a.f5.f1.map SEntry.cells)), .d (.sl 10 (a.f6.f0.map SHead.cells)), .d (.int .i64 a.f6.f1.f0), .d (.int .i64 a.f6.f1.f1), .d (.ints .u8 a.f6.f1.f2), .d (.ints .u8 a.f6.f1.f3), .d (.bss a.f6.f1.f4), .d (.int .i64 a.f7.f0), .d (.int .i64 a.f7.f1), .d (.int .i64 a.f7.f2), .d (.ints .u8 a.f7.f3), .d (.bss a.f7.f4)]) rfl rfl (lt_ok rfl) rfl rfl rfl rfl rfl) ?_
 refine TL.cons rfl (Step.box (p := (.agg [.d (.int .i64 b.f0), .d (.int .i64 b.f1.f0), .d (.int .i64 b.f1.f1), .d (.ints .u8 b.f1.f2), .d (.int .i64 b.f1.f3), .d (.ints .u8 b.f1.f4), .d (.int .i64 b.f2.f0), .d (.int .i64 b.f2.f1), .d (.ints .u8 b.f2.f2), .d (.ints .u8 b.f2.f3), .d (.bss b.f2.f4), .d (.int .i64 b.f3.f0), .d (.int .i64 b.f3.f1), .d (.int .i64 b.f3.f2), .d (.ints .u8 b.f3.f3), .d (.ints .u8 b.f3.f4), .d (.int .i64 b.f3.f5.f0), .d (.int .i64 b.f3.f5.f1), .d (.ints .u8 b.f3.f5.f2), .d (.ints .u8 b.f3.f5.f3), .d (.bss b.f3.f5.f4), .d (.int .i64 b.f4.f0.f0), .d (.int .i64 b.f4.f0.f1), .d (.int .i64 b.f4.f0.f2), .d (.ints .u8 b.f4.f0.f3), .d (.ints .u8 b.f4.f0.f4), .d (.int .i64 b.f4.f0.f5.f0), .d (.int .i64 b.f4.f0.f5.f1), .d (.ints .u8 b.f4.f0.f5.f2), .d (.ints .u8 b.f4.f0.f5.f3), .d (.bss b.f4.f0.f5.f4), .d (.bss b.f4.f1), .d (.int .i64 b.f5.f0), .d (.sl 3 (b.f5.f1.map SEntry.cells)), .d (.sl 10 (b.f6.f0.map SHead.cells)), .d (.int .i64 b.f6.f1.f0), .d (.int .i64 b.f6.f1.f1), .d (.ints .u8 b.f6.f1.f2), .d (.ints .u8 b.f6.f1.f3), .d (.bss b.f6.f1.f4), .d (.int .i64 b.f7.f0), .d (.int .i64 b.f7.f1), .d (.int .i64 b.f7.f2), .d (.ints .u8 b.f7.f3), .d (.bss b.f7.f4)])) (ps := [.d (.int .i64 b.f0), .d (.int .i64 b.f1.f0), .d (.int .i64 b.f1.f1), .d (.ints .u8 b.f1.f2), .d (.int .i64 b.f1.f3), .d (.ints .u8 b.f1.f4), .d (.int .i64 b.f2.f0), .d (.int .i64 b.f2.f1), .d (.ints .u8 b.f2.f2), .d (.ints .u8 b.f2.f3), .d (.bss b.f2.f4), .d (.int .i64 b.f3.f0), .d (.int .i64 b.f3.f1), .d (.int .i64 b.f3.f2), .d (.ints .u8 b.f3.f3), .d (.ints .u8 b.f3.f4), .d (.int .i64 b.f3.f5.f0), .d (.int .i64 b.f3.f5.f1), .d (.ints .u8 b.f3.f5.f2), .d (.ints .u8 b.f3.f5.f3), .d (.bss b.f3.f5.f4), .d (.int .i64 b.f4.f0.f0), .d (.int .i64 b.f4.f0.f1), .d (.int .i64 b.f4.f0.f2), .d (.ints .u8 b.f4.f0.f3), .d (.ints .u8 b.f4.f0.f4), .d (.int .i64 b.f4.f0.f5.f0), .d (.int .i64 b.f4.f0.f5.f1), .d (.ints .u8 b.f4.f0.f5.f2), .d (.ints .u8 b.f4.f0.f5.f3), .d (.bss b.f4.f0.f5.f4), .d (.bss b.f4.f1), .d (.int .i64 b.f5.f0), .d (.sl 3 (b.f5.f1.map SEntry.cells)), .d (.sl 10 (b.f6.f0.map SHead.cells)), .d (.int .i64 b.f6.f1.f0), .d (.int .i64 b.f6.f1.f1), .d (.ints .u8 b.f6.f1.f2), .d (.ints .u8 b.f6.f1.f3), .d (.bss b.f6.f1.f4), .d (.int .i64 b.f7.f0), .d (.int .i64 b.f7.f1), .d (.int .i64 b.f7.f2), .d (.ints .u8 b.f7.f3), .d (.bss b.f7.f4)]) rfl rfl (lt_ok rfl) rfl rfl rfl rfl rfl) ?_
 refine TL.cons rfl (Step.assign (p := (.one (.d (.bool false)))) rfl rfl (lt_ok rfl) rfl) ?_
 refine TL.nil ?_
 refine T.weaken (E' := { tm := [(2, (.one (.ptr 2 0))), (3, (.one (.ptr 3 0))), (4, (.one (.d (.bool false))))], rows := [], boxes := [(2, (75, [.d (.int .i64 a.f0), .d (.int .i64 a.f1.f0), .d (.int .i64 a.f1.f1), .d (.ints .u8 a.f1.f2), .d (.int .i64 a.f1.f3), .d (.ints .u8 a.f1.f4), .d (.int .i64 a.f2.f0), .d (.int .i64 a.f2.f1), .d (.ints .u8 a.f2.f2), .d (.ints .u8 a.f2.f3), .d (.bss a.f2.f4), .d (.int .i64 a.f3.f0), .d (.int .i64 a.f3.f1), .d (.int .i64 a.f3.f2), .d (.ints .u8 a.f3.f3), .d (.ints .u8 a.f3.f4), .d (.int .i64 a.f3.f5.f0), .d (.int .i64 a.f3.f5.f1), .d (.ints .u8 a.f3.f5.f2), .d (.ints .u8 a.f3.f5.f3), .d (.bss a.f3.f5.f4), .d (.int .i64 a.f4.f0.f0), .d (.int .i64 a.f4.f0.f1), .d (.int .i64 a.f4.f0.f2), .d (.ints .u8 a.f4.f0.f3), .d (.ints .u8 a.f4.f0.f4), .d (.int .i64 a.f4.f0.f5.f0), .d (.int .i64 a.f4.f0.f5.f1), .d (.ints .u8 a.f4.f0.f5.f2), .d (.ints .u8 a.f4.f0.f5.f3), .d (.bss a.f4.f0.f5.f4), .d (.bss a.f4.f1), .d (.int .i64 a.f5.f0), .d (.sl 3 (a.f5.f1.map SEntry.cells)), .d (.sl 10 (a.f6.f0.map SHead.cells)), .d (.int .i64 a.f6.f1.f0), .d (.int .i64 a.f6.f1.f1), .d (.ints .u8 a.f6.f1.f2), .d (.ints .u8 a.f6.f1.f3), .d (.bss a.f6.f1.f4), .d (.int .i64 a.f7.f0), .d (.int .i64 a.f7.f1), .d (.int .i64 a.f7.f2), .d (.ints .u8 a.f7.f3), .d (.bss a.f7.f4)])), (3, (75, [.d (.int .i64 b.f0), .d (.int .i64 b.f1.f0), .d (.int .i64 b.f1.f1), .d (.ints .u8 b.f1.f2), .d (.int .i64 b.f1.f3), .d (.ints .u8 b.f1.f4), .d (.int .i64 b.f2.f0), .d (.int .i64 b.f2.f1), .d (.ints .u8 b.f2.f2), .d (.ints .u8 b.f2.f3), .d (.bss b.f2.f4), .d (.int .i64 b.f3.f0), .d (.int .i64 b.f3.f1), .d (.int .i64 b.f3.f2), .d (.ints .u8 b.f3.f3), .d (.ints .u8 b.f3.f4), .d (.int .i64 b.f3.f5.f0), .d (.int .i64 b.f3.f5.f1), .d (.ints .u8 b.f3.f5.f2), .d (.ints .u8 b.f3.f5.f3), .d (.bss b.f3.f5.f4), .d (.int .i64 b.f4.f0.f0), .d (.int .i64 b.f4.f0.f1), .d (.int .i64 b.f4.f0.f2), .d (.ints .u8 b.f4.f0.f3), .d (.ints .u8 b.f4.f0.f4), .d (.int .i64 b.f4.f0.f5.f0), .d (.int .i64 b.f4.f0.f5.f1), .d (.ints .u8 b.f4.f0.f5.f2), .d (.ints .u8 b.f4.f0.f5.f3), .d (.bss b.f4.f0.f5.f4), .d (.bss b.f4.f1), .d (.int .i64 b.f5.f0), .d (.sl 3 (b.f5.f1.map SEntry.cells)), .d (.sl 10 (b.f6.f0.map SHead.cells)), .d (.int .i64 b.f6.f1.f0), .d (.int .i64 b.f6.f1.f1), .d (.ints .u8 b.f6.f1.f2), .d (.ints .u8 b.f6.f1.f3), .d (.bss b.f6.f1.f4), .d (.int .i64 b.f7.f0), .d (.int .i64 b.f7.f1), .d (.int .i64 b.f7.f2), .d (.ints .u8 b.f7.f3), .d (.bss b.f7.f4)]))] }) (Env.le_mk ⟨by kernel_rfl, by kernel_rfl, by kernel_rfl, trivial⟩ trivial ⟨by kernel_rfl, by kernel_rfl, trivial⟩) ?_
 refine T.seq ?_
 refine T.seq ?_
 refine T.region ?_
 refine TL.cons rfl (Step.fieldAddr (q := 0) (off := 0) (n := 1) (one := true) rfl rfl (lt_ok rfl) (by kernel_rfl) (Nat.succ_ne_zero _) rfl) ?_
 refine TL.cons rfl (Step.load_box (c := .d (.int .i64 a.f0)) rfl rfl (lt_ok rfl) (by kernel_rfl) rfl rfl rfl) ?_
 refine TL.cons rfl (Step.fieldAddr (q := 0) (off := 0) (n := 1) (one := true) rfl rfl (lt_ok rfl) (by kernel_rfl) (Nat.succ_ne_zero _) rfl) ?_
 refine TL.cons rfl (Step.load_box (c := .d (.int .i64 b.f0)) rfl rfl (lt_ok rfl) (by kernel_rfl) rfl rfl rfl) ?_
 refine TL.cons rfl (Step.bin rfl rfl (lt_ok rfl) rfl rfl (Bin.neq (k := .i64) (a := a.f0) (b := b.f0))) ?_
 refine TL.nil ?_
 refine T.cond (b := decide (a.f0 ≠ b.f0)) rfl (fun h1 => ?_) (fun h1 => ?_)
 ·
  replace h1 := of_decide_eq_true h1
  refine T.seq ?_
  refine T.region ?_
  refine TL.cons rfl (Step.assign (p := (.one (.d (.bool false)))) rfl rfl (lt_ok rfl) rfl) ?_
  refine TL.nil ?_
  refine T.ret ?_
  exact ⟨[(false, [.d (.bool false)])], (.cons rfl .nil), rfl, [], (RetC.rd' (by (congr 1; symm; first | (apply decide_eq_false; rintro rfl; first | exact absurd rfl ‹¬ _ = _› | contradiction) | (apply decide_eq_true; apply SMsg.ext <;> first | assumption | exact Decidable.not_not.1 (by assumption)))) .nil)⟩
 ·
  replace h1 := of_decide_eq_false h1
  refine T.skip ?_
  refine T.seq ?_
  refine T.seq ?_
  refine T.region ?_
  refine TL.cons rfl (Step.fieldAddr (q := 0) (off := 1) (n := 5) (one := false) rfl rfl (lt_ok rfl) (by kernel_rfl) (Nat.succ_ne_zero _) rfl) ?_
  refine TL.cons rfl (Step.load_box_agg (n := 5) (qs := [.d (.int .i64 a.f1.f0), .d (.int .i64 a.f1.f1), .d (.ints .u8 a.f1.f2), .d (.int .i64 a.f1.f3), .d (.ints .u8 a.f1.f4)]) rfl rfl (lt_ok rfl) (by kernel_rfl) rfl rfl rfl rfl) ?_
  refine TL.cons rfl (Step.fieldAddr (q := 0) (off := 1) (n := 5) (one := false) rfl rfl (lt_ok rfl) (by kernel_rfl) (Nat.succ_ne_zero _) rfl) ?_
  refine TL.cons rfl (Step.load_box_agg (n := 5) (qs := [.d (.int .i64 b.f1.f0), .d (.int .i64 b.f1.f1), .d (.ints .u8 b.f1.f2), .d (.int .i64 b.f1.f3), .d (.ints .u8 b.f1.f4)]) rfl rfl (lt_ok rfl) (by kernel_rfl) rfl rfl rfl rfl) ?_
  refine TL.cons rfl (Step.call (f := 44) (xs := [.tmp 11, .tmp 13]) (ps := [(.agg [.d (.int .i64 a.f1.f0), .d (.int .i64 a.f1.f1), .d (.ints .u8 a.f1.f2), .d (.int .i64 a.f1.f3), .d (.ints .u8 a.f1.f4)]), (.agg [.d (.int .i64 b.f1.f0), .d (.int .i64 b.f1.f1), .d (.ints .u8 b.f1.f2), .d (.int .i64 b.f1.f3), .d (.ints .u8 b.f1.f4)])]) false (g := .func 44) rfl rfl (lt_ok rfl) rfl (by kernel_rfl) rfl (.cons (.agg (.cons (.d _) (.cons (.d _) (.cons (.d _) (.cons (.d _) (.cons (.d _) .nil)))))) (.cons (.agg (.cons (.d _) (.cons (.d _) (.cons (.d _) (.cons (.d _) (.cons (.d _) .nil)))))) .nil)) (ok_laws_eqVote a.f1 b.f1) (.inr rfl) rfl (by simp) rfl) ?_
  refine TL.cons rfl (Step.not (b := (decide (a.f1 = b.f1))) rfl rfl (lt_ok rfl) rfl) ?_
  refine TL.nil ?_
  refine T.cond (b := !(decide (a.f1 = b.f1))) rfl (fun h2 => ?_) (fun h2 => ?_)
  ·
   replace h2 : (decide (a.f1 = b.f1)) = false := by simpa only [Bool.not_eq_true', Bool.not_eq_false'] using h2
   replace h2 := of_decide_eq_false h2
   refine T.seq ?_
   refine T.region ?_
   refine TL.cons rfl (Step.assign (p := (.one (.d (.bool false)))) rfl rfl (lt_ok rfl) rfl) ?_
   refine TL.nil ?_
   refine T.ret ?_
   exact ⟨[(false, [.d (.bool false)])], (.cons rfl .nil), rfl, [], (RetC.rd' (by (congr 1; symm; first | (apply decide_eq_false; rintro rfl; first | exact absurd rfl ‹¬ _ = _› | contradiction) | (apply decide_eq_true; apply SMsg.ext <;> first | assumption | exact Decidable.not_not.1 (by assumption)))) .nil)⟩
  ·
   replace h2 : (decide (a.f1 = b.f1)) = true := by simpa only [Bool.not_eq_true', Bool.not_eq_false'] using h2
   replace h2 := of_decide_eq_true h2
   refine T.skip ?_
   refine T.seq ?_
   refine T.seq ?_
   refine T.region ?_
   refine TL.cons rfl (Step.fieldAddr (q := 0) (off := 6) (n := 5) (one := false) rfl rfl (lt_ok rfl) (by kernel_rfl) (Nat.succ_ne_zero _) rfl) ?_
   refine TL.cons rfl (Step.load_box_agg (n := 5) (qs := [.d (.int .i64 a.f2.f0), .d (.int .i64 a.f2.f1), .d (.ints .u8 a.f2.f2), .d (.ints .u8 a.f2.f3), .d (.bss a.f2.f4)]) rfl rfl (lt_ok rfl) (by kernel_rfl) rfl rfl rfl rfl) ?_
   refine TL.cons rfl (Step.fieldAddr (q := 0) (off := 6) (n := 5) (one := false) rfl rfl (lt_ok rfl) (by kernel_rfl) (Nat.succ_ne_zero _) rfl) ?_
   refine TL.cons rfl (Step.load_box_agg (n := 5) (qs := [.d (.int .i64 b.f2.f0), .d (.int .i64 b.f2.f1), .d (.ints .u8 b.f2.f2), .d (.ints .u8 b.f2.f3), .d (.bss b.f2.f4)]) rfl rfl (lt_ok rfl) (by kernel_rfl) rfl rfl rfl rfl) ?_
   refine TL.cons rfl (Step.call (f := 20) (xs := [.tmp 17, .tmp 19]) (ps := [(.agg [.d (.int .i64 a.f2.f0), .d (.int .i64 a.f2.f1), .d (.ints .u8 a.f2.f2), .d (.ints .u8 a.f2.f3), .d (.bss a.f2.f4)]), (.agg [.d (.int .i64 b.f2.f0), .d (.int .i64 b.f2.f1), .d (.ints .u8 b.f2.f2), .d (.ints .u8 b.f2.f3), .d (.bss b.f2.f4)])]) false (g := .func 20) rfl rfl (lt_ok rfl) rfl (by kernel_rfl) rfl (.cons (.agg (.cons (.d _) (.cons (.d _) (.cons (.d _) (.cons (.d _) (.cons (.d _) .nil)))))) (.cons (.agg (.cons (.d _) (.cons (.d _) (.cons (.d _) (.cons (.d _) (.cons (.d _) .nil)))))) .nil)) (ok_laws_eqQc a.f2 b.f2) (.inr rfl) rfl (by simp) rfl) ?_
   refine TL.cons rfl (Step.not (b := (decide (a.f2 = b.f2))) rfl rfl (lt_ok rfl) rfl) ?_
   refine TL.nil ?_
   refine T.cond (b := !(decide (a.f2 = b.f2))) rfl (fun h3 => ?_) (fun h3 => ?_)
   ·
    replace h3 : (decide (a.f2 = b.f2)) = false := by simpa only [Bool.not_eq_true', Bool.not_eq_false'] using h3
    replace h3 := of_decide_eq_false h3
    refine T.seq ?_
    refine T.region ?_
    refine TL.cons rfl (Step.assign (p := (.one (.d (.bool false)))) rfl rfl (lt_ok rfl) rfl) ?_
    refine TL.nil ?_
    refine T.ret ?_
    exact ⟨[(false, [.d (.bool false)])], (.cons rfl .nil), rfl, [], (RetC.rd' (by (congr 1; symm; first | (apply decide_eq_false; rintro rfl; first | exact absurd rfl ‹¬ _ = _› | contradiction) | (apply decide_eq_true; apply SMsg.ext <;> first | assumption | exact Decidable.not_not.1 (by assumption)))) .nil)⟩
   ·
    replace h3 : (decide (a.f2 = b.f2)) = true := by simpa only [Bool.not_eq_true', Bool.not_eq_false'] using h3
    replace h3 := of_decide_eq_true h3
    refine T.skip ?_
    refine T.seq ?_
    refine T.seq ?_
    refine T.region ?_
    refine TL.cons rfl (Step.fieldAddr (q := 0) (off := 11) (n := 10) (one := false) rfl rfl (lt_ok rfl) (by kernel_rfl) (Nat.succ_ne_zero _) rfl) ?_
    refine TL.cons rfl (Step.load_box_agg (n := 10) (qs := [.d (.int .i64 a.f3.f0), .d (.int .i64 a.f3.f1), .d (.int .i64 a.f3.f2), .d (.ints .u8 a.f3.f3), .d (.ints .u8 a.f3.f4), .d (.int .i64 a.f3.f5.f0), .d (.int .i64 a.f3.f5.f1), .d (.ints .u8 a.f3.f5.f2), .d (.ints .u8 a.f3.f5.f3), .d (.bss a.f3.f5.f4)]) rfl rfl (lt_ok rfl) (by kernel_rfl) rfl rfl rfl rfl) ?_
    refine TL.cons rfl (Step.fieldAddr (q := 0) (off := 11) (n := 10) (one := false) rfl rfl (lt_ok rfl) (by kernel_rfl) (Nat.succ_ne_zero _) rfl) ?_
    refine TL.cons rfl (Step.load_box_agg (n := 10) (qs := [.d (.int .i64 b.f3.f0), .d (.int .i64 b.f3.f1), .d (.int .i64 b.f3.f2), .d (.ints .u8 b.f3.f3), .d (.ints .u8 b.f3.f4), .d (.int .i64 b.f3.f5.f0), .d (.int .i64 b.f3.f5.f1), .d (.ints .u8 b.f3.f5.f2), .d (.ints .u8 b.f3.f5.f3), .d (.bss b.f3.f5.f4)]) rfl rfl (lt_ok rfl) (by kernel_rfl) rfl rfl rfl rfl) ?_
    refine TL.cons rfl (Step.call (f := 65) (xs := [.tmp 23, .tmp 25]) (ps := [(.agg [.d (.int .i64 a.f3.f0), .d (.int .i64 a.f3.f1), .d (.int .i64 a.f3.f2), .d (.ints .u8 a.f3.f3), .d (.ints .u8 a.f3.f4), .d (.int .i64 a.f3.f5.f0), .d (.int .i64 a.f3.f5.f1), .d (.ints .u8 a.f3.f5.f2), .d (.ints .u8 a.f3.f5.f3), .d (.bss a.f3.f5.f4)]), (.agg [.d (.int .i64 b.f3.f0), .d (.int .i64 b.f3.f1), .d (.int .i64 b.f3.f2), .d (.ints .u8 b.f3.f3), .d (.ints .u8 b.f3.f4), .d (.int .i64 b.f3.f5.f0), .d (.int .i64 b.f3.f5.f1), .d (.ints .u8 b.f3.f5.f2), .d (.ints .u8 b.f3.f5.f3), .d (.bss b.f3.f5.f4)])]) false (g := .func 65) rfl rfl (lt_ok rfl) rfl (by kernel_rfl) rfl (.cons (.agg (.cons (.d _) (.cons (.d _) (.cons (.d _) (.cons (.d _) (.cons (.d _) (.cons (.d _) (.cons (.d _) (.cons (.d _) (.cons (.d _) (.cons (.d _) .nil))))))))))) (.cons (.agg (.cons (.d _) (.cons (.d _) (.cons (.d _) (.cons (.d _) (.cons (.d _) (.cons (.d _) (.cons (.d _) (.cons (.d _) (.cons (.d _) (.cons (.d _) .nil))))))))))) .nil)) (ok_laws_eqHead a.f3 b.f3) (.inr rfl) rfl (by simp) rfl) ?_
    refine TL.cons rfl (Step.not (b := (decide (a.f3 = b.f3))) rfl rfl (lt_ok rfl) rfl) ?_
    refine TL.nil ?_
    refine T.cond (b := !(decide (a.f3 = b.f3))) rfl (fun h4 => ?_) (fun h4 => ?_)
    ·
     replace h4 : (decide (a.f3 = b.f3)) = false := by simpa only [Bool.not_eq_true', Bool.not_eq_false'] using h4
     replace h4 := of_decide_eq_false h4
     refine T.seq ?_
     refine T.region ?_
     refine TL.cons rfl (Step.assign (p := (.one (.d (.bool false)))) rfl rfl (lt_ok rfl) rfl) ?_
     refine TL.nil ?_
     refine T.ret ?_
     exact ⟨[(false, [.d (.bool false)])], (.cons rfl .nil), rfl, [], (RetC.rd' (by (congr 1; symm; first | (apply decide_eq_false; rintro rfl; first | exact absurd rfl ‹¬ _ = _› | contradiction) | (apply decide_eq_true; apply SMsg.ext <;> first | assumption | exact Decidable.not_not.1 (by assumption)))) .nil)⟩
    ·
     replace h4 : (decide (a.f3 = b.f3)) = true := by simpa only [Bool.not_eq_true', Bool.not_eq_false'] using h4
     replace h4 := of_decide_eq_true h4
     refine T.skip ?_
     refine T.seq ?_
     refine T.seq ?_
     refine T.region ?_
     refine TL.cons rfl (Step.fieldAddr (q := 0) (off := 21) (n := 11) (one := false) rfl rfl (lt_ok rfl) (by kernel_rfl) (Nat.succ_ne_zero _) rfl) ?_
     refine TL.cons rfl (Step.load_box_agg (n := 11) (qs := [.d (.int .i64 a.f4.f0.f0), .d (.int .i64 a.f4.f0.f1), .d (.int .i64 a.f4.f0.f2), .d (.ints .u8 a.f4.f0.f3), .d (.ints .u8 a.f4.f0.f4), .d (.int .i64 a.f4.f0.f5.f0), .d (.int .i64 a.f4.f0.f5.f1), .d (.ints .u8 a.f4.f0.f5.f2), .d (.ints .u8 a.f4.f0.f5.f3), .d (.bss a.f4.f0.f5.f4), .d (.bss a.f4.f1)]) rfl rfl (lt_ok rfl) (by kernel_rfl) rfl rfl rfl rfl) ?_
     refine TL.cons rfl (Step.fieldAddr (q := 0) (off := 21) (n := 11) (one := false) rfl rfl (lt_ok rfl) (by kernel_rfl) (Nat.succ_ne_zero _) rfl) ?_
     refine TL.cons rfl (Step.load_box_agg (n := 11) (qs := [.d (.int .i64 b.f4.f0.f0), .d (.int .i64 b.f4.f0.f1), .d (.int .i64 b.f4.f0.f2), .d (.ints .u8 b.f4.f0.f3), .d (.ints .u8 b.f4.f0.f4), .d (.int .i64 b.f4.f0.f5.f0), .d (.int .i64 b.f4.f0.f5.f1), .d (.ints .u8 b.f4.f0.f5.f2), .d (.ints .u8 b.f4.f0.f5.f3), .d (.bss b.f4.f0.f5.f4), .d (.bss b.f4.f1)]) rfl rfl (lt_ok rfl) (by kernel_rfl) rfl rfl rfl rfl) ?_
     refine TL.cons rfl (Step.call (f := 100) (xs := [.tmp 29, .tmp 31]) (ps := [(.agg [.d (.int .i64 a.f4.f0.f0), .d (.int .i64 a.f4.f0.f1), .d (.int .i64 a.f4.f0.f2), .d (.ints .u8 a.f4.f0.f3), .d (.ints .u8 a.f4.f0.f4), .d (.int .i64 a.f4.f0.f5.f0), .d (.int .i64 a.f4.f0.f5.f1), .d (.ints .u8 a.f4.f0.f5.f2), .d (.ints .u8 a.f4.f0.f5.f3), .d (.bss a.f4.f0.f5.f4), .d (.bss a.f4.f1)]), (.agg [.d (.int .i64 b.f4.f0.f0), .d (.int .i64 b.f4.f0.f1), .d (.int .i64 b.f4.f0.f2), .d (.ints .u8 b.f4.f0.f3), .d (.ints .u8 b.f4.f0.f4), .d (.int .i64 b.f4.f0.f5.f0), .d (.int .i64 b.f4.f0.f5.f1), .d (.ints .u8 b.f4.f0.f5.f2), .d (.ints .u8 b.f4.f0.f5.f3), .d (.bss b.f4.f0.f5.f4), .d (.bss b.f4.f1)])]) false (g := .func 100) rfl rfl (lt_ok rfl) rfl (by kernel_rfl) rfl (.cons (.agg (.cons (.d _) (.cons (.d _) (.cons (.d _) (.cons (.d _) (.cons (.d _) (.cons (.d _) (.cons (.d _) (.cons (.d _) (.cons (.d _) (.cons (.d _) (.cons (.d _) .nil)))))))))))) (.cons (.agg (.cons (.d _) (.cons (.d _) (.cons (.d _) (.cons (.d _) (.cons (.d _) (.cons (.d _) (.cons (.d _) (.cons (.d _) (.cons (.d _) (.cons (.d _) (.cons (.d _) .nil)))))))))))) .nil)) (ok_laws_eqBlock a.f4 b.f4) (.inr rfl) rfl (by simp) rfl) ?_
     refine TL.cons rfl (Step.not (b := (decide (a.f4 = b.f4))) rfl rfl (lt_ok rfl) rfl) ?_
     refine TL.nil ?_
     refine T.weaken (E' := { tm := [(2, (.one (.ptr 2 0))), (3, (.one (.ptr 3 0))), (4, (.one (.d (.bool false)))), (33, (.one (.d (.bool (!(decide (a.f4 = b.f4)))))))], rows := [], boxes := [(2, (75, [.d (.int .i64 a.f0), .d (.int .i64 a.f1.f0), .d (.int .i64 a.f1.f1), .d (.ints .u8 a.f1.f2), .d (.int .i64 a.f1.f3), .d (.ints .u8 a.f1.f4), .d (.int .i64 a.f2.f0), .d (.int .i64 a.f2.f1), .d (.ints .u8 a.f2.f2), .d (.ints .u8 a.f2.f3), .d (.bss a.f2.f4), .d (.int .i64 a.f3.f0), .d (.int .i64 a.f3.f1), .d (.int .i64 a.f3.f2), .d (.ints .u8 a.f3.f3), .d (.ints .u8 a.f3.f4), .d (.int .i64 a.f3.f5.f0), .d (.int .i64 a.f3.f5.f1), .d (.ints .u8 a.f3.f5.f2), .d (.ints .u8 a.f3.f5.f3), .d (.bss a.f3.f5.f4), .d (.int .i64 a.f4.f0.f0), .d (.int .i64 a.f4.f0.f1), .d (.int .i64 a.f4.f0.f2), .d (.ints .u8 a.f4.f0.f3), .d (.ints .u8 a.f4.f0.f4), .d (.int .i64 a.f4.f0.f5.f0), .d (.int .i64 a.f4.f0.f5.f1), .d (.ints .u8 a.f4.f0.f5.f2), .d (.ints .u8 a.f4.f0.f5.f3), .d (.bss a.f4.f0.f5.f4), .d (.bss a.f4.f1), .d (.int .i64 a.f5.f0), .d (.sl 3 (a.f5.f1.map SEntry.cells)), .d (.sl 10 (a.f6.f0.map SHead.cells)), .d (.int .i64 a.f6.f1.f0), .d (.int .i64 a.f6.f1.f1), .d (.ints .u8 a.f6.f1.f2), .d (.ints .u8 a.f6.f1.f3), .d (.bss a.f6.f1.f4), .d (.int .i64 a.f7.f0), .d (.int .i64 a.f7.f1), .d (.int .i64 a.f7.f2), .d (.ints .u8 a.f7.f3), .d (.bss a.f7.f4)])), (3, (75, [.d (.int .i64 b.f0), .d (.int .i64 b.f1.f0), .d (.int .i64 b.f1.f1), .d (.ints .u8 b.f1.f2), .d (.int .i64 b.f1.f3), .d (.ints .u8 b.f1.f4), .d (.int .i64 b.f2.f0), .d (.int .i64 b.f2.f1), .d (.ints .u8 b.f2.f2), .d (.ints .u8 b.f2.f3), .d (.bss b.f2.f4), .d (.int .i64 b.f3.f0), .d (.int .i64 b.f3.f1), .d (.int .i64 b.f3.f2), .d (.ints .u8 b.f3.f3), .d (.ints .u8 b.f3.f4), .d (.int .i64 b.f3.f5.f0), .d (.int .i64 b.f3.f5.f1), .d (.ints .u8 b.f3.f5.f2), .d (.ints .u8 b.f3.f5.f3), .d (.bss b.f3.f5.f4), .d (.int .i64 b.f4.f0.f0), .d (.int .i64 b.f4.f0.f1), .d (.int .i64 b.f4.f0.f2), .d (.ints .u8 b.f4.f0.f3), .d (.ints .u8 b.f4.f0.f4), .d (.int .i64 b.f4.f0.f5.f0), .d (.int .i64 b.f4.f0.f5.f1), .d (.ints .u8 b.f4.f0.f5.f2), .d (.ints .u8 b.f4.f0.f5.f3), .d (.bss b.f4.f0.f5.f4), .d (.bss b.f4.f1), .d (.int .i64 b.f5.f0), .d (.sl 3 (b.f5.f1.map SEntry.cells)), .d (.sl 10 (b.f6.f0.map SHead.cells)), .d (.int .i64 b.f6.f1.f0), .d (.int .i64 b.f6.f1.f1), .d (.ints .u8 b.f6.f1.f2), .d (.ints .u8 b.f6.f1.f3), .d (.bss b.f6.f1.f4), .d (.int .i64 b.f7.f0), .d (.int .i64 b.f7.f1), .d (.int .i64 b.f7.f2), .d (.ints .u8 b.f7.f3), .d (.bss b.f7.f4)]))] }) (Env.le_mk ⟨by kernel_rfl, by kernel_rfl, by kernel_rfl, by kernel_rfl, trivial⟩ trivial ⟨by kernel_rfl, by kernel_rfl, trivial⟩) ?_
     refine T.cond (b := !(decide (a.f4 = b.f4))) rfl (fun h5 => ?_) (fun h5 => ?_)
     ·
      replace h5 : (decide (a.f4 = b.f4)) = false := by simpa only [Bool.not_eq_true', Bool.not_eq_false'] using h5
      replace h5 := of_decide_eq_false h5
      refine T.seq ?_
      refine T.region ?_
      refine TL.cons rfl (Step.assign (p := (.one (.d (.bool false)))) rfl rfl (lt_ok rfl) rfl) ?_
      refine TL.nil ?_
      refine T.ret ?_
      exact ⟨[(false, [.d (.bool false)])], (.cons rfl .nil), rfl, [], (RetC.rd' (by (congr 1; symm; first | (apply decide_eq_false; rintro rfl; first | exact absurd rfl ‹¬ _ = _› | contradiction) | (apply decide_eq_true; apply SMsg.ext <;> first | assumption | exact Decidable.not_not.1 (by assumption)))) .nil)⟩
     ·
      replace h5 : (decide (a.f4 = b.f4)) = true := by simpa only [Bool.not_eq_true', Bool.not_eq_false'] using h5
      replace h5 := of_decide_eq_true h5
      refine T.skip ?_
      refine T.seq ?_
      refine T.seq ?_
      refine T.region ?_
      refine TL.cons rfl (Step.fieldAddr (q := 0) (off := 32) (n := 2) (one := false) rfl rfl (lt_ok rfl) (by kernel_rfl) (Nat.succ_ne_zero _) rfl) ?_
      refine TL.cons rfl (Step.load_box_agg (n := 2) (qs := [.d (.int .i64 a.f5.f0), .d (.sl 3 (a.f5.f1.map SEntry.cells))]) rfl rfl (lt_ok rfl) (by kernel_rfl) rfl rfl rfl rfl) ?_
      refine TL.cons rfl (Step.fieldAddr (q := 0) (off := 32) (n := 2) (one := false) rfl rfl (lt_ok rfl) (by kernel_rfl) (Nat.succ_ne_zero _) rfl) ?_
      refine TL.cons rfl (Step.load_box_agg (n := 2) (qs := [.d (.int .i64 b.f5.f0), .d (.sl 3 (b.f5.f1.map SEntry.cells))]) rfl rfl (lt_ok rfl) (by kernel_rfl) rfl rfl rfl rfl) ?_
      refine TL.cons rfl (Step.call (f := 30) (xs := [.tmp 35, .tmp 37]) (ps := [(.agg [.d (.int .i64 a.f5.f0), .d (.sl 3 (a.f5.f1.map SEntry.cells))]), (.agg [.d (.int .i64 b.f5.f0), .d (.sl 3 (b.f5.f1.map SEntry.cells))])]) false (g := .func 30) rfl rfl (lt_ok rfl) rfl (by kernel_rfl) rfl (.cons (.agg (.cons (.d _) (.cons (.d _) .nil))) (.cons (.agg (.cons (.d _) (.cons (.d _) .nil))) .nil)) (ok_laws_eqTc a.f5 b.f5) (.inr rfl) rfl (by simp) rfl) ?_
      refine TL.cons rfl (Step.not (b := (decide (a.f5 = b.f5))) rfl rfl (lt_ok rfl) rfl) ?_
      refine TL.nil ?_
      refine T.cond (b := !(decide (a.f5 = b.f5))) rfl (fun h6 => ?_) (fun h6 => ?_)
      ·
       replace h6 : (decide (a.f5 = b.f5)) = false := by simpa only [Bool.not_eq_true', Bool.not_eq_false'] using h6
       replace h6 := of_decide_eq_false h6
       refine T.seq ?_
       refine T.region ?_
       refine TL.cons rfl (Step.assign (p := (.one (.d (.bool false)))) rfl rfl (lt_ok rfl) rfl) ?_
       refine TL.nil ?_
       refine T.ret ?_
       exact ⟨[(false, [.d (.bool false)])], (.cons rfl .nil), rfl, [], (RetC.rd' (by (congr 1; symm; first | (apply decide_eq_false; rintro rfl; first | exact absurd rfl ‹¬ _ = _› | contradiction) | (apply decide_eq_true; apply SMsg.ext <;> first | assumption | exact Decidable.not_not.1 (by assumption)))) .nil)⟩
      ·
       replace h6 : (decide (a.f5 = b.f5)) = true := by simpa only [Bool.not_eq_true', Bool.not_eq_false'] using h6
       replace h6 := of_decide_eq_true h6
       refine T.skip ?_
       refine T.seq ?_
       refine T.seq ?_
       refine T.region ?_
       refine TL.cons rfl (Step.fieldAddr (q := 0) (off := 34) (n := 6) (one := false) rfl rfl (lt_ok rfl) (by kernel_rfl) (Nat.succ_ne_zero _) rfl) ?_
       refine TL.cons rfl (Step.load_box_agg (n := 6) (qs := [.d (.sl 10 (a.f6.f0.map SHead.cells)), .d (.int .i64 a.f6.f1.f0), .d (.int .i64 a.f6.f1.f1), .d (.ints .u8 a.f6.f1.f2), .d (.ints .u8 a.f6.f1.f3), .d (.bss a.f6.f1.f4)]) rfl rfl (lt_ok rfl) (by kernel_rfl) rfl rfl rfl rfl) ?_
       refine TL.cons rfl (Step.fieldAddr (q := 0) (off := 34) (n := 6) (one := false) rfl rfl (lt_ok rfl) (by kernel_rfl) (Nat.succ_ne_zero _) rfl) ?_
       refine TL.cons rfl (Step.load_box_agg (n := 6) (qs := [.d (.sl 10 (b.f6.f0.map SHead.cells)), .d (.int .i64 b.f6.f1.f0), .d (.int .i64 b.f6.f1.f1), .d (.ints .u8 b.f6.f1.f2), .d (.ints .u8 b.f6.f1.f3), .d (.bss b.f6.f1.f4)]) rfl rfl (lt_ok rfl) (by kernel_rfl) rfl rfl rfl rfl) ?_
       refine TL.cons rfl (Step.call (f := 101) (xs := [.tmp 41, .tmp 43]) (ps := [(.agg [.d (.sl 10 (a.f6.f0.map SHead.cells)), .d (.int .i64 a.f6.f1.f0), .d (.int .i64 a.f6.f1.f1), .d (.ints .u8 a.f6.f1.f2), .d (.ints .u8 a.f6.f1.f3), .d (.bss a.f6.f1.f4)]), (.agg [.d (.sl 10 (b.f6.f0.map SHead.cells)), .d (.int .i64 b.f6.f1.f0), .d (.int .i64 b.f6.f1.f1), .d (.ints .u8 b.f6.f1.f2), .d (.ints .u8 b.f6.f1.f3), .d (.bss b.f6.f1.f4)])]) false (g := .func 101) rfl rfl (lt_ok rfl) rfl (by kernel_rfl) rfl (.cons (.agg (.cons (.d _) (.cons (.d _) (.cons (.d _) (.cons (.d _) (.cons (.d _) (.cons (.d _) .nil))))))) (.cons (.agg (.cons (.d _) (.cons (.d _) (.cons (.d _) (.cons (.d _) (.cons (.d _) (.cons (.d _) .nil))))))) .nil)) (ok_laws_eqProof a.f6 b.f6) (.inr rfl) rfl (by simp) rfl) ?_
       refine TL.cons rfl (Step.not (b := (decide (a.f6 = b.f6))) rfl rfl (lt_ok rfl) rfl) ?_
       refine TL.nil ?_
       refine T.cond (b := !(decide (a.f6 = b.f6))) rfl (fun h7 => ?_) (fun h7 => ?_)
       ·
        replace h7 : (decide (a.f6 = b.f6)) = false := by simpa only [Bool.not_eq_true', Bool.not_eq_false'] using h7
        replace h7 := of_decide_eq_false h7
        refine T.seq ?_
        refine T.region ?_
        refine TL.cons rfl (Step.assign (p := (.one (.d (.bool false)))) rfl rfl (lt_ok rfl) rfl) ?_
        refine TL.nil ?_
        refine T.ret ?_
        exact ⟨[(false, [.d (.bool false)])], (.cons rfl .nil), rfl, [], (RetC.rd' (by (congr 1; symm; first | (apply decide_eq_false; rintro rfl; first | exact absurd rfl ‹¬ _ = _› | contradiction) | (apply decide_eq_true; apply SMsg.ext <;> first | assumption | exact Decidable.not_not.1 (by assumption)))) .nil)⟩
       ·
        replace h7 : (decide (a.f6 = b.f6)) = true := by simpa only [Bool.not_eq_true', Bool.not_eq_false'] using h7
        replace h7 := of_decide_eq_true h7
        refine T.skip ?_
        refine T.seq ?_
        refine T.seq ?_
        refine T.region ?_
        refine TL.cons rfl (Step.fieldAddr (q := 0) (off := 40) (n := 5) (one := false) rfl rfl (lt_ok rfl) (by kernel_rfl) (Nat.succ_ne_zero _) rfl) ?_
        refine TL.cons rfl (Step.load_box_agg (n := 5) (qs := [.d (.int .i64 a.f7.f0), .d (.int .i64 a.f7.f1), .d (.int .i64 a.f7.f2), .d (.ints .u8 a.f7.f3), .d (.bss a.f7.f4)]) rfl rfl (lt_ok rfl) (by kernel_rfl) rfl rfl rfl rfl) ?_
        refine TL.cons rfl (Step.fieldAddr (q := 0) (off := 40) (n := 5) (one := false) rfl rfl (lt_ok rfl) (by kernel_rfl) (Nat.succ_ne_zero _) rfl) ?_
        refine TL.cons rfl (Step.load_box_agg (n := 5) (qs := [.d (.int .i64 b.f7.f0), .d (.int .i64 b.f7.f1), .d (.int .i64 b.f7.f2), .d (.ints .u8 b.f7.f3), .d (.bss b.f7.f4)]) rfl rfl (lt_ok rfl) (by kernel_rfl) rfl rfl rfl rfl) ?_
        refine TL.cons rfl (Step.call (f := 57) (xs := [.tmp 47, .tmp 49]) (ps := [(.agg [.d (.int .i64 a.f7.f0), .d (.int .i64 a.f7.f1), .d (.int .i64 a.f7.f2), .d (.ints .u8 a.f7.f3), .d (.bss a.f7.f4)]), (.agg [.d (.int .i64 b.f7.f0), .d (.int .i64 b.f7.f1), .d (.int .i64 b.f7.f2), .d (.ints .u8 b.f7.f3), .d (.bss b.f7.f4)])]) false (g := .func 57) rfl rfl (lt_ok rfl) rfl (by kernel_rfl) rfl (.cons (.agg (.cons (.d _) (.cons (.d _) (.cons (.d _) (.cons (.d _) (.cons (.d _) .nil)))))) (.cons (.agg (.cons (.d _) (.cons (.d _) (.cons (.d _) (.cons (.d _) (.cons (.d _) .nil)))))) .nil)) (ok_laws_eqIncl a.f7 b.f7) (.inr rfl) rfl (by simp) rfl) ?_
        refine TL.cons rfl (Step.not (b := (decide (a.f7 = b.f7))) rfl rfl (lt_ok rfl) rfl) ?_
        refine TL.nil ?_
        refine T.cond (b := !(decide (a.f7 = b.f7))) rfl (fun h8 => ?_) (fun h8 => ?_)
        ·
         replace h8 : (decide (a.f7 = b.f7)) = false := by simpa only [Bool.not_eq_true', Bool.not_eq_false'] using h8
         replace h8 := of_decide_eq_false h8
         refine T.seq ?_
         refine T.region ?_
         refine TL.cons rfl (Step.assign (p := (.one (.d (.bool false)))) rfl rfl (lt_ok rfl) rfl) ?_
         refine TL.nil ?_
         refine T.ret ?_
         exact ⟨[(false, [.d (.bool false)])], (.cons rfl .nil), rfl, [], (RetC.rd' (by (congr 1; symm; first | (apply decide_eq_false; rintro rfl; first | exact absurd rfl ‹¬ _ = _› | contradiction) | (apply decide_eq_true; apply SMsg.ext <;> first | assumption | exact Decidable.not_not.1 (by assumption)))) .nil)⟩
        ·
         replace h8 : (decide (a.f7 = b.f7)) = true := by simpa only [Bool.not_eq_true', Bool.not_eq_false'] using h8
         replace h8 := of_decide_eq_true h8
         refine T.skip ?_
         refine T.seq ?_
         refine T.region ?_
         refine TL.cons rfl (Step.assign (p := (.one (.d (.bool true)))) rfl rfl (lt_ok rfl) rfl) ?_
         refine TL.nil ?_
         refine T.ret ?_
         exact ⟨[(false, [.d (.bool true)])], (.cons rfl .nil), rfl, [], (RetC.rd' (by (congr 1; symm; first | (apply decide_eq_false; rintro rfl; first | exact absurd rfl ‹¬ _ = _› | contradiction) | (apply decide_eq_true; apply SMsg.ext <;> first | assumption | exact Decidable.not_not.1 (by assumption)))) .nil)⟩
theorem ok_laws_markByteS (a : List Int) (k : Int) (h0_ : 0 ≤ k) (h1_ : k + (a.length : Int) ≤ 4611686018427387904) : MK Try.prog 32 [.one (.mk (.ints .u8 a) (.ints .u8 (mkB a k))), .one (.rd (.int .i64 k))] [(false, [.rd (.int .i64 (k + (a.length : Int)))])] := by
 refine MK.intro Try.func32 rfl 20 rfl (le_ok rfl) (le_ok rfl) rfl fun w Z IX pin Ts hp => ?_
 refine T.bndRow 900 rfl fun hb_900 => ?_
 simp only [D.size, List.length_map] at hb_900
 refine T.seq ?_
 refine T.region ?_
 refine TL.cons rfl (Step.assign (p := (.one (.d (.int .i64 0)))) rfl rfl (lt_ok rfl) rfl) ?_
 refine TL.nil ?_
 refine T.seq ?_
 refine T.seq ?_
 refine T.region ?_
 refine TL.cons rfl (Step.assign (p := (.one (.d (.int .i64 0)))) rfl rfl (lt_ok rfl) rfl) ?_
 refine TL.nil ?_
 refine T.block ?_
 refine T.loop (ι := Nat) (fun x => { tm := [(0, (.one (.row 900 []))), (4, (.one (.d (.int .i64 0)))), (5, (.one (.d (.int .i64 (x : Int))))), (1, (.one (.d (.int .i64 (k + (x : Int))))))], rows := [(900, ((Ts 0), (.ints .u8 (upTo (fun _ => 1) (fun _ k => k % 256) a k x))))], boxes := [] }) (fun x => x ≤ a.length) (fun x => a.length - x) 0 ?_ ?_ ?_
 · exact Env.le_mk ⟨rfl, rfl, by first | exact congrArg (fun x => some (Ts 0, D.ints .u8 x)) (upTo_set (df := 0) (by omega) (by simp only [cntL_one_take a i (by omega)])) | exact congrArg (fun x => some (Ts 0, D.ints .u8 x)) (upTo_zero _ _).symm | rfl | (refine congrArg (fun n => PV.one (.d (.int .i64 n))) ?_; first | omega | (simp; done) | (simp [cntL]; done)), by first | exact congrArg (fun x => some (Ts 0, D.ints .u8 x)) (upTo_set (df := 0) (by omega) (by simp only [cntL_one_take a i (by omega)])) | exact congrArg (fun x => some (Ts 0, D.ints .u8 x)) (upTo_zero _ _).symm | rfl | (refine congrArg (fun n => PV.one (.d (.int .i64 n))) ?_; first | omega | (simp; done) | (simp [cntL]; done)), trivial⟩ ⟨by first | exact congrArg (fun x => some (Ts 0, D.ints .u8 x)) (upTo_set (df := 0) (by omega) (by simp only [cntL_one_take a i (by omega)])) | exact congrArg (fun x => some (Ts 0, D.ints .u8 x)) (upTo_zero _ _).symm | rfl | (refine congrArg (fun n => PV.one (.d (.int .i64 n))) ?_; first | omega | (simp; done) | (simp [cntL]; done)), trivial⟩ trivial
 · exact Nat.zero_le _
 ·
  intro i hx
  try dsimp only at hx ⊢
  refine T.seq ?_
  refine T.seq ?_
  refine T.region ?_
  refine TL.cons rfl (Step.move (p := (.one (.d (.int .i64 (i : Int))))) rfl rfl (lt_ok rfl) rfl) ?_
  refine TL.cons rfl (Step.move (p := (.one (.row 900 []))) rfl rfl (lt_ok rfl) rfl) ?_
  refine TL.cons rfl (Step.len' (e := 5) (z := 1) (d := (.ints .u8 (upTo (fun _ => 1) (fun _ k => k % 256) a k i))) (n := a.length) rfl rfl (lt_ok rfl) (by kernel_rfl) rfl rfl (by simp [D.size, upTo_length])) ?_
  refine TL.cons rfl (Step.bin rfl rfl (lt_ok rfl) rfl rfl (Bin.lss (k := .i64) (a := (i : Int)) (b := (a.length : Int)))) ?_
  refine TL.nil ?_
  refine T.cond (b := decide ((i : Int) < (a.length : Int))) rfl (fun h1 => ?_) (fun h1 => ?_)
  ·
   replace h1 := of_decide_eq_true h1
   refine T.skip ?_
   refine T.seq ?_
   refine T.block ?_
   refine T.seq ?_
   refine T.region ?_
   refine TL.cons rfl (Step.move (p := (.one (.row 900 []))) rfl rfl (lt_ok rfl) rfl) ?_
   refine TL.cons rfl (Step.move (p := (.one (.d (.int .i64 (i : Int))))) rfl rfl (lt_ok rfl) rfl) ?_
   refine TL.cons rfl (Step.move (p := (.one (.d (.int .i64 (k + (i : Int)))))) rfl rfl (lt_ok rfl) rfl) ?_
   refine TL.cons rfl (Step.conv (c := ((k + (i : Int)) % 256)) rfl rfl (lt_ok rfl) (by kernel_rfl) (by kernel_rfl) rfl (wrap_byte _)) ?_
   refine TL.cons rfl (Step.index_row (d := (.ints .u8 (upTo (fun _ => 1) (fun _ k => k % 256) a k i))) (e := 5) (z := 1) (i := (i : Int)) rfl rfl (lt_ok rfl) (by kernel_rfl) rfl rfl rfl rfl (lt_ok rfl) rfl (by first | omega | (simp; omega)) (by simp only [D.at_, D.cell, D.size, List.length_set, List.length_map, upTo_length]; first | omega | (simp; omega))) ?_
   refine TL.cons rfl (Step.store_row (n := 1) (p := (.one (.d (.int .u8 ((k + (i : Int)) % 256))))) (ps := [.d (.int .u8 ((k + (i : Int)) % 256))]) (es := [(.int .u8 ((k + (i : Int)) % 256))]) (ss := []) (d1 := (.ints .u8 ((upTo (fun _ => 1) (fun _ k => k % 256) a k i).set i ((k + (i : Int)) % 256)))) (d' := (.ints .u8 ((upTo (fun _ => 1) (fun _ k => k % 256) a k i).set i ((k + (i : Int)) % 256)))) rfl rfl (by kernel_rfl) rfl rfl rfl rfl rfl rfl (.val rfl .nil) (by simp) (Putd.one rfl trivial rfl (by simp only [D.at_, D.size, List.length_set, upTo_length]; first | omega | (simp; omega)) (lt_ok rfl)) rfl) ?_
   refine TL.nil ?_
   refine T.region ?_
   refine TL.cons rfl (Step.move (p := (.one (.d (.int .i64 (k + (i : Int)))))) rfl rfl (lt_ok rfl) rfl) ?_
   refine TL.cons rfl (Step.bin (r := .int .i64 ((k + (i : Int)) + 1)) rfl rfl (lt_ok rfl) rfl rfl (Bin.add (a := (k + (i : Int))) (b := 1) (by first | exact wrap_ok (by first | omega | (simp; omega)) (by first | omega | (simp; omega)) | rfl))) ?_
   refine TL.cons rfl (Step.assign (p := (.one (.d (.int .i64 ((k + (i : Int)) + 1))))) rfl rfl (lt_ok rfl) rfl) ?_
   refine TL.nil ?_
   refine T.region ?_
   refine TL.cons rfl (Step.move (p := (.one (.d (.int .i64 (i : Int))))) rfl rfl (lt_ok rfl) rfl) ?_
   refine TL.cons rfl (Step.bin (r := .int .i64 ((i : Int) + 1)) rfl rfl (lt_ok rfl) rfl rfl (Bin.add (a := (i : Int)) (b := 1) (by first | exact wrap_ok (by first | omega | (simp; omega)) (by first | omega | (simp; omega)) | rfl))) ?_
   refine TL.cons rfl (Step.assign (p := (.one (.d (.int .i64 ((i : Int) + 1))))) rfl rfl (lt_ok rfl) rfl) ?_
   refine TL.nil ?_
   exact ⟨i + 1, by omega, by first | omega | (dsimp only; omega), Env.le_mk ⟨rfl, rfl, by first | exact congrArg (fun x => some (Ts 0, D.ints .u8 x)) (upTo_set (df := 0) (by omega) (by simp only [cntL_one_take a i (by omega)])) | exact congrArg (fun x => some (Ts 0, D.ints .u8 x)) (upTo_zero _ _).symm | rfl | (refine congrArg (fun n => PV.one (.d (.int .i64 n))) ?_; first | omega | (simp; done) | (simp [cntL]; done)), by first | exact congrArg (fun x => some (Ts 0, D.ints .u8 x)) (upTo_set (df := 0) (by omega) (by simp only [cntL_one_take a i (by omega)])) | exact congrArg (fun x => some (Ts 0, D.ints .u8 x)) (upTo_zero _ _).symm | rfl | (refine congrArg (fun n => PV.one (.d (.int .i64 n))) ?_; first | omega | (simp; done) | (simp [cntL]; done)), trivial⟩ ⟨by first | exact congrArg (fun x => some (Ts 0, D.ints .u8 x)) (upTo_set (df := 0) (by omega) (by simp only [cntL_one_take a i (by omega)])) | exact congrArg (fun x => some (Ts 0, D.ints .u8 x)) (upTo_zero _ _).symm | rfl | (refine congrArg (fun n => PV.one (.d (.int .i64 n))) ?_; first | omega | (simp; done) | (simp [cntL]; done)), trivial⟩ trivial⟩
  ·
   replace h1 := of_decide_eq_false h1
   refine T.exit ?_
   refine T.seq ?_
   refine T.region ?_
   refine TL.cons rfl (Step.move (p := (.one (.d (.int .i64 (k + (i : Int)))))) rfl rfl (lt_ok rfl) rfl) ?_
   refine TL.cons rfl (Step.assign (p := (.one (.d (.int .i64 (k + (i : Int)))))) rfl rfl (lt_ok rfl) rfl) ?_
   refine TL.nil ?_
   refine T.ret ?_
   exact ⟨⟨⟨[(false, [.d (.int .i64 (k + (i : Int)))])], (.cons rfl .nil), rfl, [], (RetC.rd' (by (congr 1; omega)) .nil)⟩, rfl⟩, (.mk' (by exact congrArg (fun x => some (Ts 0, D.ints .u8 x)) (upTo_all (by omega))) (.rd .nil'))⟩
theorem ok_laws_markVote (a : SVote) (k : Int) (h0_ : 0 ≤ k) (h1_ : k + a.cm ≤ 4611686018427387904) : MK Try.prog 45 [.agg [.rd (.int .i64 a.f0), .rd (.int .i64 a.f1), .mk (.ints .u8 a.f2) (.ints .u8 (mkB a.f2 k)), .rd (.int .i64 a.f3), .mk (.ints .u8 a.f4) (.ints .u8 (mkB a.f4 (k + (a.f2.length : Int))))], .one (.rd (.int .i64 k))] [(false, [.rd (.int .i64 (k + a.cm))])] := by
 refine MK.intro Try.func45 rfl 14 rfl (le_ok rfl) (le_ok rfl) rfl fun w Z IX pin Ts hp => ?_
 simp only [SVote.cm] at h1_
 refine T.seq ?_
 refine T.region ?_
 refine TL.cons rfl (Step.box (p := (.agg [.d (.int .i64 a.f0), .d (.int .i64 a.f1), .row 902 [], .d (.int .i64 a.f3), .row 904 []])) (ps := [.d (.int .i64 a.f0), .d (.int .i64 a.f1), .row 902 [], .d (.int .i64 a.f3), .row 904 []]) rfl rfl (lt_ok rfl) rfl rfl rfl rfl rfl) ?_
 refine TL.cons rfl (Step.assign (p := (.one (.d (.int .i64 0)))) rfl rfl (lt_ok rfl) rfl) ?_
 refine TL.nil ?_
 refine T.seq ?_
 refine T.region ?_
 refine TL.cons rfl (Step.fieldAddr (q := 0) (off := 2) (n := 1) (one := true) rfl rfl (lt_ok rfl) (by kernel_rfl) (Nat.succ_ne_zero _) rfl) ?_
 refine TL.cons rfl (Step.load_box (c := .row 902 []) rfl rfl (lt_ok rfl) (by kernel_rfl) rfl rfl rfl) ?_
 refine TL.cons rfl (Step.move (p := (.one (.d (.int .i64 k)))) rfl rfl (lt_ok rfl) rfl) ?_
 refine TL.cons rfl (Step.callM (f := 32) (xs := [.tmp 6, .tmp 7]) (ps := [(.one (.row 902 [])), (.one (.d (.int .i64 k)))]) (args := [.one (.mk (.ints .u8 a.f2) (.ints .u8 (mkB a.f2 k))), .one (.rd (.int .i64 k))]) (js := [(902, (.ints .u8 (mkB a.f2 k)))]) (x := (.int .i64 (k + (a.f2.length : Int)))) (g := .func 32) rfl rfl (lt_ok rfl) rfl (by kernel_rfl) rfl rfl (.row (T := (Ts 2)) (d := (.ints .u8 a.f2)) (e' := (.ints .u8 (mkB a.f2 k))) (d' := (.ints .u8 (mkB a.f2 k))) rfl rfl rfl rfl rfl (by simp [D.size, mkL_length]) rfl rfl (.d .nil)) (ok_laws_markByteS a.f2 k (by omega) (by first | omega | (have := (by assumption); omega))) rfl) ?_
 refine TL.cons rfl (Step.assign (p := (.one (.d (.int .i64 (k + (a.f2.length : Int)))))) rfl rfl (lt_ok rfl) rfl) ?_
 refine TL.nil ?_
 refine T.seq ?_
 refine T.region ?_
 refine TL.cons rfl (Step.fieldAddr (q := 0) (off := 4) (n := 1) (one := true) rfl rfl (lt_ok rfl) (by kernel_rfl) (Nat.succ_ne_zero _) rfl) ?_
 refine TL.cons rfl (Step.load_box (c := .row 904 []) rfl rfl (lt_ok rfl) (by kernel_rfl) rfl rfl rfl) ?_
 refine TL.cons rfl (Step.move (p := (.one (.d (.int .i64 (k + (a.f2.length : Int)))))) rfl rfl (lt_ok rfl) rfl) ?_
 refine TL.cons rfl (Step.callM (f := 32) (xs := [.tmp 10, .tmp 11]) (ps := [(.one (.row 904 [])), (.one (.d (.int .i64 (k + (a.f2.length : Int)))))]) (args := [.one (.mk (.ints .u8 a.f4) (.ints .u8 (mkB a.f4 (k + (a.f2.length : Int))))), .one (.rd (.int .i64 (k + (a.f2.length : Int))))]) (js := [(904, (.ints .u8 (mkB a.f4 (k + (a.f2.length : Int)))))]) (x := (.int .i64 ((k + (a.f2.length : Int)) + (a.f4.length : Int)))) (g := .func 32) rfl rfl (lt_ok rfl) rfl (by kernel_rfl) rfl rfl (.row (T := (Ts 4)) (d := (.ints .u8 a.f4)) (e' := (.ints .u8 (mkB a.f4 (k + (a.f2.length : Int))))) (d' := (.ints .u8 (mkB a.f4 (k + (a.f2.length : Int))))) rfl rfl rfl rfl rfl (by simp [D.size, mkL_length]) rfl rfl (.d .nil)) (ok_laws_markByteS a.f4 (k + (a.f2.length : Int)) (by omega) (by first | omega | (have := (by assumption); omega))) rfl) ?_
 refine TL.cons rfl (Step.assign (p := (.one (.d (.int .i64 ((k + (a.f2.length : Int)) + (a.f4.length : Int)))))) rfl rfl (lt_ok rfl) rfl) ?_
 refine TL.nil ?_
 refine T.seq ?_
 refine T.region ?_
 refine TL.cons rfl (Step.move (p := (.one (.d (.int .i64 ((k + (a.f2.length : Int)) + (a.f4.length : Int)))))) rfl rfl (lt_ok rfl) rfl) ?_
 refine TL.cons rfl (Step.assign (p := (.one (.d (.int .i64 ((k + (a.f2.length : Int)) + (a.f4.length : Int)))))) rfl rfl (lt_ok rfl) rfl) ?_
 refine TL.nil ?_
 refine T.ret ?_
 exact ⟨⟨⟨[(false, [.d (.int .i64 ((k + (a.f2.length : Int)) + (a.f4.length : Int)))])], (.cons rfl .nil), rfl, [], (RetC.rd' (by first | rfl | (congr 1; simp only [SVote.cm]; omega)) .nil)⟩, rfl⟩, (.rd (.rd (.mk' (by rfl) (.rd (.mk' (by rfl) (.rd .nil'))))))⟩
theorem ok_laws_markByteSS (a : List (List Int)) (k : Int) (h0_ : 0 ≤ k) (h1_ : k + cntL (fun x : List Int => (x.length : Int)) a ≤ 4611686018427387904) : MK Try.prog 85 [.one (.mk (.bss a) (.bss (mkBs a k))), .one (.rd (.int .i64 k))] [(false, [.rd (.int .i64 (k + cntL (fun x : List Int => (x.length : Int)) a))])] := by
 refine MK.intro Try.func85 rfl 19 rfl (le_ok rfl) (le_ok rfl) rfl fun w Z IX pin Ts hp => ?_
 refine T.bndRow 900 rfl fun hb_900 => ?_
 simp only [D.size, List.length_map] at hb_900
 refine T.seq ?_
 refine T.region ?_
 refine TL.cons rfl (Step.assign (p := (.one (.d (.int .i64 0)))) rfl rfl (lt_ok rfl) rfl) ?_
 refine TL.nil ?_
 refine T.seq ?_
 refine T.seq ?_
 refine T.region ?_
 refine TL.cons rfl (Step.assign (p := (.one (.d (.int .i64 0)))) rfl rfl (lt_ok rfl) rfl) ?_
 refine TL.nil ?_
 refine T.block ?_
 refine T.loop (ι := Nat) (fun x => { tm := [(0, (.one (.row 900 []))), (4, (.one (.d (.int .i64 0)))), (5, (.one (.d (.int .i64 (x : Int))))), (1, (.one (.d (.int .i64 (k + cntL (fun x : List Int => (x.length : Int)) (a.take x))))))], rows := [(900, ((Ts 0), (.bss ((upTo (fun x : List Int => (x.length : Int)) mkB a k x).set x (a.getD x [])))))], boxes := [] }) (fun x => x ≤ a.length) (fun x => a.length - x) 0 ?_ ?_ ?_
 · exact Env.le_mk ⟨rfl, rfl, by first | exact congrArg (fun x => some (Ts 0, D.bss x)) (upTo_next (df := []) (by omega) rfl) | exact congrArg (fun x => some (Ts 0, D.bss x)) (upTo_first a k []) | rfl | (refine congrArg (fun n => PV.one (.d (.int .i64 n))) ?_; first | omega | (simp; done) | (simp [cntL]; done)), by first | exact congrArg (fun x => some (Ts 0, D.bss x)) (upTo_next (df := []) (by omega) rfl) | exact congrArg (fun x => some (Ts 0, D.bss x)) (upTo_first a k []) | rfl | (refine congrArg (fun n => PV.one (.d (.int .i64 n))) ?_; first | omega | (simp; done) | (simp [cntL]; done)), trivial⟩ ⟨by first | exact congrArg (fun x => some (Ts 0, D.bss x)) (upTo_next (df := []) (by omega) rfl) | exact congrArg (fun x => some (Ts 0, D.bss x)) (upTo_first a k []) | rfl | (refine congrArg (fun n => PV.one (.d (.int .i64 n))) ?_; first | omega | (simp; done) | (simp [cntL]; done)), trivial⟩ trivial
 · exact Nat.zero_le _
 ·
  intro i hx
  try dsimp only at hx ⊢
  refine T.seq ?_
  refine T.seq ?_
  refine T.region ?_
  refine TL.cons rfl (Step.move (p := (.one (.d (.int .i64 (i : Int))))) rfl rfl (lt_ok rfl) rfl) ?_
  refine TL.cons rfl (Step.move (p := (.one (.row 900 []))) rfl rfl (lt_ok rfl) rfl) ?_
  refine TL.cons rfl (Step.len' (e := 22) (z := 1) (d := (.bss ((upTo (fun x : List Int => (x.length : Int)) mkB a k i).set i (a.getD i [])))) (n := a.length) rfl rfl (lt_ok rfl) (by kernel_rfl) rfl rfl (by simp [D.size, upTo_length])) ?_
  refine TL.cons rfl (Step.bin rfl rfl (lt_ok rfl) rfl rfl (Bin.lss (k := .i64) (a := (i : Int)) (b := (a.length : Int)))) ?_
  refine TL.nil ?_
  refine T.cond (b := decide ((i : Int) < (a.length : Int))) rfl (fun h1 => ?_) (fun h1 => ?_)
  ·
   replace h1 := of_decide_eq_true h1
   have hc1 := cntL_take_le (cnt := (fun x : List Int => (x.length : Int))) (fun x => by omega) a (i + 1)
   have hc2 := cntL_take_succ (cnt := (fun x : List Int => (x.length : Int))) (i := i) [] (show i < a.length by omega)
   have hc3 := cntL_nonneg (cnt := (fun x : List Int => (x.length : Int))) (fun x => by omega) (a.take i)
   try dsimp only at hc2
   refine T.skip ?_
   refine T.seq ?_
   refine T.block ?_
   refine T.region ?_
   refine TL.cons rfl (Step.move (p := (.one (.row 900 []))) rfl rfl (lt_ok rfl) rfl) ?_
   refine TL.cons rfl (Step.move (p := (.one (.d (.int .i64 (i : Int))))) rfl rfl (lt_ok rfl) rfl) ?_
   refine TL.cons rfl (Step.index_row (d := (.bss ((upTo (fun x : List Int => (x.length : Int)) mkB a k i).set i (a.getD i [])))) (e := 22) (z := 1) (i := (i : Int)) rfl rfl (lt_ok rfl) (by kernel_rfl) rfl rfl rfl rfl (lt_ok rfl) rfl (by first | omega | (simp; omega)) (by simp only [D.at_, D.cell, D.size, List.length_set, List.length_map, upTo_length]; first | omega | (simp; omega))) ?_
   refine TL.cons rfl (Step.load_row (d := (.bss ((upTo (fun x : List Int => (x.length : Int)) mkB a k i).set i (a.getD i [])))) (c := .row 900 [(i, 0)]) rfl rfl (lt_ok rfl) (by kernel_rfl) rfl rfl (ofRow_sl (cell_set_bss (by simp only [upTo_length]; first | omega | (simp; omega))) rfl)) ?_
   refine TL.cons rfl (Step.move (p := (.one (.d (.int .i64 (k + cntL (fun x : List Int => (x.length : Int)) (a.take i)))))) rfl rfl (lt_ok rfl) rfl) ?_
   refine TL.cons rfl (Step.callM (f := 32) (xs := [.tmp 15, .tmp 16]) (ps := [(.one (.row 900 [(i, 0)])), (.one (.d (.int .i64 (k + cntL (fun x : List Int => (x.length : Int)) (a.take i)))))]) (args := [.one (.mk (.ints .u8 (a.getD i [])) (.ints .u8 (mkB (a.getD i []) (k + cntL (fun x : List Int => (x.length : Int)) (a.take i))))), .one (.rd (.int .i64 (k + cntL (fun x : List Int => (x.length : Int)) (a.take i))))]) (js := [(900, (.bss ((upTo (fun x : List Int => (x.length : Int)) mkB a k i).set i (mkB (a.getD i []) (k + cntL (fun x : List Int => (x.length : Int)) (a.take i))))))]) (x := (.int .i64 ((k + cntL (fun x : List Int => (x.length : Int)) (a.take i)) + ((a.getD i []).length : Int)))) (g := .func 32) rfl rfl (lt_ok rfl) rfl (by kernel_rfl) rfl rfl (.row (T := (Ts 0)) (d := (.bss ((upTo (fun x : List Int => (x.length : Int)) mkB a k i).set i (a.getD i [])))) (e' := (.ints .u8 (mkB (a.getD i []) (k + cntL (fun x : List Int => (x.length : Int)) (a.take i))))) (d' := (.bss ((upTo (fun x : List Int => (x.length : Int)) mkB a k i).set i (mkB (a.getD i []) (k + cntL (fun x : List Int => (x.length : Int)) (a.take i)))))) rfl (cell_set_bss (by simp only [upTo_length]; first | omega | (simp; omega))) rfl putAt_bss2 rfl (by simp [D.size]) rfl rfl (.d .nil)) (ok_laws_markByteS (a.getD i []) (k + cntL (fun x : List Int => (x.length : Int)) (a.take i)) (by omega) (by first | omega | (have := (by assumption); omega))) rfl) ?_
   refine TL.cons rfl (Step.assign (p := (.one (.d (.int .i64 ((k + cntL (fun x : List Int => (x.length : Int)) (a.take i)) + ((a.getD i []).length : Int)))))) rfl rfl (lt_ok rfl) rfl) ?_
   refine TL.nil ?_
   refine T.region ?_
   refine TL.cons rfl (Step.move (p := (.one (.d (.int .i64 (i : Int))))) rfl rfl (lt_ok rfl) rfl) ?_
   refine TL.cons rfl (Step.bin (r := .int .i64 ((i : Int) + 1)) rfl rfl (lt_ok rfl) rfl rfl (Bin.add (a := (i : Int)) (b := 1) (by first | exact wrap_ok (by first | omega | (simp; omega)) (by first | omega | (simp; omega)) | rfl))) ?_
   refine TL.cons rfl (Step.assign (p := (.one (.d (.int .i64 ((i : Int) + 1))))) rfl rfl (lt_ok rfl) rfl) ?_
   refine TL.nil ?_
   exact ⟨i + 1, by omega, by first | omega | (dsimp only; omega), Env.le_mk ⟨rfl, rfl, by first | exact congrArg (fun x => some (Ts 0, D.bss x)) (upTo_next (df := []) (by omega) rfl) | exact congrArg (fun x => some (Ts 0, D.bss x)) (upTo_first a k []) | rfl | (refine congrArg (fun n => PV.one (.d (.int .i64 n))) ?_; first | omega | (simp; done) | (simp [cntL]; done)), by first | exact congrArg (fun x => some (Ts 0, D.bss x)) (upTo_next (df := []) (by omega) rfl) | exact congrArg (fun x => some (Ts 0, D.bss x)) (upTo_first a k []) | rfl | (refine congrArg (fun n => PV.one (.d (.int .i64 n))) ?_; first | omega | (simp; done) | (simp [cntL]; done)), trivial⟩ ⟨by first | exact congrArg (fun x => some (Ts 0, D.bss x)) (upTo_next (df := []) (by omega) rfl) | exact congrArg (fun x => some (Ts 0, D.bss x)) (upTo_first a k []) | rfl | (refine congrArg (fun n => PV.one (.d (.int .i64 n))) ?_; first | omega | (simp; done) | (simp [cntL]; done)), trivial⟩ trivial⟩
  ·
   replace h1 := of_decide_eq_false h1
   refine T.exit ?_
   refine T.seq ?_
   refine T.region ?_
   refine TL.cons rfl (Step.move (p := (.one (.d (.int .i64 (k + cntL (fun x : List Int => (x.length : Int)) (a.take i)))))) rfl rfl (lt_ok rfl) rfl) ?_
   refine TL.cons rfl (Step.assign (p := (.one (.d (.int .i64 (k + cntL (fun x : List Int => (x.length : Int)) (a.take i)))))) rfl rfl (lt_ok rfl) rfl) ?_
   refine TL.nil ?_
   refine T.ret ?_
   exact ⟨⟨⟨[(false, [.d (.int .i64 (k + cntL (fun x : List Int => (x.length : Int)) (a.take i)))])], (.cons rfl .nil), rfl, [], (RetC.rd' (by (congr 1; rw [cntL_all (by omega)])) .nil)⟩, rfl⟩, (.mk' (by exact congrArg (fun x => some (Ts 0, D.bss x)) (upTo_end (by omega))) (.rd .nil'))⟩
theorem ok_laws_markQc (a : SQc) (k : Int) (h0_ : 0 ≤ k) (h1_ : k + a.cm ≤ 4611686018427387904) : MK Try.prog 21 [.agg [.rd (.int .i64 a.f0), .rd (.int .i64 a.f1), .mk (.ints .u8 a.f2) (.ints .u8 (mkB a.f2 k)), .mk (.ints .u8 a.f3) (.ints .u8 (mkB a.f3 (k + (a.f2.length : Int)))), .mk (.bss a.f4) (.bss (mkBs a.f4 ((k + (a.f2.length : Int)) + (a.f3.length : Int))))], .one (.rd (.int .i64 k))] [(false, [.rd (.int .i64 (k + a.cm))])] := by
 refine MK.intro Try.func21 rfl 18 rfl (le_ok rfl) (le_ok rfl) rfl fun w Z IX pin Ts hp => ?_
 have n4 := cntBs_nonneg a.f4
 simp only [SQc.cm] at h1_
 refine T.seq ?_
 refine T.region ?_
 refine TL.cons rfl (Step.box (p := (.agg [.d (.int .i64 a.f0), .d (.int .i64 a.f1), .row 902 [], .row 903 [], .row 904 []])) (ps := [.d (.int .i64 a.f0), .d (.int .i64 a.f1), .row 902 [], .row 903 [], .row 904 []]) rfl rfl (lt_ok rfl) rfl rfl rfl rfl rfl) ?_
 refine TL.cons rfl (Step.assign (p := (.one (.d (.int .i64 0)))) rfl rfl (lt_ok rfl) rfl) ?_
 refine TL.nil ?_
 refine T.seq ?_
 refine T.region ?_
 refine TL.cons rfl (Step.fieldAddr (q := 0) (off := 2) (n := 1) (one := true) rfl rfl (lt_ok rfl) (by kernel_rfl) (Nat.succ_ne_zero _) rfl) ?_
 refine TL.cons rfl (Step.load_box (c := .row 902 []) rfl rfl (lt_ok rfl) (by kernel_rfl) rfl rfl rfl) ?_
 refine TL.cons rfl (Step.move (p := (.one (.d (.int .i64 k)))) rfl rfl (lt_ok rfl) rfl) ?_
 refine TL.cons rfl (Step.callM (f := 32) (xs := [.tmp 6, .tmp 7]) (ps := [(.one (.row 902 [])), (.one (.d (.int .i64 k)))]) (args := [.one (.mk (.ints .u8 a.f2) (.ints .u8 (mkB a.f2 k))), .one (.rd (.int .i64 k))]) (js := [(902, (.ints .u8 (mkB a.f2 k)))]) (x := (.int .i64 (k + (a.f2.length : Int)))) (g := .func 32) rfl rfl (lt_ok rfl) rfl (by kernel_rfl) rfl rfl (.row (T := (Ts 2)) (d := (.ints .u8 a.f2)) (e' := (.ints .u8 (mkB a.f2 k))) (d' := (.ints .u8 (mkB a.f2 k))) rfl rfl rfl rfl rfl (by simp [D.size, mkL_length]) rfl rfl (.d .nil)) (ok_laws_markByteS a.f2 k (by omega) (by first | omega | (have := (by assumption); omega))) rfl) ?_
 refine TL.cons rfl (Step.assign (p := (.one (.d (.int .i64 (k + (a.f2.length : Int)))))) rfl rfl (lt_ok rfl) rfl) ?_
 refine TL.nil ?_
 refine T.seq ?_
 refine T.region ?_
 refine TL.cons rfl (Step.fieldAddr (q := 0) (off := 3) (n := 1) (one := true) rfl rfl (lt_ok rfl) (by kernel_rfl) (Nat.succ_ne_zero _) rfl) ?_
 refine TL.cons rfl (Step.load_box (c := .row 903 []) rfl rfl (lt_ok rfl) (by kernel_rfl) rfl rfl rfl) ?_
 refine TL.cons rfl (Step.move (p := (.one (.d (.int .i64 (k + (a.f2.length : Int)))))) rfl rfl (lt_ok rfl) rfl) ?_
 refine TL.cons rfl (Step.callM (f := 32) (xs := [.tmp 10, .tmp 11]) (ps := [(.one (.row 903 [])), (.one (.d (.int .i64 (k + (a.f2.length : Int)))))]) (args := [.one (.mk (.ints .u8 a.f3) (.ints .u8 (mkB a.f3 (k + (a.f2.length : Int))))), .one (.rd (.int .i64 (k + (a.f2.length : Int))))]) (js := [(903, (.ints .u8 (mkB a.f3 (k + (a.f2.length : Int)))))]) (x := (.int .i64 ((k + (a.f2.length : Int)) + (a.f3.length : Int)))) (g := .func 32) rfl rfl (lt_ok rfl) rfl (by kernel_rfl) rfl rfl (.row (T := (Ts 3)) (d := (.ints .u8 a.f3)) (e' := (.ints .u8 (mkB a.f3 (k + (a.f2.length : Int))))) (d' := (.ints .u8 (mkB a.f3 (k + (a.f2.length : Int))))) rfl rfl rfl rfl rfl (by simp [D.size, mkL_length]) rfl rfl (.d .nil)) (ok_laws_markByteS a.f3 (k + (a.f2.length : Int)) (by omega) (by first | omega | (have := (by assumption); omega))) rfl) ?_
 refine TL.cons rfl (Step.assign (p := (.one (.d (.int .i64 ((k + (a.f2.length : Int)) + (a.f3.length : Int)))))) rfl rfl (lt_ok rfl) rfl) ?_
 refine TL.nil ?_
 refine T.seq ?_
 refine T.region ?_
 refine TL.cons rfl (Step.fieldAddr (q := 0) (off := 4) (n := 1) (one := true) rfl rfl (lt_ok rfl) (by kernel_rfl) (Nat.succ_ne_zero _) rfl) ?_
 refine TL.cons rfl (Step.load_box (c := .row 904 []) rfl rfl (lt_ok rfl) (by kernel_rfl) rfl rfl rfl) ?_
 refine TL.cons rfl (Step.move (p := (.one (.d (.int .i64 ((k + (a.f2.length : Int)) + (a.f3.length : Int)))))) rfl rfl (lt_ok rfl) rfl) ?_
 have nn1 := cntBs_nonneg a.f4
 refine TL.cons rfl (Step.callM (f := 85) (xs := [.tmp 14, .tmp 15]) (ps := [(.one (.row 904 [])), (.one (.d (.int .i64 ((k + (a.f2.length : Int)) + (a.f3.length : Int)))))]) (args := [.one (.mk (.bss a.f4) (.bss (mkBs a.f4 ((k + (a.f2.length : Int)) + (a.f3.length : Int))))), .one (.rd (.int .i64 ((k + (a.f2.length : Int)) + (a.f3.length : Int))))]) (js := [(904, (.bss (mkBs a.f4 ((k + (a.f2.length : Int)) + (a.f3.length : Int)))))]) (x := (.int .i64 (((k + (a.f2.length : Int)) + (a.f3.length : Int)) + cntL (fun x : List Int => (x.length : Int)) a.f4))) (g := .func 85) rfl rfl (lt_ok rfl) rfl (by kernel_rfl) rfl rfl (.row (T := (Ts 4)) (d := (.bss a.f4)) (e' := (.bss (mkBs a.f4 ((k + (a.f2.length : Int)) + (a.f3.length : Int))))) (d' := (.bss (mkBs a.f4 ((k + (a.f2.length : Int)) + (a.f3.length : Int))))) rfl rfl rfl rfl rfl (by simp [D.size, mkL_length]) rfl rfl (.d .nil)) (ok_laws_markByteSS a.f4 ((k + (a.f2.length : Int)) + (a.f3.length : Int)) (by omega) (by first | omega | (have := cntBs_le (xs := a.f4) (by assumption); omega))) rfl) ?_
 refine TL.cons rfl (Step.assign (p := (.one (.d (.int .i64 (((k + (a.f2.length : Int)) + (a.f3.length : Int)) + cntL (fun x : List Int => (x.length : Int)) a.f4))))) rfl rfl (lt_ok rfl) rfl) ?_
 refine TL.nil ?_
 refine T.seq ?_
 refine T.region ?_
 refine TL.cons rfl (Step.move (p := (.one (.d (.int .i64 (((k + (a.f2.length : Int)) + (a.f3.length : Int)) + cntL (fun x : List Int => (x.length : Int)) a.f4))))) rfl rfl (lt_ok rfl) rfl) ?_
 refine TL.cons rfl (Step.assign (p := (.one (.d (.int .i64 (((k + (a.f2.length : Int)) + (a.f3.length : Int)) + cntL (fun x : List Int => (x.length : Int)) a.f4))))) rfl rfl (lt_ok rfl) rfl) ?_
 refine TL.nil ?_
 refine T.ret ?_
 exact ⟨⟨⟨[(false, [.d (.int .i64 (((k + (a.f2.length : Int)) + (a.f3.length : Int)) + cntL (fun x : List Int => (x.length : Int)) a.f4))])], (.cons rfl .nil), rfl, [], (RetC.rd' (by first | rfl | (congr 1; simp only [SQc.cm]; omega)) .nil)⟩, rfl⟩, (.rd (.rd (.mk' (by rfl) (.mk' (by rfl) (.mk' (by rfl) (.rd .nil'))))))⟩
theorem ok_laws_markEntryS (a : List SEntry) (k : Int) (h0_ : 0 ≤ k) (h1_ : k + cntL SEntry.ce a ≤ 4611686018427387904) : MK Try.prog 93 [.one (.mk (.sl 3 (a.map SEntry.cells)) (.sl 3 ((mkL SEntry.ce SEntry.me a k).map SEntry.cells))), .one (.rd (.int .i64 k))] [(false, [.rd (.int .i64 (k + cntL SEntry.ce a))])] := by
 refine MK.intro Try.func93 rfl 34 rfl (le_ok rfl) (le_ok rfl) rfl fun w Z IX pin Ts hp => ?_
 refine T.bndRow 900 rfl fun hb_900 => ?_
 simp only [D.size, List.length_map] at hb_900
 refine T.seq ?_
 refine T.region ?_
 refine TL.cons rfl (Step.assign (p := (.one (.d (.int .i64 0)))) rfl rfl (lt_ok rfl) rfl) ?_
 refine TL.nil ?_
 refine T.seq ?_
 refine T.seq ?_
 refine T.region ?_
 refine TL.cons rfl (Step.assign (p := (.one (.d (.int .i64 0)))) rfl rfl (lt_ok rfl) rfl) ?_
 refine TL.nil ?_
 refine T.block ?_
 refine T.loop (ι := Nat) (fun x => { tm := [(0, (.one (.row 900 []))), (4, (.one (.d (.int .i64 0)))), (5, (.one (.d (.int .i64 (x : Int))))), (1, (.one (.d (.int .i64 (k + cntL SEntry.ce (a.take x))))))], rows := [(900, ((Ts 0), (.sl 3 (((upTo SEntry.ce SEntry.me a k x).set x (a.getD x default)).map SEntry.cells))))], boxes := [] }) (fun x => x ≤ a.length) (fun x => a.length - x) 0 ?_ ?_ ?_
 · exact Env.le_mk ⟨rfl, rfl, by first | exact congrArg (fun x => some (Ts 0, D.sl 3 (List.map SEntry.cells x))) (upTo_next (df := default) (by omega) rfl) | exact congrArg (fun x => some (Ts 0, D.sl 3 (List.map SEntry.cells x))) (upTo_first a k default) | rfl | (refine congrArg (fun n => PV.one (.d (.int .i64 n))) ?_; first | omega | (simp; done) | (simp [cntL]; done)), by first | exact congrArg (fun x => some (Ts 0, D.sl 3 (List.map SEntry.cells x))) (upTo_next (df := default) (by omega) rfl) | exact congrArg (fun x => some (Ts 0, D.sl 3 (List.map SEntry.cells x))) (upTo_first a k default) | rfl | (refine congrArg (fun n => PV.one (.d (.int .i64 n))) ?_; first | omega | (simp; done) | (simp [cntL]; done)), trivial⟩ ⟨by first | exact congrArg (fun x => some (Ts 0, D.sl 3 (List.map SEntry.cells x))) (upTo_next (df := default) (by omega) rfl) | exact congrArg (fun x => some (Ts 0, D.sl 3 (List.map SEntry.cells x))) (upTo_first a k default) | rfl | (refine congrArg (fun n => PV.one (.d (.int .i64 n))) ?_; first | omega | (simp; done) | (simp [cntL]; done)), trivial⟩ trivial
 · exact Nat.zero_le _
 ·
  intro i hx
  try dsimp only at hx ⊢
  refine T.seq ?_
  refine T.seq ?_
  refine T.region ?_
  refine TL.cons rfl (Step.move (p := (.one (.d (.int .i64 (i : Int))))) rfl rfl (lt_ok rfl) rfl) ?_
  refine TL.cons rfl (Step.move (p := (.one (.row 900 []))) rfl rfl (lt_ok rfl) rfl) ?_
  refine TL.cons rfl (Step.len' (e := 121) (z := 3) (d := (.sl 3 (((upTo SEntry.ce SEntry.me a k i).set i (a.getD i default)).map SEntry.cells))) (n := a.length) rfl rfl (lt_ok rfl) (by kernel_rfl) rfl rfl (by simp [D.size, upTo_length])) ?_
  refine TL.cons rfl (Step.bin rfl rfl (lt_ok rfl) rfl rfl (Bin.lss (k := .i64) (a := (i : Int)) (b := (a.length : Int)))) ?_
  refine TL.nil ?_
  refine T.cond (b := decide ((i : Int) < (a.length : Int))) rfl (fun h1 => ?_) (fun h1 => ?_)
  ·
   replace h1 := of_decide_eq_true h1
   have hc1 := cntL_take_le (cnt := SEntry.ce) SEntry.ce_nn a (i + 1)
   have hc2 := cntL_take_succ (cnt := SEntry.ce) (i := i) default (show i < a.length by omega)
   have hc3 := cntL_nonneg (cnt := SEntry.ce) SEntry.ce_nn (a.take i)
   have hc4 : SEntry.ce (a.getD i default) = 1 + 1 + ((a.getD i default).f2.length : Int) := rfl
   refine T.skip ?_
   refine T.seq ?_
   refine T.block ?_
   refine T.seq ?_
   refine T.region ?_
   refine TL.cons rfl (Step.move (p := (.one (.row 900 []))) rfl rfl (lt_ok rfl) rfl) ?_
   refine TL.cons rfl (Step.move (p := (.one (.d (.int .i64 (i : Int))))) rfl rfl (lt_ok rfl) rfl) ?_
   refine TL.cons rfl (Step.move (p := (.one (.d (.int .i64 (k + cntL SEntry.ce (a.take i)))))) rfl rfl (lt_ok rfl) rfl) ?_
   refine TL.cons rfl (Step.index_row (d := (.sl 3 (((upTo SEntry.ce SEntry.me a k i).set i (a.getD i default)).map SEntry.cells))) (e := 121) (z := 3) (i := (i : Int)) rfl rfl (lt_ok rfl) (by kernel_rfl) rfl rfl rfl rfl (lt_ok rfl) rfl (by first | omega | (simp; omega)) (by simp only [D.at_, D.cell, D.size, List.length_set, List.length_map, upTo_length]; first | omega | (simp; omega))) ?_
   refine TL.cons rfl (Step.fieldAddr_r (d := (.sl 3 (((upTo SEntry.ce SEntry.me a k i).set i (a.getD i default)).map SEntry.cells))) (j := 0) (off := 0) (n := 1) (one := true) rfl rfl (lt_ok rfl) (by kernel_rfl) (Nat.succ_ne_zero _) rfl rfl (lt_ok rfl)) ?_
   refine TL.cons rfl (Step.store_row (n := 1) (p := (.one (.d (.int .i64 (k + cntL SEntry.ce (a.take i)))))) (ps := [.d (.int .i64 (k + cntL SEntry.ce (a.take i)))]) (es := [(.int .i64 (k + cntL SEntry.ce (a.take i)))]) (ss := []) (d1 := (.sl 3 (((upTo SEntry.ce SEntry.me a k i).set i (⟨k + cntL SEntry.ce (a.take i), (a.getD i default).f1, (a.getD i default).f2⟩ : SEntry)).map SEntry.cells))) (d' := (.sl 3 (((upTo SEntry.ce SEntry.me a k i).set i (⟨k + cntL SEntry.ce (a.take i), (a.getD i default).f1, (a.getD i default).f2⟩ : SEntry)).map SEntry.cells))) rfl rfl (by kernel_rfl) rfl rfl rfl rfl rfl rfl (.val rfl .nil) (by simp) (Putd.fld2 SEntry.len (by simp only [upTo_length]; first | omega | (simp; omega)) (lt_ok rfl) rfl) rfl) ?_
   refine TL.nil ?_
   refine T.seq ?_
   refine T.region ?_
   refine TL.cons rfl (Step.move (p := (.one (.d (.int .i64 (k + cntL SEntry.ce (a.take i)))))) rfl rfl (lt_ok rfl) rfl) ?_
   refine TL.cons rfl (Step.bin (r := .int .i64 ((k + cntL SEntry.ce (a.take i)) + 1)) rfl rfl (lt_ok rfl) rfl rfl (Bin.add (a := (k + cntL SEntry.ce (a.take i))) (b := 1) (by first | exact wrap_ok (by first | omega | (simp; omega)) (by first | omega | (simp; omega)) | rfl))) ?_
   refine TL.cons rfl (Step.assign (p := (.one (.d (.int .i64 ((k + cntL SEntry.ce (a.take i)) + 1))))) rfl rfl (lt_ok rfl) rfl) ?_
   refine TL.nil ?_
   refine T.seq ?_
   refine T.region ?_
   refine TL.cons rfl (Step.move (p := (.one (.row 900 []))) rfl rfl (lt_ok rfl) rfl) ?_
   refine TL.cons rfl (Step.move (p := (.one (.d (.int .i64 (i : Int))))) rfl rfl (lt_ok rfl) rfl) ?_
   refine TL.cons rfl (Step.move (p := (.one (.d (.int .i64 ((k + cntL SEntry.ce (a.take i)) + 1))))) rfl rfl (lt_ok rfl) rfl) ?_
   refine TL.cons rfl (Step.index_row (d := (.sl 3 (((upTo SEntry.ce SEntry.me a k i).set i (⟨k + cntL SEntry.ce (a.take i), (a.getD i default).f1, (a.getD i default).f2⟩ : SEntry)).map SEntry.cells))) (e := 121) (z := 3) (i := (i : Int)) rfl rfl (lt_ok rfl) (by kernel_rfl) rfl rfl rfl rfl (lt_ok rfl) rfl (by first | omega | (simp; omega)) (by simp only [D.at_, D.cell, D.size, List.length_set, List.length_map, upTo_length]; first | omega | (simp; omega))) ?_
   refine TL.cons rfl (Step.fieldAddr_r (d := (.sl 3 (((upTo SEntry.ce SEntry.me a k i).set i (⟨k + cntL SEntry.ce (a.take i), (a.getD i default).f1, (a.getD i default).f2⟩ : SEntry)).map SEntry.cells))) (j := 0) (off := 1) (n := 1) (one := true) rfl rfl (lt_ok rfl) (by kernel_rfl) (Nat.succ_ne_zero _) rfl rfl (lt_ok rfl)) ?_
   refine TL.cons rfl (Step.store_row (n := 1) (p := (.one (.d (.int .i64 ((k + cntL SEntry.ce (a.take i)) + 1))))) (ps := [.d (.int .i64 ((k + cntL SEntry.ce (a.take i)) + 1))]) (es := [(.int .i64 ((k + cntL SEntry.ce (a.take i)) + 1))]) (ss := []) (d1 := (.sl 3 (((upTo SEntry.ce SEntry.me a k i).set i (⟨k + cntL SEntry.ce (a.take i), (k + cntL SEntry.ce (a.take i)) + 1, (a.getD i default).f2⟩ : SEntry)).map SEntry.cells))) (d' := (.sl 3 (((upTo SEntry.ce SEntry.me a k i).set i (⟨k + cntL SEntry.ce (a.take i), (k + cntL SEntry.ce (a.take i)) + 1, (a.getD i default).f2⟩ : SEntry)).map SEntry.cells))) rfl rfl (by kernel_rfl) rfl rfl rfl rfl rfl rfl (.val rfl .nil) (by simp) (Putd.fld2 SEntry.len (by simp only [upTo_length]; first | omega | (simp; omega)) (lt_ok rfl) rfl) rfl) ?_
   refine TL.nil ?_
   refine T.seq ?_
   refine T.region ?_
   refine TL.cons rfl (Step.move (p := (.one (.d (.int .i64 ((k + cntL SEntry.ce (a.take i)) + 1))))) rfl rfl (lt_ok rfl) rfl) ?_
   refine TL.cons rfl (Step.bin (r := .int .i64 (((k + cntL SEntry.ce (a.take i)) + 1) + 1)) rfl rfl (lt_ok rfl) rfl rfl (Bin.add (a := ((k + cntL SEntry.ce (a.take i)) + 1)) (b := 1) (by first | exact wrap_ok (by first | omega | (simp; omega)) (by first | omega | (simp; omega)) | rfl))) ?_
   refine TL.cons rfl (Step.assign (p := (.one (.d (.int .i64 (((k + cntL SEntry.ce (a.take i)) + 1) + 1))))) rfl rfl (lt_ok rfl) rfl) ?_
   refine TL.nil ?_
   refine T.region ?_
   refine TL.cons rfl (Step.move (p := (.one (.row 900 []))) rfl rfl (lt_ok rfl) rfl) ?_
   refine TL.cons rfl (Step.move (p := (.one (.d (.int .i64 (i : Int))))) rfl rfl (lt_ok rfl) rfl) ?_
   refine TL.cons rfl (Step.index_row (d := (.sl 3 (((upTo SEntry.ce SEntry.me a k i).set i (⟨k + cntL SEntry.ce (a.take i), (k + cntL SEntry.ce (a.take i)) + 1, (a.getD i default).f2⟩ : SEntry)).map SEntry.cells))) (e := 121) (z := 3) (i := (i : Int)) rfl rfl (lt_ok rfl) (by kernel_rfl) rfl rfl rfl rfl (lt_ok rfl) rfl (by first | omega | (simp; omega)) (by simp only [D.at_, D.cell, D.size, List.length_set, List.length_map, upTo_length]; first | omega | (simp; omega))) ?_
   refine TL.cons rfl (Step.fieldAddr_r (d := (.sl 3 (((upTo SEntry.ce SEntry.me a k i).set i (⟨k + cntL SEntry.ce (a.take i), (k + cntL SEntry.ce (a.take i)) + 1, (a.getD i default).f2⟩ : SEntry)).map SEntry.cells))) (j := 0) (off := 2) (n := 1) (one := true) rfl rfl (lt_ok rfl) (by kernel_rfl) (Nat.succ_ne_zero _) rfl rfl (lt_ok rfl)) ?_
   refine TL.cons rfl (Step.load_row (d := (.sl 3 (((upTo SEntry.ce SEntry.me a k i).set i (⟨k + cntL SEntry.ce (a.take i), (k + cntL SEntry.ce (a.take i)) + 1, (a.getD i default).f2⟩ : SEntry)).map SEntry.cells))) (c := .row 900 [(i, 2)]) rfl rfl (lt_ok rfl) (by kernel_rfl) rfl rfl (ofRow_sl (cell_set_sl (z := 3) (by simp only [upTo_length]; first | omega | (simp; omega)) rfl) rfl)) ?_
   refine TL.cons rfl (Step.move (p := (.one (.d (.int .i64 (((k + cntL SEntry.ce (a.take i)) + 1) + 1))))) rfl rfl (lt_ok rfl) rfl) ?_
   refine TL.cons rfl (Step.callM (f := 32) (xs := [.tmp 30, .tmp 31]) (ps := [(.one (.row 900 [(i, 2)])), (.one (.d (.int .i64 (((k + cntL SEntry.ce (a.take i)) + 1) + 1))))]) (args := [.one (.mk (.ints .u8 (a.getD i default).f2) (.ints .u8 (mkB (a.getD i default).f2 (((k + cntL SEntry.ce (a.take i)) + 1) + 1)))), .one (.rd (.int .i64 (((k + cntL SEntry.ce (a.take i)) + 1) + 1)))]) (js := [(900, (.sl 3 (((upTo SEntry.ce SEntry.me a k i).set i (⟨k + cntL SEntry.ce (a.take i), (k + cntL SEntry.ce (a.take i)) + 1, mkB (a.getD i default).f2 (((k + cntL SEntry.ce (a.take i)) + 1) + 1)⟩ : SEntry)).map SEntry.cells)))]) (x := (.int .i64 ((((k + cntL SEntry.ce (a.take i)) + 1) + 1) + ((a.getD i default).f2.length : Int)))) (g := .func 32) rfl rfl (lt_ok rfl) rfl (by kernel_rfl) rfl rfl (.row (T := (Ts 0)) (d := (.sl 3 (((upTo SEntry.ce SEntry.me a k i).set i (⟨k + cntL SEntry.ce (a.take i), (k + cntL SEntry.ce (a.take i)) + 1, (a.getD i default).f2⟩ : SEntry)).map SEntry.cells))) (e' := (.ints .u8 (mkB (a.getD i default).f2 (((k + cntL SEntry.ce (a.take i)) + 1) + 1)))) (d' := (.sl 3 (((upTo SEntry.ce SEntry.me a k i).set i (⟨k + cntL SEntry.ce (a.take i), (k + cntL SEntry.ce (a.take i)) + 1, mkB (a.getD i default).f2 (((k + cntL SEntry.ce (a.take i)) + 1) + 1)⟩ : SEntry)).map SEntry.cells))) rfl (cell_set_sl (z := 3) (by simp only [upTo_length]; first | omega | (simp; omega)) rfl) rfl (putAt_fld2 (by simp only [upTo_length]; first | omega | (simp; omega)) rfl) rfl (by simp [D.size]) rfl rfl (.d .nil)) (ok_laws_markByteS (a.getD i default).f2 (((k + cntL SEntry.ce (a.take i)) + 1) + 1) (by omega) (by first | omega | (have := (by assumption); omega))) rfl) ?_
   refine TL.cons rfl (Step.assign (p := (.one (.d (.int .i64 ((((k + cntL SEntry.ce (a.take i)) + 1) + 1) + ((a.getD i default).f2.length : Int)))))) rfl rfl (lt_ok rfl) rfl) ?_
   refine TL.nil ?_
   refine T.region ?_
   refine TL.cons rfl (Step.move (p := (.one (.d (.int .i64 (i : Int))))) rfl rfl (lt_ok rfl) rfl) ?_
   refine TL.cons rfl (Step.bin (r := .int .i64 ((i : Int) + 1)) rfl rfl (lt_ok rfl) rfl rfl (Bin.add (a := (i : Int)) (b := 1) (by first | exact wrap_ok (by first | omega | (simp; omega)) (by first | omega | (simp; omega)) | rfl))) ?_
   refine TL.cons rfl (Step.assign (p := (.one (.d (.int .i64 ((i : Int) + 1))))) rfl rfl (lt_ok rfl) rfl) ?_
   refine TL.nil ?_
   exact ⟨i + 1, by omega, by first | omega | (dsimp only; omega), Env.le_mk ⟨rfl, rfl, by first | exact congrArg (fun x => some (Ts 0, D.sl 3 (List.map SEntry.cells x))) (upTo_next (df := default) (by omega) rfl) | exact congrArg (fun x => some (Ts 0, D.sl 3 (List.map SEntry.cells x))) (upTo_first a k default) | rfl | (refine congrArg (fun n => PV.one (.d (.int .i64 n))) ?_; first | omega | (simp; done) | (simp [cntL]; done)), by first | exact congrArg (fun x => some (Ts 0, D.sl 3 (List.map SEntry.cells x))) (upTo_next (df := default) (by omega) rfl) | exact congrArg (fun x => some (Ts 0, D.sl 3 (List.map SEntry.cells x))) (upTo_first a k default) | rfl | (refine congrArg (fun n => PV.one (.d (.int .i64 n))) ?_; first | omega | (simp; done) | (simp [cntL]; done)), trivial⟩ ⟨by first | exact congrArg (fun x => some (Ts 0, D.sl 3 (List.map SEntry.cells x))) (upTo_next (df := default) (by omega) rfl) | exact congrArg (fun x => some (Ts 0, D.sl 3 (List.map SEntry.cells x))) (upTo_first a k default) | rfl | (refine congrArg (fun n => PV.one (.d (.int .i64 n))) ?_; first | omega | (simp; done) | (simp [cntL]; done)), trivial⟩ trivial⟩
  ·
   replace h1 := of_decide_eq_false h1
   refine T.exit ?_
   refine T.seq ?_
   refine T.region ?_
   refine TL.cons rfl (Step.move (p := (.one (.d (.int .i64 (k + cntL SEntry.ce (a.take i)))))) rfl rfl (lt_ok rfl) rfl) ?_
   refine TL.cons rfl (Step.assign (p := (.one (.d (.int .i64 (k + cntL SEntry.ce (a.take i)))))) rfl rfl (lt_ok rfl) rfl) ?_
   refine TL.nil ?_
   refine T.ret ?_
   exact ⟨⟨⟨[(false, [.d (.int .i64 (k + cntL SEntry.ce (a.take i)))])], (.cons rfl .nil), rfl, [], (RetC.rd' (by (congr 1; rw [cntL_all (by omega)])) .nil)⟩, rfl⟩, (.mk' (by exact congrArg (fun x => some (Ts 0, D.sl 3 (List.map SEntry.cells x))) (upTo_end (by omega))) (.rd .nil'))⟩
theorem ok_laws_markTc (a : STc) (k : Int) (h0_ : 0 ≤ k) (h1_ : k + a.cm ≤ 4611686018427387904) : MK Try.prog 31 [.agg [.rd (.int .i64 a.f0), .mk (.sl 3 (a.f1.map SEntry.cells)) (.sl 3 ((mkL SEntry.ce SEntry.me a.f1 k).map SEntry.cells))], .one (.rd (.int .i64 k))] [(false, [.rd (.int .i64 (k + a.cm))])] := by
 refine MK.intro Try.func31 rfl 10 rfl (le_ok rfl) (le_ok rfl) rfl fun w Z IX pin Ts hp => ?_
 have n1 := cntL_nonneg SEntry.ce_nn a.f1
 simp only [STc.cm] at h1_
 refine T.seq ?_
 refine T.region ?_
 refine TL.cons rfl (Step.box (p := (.agg [.d (.int .i64 a.f0), .row 901 []])) (ps := [.d (.int .i64 a.f0), .row 901 []]) rfl rfl (lt_ok rfl) rfl rfl rfl rfl rfl) ?_
 refine TL.cons rfl (Step.assign (p := (.one (.d (.int .i64 0)))) rfl rfl (lt_ok rfl) rfl) ?_
 refine TL.nil ?_
 refine T.seq ?_
 refine T.region ?_
 refine TL.cons rfl (Step.fieldAddr (q := 0) (off := 1) (n := 1) (one := true) rfl rfl (lt_ok rfl) (by kernel_rfl) (Nat.succ_ne_zero _) rfl) ?_
 refine TL.cons rfl (Step.load_box (c := .row 901 []) rfl rfl (lt_ok rfl) (by kernel_rfl) rfl rfl rfl) ?_
 refine TL.cons rfl (Step.move (p := (.one (.d (.int .i64 k)))) rfl rfl (lt_ok rfl) rfl) ?_
 have nn1 := cntL_nonneg SEntry.ce_nn a.f1
 refine TL.cons rfl (Step.callM (f := 93) (xs := [.tmp 6, .tmp 7]) (ps := [(.one (.row 901 [])), (.one (.d (.int .i64 k)))]) (args := [.one (.mk (.sl 3 (a.f1.map SEntry.cells)) (.sl 3 ((mkL SEntry.ce SEntry.me a.f1 k).map SEntry.cells))), .one (.rd (.int .i64 k))]) (js := [(901, (.sl 3 ((mkL SEntry.ce SEntry.me a.f1 k).map SEntry.cells)))]) (x := (.int .i64 (k + cntL SEntry.ce a.f1))) (g := .func 93) rfl rfl (lt_ok rfl) rfl (by kernel_rfl) rfl rfl (.row (T := (Ts 1)) (d := (.sl 3 (a.f1.map SEntry.cells))) (e' := (.sl 3 ((mkL SEntry.ce SEntry.me a.f1 k).map SEntry.cells))) (d' := (.sl 3 ((mkL SEntry.ce SEntry.me a.f1 k).map SEntry.cells))) rfl rfl rfl rfl rfl (by simp [D.size, mkL_length]) rfl rfl (.d .nil)) (ok_laws_markEntryS a.f1 k (by omega) (by first | omega | (have := SEntry.cL_le (xs := a.f1) (by assumption); omega))) rfl) ?_
 refine TL.cons rfl (Step.assign (p := (.one (.d (.int .i64 (k + cntL SEntry.ce a.f1))))) rfl rfl (lt_ok rfl) rfl) ?_
 refine TL.nil ?_
 refine T.seq ?_
 refine T.region ?_
 refine TL.cons rfl (Step.move (p := (.one (.d (.int .i64 (k + cntL SEntry.ce a.f1))))) rfl rfl (lt_ok rfl) rfl) ?_
 refine TL.cons rfl (Step.assign (p := (.one (.d (.int .i64 (k + cntL SEntry.ce a.f1))))) rfl rfl (lt_ok rfl) rfl) ?_
 refine TL.nil ?_
 refine T.ret ?_
 exact ⟨⟨⟨[(false, [.d (.int .i64 (k + cntL SEntry.ce a.f1))])], (.cons rfl .nil), rfl, [], (RetC.rd' (by first | rfl | (congr 1; simp only [STc.cm]; omega)) .nil)⟩, rfl⟩, (.rd (.mk' (by rfl) (.rd .nil')))⟩
theorem ok_laws_markIncl (a : SIncl) (k : Int) (h0_ : 0 ≤ k) (h1_ : k + a.cm ≤ 4611686018427387904) : MK Try.prog 58 [.agg [.rd (.int .i64 a.f0), .rd (.int .i64 a.f1), .rd (.int .i64 a.f2), .mk (.ints .u8 a.f3) (.ints .u8 (mkB a.f3 k)), .mk (.bss a.f4) (.bss (mkBs a.f4 (k + (a.f3.length : Int))))], .one (.rd (.int .i64 k))] [(false, [.rd (.int .i64 (k + a.cm))])] := by
 refine MK.intro Try.func58 rfl 14 rfl (le_ok rfl) (le_ok rfl) rfl fun w Z IX pin Ts hp => ?_
 have n4 := cntBs_nonneg a.f4
 simp only [SIncl.cm] at h1_
 refine T.seq ?_
 refine T.region ?_
 refine TL.cons rfl (Step.box (p := (.agg [.d (.int .i64 a.f0), .d (.int .i64 a.f1), .d (.int .i64 a.f2), .row 903 [], .row 904 []])) (ps := [.d (.int .i64 a.f0), .d (.int .i64 a.f1), .d (.int .i64 a.f2), .row 903 [], .row 904 []]) rfl rfl (lt_ok rfl) rfl rfl rfl rfl rfl) ?_
 refine TL.cons rfl (Step.assign (p := (.one (.d (.int .i64 0)))) rfl rfl (lt_ok rfl) rfl) ?_
 refine TL.nil ?_
 refine T.seq ?_
 refine T.region ?_
 refine TL.cons rfl (Step.fieldAddr (q := 0) (off := 3) (n := 1) (one := true) rfl rfl (lt_ok rfl) (by kernel_rfl) (Nat.succ_ne_zero _) rfl) ?_
 refine TL.cons rfl (Step.load_box (c := .row 903 []) rfl rfl (lt_ok rfl) (by kernel_rfl) rfl rfl rfl) ?_
 refine TL.cons rfl (Step.move (p := (.one (.d (.int .i64 k)))) rfl rfl (lt_ok rfl) rfl) ?_
 refine TL.cons rfl (Step.callM (f := 32) (xs := [.tmp 6, .tmp 7]) (ps := [(.one (.row 903 [])), (.one (.d (.int .i64 k)))]) (args := [.one (.mk (.ints .u8 a.f3) (.ints .u8 (mkB a.f3 k))), .one (.rd (.int .i64 k))]) (js := [(903, (.ints .u8 (mkB a.f3 k)))]) (x := (.int .i64 (k + (a.f3.length : Int)))) (g := .func 32) rfl rfl (lt_ok rfl) rfl (by kernel_rfl) rfl rfl (.row (T := (Ts 3)) (d := (.ints .u8 a.f3)) (e' := (.ints .u8 (mkB a.f3 k))) (d' := (.ints .u8 (mkB a.f3 k))) rfl rfl rfl rfl rfl (by simp [D.size, mkL_length]) rfl rfl (.d .nil)) (ok_laws_markByteS a.f3 k (by omega) (by first | omega | (have := (by assumption); omega))) rfl) ?_
 refine TL.cons rfl (Step.assign (p := (.one (.d (.int .i64 (k + (a.f3.length : Int)))))) rfl rfl (lt_ok rfl) rfl) ?_
 refine TL.nil ?_
 refine T.seq ?_
 refine T.region ?_
 refine TL.cons rfl (Step.fieldAddr (q := 0) (off := 4) (n := 1) (one := true) rfl rfl (lt_ok rfl) (by kernel_rfl) (Nat.succ_ne_zero _) rfl) ?_
 refine TL.cons rfl (Step.load_box (c := .row 904 []) rfl rfl (lt_ok rfl) (by kernel_rfl) rfl rfl rfl) ?_
 refine TL.cons rfl (Step.move (p := (.one (.d (.int .i64 (k + (a.f3.length : Int)))))) rfl rfl (lt_ok rfl) rfl) ?_
 have nn1 := cntBs_nonneg a.f4
 refine TL.cons rfl (Step.callM (f := 85) (xs := [.tmp 10, .tmp 11]) (ps := [(.one (.row 904 [])), (.one (.d (.int .i64 (k + (a.f3.length : Int)))))]) (args := [.one (.mk (.bss a.f4) (.bss (mkBs a.f4 (k + (a.f3.length : Int))))), .one (.rd (.int .i64 (k + (a.f3.length : Int))))]) (js := [(904, (.bss (mkBs a.f4 (k + (a.f3.length : Int)))))]) (x := (.int .i64 ((k + (a.f3.length : Int)) + cntL (fun x : List Int => (x.length : Int)) a.f4))) (g := .func 85) rfl rfl (lt_ok rfl) rfl (by kernel_rfl) rfl rfl (.row (T := (Ts 4)) (d := (.bss a.f4)) (e' := (.bss (mkBs a.f4 (k + (a.f3.length : Int))))) (d' := (.bss (mkBs a.f4 (k + (a.f3.length : Int))))) rfl rfl rfl rfl rfl (by simp [D.size, mkL_length]) rfl rfl (.d .nil)) (ok_laws_markByteSS a.f4 (k + (a.f3.length : Int)) (by omega) (by first | omega | (have := cntBs_le (xs := a.f4) (by assumption); omega))) rfl) ?_
 refine TL.cons rfl (Step.assign (p := (.one (.d (.int .i64 ((k + (a.f3.length : Int)) + cntL (fun x : List Int => (x.length : Int)) a.f4))))) rfl rfl (lt_ok rfl) rfl) ?_
 refine TL.nil ?_
 refine T.seq ?_
 refine T.region ?_
 refine TL.cons rfl (Step.move (p := (.one (.d (.int .i64 ((k + (a.f3.length : Int)) + cntL (fun x : List Int => (x.length : Int)) a.f4))))) rfl rfl (lt_ok rfl) rfl) ?_
 refine TL.cons rfl (Step.assign (p := (.one (.d (.int .i64 ((k + (a.f3.length : Int)) + cntL (fun x : List Int => (x.length : Int)) a.f4))))) rfl rfl (lt_ok rfl) rfl) ?_
 refine TL.nil ?_
 refine T.ret ?_
 exact ⟨⟨⟨[(false, [.d (.int .i64 ((k + (a.f3.length : Int)) + cntL (fun x : List Int => (x.length : Int)) a.f4))])], (.cons rfl .nil), rfl, [], (RetC.rd' (by first | rfl | (congr 1; simp only [SIncl.cm]; omega)) .nil)⟩, rfl⟩, (.rd (.rd (.rd (.mk' (by rfl) (.mk' (by rfl) (.rd .nil'))))))⟩
theorem ok_laws_markHead (a : SHead) (k : Int) (h0_ : 0 ≤ k) (h1_ : k + a.cm ≤ 4611686018427387904) : MK Try.prog 66 [.agg [.rd (.int .i64 a.f0), .rd (.int .i64 a.f1), .rd (.int .i64 a.f2), .mk (.ints .u8 a.f3) (.ints .u8 (mkB a.f3 k)), .mk (.ints .u8 a.f4) (.ints .u8 (mkB a.f4 (k + (a.f3.length : Int)))), .rd (.int .i64 a.f5.f0), .rd (.int .i64 a.f5.f1), .mk (.ints .u8 a.f5.f2) (.ints .u8 (mkB a.f5.f2 ((k + (a.f3.length : Int)) + (a.f4.length : Int)))), .mk (.ints .u8 a.f5.f3) (.ints .u8 (mkB a.f5.f3 (((k + (a.f3.length : Int)) + (a.f4.length : Int)) + (a.f5.f2.length : Int)))), .mk (.bss a.f5.f4) (.bss (mkBs a.f5.f4 ((((k + (a.f3.length : Int)) + (a.f4.length : Int)) + (a.f5.f2.length : Int)) + (a.f5.f3.length : Int))))], .one (.rd (.int .i64 k))] [(false, [.rd (.int .i64 (k + a.cm))])] := by
 refine MK.intro Try.func66 rfl 18 rfl (le_ok rfl) (le_ok rfl) rfl fun w Z IX pin Ts hp => ?_
 have n5 := SQc.cm_nn a.f5
 simp only [SHead.cm] at h1_
 refine T.seq ?_
 refine T.region ?_
 refine TL.cons rfl (Step.box (p := (.agg [.d (.int .i64 a.f0), .d (.int .i64 a.f1), .d (.int .i64 a.f2), .row 903 [], .row 904 [], .d (.int .i64 a.f5.f0), .d (.int .i64 a.f5.f1), .row 907 [], .row 908 [], .row 909 []])) (ps := [.d (.int .i64 a.f0), .d (.int .i64 a.f1), .d (.int .i64 a.f2), .row 903 [], .row 904 [], .d (.int .i64 a.f5.f0), .d (.int .i64 a.f5.f1), .row 907 [], .row 908 [], .row 909 []]) rfl rfl (lt_ok rfl) rfl rfl rfl rfl rfl) ?_
 refine TL.cons rfl (Step.assign (p := (.one (.d (.int .i64 0)))) rfl rfl (lt_ok rfl) rfl) ?_
 refine TL.nil ?_
 refine T.seq ?_
 refine T.region ?_
 refine TL.cons rfl (Step.fieldAddr (q := 0) (off := 3) (n := 1) (one := true) rfl rfl (lt_ok rfl) (by kernel_rfl) (Nat.succ_ne_zero _) rfl) ?_
 refine TL.cons rfl (Step.load_box (c := .row 903 []) rfl rfl (lt_ok rfl) (by kernel_rfl) rfl rfl rfl) ?_
 refine TL.cons rfl (Step.move (p := (.one (.d (.int .i64 k)))) rfl rfl (lt_ok rfl) rfl) ?_
 refine TL.cons rfl (Step.callM (f := 32) (xs := [.tmp 6, .tmp 7]) (ps := [(.one (.row 903 [])), (.one (.d (.int .i64 k)))]) (args := [.one (.mk (.ints .u8 a.f3) (.ints .u8 (mkB a.f3 k))), .one (.rd (.int .i64 k))]) (js := [(903, (.ints .u8 (mkB a.f3 k)))]) (x := (.int .i64 (k + (a.f3.length : Int)))) (g := .func 32) rfl rfl (lt_ok rfl) rfl (by kernel_rfl) rfl rfl (.row (T := (Ts 3)) (d := (.ints .u8 a.f3)) (e' := (.ints .u8 (mkB a.f3 k))) (d' := (.ints .u8 (mkB a.f3 k))) rfl rfl rfl rfl rfl (by simp [D.size, mkL_length]) rfl rfl (.d .nil)) (ok_laws_markByteS a.f3 k (by omega) (by first | omega | (have := (by assumption); omega))) rfl) ?_
 refine TL.cons rfl (Step.assign (p := (.one (.d (.int .i64 (k + (a.f3.length : Int)))))) rfl rfl (lt_ok rfl) rfl) ?_
 refine TL.nil ?_
 refine T.seq ?_
 refine T.region ?_
 refine TL.cons rfl (Step.fieldAddr (q := 0) (off := 4) (n := 1) (one := true) rfl rfl (lt_ok rfl) (by kernel_rfl) (Nat.succ_ne_zero _) rfl) ?_
 refine TL.cons rfl (Step.load_box (c := .row 904 []) rfl rfl (lt_ok rfl) (by kernel_rfl) rfl rfl rfl) ?_
 refine TL.cons rfl (Step.move (p := (.one (.d (.int .i64 (k + (a.f3.length : Int)))))) rfl rfl (lt_ok rfl) rfl) ?_
 refine TL.cons rfl (Step.callM (f := 32) (xs := [.tmp 10, .tmp 11]) (ps := [(.one (.row 904 [])), (.one (.d (.int .i64 (k + (a.f3.length : Int)))))]) (args := [.one (.mk (.ints .u8 a.f4) (.ints .u8 (mkB a.f4 (k + (a.f3.length : Int))))), .one (.rd (.int .i64 (k + (a.f3.length : Int))))]) (js := [(904, (.ints .u8 (mkB a.f4 (k + (a.f3.length : Int)))))]) (x := (.int .i64 ((k + (a.f3.length : Int)) + (a.f4.length : Int)))) (g := .func 32) rfl rfl (lt_ok rfl) rfl (by kernel_rfl) rfl rfl (.row (T := (Ts 4)) (d := (.ints .u8 a.f4)) (e' := (.ints .u8 (mkB a.f4 (k + (a.f3.length : Int))))) (d' := (.ints .u8 (mkB a.f4 (k + (a.f3.length : Int))))) rfl rfl rfl rfl rfl (by simp [D.size, mkL_length]) rfl rfl (.d .nil)) (ok_laws_markByteS a.f4 (k + (a.f3.length : Int)) (by omega) (by first | omega | (have := (by assumption); omega))) rfl) ?_
 refine TL.cons rfl (Step.assign (p := (.one (.d (.int .i64 ((k + (a.f3.length : Int)) + (a.f4.length : Int)))))) rfl rfl (lt_ok rfl) rfl) ?_
 refine TL.nil ?_
 refine T.seq ?_
 refine T.region ?_
 refine TL.cons rfl (Step.fieldAddr (q := 0) (off := 5) (n := 5) (one := false) rfl rfl (lt_ok rfl) (by kernel_rfl) (Nat.succ_ne_zero _) rfl) ?_
 refine TL.cons rfl (Step.load_box_agg (n := 5) (qs := [.d (.int .i64 a.f5.f0), .d (.int .i64 a.f5.f1), .row 907 [], .row 908 [], .row 909 []]) rfl rfl (lt_ok rfl) (by kernel_rfl) rfl rfl rfl rfl) ?_
 refine TL.cons rfl (Step.move (p := (.one (.d (.int .i64 ((k + (a.f3.length : Int)) + (a.f4.length : Int)))))) rfl rfl (lt_ok rfl) rfl) ?_
 have nn1 := SQc.cm_nn a.f5
 refine TL.cons rfl (Step.callM (f := 21) (xs := [.tmp 14, .tmp 15]) (ps := [(.agg [.d (.int .i64 a.f5.f0), .d (.int .i64 a.f5.f1), .row 907 [], .row 908 [], .row 909 []]), (.one (.d (.int .i64 ((k + (a.f3.length : Int)) + (a.f4.length : Int)))))]) (args := [.agg [.rd (.int .i64 a.f5.f0), .rd (.int .i64 a.f5.f1), .mk (.ints .u8 a.f5.f2) (.ints .u8 (mkB a.f5.f2 ((k + (a.f3.length : Int)) + (a.f4.length : Int)))), .mk (.ints .u8 a.f5.f3) (.ints .u8 (mkB a.f5.f3 (((k + (a.f3.length : Int)) + (a.f4.length : Int)) + (a.f5.f2.length : Int)))), .mk (.bss a.f5.f4) (.bss (mkBs a.f5.f4 ((((k + (a.f3.length : Int)) + (a.f4.length : Int)) + (a.f5.f2.length : Int)) + (a.f5.f3.length : Int))))], .one (.rd (.int .i64 ((k + (a.f3.length : Int)) + (a.f4.length : Int))))]) (js := [(907, (.ints .u8 (mkB a.f5.f2 ((k + (a.f3.length : Int)) + (a.f4.length : Int))))), (908, (.ints .u8 (mkB a.f5.f3 (((k + (a.f3.length : Int)) + (a.f4.length : Int)) + (a.f5.f2.length : Int))))), (909, (.bss (mkBs a.f5.f4 ((((k + (a.f3.length : Int)) + (a.f4.length : Int)) + (a.f5.f2.length : Int)) + (a.f5.f3.length : Int)))))]) (x := (.int .i64 (((k + (a.f3.length : Int)) + (a.f4.length : Int)) + a.f5.cm))) (g := .func 21) rfl rfl (lt_ok rfl) rfl (by kernel_rfl) rfl rfl (.d (.d (.row (T := (Ts 7)) (d := (.ints .u8 a.f5.f2)) (e' := (.ints .u8 (mkB a.f5.f2 ((k + (a.f3.length : Int)) + (a.f4.length : Int))))) (d' := (.ints .u8 (mkB a.f5.f2 ((k + (a.f3.length : Int)) + (a.f4.length : Int))))) rfl rfl rfl rfl rfl (by simp [D.size, mkL_length]) rfl rfl (.row (T := (Ts 8)) (d := (.ints .u8 a.f5.f3)) (e' := (.ints .u8 (mkB a.f5.f3 (((k + (a.f3.length : Int)) + (a.f4.length : Int)) + (a.f5.f2.length : Int))))) (d' := (.ints .u8 (mkB a.f5.f3 (((k + (a.f3.length : Int)) + (a.f4.length : Int)) + (a.f5.f2.length : Int))))) rfl rfl rfl rfl rfl (by simp [D.size, mkL_length]) rfl rfl (.row (T := (Ts 9)) (d := (.bss a.f5.f4)) (e' := (.bss (mkBs a.f5.f4 ((((k + (a.f3.length : Int)) + (a.f4.length : Int)) + (a.f5.f2.length : Int)) + (a.f5.f3.length : Int))))) (d' := (.bss (mkBs a.f5.f4 ((((k + (a.f3.length : Int)) + (a.f4.length : Int)) + (a.f5.f2.length : Int)) + (a.f5.f3.length : Int))))) rfl rfl rfl rfl rfl (by simp [D.size, mkL_length]) rfl rfl (.d .nil)))))) (ok_laws_markQc a.f5 ((k + (a.f3.length : Int)) + (a.f4.length : Int)) (by omega) (by first | omega | (have := SQc.cm_le (x := a.f5) (by assumption); omega))) rfl) ?_
 refine TL.cons rfl (Step.assign (p := (.one (.d (.int .i64 (((k + (a.f3.length : Int)) + (a.f4.length : Int)) + a.f5.cm))))) rfl rfl (lt_ok rfl) rfl) ?_
 refine TL.nil ?_
 refine T.seq ?_
 refine T.region ?_
 refine TL.cons rfl (Step.move (p := (.one (.d (.int .i64 (((k + (a.f3.length : Int)) + (a.f4.length : Int)) + a.f5.cm))))) rfl rfl (lt_ok rfl) rfl) ?_
 refine TL.cons rfl (Step.assign (p := (.one (.d (.int .i64 (((k + (a.f3.length : Int)) + (a.f4.length : Int)) + a.f5.cm))))) rfl rfl (lt_ok rfl) rfl) ?_
 refine TL.nil ?_
 refine T.ret ?_
 exact ⟨⟨⟨[(false, [.d (.int .i64 (((k + (a.f3.length : Int)) + (a.f4.length : Int)) + a.f5.cm))])], (.cons rfl .nil), rfl, [], (RetC.rd' (by first | rfl | (congr 1; simp only [SHead.cm]; omega)) .nil)⟩, rfl⟩, (.rd (.rd (.rd (.mk' (by rfl) (.mk' (by rfl) (.rd (.rd (.mk' (by rfl) (.mk' (by rfl) (.mk' (by rfl) (.rd .nil')))))))))))⟩
end Go.Proofs.Ythaagegnobegjaa.Rf
