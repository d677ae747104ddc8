/- The functions that FnExactGetProof calls, each held to what it answers. Printed by a program of this session; Lean checks it. -/
import Derived.Test.YtlcmflenbddliaaProg
import Derived.Test.YtlcmflenbddliaaTrFnExactGetProofb
namespace Go.Proofs.Ytlcmflenbddliaa.Rf
open Go.RowKit
set_option linter.unusedVariables false
set_option linter.unnecessarySimpa false
set_option linter.unusedSimpArgs false
set_option maxRecDepth 100000
set_option maxHeartbeats 4000000
@[ext] structure SLimits where
  f0 : Int
  f1 : Int
  f2 : Int
  f3 : Int
  f4 : Int
  deriving Inhabited, DecidableEq
def SLimits.cells (x : SLimits) : List D := [(.int .i64 x.f0), (.int .i64 x.f1), (.int .i64 x.f2), (.int .i64 x.f3), (.int .i64 x.f4)]
theorem SLimits.len (x : SLimits) : x.cells.length = 5 := rfl
def SLimits.sz (x : SLimits) (l : Int) : Int := l
def SLimits.sm (x : SLimits) : Prop := True
def SLimits.ok (x : SLimits) : Prop := (I64 x.f0) ∧ (I64 x.f1) ∧ (I64 x.f2) ∧ (I64 x.f3) ∧ (I64 x.f4)
theorem SLimits.sz_le (x : SLimits) {l : Int} (h : 0 ≤ l) : x.sz l ≤ l := by
  unfold SLimits.sz
  exact Int.le_refl _
theorem SLimits.sz_sm (x : SLimits) {l : Int} (h0 : 0 ≤ l) (hl : l ≤ 1048576) (h : 0 ≤ x.sz l) : x.sm := by
  unfold SLimits.sz at h
  exact trivial
def SLimits.cm (x : SLimits) : Int := 0
def SLimits.hm (a b : SLimits) (k : Int) : Prop := True
theorem SLimits.cm_nn (x : SLimits) : 0 ≤ x.cm := by
  unfold SLimits.cm
  omega
theorem SLimits.cm_le {x : SLimits} (h : x.sm) : x.cm ≤ 0 := by
  unfold SLimits.cm
  omega
def SLimits.ce (x : SLimits) : Int := 1 + 1 + 1 + 1 + 1
def SLimits.me (x : SLimits) (k : Int) : SLimits := ⟨k, k + 1, (k + 1) + 1, ((k + 1) + 1) + 1, (((k + 1) + 1) + 1) + 1⟩
theorem SLimits.ce_nn (x : SLimits) : 0 ≤ x.ce := by
  unfold SLimits.ce
  omega
theorem SLimits.ce_le {x : SLimits} (h : x.sm) : x.ce ≤ 5 := by
  unfold SLimits.ce
  omega
theorem SLimits.cL_le {xs : List SLimits} (h : xs.length ≤ 1048576 ∧ ∀ y ∈ xs, SLimits.sm y) : cntL SLimits.ce xs ≤ 5242880 := by
  have h1 := cntL_le (cnt := SLimits.ce) (n := 5) xs fun x hx => SLimits.ce_le (h.2 x hx)
  have h2 := h.1
  omega
@[ext] structure SQc where
  f0 : Int
  f1 : Int
  f2 : List Int
  f3 : List Int
  f4 : List (List Int)
  deriving Inhabited, DecidableEq
def SQc.cells (x : SQc) : List D := [(.int .i64 x.f0), (.int .i64 x.f1), (.ints .u8 x.f2), (.ints .u8 x.f3), (.bss x.f4)]
theorem SQc.len (x : SQc) : x.cells.length = 5 := rfl
def SQc.sz (x : SQc) (l : Int) : Int := szThen (szB x.f2 l) fun l0 => szThen (szB x.f3 l0) fun l1 => szThen (szLs szB x.f4 l1) fun l2 => l2
def SQc.sm (x : SQc) : Prop := (x.f2.length ≤ 1048576) ∧ (x.f3.length ≤ 1048576) ∧ (x.f4.length ≤ 1048576 ∧ ∀ y ∈ x.f4, y.length ≤ 1048576)
def SQc.ok (x : SQc) : Prop := (I64 x.f0) ∧ (I64 x.f1) ∧ (U8s x.f2) ∧ (U8s x.f3) ∧ (∀ y ∈ x.f4, U8s y)
theorem SQc.sz_le (x : SQc) {l : Int} (h : 0 ≤ l) : x.sz l ≤ l := by
  unfold SQc.sz
  exact szThen_le' (szB_le _ h) h fun l0 h0 => szThen_le' (szB_le _ h0) h0 fun l1 h1 => szThen_le' (szLs_le (fun x l h => szB_le x h) _ h1) h1 fun l2 h2 => Int.le_refl _
theorem SQc.sz_sm (x : SQc) {l : Int} (h0 : 0 ≤ l) (hl : l ≤ 1048576) (h : 0 ≤ x.sz l) : x.sm := by
  unfold SQc.sz at h
  have ⟨p0, h⟩ := szThen_nn h
  have e0 : (szB x.f2 l) ≤ l := szB_le _ h0
  have s0 := szB_sm p0 hl
  have c0 := Int.le_trans e0 hl
  have ⟨p1, h⟩ := szThen_nn h
  have e1 : (szB x.f3 (szB x.f2 l)) ≤ (szB x.f2 l) := szB_le _ p0
  have s1 := szB_sm p1 c0
  have c1 := Int.le_trans e1 c0
  have ⟨p2, h⟩ := szThen_nn h
  have e2 : (szLs szB x.f4 (szB x.f3 (szB x.f2 l))) ≤ (szB x.f3 (szB x.f2 l)) := szLs_le (fun x l h => szB_le x h) _ p1
  have s2 := szLs_sm (p := fun y => y.length ≤ 1048576) (fun x l h => szB_le x h) (fun x l h h0 hl => szB_sm h hl) p2 c1
  have c2 := Int.le_trans e2 c1
  exact ⟨s0, s1, s2⟩
def SQc.cm (x : SQc) : Int := (x.f2.length : Int) + (x.f3.length : Int) + cntL (fun x : List Int => (x.length : Int)) x.f4
def SQc.hm (a b : SQc) (k : Int) : Prop := (b.f2 = mkB a.f2 k) ∧ (b.f3 = mkB a.f3 (k + (a.f2.length : Int))) ∧ (b.f4 = mkBs a.f4 ((k + (a.f2.length : Int)) + (a.f3.length : Int)))
theorem SQc.cm_nn (x : SQc) : 0 ≤ x.cm := by
  unfold SQc.cm
  have n4 := cntBs_nonneg x.f4
  omega
theorem SQc.cm_le {x : SQc} (h : x.sm) : x.cm ≤ 1099513724928 := by
  unfold SQc.cm
  obtain ⟨p2, p3, p4⟩ := h
  have e2 := p2
  have e3 := p3
  have e4 := cntBs_le p4
  omega
theorem SQc.sm_df : (default : SQc).sm := by (repeat' (first | exact Nat.zero_le _ | (intro y hy; exact absurd hy (List.not_mem_nil)) | apply And.intro))
def SQc.ce (x : SQc) : Int := 1 + 1 + (x.f2.length : Int) + (x.f3.length : Int) + cntL (fun x : List Int => (x.length : Int)) x.f4
def SQc.me (x : SQc) (k : Int) : SQc := ⟨k, k + 1, mkB x.f2 ((k + 1) + 1), mkB x.f3 (((k + 1) + 1) + (x.f2.length : Int)), mkBs x.f4 ((((k + 1) + 1) + (x.f2.length : Int)) + (x.f3.length : Int))⟩
theorem SQc.ce_nn (x : SQc) : 0 ≤ x.ce := by
  unfold SQc.ce
  have n4 := cntBs_nonneg x.f4
  omega
theorem SQc.ce_le {x : SQc} (h : x.sm) : x.ce ≤ 1099513724930 := by
  unfold SQc.ce
  obtain ⟨p2, p3, p4⟩ := h
  have e2 := p2
  have e3 := p3
  have e4 := cntBs_le p4
  omega
theorem SQc.cL_le {xs : List SQc} (h : xs.length ≤ 1048576 ∧ ∀ y ∈ xs, SQc.sm y) : cntL SQc.ce xs ≤ 1152923703632199680 := by
  have h1 := cntL_le (cnt := SQc.ce) (n := 1099513724930) xs fun x hx => SQc.ce_le (h.2 x hx)
  have h2 := h.1
  omega
@[ext] structure SHead where
  f0 : Int
  f1 : Int
  f2 : Int
  f3 : List Int
  f4 : List Int
  f5 : SQc
  deriving Inhabited, DecidableEq
def SHead.cells (x : SHead) : List D := [(.int .i64 x.f0), (.int .i64 x.f1), (.int .i64 x.f2), (.ints .u8 x.f3), (.ints .u8 x.f4), (.int .i64 x.f5.f0), (.int .i64 x.f5.f1), (.ints .u8 x.f5.f2), (.ints .u8 x.f5.f3), (.bss x.f5.f4)]
theorem SHead.len (x : SHead) : x.cells.length = 10 := rfl
def SHead.sz (x : SHead) (l : Int) : Int := szThen (szB x.f3 l) fun l0 => szThen (szB x.f4 l0) fun l1 => szThen (SQc.sz x.f5 l1) fun l2 => l2
def SHead.sm (x : SHead) : Prop := (x.f3.length ≤ 1048576) ∧ (x.f4.length ≤ 1048576) ∧ (x.f5.sm)
def SHead.ok (x : SHead) : Prop := (I64 x.f0) ∧ (I64 x.f1) ∧ (I64 x.f2) ∧ (U8s x.f3) ∧ (U8s x.f4) ∧ (x.f5.ok)
theorem SHead.sz_le (x : SHead) {l : Int} (h : 0 ≤ l) : x.sz l ≤ l := by
  unfold SHead.sz
  exact szThen_le' (szB_le _ h) h fun l0 h0 => szThen_le' (szB_le _ h0) h0 fun l1 h1 => szThen_le' (SQc.sz_le _ h1) h1 fun l2 h2 => Int.le_refl _
theorem SHead.sz_sm (x : SHead) {l : Int} (h0 : 0 ≤ l) (hl : l ≤ 1048576) (h : 0 ≤ x.sz l) : x.sm := by
  unfold SHead.sz at h
  have ⟨p0, h⟩ := szThen_nn h
  have e0 : (szB x.f3 l) ≤ l := szB_le _ h0
  have s0 := szB_sm p0 hl
  have c0 := Int.le_trans e0 hl
  have ⟨p1, h⟩ := szThen_nn h
  have e1 : (szB x.f4 (szB x.f3 l)) ≤ (szB x.f3 l) := szB_le _ p0
  have s1 := szB_sm p1 c0
  have c1 := Int.le_trans e1 c0
  have ⟨p2, h⟩ := szThen_nn h
  have e2 : (SQc.sz x.f5 (szB x.f4 (szB x.f3 l))) ≤ (szB x.f4 (szB x.f3 l)) := SQc.sz_le _ p1
  have s2 := SQc.sz_sm _ p1 c1 p2
  have c2 := Int.le_trans e2 c1
  exact ⟨s0, s1, s2⟩
def SHead.cm (x : SHead) : Int := (x.f3.length : Int) + (x.f4.length : Int) + x.f5.cm
def SHead.hm (a b : SHead) (k : Int) : Prop := (b.f3 = mkB a.f3 k) ∧ (b.f4 = mkB a.f4 (k + (a.f3.length : Int))) ∧ (SQc.hm a.f5 b.f5 ((k + (a.f3.length : Int)) + (a.f4.length : Int)))
theorem SHead.cm_nn (x : SHead) : 0 ≤ x.cm := by
  unfold SHead.cm
  have n5 := SQc.cm_nn x.f5
  omega
theorem SHead.cm_le {x : SHead} (h : x.sm) : x.cm ≤ 1099515822080 := by
  unfold SHead.cm
  obtain ⟨p3, p4, p5⟩ := h
  have e3 := p3
  have e4 := p4
  have e5 := SQc.cm_le p5
  omega
theorem SHead.sm_df : (default : SHead).sm := by (repeat' (first | exact Nat.zero_le _ | (intro y hy; exact absurd hy (List.not_mem_nil)) | apply And.intro))
def SHead.ce (x : SHead) : Int := 1 + 1 + 1 + (x.f3.length : Int) + (x.f4.length : Int) + x.f5.ce
def SHead.me (x : SHead) (k : Int) : SHead := ⟨k, k + 1, (k + 1) + 1, mkB x.f3 (((k + 1) + 1) + 1), mkB x.f4 ((((k + 1) + 1) + 1) + (x.f3.length : Int)), x.f5.me (((((k + 1) + 1) + 1) + (x.f3.length : Int)) + (x.f4.length : Int))⟩
theorem SHead.ce_nn (x : SHead) : 0 ≤ x.ce := by
  unfold SHead.ce
  have n5 := SQc.ce_nn x.f5
  omega
theorem SHead.ce_le {x : SHead} (h : x.sm) : x.ce ≤ 1099515822085 := by
  unfold SHead.ce
  obtain ⟨p3, p4, p5⟩ := h
  have e3 := p3
  have e4 := p4
  have e5 := SQc.ce_le p5
  omega
theorem SHead.cL_le {xs : List SHead} (h : xs.length ≤ 1048576 ∧ ∀ y ∈ xs, SHead.sm y) : cntL SHead.ce xs ≤ 1152925902658600960 := by
  have h1 := cntL_le (cnt := SHead.ce) (n := 1099515822085) xs fun x hx => SHead.ce_le (h.2 x hx)
  have h2 := h.1
  omega
@[ext] structure SProof where
  f0 : List SHead
  f1 : SQc
  deriving Inhabited, DecidableEq
def SProof.cells (x : SProof) : List D := [(.sl 10 (x.f0.map SHead.cells)), (.int .i64 x.f1.f0), (.int .i64 x.f1.f1), (.ints .u8 x.f1.f2), (.ints .u8 x.f1.f3), (.bss x.f1.f4)]
theorem SProof.len (x : SProof) : x.cells.length = 6 := rfl
def SProof.sz (x : SProof) (l : Int) : Int := szThen (szLs SHead.sz x.f0 l) fun l0 => szThen (SQc.sz x.f1 l0) fun l1 => l1
def SProof.sm (x : SProof) : Prop := (x.f0.length ≤ 1048576 ∧ ∀ y ∈ x.f0, SHead.sm y) ∧ (x.f1.sm)
def SProof.ok (x : SProof) : Prop := (∀ y ∈ x.f0, SHead.ok y) ∧ (x.f1.ok)
theorem SProof.sz_le (x : SProof) {l : Int} (h : 0 ≤ l) : x.sz l ≤ l := by
  unfold SProof.sz
  exact szThen_le' (szLs_le (fun x l h => SHead.sz_le x h) _ h) h fun l0 h0 => szThen_le' (SQc.sz_le _ h0) h0 fun l1 h1 => Int.le_refl _
theorem SProof.sz_sm (x : SProof) {l : Int} (h0 : 0 ≤ l) (hl : l ≤ 1048576) (h : 0 ≤ x.sz l) : x.sm := by
  unfold SProof.sz at h
  have ⟨p0, h⟩ := szThen_nn h
  have e0 : (szLs SHead.sz x.f0 l) ≤ l := szLs_le (fun x l h => SHead.sz_le x h) _ h0
  have s0 := szLs_sm (p := SHead.sm) (fun x l h => SHead.sz_le x h) (fun x l h h0 hl => SHead.sz_sm x h0 hl h) p0 hl
  have c0 := Int.le_trans e0 hl
  have ⟨p1, h⟩ := szThen_nn h
  have e1 : (SQc.sz x.f1 (szLs SHead.sz x.f0 l)) ≤ (szLs SHead.sz x.f0 l) := SQc.sz_le _ p0
  have s1 := SQc.sz_sm _ p0 c0 p1
  have c1 := Int.le_trans e1 c0
  exact ⟨s0, s1⟩
def SProof.cm (x : SProof) : Int := cntL SHead.ce x.f0 + x.f1.cm
def SProof.hm (a b : SProof) (k : Int) : Prop := (b.f0 = mkL SHead.ce SHead.me a.f0 k) ∧ (SQc.hm a.f1 b.f1 (k + cntL SHead.ce a.f0))
theorem SProof.cm_nn (x : SProof) : 0 ≤ x.cm := by
  unfold SProof.cm
  have n0 := cntL_nonneg SHead.ce_nn x.f0
  have n1 := SQc.cm_nn x.f1
  omega
theorem SProof.cm_le {x : SProof} (h : x.sm) : x.cm ≤ 1152927002172325888 := by
  unfold SProof.cm
  obtain ⟨p0, p1⟩ := h
  have e0 := SHead.cL_le p0
  have e1 := SQc.cm_le p1
  omega
theorem SProof.sm_df : (default : SProof).sm := by (repeat' (first | exact Nat.zero_le _ | (intro y hy; exact absurd hy (List.not_mem_nil)) | apply And.intro))
def SProof.ce (x : SProof) : Int := cntL SHead.ce x.f0 + x.f1.ce
def SProof.me (x : SProof) (k : Int) : SProof := ⟨mkL SHead.ce SHead.me x.f0 k, x.f1.me (k + cntL SHead.ce x.f0)⟩
theorem SProof.ce_nn (x : SProof) : 0 ≤ x.ce := by
  unfold SProof.ce
  have n0 := cntL_nonneg SHead.ce_nn x.f0
  have n1 := SQc.ce_nn x.f1
  omega
theorem SProof.ce_le {x : SProof} (h : x.sm) : x.ce ≤ 1152927002172325890 := by
  unfold SProof.ce
  obtain ⟨p0, p1⟩ := h
  have e0 := SHead.cL_le p0
  have e1 := SQc.ce_le p1
  omega
theorem SProof.cL_le {xs : List SProof} (h : xs.length ≤ 1048576 ∧ ∀ y ∈ xs, SProof.sm y) : cntL SProof.ce xs ≤ 1208931584229848792432640 := by
  have h1 := cntL_le (cnt := SProof.ce) (n := 1152927002172325890) xs fun x hx => SProof.ce_le (h.2 x hx)
  have h2 := h.1
  omega
def limOk (l : SLimits) : Bool := decide (1 ≤ l.f0 ∧ l.f0 ≤ 10) && decide (0 ≤ l.f1 ∧ l.f1 ≤ 40) && decide (0 ≤ l.f2 ∧ l.f2 ≤ 8) && decide (1 ≤ l.f3 ∧ l.f3 ≤ 4000) && decide (3 ≤ l.f4 ∧ l.f4 ≤ 5)
theorem limOk_n {l : SLimits} (h : limOk l = true) : 1 ≤ l.f0 ∧ l.f0 ≤ 10 := by simp [limOk] at h; omega
@[ext] structure SRS where
  f0 : Int
  f1 : Int
  deriving Inhabited, DecidableEq
theorem gv_cut {b : List Int} {a : Int} {i : Nat} (hi : i < 9) : ∃ d, 9 - i = d + 1 ∧ 9 - (i + 1) = d := ⟨8 - i, by omega, by omega⟩
theorem gvGo_short {b : List Int} {a n : Int} {i : Nat} (hi : i < 9) (h : (b.length : Int) ≤ a + i) : gvGo b a (9 - i) i n = (0, 0, 1) := by
  obtain ⟨d, e, _⟩ := gv_cut (b := b) (a := a) hi; rw [e, gvGo, if_pos h]
theorem gvGo_var {b : List Int} {a n : Int} {i : Nat} (hi : i < 9) (h : ¬ (b.length : Int) ≤ a + i) (h2 : (0 < i ∧ b.getD (a + i).toNat 0 = 0) ∨ (i = 8 ∧ 128 ≤ b.getD (a + i).toNat 0)) : gvGo b a (9 - i) i n = (0, 0, 2) := by
  obtain ⟨d, e, _⟩ := gv_cut (b := b) (a := a) hi; rw [e, gvGo, if_neg h, if_pos h2]
theorem gvGo_done {b : List Int} {a n : Int} {i : Nat} (hi : i < 9) (h : ¬ (b.length : Int) ≤ a + i) (h2 : ¬ ((0 < i ∧ b.getD (a + i).toNat 0 = 0) ∨ (i = 8 ∧ 128 ≤ b.getD (a + i).toNat 0))) (h3 : b.getD (a + i).toNat 0 < 128) (h4 : n + b.getD (a + i).toNat 0 % 128 * 128 ^ i ≤ 1152921504606846975) : gvGo b a (9 - i) i n = (n + b.getD (a + i).toNat 0 % 128 * 128 ^ i, a + i + 1, 0) := by
  obtain ⟨d, e, _⟩ := gv_cut (b := b) (a := a) hi; rw [e, gvGo, if_neg h, if_neg h2, if_pos h3, if_pos h4]
theorem gvGo_big {b : List Int} {a n : Int} {i : Nat} (hi : i < 9) (h : ¬ (b.length : Int) ≤ a + i) (h2 : ¬ ((0 < i ∧ b.getD (a + i).toNat 0 = 0) ∨ (i = 8 ∧ 128 ≤ b.getD (a + i).toNat 0))) (h3 : b.getD (a + i).toNat 0 < 128) (h4 : ¬ n + b.getD (a + i).toNat 0 % 128 * 128 ^ i ≤ 1152921504606846975) : gvGo b a (9 - i) i n = (0, 0, 2) := by
  obtain ⟨d, e, _⟩ := gv_cut (b := b) (a := a) hi; rw [e, gvGo, if_neg h, if_neg h2, if_pos h3, if_neg h4]
theorem gvGo_next {b : List Int} {a n : Int} {i : Nat} (hi : i < 9) (h : ¬ (b.length : Int) ≤ a + i) (h2 : ¬ ((0 < i ∧ b.getD (a + i).toNat 0 = 0) ∨ (i = 8 ∧ 128 ≤ b.getD (a + i).toNat 0))) (h3 : ¬ b.getD (a + i).toNat 0 < 128) : gvGo b a (9 - i) i n = gvGo b a (9 - (i + 1)) (i + 1) (n + b.getD (a + i).toNat 0 % 128 * 128 ^ i) := by
  obtain ⟨d, e, e2⟩ := gv_cut (b := b) (a := a) hi; rw [e, e2, gvGo, if_neg h, if_neg h2, if_neg h3]
theorem gvGo_end {b : List Int} {a n : Int} {i : Nat} (hi : ¬ i < 9) : gvGo b a (9 - i) i n = (0, 0, 2) := by rw [show 9 - i = 0 from by omega]; rfl
theorem getVar_in {b : List Int} {a : Int} (h : 0 ≤ a ∧ a ≤ (b.length : Int)) : getVar b a = gvGo b a 9 0 0 := if_pos h
theorem getVar_out {b : List Int} {a : Int} (h : ¬ (0 ≤ a ∧ a ≤ (b.length : Int))) : getVar b a = (0, 0, 1) := if_neg h
def getRaw (b : List Int) (a n : Int) : List Int × Int × Int := if 0 ≤ a ∧ a ≤ (b.length : Int) ∧ 0 ≤ n ∧ n ≤ (b.length : Int) - a then ((b.drop a.toNat).take ((a + n).toNat - a.toNat), a + n, 0) else ([], 0, 1)
theorem getRaw_bd (b : List Int) (a n : Int) : (getRaw b a n).1.length ≤ b.length ∧ 0 ≤ (getRaw b a n).2.1 ∧ (getRaw b a n).2.1 ≤ b.length ∧ (n ≤ 0 → (getRaw b a n).1.length = 0) ∧ (0 ≤ n → ((getRaw b a n).1.length : Int) ≤ n) := by
  unfold getRaw
  split
  · simp only [List.length_take, List.length_drop]; omega
  · simp
theorem getRaw_u8 {b : List Int} (h : U8s b) (a n : Int) : U8s (getRaw b a n).1 := by
  unfold getRaw
  split
  · exact fun x hx => h x (List.mem_of_mem_drop (List.mem_of_mem_take hx))
  · exact fun x hx => by cases hx
def getText (b : List Int) (a m : Int) : List Int × Int × Int := if (getVar b a).2.2 = 0 then (if m < (getVar b a).1 then ([], 0, 3) else getRaw b (getVar b a).2.1 (getVar b a).1) else ([], 0, (getVar b a).2.2)
theorem getText_bd (b : List Int) (a m : Int) : (getText b a m).1.length ≤ b.length ∧ 0 ≤ (getText b a m).2.1 ∧ (getText b a m).2.1 ≤ b.length := by
  unfold getText
  split
  · split
    · simp
    · have := getRaw_bd b (getVar b a).2.1 (getVar b a).1; omega
  · simp
def rs0 (l : SLimits) (a : Int) : SRS := ⟨a, if limOk l = true then 0 else 5⟩
theorem rs0_ok {l : SLimits} {a : Int} (h : limOk l = true) : rs0 l a = ⟨a, 0⟩ := by rw [rs0, if_pos h]
theorem rs0_no {l : SLimits} {a : Int} (h : limOk l = false) : rs0 l a = ⟨a, 5⟩ := by rw [rs0, h]; rfl
def rdMust (s : SRS) (k : Bool) (c : Int) : SRS := if s.f1 = 0 ∧ k = false then ⟨s.f0, c⟩ else s
def rdNum (b : List Int) (s : SRS) : SRS × Int := if s.f1 = 0 then (⟨(getVar b s.f0).2.1, (getVar b s.f0).2.2⟩, (getVar b s.f0).1) else (s, 0)
def rdRaw (b : List Int) (s : SRS) (n : Int) : SRS × List Int := if s.f1 = 0 then (⟨(getRaw b s.f0 n).2.1, (getRaw b s.f0 n).2.2⟩, (getRaw b s.f0 n).1) else (s, [])
def rdText (b : List Int) (s : SRS) (m : Int) : SRS × List Int := if s.f1 = 0 then (⟨(getText b s.f0 m).2.1, (getText b s.f0 m).2.2⟩, (getText b s.f0 m).1) else (s, [])
def rdBelow (b : List Int) (s : SRS) (n c : Int) : SRS × Int := (rdMust (rdNum b s).1 (decide ((rdNum b s).2 < n)) c, (rdNum b s).2)
theorem rdMust_er {s : SRS} {k : Bool} {c : Int} (h : ¬ s.f1 = 0) : rdMust s k c = s := by rw [rdMust, if_neg (fun x => h x.1)]
theorem rdMust_hit {s : SRS} {k : Bool} {c : Int} (h : s.f1 = 0) (hk : k = false) : rdMust s k c = ⟨s.f0, c⟩ := by rw [rdMust, if_pos ⟨h, hk⟩]
theorem rdMust_ok {s : SRS} {k : Bool} {c : Int} (hk : k = true) : rdMust s k c = s := by subst hk; rw [rdMust, if_neg (fun x => by cases x.2)]
theorem rdNum_er {b : List Int} {s : SRS} (h : ¬ s.f1 = 0) : rdNum b s = (s, 0) := if_neg h
theorem rdRaw_er {b : List Int} {s : SRS} {n : Int} (h : ¬ s.f1 = 0) : rdRaw b s n = (s, []) := if_neg h
theorem rdText_er {b : List Int} {s : SRS} {n : Int} (h : ¬ s.f1 = 0) : rdText b s n = (s, []) := if_neg h
theorem rdBelow_er {b : List Int} {s : SRS} {n c : Int} (h : ¬ s.f1 = 0) : rdBelow b s n c = (s, 0) := by unfold rdBelow; rw [rdNum_er h]; rw [rdMust_er h]
theorem rdNum_bd {b : List Int} (hb : U8s b) (s : SRS) : 0 ≤ (rdNum b s).2 ∧ (rdNum b s).2 ≤ 1152921504606846975 := by
  unfold rdNum
  split
  · have := getVar_bd hb s.f0; dsimp only; omega
  · simp
theorem rdRaw_len (b : List Int) (s : SRS) (n : Int) : (rdRaw b s n).2.length ≤ b.length ∧ (0 ≤ n → ((rdRaw b s n).2.length : Int) ≤ n) := by
  unfold rdRaw
  split
  · have := getRaw_bd b s.f0 n; exact ⟨this.1, this.2.2.2.2⟩
  · simp
theorem rdText_len (b : List Int) (s : SRS) (n : Int) : (rdText b s n).2.length ≤ b.length := by
  unfold rdText
  split
  · exact (getText_bd b s.f0 n).1
  · simp
def getOut {α : Type} (r : SRS × α) (d : α) : α × Int × Int := if r.1.f1 = 0 then (r.2, r.1.f0, 0) else (d, 0, r.1.f1)
theorem getOut_yes {α : Type} {r : SRS × α} {d : α} (h : ¬ r.1.f1 ≠ 0) : getOut r d = (r.2, r.1.f0, 0) := if_pos (Decidable.not_not.1 h)
theorem getOut_no {α : Type} {r : SRS × α} {d : α} (h : r.1.f1 ≠ 0) : getOut r d = (d, 0, r.1.f1) := if_neg h
theorem getOut_pr {α : Type} {p : α → Prop} {r : SRS × α} {d : α} (h1 : p r.2) (h2 : p d) : p (getOut r d).1 := by unfold getOut; split <;> assumption
theorem getOut_nr {α : Type} {r : SRS × α} {d : α} {s : SRS} (h : r.1 = s) (h5 : s.f1 = 5) : getOut r d = (d, 0, 5) := by rw [getOut_no (by rw [h, h5]; decide), h, h5]
def bitsOk (b : List Int) (n : Int) : Bool := decide (1 ≤ n ∧ n ≤ 10) && decide ((b.length : Int) = bitsSize n) && (bitList b).all (fun x => decide (x < n))
theorem all_step {l : List Int} {n : Int} {i : Nat} (hi : i < l.length) (h : (l.take i).all (fun x => decide (x < n)) = true) (hx : l.getD i 0 < n) : (l.take (i + 1)).all (fun x => decide (x < n)) = true := by
  rw [take_succ' (df := 0) hi]; simp only [List.all_append, List.all_cons, List.all_nil, Bool.and_true, Bool.and_eq_true] at h ⊢; exact ⟨h, decide_eq_true hx⟩
theorem all_no {l : List Int} {n : Int} {i : Nat} (hi : i < l.length) (hx : ¬ l.getD i 0 < n) : l.all (fun x => decide (x < n)) = false := by
  cases h : l.all (fun x => decide (x < n)) with
  | false => rfl
  | true =>
    rw [List.all_eq_true] at h
    have := h (l.getD i 0) (by rw [List.getD_eq_getElem?_getD, List.getElem?_eq_getElem hi]; exact List.getElem_mem hi)
    exact absurd (of_decide_eq_true this) hx
theorem bits_last {b : List Int} {n : Int} (h : 0 < (bitList b).length) : (bitList b).all (fun x => decide (x < n)) = decide ((bitList b).getD (((bitList b).length : Int) - 1).toNat 0 < n) := by
  rw [show (((bitList b).length : Int) - 1).toNat = (bitList b).length - 1 from by omega]
  have h1 := bitsGo_last b n (8 * b.length) 0
  rw [show bitsGo b (8 * b.length) 0 = bitList b from rfl] at h1
  rw [h1, List.getLast?_eq_getElem?, List.getElem?_eq_getElem (by omega), List.getD_eq_getElem?_getD, List.getElem?_eq_getElem (by omega)]
  rfl
theorem bitsOk_len {b : List Int} {n : Int} (h : bitsOk b n = true) : b.length ≤ 2 := by
  simp only [bitsOk, Bool.and_eq_true, decide_eq_true_eq] at h
  have := h.1.2
  unfold bitsSize at this
  rw [if_neg (by omega)] at this
  omega
def hashes (l : List (List Int)) : Bool := l.all fun x => decide ((x.length : Int) = 32)
theorem hashes_step {l : List (List Int)} {i : Nat} (hi : i < l.length) (h : hashes (l.take i) = true) (hx : ((l.getD i []).length : Int) = 32) : hashes (l.take (i + 1)) = true := by
  rw [take_succ' (df := []) hi]; simp only [hashes, List.all_append, List.all_cons, List.all_nil, Bool.and_true, Bool.and_eq_true] at h ⊢; exact ⟨h, decide_eq_true hx⟩
theorem hashes_no {l : List (List Int)} {i : Nat} (hi : i < l.length) (hx : ¬ ((l.getD i []).length : Int) = 32) : hashes l = false := by
  cases h : hashes l with
  | false => rfl
  | true =>
    rw [hashes, List.all_eq_true] at h
    have := h (l.getD i []) (by rw [List.getD_eq_getElem?_getD, List.getElem?_eq_getElem hi]; exact List.getElem_mem hi)
    exact absurd (of_decide_eq_true this) hx
theorem rdRaw_u8 {b : List Int} (hb : U8s b) (s : SRS) (n : Int) : U8s (rdRaw b s n).2 := by
  unfold rdRaw
  split
  · exact getRaw_u8 hb _ _
  · exact fun x hx => by cases hx
def rdTags (b : List Int) (s : SRS) : Nat → SRS × List (List Int)
  | 0 => (s, [])
  | i + 1 => ((rdRaw b (rdTags b s i).1 32).1, (rdTags b s i).2 ++ [(rdRaw b (rdTags b s i).1 32).2])
theorem rdTags_len (b : List Int) (s : SRS) : ∀ i, (rdTags b s i).2.length = i
  | 0 => rfl
  | i + 1 => by rw [rdTags, List.length_append, rdTags_len b s i]; rfl
theorem rdTags_mem {b : List Int} {s : SRS} {p : List Int → Prop} (hp : ∀ s, p (rdRaw b s 32).2) : ∀ i, ∀ y ∈ (rdTags b s i).2, p y
  | 0, y, h => by cases h
  | i + 1, y, h => by
    rcases List.mem_append.1 h with h | h
    · exact rdTags_mem hp i y h
    · rcases List.mem_singleton.1 h with rfl; exact hp _
theorem rdTags_er {b : List Int} {s : SRS} (h : ¬ s.f1 = 0) : ∀ i, (rdTags b s i).1 = s
  | 0 => rfl
  | i + 1 => by rw [rdTags, rdTags_er h i, rdRaw_er h]
def getBits (b : List Int) (a n : Int) : List Int × Int × Int := if 1 ≤ n ∧ n ≤ 10 then (if (getRaw b a (bitsSize n)).2.2 = 0 then (if bitsOk (getRaw b a (bitsSize n)).1 n = true then ((getRaw b a (bitsSize n)).1, (getRaw b a (bitsSize n)).2.1, 0) else ([], 0, 4)) else ([], 0, (getRaw b a (bitsSize n)).2.2)) else ([], 0, 5)
theorem getBits_val {b : List Int} {a n : Int} (h : ¬ (1 ≤ n ∧ n ≤ 10)) : getBits b a n = ([], 0, 5) := if_neg h
theorem getBits_er {b : List Int} {a n : Int} (h : 1 ≤ n ∧ n ≤ 10) (h2 : ¬ (getRaw b a (bitsSize n)).2.2 = 0) : getBits b a n = ([], 0, (getRaw b a (bitsSize n)).2.2) := by rw [getBits, if_pos h, if_neg h2]
theorem getBits_pad {b : List Int} {a n : Int} (h : 1 ≤ n ∧ n ≤ 10) (h2 : (getRaw b a (bitsSize n)).2.2 = 0) (h3 : bitsOk (getRaw b a (bitsSize n)).1 n = false) : getBits b a n = ([], 0, 4) := by rw [getBits, if_pos h, if_pos h2, h3]; rfl
theorem getBits_ok {b : List Int} {a n : Int} (h : 1 ≤ n ∧ n ≤ 10) (h2 : (getRaw b a (bitsSize n)).2.2 = 0) (h3 : bitsOk (getRaw b a (bitsSize n)).1 n = true) : getBits b a n = ((getRaw b a (bitsSize n)).1, (getRaw b a (bitsSize n)).2.1, 0) := by rw [getBits, if_pos h, if_pos h2, if_pos h3]
theorem getBits_len (b : List Int) (a n : Int) : (getBits b a n).1.length ≤ 2 := by
  unfold getBits
  split
  · split
    · split
      · rename_i h; exact bitsOk_len h
      · simp
    · simp
  · simp
theorem getBits_u8 {b : List Int} (hb : U8s b) (a n : Int) : U8s (getBits b a n).1 := by
  unfold getBits
  split
  · split
    · split
      · exact getRaw_u8 hb _ _
      · exact fun x hx => by cases hx
    · exact fun x hx => by cases hx
  · exact fun x hx => by cases hx
def rdQc3 (b : List Int) (s : SRS) : SRS := (rdRaw b (rdNum b (rdNum b s).1).1 32).1
def rdQcA (l : SLimits) (b : List Int) (s3 : SRS) : SRS × List Int × List (List Int) := if s3.f1 = 0 then ((rdTags b ⟨(getBits b s3.f0 l.f0).2.1, (getBits b s3.f0 l.f0).2.2⟩ (bitList (getBits b s3.f0 l.f0).1).length).1, (getBits b s3.f0 l.f0).1, (rdTags b ⟨(getBits b s3.f0 l.f0).2.1, (getBits b s3.f0 l.f0).2.2⟩ (bitList (getBits b s3.f0 l.f0).1).length).2) else (s3, [], [])
def rdQc (l : SLimits) (b : List Int) (s : SRS) : SRS × SQc := ((rdQcA l b (rdQc3 b s)).1, ⟨(rdNum b s).2, (rdNum b (rdNum b s).1).2, (rdRaw b (rdNum b (rdNum b s).1).1 32).2, (rdQcA l b (rdQc3 b s)).2.1, (rdQcA l b (rdQc3 b s)).2.2⟩)
theorem rdQcA_yes {l : SLimits} {b : List Int} {s : SRS} (h : s.f1 = 0) : rdQcA l b s = ((rdTags b ⟨(getBits b s.f0 l.f0).2.1, (getBits b s.f0 l.f0).2.2⟩ (bitList (getBits b s.f0 l.f0).1).length).1, (getBits b s.f0 l.f0).1, (rdTags b ⟨(getBits b s.f0 l.f0).2.1, (getBits b s.f0 l.f0).2.2⟩ (bitList (getBits b s.f0 l.f0).1).length).2) := if_pos h
theorem rdQcA_no {l : SLimits} {b : List Int} {s : SRS} (h : ¬ s.f1 = 0) : rdQcA l b s = (s, [], []) := if_neg h
theorem rdQc3_er {b : List Int} {s : SRS} (h : ¬ s.f1 = 0) : rdQc3 b s = s := by simp only [rdQc3, rdNum_er h, rdRaw_er h]
theorem rdQc_er {l : SLimits} {b : List Int} {s : SRS} (h : ¬ s.f1 = 0) : (rdQc l b s).1 = s := by simp only [rdQc, rdQc3_er h, rdQcA_no h]
theorem rdQcA_sm {l : SLimits} {b : List Int} {s : SRS} (h : b.length ≤ 1048576) : (rdQcA l b s).2.1.length ≤ 1048576 ∧ (rdQcA l b s).2.2.length ≤ 1048576 ∧ ∀ y ∈ (rdQcA l b s).2.2, y.length ≤ 1048576 := by
  unfold rdQcA
  split
  · have h1 := getBits_len b s.f0 l.f0
    have h2 := bitList_len (getBits b s.f0 l.f0).1
    refine ⟨by dsimp only; omega, by dsimp only; rw [rdTags_len]; omega, fun y hy => rdTags_mem (p := fun y => y.length ≤ 1048576) (fun s => Nat.le_trans (rdRaw_len b s 32).1 h) _ y hy⟩
  · exact ⟨Nat.zero_le _, Nat.zero_le _, fun y hy => by cases hy⟩
theorem rdQc_sm {l : SLimits} {b : List Int} {s : SRS} (h : b.length ≤ 1048576) : (rdQc l b s).2.sm := ⟨Nat.le_trans (rdRaw_len _ _ _).1 h, rdQcA_sm h⟩
theorem i64_num {b : List Int} (hb : U8s b) (s : SRS) : I64 (rdNum b s).2 := by have := rdNum_bd hb s; exact ⟨by omega, by omega⟩
theorem rdQc_ok {l : SLimits} {b : List Int} {s : SRS} (h : U8s b) : (rdQc l b s).2.ok := by
  refine ⟨i64_num h _, i64_num h _, rdRaw_u8 h _ _, ?_, ?_⟩
  · show U8s (rdQcA l b (rdQc3 b s)).2.1
    unfold rdQcA
    split
    · exact getBits_u8 h _ _
    · exact fun x hx => by cases hx
  · show ∀ y ∈ (rdQcA l b (rdQc3 b s)).2.2, U8s y
    unfold rdQcA
    split
    · exact rdTags_mem (fun s => rdRaw_u8 h s 32) _
    · exact fun x hx => by cases hx
def getQc (l : SLimits) (b : List Int) (a : Int) : SQc × Int × Int := getOut (rdQc l b (rs0 l a)) default
theorem getQc_sm {l : SLimits} {b : List Int} (a : Int) (h : b.length ≤ 1048576) : (getQc l b a).1.sm := getOut_pr (p := SQc.sm) (rdQc_sm h) SQc.sm_df
def qcOk (l : SLimits) (q : SQc) : Bool := limOk l && decide (0 ≤ q.f0 ∧ q.f0 ≤ 1152921504606846975) && decide (0 ≤ q.f1 ∧ q.f1 ≤ 1152921504606846975) && decide ((q.f2.length : Int) = 32) && bitsOk q.f3 l.f0 && decide ((q.f4.length : Int) = ((bitList q.f3).length : Int)) && hashes q.f4
def varW (n : Int) : List Int := if h : n < 128 then [n] else (n % 128 + 128) :: varW (n / 128)
termination_by n.toNat
decreasing_by omega
theorem varW_last {n : Int} (h : n < 128) : varW n = [n] := by rw [varW, dif_pos h]
theorem varW_next {n : Int} (h : ¬ n < 128) : varW n = (n % 128 + 128) :: varW (n / 128) := by rw [varW, dif_neg h]
theorem varW_len : ∀ (k : Nat) (n : Int), n < 128 ^ (k + 1) → (varW n).length ≤ k + 1
  | 0, n, h => by rw [varW_last (by simpa using h)]; simp
  | k + 1, n, h => by
    by_cases h0 : n < 128
    · rw [varW_last h0]; simp
    · rw [varW_next h0, List.length_cons]
      have := varW_len k (n / 128) (by rw [Int.pow_succ] at h; omega)
      omega
theorem varW_len9 {n : Int} (h : n ≤ 1152921504606846975) : (varW n).length ≤ 9 := by
  have e : (128 : Int) ^ (8 + 1) = 9223372036854775808 := by decide
  exact varW_len 8 n (by rw [e]; omega)
def putVar (b : List Int) (n : Int) : List Int := if decide (0 ≤ n ∧ n ≤ 1152921504606846975) = true then b ++ varW n else []
theorem putVar_len (b : List Int) (n : Int) : (putVar b n).length ≤ b.length + 9 := by
  unfold putVar
  split
  · rename_i h
    have := varW_len9 (of_decide_eq_true h).2
    rw [List.length_append]; omega
  · simp
theorem foldl_take_succ {α β : Type} (g : β → α → β) (b : β) (xs : List α) (i : Nat) (df : α) (h : i < xs.length) : (xs.take (i + 1)).foldl g b = g ((xs.take i).foldl g b) (xs.getD i df) := by
  rw [take_succ' (df := df) h, List.foldl_append]; rfl
theorem foldl_len {α : Type} (g : List Int → α → List Int) (c : Nat) (p : α → Prop) (hg : ∀ b x, p x → (g b x).length ≤ b.length + c) : ∀ (xs : List α) (b : List Int), (∀ x ∈ xs, p x) → (xs.foldl g b).length ≤ b.length + xs.length * c
  | [], b, _ => by simp
  | x :: xs, b, h => by
    have h1 := foldl_len g c p hg xs (g b x) fun y hy => h y (by simp [hy])
    have h2 := hg b x (h x (by simp))
    simp only [List.foldl_cons, List.length_cons, Nat.add_mul]
    omega
theorem foldl_take_len {α : Type} (g : List Int → α → List Int) (c : Nat) (p : α → Prop) (hg : ∀ b x, p x → (g b x).length ≤ b.length + c) (xs : List α) (b : List Int) (h : ∀ x ∈ xs, p x) (i : Nat) (n : Nat) (hn : xs.length ≤ n) : ((xs.take i).foldl g b).length ≤ b.length + n * c := by
  have h1 := foldl_len g c p hg (xs.take i) b fun x hx => h x (List.mem_of_mem_take hx)
  have h2 : (xs.take i).length * c ≤ n * c := Nat.mul_le_mul_right _ (by simp; omega)
  omega
theorem foldl_all {α β : Type} (g : β → α → β) (b : β) (xs : List α) (i : Nat) (h : xs.length ≤ i) : (xs.take i).foldl g b = xs.foldl g b := by rw [List.take_of_length_le h]
def rawsB (b : List Int) (l : List (List Int)) : List Int := l.foldl (fun b x => b ++ x) b
theorem raws_len {b : List Int} {l : List (List Int)} {n : Nat} (hn : l.length ≤ n) (h : ∀ x ∈ l, x.length ≤ 1048576) (i : Nat) : ((l.take i).foldl (fun b x => b ++ x) b).length ≤ b.length + n * 1048576 :=
  foldl_take_len _ 1048576 (fun x => x.length ≤ 1048576) (fun b x hx => by simp only [List.length_append]; omega) l b h i n hn
def putQcB (b : List Int) (q : SQc) : List Int := rawsB (putVar (putVar b q.f0) q.f1 ++ q.f2 ++ q.f3) q.f4
def putQc (l : SLimits) (b : List Int) (q : SQc) : List Int := if qcOk l q = true then putQcB b q else []
theorem putQcB_len {b : List Int} {q : SQc} (h : q.sm) : (putQcB b q).length ≤ b.length + 1099513724946 := by
  obtain ⟨s0, s1, s2⟩ := h
  have h1 := putVar_len b q.f0
  have h2 := putVar_len (putVar b q.f0) q.f1
  have h3 := raws_len (b := putVar (putVar b q.f0) q.f1 ++ q.f2 ++ q.f3) s2.1 s2.2 q.f4.length
  rw [List.take_length] at h3
  simp only [List.length_append] at h3
  unfold putQcB rawsB
  omega
theorem putQc_len {l : SLimits} {b : List Int} {q : SQc} (h : q.sm) : (putQc l b q).length ≤ b.length + 1099513724946 := by
  unfold putQc
  split
  · exact putQcB_len h
  · simp
def headFits (h : SHead) : Bool := decide (h.f5.f0 < h.f0) && decide (h.f5.f1 = IntKind.i64.wrap (h.f1 - 1)) && decide (h.f5.f2 = h.f3)
def headOk (l : SLimits) (h : SHead) : Bool := qcOk l h.f5 && decide (0 ≤ h.f0 ∧ h.f0 ≤ 1152921504606846975) && decide (1 ≤ h.f1 ∧ h.f1 ≤ 1152921504606846975) && decide (0 ≤ h.f2 ∧ h.f2 ≤ IntKind.i64.wrap (l.f0 - 1)) && decide ((h.f3.length : Int) = 32) && decide ((h.f4.length : Int) = 32) && headFits h
theorem headOk_qc {l : SLimits} {h : SHead} (k : headOk l h = true) : qcOk l h.f5 = true := by simp only [headOk, Bool.and_eq_true] at k; exact k.1.1.1.1.1.1
theorem qcOk_lim {l : SLimits} {q : SQc} (k : qcOk l q = true) : limOk l = true := by simp only [qcOk, Bool.and_eq_true] at k; exact k.1.1.1.1.1.1
theorem qcOk_no {l : SLimits} {q : SQc} (k : limOk l = false) : qcOk l q = false := by simp [qcOk, k]
def putHeadB (b : List Int) (h : SHead) : List Int := putQcB (putVar (putVar (putVar b h.f0) h.f1) h.f2 ++ h.f3 ++ h.f4) h.f5
def putHead (l : SLimits) (b : List Int) (h : SHead) : List Int := if headOk l h = true then putHeadB b h else []
theorem putHeadB_len {b : List Int} {h : SHead} (k : h.sm) : (putHeadB b h).length ≤ b.length + 1099515822130 := by
  obtain ⟨s0, s1, s2⟩ := k
  have h1 := putVar_len b h.f0
  have h2 := putVar_len (putVar b h.f0) h.f1
  have h3 := putVar_len (putVar (putVar b h.f0) h.f1) h.f2
  have h4 := @putQcB_len (putVar (putVar (putVar b h.f0) h.f1) h.f2 ++ h.f3 ++ h.f4) h.f5 s2
  simp only [List.length_append] at h4
  unfold putHeadB
  omega
theorem putHead_len {l : SLimits} {b : List Int} {h : SHead} (k : h.sm) : (putHead l b h).length ≤ b.length + 1099515822130 := by
  unfold putHead
  split
  · exact putHeadB_len k
  · simp
theorem rdMust_z {s : SRS} {k : Bool} {c : Int} (hc : c ≠ 0) (h : (rdMust s k c).f1 = 0) : s.f1 = 0 ∧ k = true := by
  by_cases hs : s.f1 = 0
  · cases k with
    | true => exact ⟨hs, rfl⟩
    | false => rw [rdMust_hit hs rfl] at h; exact absurd h hc
  · rw [rdMust_er hs] at h; exact absurd h hs
theorem rdNum_z {b : List Int} {s : SRS} (h : (rdNum b s).1.f1 = 0) : s.f1 = 0 := by
  by_cases hs : s.f1 = 0
  · exact hs
  · rw [rdNum_er hs] at h; exact h
theorem rdQc_z {l : SLimits} {b : List Int} {s : SRS} (h : (rdQc l b s).1.f1 = 0) : s.f1 = 0 := by
  by_cases hs : s.f1 = 0
  · exact hs
  · rw [rdQc_er hs] at h; exact h
def rdHead6 (l : SLimits) (b : List Int) (s : SRS) : SRS × SHead :=
  let r1 := rdNum b s
  let r2 := rdNum b r1.1
  let r3 := rdMust r2.1 (decide (r2.2 ≠ 0)) 5
  let r4 := rdBelow b r3 l.f0 5
  let r5 := rdRaw b r4.1 32
  let r6 := rdRaw b r5.1 32
  let r7 := rdQc l b r6.1
  (r7.1, ⟨r1.2, r2.2, r4.2, r5.2, r6.2, r7.2⟩)
def rdHead (l : SLimits) (b : List Int) (s : SRS) : SRS × SHead := (rdMust (rdHead6 l b s).1 (headFits (rdHead6 l b s).2) 6, (rdHead6 l b s).2)
theorem rdHead_er {l : SLimits} {b : List Int} {s : SRS} (h : ¬ s.f1 = 0) : (rdHead l b s).1 = s := by
  have h6 : (rdHead6 l b s).1 = s := by simp only [rdHead6, rdNum_er h, rdMust_er h, rdBelow_er h, rdRaw_er h, rdQc_er h]
  simp only [rdHead, h6, rdMust_er h]
theorem rdHead_sm {l : SLimits} {b : List Int} {s : SRS} (h : b.length ≤ 1048576) : (rdHead l b s).2.sm := ⟨Nat.le_trans (rdRaw_len _ _ _).1 h, Nat.le_trans (rdRaw_len _ _ _).1 h, rdQc_sm h⟩
theorem rdHead_ok {l : SLimits} {b : List Int} {s : SRS} (h : U8s b) : (rdHead l b s).2.ok := ⟨i64_num h _, i64_num h _, i64_num h _, rdRaw_u8 h _ _, rdRaw_u8 h _ _, rdQc_ok h⟩
def getHead (l : SLimits) (b : List Int) (a : Int) : SHead × Int × Int := getOut (rdHead l b (rs0 l a)) default
theorem getHead_sm {l : SLimits} {b : List Int} (a : Int) (h : b.length ≤ 1048576) : (getHead l b a).1.sm := getOut_pr (p := SHead.sm) (rdHead_sm h) SHead.sm_df
def closes (p : SProof) : Bool := decide (p.f1.f0 = (p.f0.getD ((p.f0.length : Int) - 1).toNat default).f0) && decide (p.f1.f1 = (p.f0.getD ((p.f0.length : Int) - 1).toNat default).f1)
def headsOk (l : SLimits) (hs : List SHead) : Bool := hs.all (headOk l)
theorem headsOk_step {l : SLimits} {hs : List SHead} {i : Nat} (hi : i < hs.length) (h : headsOk l (hs.take i) = true) (hx : headOk l (hs.getD i default) = true) : headsOk l (hs.take (i + 1)) = true := by
  rw [take_succ' (df := default) hi]; simp only [headsOk, List.all_append, List.all_cons, List.all_nil, Bool.and_true, Bool.and_eq_true] at h ⊢; exact ⟨h, hx⟩
theorem headsOk_at {l : SLimits} {hs : List SHead} {i : Nat} (hi : i < hs.length) (h : headsOk l hs = true) : headOk l (hs.getD i default) = true := by
  rw [headsOk, List.all_eq_true] at h
  exact h _ (by rw [List.getD_eq_getElem?_getD, List.getElem?_eq_getElem hi]; exact List.getElem_mem hi)
theorem headsOk_no {l : SLimits} {hs : List SHead} {i : Nat} (hi : i < hs.length) (hx : headOk l (hs.getD i default) = false) : headsOk l hs = false := by
  cases h : headsOk l hs with
  | false => rfl
  | true => rw [headsOk_at hi h] at hx; cases hx
def proofOk (l : SLimits) (p : SProof) : Bool := decide (3 ≤ (p.f0.length : Int) ∧ (p.f0.length : Int) ≤ l.f4) && headsOk l p.f0 && qcOk l p.f1 && closes p
theorem proofOk_parts {l : SLimits} {p : SProof} (h : proofOk l p = true) : 3 ≤ p.f0.length ∧ p.f0.length ≤ 5 ∧ headsOk l p.f0 = true ∧ qcOk l p.f1 = true := by
  simp only [proofOk, Bool.and_eq_true, decide_eq_true_eq] at h
  obtain ⟨⟨⟨h1, h2⟩, h3⟩, h4⟩ := h
  have hl := qcOk_lim h3
  simp [limOk] at hl
  exact ⟨by omega, by omega, h2, h3⟩
def putProofB (b : List Int) (p : SProof) : List Int := putQcB (p.f0.foldl putHeadB (putVar b (p.f0.length : Int))) p.f1
def putProof (l : SLimits) (b : List Int) (p : SProof) : List Int := if proofOk l p = true then putProofB b p else []
theorem heads_len {b : List Int} {hs : List SHead} (hn : hs.length ≤ 5) (h : ∀ x ∈ hs, SHead.sm x) (i : Nat) : ((hs.take i).foldl putHeadB b).length ≤ b.length + 5 * 1099515822130 :=
  foldl_take_len putHeadB 1099515822130 SHead.sm (fun b x hx => putHeadB_len hx) hs b h i 5 hn
theorem putProof_len {l : SLimits} {b : List Int} {p : SProof} (h : p.sm) : (putProof l b p).length ≤ b.length + 6597092835605 := by
  obtain ⟨s0, s1⟩ := h
  unfold putProof
  split
  · rename_i hk
    obtain ⟨_, h5, _⟩ := proofOk_parts hk
    have h1 := putVar_len b (p.f0.length : Int)
    have h2 := heads_len (b := putVar b (p.f0.length : Int)) h5 s0.2 p.f0.length
    rw [List.take_length] at h2
    have h3 := @putQcB_len (p.f0.foldl putHeadB (putVar b (p.f0.length : Int))) p.f1 s1
    unfold putProofB
    omega
  · simp
def rdHs (l : SLimits) (b : List Int) : Nat → SRS → List SHead → SRS × List SHead
  | 0, q, hs => (q, hs)
  | d + 1, q, hs => if q.f1 = 0 then rdHs l b d (rdHead l b q).1 (hs ++ [(rdHead l b q).2]) else (q, hs)
theorem rdHs_next {l : SLimits} {b : List Int} {n i : Nat} {q : SRS} {hs : List SHead} (hi : i < n) (h : q.f1 = 0) : rdHs l b (n - i) q hs = rdHs l b (n - (i + 1)) (rdHead l b q).1 (hs ++ [(rdHead l b q).2]) := by
  obtain ⟨d, e⟩ : ∃ d, n - i = d + 1 := ⟨n - i - 1, by omega⟩
  rw [e, show n - (i + 1) = d from by omega, rdHs, if_pos h]
theorem rdHs_out {l : SLimits} {b : List Int} {n i : Nat} {q : SRS} {hs : List SHead} (h : n ≤ i ∨ ¬ q.f1 = 0) : rdHs l b (n - i) q hs = (q, hs) := by
  generalize hd : n - i = d
  cases d with
  | zero => rfl
  | succ d => rw [rdHs, if_neg (by omega)]
theorem rdHs_len {l : SLimits} {b : List Int} : ∀ (d : Nat) (q : SRS) (hs : List SHead), (rdHs l b d q hs).2.length ≤ hs.length + d
  | 0, _, _ => Nat.le_refl _
  | d + 1, q, hs => by
    rw [rdHs]
    split
    · have := rdHs_len (l := l) (b := b) d (rdHead l b q).1 (hs ++ [(rdHead l b q).2]); simp only [List.length_append, List.length_cons, List.length_nil] at this; omega
    · simp
theorem rdHs_mem {l : SLimits} {b : List Int} {p : SHead → Prop} (hp : ∀ s, p (rdHead l b s).2) : ∀ (d : Nat) (q : SRS) (hs : List SHead), (∀ y ∈ hs, p y) → ∀ y ∈ (rdHs l b d q hs).2, p y
  | 0, _, _, h => h
  | d + 1, q, hs, h => by
    rw [rdHs]
    split
    · exact rdHs_mem hp d _ _ fun y hy => by
        rcases List.mem_append.1 hy with hy | hy
        · exact h y hy
        · rcases List.mem_singleton.1 hy with rfl; exact hp _
    · exact h
theorem rdHs_er {l : SLimits} {b : List Int} {d : Nat} {q : SRS} {hs : List SHead} (h : ¬ q.f1 = 0) : rdHs l b d q hs = (q, hs) := by
  cases d with
  | zero => rfl
  | succ d => rw [rdHs, if_neg h]
def rdProof2 (l : SLimits) (b : List Int) (x : SRS × List SHead) : SRS × SProof := (if (rdQc l b x.1).1.f1 = 0 then rdMust (rdQc l b x.1).1 (closes ⟨x.2, (rdQc l b x.1).2⟩) 6 else (rdQc l b x.1).1, ⟨x.2, (rdQc l b x.1).2⟩)
theorem rdProof2_yes {l : SLimits} {b : List Int} {q : SRS} {hs : List SHead} (h : (rdQc l b q).1.f1 = 0) : rdProof2 l b (q, hs) = (rdMust (rdQc l b q).1 (closes ⟨hs, (rdQc l b q).2⟩) 6, ⟨hs, (rdQc l b q).2⟩) := by unfold rdProof2; rw [if_pos h]
theorem rdProof2_no {l : SLimits} {b : List Int} {q : SRS} {hs : List SHead} (h : ¬ (rdQc l b q).1.f1 = 0) : rdProof2 l b (q, hs) = ((rdQc l b q).1, ⟨hs, (rdQc l b q).2⟩) := by unfold rdProof2; rw [if_neg h]
def rdProof0 (l : SLimits) (b : List Int) (s : SRS) : SRS := rdMust (rdMust (rdNum b s).1 (decide (3 ≤ (rdNum b s).2)) 5) (decide ((rdNum b s).2 ≤ l.f4)) 3
def rdProof (l : SLimits) (b : List Int) (s : SRS) : SRS × SProof := rdProof2 l b (rdHs l b (rdNum b s).2.toNat (rdProof0 l b s) [])
theorem rdProof0_z {l : SLimits} {b : List Int} {s : SRS} (hl : s.f1 = 0 → limOk l = true) (h : (rdProof0 l b s).f1 = 0) : 3 ≤ (rdNum b s).2 ∧ (rdNum b s).2 ≤ 5 := by
  obtain ⟨h1, h2⟩ := rdMust_z (by decide) h
  obtain ⟨h3, h4⟩ := rdMust_z (by decide) h1
  have h5 := hl (rdNum_z h3)
  simp [limOk] at h5
  have h2 := of_decide_eq_true h2
  have h4 := of_decide_eq_true h4
  omega
theorem rdProof_er {l : SLimits} {b : List Int} {s : SRS} (h : ¬ s.f1 = 0) : (rdProof l b s).1 = s := by
  have h0 : rdProof0 l b s = s := by simp only [rdProof0, rdNum_er h, rdMust_er h]
  unfold rdProof
  rw [h0, rdHs_er h, rdProof2_no (by rw [rdQc_er h]; exact h)]
  exact rdQc_er h
theorem rdProof_sm {l : SLimits} {b : List Int} {s : SRS} (h : b.length ≤ 1048576) (hl : s.f1 = 0 → limOk l = true) : (rdProof l b s).2.sm := by
  refine ⟨⟨?_, ?_⟩, rdQc_sm h⟩
  · show (rdHs l b (rdNum b s).2.toNat (rdProof0 l b s) []).2.length ≤ 1048576
    by_cases hz : (rdProof0 l b s).f1 = 0
    · have := rdProof0_z hl hz
      have := rdHs_len (l := l) (b := b) (rdNum b s).2.toNat (rdProof0 l b s) []
      simp only [List.length_nil] at this
      omega
    · rw [rdHs_er hz]; simp
  · exact rdHs_mem (fun s => rdHead_sm h) _ _ _ fun y hy => by cases hy
theorem rs0_z {l : SLimits} {a : Int} (h : (rs0 l a).f1 = 0) : limOk l = true := by
  cases hl : limOk l with
  | true => rfl
  | false => rw [rs0_no hl] at h; exact absurd h (show ¬ ((5 : Int) = 0) by decide)
def getProof (l : SLimits) (b : List Int) (a : Int) : SProof × Int × Int := getOut (rdProof l b (rs0 l a)) default
theorem getProof_sm {l : SLimits} {b : List Int} (a : Int) (h : b.length ≤ 1048576) : (getProof l b a).1.sm := getOut_pr (p := SProof.sm) (rdProof_sm h rs0_z) SProof.sm_df

theorem ok_laws_toLimits (a : SLimits) : RO Try.prog 17 [.agg a.cells] [(true, [.rd (.int .i64 a.f0), .rd (.int .i64 a.f1), .rd (.int .i64 a.f2), .rd (.int .i64 a.f3), .rd (.int .i64 a.f4)])] := by
 refine RO.intro Try.func17 rfl 20 rfl (le_ok rfl) fun w Z => ?_
 refine T.seq ?_
 refine T.region ?_
 refine TL.cons rfl (Step.box (p := (.agg [.d (.int .i64 a.f0), .d (.int .i64 a.f1), .d (.int .i64 a.f2), .d (.int .i64 a.f3), .d (.int .i64 a.f4)])) (ps := [.d (.int .i64 a.f0), .d (.int .i64 a.f1), .d (.int .i64 a.f2), .d (.int .i64 a.f3), .d (.int .i64 a.f4)]) rfl rfl (lt_ok rfl) rfl rfl rfl rfl rfl) ?_
 refine TL.cons rfl (Step.alloc (cs := [.int .i64 0, .int .i64 0, .int .i64 0, .int .i64 0, .int .i64 0]) (ps := [.d (.int .i64 0), .d (.int .i64 0), .d (.int .i64 0), .d (.int .i64 0), .d (.int .i64 0)]) rfl rfl (lt_ok rfl) (by kernel_rfl) rfl rfl rfl rfl) ?_
 refine TL.nil ?_
 refine T.seq ?_
 refine T.region ?_
 refine TL.cons rfl (Step.alloc (cs := [.int .i64 0, .int .i64 0, .int .i64 0, .int .i64 0, .int .i64 0]) (ps := [.d (.int .i64 0), .d (.int .i64 0), .d (.int .i64 0), .d (.int .i64 0), .d (.int .i64 0)]) rfl rfl (lt_ok rfl) (by kernel_rfl) rfl rfl rfl rfl) ?_
 refine TL.nil ?_
 refine T.seq ?_
 refine T.region ?_
 refine TL.cons rfl (Step.fieldAddr (q := 0) (off := 0) (n := 1) (one := true) rfl rfl (lt_ok rfl) (by kernel_rfl) (Nat.succ_ne_zero _) rfl) ?_
 refine TL.cons rfl (Step.load_box (c := .d (.int .i64 a.f0)) rfl rfl (lt_ok rfl) (by kernel_rfl) rfl rfl rfl) ?_
 refine TL.cons rfl (Step.fieldAddr (q := 0) (off := 0) (n := 1) (one := true) rfl rfl (lt_ok rfl) (by kernel_rfl) (Nat.succ_ne_zero _) rfl) ?_
 refine TL.cons rfl (Step.store_box (n := 1) (p := (.one (.d (.int .i64 a.f0)))) (qs := [.d (.int .i64 a.f0)]) (ps' := [.d (.int .i64 a.f0), .d (.int .i64 0), .d (.int .i64 0), .d (.int .i64 0), .d (.int .i64 0)]) rfl rfl (by kernel_rfl) rfl rfl rfl rfl rfl rfl (le_ok rfl) rfl) ?_
 refine TL.nil ?_
 refine T.seq ?_
 refine T.region ?_
 refine TL.cons rfl (Step.fieldAddr (q := 0) (off := 1) (n := 1) (one := true) rfl rfl (lt_ok rfl) (by kernel_rfl) (Nat.succ_ne_zero _) rfl) ?_
 refine TL.cons rfl (Step.load_box (c := .d (.int .i64 a.f1)) rfl rfl (lt_ok rfl) (by kernel_rfl) rfl rfl rfl) ?_
 refine TL.cons rfl (Step.fieldAddr (q := 0) (off := 1) (n := 1) (one := true) rfl rfl (lt_ok rfl) (by kernel_rfl) (Nat.succ_ne_zero _) rfl) ?_
 refine TL.cons rfl (Step.store_box (n := 1) (p := (.one (.d (.int .i64 a.f1)))) (qs := [.d (.int .i64 a.f1)]) (ps' := [.d (.int .i64 a.f0), .d (.int .i64 a.f1), .d (.int .i64 0), .d (.int .i64 0), .d (.int .i64 0)]) rfl rfl (by kernel_rfl) rfl rfl rfl rfl rfl rfl (le_ok rfl) rfl) ?_
 refine TL.nil ?_
 refine T.seq ?_
 refine T.region ?_
 refine TL.cons rfl (Step.fieldAddr (q := 0) (off := 2) (n := 1) (one := true) rfl rfl (lt_ok rfl) (by kernel_rfl) (Nat.succ_ne_zero _) rfl) ?_
 refine TL.cons rfl (Step.load_box (c := .d (.int .i64 a.f2)) rfl rfl (lt_ok rfl) (by kernel_rfl) rfl rfl rfl) ?_
 refine TL.cons rfl (Step.fieldAddr (q := 0) (off := 2) (n := 1) (one := true) rfl rfl (lt_ok rfl) (by kernel_rfl) (Nat.succ_ne_zero _) rfl) ?_
 refine TL.cons rfl (Step.store_box (n := 1) (p := (.one (.d (.int .i64 a.f2)))) (qs := [.d (.int .i64 a.f2)]) (ps' := [.d (.int .i64 a.f0), .d (.int .i64 a.f1), .d (.int .i64 a.f2), .d (.int .i64 0), .d (.int .i64 0)]) rfl rfl (by kernel_rfl) rfl rfl rfl rfl rfl rfl (le_ok rfl) rfl) ?_
 refine TL.nil ?_
 refine T.seq ?_
 refine T.region ?_
 refine TL.cons rfl (Step.fieldAddr (q := 0) (off := 3) (n := 1) (one := true) rfl rfl (lt_ok rfl) (by kernel_rfl) (Nat.succ_ne_zero _) rfl) ?_
 refine TL.cons rfl (Step.load_box (c := .d (.int .i64 a.f3)) rfl rfl (lt_ok rfl) (by kernel_rfl) rfl rfl rfl) ?_
 refine TL.cons rfl (Step.fieldAddr (q := 0) (off := 3) (n := 1) (one := true) rfl rfl (lt_ok rfl) (by kernel_rfl) (Nat.succ_ne_zero _) rfl) ?_
 refine TL.cons rfl (Step.store_box (n := 1) (p := (.one (.d (.int .i64 a.f3)))) (qs := [.d (.int .i64 a.f3)]) (ps' := [.d (.int .i64 a.f0), .d (.int .i64 a.f1), .d (.int .i64 a.f2), .d (.int .i64 a.f3), .d (.int .i64 0)]) rfl rfl (by kernel_rfl) rfl rfl rfl rfl rfl rfl (le_ok rfl) rfl) ?_
 refine TL.nil ?_
 refine T.seq ?_
 refine T.region ?_
 refine TL.cons rfl (Step.fieldAddr (q := 0) (off := 4) (n := 1) (one := true) rfl rfl (lt_ok rfl) (by kernel_rfl) (Nat.succ_ne_zero _) rfl) ?_
 refine TL.cons rfl (Step.load_box (c := .d (.int .i64 a.f4)) rfl rfl (lt_ok rfl) (by kernel_rfl) rfl rfl rfl) ?_
 refine TL.cons rfl (Step.fieldAddr (q := 0) (off := 4) (n := 1) (one := true) rfl rfl (lt_ok rfl) (by kernel_rfl) (Nat.succ_ne_zero _) rfl) ?_
 refine TL.cons rfl (Step.store_box (n := 1) (p := (.one (.d (.int .i64 a.f4)))) (qs := [.d (.int .i64 a.f4)]) (ps' := [.d (.int .i64 a.f0), .d (.int .i64 a.f1), .d (.int .i64 a.f2), .d (.int .i64 a.f3), .d (.int .i64 a.f4)]) rfl rfl (by kernel_rfl) rfl rfl rfl rfl rfl rfl (le_ok rfl) rfl) ?_
 refine TL.nil ?_
 refine T.seq ?_
 refine T.region ?_
 refine TL.cons rfl (Step.load_box_agg (n := 5) (qs := [.d (.int .i64 a.f0), .d (.int .i64 a.f1), .d (.int .i64 a.f2), .d (.int .i64 a.f3), .d (.int .i64 a.f4)]) rfl rfl (lt_ok rfl) (by kernel_rfl) rfl rfl rfl rfl) ?_
 refine TL.cons rfl (Step.store_box (n := 5) (p := (.agg [.d (.int .i64 a.f0), .d (.int .i64 a.f1), .d (.int .i64 a.f2), .d (.int .i64 a.f3), .d (.int .i64 a.f4)])) (qs := [.d (.int .i64 a.f0), .d (.int .i64 a.f1), .d (.int .i64 a.f2), .d (.int .i64 a.f3), .d (.int .i64 a.f4)]) (ps' := [.d (.int .i64 a.f0), .d (.int .i64 a.f1), .d (.int .i64 a.f2), .d (.int .i64 a.f3), .d (.int .i64 a.f4)]) rfl rfl (by kernel_rfl) rfl rfl rfl rfl rfl rfl (le_ok rfl) rfl) ?_
 refine TL.nil ?_
 refine T.ret ?_
 exact ⟨[(true, [.d (.int .i64 a.f0), .d (.int .i64 a.f1), .d (.int .i64 a.f2), .d (.int .i64 a.f3), .d (.int .i64 a.f4)])], (.cons rfl .nil), rfl, [], (RetC.rd' rfl (RetC.rd' rfl (RetC.rd' rfl (RetC.rd' rfl (RetC.rd' rfl .nil)))))⟩
theorem ok_laws_toByteS (a : List Int) (h0_ : a.length ≤ 1048576) : RO Try.prog 18 [.one (.ints .u8 a)] [(false, [.own 5 (.ints .u8 a)])] := by
 refine RO.intro Try.func18 rfl 22 rfl (le_ok rfl) fun w Z => ?_
 refine T.bnd 0 0 rfl rfl fun hb_0_0 => ?_
 simp only [D.size, List.length_map] at hb_0_0
 have h0b := h0_
 refine T.seq ?_
 refine T.region ?_
 refine TL.cons rfl (Step.assign (p := (.one (.nil))) rfl rfl (lt_ok rfl) rfl) ?_
 refine TL.nil ?_
 refine T.seq ?_
 refine T.region ?_
 refine TL.cons rfl (Step.move (p := (.one (.d (.ints .u8 a)))) rfl rfl (lt_ok rfl) rfl) ?_
 refine TL.cons rfl (Step.len (e := 5) (z := 1) (d := (.ints .u8 a)) rfl rfl (lt_ok rfl) (by kernel_rfl) rfl rfl) ?_
 refine TL.cons rfl (Step.make (e := 5) (z := 1) (by_ := 1) (n := (a.length : Int)) (zs := [.int .u8 0]) (zd := [.int .u8 0]) (d := (.ints .u8 (List.replicate a.length 0))) rfl rfl (lt_ok rfl) (by kernel_rfl) (lt_ok rfl) rfl (by first | omega | (simp; omega)) (by first | omega | (simp; omega)) (by first | omega | (simp; omega)) (by kernel_rfl) (.val rfl .nil) rfl (by simp) (by simp [D.flat, List.flatten_replicate_singleton]) (by simp [D.size]) rfl trivial) ?_
 refine TL.cons rfl (Step.assign (p := (.one (.row 7 []))) rfl rfl (lt_ok rfl) rfl) ?_
 refine TL.nil ?_
 refine T.seq ?_
 refine T.seq ?_
 refine T.region ?_
 refine TL.cons rfl (Step.assign (p := (.one (.d (.int .i64 0)))) rfl rfl (lt_ok rfl) rfl) ?_
 refine TL.nil ?_
 refine T.block ?_
 refine T.loop (ι := Nat) (fun xx_ => { tm := [(0, (.one (.d (.ints .u8 a)))), (2, (.one (.nil))), (3, (.one (.row 7 []))), (4, (.one (.d (.int .i64 (xx_ : Int)))))], rows := [(7, (5, (.ints .u8 (a.take xx_ ++ List.replicate (a.length - xx_) 0 : List Int))))], boxes := [] }) (fun xx_ => xx_ ≤ a.length) (fun xx_ => a.length - xx_) 0 ?_ ?_ ?_
 · refine Env.le_mk ⟨rfl, rfl, rfl, ?_, trivial⟩ ⟨?_, trivial⟩ trivial <;> (first | rfl | exact congrArg (fun x => some (5, ((.ints .u8 x) : D))) (fill_set a 0 0 i (by omega)))
 · exact Nat.zero_le _
 ·
  intro i hx
  try dsimp only at hx ⊢
  refine T.seq ?_
  refine T.seq ?_
  refine T.region ?_
  refine TL.cons rfl (Step.move (p := (.one (.d (.int .i64 (i : Int))))) rfl rfl (lt_ok rfl) rfl) ?_
  refine TL.cons rfl (Step.move (p := (.one (.d (.ints .u8 a)))) rfl rfl (lt_ok rfl) rfl) ?_
  refine TL.cons rfl (Step.len (e := 5) (z := 1) (d := (.ints .u8 a)) rfl rfl (lt_ok rfl) (by kernel_rfl) rfl rfl) ?_
  refine TL.cons rfl (Step.bin rfl rfl (lt_ok rfl) rfl rfl (Bin.lss (k := .i64) (a := (i : Int)) (b := (a.length : Int)))) ?_
  refine TL.nil ?_
  refine T.cond (b := decide ((i : Int) < (a.length : Int))) rfl (fun h1 => ?_) (fun h1 => ?_)
  ·
   replace h1 := of_decide_eq_true h1
   refine T.skip ?_
   refine T.seq ?_
   refine T.block ?_
   refine T.region ?_
   refine TL.cons rfl (Step.move (p := (.one (.row 7 []))) rfl rfl (lt_ok rfl) rfl) ?_
   refine TL.cons rfl (Step.move (p := (.one (.d (.int .i64 (i : Int))))) rfl rfl (lt_ok rfl) rfl) ?_
   refine TL.cons rfl (Step.move (p := (.one (.d (.ints .u8 a)))) rfl rfl (lt_ok rfl) rfl) ?_
   refine TL.cons rfl (Step.move (p := (.one (.d (.int .i64 (i : Int))))) rfl rfl (lt_ok rfl) rfl) ?_
   refine TL.cons rfl (Step.index (e := 5) (z := 1) (i := (i : Int)) rfl rfl (lt_ok rfl) (by kernel_rfl) rfl rfl rfl (lt_ok rfl) rfl (by first | omega | (simp; omega)) (by simp only [D.size]; first | omega | (simp; omega))) ?_
   refine TL.cons rfl (Step.load (e := (.int .u8 (a.getD i 0))) rfl rfl (lt_ok rfl) (by kernel_rfl) rfl rfl) ?_
   refine TL.cons rfl (Step.index_row (e := 5) (z := 1) (i := (i : Int)) rfl rfl (lt_ok rfl) (by kernel_rfl) rfl rfl rfl rfl (lt_ok rfl) rfl (by first | omega | (simp; omega)) (by simp only [D.at_, D.cell, D.size]; first | omega | (simp; omega))) ?_
   refine TL.cons rfl (Step.store_row (n := 1) (p := (.one (.d (.int .u8 (a.getD i 0))))) (ps := [.d (.int .u8 (a.getD i 0))]) (es := [(.int .u8 (a.getD i 0))]) (ss := []) (d1 := (.ints .u8 ((a.take i ++ List.replicate (a.length - i) 0 : List Int).set i (a.getD i 0)))) (d' := (.ints .u8 ((a.take i ++ List.replicate (a.length - i) 0 : List Int).set i (a.getD i 0)))) rfl rfl (by kernel_rfl) rfl rfl rfl rfl rfl rfl (.val rfl .nil) (by simp) (Putd.one rfl trivial rfl (by simp only [D.at_, D.size, List.length_set, upTo_length]; first | omega | (simp; omega)) (lt_ok rfl)) rfl) ?_
   refine TL.nil ?_
   refine T.region ?_
   refine TL.cons rfl (Step.move (p := (.one (.d (.int .i64 (i : Int))))) rfl rfl (lt_ok rfl) rfl) ?_
   refine TL.cons rfl (Step.bin (r := .int .i64 ((i : Int) + 1)) rfl rfl (lt_ok rfl) rfl rfl (Bin.add (a := (i : Int)) (b := 1) (by first | exact wrap_ok (by first | omega | (simp; omega)) (by first | omega | (simp; omega)) | rfl))) ?_
   refine TL.cons rfl (Step.assign (p := (.one (.d (.int .i64 ((i : Int) + 1))))) rfl rfl (lt_ok rfl) rfl) ?_
   refine TL.nil ?_
   refine ⟨i + 1, by omega, by omega, Env.le_mk ⟨rfl, rfl, rfl, ?_, trivial⟩ ⟨?_, trivial⟩ trivial⟩ <;> (first | rfl | exact congrArg (fun x => some (5, ((.ints .u8 x) : D))) (fill_set a 0 0 i (by omega)))
  ·
   replace h1 := of_decide_eq_false h1
   refine T.exit ?_
   refine T.seq ?_
   refine T.region ?_
   refine TL.cons rfl (Step.move (p := (.one (.row 7 []))) rfl rfl (lt_ok rfl) rfl) ?_
   refine TL.cons rfl (Step.assign (p := (.one (.row 7 []))) rfl rfl (lt_ok rfl) rfl) ?_
   refine TL.nil ?_
   refine T.ret ?_
   refine ⟨[(false, [.row 7 []])], (.cons rfl .nil), rfl, [7], (RetC.own' rfl ?_ rfl .nil)⟩ <;> (first | rfl | (congr 1; rw [fill_all' _ _ _ (by omega)]) | (rw [fill_all' _ _ _ (by omega)]))
theorem ok_laws_eqByteS (a : List Int) (b : List Int) : RO Try.prog 21 [.one (.ints .u8 a), .one (.ints .u8 b)] [(false, [.rd (.bool (decide (a = b)))])] := by
 refine RO.intro Try.func21 rfl 26 rfl (le_ok rfl) fun w Z => ?_
 refine T.bnd 0 0 rfl rfl fun hb_0_0 => ?_
 simp only [D.size, List.length_map] at hb_0_0
 refine T.bnd 1 0 rfl rfl fun hb_1_0 => ?_
 simp only [D.size, List.length_map] at hb_1_0
 refine T.seq ?_
 refine T.region ?_
 refine TL.cons rfl (Step.assign (p := (.one (.d (.bool false)))) rfl rfl (lt_ok rfl) rfl) ?_
 refine TL.nil ?_
 refine T.seq ?_
 refine T.seq ?_
 refine T.region ?_
 refine TL.cons rfl (Step.move (p := (.one (.d (.ints .u8 a)))) rfl rfl (lt_ok rfl) rfl) ?_
 refine TL.cons rfl (Step.len (e := 5) (z := 1) (d := (.ints .u8 a)) rfl rfl (lt_ok rfl) (by kernel_rfl) rfl rfl) ?_
 refine TL.cons rfl (Step.move (p := (.one (.d (.ints .u8 b)))) rfl rfl (lt_ok rfl) rfl) ?_
 refine TL.cons rfl (Step.len (e := 5) (z := 1) (d := (.ints .u8 b)) rfl rfl (lt_ok rfl) (by kernel_rfl) rfl rfl) ?_
 refine TL.cons rfl (Step.bin rfl rfl (lt_ok rfl) rfl rfl (Bin.neq (k := .i64) (a := (a.length : Int)) (b := (b.length : Int)))) ?_
 refine TL.nil ?_
 refine T.cond (b := decide ((a.length : Int) ≠ (b.length : Int))) rfl (fun h1 => ?_) (fun h1 => ?_)
 ·
  replace h1 := of_decide_eq_true h1
  refine T.seq ?_
  refine T.region ?_
  refine TL.cons rfl (Step.assign (p := (.one (.d (.bool false)))) rfl rfl (lt_ok rfl) rfl) ?_
  refine TL.nil ?_
  refine T.ret ?_
  refine ⟨[(false, [.d (.bool false)])], (.cons rfl .nil), rfl, [], (RetC.rd' ?_ .nil)⟩ <;> ((congr 1; symm; first | (apply decide_eq_false; rintro rfl; first | exact absurd rfl ‹¬ _ = _› | exact absurd rfl (of_decide_eq_false (by assumption)) | contradiction | simp_all) | (apply decide_eq_true; exact take_all hx2 (by omega) hx3)))
 ·
  replace h1 := of_decide_eq_false h1
  refine T.skip ?_
  refine T.seq ?_
  refine T.seq ?_
  refine T.region ?_
  refine TL.cons rfl (Step.assign (p := (.one (.d (.int .i64 0)))) rfl rfl (lt_ok rfl) rfl) ?_
  refine TL.nil ?_
  refine T.block ?_
  refine T.loop (ι := Nat) (fun xx_ => { tm := [(0, (.one (.d (.ints .u8 a)))), (1, (.one (.d (.ints .u8 b)))), (5, (.one (.d (.int .i64 (xx_ : Int)))))], rows := [], boxes := [] }) (fun xx_ => xx_ ≤ a.length ∧ a.length = b.length ∧ a.take xx_ = b.take xx_) (fun xx_ => a.length - xx_) 0 ?_ ?_ ?_
  · refine Env.le_mk ⟨rfl, rfl, ?_, trivial⟩ trivial trivial <;> (first | rfl | (simp; done) | (congr 3; omega))
  · (refine ⟨Nat.zero_le _, by omega, by simp⟩)
  ·
   intro i hx
   try dsimp only at hx ⊢
   obtain ⟨hx1, hx2, hx3⟩ := hx
   refine T.seq ?_
   refine T.seq ?_
   refine T.region ?_
   refine TL.cons rfl (Step.move (p := (.one (.d (.int .i64 (i : Int))))) rfl rfl (lt_ok rfl) rfl) ?_
   refine TL.cons rfl (Step.move (p := (.one (.d (.ints .u8 a)))) rfl rfl (lt_ok rfl) rfl) ?_
   refine TL.cons rfl (Step.len (e := 5) (z := 1) (d := (.ints .u8 a)) rfl rfl (lt_ok rfl) (by kernel_rfl) rfl rfl) ?_
   refine TL.cons rfl (Step.bin rfl rfl (lt_ok rfl) rfl rfl (Bin.lss (k := .i64) (a := (i : Int)) (b := (a.length : Int)))) ?_
   refine TL.nil ?_
   refine T.cond (b := decide ((i : Int) < (a.length : Int))) rfl (fun h2 => ?_) (fun h2 => ?_)
   ·
    replace h2 := of_decide_eq_true h2
    refine T.skip ?_
    refine T.seq ?_
    refine T.block ?_
    refine T.seq ?_
    refine T.draw [⟨17, (.one (.d (.ints .u8 a))), []⟩, ⟨18, (.one (.d (.int .i64 (i : Int)))), []⟩, ⟨19, (.one (.eptr (.ints .u8 a) i 0)), []⟩, ⟨20, (.one (.d (.int .u8 (a.getD i 0)))), []⟩, ⟨21, (.one (.d (.ints .u8 b))), []⟩, ⟨22, (.one (.d (.int .i64 (i : Int)))), []⟩, ⟨23, (.one (.eptr (.ints .u8 b) i 0)), []⟩, ⟨24, (.one (.d (.int .u8 (b.getD i 0)))), []⟩, ⟨25, (.one (.d (.bool (decide ((a.getD i 0) ≠ (b.getD i 0)))))), []⟩] (by kernel_rfl) (by kernel_rfl) ?_ ?_
    ·
     refine .cons (fun E hA_ => by have g0 := hA_.get 0 (by decide); exact OpStep.plain rfl (Step.move (p := (.one (.d (.ints .u8 a)))) (t := 17) rfl rfl (by exact lt_ok rfl) (show Env.ev E (.tmp 0) = _ from g0.trans rfl))) ?_
     refine .cons (fun E hA_ => by have g5 := hA_.get 5 (by decide); exact OpStep.plain rfl (Step.move (p := (.one (.d (.int .i64 (i : Int))))) (t := 18) rfl rfl (by exact lt_ok rfl) (show Env.ev E (.tmp 5) = _ from g5.trans rfl))) ?_
     refine .cons (fun E hA_ => by have g17 := hA_.get 17 (by decide); have g18 := hA_.get 18 (by decide); exact OpStep.plain rfl (Step.index (e := 5) (z := 1) (i := (i : Int)) (t := 19) rfl rfl (by exact lt_ok rfl) (by kernel_rfl) (show Env.ev E (.tmp 17) = _ from g17.trans rfl) rfl rfl (lt_ok rfl) (show Env.ev E (.tmp 18) = _ from g18.trans rfl) (by first | omega | (simp; omega)) (by simp only [D.size]; first | omega | (simp; omega)))) ?_
     refine .cons (fun E hA_ => by have g19 := hA_.get 19 (by decide); exact OpStep.plain rfl (Step.load (e := (.int .u8 (a.getD i 0))) (t := 20) rfl rfl (by exact lt_ok rfl) (by kernel_rfl) (show Env.ev E (.tmp 19) = _ from g19.trans rfl) rfl)) ?_
     refine .cons (fun E hA_ => by have g1 := hA_.get 1 (by decide); exact OpStep.plain rfl (Step.move (p := (.one (.d (.ints .u8 b)))) (t := 21) rfl rfl (by exact lt_ok rfl) (show Env.ev E (.tmp 1) = _ from g1.trans rfl))) ?_
     refine .cons (fun E hA_ => by have g5 := hA_.get 5 (by decide); exact OpStep.plain rfl (Step.move (p := (.one (.d (.int .i64 (i : Int))))) (t := 22) rfl rfl (by exact lt_ok rfl) (show Env.ev E (.tmp 5) = _ from g5.trans rfl))) ?_
     refine .cons (fun E hA_ => by have g21 := hA_.get 21 (by decide); have g22 := hA_.get 22 (by decide); exact OpStep.plain rfl (Step.index (e := 5) (z := 1) (i := (i : Int)) (t := 23) rfl rfl (by exact lt_ok rfl) (by kernel_rfl) (show Env.ev E (.tmp 21) = _ from g21.trans rfl) rfl rfl (lt_ok rfl) (show Env.ev E (.tmp 22) = _ from g22.trans rfl) (by first | omega | (simp; omega)) (by simp only [D.size]; first | omega | (simp; omega)))) ?_
     refine .cons (fun E hA_ => by have g23 := hA_.get 23 (by decide); exact OpStep.plain rfl (Step.load (e := (.int .u8 (b.getD i 0))) (t := 24) rfl rfl (by exact lt_ok rfl) (by kernel_rfl) (show Env.ev E (.tmp 23) = _ from g23.trans rfl) rfl)) ?_
     refine .cons (fun E hA_ => by have g20 := hA_.get 20 (by decide); have g24 := hA_.get 24 (by decide); exact OpStep.plain rfl (Step.bin (t := 25) rfl rfl (by exact lt_ok rfl) (show Env.ev E (.tmp 20) = _ from g20.trans rfl) (show Env.ev E (.tmp 24) = _ from g24.trans rfl) (Bin.neq (k := .u8) (a := (a.getD i 0)) (b := (b.getD i 0))))) ?_
     exact .nil _ _
    refine TL.nil ?_
    refine T.cond (b := decide ((a.getD i 0) ≠ (b.getD i 0))) rfl (fun h3 => ?_) (fun h3 => ?_)
    ·
     replace h3 := of_decide_eq_true h3
     refine T.seq ?_
     refine T.region ?_
     refine TL.cons rfl (Step.assign (p := (.one (.d (.bool false)))) rfl rfl (lt_ok rfl) rfl) ?_
     refine TL.nil ?_
     refine T.ret ?_
     refine ⟨[(false, [.d (.bool false)])], (.cons rfl .nil), rfl, [], (RetC.rd' ?_ .nil)⟩ <;> ((congr 1; symm; first | (apply decide_eq_false; rintro rfl; first | exact absurd rfl ‹¬ _ = _› | exact absurd rfl (of_decide_eq_false (by assumption)) | contradiction | simp_all) | (apply decide_eq_true; exact take_all hx2 (by omega) hx3)))
    ·
     replace h3 := of_decide_eq_false h3
     refine T.skip ?_
     refine T.region ?_
     refine TL.cons rfl (Step.move (p := (.one (.d (.int .i64 (i : Int))))) rfl rfl (lt_ok rfl) rfl) ?_
     refine TL.cons rfl (Step.bin (r := .int .i64 ((i : Int) + 1)) rfl rfl (lt_ok rfl) rfl rfl (Bin.add (a := (i : Int)) (b := 1) (by first | exact wrap_ok (by first | omega | (simp; omega)) (by first | omega | (simp; omega)) | rfl))) ?_
     refine TL.cons rfl (Step.assign (p := (.one (.d (.int .i64 ((i : Int) + 1))))) rfl rfl (lt_ok rfl) rfl) ?_
     refine TL.nil ?_
     refine ⟨i + 1, by (refine ⟨by omega, hx2, take_step (d := 0) hx2 (by omega) hx3 (by first | assumption | exact Decidable.not_not.1 (by assumption) | omega)⟩), by omega, Env.le_mk ⟨rfl, rfl, ?_, trivial⟩ trivial trivial⟩ <;> (first | rfl | (simp; done) | (congr 3; omega))
   ·
    replace h2 := of_decide_eq_false h2
    refine T.exit ?_
    refine T.seq ?_
    refine T.region ?_
    refine TL.cons rfl (Step.assign (p := (.one (.d (.bool true)))) rfl rfl (lt_ok rfl) rfl) ?_
    refine TL.nil ?_
    refine T.ret ?_
    refine ⟨[(false, [.d (.bool true)])], (.cons rfl .nil), rfl, [], (RetC.rd' ?_ .nil)⟩ <;> ((congr 1; symm; first | (apply decide_eq_false; rintro rfl; first | exact absurd rfl ‹¬ _ = _› | exact absurd rfl (of_decide_eq_false (by assumption)) | contradiction | simp_all) | (apply decide_eq_true; exact take_all hx2 (by omega) hx3)))
theorem ok_laws_eqByteSS (a : List (List Int)) (b : List (List Int)) : RO Try.prog 58 [.one (.bss a), .one (.bss b)] [(false, [.rd (.bool (decide (a = b)))])] := by
 refine RO.intro Try.func58 rfl 27 rfl (le_ok rfl) fun w Z => ?_
 refine T.bnd 0 0 rfl rfl fun hb_0_0 => ?_
 simp only [D.size, List.length_map] at hb_0_0
 refine T.bnd 1 0 rfl rfl fun hb_1_0 => ?_
 simp only [D.size, List.length_map] at hb_1_0
 refine T.seq ?_
 refine T.region ?_
 refine TL.cons rfl (Step.assign (p := (.one (.d (.bool false)))) rfl rfl (lt_ok rfl) rfl) ?_
 refine TL.nil ?_
 refine T.seq ?_
 refine T.seq ?_
 refine T.region ?_
 refine TL.cons rfl (Step.move (p := (.one (.d (.bss a)))) rfl rfl (lt_ok rfl) rfl) ?_
 refine TL.cons rfl (Step.len (e := 24) (z := 1) (d := (.bss a)) rfl rfl (lt_ok rfl) (by kernel_rfl) rfl rfl) ?_
 refine TL.cons rfl (Step.move (p := (.one (.d (.bss b)))) rfl rfl (lt_ok rfl) rfl) ?_
 refine TL.cons rfl (Step.len (e := 24) (z := 1) (d := (.bss b)) rfl rfl (lt_ok rfl) (by kernel_rfl) rfl rfl) ?_
 refine TL.cons rfl (Step.bin rfl rfl (lt_ok rfl) rfl rfl (Bin.neq (k := .i64) (a := (a.length : Int)) (b := (b.length : Int)))) ?_
 refine TL.nil ?_
 refine T.cond (b := decide ((a.length : Int) ≠ (b.length : Int))) rfl (fun h1 => ?_) (fun h1 => ?_)
 ·
  replace h1 := of_decide_eq_true h1
  refine T.seq ?_
  refine T.region ?_
  refine TL.cons rfl (Step.assign (p := (.one (.d (.bool false)))) rfl rfl (lt_ok rfl) rfl) ?_
  refine TL.nil ?_
  refine T.ret ?_
  refine ⟨[(false, [.d (.bool false)])], (.cons rfl .nil), rfl, [], (RetC.rd' ?_ .nil)⟩ <;> ((congr 1; symm; first | (apply decide_eq_false; rintro rfl; first | exact absurd rfl ‹¬ _ = _› | exact absurd rfl (of_decide_eq_false (by assumption)) | contradiction | simp_all) | (apply decide_eq_true; exact take_all hx2 (by omega) hx3)))
 ·
  replace h1 := of_decide_eq_false h1
  refine T.skip ?_
  refine T.seq ?_
  refine T.seq ?_
  refine T.region ?_
  refine TL.cons rfl (Step.assign (p := (.one (.d (.int .i64 0)))) rfl rfl (lt_ok rfl) rfl) ?_
  refine TL.nil ?_
  refine T.block ?_
  refine T.loop (ι := Nat) (fun xx_ => { tm := [(0, (.one (.d (.bss a)))), (1, (.one (.d (.bss b)))), (5, (.one (.d (.int .i64 (xx_ : Int)))))], rows := [], boxes := [] }) (fun xx_ => xx_ ≤ a.length ∧ a.length = b.length ∧ a.take xx_ = b.take xx_) (fun xx_ => a.length - xx_) 0 ?_ ?_ ?_
  · refine Env.le_mk ⟨rfl, rfl, ?_, trivial⟩ trivial trivial <;> (first | rfl | (simp; done) | (congr 3; omega))
  · (refine ⟨Nat.zero_le _, by omega, by simp⟩)
  ·
   intro i hx
   try dsimp only at hx ⊢
   obtain ⟨hx1, hx2, hx3⟩ := hx
   refine T.seq ?_
   refine T.seq ?_
   refine T.region ?_
   refine TL.cons rfl (Step.move (p := (.one (.d (.int .i64 (i : Int))))) rfl rfl (lt_ok rfl) rfl) ?_
   refine TL.cons rfl (Step.move (p := (.one (.d (.bss a)))) rfl rfl (lt_ok rfl) rfl) ?_
   refine TL.cons rfl (Step.len (e := 24) (z := 1) (d := (.bss a)) rfl rfl (lt_ok rfl) (by kernel_rfl) rfl rfl) ?_
   refine TL.cons rfl (Step.bin rfl rfl (lt_ok rfl) rfl rfl (Bin.lss (k := .i64) (a := (i : Int)) (b := (a.length : Int)))) ?_
   refine TL.nil ?_
   refine T.cond (b := decide ((i : Int) < (a.length : Int))) rfl (fun h2 => ?_) (fun h2 => ?_)
   ·
    replace h2 := of_decide_eq_true h2
    refine T.skip ?_
    refine T.seq ?_
    refine T.block ?_
    refine T.seq ?_
    refine T.draw [⟨17, (.one (.d (.bss a))), []⟩, ⟨18, (.one (.d (.int .i64 (i : Int)))), []⟩, ⟨19, (.one (.eptr (.bss a) i 0)), []⟩, ⟨20, (.one (.d (.ints .u8 (a.getD i [])))), []⟩, ⟨21, (.one (.d (.bss b))), []⟩, ⟨22, (.one (.d (.int .i64 (i : Int)))), []⟩, ⟨23, (.one (.eptr (.bss b) i 0)), []⟩, ⟨24, (.one (.d (.ints .u8 (b.getD i [])))), []⟩, ⟨25, (.one (.d (.bool (decide ((a.getD i []) = (b.getD i [])))))), []⟩, ⟨26, (.one (.d (.bool (!(decide ((a.getD i []) = (b.getD i []))))))), []⟩] (by kernel_rfl) (by kernel_rfl) ?_ ?_
    ·
     refine .cons (fun E hA_ => by have g0 := hA_.get 0 (by decide); exact OpStep.plain rfl (Step.move (p := (.one (.d (.bss a)))) (t := 17) rfl rfl (by exact lt_ok rfl) (show Env.ev E (.tmp 0) = _ from g0.trans rfl))) ?_
     refine .cons (fun E hA_ => by have g5 := hA_.get 5 (by decide); exact OpStep.plain rfl (Step.move (p := (.one (.d (.int .i64 (i : Int))))) (t := 18) rfl rfl (by exact lt_ok rfl) (show Env.ev E (.tmp 5) = _ from g5.trans rfl))) ?_
     refine .cons (fun E hA_ => by have g17 := hA_.get 17 (by decide); have g18 := hA_.get 18 (by decide); exact OpStep.plain rfl (Step.index (e := 24) (z := 1) (i := (i : Int)) (t := 19) rfl rfl (by exact lt_ok rfl) (by kernel_rfl) (show Env.ev E (.tmp 17) = _ from g17.trans rfl) rfl rfl (lt_ok rfl) (show Env.ev E (.tmp 18) = _ from g18.trans rfl) (by first | omega | (simp; omega)) (by simp only [D.size]; first | omega | (simp; omega)))) ?_
     refine .cons (fun E hA_ => by have g19 := hA_.get 19 (by decide); exact OpStep.plain rfl (Step.load (e := (.ints .u8 (a.getD i []))) (t := 20) rfl rfl (by exact lt_ok rfl) (by kernel_rfl) (show Env.ev E (.tmp 19) = _ from g19.trans rfl) rfl)) ?_
     refine .cons (fun E hA_ => by have g1 := hA_.get 1 (by decide); exact OpStep.plain rfl (Step.move (p := (.one (.d (.bss b)))) (t := 21) rfl rfl (by exact lt_ok rfl) (show Env.ev E (.tmp 1) = _ from g1.trans rfl))) ?_
     refine .cons (fun E hA_ => by have g5 := hA_.get 5 (by decide); exact OpStep.plain rfl (Step.move (p := (.one (.d (.int .i64 (i : Int))))) (t := 22) rfl rfl (by exact lt_ok rfl) (show Env.ev E (.tmp 5) = _ from g5.trans rfl))) ?_
     refine .cons (fun E hA_ => by have g21 := hA_.get 21 (by decide); have g22 := hA_.get 22 (by decide); exact OpStep.plain rfl (Step.index (e := 24) (z := 1) (i := (i : Int)) (t := 23) rfl rfl (by exact lt_ok rfl) (by kernel_rfl) (show Env.ev E (.tmp 21) = _ from g21.trans rfl) rfl rfl (lt_ok rfl) (show Env.ev E (.tmp 22) = _ from g22.trans rfl) (by first | omega | (simp; omega)) (by simp only [D.size]; first | omega | (simp; omega)))) ?_
     refine .cons (fun E hA_ => by have g23 := hA_.get 23 (by decide); exact OpStep.plain rfl (Step.load (e := (.ints .u8 (b.getD i []))) (t := 24) rfl rfl (by exact lt_ok rfl) (by kernel_rfl) (show Env.ev E (.tmp 23) = _ from g23.trans rfl) rfl)) ?_
     refine .cons (fun E hA_ => by have g20 := hA_.get 20 (by decide); have g24 := hA_.get 24 (by decide); exact OpStep.plain rfl (Step.call (f := 21) (xs := [.tmp 20, .tmp 24]) (ps := [(.one (.d (.ints .u8 (a.getD i [])))), (.one (.d (.ints .u8 (b.getD i []))))]) false (g := .func 21) (t := 25) rfl rfl (by exact lt_ok rfl) rfl (by kernel_rfl) (evs_cons (show Env.ev E (.tmp 20) = _ from g20.trans rfl) (evs_cons (show Env.ev E (.tmp 24) = _ from g24.trans rfl) (rfl))) (.cons (.one (.d _)) (.cons (.one (.d _)) .nil)) (ok_laws_eqByteS (a.getD i []) (b.getD i [])) (.inr rfl) (At.freshRows hA_ rfl) (by simp) rfl)) ?_
     refine .cons (fun E hA_ => by have g25 := hA_.get 25 (by decide); exact OpStep.plain rfl (Step.not (b := (decide ((a.getD i []) = (b.getD i [])))) (t := 26) rfl rfl (by exact lt_ok rfl) (show Env.ev E (.tmp 25) = _ from g25.trans rfl))) ?_
     exact .nil _ _
    refine TL.nil ?_
    refine T.cond (b := !(decide ((a.getD i []) = (b.getD i [])))) rfl (fun h3 => ?_) (fun h3 => ?_)
    ·
     replace h3 : (decide ((a.getD i []) = (b.getD i []))) = false := by simpa only [Bool.not_eq_true', Bool.not_eq_false'] using h3
     replace h3 := of_decide_eq_false h3
     refine T.seq ?_
     refine T.region ?_
     refine TL.cons rfl (Step.assign (p := (.one (.d (.bool false)))) rfl rfl (lt_ok rfl) rfl) ?_
     refine TL.nil ?_
     refine T.ret ?_
     refine ⟨[(false, [.d (.bool false)])], (.cons rfl .nil), rfl, [], (RetC.rd' ?_ .nil)⟩ <;> ((congr 1; symm; first | (apply decide_eq_false; rintro rfl; first | exact absurd rfl ‹¬ _ = _› | exact absurd rfl (of_decide_eq_false (by assumption)) | contradiction | simp_all) | (apply decide_eq_true; exact take_all hx2 (by omega) hx3)))
    ·
     replace h3 : (decide ((a.getD i []) = (b.getD i []))) = true := by simpa only [Bool.not_eq_true', Bool.not_eq_false'] using h3
     replace h3 := of_decide_eq_true h3
     refine T.skip ?_
     refine T.region ?_
     refine TL.cons rfl (Step.move (p := (.one (.d (.int .i64 (i : Int))))) rfl rfl (lt_ok rfl) rfl) ?_
     refine TL.cons rfl (Step.bin (r := .int .i64 ((i : Int) + 1)) rfl rfl (lt_ok rfl) rfl rfl (Bin.add (a := (i : Int)) (b := 1) (by first | exact wrap_ok (by first | omega | (simp; omega)) (by first | omega | (simp; omega)) | rfl))) ?_
     refine TL.cons rfl (Step.assign (p := (.one (.d (.int .i64 ((i : Int) + 1))))) rfl rfl (lt_ok rfl) rfl) ?_
     refine TL.nil ?_
     refine ⟨i + 1, by (refine ⟨by omega, hx2, take_step (d := []) hx2 (by omega) hx3 (by first | assumption | exact Decidable.not_not.1 (by assumption) | omega)⟩), by omega, Env.le_mk ⟨rfl, rfl, ?_, trivial⟩ trivial trivial⟩ <;> (first | rfl | (simp; done) | (congr 3; omega))
   ·
    replace h2 := of_decide_eq_false h2
    refine T.exit ?_
    refine T.seq ?_
    refine T.region ?_
    refine TL.cons rfl (Step.assign (p := (.one (.d (.bool true)))) rfl rfl (lt_ok rfl) rfl) ?_
    refine TL.nil ?_
    refine T.ret ?_
    refine ⟨[(false, [.d (.bool true)])], (.cons rfl .nil), rfl, [], (RetC.rd' ?_ .nil)⟩ <;> ((congr 1; symm; first | (apply decide_eq_false; rintro rfl; first | exact absurd rfl ‹¬ _ = _› | exact absurd rfl (of_decide_eq_false (by assumption)) | contradiction | simp_all) | (apply decide_eq_true; exact take_all hx2 (by omega) hx3)))
theorem ok_laws_eqQc (a : SQc) (b : SQc) : RO Try.prog 34 [.agg a.cells, .agg b.cells] [(false, [.rd (.bool (decide (a = b)))])] := by
 refine RO.intro Try.func34 rfl 33 rfl (le_ok rfl) fun w Z => ?_
 refine T.seq ?_
 refine T.region ?_
 refine TL.cons rfl (Step.box (p := (.agg [.d (.int .i64 a.f0), .d (.int .i64 a.f1), .d (.ints .u8 a.f2), .d (.ints .u8 a.f3), .d (.bss a.f4)])) (ps := [.d (.int .i64 a.f0), .d (.int .i64 a.f1), .d (.ints .u8 a.f2), .d (.ints .u8 a.f3), .d (.bss a.f4)]) rfl rfl (lt_ok rfl) rfl rfl rfl rfl rfl) ?_
 refine TL.cons rfl (Step.box (p := (.agg [.d (.int .i64 b.f0), .d (.int .i64 b.f1), .d (.ints .u8 b.f2), .d (.ints .u8 b.f3), .d (.bss b.f4)])) (ps := [.d (.int .i64 b.f0), .d (.int .i64 b.f1), .d (.ints .u8 b.f2), .d (.ints .u8 b.f3), .d (.bss b.f4)]) rfl rfl (lt_ok rfl) rfl rfl rfl rfl rfl) ?_
 refine TL.cons rfl (Step.assign (p := (.one (.d (.bool false)))) rfl rfl (lt_ok rfl) rfl) ?_
 refine TL.nil ?_
 refine T.seq ?_
 refine T.seq ?_
 refine T.region ?_
 refine TL.cons rfl (Step.fieldAddr (q := 0) (off := 0) (n := 1) (one := true) rfl rfl (lt_ok rfl) (by kernel_rfl) (Nat.succ_ne_zero _) rfl) ?_
 refine TL.cons rfl (Step.load_box (c := .d (.int .i64 a.f0)) rfl rfl (lt_ok rfl) (by kernel_rfl) rfl rfl rfl) ?_
 refine TL.cons rfl (Step.fieldAddr (q := 0) (off := 0) (n := 1) (one := true) rfl rfl (lt_ok rfl) (by kernel_rfl) (Nat.succ_ne_zero _) rfl) ?_
 refine TL.cons rfl (Step.load_box (c := .d (.int .i64 b.f0)) rfl rfl (lt_ok rfl) (by kernel_rfl) rfl rfl rfl) ?_
 refine TL.cons rfl (Step.bin rfl rfl (lt_ok rfl) rfl rfl (Bin.neq (k := .i64) (a := a.f0) (b := b.f0))) ?_
 refine TL.nil ?_
 refine T.cond (b := decide (a.f0 ≠ b.f0)) rfl (fun h1 => ?_) (fun h1 => ?_)
 ·
  replace h1 := of_decide_eq_true h1
  refine T.seq ?_
  refine T.region ?_
  refine TL.cons rfl (Step.assign (p := (.one (.d (.bool false)))) rfl rfl (lt_ok rfl) rfl) ?_
  refine TL.nil ?_
  refine T.ret ?_
  refine ⟨[(false, [.d (.bool false)])], (.cons rfl .nil), rfl, [], (RetC.rd' ?_ .nil)⟩ <;> ((congr 1; symm; first | (apply decide_eq_false; rintro rfl; first | exact absurd rfl ‹¬ _ = _› | contradiction) | (apply decide_eq_true; apply SQc.ext <;> first | assumption | exact Decidable.not_not.1 (by assumption))))
 ·
  replace h1 := of_decide_eq_false h1
  refine T.skip ?_
  refine T.seq ?_
  refine T.seq ?_
  refine T.region ?_
  refine TL.cons rfl (Step.fieldAddr (q := 0) (off := 1) (n := 1) (one := true) rfl rfl (lt_ok rfl) (by kernel_rfl) (Nat.succ_ne_zero _) rfl) ?_
  refine TL.cons rfl (Step.load_box (c := .d (.int .i64 a.f1)) rfl rfl (lt_ok rfl) (by kernel_rfl) rfl rfl rfl) ?_
  refine TL.cons rfl (Step.fieldAddr (q := 0) (off := 1) (n := 1) (one := true) rfl rfl (lt_ok rfl) (by kernel_rfl) (Nat.succ_ne_zero _) rfl) ?_
  refine TL.cons rfl (Step.load_box (c := .d (.int .i64 b.f1)) rfl rfl (lt_ok rfl) (by kernel_rfl) rfl rfl rfl) ?_
  refine TL.cons rfl (Step.bin rfl rfl (lt_ok rfl) rfl rfl (Bin.neq (k := .i64) (a := a.f1) (b := b.f1))) ?_
  refine TL.nil ?_
  refine T.cond (b := decide (a.f1 ≠ b.f1)) rfl (fun h2 => ?_) (fun h2 => ?_)
  ·
   replace h2 := of_decide_eq_true h2
   refine T.seq ?_
   refine T.region ?_
   refine TL.cons rfl (Step.assign (p := (.one (.d (.bool false)))) rfl rfl (lt_ok rfl) rfl) ?_
   refine TL.nil ?_
   refine T.ret ?_
   refine ⟨[(false, [.d (.bool false)])], (.cons rfl .nil), rfl, [], (RetC.rd' ?_ .nil)⟩ <;> ((congr 1; symm; first | (apply decide_eq_false; rintro rfl; first | exact absurd rfl ‹¬ _ = _› | contradiction) | (apply decide_eq_true; apply SQc.ext <;> first | assumption | exact Decidable.not_not.1 (by assumption))))
  ·
   replace h2 := of_decide_eq_false h2
   refine T.skip ?_
   refine T.seq ?_
   refine T.seq ?_
   refine T.region ?_
   refine TL.cons rfl (Step.fieldAddr (q := 0) (off := 2) (n := 1) (one := true) rfl rfl (lt_ok rfl) (by kernel_rfl) (Nat.succ_ne_zero _) rfl) ?_
   refine TL.cons rfl (Step.load_box (c := .d (.ints .u8 a.f2)) rfl rfl (lt_ok rfl) (by kernel_rfl) rfl rfl rfl) ?_
   refine TL.cons rfl (Step.fieldAddr (q := 0) (off := 2) (n := 1) (one := true) rfl rfl (lt_ok rfl) (by kernel_rfl) (Nat.succ_ne_zero _) rfl) ?_
   refine TL.cons rfl (Step.load_box (c := .d (.ints .u8 b.f2)) rfl rfl (lt_ok rfl) (by kernel_rfl) rfl rfl rfl) ?_
   refine TL.cons rfl (Step.call (f := 21) (xs := [.tmp 16, .tmp 18]) (ps := [(.one (.d (.ints .u8 a.f2))), (.one (.d (.ints .u8 b.f2)))]) false (g := .func 21) rfl rfl (lt_ok rfl) rfl (by kernel_rfl) rfl (.cons (.one (.d _)) (.cons (.one (.d _)) .nil)) (ok_laws_eqByteS a.f2 b.f2) (.inr rfl) rfl (by simp) rfl) ?_
   refine TL.cons rfl (Step.not (b := (decide (a.f2 = b.f2))) rfl rfl (lt_ok rfl) rfl) ?_
   refine TL.nil ?_
   refine T.cond (b := !(decide (a.f2 = b.f2))) rfl (fun h3 => ?_) (fun h3 => ?_)
   ·
    replace h3 : (decide (a.f2 = b.f2)) = false := by simpa only [Bool.not_eq_true', Bool.not_eq_false'] using h3
    replace h3 := of_decide_eq_false h3
    refine T.seq ?_
    refine T.region ?_
    refine TL.cons rfl (Step.assign (p := (.one (.d (.bool false)))) rfl rfl (lt_ok rfl) rfl) ?_
    refine TL.nil ?_
    refine T.ret ?_
    refine ⟨[(false, [.d (.bool false)])], (.cons rfl .nil), rfl, [], (RetC.rd' ?_ .nil)⟩ <;> ((congr 1; symm; first | (apply decide_eq_false; rintro rfl; first | exact absurd rfl ‹¬ _ = _› | contradiction) | (apply decide_eq_true; apply SQc.ext <;> first | assumption | exact Decidable.not_not.1 (by assumption))))
   ·
    replace h3 : (decide (a.f2 = b.f2)) = true := by simpa only [Bool.not_eq_true', Bool.not_eq_false'] using h3
    replace h3 := of_decide_eq_true h3
    refine T.skip ?_
    refine T.seq ?_
    refine T.seq ?_
    refine T.region ?_
    refine TL.cons rfl (Step.fieldAddr (q := 0) (off := 3) (n := 1) (one := true) rfl rfl (lt_ok rfl) (by kernel_rfl) (Nat.succ_ne_zero _) rfl) ?_
    refine TL.cons rfl (Step.load_box (c := .d (.ints .u8 a.f3)) rfl rfl (lt_ok rfl) (by kernel_rfl) rfl rfl rfl) ?_
    refine TL.cons rfl (Step.fieldAddr (q := 0) (off := 3) (n := 1) (one := true) rfl rfl (lt_ok rfl) (by kernel_rfl) (Nat.succ_ne_zero _) rfl) ?_
    refine TL.cons rfl (Step.load_box (c := .d (.ints .u8 b.f3)) rfl rfl (lt_ok rfl) (by kernel_rfl) rfl rfl rfl) ?_
    refine TL.cons rfl (Step.call (f := 21) (xs := [.tmp 22, .tmp 24]) (ps := [(.one (.d (.ints .u8 a.f3))), (.one (.d (.ints .u8 b.f3)))]) false (g := .func 21) rfl rfl (lt_ok rfl) rfl (by kernel_rfl) rfl (.cons (.one (.d _)) (.cons (.one (.d _)) .nil)) (ok_laws_eqByteS a.f3 b.f3) (.inr rfl) rfl (by simp) rfl) ?_
    refine TL.cons rfl (Step.not (b := (decide (a.f3 = b.f3))) rfl rfl (lt_ok rfl) rfl) ?_
    refine TL.nil ?_
    refine T.cond (b := !(decide (a.f3 = b.f3))) rfl (fun h4 => ?_) (fun h4 => ?_)
    ·
     replace h4 : (decide (a.f3 = b.f3)) = false := by simpa only [Bool.not_eq_true', Bool.not_eq_false'] using h4
     replace h4 := of_decide_eq_false h4
     refine T.seq ?_
     refine T.region ?_
     refine TL.cons rfl (Step.assign (p := (.one (.d (.bool false)))) rfl rfl (lt_ok rfl) rfl) ?_
     refine TL.nil ?_
     refine T.ret ?_
     refine ⟨[(false, [.d (.bool false)])], (.cons rfl .nil), rfl, [], (RetC.rd' ?_ .nil)⟩ <;> ((congr 1; symm; first | (apply decide_eq_false; rintro rfl; first | exact absurd rfl ‹¬ _ = _› | contradiction) | (apply decide_eq_true; apply SQc.ext <;> first | assumption | exact Decidable.not_not.1 (by assumption))))
    ·
     replace h4 : (decide (a.f3 = b.f3)) = true := by simpa only [Bool.not_eq_true', Bool.not_eq_false'] using h4
     replace h4 := of_decide_eq_true h4
     refine T.skip ?_
     refine T.seq ?_
     refine T.seq ?_
     refine T.region ?_
     refine TL.cons rfl (Step.fieldAddr (q := 0) (off := 4) (n := 1) (one := true) rfl rfl (lt_ok rfl) (by kernel_rfl) (Nat.succ_ne_zero _) rfl) ?_
     refine TL.cons rfl (Step.load_box (c := .d (.bss a.f4)) rfl rfl (lt_ok rfl) (by kernel_rfl) rfl rfl rfl) ?_
     refine TL.cons rfl (Step.fieldAddr (q := 0) (off := 4) (n := 1) (one := true) rfl rfl (lt_ok rfl) (by kernel_rfl) (Nat.succ_ne_zero _) rfl) ?_
     refine TL.cons rfl (Step.load_box (c := .d (.bss b.f4)) rfl rfl (lt_ok rfl) (by kernel_rfl) rfl rfl rfl) ?_
     refine TL.cons rfl (Step.call (f := 58) (xs := [.tmp 28, .tmp 30]) (ps := [(.one (.d (.bss a.f4))), (.one (.d (.bss b.f4)))]) false (g := .func 58) rfl rfl (lt_ok rfl) rfl (by kernel_rfl) rfl (.cons (.one (.d _)) (.cons (.one (.d _)) .nil)) (ok_laws_eqByteSS a.f4 b.f4) (.inr rfl) rfl (by simp) rfl) ?_
     refine TL.cons rfl (Step.not (b := (decide (a.f4 = b.f4))) rfl rfl (lt_ok rfl) rfl) ?_
     refine TL.nil ?_
     refine T.cond (b := !(decide (a.f4 = b.f4))) rfl (fun h5 => ?_) (fun h5 => ?_)
     ·
      replace h5 : (decide (a.f4 = b.f4)) = false := by simpa only [Bool.not_eq_true', Bool.not_eq_false'] using h5
      replace h5 := of_decide_eq_false h5
      refine T.seq ?_
      refine T.region ?_
      refine TL.cons rfl (Step.assign (p := (.one (.d (.bool false)))) rfl rfl (lt_ok rfl) rfl) ?_
      refine TL.nil ?_
      refine T.ret ?_
      refine ⟨[(false, [.d (.bool false)])], (.cons rfl .nil), rfl, [], (RetC.rd' ?_ .nil)⟩ <;> ((congr 1; symm; first | (apply decide_eq_false; rintro rfl; first | exact absurd rfl ‹¬ _ = _› | contradiction) | (apply decide_eq_true; apply SQc.ext <;> first | assumption | exact Decidable.not_not.1 (by assumption))))
     ·
      replace h5 : (decide (a.f4 = b.f4)) = true := by simpa only [Bool.not_eq_true', Bool.not_eq_false'] using h5
      replace h5 := of_decide_eq_true h5
      refine T.skip ?_
      refine T.seq ?_
      refine T.region ?_
      refine TL.cons rfl (Step.assign (p := (.one (.d (.bool true)))) rfl rfl (lt_ok rfl) rfl) ?_
      refine TL.nil ?_
      refine T.ret ?_
      refine ⟨[(false, [.d (.bool true)])], (.cons rfl .nil), rfl, [], (RetC.rd' ?_ .nil)⟩ <;> ((congr 1; symm; first | (apply decide_eq_false; rintro rfl; first | exact absurd rfl ‹¬ _ = _› | contradiction) | (apply decide_eq_true; apply SQc.ext <;> first | assumption | exact Decidable.not_not.1 (by assumption))))
theorem ok_laws_eqHead (a : SHead) (b : SHead) : RO Try.prog 39 [.agg a.cells, .agg b.cells] [(false, [.rd (.bool (decide (a = b)))])] := by
 refine RO.intro Try.func39 rfl 38 rfl (le_ok rfl) fun w Z => ?_
 refine T.seq ?_
 refine T.region ?_
 refine TL.cons rfl (Step.box (p := (.agg [.d (.int .i64 a.f0), .d (.int .i64 a.f1), .d (.int .i64 a.f2), .d (.ints .u8 a.f3), .d (.ints .u8 a.f4), .d (.int .i64 a.f5.f0), .d (.int .i64 a.f5.f1), .d (.ints .u8 a.f5.f2), .d (.ints .u8 a.f5.f3), .d (.bss a.f5.f4)])) (ps := [.d (.int .i64 a.f0), .d (.int .i64 a.f1), .d (.int .i64 a.f2), .d (.ints .u8 a.f3), .d (.ints .u8 a.f4), .d (.int .i64 a.f5.f0), .d (.int .i64 a.f5.f1), .d (.ints .u8 a.f5.f2), .d (.ints .u8 a.f5.f3), .d (.bss a.f5.f4)]) rfl rfl (lt_ok rfl) rfl rfl rfl rfl rfl) ?_
 refine TL.cons rfl (Step.box (p := (.agg [.d (.int .i64 b.f0), .d (.int .i64 b.f1), .d (.int .i64 b.f2), .d (.ints .u8 b.f3), .d (.ints .u8 b.f4), .d (.int .i64 b.f5.f0), .d (.int .i64 b.f5.f1), .d (.ints .u8 b.f5.f2), .d (.ints .u8 b.f5.f3), .d (.bss b.f5.f4)])) (ps := [.d (.int .i64 b.f0), .d (.int .i64 b.f1), .d (.int .i64 b.f2), .d (.ints .u8 b.f3), .d (.ints .u8 b.f4), .d (.int .i64 b.f5.f0), .d (.int .i64 b.f5.f1), .d (.ints .u8 b.f5.f2), .d (.ints .u8 b.f5.f3), .d (.bss b.f5.f4)]) rfl rfl (lt_ok rfl) rfl rfl rfl rfl rfl) ?_
 refine TL.cons rfl (Step.assign (p := (.one (.d (.bool false)))) rfl rfl (lt_ok rfl) rfl) ?_
 refine TL.nil ?_
 refine T.seq ?_
 refine T.seq ?_
 refine T.region ?_
 refine TL.cons rfl (Step.fieldAddr (q := 0) (off := 0) (n := 1) (one := true) rfl rfl (lt_ok rfl) (by kernel_rfl) (Nat.succ_ne_zero _) rfl) ?_
 refine TL.cons rfl (Step.load_box (c := .d (.int .i64 a.f0)) rfl rfl (lt_ok rfl) (by kernel_rfl) rfl rfl rfl) ?_
 refine TL.cons rfl (Step.fieldAddr (q := 0) (off := 0) (n := 1) (one := true) rfl rfl (lt_ok rfl) (by kernel_rfl) (Nat.succ_ne_zero _) rfl) ?_
 refine TL.cons rfl (Step.load_box (c := .d (.int .i64 b.f0)) rfl rfl (lt_ok rfl) (by kernel_rfl) rfl rfl rfl) ?_
 refine TL.cons rfl (Step.bin rfl rfl (lt_ok rfl) rfl rfl (Bin.neq (k := .i64) (a := a.f0) (b := b.f0))) ?_
 refine TL.nil ?_
 refine T.cond (b := decide (a.f0 ≠ b.f0)) rfl (fun h1 => ?_) (fun h1 => ?_)
 ·
  replace h1 := of_decide_eq_true h1
  refine T.seq ?_
  refine T.region ?_
  refine TL.cons rfl (Step.assign (p := (.one (.d (.bool false)))) rfl rfl (lt_ok rfl) rfl) ?_
  refine TL.nil ?_
  refine T.ret ?_
  refine ⟨[(false, [.d (.bool false)])], (.cons rfl .nil), rfl, [], (RetC.rd' ?_ .nil)⟩ <;> ((congr 1; symm; first | (apply decide_eq_false; rintro rfl; first | exact absurd rfl ‹¬ _ = _› | contradiction) | (apply decide_eq_true; apply SHead.ext <;> first | assumption | exact Decidable.not_not.1 (by assumption))))
 ·
  replace h1 := of_decide_eq_false h1
  refine T.skip ?_
  refine T.seq ?_
  refine T.seq ?_
  refine T.region ?_
  refine TL.cons rfl (Step.fieldAddr (q := 0) (off := 1) (n := 1) (one := true) rfl rfl (lt_ok rfl) (by kernel_rfl) (Nat.succ_ne_zero _) rfl) ?_
  refine TL.cons rfl (Step.load_box (c := .d (.int .i64 a.f1)) rfl rfl (lt_ok rfl) (by kernel_rfl) rfl rfl rfl) ?_
  refine TL.cons rfl (Step.fieldAddr (q := 0) (off := 1) (n := 1) (one := true) rfl rfl (lt_ok rfl) (by kernel_rfl) (Nat.succ_ne_zero _) rfl) ?_
  refine TL.cons rfl (Step.load_box (c := .d (.int .i64 b.f1)) rfl rfl (lt_ok rfl) (by kernel_rfl) rfl rfl rfl) ?_
  refine TL.cons rfl (Step.bin rfl rfl (lt_ok rfl) rfl rfl (Bin.neq (k := .i64) (a := a.f1) (b := b.f1))) ?_
  refine TL.nil ?_
  refine T.cond (b := decide (a.f1 ≠ b.f1)) rfl (fun h2 => ?_) (fun h2 => ?_)
  ·
   replace h2 := of_decide_eq_true h2
   refine T.seq ?_
   refine T.region ?_
   refine TL.cons rfl (Step.assign (p := (.one (.d (.bool false)))) rfl rfl (lt_ok rfl) rfl) ?_
   refine TL.nil ?_
   refine T.ret ?_
   refine ⟨[(false, [.d (.bool false)])], (.cons rfl .nil), rfl, [], (RetC.rd' ?_ .nil)⟩ <;> ((congr 1; symm; first | (apply decide_eq_false; rintro rfl; first | exact absurd rfl ‹¬ _ = _› | contradiction) | (apply decide_eq_true; apply SHead.ext <;> first | assumption | exact Decidable.not_not.1 (by assumption))))
  ·
   replace h2 := of_decide_eq_false h2
   refine T.skip ?_
   refine T.seq ?_
   refine T.seq ?_
   refine T.region ?_
   refine TL.cons rfl (Step.fieldAddr (q := 0) (off := 2) (n := 1) (one := true) rfl rfl (lt_ok rfl) (by kernel_rfl) (Nat.succ_ne_zero _) rfl) ?_
   refine TL.cons rfl (Step.load_box (c := .d (.int .i64 a.f2)) rfl rfl (lt_ok rfl) (by kernel_rfl) rfl rfl rfl) ?_
   refine TL.cons rfl (Step.fieldAddr (q := 0) (off := 2) (n := 1) (one := true) rfl rfl (lt_ok rfl) (by kernel_rfl) (Nat.succ_ne_zero _) rfl) ?_
   refine TL.cons rfl (Step.load_box (c := .d (.int .i64 b.f2)) rfl rfl (lt_ok rfl) (by kernel_rfl) rfl rfl rfl) ?_
   refine TL.cons rfl (Step.bin rfl rfl (lt_ok rfl) rfl rfl (Bin.neq (k := .i64) (a := a.f2) (b := b.f2))) ?_
   refine TL.nil ?_
   refine T.cond (b := decide (a.f2 ≠ b.f2)) rfl (fun h3 => ?_) (fun h3 => ?_)
   ·
    replace h3 := of_decide_eq_true h3
    refine T.seq ?_
    refine T.region ?_
    refine TL.cons rfl (Step.assign (p := (.one (.d (.bool false)))) rfl rfl (lt_ok rfl) rfl) ?_
    refine TL.nil ?_
    refine T.ret ?_
    refine ⟨[(false, [.d (.bool false)])], (.cons rfl .nil), rfl, [], (RetC.rd' ?_ .nil)⟩ <;> ((congr 1; symm; first | (apply decide_eq_false; rintro rfl; first | exact absurd rfl ‹¬ _ = _› | contradiction) | (apply decide_eq_true; apply SHead.ext <;> first | assumption | exact Decidable.not_not.1 (by assumption))))
   ·
    replace h3 := of_decide_eq_false h3
    refine T.skip ?_
    refine T.seq ?_
    refine T.seq ?_
    refine T.region ?_
    refine TL.cons rfl (Step.fieldAddr (q := 0) (off := 3) (n := 1) (one := true) rfl rfl (lt_ok rfl) (by kernel_rfl) (Nat.succ_ne_zero _) rfl) ?_
    refine TL.cons rfl (Step.load_box (c := .d (.ints .u8 a.f3)) rfl rfl (lt_ok rfl) (by kernel_rfl) rfl rfl rfl) ?_
    refine TL.cons rfl (Step.fieldAddr (q := 0) (off := 3) (n := 1) (one := true) rfl rfl (lt_ok rfl) (by kernel_rfl) (Nat.succ_ne_zero _) rfl) ?_
    refine TL.cons rfl (Step.load_box (c := .d (.ints .u8 b.f3)) rfl rfl (lt_ok rfl) (by kernel_rfl) rfl rfl rfl) ?_
    refine TL.cons rfl (Step.call (f := 21) (xs := [.tmp 21, .tmp 23]) (ps := [(.one (.d (.ints .u8 a.f3))), (.one (.d (.ints .u8 b.f3)))]) false (g := .func 21) rfl rfl (lt_ok rfl) rfl (by kernel_rfl) rfl (.cons (.one (.d _)) (.cons (.one (.d _)) .nil)) (ok_laws_eqByteS a.f3 b.f3) (.inr rfl) rfl (by simp) rfl) ?_
    refine TL.cons rfl (Step.not (b := (decide (a.f3 = b.f3))) rfl rfl (lt_ok rfl) rfl) ?_
    refine TL.nil ?_
    refine T.cond (b := !(decide (a.f3 = b.f3))) rfl (fun h4 => ?_) (fun h4 => ?_)
    ·
     replace h4 : (decide (a.f3 = b.f3)) = false := by simpa only [Bool.not_eq_true', Bool.not_eq_false'] using h4
     replace h4 := of_decide_eq_false h4
     refine T.seq ?_
     refine T.region ?_
     refine TL.cons rfl (Step.assign (p := (.one (.d (.bool false)))) rfl rfl (lt_ok rfl) rfl) ?_
     refine TL.nil ?_
     refine T.ret ?_
     refine ⟨[(false, [.d (.bool false)])], (.cons rfl .nil), rfl, [], (RetC.rd' ?_ .nil)⟩ <;> ((congr 1; symm; first | (apply decide_eq_false; rintro rfl; first | exact absurd rfl ‹¬ _ = _› | contradiction) | (apply decide_eq_true; apply SHead.ext <;> first | assumption | exact Decidable.not_not.1 (by assumption))))
    ·
     replace h4 : (decide (a.f3 = b.f3)) = true := by simpa only [Bool.not_eq_true', Bool.not_eq_false'] using h4
     replace h4 := of_decide_eq_true h4
     refine T.skip ?_
     refine T.seq ?_
     refine T.seq ?_
     refine T.region ?_
     refine TL.cons rfl (Step.fieldAddr (q := 0) (off := 4) (n := 1) (one := true) rfl rfl (lt_ok rfl) (by kernel_rfl) (Nat.succ_ne_zero _) rfl) ?_
     refine TL.cons rfl (Step.load_box (c := .d (.ints .u8 a.f4)) rfl rfl (lt_ok rfl) (by kernel_rfl) rfl rfl rfl) ?_
     refine TL.cons rfl (Step.fieldAddr (q := 0) (off := 4) (n := 1) (one := true) rfl rfl (lt_ok rfl) (by kernel_rfl) (Nat.succ_ne_zero _) rfl) ?_
     refine TL.cons rfl (Step.load_box (c := .d (.ints .u8 b.f4)) rfl rfl (lt_ok rfl) (by kernel_rfl) rfl rfl rfl) ?_
     refine TL.cons rfl (Step.call (f := 21) (xs := [.tmp 27, .tmp 29]) (ps := [(.one (.d (.ints .u8 a.f4))), (.one (.d (.ints .u8 b.f4)))]) false (g := .func 21) rfl rfl (lt_ok rfl) rfl (by kernel_rfl) rfl (.cons (.one (.d _)) (.cons (.one (.d _)) .nil)) (ok_laws_eqByteS a.f4 b.f4) (.inr rfl) rfl (by simp) rfl) ?_
     refine TL.cons rfl (Step.not (b := (decide (a.f4 = b.f4))) rfl rfl (lt_ok rfl) rfl) ?_
     refine TL.nil ?_
     refine T.cond (b := !(decide (a.f4 = b.f4))) rfl (fun h5 => ?_) (fun h5 => ?_)
     ·
      replace h5 : (decide (a.f4 = b.f4)) = false := by simpa only [Bool.not_eq_true', Bool.not_eq_false'] using h5
      replace h5 := of_decide_eq_false h5
      refine T.seq ?_
      refine T.region ?_
      refine TL.cons rfl (Step.assign (p := (.one (.d (.bool false)))) rfl rfl (lt_ok rfl) rfl) ?_
      refine TL.nil ?_
      refine T.ret ?_
      refine ⟨[(false, [.d (.bool false)])], (.cons rfl .nil), rfl, [], (RetC.rd' ?_ .nil)⟩ <;> ((congr 1; symm; first | (apply decide_eq_false; rintro rfl; first | exact absurd rfl ‹¬ _ = _› | contradiction) | (apply decide_eq_true; apply SHead.ext <;> first | assumption | exact Decidable.not_not.1 (by assumption))))
     ·
      replace h5 : (decide (a.f4 = b.f4)) = true := by simpa only [Bool.not_eq_true', Bool.not_eq_false'] using h5
      replace h5 := of_decide_eq_true h5
      refine T.skip ?_
      refine T.seq ?_
      refine T.seq ?_
      refine T.region ?_
      refine TL.cons rfl (Step.fieldAddr (q := 0) (off := 5) (n := 5) (one := false) rfl rfl (lt_ok rfl) (by kernel_rfl) (Nat.succ_ne_zero _) rfl) ?_
      refine TL.cons rfl (Step.load_box_agg (n := 5) (qs := [.d (.int .i64 a.f5.f0), .d (.int .i64 a.f5.f1), .d (.ints .u8 a.f5.f2), .d (.ints .u8 a.f5.f3), .d (.bss a.f5.f4)]) rfl rfl (lt_ok rfl) (by kernel_rfl) rfl rfl rfl rfl) ?_
      refine TL.cons rfl (Step.fieldAddr (q := 0) (off := 5) (n := 5) (one := false) rfl rfl (lt_ok rfl) (by kernel_rfl) (Nat.succ_ne_zero _) rfl) ?_
      refine TL.cons rfl (Step.load_box_agg (n := 5) (qs := [.d (.int .i64 b.f5.f0), .d (.int .i64 b.f5.f1), .d (.ints .u8 b.f5.f2), .d (.ints .u8 b.f5.f3), .d (.bss b.f5.f4)]) rfl rfl (lt_ok rfl) (by kernel_rfl) rfl rfl rfl rfl) ?_
      refine TL.cons rfl (Step.call (f := 34) (xs := [.tmp 33, .tmp 35]) (ps := [(.agg [.d (.int .i64 a.f5.f0), .d (.int .i64 a.f5.f1), .d (.ints .u8 a.f5.f2), .d (.ints .u8 a.f5.f3), .d (.bss a.f5.f4)]), (.agg [.d (.int .i64 b.f5.f0), .d (.int .i64 b.f5.f1), .d (.ints .u8 b.f5.f2), .d (.ints .u8 b.f5.f3), .d (.bss b.f5.f4)])]) false (g := .func 34) rfl rfl (lt_ok rfl) rfl (by kernel_rfl) rfl (.cons (.agg (.cons (.d _) (.cons (.d _) (.cons (.d _) (.cons (.d _) (.cons (.d _) .nil)))))) (.cons (.agg (.cons (.d _) (.cons (.d _) (.cons (.d _) (.cons (.d _) (.cons (.d _) .nil)))))) .nil)) (ok_laws_eqQc a.f5 b.f5) (.inr rfl) rfl (by simp) rfl) ?_
      refine TL.cons rfl (Step.not (b := (decide (a.f5 = b.f5))) rfl rfl (lt_ok rfl) rfl) ?_
      refine TL.nil ?_
      refine T.weaken (E' := { tm := [(4, (.one (.d (.bool false)))), (37, (.one (.d (.bool (!(decide (a.f5 = b.f5)))))))], rows := [], boxes := [] }) (Env.le_mk ⟨by kernel_rfl, by kernel_rfl, trivial⟩ trivial trivial) ?_
      refine T.cond (b := !(decide (a.f5 = b.f5))) rfl (fun h6 => ?_) (fun h6 => ?_)
      ·
       replace h6 : (decide (a.f5 = b.f5)) = false := by simpa only [Bool.not_eq_true', Bool.not_eq_false'] using h6
       replace h6 := of_decide_eq_false h6
       refine T.seq ?_
       refine T.region ?_
       refine TL.cons rfl (Step.assign (p := (.one (.d (.bool false)))) rfl rfl (lt_ok rfl) rfl) ?_
       refine TL.nil ?_
       refine T.ret ?_
       refine ⟨[(false, [.d (.bool false)])], (.cons rfl .nil), rfl, [], (RetC.rd' ?_ .nil)⟩ <;> ((congr 1; symm; first | (apply decide_eq_false; rintro rfl; first | exact absurd rfl ‹¬ _ = _› | contradiction) | (apply decide_eq_true; apply SHead.ext <;> first | assumption | exact Decidable.not_not.1 (by assumption))))
      ·
       replace h6 : (decide (a.f5 = b.f5)) = true := by simpa only [Bool.not_eq_true', Bool.not_eq_false'] using h6
       replace h6 := of_decide_eq_true h6
       refine T.skip ?_
       refine T.seq ?_
       refine T.region ?_
       refine TL.cons rfl (Step.assign (p := (.one (.d (.bool true)))) rfl rfl (lt_ok rfl) rfl) ?_
       refine TL.nil ?_
       refine T.ret ?_
       refine ⟨[(false, [.d (.bool true)])], (.cons rfl .nil), rfl, [], (RetC.rd' ?_ .nil)⟩ <;> ((congr 1; symm; first | (apply decide_eq_false; rintro rfl; first | exact absurd rfl ‹¬ _ = _› | contradiction) | (apply decide_eq_true; apply SHead.ext <;> first | assumption | exact Decidable.not_not.1 (by assumption))))
theorem ok_laws_eqHeadS (a : List SHead) (b : List SHead) : RO Try.prog 80 [.one (.sl 10 (a.map SHead.cells)), .one (.sl 10 (b.map SHead.cells))] [(false, [.rd (.bool (decide (a = b)))])] := by
 refine RO.intro Try.func80 rfl 27 rfl (le_ok rfl) fun w Z => ?_
 refine T.bnd 0 0 rfl rfl fun hb_0_0 => ?_
 simp only [D.size, List.length_map] at hb_0_0
 refine T.bnd 1 0 rfl rfl fun hb_1_0 => ?_
 simp only [D.size, List.length_map] at hb_1_0
 refine T.seq ?_
 refine T.region ?_
 refine TL.cons rfl (Step.assign (p := (.one (.d (.bool false)))) rfl rfl (lt_ok rfl) rfl) ?_
 refine TL.nil ?_
 refine T.seq ?_
 refine T.seq ?_
 refine T.region ?_
 refine TL.cons rfl (Step.move (p := (.one (.d (.sl 10 (a.map SHead.cells))))) rfl rfl (lt_ok rfl) rfl) ?_
 refine TL.cons rfl (Step.len' (e := 54) (z := 10) (d := (.sl 10 (a.map SHead.cells))) (n := a.length) rfl rfl (lt_ok rfl) (by kernel_rfl) rfl rfl (by simp [D.size])) ?_
 refine TL.cons rfl (Step.move (p := (.one (.d (.sl 10 (b.map SHead.cells))))) rfl rfl (lt_ok rfl) rfl) ?_
 refine TL.cons rfl (Step.len' (e := 54) (z := 10) (d := (.sl 10 (b.map SHead.cells))) (n := b.length) rfl rfl (lt_ok rfl) (by kernel_rfl) rfl rfl (by simp [D.size])) ?_
 refine TL.cons rfl (Step.bin rfl rfl (lt_ok rfl) rfl rfl (Bin.neq (k := .i64) (a := (a.length : Int)) (b := (b.length : Int)))) ?_
 refine TL.nil ?_
 refine T.cond (b := decide ((a.length : Int) ≠ (b.length : Int))) rfl (fun h1 => ?_) (fun h1 => ?_)
 ·
  replace h1 := of_decide_eq_true h1
  refine T.seq ?_
  refine T.region ?_
  refine TL.cons rfl (Step.assign (p := (.one (.d (.bool false)))) rfl rfl (lt_ok rfl) rfl) ?_
  refine TL.nil ?_
  refine T.ret ?_
  refine ⟨[(false, [.d (.bool false)])], (.cons rfl .nil), rfl, [], (RetC.rd' ?_ .nil)⟩ <;> ((congr 1; symm; first | (apply decide_eq_false; rintro rfl; first | exact absurd rfl ‹¬ _ = _› | exact absurd rfl (of_decide_eq_false (by assumption)) | contradiction | simp_all) | (apply decide_eq_true; exact take_all hx2 (by omega) hx3)))
 ·
  replace h1 := of_decide_eq_false h1
  refine T.skip ?_
  refine T.seq ?_
  refine T.seq ?_
  refine T.region ?_
  refine TL.cons rfl (Step.assign (p := (.one (.d (.int .i64 0)))) rfl rfl (lt_ok rfl) rfl) ?_
  refine TL.nil ?_
  refine T.block ?_
  refine T.loop (ι := Nat) (fun xx_ => { tm := [(0, (.one (.d (.sl 10 (a.map SHead.cells))))), (1, (.one (.d (.sl 10 (b.map SHead.cells))))), (5, (.one (.d (.int .i64 (xx_ : Int)))))], rows := [], boxes := [] }) (fun xx_ => xx_ ≤ a.length ∧ a.length = b.length ∧ a.take xx_ = b.take xx_) (fun xx_ => a.length - xx_) 0 ?_ ?_ ?_
  · refine Env.le_mk ⟨rfl, rfl, ?_, trivial⟩ trivial trivial <;> (first | rfl | (simp; done) | (congr 3; omega))
  · (refine ⟨Nat.zero_le _, by omega, by simp⟩)
  ·
   intro i hx
   try dsimp only at hx ⊢
   obtain ⟨hx1, hx2, hx3⟩ := hx
   refine T.seq ?_
   refine T.seq ?_
   refine T.region ?_
   refine TL.cons rfl (Step.move (p := (.one (.d (.int .i64 (i : Int))))) rfl rfl (lt_ok rfl) rfl) ?_
   refine TL.cons rfl (Step.move (p := (.one (.d (.sl 10 (a.map SHead.cells))))) rfl rfl (lt_ok rfl) rfl) ?_
   refine TL.cons rfl (Step.len' (e := 54) (z := 10) (d := (.sl 10 (a.map SHead.cells))) (n := a.length) rfl rfl (lt_ok rfl) (by kernel_rfl) rfl rfl (by simp [D.size])) ?_
   refine TL.cons rfl (Step.bin rfl rfl (lt_ok rfl) rfl rfl (Bin.lss (k := .i64) (a := (i : Int)) (b := (a.length : Int)))) ?_
   refine TL.nil ?_
   refine T.cond (b := decide ((i : Int) < (a.length : Int))) rfl (fun h2 => ?_) (fun h2 => ?_)
   ·
    replace h2 := of_decide_eq_true h2
    refine T.skip ?_
    refine T.seq ?_
    refine T.block ?_
    refine T.seq ?_
    refine T.draw [⟨17, (.one (.d (.sl 10 (a.map SHead.cells)))), []⟩, ⟨18, (.one (.d (.int .i64 (i : Int)))), []⟩, ⟨19, (.one (.eptr (.sl 10 (a.map SHead.cells)) i 0)), []⟩, ⟨20, (.agg [.d (.int .i64 (a.getD i default).f0), .d (.int .i64 (a.getD i default).f1), .d (.int .i64 (a.getD i default).f2), .d (.ints .u8 (a.getD i default).f3), .d (.ints .u8 (a.getD i default).f4), .d (.int .i64 (a.getD i default).f5.f0), .d (.int .i64 (a.getD i default).f5.f1), .d (.ints .u8 (a.getD i default).f5.f2), .d (.ints .u8 (a.getD i default).f5.f3), .d (.bss (a.getD i default).f5.f4)]), []⟩, ⟨21, (.one (.d (.sl 10 (b.map SHead.cells)))), []⟩, ⟨22, (.one (.d (.int .i64 (i : Int)))), []⟩, ⟨23, (.one (.eptr (.sl 10 (b.map SHead.cells)) i 0)), []⟩, ⟨24, (.agg [.d (.int .i64 (b.getD i default).f0), .d (.int .i64 (b.getD i default).f1), .d (.int .i64 (b.getD i default).f2), .d (.ints .u8 (b.getD i default).f3), .d (.ints .u8 (b.getD i default).f4), .d (.int .i64 (b.getD i default).f5.f0), .d (.int .i64 (b.getD i default).f5.f1), .d (.ints .u8 (b.getD i default).f5.f2), .d (.ints .u8 (b.getD i default).f5.f3), .d (.bss (b.getD i default).f5.f4)]), []⟩, ⟨25, (.one (.d (.bool (decide ((a.getD i default) = (b.getD i default)))))), []⟩, ⟨26, (.one (.d (.bool (!(decide ((a.getD i default) = (b.getD i default))))))), []⟩] (by kernel_rfl) (by kernel_rfl) ?_ ?_
    ·
     refine .cons (fun E hA_ => by have g0 := hA_.get 0 (by decide); exact OpStep.plain rfl (Step.move (p := (.one (.d (.sl 10 (a.map SHead.cells))))) (t := 17) rfl rfl (by exact lt_ok rfl) (show Env.ev E (.tmp 0) = _ from g0.trans rfl))) ?_
     refine .cons (fun E hA_ => by have g5 := hA_.get 5 (by decide); exact OpStep.plain rfl (Step.move (p := (.one (.d (.int .i64 (i : Int))))) (t := 18) rfl rfl (by exact lt_ok rfl) (show Env.ev E (.tmp 5) = _ from g5.trans rfl))) ?_
     refine .cons (fun E hA_ => by have g17 := hA_.get 17 (by decide); have g18 := hA_.get 18 (by decide); exact OpStep.plain rfl (Step.index (e := 54) (z := 10) (i := (i : Int)) (t := 19) rfl rfl (by exact lt_ok rfl) (by kernel_rfl) (show Env.ev E (.tmp 17) = _ from g17.trans rfl) rfl rfl (lt_ok rfl) (show Env.ev E (.tmp 18) = _ from g18.trans rfl) (by first | omega | (simp; omega)) (by simp only [D.size]; first | omega | (simp; omega)))) ?_
     refine .cons (fun E hA_ => by have g19 := hA_.get 19 (by decide); exact OpStep.plain rfl (Step.load_agg (n := 10) (cs := [.d (.int .i64 (a.getD i default).f0), .d (.int .i64 (a.getD i default).f1), .d (.int .i64 (a.getD i default).f2), .d (.ints .u8 (a.getD i default).f3), .d (.ints .u8 (a.getD i default).f4), .d (.int .i64 (a.getD i default).f5.f0), .d (.int .i64 (a.getD i default).f5.f1), .d (.ints .u8 (a.getD i default).f5.f2), .d (.ints .u8 (a.getD i default).f5.f3), .d (.bss (a.getD i default).f5.f4)]) (t := 20) rfl rfl (by exact lt_ok rfl) (by kernel_rfl) (show Env.ev E (.tmp 19) = _ from g19.trans rfl) rfl (by simp only [List.range, List.range.loop, List.map_cons, List.map_nil]; rw [cell_map default (by first | omega | (simp; omega)), cell_map default (by first | omega | (simp; omega)), cell_map default (by first | omega | (simp; omega)), cell_map default (by first | omega | (simp; omega)), cell_map default (by first | omega | (simp; omega)), cell_map default (by first | omega | (simp; omega)), cell_map default (by first | omega | (simp; omega)), cell_map default (by first | omega | (simp; omega)), cell_map default (by first | omega | (simp; omega)), cell_map default (by first | omega | (simp; omega))]; rfl))) ?_
     refine .cons (fun E hA_ => by have g1 := hA_.get 1 (by decide); exact OpStep.plain rfl (Step.move (p := (.one (.d (.sl 10 (b.map SHead.cells))))) (t := 21) rfl rfl (by exact lt_ok rfl) (show Env.ev E (.tmp 1) = _ from g1.trans rfl))) ?_
     refine .cons (fun E hA_ => by have g5 := hA_.get 5 (by decide); exact OpStep.plain rfl (Step.move (p := (.one (.d (.int .i64 (i : Int))))) (t := 22) rfl rfl (by exact lt_ok rfl) (show Env.ev E (.tmp 5) = _ from g5.trans rfl))) ?_
     refine .cons (fun E hA_ => by have g21 := hA_.get 21 (by decide); have g22 := hA_.get 22 (by decide); exact OpStep.plain rfl (Step.index (e := 54) (z := 10) (i := (i : Int)) (t := 23) rfl rfl (by exact lt_ok rfl) (by kernel_rfl) (show Env.ev E (.tmp 21) = _ from g21.trans rfl) rfl rfl (lt_ok rfl) (show Env.ev E (.tmp 22) = _ from g22.trans rfl) (by first | omega | (simp; omega)) (by simp only [D.size]; first | omega | (simp; omega)))) ?_
     refine .cons (fun E hA_ => by have g23 := hA_.get 23 (by decide); exact OpStep.plain rfl (Step.load_agg (n := 10) (cs := [.d (.int .i64 (b.getD i default).f0), .d (.int .i64 (b.getD i default).f1), .d (.int .i64 (b.getD i default).f2), .d (.ints .u8 (b.getD i default).f3), .d (.ints .u8 (b.getD i default).f4), .d (.int .i64 (b.getD i default).f5.f0), .d (.int .i64 (b.getD i default).f5.f1), .d (.ints .u8 (b.getD i default).f5.f2), .d (.ints .u8 (b.getD i default).f5.f3), .d (.bss (b.getD i default).f5.f4)]) (t := 24) rfl rfl (by exact lt_ok rfl) (by kernel_rfl) (show Env.ev E (.tmp 23) = _ from g23.trans rfl) rfl (by simp only [List.range, List.range.loop, List.map_cons, List.map_nil]; rw [cell_map default (by first | omega | (simp; omega)), cell_map default (by first | omega | (simp; omega)), cell_map default (by first | omega | (simp; omega)), cell_map default (by first | omega | (simp; omega)), cell_map default (by first | omega | (simp; omega)), cell_map default (by first | omega | (simp; omega)), cell_map default (by first | omega | (simp; omega)), cell_map default (by first | omega | (simp; omega)), cell_map default (by first | omega | (simp; omega)), cell_map default (by first | omega | (simp; omega))]; rfl))) ?_
     refine .cons (fun E hA_ => by have g20 := hA_.get 20 (by decide); have g24 := hA_.get 24 (by decide); exact OpStep.plain rfl (Step.call (f := 39) (xs := [.tmp 20, .tmp 24]) (ps := [(.agg [.d (.int .i64 (a.getD i default).f0), .d (.int .i64 (a.getD i default).f1), .d (.int .i64 (a.getD i default).f2), .d (.ints .u8 (a.getD i default).f3), .d (.ints .u8 (a.getD i default).f4), .d (.int .i64 (a.getD i default).f5.f0), .d (.int .i64 (a.getD i default).f5.f1), .d (.ints .u8 (a.getD i default).f5.f2), .d (.ints .u8 (a.getD i default).f5.f3), .d (.bss (a.getD i default).f5.f4)]), (.agg [.d (.int .i64 (b.getD i default).f0), .d (.int .i64 (b.getD i default).f1), .d (.int .i64 (b.getD i default).f2), .d (.ints .u8 (b.getD i default).f3), .d (.ints .u8 (b.getD i default).f4), .d (.int .i64 (b.getD i default).f5.f0), .d (.int .i64 (b.getD i default).f5.f1), .d (.ints .u8 (b.getD i default).f5.f2), .d (.ints .u8 (b.getD i default).f5.f3), .d (.bss (b.getD i default).f5.f4)])]) false (g := .func 39) (t := 25) rfl rfl (by exact lt_ok rfl) rfl (by kernel_rfl) (evs_cons (show Env.ev E (.tmp 20) = _ from g20.trans rfl) (evs_cons (show Env.ev E (.tmp 24) = _ from g24.trans rfl) (rfl))) (.cons (.agg (.cons (.d _) (.cons (.d _) (.cons (.d _) (.cons (.d _) (.cons (.d _) (.cons (.d _) (.cons (.d _) (.cons (.d _) (.cons (.d _) (.cons (.d _) .nil))))))))))) (.cons (.agg (.cons (.d _) (.cons (.d _) (.cons (.d _) (.cons (.d _) (.cons (.d _) (.cons (.d _) (.cons (.d _) (.cons (.d _) (.cons (.d _) (.cons (.d _) .nil))))))))))) .nil)) (ok_laws_eqHead (a.getD i default) (b.getD i default)) (.inr rfl) (At.freshRows hA_ rfl) (by simp) rfl)) ?_
     refine .cons (fun E hA_ => by have g25 := hA_.get 25 (by decide); exact OpStep.plain rfl (Step.not (b := (decide ((a.getD i default) = (b.getD i default)))) (t := 26) rfl rfl (by exact lt_ok rfl) (show Env.ev E (.tmp 25) = _ from g25.trans rfl))) ?_
     exact .nil _ _
    refine TL.nil ?_
    refine T.cond (b := !(decide ((a.getD i default) = (b.getD i default)))) rfl (fun h3 => ?_) (fun h3 => ?_)
    ·
     replace h3 : (decide ((a.getD i default) = (b.getD i default))) = false := by simpa only [Bool.not_eq_true', Bool.not_eq_false'] using h3
     replace h3 := of_decide_eq_false h3
     refine T.seq ?_
     refine T.region ?_
     refine TL.cons rfl (Step.assign (p := (.one (.d (.bool false)))) rfl rfl (lt_ok rfl) rfl) ?_
     refine TL.nil ?_
     refine T.ret ?_
     refine ⟨[(false, [.d (.bool false)])], (.cons rfl .nil), rfl, [], (RetC.rd' ?_ .nil)⟩ <;> ((congr 1; symm; first | (apply decide_eq_false; rintro rfl; first | exact absurd rfl ‹¬ _ = _› | exact absurd rfl (of_decide_eq_false (by assumption)) | contradiction | simp_all) | (apply decide_eq_true; exact take_all hx2 (by omega) hx3)))
    ·
     replace h3 : (decide ((a.getD i default) = (b.getD i default))) = true := by simpa only [Bool.not_eq_true', Bool.not_eq_false'] using h3
     replace h3 := of_decide_eq_true h3
     refine T.skip ?_
     refine T.region ?_
     refine TL.cons rfl (Step.move (p := (.one (.d (.int .i64 (i : Int))))) rfl rfl (lt_ok rfl) rfl) ?_
     refine TL.cons rfl (Step.bin (r := .int .i64 ((i : Int) + 1)) rfl rfl (lt_ok rfl) rfl rfl (Bin.add (a := (i : Int)) (b := 1) (by first | exact wrap_ok (by first | omega | (simp; omega)) (by first | omega | (simp; omega)) | rfl))) ?_
     refine TL.cons rfl (Step.assign (p := (.one (.d (.int .i64 ((i : Int) + 1))))) rfl rfl (lt_ok rfl) rfl) ?_
     refine TL.nil ?_
     refine ⟨i + 1, by (refine ⟨by omega, hx2, take_step (d := default) hx2 (by omega) hx3 (by first | assumption | exact Decidable.not_not.1 (by assumption) | omega)⟩), by omega, Env.le_mk ⟨rfl, rfl, ?_, trivial⟩ trivial trivial⟩ <;> (first | rfl | (simp; done) | (congr 3; omega))
   ·
    replace h2 := of_decide_eq_false h2
    refine T.exit ?_
    refine T.seq ?_
    refine T.region ?_
    refine TL.cons rfl (Step.assign (p := (.one (.d (.bool true)))) rfl rfl (lt_ok rfl) rfl) ?_
    refine TL.nil ?_
    refine T.ret ?_
    refine ⟨[(false, [.d (.bool true)])], (.cons rfl .nil), rfl, [], (RetC.rd' ?_ .nil)⟩ <;> ((congr 1; symm; first | (apply decide_eq_false; rintro rfl; first | exact absurd rfl ‹¬ _ = _› | exact absurd rfl (of_decide_eq_false (by assumption)) | contradiction | simp_all) | (apply decide_eq_true; exact take_all hx2 (by omega) hx3)))
theorem ok_laws_eqProof (a : SProof) (b : SProof) : RO Try.prog 22 [.agg a.cells, .agg b.cells] [(false, [.rd (.bool (decide (a = b)))])] := by
 refine RO.intro Try.func22 rfl 17 rfl (le_ok rfl) fun w Z => ?_
 refine T.seq ?_
 refine T.region ?_
 refine TL.cons rfl (Step.box (p := (.agg [.d (.sl 10 (a.f0.map SHead.cells)), .d (.int .i64 a.f1.f0), .d (.int .i64 a.f1.f1), .d (.ints .u8 a.f1.f2), .d (.ints .u8 a.f1.f3), .d (.bss a.f1.f4)])) (ps := [.d (.sl 10 (a.f0.map SHead.cells)), .d (.int .i64 a.f1.f0), .d (.int .i64 a.f1.f1), .d (.ints .u8 a.f1.f2), .d (.ints .u8 a.f1.f3), .d (.bss a.f1.f4)]) rfl rfl (lt_ok rfl) rfl rfl rfl rfl rfl) ?_
 refine TL.cons rfl (Step.box (p := (.agg [.d (.sl 10 (b.f0.map SHead.cells)), .d (.int .i64 b.f1.f0), .d (.int .i64 b.f1.f1), .d (.ints .u8 b.f1.f2), .d (.ints .u8 b.f1.f3), .d (.bss b.f1.f4)])) (ps := [.d (.sl 10 (b.f0.map SHead.cells)), .d (.int .i64 b.f1.f0), .d (.int .i64 b.f1.f1), .d (.ints .u8 b.f1.f2), .d (.ints .u8 b.f1.f3), .d (.bss b.f1.f4)]) rfl rfl (lt_ok rfl) rfl rfl rfl rfl rfl) ?_
 refine TL.cons rfl (Step.assign (p := (.one (.d (.bool false)))) rfl rfl (lt_ok rfl) rfl) ?_
 refine TL.nil ?_
 refine T.seq ?_
 refine T.seq ?_
 refine T.region ?_
 refine TL.cons rfl (Step.fieldAddr (q := 0) (off := 0) (n := 1) (one := true) rfl rfl (lt_ok rfl) (by kernel_rfl) (Nat.succ_ne_zero _) rfl) ?_
 refine TL.cons rfl (Step.load_box (c := .d (.sl 10 (a.f0.map SHead.cells))) rfl rfl (lt_ok rfl) (by kernel_rfl) rfl rfl rfl) ?_
 refine TL.cons rfl (Step.fieldAddr (q := 0) (off := 0) (n := 1) (one := true) rfl rfl (lt_ok rfl) (by kernel_rfl) (Nat.succ_ne_zero _) rfl) ?_
 refine TL.cons rfl (Step.load_box (c := .d (.sl 10 (b.f0.map SHead.cells))) rfl rfl (lt_ok rfl) (by kernel_rfl) rfl rfl rfl) ?_
 refine TL.cons rfl (Step.call (f := 80) (xs := [.tmp 6, .tmp 8]) (ps := [(.one (.d (.sl 10 (a.f0.map SHead.cells)))), (.one (.d (.sl 10 (b.f0.map SHead.cells))))]) false (g := .func 80) rfl rfl (lt_ok rfl) rfl (by kernel_rfl) rfl (.cons (.one (.d _)) (.cons (.one (.d _)) .nil)) (ok_laws_eqHeadS a.f0 b.f0) (.inr rfl) rfl (by simp) rfl) ?_
 refine TL.cons rfl (Step.not (b := (decide (a.f0 = b.f0))) rfl rfl (lt_ok rfl) rfl) ?_
 refine TL.nil ?_
 refine T.cond (b := !(decide (a.f0 = b.f0))) rfl (fun h1 => ?_) (fun h1 => ?_)
 ·
  replace h1 : (decide (a.f0 = b.f0)) = false := by simpa only [Bool.not_eq_true', Bool.not_eq_false'] using h1
  replace h1 := of_decide_eq_false h1
  refine T.seq ?_
  refine T.region ?_
  refine TL.cons rfl (Step.assign (p := (.one (.d (.bool false)))) rfl rfl (lt_ok rfl) rfl) ?_
  refine TL.nil ?_
  refine T.ret ?_
  refine ⟨[(false, [.d (.bool false)])], (.cons rfl .nil), rfl, [], (RetC.rd' ?_ .nil)⟩ <;> ((congr 1; symm; first | (apply decide_eq_false; rintro rfl; first | exact absurd rfl ‹¬ _ = _› | contradiction) | (apply decide_eq_true; apply SProof.ext <;> first | assumption | exact Decidable.not_not.1 (by assumption))))
 ·
  replace h1 : (decide (a.f0 = b.f0)) = true := by simpa only [Bool.not_eq_true', Bool.not_eq_false'] using h1
  replace h1 := of_decide_eq_true h1
  refine T.skip ?_
  refine T.seq ?_
  refine T.seq ?_
  refine T.region ?_
  refine TL.cons rfl (Step.fieldAddr (q := 0) (off := 1) (n := 5) (one := false) rfl rfl (lt_ok rfl) (by kernel_rfl) (Nat.succ_ne_zero _) rfl) ?_
  refine TL.cons rfl (Step.load_box_agg (n := 5) (qs := [.d (.int .i64 a.f1.f0), .d (.int .i64 a.f1.f1), .d (.ints .u8 a.f1.f2), .d (.ints .u8 a.f1.f3), .d (.bss a.f1.f4)]) rfl rfl (lt_ok rfl) (by kernel_rfl) rfl rfl rfl rfl) ?_
  refine TL.cons rfl (Step.fieldAddr (q := 0) (off := 1) (n := 5) (one := false) rfl rfl (lt_ok rfl) (by kernel_rfl) (Nat.succ_ne_zero _) rfl) ?_
  refine TL.cons rfl (Step.load_box_agg (n := 5) (qs := [.d (.int .i64 b.f1.f0), .d (.int .i64 b.f1.f1), .d (.ints .u8 b.f1.f2), .d (.ints .u8 b.f1.f3), .d (.bss b.f1.f4)]) rfl rfl (lt_ok rfl) (by kernel_rfl) rfl rfl rfl rfl) ?_
  refine TL.cons rfl (Step.call (f := 34) (xs := [.tmp 12, .tmp 14]) (ps := [(.agg [.d (.int .i64 a.f1.f0), .d (.int .i64 a.f1.f1), .d (.ints .u8 a.f1.f2), .d (.ints .u8 a.f1.f3), .d (.bss a.f1.f4)]), (.agg [.d (.int .i64 b.f1.f0), .d (.int .i64 b.f1.f1), .d (.ints .u8 b.f1.f2), .d (.ints .u8 b.f1.f3), .d (.bss b.f1.f4)])]) false (g := .func 34) rfl rfl (lt_ok rfl) rfl (by kernel_rfl) rfl (.cons (.agg (.cons (.d _) (.cons (.d _) (.cons (.d _) (.cons (.d _) (.cons (.d _) .nil)))))) (.cons (.agg (.cons (.d _) (.cons (.d _) (.cons (.d _) (.cons (.d _) (.cons (.d _) .nil)))))) .nil)) (ok_laws_eqQc a.f1 b.f1) (.inr rfl) rfl (by simp) rfl) ?_
  refine TL.cons rfl (Step.not (b := (decide (a.f1 = b.f1))) rfl rfl (lt_ok rfl) rfl) ?_
  refine TL.nil ?_
  refine T.cond (b := !(decide (a.f1 = b.f1))) rfl (fun h2 => ?_) (fun h2 => ?_)
  ·
   replace h2 : (decide (a.f1 = b.f1)) = false := by simpa only [Bool.not_eq_true', Bool.not_eq_false'] using h2
   replace h2 := of_decide_eq_false h2
   refine T.seq ?_
   refine T.region ?_
   refine TL.cons rfl (Step.assign (p := (.one (.d (.bool false)))) rfl rfl (lt_ok rfl) rfl) ?_
   refine TL.nil ?_
   refine T.ret ?_
   refine ⟨[(false, [.d (.bool false)])], (.cons rfl .nil), rfl, [], (RetC.rd' ?_ .nil)⟩ <;> ((congr 1; symm; first | (apply decide_eq_false; rintro rfl; first | exact absurd rfl ‹¬ _ = _› | contradiction) | (apply decide_eq_true; apply SProof.ext <;> first | assumption | exact Decidable.not_not.1 (by assumption))))
  ·
   replace h2 : (decide (a.f1 = b.f1)) = true := by simpa only [Bool.not_eq_true', Bool.not_eq_false'] using h2
   replace h2 := of_decide_eq_true h2
   refine T.skip ?_
   refine T.seq ?_
   refine T.region ?_
   refine TL.cons rfl (Step.assign (p := (.one (.d (.bool true)))) rfl rfl (lt_ok rfl) rfl) ?_
   refine TL.nil ?_
   refine T.ret ?_
   refine ⟨[(false, [.d (.bool true)])], (.cons rfl .nil), rfl, [], (RetC.rd' ?_ .nil)⟩ <;> ((congr 1; symm; first | (apply decide_eq_false; rintro rfl; first | exact absurd rfl ‹¬ _ = _› | contradiction) | (apply decide_eq_true; apply SProof.ext <;> first | assumption | exact Decidable.not_not.1 (by assumption))))
theorem ok_laws_markByteS (a : List Int) (k : Int) (h0_ : 0 ≤ k) (h1_ : k + (a.length : Int) ≤ 4611686018427387904) : MK Try.prog 23 [.one (.mk (.ints .u8 a) (.ints .u8 (mkB a k))), .one (.rd (.int .i64 k))] [(false, [.rd (.int .i64 (k + (a.length : Int)))])] := by
 refine MK.intro Try.func23 rfl 20 rfl (le_ok rfl) (le_ok rfl) rfl fun w Z IX pin Ts hp => ?_
 refine T.bndRow 900 rfl fun hb_900 => ?_
 simp only [D.size, List.length_map] at hb_900
 refine T.seq ?_
 refine T.region ?_
 refine TL.cons rfl (Step.assign (p := (.one (.d (.int .i64 0)))) rfl rfl (lt_ok rfl) rfl) ?_
 refine TL.nil ?_
 refine T.seq ?_
 refine T.seq ?_
 refine T.region ?_
 refine TL.cons rfl (Step.assign (p := (.one (.d (.int .i64 0)))) rfl rfl (lt_ok rfl) rfl) ?_
 refine TL.nil ?_
 refine T.block ?_
 refine T.loop (ι := Nat) (fun xx_ => { tm := [(0, (.one (.row 900 []))), (4, (.one (.d (.int .i64 0)))), (5, (.one (.d (.int .i64 (xx_ : Int))))), (1, (.one (.d (.int .i64 (k + (xx_ : Int))))))], rows := [(900, ((Ts 0), (.ints .u8 (upTo (fun _ => 1) (fun _ k => k % 256) a k xx_))))], boxes := [] }) (fun xx_ => xx_ ≤ a.length) (fun xx_ => a.length - xx_) 0 ?_ ?_ ?_
 · refine Env.le_mk ⟨rfl, rfl, ?_, ?_, trivial⟩ ⟨?_, trivial⟩ trivial <;> (first | exact congrArg (fun x => some (Ts 0, D.ints .u8 x)) (upTo_set (df := 0) (by omega) (by simp only [cntL_one_take a i (by omega)])) | exact congrArg (fun x => some (Ts 0, D.ints .u8 x)) (upTo_zero _ _).symm | rfl | (refine congrArg (fun n => PV.one (.d (.int .i64 n))) ?_; first | omega | (simp; done) | (simp [cntL]; done)))
 · exact Nat.zero_le _
 ·
  intro i hx
  try dsimp only at hx ⊢
  refine T.seq ?_
  refine T.seq ?_
  refine T.region ?_
  refine TL.cons rfl (Step.move (p := (.one (.d (.int .i64 (i : Int))))) rfl rfl (lt_ok rfl) rfl) ?_
  refine TL.cons rfl (Step.move (p := (.one (.row 900 []))) rfl rfl (lt_ok rfl) rfl) ?_
  refine TL.cons rfl (Step.len' (e := 5) (z := 1) (d := (.ints .u8 (upTo (fun _ => 1) (fun _ k => k % 256) a k i))) (n := a.length) rfl rfl (lt_ok rfl) (by kernel_rfl) rfl rfl (by simp [D.size, upTo_length])) ?_
  refine TL.cons rfl (Step.bin rfl rfl (lt_ok rfl) rfl rfl (Bin.lss (k := .i64) (a := (i : Int)) (b := (a.length : Int)))) ?_
  refine TL.nil ?_
  refine T.cond (b := decide ((i : Int) < (a.length : Int))) rfl (fun h1 => ?_) (fun h1 => ?_)
  ·
   replace h1 := of_decide_eq_true h1
   refine T.skip ?_
   refine T.seq ?_
   refine T.block ?_
   refine T.seq ?_
   refine T.region ?_
   refine TL.cons rfl (Step.move (p := (.one (.row 900 []))) rfl rfl (lt_ok rfl) rfl) ?_
   refine TL.cons rfl (Step.move (p := (.one (.d (.int .i64 (i : Int))))) rfl rfl (lt_ok rfl) rfl) ?_
   refine TL.cons rfl (Step.move (p := (.one (.d (.int .i64 (k + (i : Int)))))) rfl rfl (lt_ok rfl) rfl) ?_
   refine TL.cons rfl (Step.conv (c := ((k + (i : Int)) % 256)) rfl rfl (lt_ok rfl) (by kernel_rfl) (by kernel_rfl) rfl (wrap_byte _)) ?_
   refine TL.cons rfl (Step.index_row (d := (.ints .u8 (upTo (fun _ => 1) (fun _ k => k % 256) a k i))) (e := 5) (z := 1) (i := (i : Int)) rfl rfl (lt_ok rfl) (by kernel_rfl) rfl rfl rfl rfl (lt_ok rfl) rfl (by first | omega | (simp; omega)) (by simp only [D.at_, D.cell, D.size, List.length_set, List.length_map, upTo_length]; first | omega | (simp; omega))) ?_
   refine TL.cons rfl (Step.store_row (n := 1) (p := (.one (.d (.int .u8 ((k + (i : Int)) % 256))))) (ps := [.d (.int .u8 ((k + (i : Int)) % 256))]) (es := [(.int .u8 ((k + (i : Int)) % 256))]) (ss := []) (d1 := (.ints .u8 ((upTo (fun _ => 1) (fun _ k => k % 256) a k i).set i ((k + (i : Int)) % 256)))) (d' := (.ints .u8 ((upTo (fun _ => 1) (fun _ k => k % 256) a k i).set i ((k + (i : Int)) % 256)))) rfl rfl (by kernel_rfl) rfl rfl rfl rfl rfl rfl (.val rfl .nil) (by simp) (Putd.one rfl trivial rfl (by simp only [D.at_, D.size, List.length_set, upTo_length]; first | omega | (simp; omega)) (lt_ok rfl)) rfl) ?_
   refine TL.nil ?_
   refine T.region ?_
   refine TL.cons rfl (Step.move (p := (.one (.d (.int .i64 (k + (i : Int)))))) rfl rfl (lt_ok rfl) rfl) ?_
   refine TL.cons rfl (Step.bin (r := .int .i64 ((k + (i : Int)) + 1)) rfl rfl (lt_ok rfl) rfl rfl (Bin.add (a := (k + (i : Int))) (b := 1) (by first | exact wrap_ok (by first | omega | (simp; omega)) (by first | omega | (simp; omega)) | rfl))) ?_
   refine TL.cons rfl (Step.assign (p := (.one (.d (.int .i64 ((k + (i : Int)) + 1))))) rfl rfl (lt_ok rfl) rfl) ?_
   refine TL.nil ?_
   refine T.region ?_
   refine TL.cons rfl (Step.move (p := (.one (.d (.int .i64 (i : Int))))) rfl rfl (lt_ok rfl) rfl) ?_
   refine TL.cons rfl (Step.bin (r := .int .i64 ((i : Int) + 1)) rfl rfl (lt_ok rfl) rfl rfl (Bin.add (a := (i : Int)) (b := 1) (by first | exact wrap_ok (by first | omega | (simp; omega)) (by first | omega | (simp; omega)) | rfl))) ?_
   refine TL.cons rfl (Step.assign (p := (.one (.d (.int .i64 ((i : Int) + 1))))) rfl rfl (lt_ok rfl) rfl) ?_
   refine TL.nil ?_
   refine ⟨i + 1, by omega, by first | omega | (dsimp only; omega), Env.le_mk ⟨rfl, rfl, ?_, ?_, trivial⟩ ⟨?_, trivial⟩ trivial⟩ <;> (first | exact congrArg (fun x => some (Ts 0, D.ints .u8 x)) (upTo_set (df := 0) (by omega) (by simp only [cntL_one_take a i (by omega)])) | exact congrArg (fun x => some (Ts 0, D.ints .u8 x)) (upTo_zero _ _).symm | rfl | (refine congrArg (fun n => PV.one (.d (.int .i64 n))) ?_; first | omega | (simp; done) | (simp [cntL]; done)))
  ·
   replace h1 := of_decide_eq_false h1
   refine T.exit ?_
   refine T.seq ?_
   refine T.region ?_
   refine TL.cons rfl (Step.move (p := (.one (.d (.int .i64 (k + (i : Int)))))) rfl rfl (lt_ok rfl) rfl) ?_
   refine TL.cons rfl (Step.assign (p := (.one (.d (.int .i64 (k + (i : Int)))))) rfl rfl (lt_ok rfl) rfl) ?_
   refine TL.nil ?_
   refine T.ret ?_
   refine ⟨⟨⟨[(false, [.d (.int .i64 (k + (i : Int)))])], (.cons rfl .nil), rfl, [], (RetC.rd' ?_ .nil)⟩, rfl⟩, (.mk' (by exact congrArg (fun x => some (Ts 0, D.ints .u8 x)) (upTo_all (by omega))) (.rd .nil'))⟩ <;> ((congr 1; omega))
theorem ok_laws_markByteSS (a : List (List Int)) (k : Int) (h0_ : 0 ≤ k) (h1_ : k + cntL (fun x : List Int => (x.length : Int)) a ≤ 4611686018427387904) : MK Try.prog 63 [.one (.mk (.bss a) (.bss (mkBs a k))), .one (.rd (.int .i64 k))] [(false, [.rd (.int .i64 (k + cntL (fun x : List Int => (x.length : Int)) a))])] := by
 refine MK.intro Try.func63 rfl 19 rfl (le_ok rfl) (le_ok rfl) rfl fun w Z IX pin Ts hp => ?_
 refine T.bndRow 900 rfl fun hb_900 => ?_
 simp only [D.size, List.length_map] at hb_900
 refine T.seq ?_
 refine T.region ?_
 refine TL.cons rfl (Step.assign (p := (.one (.d (.int .i64 0)))) rfl rfl (lt_ok rfl) rfl) ?_
 refine TL.nil ?_
 refine T.seq ?_
 refine T.seq ?_
 refine T.region ?_
 refine TL.cons rfl (Step.assign (p := (.one (.d (.int .i64 0)))) rfl rfl (lt_ok rfl) rfl) ?_
 refine TL.nil ?_
 refine T.block ?_
 refine T.loop (ι := Nat) (fun xx_ => { tm := [(0, (.one (.row 900 []))), (4, (.one (.d (.int .i64 0)))), (5, (.one (.d (.int .i64 (xx_ : Int))))), (1, (.one (.d (.int .i64 (k + cntL (fun x : List Int => (x.length : Int)) (a.take xx_))))))], rows := [(900, ((Ts 0), (.bss ((upTo (fun x : List Int => (x.length : Int)) mkB a k xx_).set xx_ (a.getD xx_ [])))))], boxes := [] }) (fun xx_ => xx_ ≤ a.length) (fun xx_ => a.length - xx_) 0 ?_ ?_ ?_
 · refine Env.le_mk ⟨rfl, rfl, ?_, ?_, trivial⟩ ⟨?_, trivial⟩ trivial <;> (first | exact congrArg (fun x => some (Ts 0, D.bss x)) (upTo_next (df := []) (by omega) rfl) | exact congrArg (fun x => some (Ts 0, D.bss x)) (upTo_first a k []) | rfl | (refine congrArg (fun n => PV.one (.d (.int .i64 n))) ?_; first | omega | (simp; done) | (simp [cntL]; done)))
 · exact Nat.zero_le _
 ·
  intro i hx
  try dsimp only at hx ⊢
  refine T.seq ?_
  refine T.seq ?_
  refine T.region ?_
  refine TL.cons rfl (Step.move (p := (.one (.d (.int .i64 (i : Int))))) rfl rfl (lt_ok rfl) rfl) ?_
  refine TL.cons rfl (Step.move (p := (.one (.row 900 []))) rfl rfl (lt_ok rfl) rfl) ?_
  refine TL.cons rfl (Step.len' (e := 24) (z := 1) (d := (.bss ((upTo (fun x : List Int => (x.length : Int)) mkB a k i).set i (a.getD i [])))) (n := a.length) rfl rfl (lt_ok rfl) (by kernel_rfl) rfl rfl (by simp [D.size, upTo_length])) ?_
  refine TL.cons rfl (Step.bin rfl rfl (lt_ok rfl) rfl rfl (Bin.lss (k := .i64) (a := (i : Int)) (b := (a.length : Int)))) ?_
  refine TL.nil ?_
  refine T.cond (b := decide ((i : Int) < (a.length : Int))) rfl (fun h1 => ?_) (fun h1 => ?_)
  ·
   replace h1 := of_decide_eq_true h1
   have hc1 := cntL_take_le (cnt := (fun x : List Int => (x.length : Int))) (fun x => by omega) a (i + 1)
   have hc2 := cntL_take_succ (cnt := (fun x : List Int => (x.length : Int))) (i := i) [] (show i < a.length by omega)
   have hc3 := cntL_nonneg (cnt := (fun x : List Int => (x.length : Int))) (fun x => by omega) (a.take i)
   try dsimp only at hc2
   refine T.skip ?_
   refine T.seq ?_
   refine T.block ?_
   refine T.region ?_
   refine TL.cons rfl (Step.move (p := (.one (.row 900 []))) rfl rfl (lt_ok rfl) rfl) ?_
   refine TL.cons rfl (Step.move (p := (.one (.d (.int .i64 (i : Int))))) rfl rfl (lt_ok rfl) rfl) ?_
   refine TL.cons rfl (Step.index_row (d := (.bss ((upTo (fun x : List Int => (x.length : Int)) mkB a k i).set i (a.getD i [])))) (e := 24) (z := 1) (i := (i : Int)) rfl rfl (lt_ok rfl) (by kernel_rfl) rfl rfl rfl rfl (lt_ok rfl) rfl (by first | omega | (simp; omega)) (by simp only [D.at_, D.cell, D.size, List.length_set, List.length_map, upTo_length]; first | omega | (simp; omega))) ?_
   refine TL.cons rfl (Step.load_row (d := (.bss ((upTo (fun x : List Int => (x.length : Int)) mkB a k i).set i (a.getD i [])))) (c := .row 900 [(i, 0)]) rfl rfl (lt_ok rfl) (by kernel_rfl) rfl rfl (ofRow_sl (cell_set_bss (by simp only [upTo_length]; first | omega | (simp; omega))) rfl)) ?_
   refine TL.cons rfl (Step.move (p := (.one (.d (.int .i64 (k + cntL (fun x : List Int => (x.length : Int)) (a.take i)))))) rfl rfl (lt_ok rfl) rfl) ?_
   refine TL.cons rfl (Step.callM2 (xs := [.tmp 15, .tmp 16]) (ps := [(.one (.row 900 [(i, 0)])), (.one (.d (.int .i64 (k + cntL (fun x : List Int => (x.length : Int)) (a.take i)))))]) (js := [(900, (.bss ((upTo (fun x : List Int => (x.length : Int)) mkB a k i).set i (mkB (a.getD i []) (k + cntL (fun x : List Int => (x.length : Int)) (a.take i))))))]) (g := .func 23) (ok_laws_markByteS (a.getD i []) (k + cntL (fun x : List Int => (x.length : Int)) (a.take i)) (by omega) (by first | omega | (have := (by assumption); omega))) rfl rfl (lt_ok rfl) rfl (by kernel_rfl) rfl rfl (.row (T := (Ts 0)) (d := (.bss ((upTo (fun x : List Int => (x.length : Int)) mkB a k i).set i (a.getD i [])))) (e' := (.ints .u8 (mkB (a.getD i []) (k + cntL (fun x : List Int => (x.length : Int)) (a.take i))))) (d' := (.bss ((upTo (fun x : List Int => (x.length : Int)) mkB a k i).set i (mkB (a.getD i []) (k + cntL (fun x : List Int => (x.length : Int)) (a.take i)))))) rfl (cell_set_bss (by simp only [upTo_length]; first | omega | (simp; omega))) rfl putAt_bss2 rfl (by simp [D.size]) rfl rfl (.d .nil)) rfl) ?_
   refine TL.cons rfl (Step.assign (p := (.one (.d (.int .i64 ((k + cntL (fun x : List Int => (x.length : Int)) (a.take i)) + ((a.getD i []).length : Int)))))) rfl rfl (lt_ok rfl) rfl) ?_
   refine TL.nil ?_
   refine T.region ?_
   refine TL.cons rfl (Step.move (p := (.one (.d (.int .i64 (i : Int))))) rfl rfl (lt_ok rfl) rfl) ?_
   refine TL.cons rfl (Step.bin (r := .int .i64 ((i : Int) + 1)) rfl rfl (lt_ok rfl) rfl rfl (Bin.add (a := (i : Int)) (b := 1) (by first | exact wrap_ok (by first | omega | (simp; omega)) (by first | omega | (simp; omega)) | rfl))) ?_
   refine TL.cons rfl (Step.assign (p := (.one (.d (.int .i64 ((i : Int) + 1))))) rfl rfl (lt_ok rfl) rfl) ?_
   refine TL.nil ?_
   refine ⟨i + 1, by omega, by first | omega | (dsimp only; omega), Env.le_mk ⟨rfl, rfl, ?_, ?_, trivial⟩ ⟨?_, trivial⟩ trivial⟩ <;> (first | exact congrArg (fun x => some (Ts 0, D.bss x)) (upTo_next (df := []) (by omega) rfl) | exact congrArg (fun x => some (Ts 0, D.bss x)) (upTo_first a k []) | rfl | (refine congrArg (fun n => PV.one (.d (.int .i64 n))) ?_; first | omega | (simp; done) | (simp [cntL]; done)))
  ·
   replace h1 := of_decide_eq_false h1
   refine T.exit ?_
   refine T.seq ?_
   refine T.region ?_
   refine TL.cons rfl (Step.move (p := (.one (.d (.int .i64 (k + cntL (fun x : List Int => (x.length : Int)) (a.take i)))))) rfl rfl (lt_ok rfl) rfl) ?_
   refine TL.cons rfl (Step.assign (p := (.one (.d (.int .i64 (k + cntL (fun x : List Int => (x.length : Int)) (a.take i)))))) rfl rfl (lt_ok rfl) rfl) ?_
   refine TL.nil ?_
   refine T.ret ?_
   refine ⟨⟨⟨[(false, [.d (.int .i64 (k + cntL (fun x : List Int => (x.length : Int)) (a.take i)))])], (.cons rfl .nil), rfl, [], (RetC.rd' ?_ .nil)⟩, rfl⟩, (.mk' (by exact congrArg (fun x => some (Ts 0, D.bss x)) (upTo_end (by omega))) (.rd .nil'))⟩ <;> ((congr 1; rw [cntL_all (by omega)]))
theorem ok_laws_markQc (a : SQc) (k : Int) (h0_ : 0 ≤ k) (h1_ : k + a.cm ≤ 4611686018427387904) : MK Try.prog 35 [.agg [.rd (.int .i64 a.f0), .rd (.int .i64 a.f1), .mk (.ints .u8 a.f2) (.ints .u8 (mkB a.f2 k)), .mk (.ints .u8 a.f3) (.ints .u8 (mkB a.f3 (k + (a.f2.length : Int)))), .mk (.bss a.f4) (.bss (mkBs a.f4 ((k + (a.f2.length : Int)) + (a.f3.length : Int))))], .one (.rd (.int .i64 k))] [(false, [.rd (.int .i64 (k + a.cm))])] := by
 refine MK.intro Try.func35 rfl 18 rfl (le_ok rfl) (le_ok rfl) rfl fun w Z IX pin Ts hp => ?_
 have n4 := cntBs_nonneg a.f4
 simp only [SQc.cm] at h1_
 refine T.seq ?_
 refine T.region ?_
 refine TL.cons rfl (Step.box (p := (.agg [.d (.int .i64 a.f0), .d (.int .i64 a.f1), .row 902 [], .row 903 [], .row 904 []])) (ps := [.d (.int .i64 a.f0), .d (.int .i64 a.f1), .row 902 [], .row 903 [], .row 904 []]) rfl rfl (lt_ok rfl) rfl rfl rfl rfl rfl) ?_
 refine TL.cons rfl (Step.assign (p := (.one (.d (.int .i64 0)))) rfl rfl (lt_ok rfl) rfl) ?_
 refine TL.nil ?_
 refine T.seq ?_
 refine T.region ?_
 refine TL.cons rfl (Step.fieldAddr (q := 0) (off := 2) (n := 1) (one := true) rfl rfl (lt_ok rfl) (by kernel_rfl) (Nat.succ_ne_zero _) rfl) ?_
 refine TL.cons rfl (Step.load_box (c := .row 902 []) rfl rfl (lt_ok rfl) (by kernel_rfl) rfl rfl rfl) ?_
 refine TL.cons rfl (Step.move (p := (.one (.d (.int .i64 k)))) rfl rfl (lt_ok rfl) rfl) ?_
 refine TL.cons rfl (Step.callM2 (xs := [.tmp 6, .tmp 7]) (ps := [(.one (.row 902 [])), (.one (.d (.int .i64 k)))]) (js := [(902, (.ints .u8 (mkB a.f2 k)))]) (g := .func 23) (ok_laws_markByteS a.f2 k (by omega) (by first | omega | (have := (by assumption); omega))) rfl rfl (lt_ok rfl) rfl (by kernel_rfl) rfl rfl (.row (T := (Ts 2)) (d := (.ints .u8 a.f2)) (e' := (.ints .u8 (mkB a.f2 k))) (d' := (.ints .u8 (mkB a.f2 k))) rfl rfl rfl rfl rfl (by simp [D.size, mkL_length]) rfl rfl (.d .nil)) rfl) ?_
 refine TL.cons rfl (Step.assign (p := (.one (.d (.int .i64 (k + (a.f2.length : Int)))))) rfl rfl (lt_ok rfl) rfl) ?_
 refine TL.nil ?_
 refine T.seq ?_
 refine T.region ?_
 refine TL.cons rfl (Step.fieldAddr (q := 0) (off := 3) (n := 1) (one := true) rfl rfl (lt_ok rfl) (by kernel_rfl) (Nat.succ_ne_zero _) rfl) ?_
 refine TL.cons rfl (Step.load_box (c := .row 903 []) rfl rfl (lt_ok rfl) (by kernel_rfl) rfl rfl rfl) ?_
 refine TL.cons rfl (Step.move (p := (.one (.d (.int .i64 (k + (a.f2.length : Int)))))) rfl rfl (lt_ok rfl) rfl) ?_
 refine TL.cons rfl (Step.callM2 (xs := [.tmp 10, .tmp 11]) (ps := [(.one (.row 903 [])), (.one (.d (.int .i64 (k + (a.f2.length : Int)))))]) (js := [(903, (.ints .u8 (mkB a.f3 (k + (a.f2.length : Int)))))]) (g := .func 23) (ok_laws_markByteS a.f3 (k + (a.f2.length : Int)) (by omega) (by first | omega | (have := (by assumption); omega))) rfl rfl (lt_ok rfl) rfl (by kernel_rfl) rfl rfl (.row (T := (Ts 3)) (d := (.ints .u8 a.f3)) (e' := (.ints .u8 (mkB a.f3 (k + (a.f2.length : Int))))) (d' := (.ints .u8 (mkB a.f3 (k + (a.f2.length : Int))))) rfl rfl rfl rfl rfl (by simp [D.size, mkL_length]) rfl rfl (.d .nil)) rfl) ?_
 refine TL.cons rfl (Step.assign (p := (.one (.d (.int .i64 ((k + (a.f2.length : Int)) + (a.f3.length : Int)))))) rfl rfl (lt_ok rfl) rfl) ?_
 refine TL.nil ?_
 refine T.seq ?_
 refine T.region ?_
 refine TL.cons rfl (Step.fieldAddr (q := 0) (off := 4) (n := 1) (one := true) rfl rfl (lt_ok rfl) (by kernel_rfl) (Nat.succ_ne_zero _) rfl) ?_
 refine TL.cons rfl (Step.load_box (c := .row 904 []) rfl rfl (lt_ok rfl) (by kernel_rfl) rfl rfl rfl) ?_
 refine TL.cons rfl (Step.move (p := (.one (.d (.int .i64 ((k + (a.f2.length : Int)) + (a.f3.length : Int)))))) rfl rfl (lt_ok rfl) rfl) ?_
 have nn1 := cntBs_nonneg a.f4
 refine TL.cons rfl (Step.callM2 (xs := [.tmp 14, .tmp 15]) (ps := [(.one (.row 904 [])), (.one (.d (.int .i64 ((k + (a.f2.length : Int)) + (a.f3.length : Int)))))]) (js := [(904, (.bss (mkBs a.f4 ((k + (a.f2.length : Int)) + (a.f3.length : Int)))))]) (g := .func 63) (ok_laws_markByteSS a.f4 ((k + (a.f2.length : Int)) + (a.f3.length : Int)) (by omega) (by first | omega | (have := cntBs_le (xs := a.f4) (by assumption); omega))) rfl rfl (lt_ok rfl) rfl (by kernel_rfl) rfl rfl (.row (T := (Ts 4)) (d := (.bss a.f4)) (e' := (.bss (mkBs a.f4 ((k + (a.f2.length : Int)) + (a.f3.length : Int))))) (d' := (.bss (mkBs a.f4 ((k + (a.f2.length : Int)) + (a.f3.length : Int))))) rfl rfl rfl rfl rfl (by simp [D.size, mkL_length]) rfl rfl (.d .nil)) rfl) ?_
 refine TL.cons rfl (Step.assign (p := (.one (.d (.int .i64 (((k + (a.f2.length : Int)) + (a.f3.length : Int)) + cntL (fun x : List Int => (x.length : Int)) a.f4))))) rfl rfl (lt_ok rfl) rfl) ?_
 refine TL.nil ?_
 refine T.seq ?_
 refine T.region ?_
 refine TL.cons rfl (Step.move (p := (.one (.d (.int .i64 (((k + (a.f2.length : Int)) + (a.f3.length : Int)) + cntL (fun x : List Int => (x.length : Int)) a.f4))))) rfl rfl (lt_ok rfl) rfl) ?_
 refine TL.cons rfl (Step.assign (p := (.one (.d (.int .i64 (((k + (a.f2.length : Int)) + (a.f3.length : Int)) + cntL (fun x : List Int => (x.length : Int)) a.f4))))) rfl rfl (lt_ok rfl) rfl) ?_
 refine TL.nil ?_
 refine T.ret ?_
 refine ⟨⟨⟨[(false, [.d (.int .i64 (((k + (a.f2.length : Int)) + (a.f3.length : Int)) + cntL (fun x : List Int => (x.length : Int)) a.f4))])], (.cons rfl .nil), rfl, [], (RetC.rd' ?_ .nil)⟩, rfl⟩, (.rd (.rd (.mk' (by rfl) (.mk' (by rfl) (.mk' (by rfl) (.rd .nil'))))))⟩ <;> (first | rfl | (congr 1; simp only [SQc.cm]; omega))
theorem ok_laws_markHeadS (a : List SHead) (k : Int) (h0_ : 0 ≤ k) (h1_ : k + cntL SHead.ce a ≤ 4611686018427387904) : MK Try.prog 81 [.one (.mk (.sl 10 (a.map SHead.cells)) (.sl 10 ((mkL SHead.ce SHead.me a k).map SHead.cells))), .one (.rd (.int .i64 k))] [(false, [.rd (.int .i64 (k + cntL SHead.ce a))])] := by
 refine MK.intro Try.func81 rfl 88 rfl (le_ok rfl) (le_ok rfl) rfl fun w Z IX pin Ts hp => ?_
 refine T.bndRow 900 rfl fun hb_900 => ?_
 simp only [D.size, List.length_map] at hb_900
 refine T.seq ?_
 refine T.region ?_
 refine TL.cons rfl (Step.assign (p := (.one (.d (.int .i64 0)))) rfl rfl (lt_ok rfl) rfl) ?_
 refine TL.nil ?_
 refine T.seq ?_
 refine T.seq ?_
 refine T.region ?_
 refine TL.cons rfl (Step.assign (p := (.one (.d (.int .i64 0)))) rfl rfl (lt_ok rfl) rfl) ?_
 refine TL.nil ?_
 refine T.block ?_
 refine T.loop (ι := Nat) (fun xx_ => { tm := [(0, (.one (.row 900 []))), (4, (.one (.d (.int .i64 0)))), (5, (.one (.d (.int .i64 (xx_ : Int))))), (1, (.one (.d (.int .i64 (k + cntL SHead.ce (a.take xx_))))))], rows := [(900, ((Ts 0), (.sl 10 (((upTo SHead.ce SHead.me a k xx_).set xx_ (a.getD xx_ default)).map SHead.cells))))], boxes := [] }) (fun xx_ => xx_ ≤ a.length) (fun xx_ => a.length - xx_) 0 ?_ ?_ ?_
 · refine Env.le_mk ⟨rfl, rfl, ?_, ?_, trivial⟩ ⟨?_, trivial⟩ trivial <;> (first | exact congrArg (fun x => some (Ts 0, D.sl 10 (List.map SHead.cells x))) (upTo_next (df := default) (by omega) rfl) | exact congrArg (fun x => some (Ts 0, D.sl 10 (List.map SHead.cells x))) (upTo_first a k default) | rfl | (refine congrArg (fun n => PV.one (.d (.int .i64 n))) ?_; first | omega | (simp; done) | (simp [cntL]; done)))
 · exact Nat.zero_le _
 ·
  intro i hx
  try dsimp only at hx ⊢
  refine T.seq ?_
  refine T.seq ?_
  refine T.region ?_
  refine TL.cons rfl (Step.move (p := (.one (.d (.int .i64 (i : Int))))) rfl rfl (lt_ok rfl) rfl) ?_
  refine TL.cons rfl (Step.move (p := (.one (.row 900 []))) rfl rfl (lt_ok rfl) rfl) ?_
  refine TL.cons rfl (Step.len' (e := 54) (z := 10) (d := (.sl 10 (((upTo SHead.ce SHead.me a k i).set i (a.getD i default)).map SHead.cells))) (n := a.length) rfl rfl (lt_ok rfl) (by kernel_rfl) rfl rfl (by simp [D.size, upTo_length])) ?_
  refine TL.cons rfl (Step.bin rfl rfl (lt_ok rfl) rfl rfl (Bin.lss (k := .i64) (a := (i : Int)) (b := (a.length : Int)))) ?_
  refine TL.nil ?_
  refine T.cond (b := decide ((i : Int) < (a.length : Int))) rfl (fun h1 => ?_) (fun h1 => ?_)
  ·
   replace h1 := of_decide_eq_true h1
   have hc1 := cntL_take_le (cnt := SHead.ce) SHead.ce_nn a (i + 1)
   have hc2 := cntL_take_succ (cnt := SHead.ce) (i := i) default (show i < a.length by omega)
   have hc3 := cntL_nonneg (cnt := SHead.ce) SHead.ce_nn (a.take i)
   have hc4 : SHead.ce (a.getD i default) = 1 + 1 + 1 + ((a.getD i default).f3.length : Int) + ((a.getD i default).f4.length : Int) + (1 + 1 + ((a.getD i default).f5.f2.length : Int) + ((a.getD i default).f5.f3.length : Int) + cntL (fun x : List Int => (x.length : Int)) (a.getD i default).f5.f4) := rfl
   have hn0 := cntBs_nonneg (a.getD i default).f5.f4
   refine T.skip ?_
   refine T.seq ?_
   refine T.block ?_
   refine T.seq ?_
   refine T.region ?_
   refine TL.cons rfl (Step.move (p := (.one (.row 900 []))) rfl rfl (lt_ok rfl) rfl) ?_
   refine TL.cons rfl (Step.move (p := (.one (.d (.int .i64 (i : Int))))) rfl rfl (lt_ok rfl) rfl) ?_
   refine TL.cons rfl (Step.move (p := (.one (.d (.int .i64 (k + cntL SHead.ce (a.take i)))))) rfl rfl (lt_ok rfl) rfl) ?_
   refine TL.cons rfl (Step.index_row (d := (.sl 10 (((upTo SHead.ce SHead.me a k i).set i (a.getD i default)).map SHead.cells))) (e := 54) (z := 10) (i := (i : Int)) rfl rfl (lt_ok rfl) (by kernel_rfl) rfl rfl rfl rfl (lt_ok rfl) rfl (by first | omega | (simp; omega)) (by simp only [D.at_, D.cell, D.size, List.length_set, List.length_map, upTo_length]; first | omega | (simp; omega))) ?_
   refine TL.cons rfl (Step.fieldAddr_r (d := (.sl 10 (((upTo SHead.ce SHead.me a k i).set i (a.getD i default)).map SHead.cells))) (j := 0) (off := 0) (n := 1) (one := true) rfl rfl (lt_ok rfl) (by kernel_rfl) (Nat.succ_ne_zero _) rfl rfl (lt_ok rfl)) ?_
   refine TL.cons rfl (Step.store_row (n := 1) (p := (.one (.d (.int .i64 (k + cntL SHead.ce (a.take i)))))) (ps := [.d (.int .i64 (k + cntL SHead.ce (a.take i)))]) (es := [(.int .i64 (k + cntL SHead.ce (a.take i)))]) (ss := []) (d1 := (.sl 10 (((upTo SHead.ce SHead.me a k i).set i (⟨k + cntL SHead.ce (a.take i), (a.getD i default).f1, (a.getD i default).f2, (a.getD i default).f3, (a.getD i default).f4, (a.getD i default).f5⟩ : SHead)).map SHead.cells))) (d' := (.sl 10 (((upTo SHead.ce SHead.me a k i).set i (⟨k + cntL SHead.ce (a.take i), (a.getD i default).f1, (a.getD i default).f2, (a.getD i default).f3, (a.getD i default).f4, (a.getD i default).f5⟩ : SHead)).map SHead.cells))) rfl rfl (by kernel_rfl) rfl rfl rfl rfl rfl rfl (.val rfl .nil) (by simp) (Putd.fld2 SHead.len (by simp only [upTo_length]; first | omega | (simp; omega)) (lt_ok rfl) rfl) rfl) ?_
   refine TL.nil ?_
   refine T.seq ?_
   refine T.region ?_
   refine TL.cons rfl (Step.move (p := (.one (.d (.int .i64 (k + cntL SHead.ce (a.take i)))))) rfl rfl (lt_ok rfl) rfl) ?_
   refine TL.cons rfl (Step.bin (r := .int .i64 ((k + cntL SHead.ce (a.take i)) + 1)) rfl rfl (lt_ok rfl) rfl rfl (Bin.add (a := (k + cntL SHead.ce (a.take i))) (b := 1) (by first | exact wrap_ok (by first | omega | (simp; omega)) (by first | omega | (simp; omega)) | rfl))) ?_
   refine TL.cons rfl (Step.assign (p := (.one (.d (.int .i64 ((k + cntL SHead.ce (a.take i)) + 1))))) rfl rfl (lt_ok rfl) rfl) ?_
   refine TL.nil ?_
   refine T.seq ?_
   refine T.region ?_
   refine TL.cons rfl (Step.move (p := (.one (.row 900 []))) rfl rfl (lt_ok rfl) rfl) ?_
   refine TL.cons rfl (Step.move (p := (.one (.d (.int .i64 (i : Int))))) rfl rfl (lt_ok rfl) rfl) ?_
   refine TL.cons rfl (Step.move (p := (.one (.d (.int .i64 ((k + cntL SHead.ce (a.take i)) + 1))))) rfl rfl (lt_ok rfl) rfl) ?_
   refine TL.cons rfl (Step.index_row (d := (.sl 10 (((upTo SHead.ce SHead.me a k i).set i (⟨k + cntL SHead.ce (a.take i), (a.getD i default).f1, (a.getD i default).f2, (a.getD i default).f3, (a.getD i default).f4, (a.getD i default).f5⟩ : SHead)).map SHead.cells))) (e := 54) (z := 10) (i := (i : Int)) rfl rfl (lt_ok rfl) (by kernel_rfl) rfl rfl rfl rfl (lt_ok rfl) rfl (by first | omega | (simp; omega)) (by simp only [D.at_, D.cell, D.size, List.length_set, List.length_map, upTo_length]; first | omega | (simp; omega))) ?_
   refine TL.cons rfl (Step.fieldAddr_r (d := (.sl 10 (((upTo SHead.ce SHead.me a k i).set i (⟨k + cntL SHead.ce (a.take i), (a.getD i default).f1, (a.getD i default).f2, (a.getD i default).f3, (a.getD i default).f4, (a.getD i default).f5⟩ : SHead)).map SHead.cells))) (j := 0) (off := 1) (n := 1) (one := true) rfl rfl (lt_ok rfl) (by kernel_rfl) (Nat.succ_ne_zero _) rfl rfl (lt_ok rfl)) ?_
   refine TL.cons rfl (Step.store_row (n := 1) (p := (.one (.d (.int .i64 ((k + cntL SHead.ce (a.take i)) + 1))))) (ps := [.d (.int .i64 ((k + cntL SHead.ce (a.take i)) + 1))]) (es := [(.int .i64 ((k + cntL SHead.ce (a.take i)) + 1))]) (ss := []) (d1 := (.sl 10 (((upTo SHead.ce SHead.me a k i).set i (⟨k + cntL SHead.ce (a.take i), (k + cntL SHead.ce (a.take i)) + 1, (a.getD i default).f2, (a.getD i default).f3, (a.getD i default).f4, (a.getD i default).f5⟩ : SHead)).map SHead.cells))) (d' := (.sl 10 (((upTo SHead.ce SHead.me a k i).set i (⟨k + cntL SHead.ce (a.take i), (k + cntL SHead.ce (a.take i)) + 1, (a.getD i default).f2, (a.getD i default).f3, (a.getD i default).f4, (a.getD i default).f5⟩ : SHead)).map SHead.cells))) rfl rfl (by kernel_rfl) rfl rfl rfl rfl rfl rfl (.val rfl .nil) (by simp) (Putd.fld2 SHead.len (by simp only [upTo_length]; first | omega | (simp; omega)) (lt_ok rfl) rfl) rfl) ?_
   refine TL.nil ?_
   refine T.seq ?_
   refine T.region ?_
   refine TL.cons rfl (Step.move (p := (.one (.d (.int .i64 ((k + cntL SHead.ce (a.take i)) + 1))))) rfl rfl (lt_ok rfl) rfl) ?_
   refine TL.cons rfl (Step.bin (r := .int .i64 (((k + cntL SHead.ce (a.take i)) + 1) + 1)) rfl rfl (lt_ok rfl) rfl rfl (Bin.add (a := ((k + cntL SHead.ce (a.take i)) + 1)) (b := 1) (by first | exact wrap_ok (by first | omega | (simp; omega)) (by first | omega | (simp; omega)) | rfl))) ?_
   refine TL.cons rfl (Step.assign (p := (.one (.d (.int .i64 (((k + cntL SHead.ce (a.take i)) + 1) + 1))))) rfl rfl (lt_ok rfl) rfl) ?_
   refine TL.nil ?_
   refine T.seq ?_
   refine T.region ?_
   refine TL.cons rfl (Step.move (p := (.one (.row 900 []))) rfl rfl (lt_ok rfl) rfl) ?_
   refine TL.cons rfl (Step.move (p := (.one (.d (.int .i64 (i : Int))))) rfl rfl (lt_ok rfl) rfl) ?_
   refine TL.cons rfl (Step.move (p := (.one (.d (.int .i64 (((k + cntL SHead.ce (a.take i)) + 1) + 1))))) rfl rfl (lt_ok rfl) rfl) ?_
   refine TL.cons rfl (Step.index_row (d := (.sl 10 (((upTo SHead.ce SHead.me a k i).set i (⟨k + cntL SHead.ce (a.take i), (k + cntL SHead.ce (a.take i)) + 1, (a.getD i default).f2, (a.getD i default).f3, (a.getD i default).f4, (a.getD i default).f5⟩ : SHead)).map SHead.cells))) (e := 54) (z := 10) (i := (i : Int)) rfl rfl (lt_ok rfl) (by kernel_rfl) rfl rfl rfl rfl (lt_ok rfl) rfl (by first | omega | (simp; omega)) (by simp only [D.at_, D.cell, D.size, List.length_set, List.length_map, upTo_length]; first | omega | (simp; omega))) ?_
   refine TL.cons rfl (Step.fieldAddr_r (d := (.sl 10 (((upTo SHead.ce SHead.me a k i).set i (⟨k + cntL SHead.ce (a.take i), (k + cntL SHead.ce (a.take i)) + 1, (a.getD i default).f2, (a.getD i default).f3, (a.getD i default).f4, (a.getD i default).f5⟩ : SHead)).map SHead.cells))) (j := 0) (off := 2) (n := 1) (one := true) rfl rfl (lt_ok rfl) (by kernel_rfl) (Nat.succ_ne_zero _) rfl rfl (lt_ok rfl)) ?_
   refine TL.cons rfl (Step.store_row (n := 1) (p := (.one (.d (.int .i64 (((k + cntL SHead.ce (a.take i)) + 1) + 1))))) (ps := [.d (.int .i64 (((k + cntL SHead.ce (a.take i)) + 1) + 1))]) (es := [(.int .i64 (((k + cntL SHead.ce (a.take i)) + 1) + 1))]) (ss := []) (d1 := (.sl 10 (((upTo SHead.ce SHead.me a k i).set i (⟨k + cntL SHead.ce (a.take i), (k + cntL SHead.ce (a.take i)) + 1, ((k + cntL SHead.ce (a.take i)) + 1) + 1, (a.getD i default).f3, (a.getD i default).f4, (a.getD i default).f5⟩ : SHead)).map SHead.cells))) (d' := (.sl 10 (((upTo SHead.ce SHead.me a k i).set i (⟨k + cntL SHead.ce (a.take i), (k + cntL SHead.ce (a.take i)) + 1, ((k + cntL SHead.ce (a.take i)) + 1) + 1, (a.getD i default).f3, (a.getD i default).f4, (a.getD i default).f5⟩ : SHead)).map SHead.cells))) rfl rfl (by kernel_rfl) rfl rfl rfl rfl rfl rfl (.val rfl .nil) (by simp) (Putd.fld2 SHead.len (by simp only [upTo_length]; first | omega | (simp; omega)) (lt_ok rfl) rfl) rfl) ?_
   refine TL.nil ?_
   refine T.seq ?_
   refine T.region ?_
   refine TL.cons rfl (Step.move (p := (.one (.d (.int .i64 (((k + cntL SHead.ce (a.take i)) + 1) + 1))))) rfl rfl (lt_ok rfl) rfl) ?_
   refine TL.cons rfl (Step.bin (r := .int .i64 ((((k + cntL SHead.ce (a.take i)) + 1) + 1) + 1)) rfl rfl (lt_ok rfl) rfl rfl (Bin.add (a := (((k + cntL SHead.ce (a.take i)) + 1) + 1)) (b := 1) (by first | exact wrap_ok (by first | omega | (simp; omega)) (by first | omega | (simp; omega)) | rfl))) ?_
   refine TL.cons rfl (Step.assign (p := (.one (.d (.int .i64 ((((k + cntL SHead.ce (a.take i)) + 1) + 1) + 1))))) rfl rfl (lt_ok rfl) rfl) ?_
   refine TL.nil ?_
   refine T.seq ?_
   refine T.region ?_
   refine TL.cons rfl (Step.move (p := (.one (.row 900 []))) rfl rfl (lt_ok rfl) rfl) ?_
   refine TL.cons rfl (Step.move (p := (.one (.d (.int .i64 (i : Int))))) rfl rfl (lt_ok rfl) rfl) ?_
   refine TL.cons rfl (Step.index_row (d := (.sl 10 (((upTo SHead.ce SHead.me a k i).set i (⟨k + cntL SHead.ce (a.take i), (k + cntL SHead.ce (a.take i)) + 1, ((k + cntL SHead.ce (a.take i)) + 1) + 1, (a.getD i default).f3, (a.getD i default).f4, (a.getD i default).f5⟩ : SHead)).map SHead.cells))) (e := 54) (z := 10) (i := (i : Int)) rfl rfl (lt_ok rfl) (by kernel_rfl) rfl rfl rfl rfl (lt_ok rfl) rfl (by first | omega | (simp; omega)) (by simp only [D.at_, D.cell, D.size, List.length_set, List.length_map, upTo_length]; first | omega | (simp; omega))) ?_
   refine TL.cons rfl (Step.fieldAddr_r (d := (.sl 10 (((upTo SHead.ce SHead.me a k i).set i (⟨k + cntL SHead.ce (a.take i), (k + cntL SHead.ce (a.take i)) + 1, ((k + cntL SHead.ce (a.take i)) + 1) + 1, (a.getD i default).f3, (a.getD i default).f4, (a.getD i default).f5⟩ : SHead)).map SHead.cells))) (j := 0) (off := 3) (n := 1) (one := true) rfl rfl (lt_ok rfl) (by kernel_rfl) (Nat.succ_ne_zero _) rfl rfl (lt_ok rfl)) ?_
   refine TL.cons rfl (Step.load_row (d := (.sl 10 (((upTo SHead.ce SHead.me a k i).set i (⟨k + cntL SHead.ce (a.take i), (k + cntL SHead.ce (a.take i)) + 1, ((k + cntL SHead.ce (a.take i)) + 1) + 1, (a.getD i default).f3, (a.getD i default).f4, (a.getD i default).f5⟩ : SHead)).map SHead.cells))) (c := .row 900 [(i, 3)]) rfl rfl (lt_ok rfl) (by kernel_rfl) rfl rfl (ofRow_sl (cell_set_sl (z := 10) (by simp only [upTo_length]; first | omega | (simp; omega)) rfl) rfl)) ?_
   refine TL.cons rfl (Step.move (p := (.one (.d (.int .i64 ((((k + cntL SHead.ce (a.take i)) + 1) + 1) + 1))))) rfl rfl (lt_ok rfl) rfl) ?_
   refine TL.cons rfl (Step.callM2 (xs := [.tmp 37, .tmp 38]) (ps := [(.one (.row 900 [(i, 3)])), (.one (.d (.int .i64 ((((k + cntL SHead.ce (a.take i)) + 1) + 1) + 1))))]) (js := [(900, (.sl 10 (((upTo SHead.ce SHead.me a k i).set i (⟨k + cntL SHead.ce (a.take i), (k + cntL SHead.ce (a.take i)) + 1, ((k + cntL SHead.ce (a.take i)) + 1) + 1, mkB (a.getD i default).f3 ((((k + cntL SHead.ce (a.take i)) + 1) + 1) + 1), (a.getD i default).f4, (a.getD i default).f5⟩ : SHead)).map SHead.cells)))]) (g := .func 23) (ok_laws_markByteS (a.getD i default).f3 ((((k + cntL SHead.ce (a.take i)) + 1) + 1) + 1) (by omega) (by first | omega | (have := (by assumption); omega))) rfl rfl (lt_ok rfl) rfl (by kernel_rfl) rfl rfl (.row (T := (Ts 0)) (d := (.sl 10 (((upTo SHead.ce SHead.me a k i).set i (⟨k + cntL SHead.ce (a.take i), (k + cntL SHead.ce (a.take i)) + 1, ((k + cntL SHead.ce (a.take i)) + 1) + 1, (a.getD i default).f3, (a.getD i default).f4, (a.getD i default).f5⟩ : SHead)).map SHead.cells))) (e' := (.ints .u8 (mkB (a.getD i default).f3 ((((k + cntL SHead.ce (a.take i)) + 1) + 1) + 1)))) (d' := (.sl 10 (((upTo SHead.ce SHead.me a k i).set i (⟨k + cntL SHead.ce (a.take i), (k + cntL SHead.ce (a.take i)) + 1, ((k + cntL SHead.ce (a.take i)) + 1) + 1, mkB (a.getD i default).f3 ((((k + cntL SHead.ce (a.take i)) + 1) + 1) + 1), (a.getD i default).f4, (a.getD i default).f5⟩ : SHead)).map SHead.cells))) rfl (cell_set_sl (z := 10) (by simp only [upTo_length]; first | omega | (simp; omega)) rfl) rfl (putAt_fld2 (by simp only [upTo_length]; first | omega | (simp; omega)) rfl) rfl (by simp [D.size]) rfl rfl (.d .nil)) rfl) ?_
   refine TL.cons rfl (Step.assign (p := (.one (.d (.int .i64 (((((k + cntL SHead.ce (a.take i)) + 1) + 1) + 1) + ((a.getD i default).f3.length : Int)))))) rfl rfl (lt_ok rfl) rfl) ?_
   refine TL.nil ?_
   refine T.seq ?_
   refine T.region ?_
   refine TL.cons rfl (Step.move (p := (.one (.row 900 []))) rfl rfl (lt_ok rfl) rfl) ?_
   refine TL.cons rfl (Step.move (p := (.one (.d (.int .i64 (i : Int))))) rfl rfl (lt_ok rfl) rfl) ?_
   refine TL.cons rfl (Step.index_row (d := (.sl 10 (((upTo SHead.ce SHead.me a k i).set i (⟨k + cntL SHead.ce (a.take i), (k + cntL SHead.ce (a.take i)) + 1, ((k + cntL SHead.ce (a.take i)) + 1) + 1, mkB (a.getD i default).f3 ((((k + cntL SHead.ce (a.take i)) + 1) + 1) + 1), (a.getD i default).f4, (a.getD i default).f5⟩ : SHead)).map SHead.cells))) (e := 54) (z := 10) (i := (i : Int)) rfl rfl (lt_ok rfl) (by kernel_rfl) rfl rfl rfl rfl (lt_ok rfl) rfl (by first | omega | (simp; omega)) (by simp only [D.at_, D.cell, D.size, List.length_set, List.length_map, upTo_length]; first | omega | (simp; omega))) ?_
   refine TL.cons rfl (Step.fieldAddr_r (d := (.sl 10 (((upTo SHead.ce SHead.me a k i).set i (⟨k + cntL SHead.ce (a.take i), (k + cntL SHead.ce (a.take i)) + 1, ((k + cntL SHead.ce (a.take i)) + 1) + 1, mkB (a.getD i default).f3 ((((k + cntL SHead.ce (a.take i)) + 1) + 1) + 1), (a.getD i default).f4, (a.getD i default).f5⟩ : SHead)).map SHead.cells))) (j := 0) (off := 4) (n := 1) (one := true) rfl rfl (lt_ok rfl) (by kernel_rfl) (Nat.succ_ne_zero _) rfl rfl (lt_ok rfl)) ?_
   refine TL.cons rfl (Step.load_row (d := (.sl 10 (((upTo SHead.ce SHead.me a k i).set i (⟨k + cntL SHead.ce (a.take i), (k + cntL SHead.ce (a.take i)) + 1, ((k + cntL SHead.ce (a.take i)) + 1) + 1, mkB (a.getD i default).f3 ((((k + cntL SHead.ce (a.take i)) + 1) + 1) + 1), (a.getD i default).f4, (a.getD i default).f5⟩ : SHead)).map SHead.cells))) (c := .row 900 [(i, 4)]) rfl rfl (lt_ok rfl) (by kernel_rfl) rfl rfl (ofRow_sl (cell_set_sl (z := 10) (by simp only [upTo_length]; first | omega | (simp; omega)) rfl) rfl)) ?_
   refine TL.cons rfl (Step.move (p := (.one (.d (.int .i64 (((((k + cntL SHead.ce (a.take i)) + 1) + 1) + 1) + ((a.getD i default).f3.length : Int)))))) rfl rfl (lt_ok rfl) rfl) ?_
   refine TL.cons rfl (Step.callM2 (xs := [.tmp 44, .tmp 45]) (ps := [(.one (.row 900 [(i, 4)])), (.one (.d (.int .i64 (((((k + cntL SHead.ce (a.take i)) + 1) + 1) + 1) + ((a.getD i default).f3.length : Int)))))]) (js := [(900, (.sl 10 (((upTo SHead.ce SHead.me a k i).set i (⟨k + cntL SHead.ce (a.take i), (k + cntL SHead.ce (a.take i)) + 1, ((k + cntL SHead.ce (a.take i)) + 1) + 1, mkB (a.getD i default).f3 ((((k + cntL SHead.ce (a.take i)) + 1) + 1) + 1), mkB (a.getD i default).f4 (((((k + cntL SHead.ce (a.take i)) + 1) + 1) + 1) + ((a.getD i default).f3.length : Int)), (a.getD i default).f5⟩ : SHead)).map SHead.cells)))]) (g := .func 23) (ok_laws_markByteS (a.getD i default).f4 (((((k + cntL SHead.ce (a.take i)) + 1) + 1) + 1) + ((a.getD i default).f3.length : Int)) (by omega) (by first | omega | (have := (by assumption); omega))) rfl rfl (lt_ok rfl) rfl (by kernel_rfl) rfl rfl (.row (T := (Ts 0)) (d := (.sl 10 (((upTo SHead.ce SHead.me a k i).set i (⟨k + cntL SHead.ce (a.take i), (k + cntL SHead.ce (a.take i)) + 1, ((k + cntL SHead.ce (a.take i)) + 1) + 1, mkB (a.getD i default).f3 ((((k + cntL SHead.ce (a.take i)) + 1) + 1) + 1), (a.getD i default).f4, (a.getD i default).f5⟩ : SHead)).map SHead.cells))) (e' := (.ints .u8 (mkB (a.getD i default).f4 (((((k + cntL SHead.ce (a.take i)) + 1) + 1) + 1) + ((a.getD i default).f3.length : Int))))) (d' := (.sl 10 (((upTo SHead.ce SHead.me a k i).set i (⟨k + cntL SHead.ce (a.take i), (k + cntL SHead.ce (a.take i)) + 1, ((k + cntL SHead.ce (a.take i)) + 1) + 1, mkB (a.getD i default).f3 ((((k + cntL SHead.ce (a.take i)) + 1) + 1) + 1), mkB (a.getD i default).f4 (((((k + cntL SHead.ce (a.take i)) + 1) + 1) + 1) + ((a.getD i default).f3.length : Int)), (a.getD i default).f5⟩ : SHead)).map SHead.cells))) rfl (cell_set_sl (z := 10) (by simp only [upTo_length]; first | omega | (simp; omega)) rfl) rfl (putAt_fld2 (by simp only [upTo_length]; first | omega | (simp; omega)) rfl) rfl (by simp [D.size]) rfl rfl (.d .nil)) rfl) ?_
   refine TL.cons rfl (Step.assign (p := (.one (.d (.int .i64 ((((((k + cntL SHead.ce (a.take i)) + 1) + 1) + 1) + ((a.getD i default).f3.length : Int)) + ((a.getD i default).f4.length : Int)))))) rfl rfl (lt_ok rfl) rfl) ?_
   refine TL.nil ?_
   refine T.seq ?_
   refine T.region ?_
   refine TL.cons rfl (Step.move (p := (.one (.row 900 []))) rfl rfl (lt_ok rfl) rfl) ?_
   refine TL.cons rfl (Step.move (p := (.one (.d (.int .i64 (i : Int))))) rfl rfl (lt_ok rfl) rfl) ?_
   refine TL.cons rfl (Step.move (p := (.one (.d (.int .i64 ((((((k + cntL SHead.ce (a.take i)) + 1) + 1) + 1) + ((a.getD i default).f3.length : Int)) + ((a.getD i default).f4.length : Int)))))) rfl rfl (lt_ok rfl) rfl) ?_
   refine TL.cons rfl (Step.index_row (d := (.sl 10 (((upTo SHead.ce SHead.me a k i).set i (⟨k + cntL SHead.ce (a.take i), (k + cntL SHead.ce (a.take i)) + 1, ((k + cntL SHead.ce (a.take i)) + 1) + 1, mkB (a.getD i default).f3 ((((k + cntL SHead.ce (a.take i)) + 1) + 1) + 1), mkB (a.getD i default).f4 (((((k + cntL SHead.ce (a.take i)) + 1) + 1) + 1) + ((a.getD i default).f3.length : Int)), (a.getD i default).f5⟩ : SHead)).map SHead.cells))) (e := 54) (z := 10) (i := (i : Int)) rfl rfl (lt_ok rfl) (by kernel_rfl) rfl rfl rfl rfl (lt_ok rfl) rfl (by first | omega | (simp; omega)) (by simp only [D.at_, D.cell, D.size, List.length_set, List.length_map, upTo_length]; first | omega | (simp; omega))) ?_
   refine TL.cons rfl (Step.fieldAddr_r (d := (.sl 10 (((upTo SHead.ce SHead.me a k i).set i (⟨k + cntL SHead.ce (a.take i), (k + cntL SHead.ce (a.take i)) + 1, ((k + cntL SHead.ce (a.take i)) + 1) + 1, mkB (a.getD i default).f3 ((((k + cntL SHead.ce (a.take i)) + 1) + 1) + 1), mkB (a.getD i default).f4 (((((k + cntL SHead.ce (a.take i)) + 1) + 1) + 1) + ((a.getD i default).f3.length : Int)), (a.getD i default).f5⟩ : SHead)).map SHead.cells))) (j := 0) (off := 5) (n := 5) (one := false) rfl rfl (lt_ok rfl) (by kernel_rfl) (Nat.succ_ne_zero _) rfl rfl (lt_ok rfl)) ?_
   refine TL.cons rfl (Step.fieldAddr_r (d := (.sl 10 (((upTo SHead.ce SHead.me a k i).set i (⟨k + cntL SHead.ce (a.take i), (k + cntL SHead.ce (a.take i)) + 1, ((k + cntL SHead.ce (a.take i)) + 1) + 1, mkB (a.getD i default).f3 ((((k + cntL SHead.ce (a.take i)) + 1) + 1) + 1), mkB (a.getD i default).f4 (((((k + cntL SHead.ce (a.take i)) + 1) + 1) + 1) + ((a.getD i default).f3.length : Int)), (a.getD i default).f5⟩ : SHead)).map SHead.cells))) (j := 5) (off := 0) (n := 1) (one := true) rfl rfl (lt_ok rfl) (by kernel_rfl) (Nat.succ_ne_zero _) rfl rfl (lt_ok rfl)) ?_
   refine TL.cons rfl (Step.store_row (n := 1) (p := (.one (.d (.int .i64 ((((((k + cntL SHead.ce (a.take i)) + 1) + 1) + 1) + ((a.getD i default).f3.length : Int)) + ((a.getD i default).f4.length : Int)))))) (ps := [.d (.int .i64 ((((((k + cntL SHead.ce (a.take i)) + 1) + 1) + 1) + ((a.getD i default).f3.length : Int)) + ((a.getD i default).f4.length : Int)))]) (es := [(.int .i64 ((((((k + cntL SHead.ce (a.take i)) + 1) + 1) + 1) + ((a.getD i default).f3.length : Int)) + ((a.getD i default).f4.length : Int)))]) (ss := []) (d1 := (.sl 10 (((upTo SHead.ce SHead.me a k i).set i (⟨k + cntL SHead.ce (a.take i), (k + cntL SHead.ce (a.take i)) + 1, ((k + cntL SHead.ce (a.take i)) + 1) + 1, mkB (a.getD i default).f3 ((((k + cntL SHead.ce (a.take i)) + 1) + 1) + 1), mkB (a.getD i default).f4 (((((k + cntL SHead.ce (a.take i)) + 1) + 1) + 1) + ((a.getD i default).f3.length : Int)), (⟨(((((k + cntL SHead.ce (a.take i)) + 1) + 1) + 1) + ((a.getD i default).f3.length : Int)) + ((a.getD i default).f4.length : Int), (a.getD i default).f5.f1, (a.getD i default).f5.f2, (a.getD i default).f5.f3, (a.getD i default).f5.f4⟩ : SQc)⟩ : SHead)).map SHead.cells))) (d' := (.sl 10 (((upTo SHead.ce SHead.me a k i).set i (⟨k + cntL SHead.ce (a.take i), (k + cntL SHead.ce (a.take i)) + 1, ((k + cntL SHead.ce (a.take i)) + 1) + 1, mkB (a.getD i default).f3 ((((k + cntL SHead.ce (a.take i)) + 1) + 1) + 1), mkB (a.getD i default).f4 (((((k + cntL SHead.ce (a.take i)) + 1) + 1) + 1) + ((a.getD i default).f3.length : Int)), (⟨(((((k + cntL SHead.ce (a.take i)) + 1) + 1) + 1) + ((a.getD i default).f3.length : Int)) + ((a.getD i default).f4.length : Int), (a.getD i default).f5.f1, (a.getD i default).f5.f2, (a.getD i default).f5.f3, (a.getD i default).f5.f4⟩ : SQc)⟩ : SHead)).map SHead.cells))) rfl rfl (by kernel_rfl) rfl rfl rfl rfl rfl rfl (.val rfl .nil) (by simp) (Putd.fld2 SHead.len (by simp only [upTo_length]; first | omega | (simp; omega)) (lt_ok rfl) rfl) rfl) ?_
   refine TL.nil ?_
   refine T.seq ?_
   refine T.region ?_
   refine TL.cons rfl (Step.move (p := (.one (.d (.int .i64 ((((((k + cntL SHead.ce (a.take i)) + 1) + 1) + 1) + ((a.getD i default).f3.length : Int)) + ((a.getD i default).f4.length : Int)))))) rfl rfl (lt_ok rfl) rfl) ?_
   refine TL.cons rfl (Step.bin (r := .int .i64 (((((((k + cntL SHead.ce (a.take i)) + 1) + 1) + 1) + ((a.getD i default).f3.length : Int)) + ((a.getD i default).f4.length : Int)) + 1)) rfl rfl (lt_ok rfl) rfl rfl (Bin.add (a := ((((((k + cntL SHead.ce (a.take i)) + 1) + 1) + 1) + ((a.getD i default).f3.length : Int)) + ((a.getD i default).f4.length : Int))) (b := 1) (by first | exact wrap_ok (by first | omega | (simp; omega)) (by first | omega | (simp; omega)) | rfl))) ?_
   refine TL.cons rfl (Step.assign (p := (.one (.d (.int .i64 (((((((k + cntL SHead.ce (a.take i)) + 1) + 1) + 1) + ((a.getD i default).f3.length : Int)) + ((a.getD i default).f4.length : Int)) + 1))))) rfl rfl (lt_ok rfl) rfl) ?_
   refine TL.nil ?_
   refine T.seq ?_
   refine T.region ?_
   refine TL.cons rfl (Step.move (p := (.one (.row 900 []))) rfl rfl (lt_ok rfl) rfl) ?_
   refine TL.cons rfl (Step.move (p := (.one (.d (.int .i64 (i : Int))))) rfl rfl (lt_ok rfl) rfl) ?_
   refine TL.cons rfl (Step.move (p := (.one (.d (.int .i64 (((((((k + cntL SHead.ce (a.take i)) + 1) + 1) + 1) + ((a.getD i default).f3.length : Int)) + ((a.getD i default).f4.length : Int)) + 1))))) rfl rfl (lt_ok rfl) rfl) ?_
   refine TL.cons rfl (Step.index_row (d := (.sl 10 (((upTo SHead.ce SHead.me a k i).set i (⟨k + cntL SHead.ce (a.take i), (k + cntL SHead.ce (a.take i)) + 1, ((k + cntL SHead.ce (a.take i)) + 1) + 1, mkB (a.getD i default).f3 ((((k + cntL SHead.ce (a.take i)) + 1) + 1) + 1), mkB (a.getD i default).f4 (((((k + cntL SHead.ce (a.take i)) + 1) + 1) + 1) + ((a.getD i default).f3.length : Int)), (⟨(((((k + cntL SHead.ce (a.take i)) + 1) + 1) + 1) + ((a.getD i default).f3.length : Int)) + ((a.getD i default).f4.length : Int), (a.getD i default).f5.f1, (a.getD i default).f5.f2, (a.getD i default).f5.f3, (a.getD i default).f5.f4⟩ : SQc)⟩ : SHead)).map SHead.cells))) (e := 54) (z := 10) (i := (i : Int)) rfl rfl (lt_ok rfl) (by kernel_rfl) rfl rfl rfl rfl (lt_ok rfl) rfl (by first | omega | (simp; omega)) (by simp only [D.at_, D.cell, D.size, List.length_set, List.length_map, upTo_length]; first | omega | (simp; omega))) ?_
   refine TL.cons rfl (Step.fieldAddr_r (d := (.sl 10 (((upTo SHead.ce SHead.me a k i).set i (⟨k + cntL SHead.ce (a.take i), (k + cntL SHead.ce (a.take i)) + 1, ((k + cntL SHead.ce (a.take i)) + 1) + 1, mkB (a.getD i default).f3 ((((k + cntL SHead.ce (a.take i)) + 1) + 1) + 1), mkB (a.getD i default).f4 (((((k + cntL SHead.ce (a.take i)) + 1) + 1) + 1) + ((a.getD i default).f3.length : Int)), (⟨(((((k + cntL SHead.ce (a.take i)) + 1) + 1) + 1) + ((a.getD i default).f3.length : Int)) + ((a.getD i default).f4.length : Int), (a.getD i default).f5.f1, (a.getD i default).f5.f2, (a.getD i default).f5.f3, (a.getD i default).f5.f4⟩ : SQc)⟩ : SHead)).map SHead.cells))) (j := 0) (off := 5) (n := 5) (one := false) rfl rfl (lt_ok rfl) (by kernel_rfl) (Nat.succ_ne_zero _) rfl rfl (lt_ok rfl)) ?_
   refine TL.cons rfl (Step.fieldAddr_r (d := (.sl 10 (((upTo SHead.ce SHead.me a k i).set i (⟨k + cntL SHead.ce (a.take i), (k + cntL SHead.ce (a.take i)) + 1, ((k + cntL SHead.ce (a.take i)) + 1) + 1, mkB (a.getD i default).f3 ((((k + cntL SHead.ce (a.take i)) + 1) + 1) + 1), mkB (a.getD i default).f4 (((((k + cntL SHead.ce (a.take i)) + 1) + 1) + 1) + ((a.getD i default).f3.length : Int)), (⟨(((((k + cntL SHead.ce (a.take i)) + 1) + 1) + 1) + ((a.getD i default).f3.length : Int)) + ((a.getD i default).f4.length : Int), (a.getD i default).f5.f1, (a.getD i default).f5.f2, (a.getD i default).f5.f3, (a.getD i default).f5.f4⟩ : SQc)⟩ : SHead)).map SHead.cells))) (j := 5) (off := 1) (n := 1) (one := true) rfl rfl (lt_ok rfl) (by kernel_rfl) (Nat.succ_ne_zero _) rfl rfl (lt_ok rfl)) ?_
   refine TL.cons rfl (Step.store_row (n := 1) (p := (.one (.d (.int .i64 (((((((k + cntL SHead.ce (a.take i)) + 1) + 1) + 1) + ((a.getD i default).f3.length : Int)) + ((a.getD i default).f4.length : Int)) + 1))))) (ps := [.d (.int .i64 (((((((k + cntL SHead.ce (a.take i)) + 1) + 1) + 1) + ((a.getD i default).f3.length : Int)) + ((a.getD i default).f4.length : Int)) + 1))]) (es := [(.int .i64 (((((((k + cntL SHead.ce (a.take i)) + 1) + 1) + 1) + ((a.getD i default).f3.length : Int)) + ((a.getD i default).f4.length : Int)) + 1))]) (ss := []) (d1 := (.sl 10 (((upTo SHead.ce SHead.me a k i).set i (⟨k + cntL SHead.ce (a.take i), (k + cntL SHead.ce (a.take i)) + 1, ((k + cntL SHead.ce (a.take i)) + 1) + 1, mkB (a.getD i default).f3 ((((k + cntL SHead.ce (a.take i)) + 1) + 1) + 1), mkB (a.getD i default).f4 (((((k + cntL SHead.ce (a.take i)) + 1) + 1) + 1) + ((a.getD i default).f3.length : Int)), (⟨(((((k + cntL SHead.ce (a.take i)) + 1) + 1) + 1) + ((a.getD i default).f3.length : Int)) + ((a.getD i default).f4.length : Int), ((((((k + cntL SHead.ce (a.take i)) + 1) + 1) + 1) + ((a.getD i default).f3.length : Int)) + ((a.getD i default).f4.length : Int)) + 1, (a.getD i default).f5.f2, (a.getD i default).f5.f3, (a.getD i default).f5.f4⟩ : SQc)⟩ : SHead)).map SHead.cells))) (d' := (.sl 10 (((upTo SHead.ce SHead.me a k i).set i (⟨k + cntL SHead.ce (a.take i), (k + cntL SHead.ce (a.take i)) + 1, ((k + cntL SHead.ce (a.take i)) + 1) + 1, mkB (a.getD i default).f3 ((((k + cntL SHead.ce (a.take i)) + 1) + 1) + 1), mkB (a.getD i default).f4 (((((k + cntL SHead.ce (a.take i)) + 1) + 1) + 1) + ((a.getD i default).f3.length : Int)), (⟨(((((k + cntL SHead.ce (a.take i)) + 1) + 1) + 1) + ((a.getD i default).f3.length : Int)) + ((a.getD i default).f4.length : Int), ((((((k + cntL SHead.ce (a.take i)) + 1) + 1) + 1) + ((a.getD i default).f3.length : Int)) + ((a.getD i default).f4.length : Int)) + 1, (a.getD i default).f5.f2, (a.getD i default).f5.f3, (a.getD i default).f5.f4⟩ : SQc)⟩ : SHead)).map SHead.cells))) rfl rfl (by kernel_rfl) rfl rfl rfl rfl rfl rfl (.val rfl .nil) (by simp) (Putd.fld2 SHead.len (by simp only [upTo_length]; first | omega | (simp; omega)) (lt_ok rfl) rfl) rfl) ?_
   refine TL.nil ?_
   refine T.seq ?_
   refine T.region ?_
   refine TL.cons rfl (Step.move (p := (.one (.d (.int .i64 (((((((k + cntL SHead.ce (a.take i)) + 1) + 1) + 1) + ((a.getD i default).f3.length : Int)) + ((a.getD i default).f4.length : Int)) + 1))))) rfl rfl (lt_ok rfl) rfl) ?_
   refine TL.cons rfl (Step.bin (r := .int .i64 ((((((((k + cntL SHead.ce (a.take i)) + 1) + 1) + 1) + ((a.getD i default).f3.length : Int)) + ((a.getD i default).f4.length : Int)) + 1) + 1)) rfl rfl (lt_ok rfl) rfl rfl (Bin.add (a := (((((((k + cntL SHead.ce (a.take i)) + 1) + 1) + 1) + ((a.getD i default).f3.length : Int)) + ((a.getD i default).f4.length : Int)) + 1)) (b := 1) (by first | exact wrap_ok (by first | omega | (simp; omega)) (by first | omega | (simp; omega)) | rfl))) ?_
   refine TL.cons rfl (Step.assign (p := (.one (.d (.int .i64 ((((((((k + cntL SHead.ce (a.take i)) + 1) + 1) + 1) + ((a.getD i default).f3.length : Int)) + ((a.getD i default).f4.length : Int)) + 1) + 1))))) rfl rfl (lt_ok rfl) rfl) ?_
   refine TL.nil ?_
   refine T.seq ?_
   refine T.region ?_
   refine TL.cons rfl (Step.move (p := (.one (.row 900 []))) rfl rfl (lt_ok rfl) rfl) ?_
   refine TL.cons rfl (Step.move (p := (.one (.d (.int .i64 (i : Int))))) rfl rfl (lt_ok rfl) rfl) ?_
   refine TL.cons rfl (Step.index_row (d := (.sl 10 (((upTo SHead.ce SHead.me a k i).set i (⟨k + cntL SHead.ce (a.take i), (k + cntL SHead.ce (a.take i)) + 1, ((k + cntL SHead.ce (a.take i)) + 1) + 1, mkB (a.getD i default).f3 ((((k + cntL SHead.ce (a.take i)) + 1) + 1) + 1), mkB (a.getD i default).f4 (((((k + cntL SHead.ce (a.take i)) + 1) + 1) + 1) + ((a.getD i default).f3.length : Int)), (⟨(((((k + cntL SHead.ce (a.take i)) + 1) + 1) + 1) + ((a.getD i default).f3.length : Int)) + ((a.getD i default).f4.length : Int), ((((((k + cntL SHead.ce (a.take i)) + 1) + 1) + 1) + ((a.getD i default).f3.length : Int)) + ((a.getD i default).f4.length : Int)) + 1, (a.getD i default).f5.f2, (a.getD i default).f5.f3, (a.getD i default).f5.f4⟩ : SQc)⟩ : SHead)).map SHead.cells))) (e := 54) (z := 10) (i := (i : Int)) rfl rfl (lt_ok rfl) (by kernel_rfl) rfl rfl rfl rfl (lt_ok rfl) rfl (by first | omega | (simp; omega)) (by simp only [D.at_, D.cell, D.size, List.length_set, List.length_map, upTo_length]; first | omega | (simp; omega))) ?_
   refine TL.cons rfl (Step.fieldAddr_r (d := (.sl 10 (((upTo SHead.ce SHead.me a k i).set i (⟨k + cntL SHead.ce (a.take i), (k + cntL SHead.ce (a.take i)) + 1, ((k + cntL SHead.ce (a.take i)) + 1) + 1, mkB (a.getD i default).f3 ((((k + cntL SHead.ce (a.take i)) + 1) + 1) + 1), mkB (a.getD i default).f4 (((((k + cntL SHead.ce (a.take i)) + 1) + 1) + 1) + ((a.getD i default).f3.length : Int)), (⟨(((((k + cntL SHead.ce (a.take i)) + 1) + 1) + 1) + ((a.getD i default).f3.length : Int)) + ((a.getD i default).f4.length : Int), ((((((k + cntL SHead.ce (a.take i)) + 1) + 1) + 1) + ((a.getD i default).f3.length : Int)) + ((a.getD i default).f4.length : Int)) + 1, (a.getD i default).f5.f2, (a.getD i default).f5.f3, (a.getD i default).f5.f4⟩ : SQc)⟩ : SHead)).map SHead.cells))) (j := 0) (off := 5) (n := 5) (one := false) rfl rfl (lt_ok rfl) (by kernel_rfl) (Nat.succ_ne_zero _) rfl rfl (lt_ok rfl)) ?_
   refine TL.cons rfl (Step.fieldAddr_r (d := (.sl 10 (((upTo SHead.ce SHead.me a k i).set i (⟨k + cntL SHead.ce (a.take i), (k + cntL SHead.ce (a.take i)) + 1, ((k + cntL SHead.ce (a.take i)) + 1) + 1, mkB (a.getD i default).f3 ((((k + cntL SHead.ce (a.take i)) + 1) + 1) + 1), mkB (a.getD i default).f4 (((((k + cntL SHead.ce (a.take i)) + 1) + 1) + 1) + ((a.getD i default).f3.length : Int)), (⟨(((((k + cntL SHead.ce (a.take i)) + 1) + 1) + 1) + ((a.getD i default).f3.length : Int)) + ((a.getD i default).f4.length : Int), ((((((k + cntL SHead.ce (a.take i)) + 1) + 1) + 1) + ((a.getD i default).f3.length : Int)) + ((a.getD i default).f4.length : Int)) + 1, (a.getD i default).f5.f2, (a.getD i default).f5.f3, (a.getD i default).f5.f4⟩ : SQc)⟩ : SHead)).map SHead.cells))) (j := 5) (off := 2) (n := 1) (one := true) rfl rfl (lt_ok rfl) (by kernel_rfl) (Nat.succ_ne_zero _) rfl rfl (lt_ok rfl)) ?_
   refine TL.cons rfl (Step.load_row (d := (.sl 10 (((upTo SHead.ce SHead.me a k i).set i (⟨k + cntL SHead.ce (a.take i), (k + cntL SHead.ce (a.take i)) + 1, ((k + cntL SHead.ce (a.take i)) + 1) + 1, mkB (a.getD i default).f3 ((((k + cntL SHead.ce (a.take i)) + 1) + 1) + 1), mkB (a.getD i default).f4 (((((k + cntL SHead.ce (a.take i)) + 1) + 1) + 1) + ((a.getD i default).f3.length : Int)), (⟨(((((k + cntL SHead.ce (a.take i)) + 1) + 1) + 1) + ((a.getD i default).f3.length : Int)) + ((a.getD i default).f4.length : Int), ((((((k + cntL SHead.ce (a.take i)) + 1) + 1) + 1) + ((a.getD i default).f3.length : Int)) + ((a.getD i default).f4.length : Int)) + 1, (a.getD i default).f5.f2, (a.getD i default).f5.f3, (a.getD i default).f5.f4⟩ : SQc)⟩ : SHead)).map SHead.cells))) (c := .row 900 [(i, 7)]) rfl rfl (lt_ok rfl) (by kernel_rfl) rfl rfl (ofRow_sl (cell_set_sl (z := 10) (by simp only [upTo_length]; first | omega | (simp; omega)) rfl) rfl)) ?_
   refine TL.cons rfl (Step.move (p := (.one (.d (.int .i64 ((((((((k + cntL SHead.ce (a.take i)) + 1) + 1) + 1) + ((a.getD i default).f3.length : Int)) + ((a.getD i default).f4.length : Int)) + 1) + 1))))) rfl rfl (lt_ok rfl) rfl) ?_
   refine TL.cons rfl (Step.callM2 (xs := [.tmp 68, .tmp 69]) (ps := [(.one (.row 900 [(i, 7)])), (.one (.d (.int .i64 ((((((((k + cntL SHead.ce (a.take i)) + 1) + 1) + 1) + ((a.getD i default).f3.length : Int)) + ((a.getD i default).f4.length : Int)) + 1) + 1))))]) (js := [(900, (.sl 10 (((upTo SHead.ce SHead.me a k i).set i (⟨k + cntL SHead.ce (a.take i), (k + cntL SHead.ce (a.take i)) + 1, ((k + cntL SHead.ce (a.take i)) + 1) + 1, mkB (a.getD i default).f3 ((((k + cntL SHead.ce (a.take i)) + 1) + 1) + 1), mkB (a.getD i default).f4 (((((k + cntL SHead.ce (a.take i)) + 1) + 1) + 1) + ((a.getD i default).f3.length : Int)), (⟨(((((k + cntL SHead.ce (a.take i)) + 1) + 1) + 1) + ((a.getD i default).f3.length : Int)) + ((a.getD i default).f4.length : Int), ((((((k + cntL SHead.ce (a.take i)) + 1) + 1) + 1) + ((a.getD i default).f3.length : Int)) + ((a.getD i default).f4.length : Int)) + 1, mkB (a.getD i default).f5.f2 ((((((((k + cntL SHead.ce (a.take i)) + 1) + 1) + 1) + ((a.getD i default).f3.length : Int)) + ((a.getD i default).f4.length : Int)) + 1) + 1), (a.getD i default).f5.f3, (a.getD i default).f5.f4⟩ : SQc)⟩ : SHead)).map SHead.cells)))]) (g := .func 23) (ok_laws_markByteS (a.getD i default).f5.f2 ((((((((k + cntL SHead.ce (a.take i)) + 1) + 1) + 1) + ((a.getD i default).f3.length : Int)) + ((a.getD i default).f4.length : Int)) + 1) + 1) (by omega) (by first | omega | (have := (by assumption); omega))) rfl rfl (lt_ok rfl) rfl (by kernel_rfl) rfl rfl (.row (T := (Ts 0)) (d := (.sl 10 (((upTo SHead.ce SHead.me a k i).set i (⟨k + cntL SHead.ce (a.take i), (k + cntL SHead.ce (a.take i)) + 1, ((k + cntL SHead.ce (a.take i)) + 1) + 1, mkB (a.getD i default).f3 ((((k + cntL SHead.ce (a.take i)) + 1) + 1) + 1), mkB (a.getD i default).f4 (((((k + cntL SHead.ce (a.take i)) + 1) + 1) + 1) + ((a.getD i default).f3.length : Int)), (⟨(((((k + cntL SHead.ce (a.take i)) + 1) + 1) + 1) + ((a.getD i default).f3.length : Int)) + ((a.getD i default).f4.length : Int), ((((((k + cntL SHead.ce (a.take i)) + 1) + 1) + 1) + ((a.getD i default).f3.length : Int)) + ((a.getD i default).f4.length : Int)) + 1, (a.getD i default).f5.f2, (a.getD i default).f5.f3, (a.getD i default).f5.f4⟩ : SQc)⟩ : SHead)).map SHead.cells))) (e' := (.ints .u8 (mkB (a.getD i default).f5.f2 ((((((((k + cntL SHead.ce (a.take i)) + 1) + 1) + 1) + ((a.getD i default).f3.length : Int)) + ((a.getD i default).f4.length : Int)) + 1) + 1)))) (d' := (.sl 10 (((upTo SHead.ce SHead.me a k i).set i (⟨k + cntL SHead.ce (a.take i), (k + cntL SHead.ce (a.take i)) + 1, ((k + cntL SHead.ce (a.take i)) + 1) + 1, mkB (a.getD i default).f3 ((((k + cntL SHead.ce (a.take i)) + 1) + 1) + 1), mkB (a.getD i default).f4 (((((k + cntL SHead.ce (a.take i)) + 1) + 1) + 1) + ((a.getD i default).f3.length : Int)), (⟨(((((k + cntL SHead.ce (a.take i)) + 1) + 1) + 1) + ((a.getD i default).f3.length : Int)) + ((a.getD i default).f4.length : Int), ((((((k + cntL SHead.ce (a.take i)) + 1) + 1) + 1) + ((a.getD i default).f3.length : Int)) + ((a.getD i default).f4.length : Int)) + 1, mkB (a.getD i default).f5.f2 ((((((((k + cntL SHead.ce (a.take i)) + 1) + 1) + 1) + ((a.getD i default).f3.length : Int)) + ((a.getD i default).f4.length : Int)) + 1) + 1), (a.getD i default).f5.f3, (a.getD i default).f5.f4⟩ : SQc)⟩ : SHead)).map SHead.cells))) rfl (cell_set_sl (z := 10) (by simp only [upTo_length]; first | omega | (simp; omega)) rfl) rfl (putAt_fld2 (by simp only [upTo_length]; first | omega | (simp; omega)) rfl) rfl (by simp [D.size]) rfl rfl (.d .nil)) rfl) ?_
   refine TL.cons rfl (Step.assign (p := (.one (.d (.int .i64 (((((((((k + cntL SHead.ce (a.take i)) + 1) + 1) + 1) + ((a.getD i default).f3.length : Int)) + ((a.getD i default).f4.length : Int)) + 1) + 1) + ((a.getD i default).f5.f2.length : Int)))))) rfl rfl (lt_ok rfl) rfl) ?_
   refine TL.nil ?_
   refine T.weaken (E' := { tm := [(0, (.one (.row 900 []))), (4, (.one (.d (.int .i64 0)))), (5, (.one (.d (.int .i64 (i : Int))))), (1, (.one (.d (.int .i64 (((((((((k + cntL SHead.ce (a.take i)) + 1) + 1) + 1) + ((a.getD i default).f3.length : Int)) + ((a.getD i default).f4.length : Int)) + 1) + 1) + ((a.getD i default).f5.f2.length : Int))))))], rows := [(900, ((Ts 0), (.sl 10 (((upTo SHead.ce SHead.me a k i).set i (⟨k + cntL SHead.ce (a.take i), (k + cntL SHead.ce (a.take i)) + 1, ((k + cntL SHead.ce (a.take i)) + 1) + 1, mkB (a.getD i default).f3 ((((k + cntL SHead.ce (a.take i)) + 1) + 1) + 1), mkB (a.getD i default).f4 (((((k + cntL SHead.ce (a.take i)) + 1) + 1) + 1) + ((a.getD i default).f3.length : Int)), (⟨(((((k + cntL SHead.ce (a.take i)) + 1) + 1) + 1) + ((a.getD i default).f3.length : Int)) + ((a.getD i default).f4.length : Int), ((((((k + cntL SHead.ce (a.take i)) + 1) + 1) + 1) + ((a.getD i default).f3.length : Int)) + ((a.getD i default).f4.length : Int)) + 1, mkB (a.getD i default).f5.f2 ((((((((k + cntL SHead.ce (a.take i)) + 1) + 1) + 1) + ((a.getD i default).f3.length : Int)) + ((a.getD i default).f4.length : Int)) + 1) + 1), (a.getD i default).f5.f3, (a.getD i default).f5.f4⟩ : SQc)⟩ : SHead)).map SHead.cells))))], boxes := [] }) (Env.le_mk ⟨by kernel_rfl, by kernel_rfl, by kernel_rfl, by kernel_rfl, trivial⟩ ⟨by kernel_rfl, trivial⟩ trivial) ?_
   refine T.seq ?_
   refine T.region ?_
   refine TL.cons rfl (Step.move (p := (.one (.row 900 []))) rfl rfl (lt_ok rfl) rfl) ?_
   refine TL.cons rfl (Step.move (p := (.one (.d (.int .i64 (i : Int))))) rfl rfl (lt_ok rfl) rfl) ?_
   refine TL.cons rfl (Step.index_row (d := (.sl 10 (((upTo SHead.ce SHead.me a k i).set i (⟨k + cntL SHead.ce (a.take i), (k + cntL SHead.ce (a.take i)) + 1, ((k + cntL SHead.ce (a.take i)) + 1) + 1, mkB (a.getD i default).f3 ((((k + cntL SHead.ce (a.take i)) + 1) + 1) + 1), mkB (a.getD i default).f4 (((((k + cntL SHead.ce (a.take i)) + 1) + 1) + 1) + ((a.getD i default).f3.length : Int)), (⟨(((((k + cntL SHead.ce (a.take i)) + 1) + 1) + 1) + ((a.getD i default).f3.length : Int)) + ((a.getD i default).f4.length : Int), ((((((k + cntL SHead.ce (a.take i)) + 1) + 1) + 1) + ((a.getD i default).f3.length : Int)) + ((a.getD i default).f4.length : Int)) + 1, mkB (a.getD i default).f5.f2 ((((((((k + cntL SHead.ce (a.take i)) + 1) + 1) + 1) + ((a.getD i default).f3.length : Int)) + ((a.getD i default).f4.length : Int)) + 1) + 1), (a.getD i default).f5.f3, (a.getD i default).f5.f4⟩ : SQc)⟩ : SHead)).map SHead.cells))) (e := 54) (z := 10) (i := (i : Int)) rfl rfl (lt_ok rfl) (by kernel_rfl) rfl rfl rfl rfl (lt_ok rfl) rfl (by first | omega | (simp; omega)) (by simp only [D.at_, D.cell, D.size, List.length_set, List.length_map, upTo_length]; first | omega | (simp; omega))) ?_
   refine TL.cons rfl (Step.fieldAddr_r (d := (.sl 10 (((upTo SHead.ce SHead.me a k i).set i (⟨k + cntL SHead.ce (a.take i), (k + cntL SHead.ce (a.take i)) + 1, ((k + cntL SHead.ce (a.take i)) + 1) + 1, mkB (a.getD i default).f3 ((((k + cntL SHead.ce (a.take i)) + 1) + 1) + 1), mkB (a.getD i default).f4 (((((k + cntL SHead.ce (a.take i)) + 1) + 1) + 1) + ((a.getD i default).f3.length : Int)), (⟨(((((k + cntL SHead.ce (a.take i)) + 1) + 1) + 1) + ((a.getD i default).f3.length : Int)) + ((a.getD i default).f4.length : Int), ((((((k + cntL SHead.ce (a.take i)) + 1) + 1) + 1) + ((a.getD i default).f3.length : Int)) + ((a.getD i default).f4.length : Int)) + 1, mkB (a.getD i default).f5.f2 ((((((((k + cntL SHead.ce (a.take i)) + 1) + 1) + 1) + ((a.getD i default).f3.length : Int)) + ((a.getD i default).f4.length : Int)) + 1) + 1), (a.getD i default).f5.f3, (a.getD i default).f5.f4⟩ : SQc)⟩ : SHead)).map SHead.cells))) (j := 0) (off := 5) (n := 5) (one := false) rfl rfl (lt_ok rfl) (by kernel_rfl) (Nat.succ_ne_zero _) rfl rfl (lt_ok rfl)) ?_
   refine TL.cons rfl (Step.fieldAddr_r (d := (.sl 10 (((upTo SHead.ce SHead.me a k i).set i (⟨k + cntL SHead.ce (a.take i), (k + cntL SHead.ce (a.take i)) + 1, ((k + cntL SHead.ce (a.take i)) + 1) + 1, mkB (a.getD i default).f3 ((((k + cntL SHead.ce (a.take i)) + 1) + 1) + 1), mkB (a.getD i default).f4 (((((k + cntL SHead.ce (a.take i)) + 1) + 1) + 1) + ((a.getD i default).f3.length : Int)), (⟨(((((k + cntL SHead.ce (a.take i)) + 1) + 1) + 1) + ((a.getD i default).f3.length : Int)) + ((a.getD i default).f4.length : Int), ((((((k + cntL SHead.ce (a.take i)) + 1) + 1) + 1) + ((a.getD i default).f3.length : Int)) + ((a.getD i default).f4.length : Int)) + 1, mkB (a.getD i default).f5.f2 ((((((((k + cntL SHead.ce (a.take i)) + 1) + 1) + 1) + ((a.getD i default).f3.length : Int)) + ((a.getD i default).f4.length : Int)) + 1) + 1), (a.getD i default).f5.f3, (a.getD i default).f5.f4⟩ : SQc)⟩ : SHead)).map SHead.cells))) (j := 5) (off := 3) (n := 1) (one := true) rfl rfl (lt_ok rfl) (by kernel_rfl) (Nat.succ_ne_zero _) rfl rfl (lt_ok rfl)) ?_
   refine TL.cons rfl (Step.load_row (d := (.sl 10 (((upTo SHead.ce SHead.me a k i).set i (⟨k + cntL SHead.ce (a.take i), (k + cntL SHead.ce (a.take i)) + 1, ((k + cntL SHead.ce (a.take i)) + 1) + 1, mkB (a.getD i default).f3 ((((k + cntL SHead.ce (a.take i)) + 1) + 1) + 1), mkB (a.getD i default).f4 (((((k + cntL SHead.ce (a.take i)) + 1) + 1) + 1) + ((a.getD i default).f3.length : Int)), (⟨(((((k + cntL SHead.ce (a.take i)) + 1) + 1) + 1) + ((a.getD i default).f3.length : Int)) + ((a.getD i default).f4.length : Int), ((((((k + cntL SHead.ce (a.take i)) + 1) + 1) + 1) + ((a.getD i default).f3.length : Int)) + ((a.getD i default).f4.length : Int)) + 1, mkB (a.getD i default).f5.f2 ((((((((k + cntL SHead.ce (a.take i)) + 1) + 1) + 1) + ((a.getD i default).f3.length : Int)) + ((a.getD i default).f4.length : Int)) + 1) + 1), (a.getD i default).f5.f3, (a.getD i default).f5.f4⟩ : SQc)⟩ : SHead)).map SHead.cells))) (c := .row 900 [(i, 8)]) rfl rfl (lt_ok rfl) (by kernel_rfl) rfl rfl (ofRow_sl (cell_set_sl (z := 10) (by simp only [upTo_length]; first | omega | (simp; omega)) rfl) rfl)) ?_
   refine TL.cons rfl (Step.move (p := (.one (.d (.int .i64 (((((((((k + cntL SHead.ce (a.take i)) + 1) + 1) + 1) + ((a.getD i default).f3.length : Int)) + ((a.getD i default).f4.length : Int)) + 1) + 1) + ((a.getD i default).f5.f2.length : Int)))))) rfl rfl (lt_ok rfl) rfl) ?_
   refine TL.cons rfl (Step.callM2 (xs := [.tmp 76, .tmp 77]) (ps := [(.one (.row 900 [(i, 8)])), (.one (.d (.int .i64 (((((((((k + cntL SHead.ce (a.take i)) + 1) + 1) + 1) + ((a.getD i default).f3.length : Int)) + ((a.getD i default).f4.length : Int)) + 1) + 1) + ((a.getD i default).f5.f2.length : Int)))))]) (js := [(900, (.sl 10 (((upTo SHead.ce SHead.me a k i).set i (⟨k + cntL SHead.ce (a.take i), (k + cntL SHead.ce (a.take i)) + 1, ((k + cntL SHead.ce (a.take i)) + 1) + 1, mkB (a.getD i default).f3 ((((k + cntL SHead.ce (a.take i)) + 1) + 1) + 1), mkB (a.getD i default).f4 (((((k + cntL SHead.ce (a.take i)) + 1) + 1) + 1) + ((a.getD i default).f3.length : Int)), (⟨(((((k + cntL SHead.ce (a.take i)) + 1) + 1) + 1) + ((a.getD i default).f3.length : Int)) + ((a.getD i default).f4.length : Int), ((((((k + cntL SHead.ce (a.take i)) + 1) + 1) + 1) + ((a.getD i default).f3.length : Int)) + ((a.getD i default).f4.length : Int)) + 1, mkB (a.getD i default).f5.f2 ((((((((k + cntL SHead.ce (a.take i)) + 1) + 1) + 1) + ((a.getD i default).f3.length : Int)) + ((a.getD i default).f4.length : Int)) + 1) + 1), mkB (a.getD i default).f5.f3 (((((((((k + cntL SHead.ce (a.take i)) + 1) + 1) + 1) + ((a.getD i default).f3.length : Int)) + ((a.getD i default).f4.length : Int)) + 1) + 1) + ((a.getD i default).f5.f2.length : Int)), (a.getD i default).f5.f4⟩ : SQc)⟩ : SHead)).map SHead.cells)))]) (g := .func 23) (ok_laws_markByteS (a.getD i default).f5.f3 (((((((((k + cntL SHead.ce (a.take i)) + 1) + 1) + 1) + ((a.getD i default).f3.length : Int)) + ((a.getD i default).f4.length : Int)) + 1) + 1) + ((a.getD i default).f5.f2.length : Int)) (by omega) (by first | omega | (have := (by assumption); omega))) rfl rfl (lt_ok rfl) rfl (by kernel_rfl) rfl rfl (.row (T := (Ts 0)) (d := (.sl 10 (((upTo SHead.ce SHead.me a k i).set i (⟨k + cntL SHead.ce (a.take i), (k + cntL SHead.ce (a.take i)) + 1, ((k + cntL SHead.ce (a.take i)) + 1) + 1, mkB (a.getD i default).f3 ((((k + cntL SHead.ce (a.take i)) + 1) + 1) + 1), mkB (a.getD i default).f4 (((((k + cntL SHead.ce (a.take i)) + 1) + 1) + 1) + ((a.getD i default).f3.length : Int)), (⟨(((((k + cntL SHead.ce (a.take i)) + 1) + 1) + 1) + ((a.getD i default).f3.length : Int)) + ((a.getD i default).f4.length : Int), ((((((k + cntL SHead.ce (a.take i)) + 1) + 1) + 1) + ((a.getD i default).f3.length : Int)) + ((a.getD i default).f4.length : Int)) + 1, mkB (a.getD i default).f5.f2 ((((((((k + cntL SHead.ce (a.take i)) + 1) + 1) + 1) + ((a.getD i default).f3.length : Int)) + ((a.getD i default).f4.length : Int)) + 1) + 1), (a.getD i default).f5.f3, (a.getD i default).f5.f4⟩ : SQc)⟩ : SHead)).map SHead.cells))) (e' := (.ints .u8 (mkB (a.getD i default).f5.f3 (((((((((k + cntL SHead.ce (a.take i)) + 1) + 1) + 1) + ((a.getD i default).f3.length : Int)) + ((a.getD i default).f4.length : Int)) + 1) + 1) + ((a.getD i default).f5.f2.length : Int))))) (d' := (.sl 10 (((upTo SHead.ce SHead.me a k i).set i (⟨k + cntL SHead.ce (a.take i), (k + cntL SHead.ce (a.take i)) + 1, ((k + cntL SHead.ce (a.take i)) + 1) + 1, mkB (a.getD i default).f3 ((((k + cntL SHead.ce (a.take i)) + 1) + 1) + 1), mkB (a.getD i default).f4 (((((k + cntL SHead.ce (a.take i)) + 1) + 1) + 1) + ((a.getD i default).f3.length : Int)), (⟨(((((k + cntL SHead.ce (a.take i)) + 1) + 1) + 1) + ((a.getD i default).f3.length : Int)) + ((a.getD i default).f4.length : Int), ((((((k + cntL SHead.ce (a.take i)) + 1) + 1) + 1) + ((a.getD i default).f3.length : Int)) + ((a.getD i default).f4.length : Int)) + 1, mkB (a.getD i default).f5.f2 ((((((((k + cntL SHead.ce (a.take i)) + 1) + 1) + 1) + ((a.getD i default).f3.length : Int)) + ((a.getD i default).f4.length : Int)) + 1) + 1), mkB (a.getD i default).f5.f3 (((((((((k + cntL SHead.ce (a.take i)) + 1) + 1) + 1) + ((a.getD i default).f3.length : Int)) + ((a.getD i default).f4.length : Int)) + 1) + 1) + ((a.getD i default).f5.f2.length : Int)), (a.getD i default).f5.f4⟩ : SQc)⟩ : SHead)).map SHead.cells))) rfl (cell_set_sl (z := 10) (by simp only [upTo_length]; first | omega | (simp; omega)) rfl) rfl (putAt_fld2 (by simp only [upTo_length]; first | omega | (simp; omega)) rfl) rfl (by simp [D.size]) rfl rfl (.d .nil)) rfl) ?_
   refine TL.cons rfl (Step.assign (p := (.one (.d (.int .i64 ((((((((((k + cntL SHead.ce (a.take i)) + 1) + 1) + 1) + ((a.getD i default).f3.length : Int)) + ((a.getD i default).f4.length : Int)) + 1) + 1) + ((a.getD i default).f5.f2.length : Int)) + ((a.getD i default).f5.f3.length : Int)))))) rfl rfl (lt_ok rfl) rfl) ?_
   refine TL.nil ?_
   refine T.region ?_
   refine TL.cons rfl (Step.move (p := (.one (.row 900 []))) rfl rfl (lt_ok rfl) rfl) ?_
   refine TL.cons rfl (Step.move (p := (.one (.d (.int .i64 (i : Int))))) rfl rfl (lt_ok rfl) rfl) ?_
   refine TL.cons rfl (Step.index_row (d := (.sl 10 (((upTo SHead.ce SHead.me a k i).set i (⟨k + cntL SHead.ce (a.take i), (k + cntL SHead.ce (a.take i)) + 1, ((k + cntL SHead.ce (a.take i)) + 1) + 1, mkB (a.getD i default).f3 ((((k + cntL SHead.ce (a.take i)) + 1) + 1) + 1), mkB (a.getD i default).f4 (((((k + cntL SHead.ce (a.take i)) + 1) + 1) + 1) + ((a.getD i default).f3.length : Int)), (⟨(((((k + cntL SHead.ce (a.take i)) + 1) + 1) + 1) + ((a.getD i default).f3.length : Int)) + ((a.getD i default).f4.length : Int), ((((((k + cntL SHead.ce (a.take i)) + 1) + 1) + 1) + ((a.getD i default).f3.length : Int)) + ((a.getD i default).f4.length : Int)) + 1, mkB (a.getD i default).f5.f2 ((((((((k + cntL SHead.ce (a.take i)) + 1) + 1) + 1) + ((a.getD i default).f3.length : Int)) + ((a.getD i default).f4.length : Int)) + 1) + 1), mkB (a.getD i default).f5.f3 (((((((((k + cntL SHead.ce (a.take i)) + 1) + 1) + 1) + ((a.getD i default).f3.length : Int)) + ((a.getD i default).f4.length : Int)) + 1) + 1) + ((a.getD i default).f5.f2.length : Int)), (a.getD i default).f5.f4⟩ : SQc)⟩ : SHead)).map SHead.cells))) (e := 54) (z := 10) (i := (i : Int)) rfl rfl (lt_ok rfl) (by kernel_rfl) rfl rfl rfl rfl (lt_ok rfl) rfl (by first | omega | (simp; omega)) (by simp only [D.at_, D.cell, D.size, List.length_set, List.length_map, upTo_length]; first | omega | (simp; omega))) ?_
   refine TL.cons rfl (Step.fieldAddr_r (d := (.sl 10 (((upTo SHead.ce SHead.me a k i).set i (⟨k + cntL SHead.ce (a.take i), (k + cntL SHead.ce (a.take i)) + 1, ((k + cntL SHead.ce (a.take i)) + 1) + 1, mkB (a.getD i default).f3 ((((k + cntL SHead.ce (a.take i)) + 1) + 1) + 1), mkB (a.getD i default).f4 (((((k + cntL SHead.ce (a.take i)) + 1) + 1) + 1) + ((a.getD i default).f3.length : Int)), (⟨(((((k + cntL SHead.ce (a.take i)) + 1) + 1) + 1) + ((a.getD i default).f3.length : Int)) + ((a.getD i default).f4.length : Int), ((((((k + cntL SHead.ce (a.take i)) + 1) + 1) + 1) + ((a.getD i default).f3.length : Int)) + ((a.getD i default).f4.length : Int)) + 1, mkB (a.getD i default).f5.f2 ((((((((k + cntL SHead.ce (a.take i)) + 1) + 1) + 1) + ((a.getD i default).f3.length : Int)) + ((a.getD i default).f4.length : Int)) + 1) + 1), mkB (a.getD i default).f5.f3 (((((((((k + cntL SHead.ce (a.take i)) + 1) + 1) + 1) + ((a.getD i default).f3.length : Int)) + ((a.getD i default).f4.length : Int)) + 1) + 1) + ((a.getD i default).f5.f2.length : Int)), (a.getD i default).f5.f4⟩ : SQc)⟩ : SHead)).map SHead.cells))) (j := 0) (off := 5) (n := 5) (one := false) rfl rfl (lt_ok rfl) (by kernel_rfl) (Nat.succ_ne_zero _) rfl rfl (lt_ok rfl)) ?_
   refine TL.cons rfl (Step.fieldAddr_r (d := (.sl 10 (((upTo SHead.ce SHead.me a k i).set i (⟨k + cntL SHead.ce (a.take i), (k + cntL SHead.ce (a.take i)) + 1, ((k + cntL SHead.ce (a.take i)) + 1) + 1, mkB (a.getD i default).f3 ((((k + cntL SHead.ce (a.take i)) + 1) + 1) + 1), mkB (a.getD i default).f4 (((((k + cntL SHead.ce (a.take i)) + 1) + 1) + 1) + ((a.getD i default).f3.length : Int)), (⟨(((((k + cntL SHead.ce (a.take i)) + 1) + 1) + 1) + ((a.getD i default).f3.length : Int)) + ((a.getD i default).f4.length : Int), ((((((k + cntL SHead.ce (a.take i)) + 1) + 1) + 1) + ((a.getD i default).f3.length : Int)) + ((a.getD i default).f4.length : Int)) + 1, mkB (a.getD i default).f5.f2 ((((((((k + cntL SHead.ce (a.take i)) + 1) + 1) + 1) + ((a.getD i default).f3.length : Int)) + ((a.getD i default).f4.length : Int)) + 1) + 1), mkB (a.getD i default).f5.f3 (((((((((k + cntL SHead.ce (a.take i)) + 1) + 1) + 1) + ((a.getD i default).f3.length : Int)) + ((a.getD i default).f4.length : Int)) + 1) + 1) + ((a.getD i default).f5.f2.length : Int)), (a.getD i default).f5.f4⟩ : SQc)⟩ : SHead)).map SHead.cells))) (j := 5) (off := 4) (n := 1) (one := true) rfl rfl (lt_ok rfl) (by kernel_rfl) (Nat.succ_ne_zero _) rfl rfl (lt_ok rfl)) ?_
   refine TL.cons rfl (Step.load_row (d := (.sl 10 (((upTo SHead.ce SHead.me a k i).set i (⟨k + cntL SHead.ce (a.take i), (k + cntL SHead.ce (a.take i)) + 1, ((k + cntL SHead.ce (a.take i)) + 1) + 1, mkB (a.getD i default).f3 ((((k + cntL SHead.ce (a.take i)) + 1) + 1) + 1), mkB (a.getD i default).f4 (((((k + cntL SHead.ce (a.take i)) + 1) + 1) + 1) + ((a.getD i default).f3.length : Int)), (⟨(((((k + cntL SHead.ce (a.take i)) + 1) + 1) + 1) + ((a.getD i default).f3.length : Int)) + ((a.getD i default).f4.length : Int), ((((((k + cntL SHead.ce (a.take i)) + 1) + 1) + 1) + ((a.getD i default).f3.length : Int)) + ((a.getD i default).f4.length : Int)) + 1, mkB (a.getD i default).f5.f2 ((((((((k + cntL SHead.ce (a.take i)) + 1) + 1) + 1) + ((a.getD i default).f3.length : Int)) + ((a.getD i default).f4.length : Int)) + 1) + 1), mkB (a.getD i default).f5.f3 (((((((((k + cntL SHead.ce (a.take i)) + 1) + 1) + 1) + ((a.getD i default).f3.length : Int)) + ((a.getD i default).f4.length : Int)) + 1) + 1) + ((a.getD i default).f5.f2.length : Int)), (a.getD i default).f5.f4⟩ : SQc)⟩ : SHead)).map SHead.cells))) (c := .row 900 [(i, 9)]) rfl rfl (lt_ok rfl) (by kernel_rfl) rfl rfl (ofRow_sl (cell_set_sl (z := 10) (by simp only [upTo_length]; first | omega | (simp; omega)) rfl) rfl)) ?_
   refine TL.cons rfl (Step.move (p := (.one (.d (.int .i64 ((((((((((k + cntL SHead.ce (a.take i)) + 1) + 1) + 1) + ((a.getD i default).f3.length : Int)) + ((a.getD i default).f4.length : Int)) + 1) + 1) + ((a.getD i default).f5.f2.length : Int)) + ((a.getD i default).f5.f3.length : Int)))))) rfl rfl (lt_ok rfl) rfl) ?_
   have nn2 := cntBs_nonneg (a.getD i default).f5.f4
   refine TL.cons rfl (Step.callM2 (xs := [.tmp 84, .tmp 85]) (ps := [(.one (.row 900 [(i, 9)])), (.one (.d (.int .i64 ((((((((((k + cntL SHead.ce (a.take i)) + 1) + 1) + 1) + ((a.getD i default).f3.length : Int)) + ((a.getD i default).f4.length : Int)) + 1) + 1) + ((a.getD i default).f5.f2.length : Int)) + ((a.getD i default).f5.f3.length : Int)))))]) (js := [(900, (.sl 10 (((upTo SHead.ce SHead.me a k i).set i (⟨k + cntL SHead.ce (a.take i), (k + cntL SHead.ce (a.take i)) + 1, ((k + cntL SHead.ce (a.take i)) + 1) + 1, mkB (a.getD i default).f3 ((((k + cntL SHead.ce (a.take i)) + 1) + 1) + 1), mkB (a.getD i default).f4 (((((k + cntL SHead.ce (a.take i)) + 1) + 1) + 1) + ((a.getD i default).f3.length : Int)), (⟨(((((k + cntL SHead.ce (a.take i)) + 1) + 1) + 1) + ((a.getD i default).f3.length : Int)) + ((a.getD i default).f4.length : Int), ((((((k + cntL SHead.ce (a.take i)) + 1) + 1) + 1) + ((a.getD i default).f3.length : Int)) + ((a.getD i default).f4.length : Int)) + 1, mkB (a.getD i default).f5.f2 ((((((((k + cntL SHead.ce (a.take i)) + 1) + 1) + 1) + ((a.getD i default).f3.length : Int)) + ((a.getD i default).f4.length : Int)) + 1) + 1), mkB (a.getD i default).f5.f3 (((((((((k + cntL SHead.ce (a.take i)) + 1) + 1) + 1) + ((a.getD i default).f3.length : Int)) + ((a.getD i default).f4.length : Int)) + 1) + 1) + ((a.getD i default).f5.f2.length : Int)), mkBs (a.getD i default).f5.f4 ((((((((((k + cntL SHead.ce (a.take i)) + 1) + 1) + 1) + ((a.getD i default).f3.length : Int)) + ((a.getD i default).f4.length : Int)) + 1) + 1) + ((a.getD i default).f5.f2.length : Int)) + ((a.getD i default).f5.f3.length : Int))⟩ : SQc)⟩ : SHead)).map SHead.cells)))]) (g := .func 63) (ok_laws_markByteSS (a.getD i default).f5.f4 ((((((((((k + cntL SHead.ce (a.take i)) + 1) + 1) + 1) + ((a.getD i default).f3.length : Int)) + ((a.getD i default).f4.length : Int)) + 1) + 1) + ((a.getD i default).f5.f2.length : Int)) + ((a.getD i default).f5.f3.length : Int)) (by omega) (by first | omega | (have := cntBs_le (xs := (a.getD i default).f5.f4) (by assumption); omega))) rfl rfl (lt_ok rfl) rfl (by kernel_rfl) rfl rfl (.row (T := (Ts 0)) (d := (.sl 10 (((upTo SHead.ce SHead.me a k i).set i (⟨k + cntL SHead.ce (a.take i), (k + cntL SHead.ce (a.take i)) + 1, ((k + cntL SHead.ce (a.take i)) + 1) + 1, mkB (a.getD i default).f3 ((((k + cntL SHead.ce (a.take i)) + 1) + 1) + 1), mkB (a.getD i default).f4 (((((k + cntL SHead.ce (a.take i)) + 1) + 1) + 1) + ((a.getD i default).f3.length : Int)), (⟨(((((k + cntL SHead.ce (a.take i)) + 1) + 1) + 1) + ((a.getD i default).f3.length : Int)) + ((a.getD i default).f4.length : Int), ((((((k + cntL SHead.ce (a.take i)) + 1) + 1) + 1) + ((a.getD i default).f3.length : Int)) + ((a.getD i default).f4.length : Int)) + 1, mkB (a.getD i default).f5.f2 ((((((((k + cntL SHead.ce (a.take i)) + 1) + 1) + 1) + ((a.getD i default).f3.length : Int)) + ((a.getD i default).f4.length : Int)) + 1) + 1), mkB (a.getD i default).f5.f3 (((((((((k + cntL SHead.ce (a.take i)) + 1) + 1) + 1) + ((a.getD i default).f3.length : Int)) + ((a.getD i default).f4.length : Int)) + 1) + 1) + ((a.getD i default).f5.f2.length : Int)), (a.getD i default).f5.f4⟩ : SQc)⟩ : SHead)).map SHead.cells))) (e' := (.bss (mkBs (a.getD i default).f5.f4 ((((((((((k + cntL SHead.ce (a.take i)) + 1) + 1) + 1) + ((a.getD i default).f3.length : Int)) + ((a.getD i default).f4.length : Int)) + 1) + 1) + ((a.getD i default).f5.f2.length : Int)) + ((a.getD i default).f5.f3.length : Int))))) (d' := (.sl 10 (((upTo SHead.ce SHead.me a k i).set i (⟨k + cntL SHead.ce (a.take i), (k + cntL SHead.ce (a.take i)) + 1, ((k + cntL SHead.ce (a.take i)) + 1) + 1, mkB (a.getD i default).f3 ((((k + cntL SHead.ce (a.take i)) + 1) + 1) + 1), mkB (a.getD i default).f4 (((((k + cntL SHead.ce (a.take i)) + 1) + 1) + 1) + ((a.getD i default).f3.length : Int)), (⟨(((((k + cntL SHead.ce (a.take i)) + 1) + 1) + 1) + ((a.getD i default).f3.length : Int)) + ((a.getD i default).f4.length : Int), ((((((k + cntL SHead.ce (a.take i)) + 1) + 1) + 1) + ((a.getD i default).f3.length : Int)) + ((a.getD i default).f4.length : Int)) + 1, mkB (a.getD i default).f5.f2 ((((((((k + cntL SHead.ce (a.take i)) + 1) + 1) + 1) + ((a.getD i default).f3.length : Int)) + ((a.getD i default).f4.length : Int)) + 1) + 1), mkB (a.getD i default).f5.f3 (((((((((k + cntL SHead.ce (a.take i)) + 1) + 1) + 1) + ((a.getD i default).f3.length : Int)) + ((a.getD i default).f4.length : Int)) + 1) + 1) + ((a.getD i default).f5.f2.length : Int)), mkBs (a.getD i default).f5.f4 ((((((((((k + cntL SHead.ce (a.take i)) + 1) + 1) + 1) + ((a.getD i default).f3.length : Int)) + ((a.getD i default).f4.length : Int)) + 1) + 1) + ((a.getD i default).f5.f2.length : Int)) + ((a.getD i default).f5.f3.length : Int))⟩ : SQc)⟩ : SHead)).map SHead.cells))) rfl (cell_set_sl (z := 10) (by simp only [upTo_length]; first | omega | (simp; omega)) rfl) rfl (putAt_fld2 (by simp only [upTo_length]; first | omega | (simp; omega)) rfl) rfl (by simp [D.size]) rfl rfl (.d .nil)) rfl) ?_
   refine TL.cons rfl (Step.assign (p := (.one (.d (.int .i64 (((((((((((k + cntL SHead.ce (a.take i)) + 1) + 1) + 1) + ((a.getD i default).f3.length : Int)) + ((a.getD i default).f4.length : Int)) + 1) + 1) + ((a.getD i default).f5.f2.length : Int)) + ((a.getD i default).f5.f3.length : Int)) + cntL (fun x : List Int => (x.length : Int)) (a.getD i default).f5.f4))))) rfl rfl (lt_ok rfl) rfl) ?_
   refine TL.nil ?_
   refine T.region ?_
   refine TL.cons rfl (Step.move (p := (.one (.d (.int .i64 (i : Int))))) rfl rfl (lt_ok rfl) rfl) ?_
   refine TL.cons rfl (Step.bin (r := .int .i64 ((i : Int) + 1)) rfl rfl (lt_ok rfl) rfl rfl (Bin.add (a := (i : Int)) (b := 1) (by first | exact wrap_ok (by first | omega | (simp; omega)) (by first | omega | (simp; omega)) | rfl))) ?_
   refine TL.cons rfl (Step.assign (p := (.one (.d (.int .i64 ((i : Int) + 1))))) rfl rfl (lt_ok rfl) rfl) ?_
   refine TL.nil ?_
   refine ⟨i + 1, by omega, by first | omega | (dsimp only; omega), Env.le_mk ⟨rfl, rfl, ?_, ?_, trivial⟩ ⟨?_, trivial⟩ trivial⟩ <;> (first | exact congrArg (fun x => some (Ts 0, D.sl 10 (List.map SHead.cells x))) (upTo_next (df := default) (by omega) rfl) | exact congrArg (fun x => some (Ts 0, D.sl 10 (List.map SHead.cells x))) (upTo_first a k default) | rfl | (refine congrArg (fun n => PV.one (.d (.int .i64 n))) ?_; first | omega | (simp; done) | (simp [cntL]; done)))
  ·
   replace h1 := of_decide_eq_false h1
   refine T.exit ?_
   refine T.seq ?_
   refine T.region ?_
   refine TL.cons rfl (Step.move (p := (.one (.d (.int .i64 (k + cntL SHead.ce (a.take i)))))) rfl rfl (lt_ok rfl) rfl) ?_
   refine TL.cons rfl (Step.assign (p := (.one (.d (.int .i64 (k + cntL SHead.ce (a.take i)))))) rfl rfl (lt_ok rfl) rfl) ?_
   refine TL.nil ?_
   refine T.ret ?_
   refine ⟨⟨⟨[(false, [.d (.int .i64 (k + cntL SHead.ce (a.take i)))])], (.cons rfl .nil), rfl, [], (RetC.rd' ?_ .nil)⟩, rfl⟩, (.mk' (by exact congrArg (fun x => some (Ts 0, D.sl 10 (List.map SHead.cells x))) (upTo_end (by omega))) (.rd .nil'))⟩ <;> ((congr 1; rw [cntL_all (by omega)]))
theorem ok_laws_markProof (a : SProof) (k : Int) (h0_ : 0 ≤ k) (h1_ : k + a.cm ≤ 4611686018427387904) : MK Try.prog 24 [.agg [.mk (.sl 10 (a.f0.map SHead.cells)) (.sl 10 ((mkL SHead.ce SHead.me a.f0 k).map SHead.cells)), .rd (.int .i64 a.f1.f0), .rd (.int .i64 a.f1.f1), .mk (.ints .u8 a.f1.f2) (.ints .u8 (mkB a.f1.f2 (k + cntL SHead.ce a.f0))), .mk (.ints .u8 a.f1.f3) (.ints .u8 (mkB a.f1.f3 ((k + cntL SHead.ce a.f0) + (a.f1.f2.length : Int)))), .mk (.bss a.f1.f4) (.bss (mkBs a.f1.f4 (((k + cntL SHead.ce a.f0) + (a.f1.f2.length : Int)) + (a.f1.f3.length : Int))))], .one (.rd (.int .i64 k))] [(false, [.rd (.int .i64 (k + a.cm))])] := by
 refine MK.intro Try.func24 rfl 14 rfl (le_ok rfl) (le_ok rfl) rfl fun w Z IX pin Ts hp => ?_
 have n0 := cntL_nonneg SHead.ce_nn a.f0
 have n1 := SQc.cm_nn a.f1
 simp only [SProof.cm] at h1_
 refine T.seq ?_
 refine T.region ?_
 refine TL.cons rfl (Step.box (p := (.agg [.row 900 [], .d (.int .i64 a.f1.f0), .d (.int .i64 a.f1.f1), .row 903 [], .row 904 [], .row 905 []])) (ps := [.row 900 [], .d (.int .i64 a.f1.f0), .d (.int .i64 a.f1.f1), .row 903 [], .row 904 [], .row 905 []]) rfl rfl (lt_ok rfl) rfl rfl rfl rfl rfl) ?_
 refine TL.cons rfl (Step.assign (p := (.one (.d (.int .i64 0)))) rfl rfl (lt_ok rfl) rfl) ?_
 refine TL.nil ?_
 refine T.seq ?_
 refine T.region ?_
 refine TL.cons rfl (Step.fieldAddr (q := 0) (off := 0) (n := 1) (one := true) rfl rfl (lt_ok rfl) (by kernel_rfl) (Nat.succ_ne_zero _) rfl) ?_
 refine TL.cons rfl (Step.load_box (c := .row 900 []) rfl rfl (lt_ok rfl) (by kernel_rfl) rfl rfl rfl) ?_
 refine TL.cons rfl (Step.move (p := (.one (.d (.int .i64 k)))) rfl rfl (lt_ok rfl) rfl) ?_
 have nn1 := cntL_nonneg SHead.ce_nn a.f0
 refine TL.cons rfl (Step.callM2 (xs := [.tmp 6, .tmp 7]) (ps := [(.one (.row 900 [])), (.one (.d (.int .i64 k)))]) (js := [(900, (.sl 10 ((mkL SHead.ce SHead.me a.f0 k).map SHead.cells)))]) (g := .func 81) (ok_laws_markHeadS a.f0 k (by omega) (by first | omega | (have := SHead.cL_le (xs := a.f0) (by assumption); omega))) rfl rfl (lt_ok rfl) rfl (by kernel_rfl) rfl rfl (.row (T := (Ts 0)) (d := (.sl 10 (a.f0.map SHead.cells))) (e' := (.sl 10 ((mkL SHead.ce SHead.me a.f0 k).map SHead.cells))) (d' := (.sl 10 ((mkL SHead.ce SHead.me a.f0 k).map SHead.cells))) rfl rfl rfl rfl rfl (by simp [D.size, mkL_length]) rfl rfl (.d .nil)) rfl) ?_
 refine TL.cons rfl (Step.assign (p := (.one (.d (.int .i64 (k + cntL SHead.ce a.f0))))) rfl rfl (lt_ok rfl) rfl) ?_
 refine TL.nil ?_
 refine T.seq ?_
 refine T.region ?_
 refine TL.cons rfl (Step.fieldAddr (q := 0) (off := 1) (n := 5) (one := false) rfl rfl (lt_ok rfl) (by kernel_rfl) (Nat.succ_ne_zero _) rfl) ?_
 refine TL.cons rfl (Step.load_box_agg (n := 5) (qs := [.d (.int .i64 a.f1.f0), .d (.int .i64 a.f1.f1), .row 903 [], .row 904 [], .row 905 []]) rfl rfl (lt_ok rfl) (by kernel_rfl) rfl rfl rfl rfl) ?_
 refine TL.cons rfl (Step.move (p := (.one (.d (.int .i64 (k + cntL SHead.ce a.f0))))) rfl rfl (lt_ok rfl) rfl) ?_
 have nn2 := SQc.cm_nn a.f1
 refine TL.cons rfl (Step.callM2 (xs := [.tmp 10, .tmp 11]) (ps := [(.agg [.d (.int .i64 a.f1.f0), .d (.int .i64 a.f1.f1), .row 903 [], .row 904 [], .row 905 []]), (.one (.d (.int .i64 (k + cntL SHead.ce a.f0))))]) (js := [(903, (.ints .u8 (mkB a.f1.f2 (k + cntL SHead.ce a.f0)))), (904, (.ints .u8 (mkB a.f1.f3 ((k + cntL SHead.ce a.f0) + (a.f1.f2.length : Int))))), (905, (.bss (mkBs a.f1.f4 (((k + cntL SHead.ce a.f0) + (a.f1.f2.length : Int)) + (a.f1.f3.length : Int)))))]) (g := .func 35) (ok_laws_markQc a.f1 (k + cntL SHead.ce a.f0) (by omega) (by first | omega | (have := SQc.cm_le (x := a.f1) (by assumption); omega))) rfl rfl (lt_ok rfl) rfl (by kernel_rfl) rfl rfl (.d (.d (.row (T := (Ts 3)) (d := (.ints .u8 a.f1.f2)) (e' := (.ints .u8 (mkB a.f1.f2 (k + cntL SHead.ce a.f0)))) (d' := (.ints .u8 (mkB a.f1.f2 (k + cntL SHead.ce a.f0)))) rfl rfl rfl rfl rfl (by simp [D.size, mkL_length]) rfl rfl (.row (T := (Ts 4)) (d := (.ints .u8 a.f1.f3)) (e' := (.ints .u8 (mkB a.f1.f3 ((k + cntL SHead.ce a.f0) + (a.f1.f2.length : Int))))) (d' := (.ints .u8 (mkB a.f1.f3 ((k + cntL SHead.ce a.f0) + (a.f1.f2.length : Int))))) rfl rfl rfl rfl rfl (by simp [D.size, mkL_length]) rfl rfl (.row (T := (Ts 5)) (d := (.bss a.f1.f4)) (e' := (.bss (mkBs a.f1.f4 (((k + cntL SHead.ce a.f0) + (a.f1.f2.length : Int)) + (a.f1.f3.length : Int))))) (d' := (.bss (mkBs a.f1.f4 (((k + cntL SHead.ce a.f0) + (a.f1.f2.length : Int)) + (a.f1.f3.length : Int))))) rfl rfl rfl rfl rfl (by simp [D.size, mkL_length]) rfl rfl (.d .nil)))))) rfl) ?_
 refine TL.cons rfl (Step.assign (p := (.one (.d (.int .i64 ((k + cntL SHead.ce a.f0) + a.f1.cm))))) rfl rfl (lt_ok rfl) rfl) ?_
 refine TL.nil ?_
 refine T.seq ?_
 refine T.region ?_
 refine TL.cons rfl (Step.move (p := (.one (.d (.int .i64 ((k + cntL SHead.ce a.f0) + a.f1.cm))))) rfl rfl (lt_ok rfl) rfl) ?_
 refine TL.cons rfl (Step.assign (p := (.one (.d (.int .i64 ((k + cntL SHead.ce a.f0) + a.f1.cm))))) rfl rfl (lt_ok rfl) rfl) ?_
 refine TL.nil ?_
 refine T.ret ?_
 refine ⟨⟨⟨[(false, [.d (.int .i64 ((k + cntL SHead.ce a.f0) + a.f1.cm))])], (.cons rfl .nil), rfl, [], (RetC.rd' ?_ .nil)⟩, rfl⟩, (.mk' (by rfl) (.rd (.rd (.mk' (by rfl) (.mk' (by rfl) (.mk' (by rfl) (.rd .nil')))))))⟩ <;> (first | rfl | (congr 1; simp only [SProof.cm]; omega))
theorem ok_spec_l01In (n : Int) (lo : Int) (hi : Int) : RO Try.prog 114 [.one (.int .i64 n), .one (.int .i64 lo), .one (.int .i64 hi)] [(false, [.rd (.bool (decide (lo ≤ n ∧ n ≤ hi)))])] := by
 refine RO.intro Try.func114 rfl 15 rfl (le_ok rfl) fun w Z => ?_
 refine T.seq ?_
 refine T.region ?_
 refine TL.cons rfl (Step.assign (p := (.one (.d (.bool false)))) rfl rfl (lt_ok rfl) rfl) ?_
 refine TL.nil ?_
 refine T.seq ?_
 refine T.region ?_
 refine TL.cons rfl (Step.move (p := (.one (.d (.int .i64 n)))) rfl rfl (lt_ok rfl) rfl) ?_
 refine TL.cons rfl (Step.move (p := (.one (.d (.int .i64 lo)))) rfl rfl (lt_ok rfl) rfl) ?_
 refine TL.cons rfl (Step.bin rfl rfl (lt_ok rfl) rfl rfl (Bin.geq (k := .i64) (a := n) (b := lo))) ?_
 refine TL.cons rfl (Step.move (p := (.one (.d (.bool (decide (lo ≤ n)))))) rfl rfl (lt_ok rfl) rfl) ?_
 rcases Bool.eq_false_or_eq_true (decide (lo ≤ n)) with hb1 | hb1
 ·
  refine TL.known 10 hb1 rfl ?_
  refine TL.gyes 10 rfl rfl (lt_ok rfl) rfl (Step.move (p := (.one (.d (.int .i64 n)))) rfl rfl (lt_ok rfl) rfl) ?_
  refine TL.gyes 10 rfl rfl (lt_ok rfl) rfl (Step.move (p := (.one (.d (.int .i64 hi)))) rfl rfl (lt_ok rfl) rfl) ?_
  refine TL.gyes 10 rfl rfl (lt_ok rfl) rfl (Step.bin rfl rfl (lt_ok rfl) rfl rfl (Bin.leq (k := .i64) (a := n) (b := hi))) ?_
  refine TL.cons rfl (Step.pick (b := true) (p := (.one (.d (.bool (decide (n ≤ hi)))))) rfl rfl (lt_ok rfl) rfl rfl) ?_
  refine TL.cons rfl (Step.assign (p := (.one (.d (.bool (decide (n ≤ hi)))))) rfl rfl (lt_ok rfl) rfl) ?_
  refine TL.nil ?_
  refine T.ret ?_
  refine ⟨[(false, [.d (.bool (decide (n ≤ hi)))])], (.cons rfl .nil), rfl, [], (RetC.rd' ?_ .nil)⟩ <;> (first | (congr 1; simp_all; done) | (congr 1; simp_all; omega))
 ·
  refine TL.known 10 hb1 rfl ?_
  refine TL.goff 10 rfl rfl (lt_ok rfl) rfl rfl rfl (lt_ok rfl) ?_
  refine TL.goff 10 rfl rfl (lt_ok rfl) rfl rfl rfl (lt_ok rfl) ?_
  refine TL.goff 10 rfl rfl (lt_ok rfl) rfl rfl rfl (lt_ok rfl) ?_
  refine TL.cons rfl (Step.pick (b := false) (p := (.one (.d (.bool false)))) rfl rfl (lt_ok rfl) rfl rfl) ?_
  refine TL.cons rfl (Step.assign (p := (.one (.d (.bool false)))) rfl rfl (lt_ok rfl) rfl) ?_
  refine TL.nil ?_
  refine T.ret ?_
  refine ⟨[(false, [.d (.bool false)])], (.cons rfl .nil), rfl, [], (RetC.rd' ?_ .nil)⟩ <;> (first | (congr 1; simp_all; done) | (congr 1; simp_all; omega))
theorem ok_spec_l02Signers (n : Int) : RO Try.prog 172 [.one (.int .i64 n)] [(false, [.rd (.bool (decide (1 ≤ n ∧ n ≤ 10)))])] := by
 refine RO.intro Try.func172 rfl 5 rfl (le_ok rfl) fun w Z => ?_
 refine T.seq ?_
 refine T.region ?_
 refine TL.cons rfl (Step.assign (p := (.one (.d (.bool false)))) rfl rfl (lt_ok rfl) rfl) ?_
 refine TL.nil ?_
 refine T.seq ?_
 refine T.region ?_
 refine TL.cons rfl (Step.move (p := (.one (.d (.int .i64 n)))) rfl rfl (lt_ok rfl) rfl) ?_
 refine TL.cons rfl (Step.call (f := 114) (xs := [.tmp 3, .const (.int .i64 1), .const (.int .i64 10)]) (ps := [(.one (.d (.int .i64 n))), (.one (.d (.int .i64 1))), (.one (.d (.int .i64 10)))]) false (g := .func 114) rfl rfl (lt_ok rfl) rfl (by kernel_rfl) rfl (.cons (.one (.d _)) (.cons (.one (.d _)) (.cons (.one (.d _)) .nil))) (ok_spec_l01In n 1 10) (.inr rfl) rfl (by simp) rfl) ?_
 refine TL.cons rfl (Step.assign (p := (.one (.d (.bool (decide (1 ≤ n ∧ n ≤ 10)))))) rfl rfl (lt_ok rfl) rfl) ?_
 refine TL.nil ?_
 refine T.ret ?_
 exact ⟨[(false, [.d (.bool (decide (1 ≤ n ∧ n ≤ 10)))])], (.cons rfl .nil), rfl, [], (RetC.rd' rfl .nil)⟩
theorem ok_spec_LimitsOk (l : SLimits) : RO Try.prog 122 [.agg l.cells] [(false, [.rd (.bool (limOk l))])] := by
 refine RO.intro Try.func122 rfl 26 rfl (le_ok rfl) fun w Z => ?_
 refine T.seq ?_
 refine T.region ?_
 refine TL.cons rfl (Step.box (p := (.agg [.d (.int .i64 l.f0), .d (.int .i64 l.f1), .d (.int .i64 l.f2), .d (.int .i64 l.f3), .d (.int .i64 l.f4)])) (ps := [.d (.int .i64 l.f0), .d (.int .i64 l.f1), .d (.int .i64 l.f2), .d (.int .i64 l.f3), .d (.int .i64 l.f4)]) rfl rfl (lt_ok rfl) rfl rfl rfl rfl rfl) ?_
 refine TL.cons rfl (Step.assign (p := (.one (.d (.bool false)))) rfl rfl (lt_ok rfl) rfl) ?_
 refine TL.nil ?_
 refine T.seq ?_
 refine T.region ?_
 refine TL.cons rfl (Step.fieldAddr (q := 0) (off := 0) (n := 1) (one := true) rfl rfl (lt_ok rfl) (by kernel_rfl) (Nat.succ_ne_zero _) rfl) ?_
 refine TL.cons rfl (Step.load_box (c := .d (.int .i64 l.f0)) rfl rfl (lt_ok rfl) (by kernel_rfl) rfl rfl rfl) ?_
 refine TL.cons rfl (Step.call (f := 172) (xs := [.tmp 4]) (ps := [(.one (.d (.int .i64 l.f0)))]) false (g := .func 172) rfl rfl (lt_ok rfl) rfl (by kernel_rfl) rfl (.cons (.one (.d _)) .nil) (ok_spec_l02Signers l.f0) (.inr rfl) rfl (by simp) rfl) ?_
 refine TL.cons rfl (Step.move (p := (.one (.d (.bool (decide (1 ≤ l.f0 ∧ l.f0 ≤ 10)))))) rfl rfl (lt_ok rfl) rfl) ?_
 rcases Bool.eq_false_or_eq_true (decide (1 ≤ l.f0 ∧ l.f0 ≤ 10)) with hb1 | hb1
 ·
  refine TL.known 6 hb1 rfl ?_
  refine TL.gyes 6 rfl rfl (lt_ok rfl) rfl (Step.fieldAddr (q := 0) (off := 1) (n := 1) (one := true) rfl rfl (lt_ok rfl) (by kernel_rfl) (Nat.succ_ne_zero _) rfl) ?_
  refine TL.gyes 6 rfl rfl (lt_ok rfl) rfl (Step.load_box (c := .d (.int .i64 l.f1)) rfl rfl (lt_ok rfl) (by kernel_rfl) rfl rfl rfl) ?_
  refine TL.gyes 6 rfl rfl (lt_ok rfl) rfl (Step.call (f := 114) (xs := [.tmp 8, .const (.int .i64 0), .const (.int .i64 40)]) (ps := [(.one (.d (.int .i64 l.f1))), (.one (.d (.int .i64 0))), (.one (.d (.int .i64 40)))]) false (g := .func 114) rfl rfl (lt_ok rfl) rfl (by kernel_rfl) rfl (.cons (.one (.d _)) (.cons (.one (.d _)) (.cons (.one (.d _)) .nil))) (ok_spec_l01In l.f1 0 40) (.inr rfl) rfl (by simp) rfl) ?_
  refine TL.cons rfl (Step.pick (b := true) (p := (.one (.d (.bool (decide (0 ≤ l.f1 ∧ l.f1 ≤ 40)))))) rfl rfl (lt_ok rfl) rfl rfl) ?_
  refine TL.cons rfl (Step.move (p := (.one (.d (.bool (decide (0 ≤ l.f1 ∧ l.f1 ≤ 40)))))) rfl rfl (lt_ok rfl) rfl) ?_
  rcases Bool.eq_false_or_eq_true (decide (0 ≤ l.f1 ∧ l.f1 ≤ 40)) with hb2 | hb2
  ·
   refine TL.known 11 hb2 rfl ?_
   refine TL.gyes 11 rfl rfl (lt_ok rfl) rfl (Step.fieldAddr (q := 0) (off := 2) (n := 1) (one := true) rfl rfl (lt_ok rfl) (by kernel_rfl) (Nat.succ_ne_zero _) rfl) ?_
   refine TL.gyes 11 rfl rfl (lt_ok rfl) rfl (Step.load_box (c := .d (.int .i64 l.f2)) rfl rfl (lt_ok rfl) (by kernel_rfl) rfl rfl rfl) ?_
   refine TL.gyes 11 rfl rfl (lt_ok rfl) rfl (Step.call (f := 114) (xs := [.tmp 13, .const (.int .i64 0), .const (.int .i64 8)]) (ps := [(.one (.d (.int .i64 l.f2))), (.one (.d (.int .i64 0))), (.one (.d (.int .i64 8)))]) false (g := .func 114) rfl rfl (lt_ok rfl) rfl (by kernel_rfl) rfl (.cons (.one (.d _)) (.cons (.one (.d _)) (.cons (.one (.d _)) .nil))) (ok_spec_l01In l.f2 0 8) (.inr rfl) rfl (by simp) rfl) ?_
   refine TL.cons rfl (Step.pick (b := true) (p := (.one (.d (.bool (decide (0 ≤ l.f2 ∧ l.f2 ≤ 8)))))) rfl rfl (lt_ok rfl) rfl rfl) ?_
   refine TL.cons rfl (Step.move (p := (.one (.d (.bool (decide (0 ≤ l.f2 ∧ l.f2 ≤ 8)))))) rfl rfl (lt_ok rfl) rfl) ?_
   rcases Bool.eq_false_or_eq_true (decide (0 ≤ l.f2 ∧ l.f2 ≤ 8)) with hb3 | hb3
   ·
    refine TL.known 16 hb3 rfl ?_
    refine TL.gyes 16 rfl rfl (lt_ok rfl) rfl (Step.fieldAddr (q := 0) (off := 3) (n := 1) (one := true) rfl rfl (lt_ok rfl) (by kernel_rfl) (Nat.succ_ne_zero _) rfl) ?_
    refine TL.gyes 16 rfl rfl (lt_ok rfl) rfl (Step.load_box (c := .d (.int .i64 l.f3)) rfl rfl (lt_ok rfl) (by kernel_rfl) rfl rfl rfl) ?_
    refine TL.gyes 16 rfl rfl (lt_ok rfl) rfl (Step.call (f := 114) (xs := [.tmp 18, .const (.int .i64 1), .const (.int .i64 4000)]) (ps := [(.one (.d (.int .i64 l.f3))), (.one (.d (.int .i64 1))), (.one (.d (.int .i64 4000)))]) false (g := .func 114) rfl rfl (lt_ok rfl) rfl (by kernel_rfl) rfl (.cons (.one (.d _)) (.cons (.one (.d _)) (.cons (.one (.d _)) .nil))) (ok_spec_l01In l.f3 1 4000) (.inr rfl) rfl (by simp) rfl) ?_
    refine TL.cons rfl (Step.pick (b := true) (p := (.one (.d (.bool (decide (1 ≤ l.f3 ∧ l.f3 ≤ 4000)))))) rfl rfl (lt_ok rfl) rfl rfl) ?_
    refine TL.cons rfl (Step.move (p := (.one (.d (.bool (decide (1 ≤ l.f3 ∧ l.f3 ≤ 4000)))))) rfl rfl (lt_ok rfl) rfl) ?_
    rcases Bool.eq_false_or_eq_true (decide (1 ≤ l.f3 ∧ l.f3 ≤ 4000)) with hb4 | hb4
    ·
     refine TL.known 21 hb4 rfl ?_
     refine TL.gyes 21 rfl rfl (lt_ok rfl) rfl (Step.fieldAddr (q := 0) (off := 4) (n := 1) (one := true) rfl rfl (lt_ok rfl) (by kernel_rfl) (Nat.succ_ne_zero _) rfl) ?_
     refine TL.gyes 21 rfl rfl (lt_ok rfl) rfl (Step.load_box (c := .d (.int .i64 l.f4)) rfl rfl (lt_ok rfl) (by kernel_rfl) rfl rfl rfl) ?_
     refine TL.gyes 21 rfl rfl (lt_ok rfl) rfl (Step.call (f := 114) (xs := [.tmp 23, .const (.int .i64 3), .const (.int .i64 5)]) (ps := [(.one (.d (.int .i64 l.f4))), (.one (.d (.int .i64 3))), (.one (.d (.int .i64 5)))]) false (g := .func 114) rfl rfl (lt_ok rfl) rfl (by kernel_rfl) rfl (.cons (.one (.d _)) (.cons (.one (.d _)) (.cons (.one (.d _)) .nil))) (ok_spec_l01In l.f4 3 5) (.inr rfl) rfl (by simp) rfl) ?_
     refine TL.cons rfl (Step.pick (b := true) (p := (.one (.d (.bool (decide (3 ≤ l.f4 ∧ l.f4 ≤ 5)))))) rfl rfl (lt_ok rfl) rfl rfl) ?_
     refine TL.cons rfl (Step.assign (p := (.one (.d (.bool (decide (3 ≤ l.f4 ∧ l.f4 ≤ 5)))))) rfl rfl (lt_ok rfl) rfl) ?_
     refine TL.nil ?_
     refine T.ret ?_
     refine ⟨[(false, [.d (.bool (decide (3 ≤ l.f4 ∧ l.f4 ≤ 5)))])], (.cons rfl .nil), rfl, [], (RetC.rd' ?_ .nil)⟩ <;> (first | rfl | (congr 1; symm; simp only [limOk, *, Bool.and_true, Bool.true_and, Bool.and_false, Bool.false_and, decide_true, decide_false, and_true, true_and, and_self, and_false, false_and, Bool.and_self, not_true, not_false, Bool.not_true, Bool.not_false, ge_iff_le, gt_iff_lt, if_true, if_false, Bool.false_eq_true, ite_true, ite_false, reduceIte]; done) | (congr 1; symm; simp_all [limOk]; done) | (congr 1; symm; simp_all [limOk]; omega))
    ·
     refine TL.known 21 hb4 rfl ?_
     refine TL.goff 21 rfl rfl (lt_ok rfl) rfl rfl rfl (lt_ok rfl) ?_
     refine TL.goff 21 rfl rfl (lt_ok rfl) rfl rfl rfl (lt_ok rfl) ?_
     refine TL.goff 21 rfl rfl (lt_ok rfl) rfl rfl rfl (lt_ok rfl) ?_
     refine TL.cons rfl (Step.pick (b := false) (p := (.one (.d (.bool false)))) rfl rfl (lt_ok rfl) rfl rfl) ?_
     refine TL.cons rfl (Step.assign (p := (.one (.d (.bool false)))) rfl rfl (lt_ok rfl) rfl) ?_
     refine TL.nil ?_
     refine T.ret ?_
     refine ⟨[(false, [.d (.bool false)])], (.cons rfl .nil), rfl, [], (RetC.rd' ?_ .nil)⟩ <;> (first | rfl | (congr 1; symm; simp only [limOk, *, Bool.and_true, Bool.true_and, Bool.and_false, Bool.false_and, decide_true, decide_false, and_true, true_and, and_self, and_false, false_and, Bool.and_self, not_true, not_false, Bool.not_true, Bool.not_false, ge_iff_le, gt_iff_lt, if_true, if_false, Bool.false_eq_true, ite_true, ite_false, reduceIte]; done) | (congr 1; symm; simp_all [limOk]; done) | (congr 1; symm; simp_all [limOk]; omega))
   ·
    refine TL.known 16 hb3 rfl ?_
    refine TL.goff 16 rfl rfl (lt_ok rfl) rfl rfl rfl (lt_ok rfl) ?_
    refine TL.goff 16 rfl rfl (lt_ok rfl) rfl rfl rfl (lt_ok rfl) ?_
    refine TL.goff 16 rfl rfl (lt_ok rfl) rfl rfl rfl (lt_ok rfl) ?_
    refine TL.cons rfl (Step.pick (b := false) (p := (.one (.d (.bool false)))) rfl rfl (lt_ok rfl) rfl rfl) ?_
    refine TL.cons rfl (Step.move (p := (.one (.d (.bool false)))) rfl rfl (lt_ok rfl) rfl) ?_
    refine TL.goff 21 rfl rfl (lt_ok rfl) rfl rfl rfl (lt_ok rfl) ?_
    refine TL.goff 21 rfl rfl (lt_ok rfl) rfl rfl rfl (lt_ok rfl) ?_
    refine TL.goff 21 rfl rfl (lt_ok rfl) rfl rfl rfl (lt_ok rfl) ?_
    refine TL.cons rfl (Step.pick (b := false) (p := (.one (.d (.bool false)))) rfl rfl (lt_ok rfl) rfl rfl) ?_
    refine TL.cons rfl (Step.assign (p := (.one (.d (.bool false)))) rfl rfl (lt_ok rfl) rfl) ?_
    refine TL.nil ?_
    refine T.ret ?_
    refine ⟨[(false, [.d (.bool false)])], (.cons rfl .nil), rfl, [], (RetC.rd' ?_ .nil)⟩ <;> (first | rfl | (congr 1; symm; simp only [limOk, *, Bool.and_true, Bool.true_and, Bool.and_false, Bool.false_and, decide_true, decide_false, and_true, true_and, and_self, and_false, false_and, Bool.and_self, not_true, not_false, Bool.not_true, Bool.not_false, ge_iff_le, gt_iff_lt, if_true, if_false, Bool.false_eq_true, ite_true, ite_false, reduceIte]; done) | (congr 1; symm; simp_all [limOk]; done) | (congr 1; symm; simp_all [limOk]; omega))
  ·
   refine TL.known 11 hb2 rfl ?_
   refine TL.goff 11 rfl rfl (lt_ok rfl) rfl rfl rfl (lt_ok rfl) ?_
   refine TL.goff 11 rfl rfl (lt_ok rfl) rfl rfl rfl (lt_ok rfl) ?_
   refine TL.goff 11 rfl rfl (lt_ok rfl) rfl rfl rfl (lt_ok rfl) ?_
   refine TL.cons rfl (Step.pick (b := false) (p := (.one (.d (.bool false)))) rfl rfl (lt_ok rfl) rfl rfl) ?_
   refine TL.cons rfl (Step.move (p := (.one (.d (.bool false)))) rfl rfl (lt_ok rfl) rfl) ?_
   refine TL.goff 16 rfl rfl (lt_ok rfl) rfl rfl rfl (lt_ok rfl) ?_
   refine TL.goff 16 rfl rfl (lt_ok rfl) rfl rfl rfl (lt_ok rfl) ?_
   refine TL.goff 16 rfl rfl (lt_ok rfl) rfl rfl rfl (lt_ok rfl) ?_
   refine TL.cons rfl (Step.pick (b := false) (p := (.one (.d (.bool false)))) rfl rfl (lt_ok rfl) rfl rfl) ?_
   refine TL.cons rfl (Step.move (p := (.one (.d (.bool false)))) rfl rfl (lt_ok rfl) rfl) ?_
   refine TL.goff 21 rfl rfl (lt_ok rfl) rfl rfl rfl (lt_ok rfl) ?_
   refine TL.goff 21 rfl rfl (lt_ok rfl) rfl rfl rfl (lt_ok rfl) ?_
   refine TL.goff 21 rfl rfl (lt_ok rfl) rfl rfl rfl (lt_ok rfl) ?_
   refine TL.cons rfl (Step.pick (b := false) (p := (.one (.d (.bool false)))) rfl rfl (lt_ok rfl) rfl rfl) ?_
   refine TL.cons rfl (Step.assign (p := (.one (.d (.bool false)))) rfl rfl (lt_ok rfl) rfl) ?_
   refine TL.nil ?_
   refine T.ret ?_
   refine ⟨[(false, [.d (.bool false)])], (.cons rfl .nil), rfl, [], (RetC.rd' ?_ .nil)⟩ <;> (first | rfl | (congr 1; symm; simp only [limOk, *, Bool.and_true, Bool.true_and, Bool.and_false, Bool.false_and, decide_true, decide_false, and_true, true_and, and_self, and_false, false_and, Bool.and_self, not_true, not_false, Bool.not_true, Bool.not_false, ge_iff_le, gt_iff_lt, if_true, if_false, Bool.false_eq_true, ite_true, ite_false, reduceIte]; done) | (congr 1; symm; simp_all [limOk]; done) | (congr 1; symm; simp_all [limOk]; omega))
 ·
  refine TL.known 6 hb1 rfl ?_
  refine TL.goff 6 rfl rfl (lt_ok rfl) rfl rfl rfl (lt_ok rfl) ?_
  refine TL.goff 6 rfl rfl (lt_ok rfl) rfl rfl rfl (lt_ok rfl) ?_
  refine TL.goff 6 rfl rfl (lt_ok rfl) rfl rfl rfl (lt_ok rfl) ?_
  refine TL.cons rfl (Step.pick (b := false) (p := (.one (.d (.bool false)))) rfl rfl (lt_ok rfl) rfl rfl) ?_
  refine TL.cons rfl (Step.move (p := (.one (.d (.bool false)))) rfl rfl (lt_ok rfl) rfl) ?_
  refine TL.goff 11 rfl rfl (lt_ok rfl) rfl rfl rfl (lt_ok rfl) ?_
  refine TL.goff 11 rfl rfl (lt_ok rfl) rfl rfl rfl (lt_ok rfl) ?_
  refine TL.goff 11 rfl rfl (lt_ok rfl) rfl rfl rfl (lt_ok rfl) ?_
  refine TL.cons rfl (Step.pick (b := false) (p := (.one (.d (.bool false)))) rfl rfl (lt_ok rfl) rfl rfl) ?_
  refine TL.cons rfl (Step.move (p := (.one (.d (.bool false)))) rfl rfl (lt_ok rfl) rfl) ?_
  refine TL.goff 16 rfl rfl (lt_ok rfl) rfl rfl rfl (lt_ok rfl) ?_
  refine TL.goff 16 rfl rfl (lt_ok rfl) rfl rfl rfl (lt_ok rfl) ?_
  refine TL.goff 16 rfl rfl (lt_ok rfl) rfl rfl rfl (lt_ok rfl) ?_
  refine TL.cons rfl (Step.pick (b := false) (p := (.one (.d (.bool false)))) rfl rfl (lt_ok rfl) rfl rfl) ?_
  refine TL.cons rfl (Step.move (p := (.one (.d (.bool false)))) rfl rfl (lt_ok rfl) rfl) ?_
  refine TL.goff 21 rfl rfl (lt_ok rfl) rfl rfl rfl (lt_ok rfl) ?_
  refine TL.goff 21 rfl rfl (lt_ok rfl) rfl rfl rfl (lt_ok rfl) ?_
  refine TL.goff 21 rfl rfl (lt_ok rfl) rfl rfl rfl (lt_ok rfl) ?_
  refine TL.cons rfl (Step.pick (b := false) (p := (.one (.d (.bool false)))) rfl rfl (lt_ok rfl) rfl rfl) ?_
  refine TL.cons rfl (Step.assign (p := (.one (.d (.bool false)))) rfl rfl (lt_ok rfl) rfl) ?_
  refine TL.nil ?_
  refine T.ret ?_
  refine ⟨[(false, [.d (.bool false)])], (.cons rfl .nil), rfl, [], (RetC.rd' ?_ .nil)⟩ <;> (first | rfl | (congr 1; symm; simp only [limOk, *, Bool.and_true, Bool.true_and, Bool.and_false, Bool.false_and, decide_true, decide_false, and_true, true_and, and_self, and_false, false_and, Bool.and_self, not_true, not_false, Bool.not_true, Bool.not_false, ge_iff_le, gt_iff_lt, if_true, if_false, Bool.false_eq_true, ite_true, ite_false, reduceIte]; done) | (congr 1; symm; simp_all [limOk]; done) | (congr 1; symm; simp_all [limOk]; omega))
theorem ok_spec_l11New (l : SLimits) (b : List Int) (a : Int)  : NX Try.prog 86 [.agg l.cells, .one (.ints .u8 b), .one (.int .i64 a)] 110 [(.ints .u8 b), (.int .i64 (rs0 l a).f0), (.int .i64 (rs0 l a).f1)] := by
 refine NX.intro 6 Try.func86 rfl 19 rfl (le_ok rfl) rfl fun w Z => ?_
 refine T.seq ?_
 refine T.region ?_
 refine TL.cons rfl (Step.box (p := (.agg [.d (.int .i64 l.f0), .d (.int .i64 l.f1), .d (.int .i64 l.f2), .d (.int .i64 l.f3), .d (.int .i64 l.f4)])) (ps := [.d (.int .i64 l.f0), .d (.int .i64 l.f1), .d (.int .i64 l.f2), .d (.int .i64 l.f3), .d (.int .i64 l.f4)]) rfl rfl (lt_ok rfl) rfl rfl rfl rfl rfl) ?_
 refine TL.cons rfl (Step.assign (p := (.one (.und))) rfl rfl (lt_ok rfl) rfl) ?_
 refine TL.nil ?_
 refine T.seq ?_
 refine T.region ?_
 refine TL.cons rfl (Step.move (p := (.one (.d (.ints .u8 b)))) rfl rfl (lt_ok rfl) rfl) ?_
 refine TL.cons rfl (Step.move (p := (.one (.d (.int .i64 a)))) rfl rfl (lt_ok rfl) rfl) ?_
 refine TL.cons rfl (Step.build (zs := [.slice none 0 0, .int .i64 0, .int .i64 0]) (places := [(0, 1), (1, 1), (2, 1)]) (pss := [(0, [.d (.ints .u8 b)]), (1, [.d (.int .i64 a)])]) (ps' := [.d (.ints .u8 b), .d (.int .i64 a), .d (.int .i64 0)]) rfl rfl (lt_ok rfl) (by kernel_rfl) (.cons ⟨rfl, rfl⟩ (.cons ⟨rfl, rfl⟩ .nil)) rfl rfl rfl) ?_
 refine TL.cons rfl (Step.box (p := (.agg [.d (.ints .u8 b), .d (.int .i64 a), .d (.int .i64 0)])) (ps := [.d (.ints .u8 b), .d (.int .i64 a), .d (.int .i64 0)]) rfl rfl (lt_ok rfl) rfl rfl rfl rfl rfl) ?_
 refine TL.cons rfl (Step.assign (p := (.one (.ptr 11 0))) rfl rfl (lt_ok rfl) rfl) ?_
 refine TL.nil ?_
 refine T.seq ?_
 refine T.seq ?_
 refine T.region ?_
 refine TL.cons rfl (Step.load_box_agg (n := 5) (qs := [.d (.int .i64 l.f0), .d (.int .i64 l.f1), .d (.int .i64 l.f2), .d (.int .i64 l.f3), .d (.int .i64 l.f4)]) rfl rfl (lt_ok rfl) (by kernel_rfl) rfl rfl rfl rfl) ?_
 refine TL.cons rfl (Step.call (f := 122) (xs := [.tmp 12]) (ps := [(.agg [.d (.int .i64 l.f0), .d (.int .i64 l.f1), .d (.int .i64 l.f2), .d (.int .i64 l.f3), .d (.int .i64 l.f4)])]) false (g := .func 122) rfl rfl (lt_ok rfl) rfl (by kernel_rfl) rfl (.cons (.agg (.cons (.d _) (.cons (.d _) (.cons (.d _) (.cons (.d _) (.cons (.d _) .nil)))))) .nil) (ok_spec_LimitsOk l) (.inr rfl) rfl (by simp) rfl) ?_
 refine TL.cons rfl (Step.not (b := (limOk l)) rfl rfl (lt_ok rfl) rfl) ?_
 refine TL.nil ?_
 refine T.cond (b := !(limOk l)) rfl (fun h1 => ?_) (fun h1 => ?_)
 ·
  replace h1 : (limOk l) = false := by simpa only [Bool.not_eq_true', Bool.not_eq_false'] using h1
  refine T.region ?_
  refine TL.cons rfl (Step.move (p := (.one (.ptr 11 0))) rfl rfl (lt_ok rfl) rfl) ?_
  refine TL.cons rfl (Step.nilCheck rfl rfl (lt_ok rfl) rfl) ?_
  refine TL.cons rfl (Step.fieldAddr (q := 0) (off := 2) (n := 1) (one := true) rfl rfl (lt_ok rfl) (by kernel_rfl) (Nat.succ_ne_zero _) rfl) ?_
  refine TL.cons rfl (Step.store_box (n := 1) (p := (.one (.d (.int .i64 5)))) (qs := [.d (.int .i64 5)]) (ps' := [.d (.ints .u8 b), .d (.int .i64 a), .d (.int .i64 5)]) rfl rfl (by kernel_rfl) rfl rfl rfl rfl rfl rfl (le_ok rfl) rfl) ?_
  refine TL.nil ?_
  refine T.seq ?_
  refine T.region ?_
  refine TL.cons rfl (Step.move (p := (.one (.ptr 11 0))) rfl rfl (lt_ok rfl) rfl) ?_
  refine TL.cons rfl (Step.assign (p := (.one (.ptr 11 0))) rfl rfl (lt_ok rfl) rfl) ?_
  refine TL.nil ?_
  refine T.ret ?_
  exact ⟨11, rfl, by first | (rw [rs0_ok (by assumption)]; rfl) | (rw [rs0_no (by first | assumption | simp [*])]; rfl)⟩
 ·
  replace h1 : (limOk l) = true := by simpa only [Bool.not_eq_true', Bool.not_eq_false'] using h1
  refine T.skip ?_
  refine T.seq ?_
  refine T.region ?_
  refine TL.cons rfl (Step.move (p := (.one (.ptr 11 0))) rfl rfl (lt_ok rfl) rfl) ?_
  refine TL.cons rfl (Step.assign (p := (.one (.ptr 11 0))) rfl rfl (lt_ok rfl) rfl) ?_
  refine TL.nil ?_
  refine T.ret ?_
  exact ⟨11, rfl, by first | (rw [rs0_ok (by assumption)]; rfl) | (rw [rs0_no (by first | assumption | simp [*])]; rfl)⟩
theorem ok_spec_GetVar (b : List Int) (a : Int) (h0_ : U8s b) (h1_ : b.length ≤ 1099511627776) : RO Try.prog 175 [.one (.ints .u8 b), .one (.int .i64 a)] [(false, [.rd (.int .i64 (getVar b a).1)]), (false, [.rd (.int .i64 (getVar b a).2.1)]), (false, [.rd (.int .i64 (getVar b a).2.2)])] := by
 refine RO.intro Try.func175 rfl 67 rfl (le_ok rfl) fun w Z => ?_
 refine T.bnd 0 0 rfl rfl fun hb_0_0 => ?_
 simp only [D.size, List.length_map] at hb_0_0
 refine T.seq ?_
 refine T.region ?_
 refine TL.cons rfl (Step.assign (p := (.one (.d (.int .i64 0)))) rfl rfl (lt_ok rfl) rfl) ?_
 refine TL.cons rfl (Step.assign (p := (.one (.d (.int .i64 0)))) rfl rfl (lt_ok rfl) rfl) ?_
 refine TL.cons rfl (Step.assign (p := (.one (.d (.int .i64 0)))) rfl rfl (lt_ok rfl) rfl) ?_
 refine TL.nil ?_
 refine T.seq ?_
 refine T.seq ?_
 refine T.region ?_
 refine TL.cons rfl (Step.move (p := (.one (.d (.int .i64 a)))) rfl rfl (lt_ok rfl) rfl) ?_
 refine TL.cons rfl (Step.bin rfl rfl (lt_ok rfl) rfl rfl (Bin.lss (k := .i64) (a := a) (b := 0))) ?_
 refine TL.cons rfl (Step.move (p := (.one (.d (.bool (decide (a < 0)))))) rfl rfl (lt_ok rfl) rfl) ?_
 rcases Bool.eq_false_or_eq_true (decide (a < 0)) with hb1 | hb1
 ·
  refine TL.known 13 hb1 rfl ?_
  have hb1' := hb1
  replace hb1' := of_decide_eq_true hb1'
  refine TL.goff 13 rfl rfl (lt_ok rfl) rfl rfl rfl (lt_ok rfl) ?_
  refine TL.goff 13 rfl rfl (lt_ok rfl) rfl rfl rfl (lt_ok rfl) ?_
  refine TL.goff 13 rfl rfl (lt_ok rfl) rfl rfl rfl (lt_ok rfl) ?_
  refine TL.goff 13 rfl rfl (lt_ok rfl) rfl rfl rfl (lt_ok rfl) ?_
  refine TL.cons rfl (Step.pick (b := true) (p := (.one (.d (.bool true)))) rfl rfl (lt_ok rfl) rfl rfl) ?_
  refine TL.nil ?_
  refine T.cond (b := true) rfl (fun h2_ => ?_) (fun h2_ => absurd h2_ (by simp))
  refine T.seq ?_
  refine T.region ?_
  refine TL.cons rfl (Step.assign (p := (.one (.d (.int .i64 0)))) rfl rfl (lt_ok rfl) rfl) ?_
  refine TL.cons rfl (Step.assign (p := (.one (.d (.int .i64 0)))) rfl rfl (lt_ok rfl) rfl) ?_
  refine TL.cons rfl (Step.assign (p := (.one (.d (.int .i64 1)))) rfl rfl (lt_ok rfl) rfl) ?_
  refine TL.nil ?_
  refine T.ret ?_
  refine ⟨[(false, [.d (.int .i64 0)]), (false, [.d (.int .i64 0)]), (false, [.d (.int .i64 1)])], (.cons rfl (.cons rfl (.cons rfl .nil))), rfl, [], (RetC.rd' ?_ (RetC.rd' ?_ (RetC.rd' ?_ .nil)))⟩ <;> ((congr 1; first | (rw [getVar_out (by omega)]; done) | (rw [getVar_in (by omega), ← hx4]; first | (rw [gvGo_short (by omega) (by omega)]; done) | (rw [gvGo_var (by omega) (by omega) (by omega)]; done) | (rw [gvGo_done (by omega) (by omega) (by omega) (by omega) (by omega)]; done) | (rw [gvGo_big (by omega) (by omega) (by omega) (by omega) (by omega)]; done) | (rw [gvGo_end (by omega)]; done))))
 ·
  refine TL.known 13 hb1 rfl ?_
  have hb1' := hb1
  replace hb1' := of_decide_eq_false hb1'
  refine TL.gyes 13 rfl rfl (lt_ok rfl) rfl (Step.move (p := (.one (.d (.int .i64 a)))) rfl rfl (lt_ok rfl) rfl) ?_
  refine TL.gyes 13 rfl rfl (lt_ok rfl) rfl (Step.move (p := (.one (.d (.ints .u8 b)))) rfl rfl (lt_ok rfl) rfl) ?_
  refine TL.gyes 13 rfl rfl (lt_ok rfl) rfl (Step.len (e := 5) (z := 1) (d := (.ints .u8 b)) rfl rfl (lt_ok rfl) (by kernel_rfl) rfl rfl) ?_
  refine TL.gyes 13 rfl rfl (lt_ok rfl) rfl (Step.bin rfl rfl (lt_ok rfl) rfl rfl (Bin.gtr (k := .i64) (a := a) (b := (b.length : Int)))) ?_
  refine TL.cons rfl (Step.pick (b := false) (p := (.one (.d (.bool (decide ((b.length : Int) < a)))))) rfl rfl (lt_ok rfl) rfl rfl) ?_
  refine TL.nil ?_
  refine T.cond (b := decide ((b.length : Int) < a)) rfl (fun h3 => ?_) (fun h3 => ?_)
  ·
   replace h3 := of_decide_eq_true h3
   refine T.seq ?_
   refine T.region ?_
   refine TL.cons rfl (Step.assign (p := (.one (.d (.int .i64 0)))) rfl rfl (lt_ok rfl) rfl) ?_
   refine TL.cons rfl (Step.assign (p := (.one (.d (.int .i64 0)))) rfl rfl (lt_ok rfl) rfl) ?_
   refine TL.cons rfl (Step.assign (p := (.one (.d (.int .i64 1)))) rfl rfl (lt_ok rfl) rfl) ?_
   refine TL.nil ?_
   refine T.ret ?_
   refine ⟨[(false, [.d (.int .i64 0)]), (false, [.d (.int .i64 0)]), (false, [.d (.int .i64 1)])], (.cons rfl (.cons rfl (.cons rfl .nil))), rfl, [], (RetC.rd' ?_ (RetC.rd' ?_ (RetC.rd' ?_ .nil)))⟩ <;> ((congr 1; first | (rw [getVar_out (by omega)]; done) | (rw [getVar_in (by omega), ← hx4]; first | (rw [gvGo_short (by omega) (by omega)]; done) | (rw [gvGo_var (by omega) (by omega) (by omega)]; done) | (rw [gvGo_done (by omega) (by omega) (by omega) (by omega) (by omega)]; done) | (rw [gvGo_big (by omega) (by omega) (by omega) (by omega) (by omega)]; done) | (rw [gvGo_end (by omega)]; done))))
  ·
   replace h3 := of_decide_eq_false h3
   refine T.skip ?_
   refine T.seq ?_
   refine T.region ?_
   refine TL.cons rfl (Step.assign (p := (.one (.d (.int .i64 0)))) rfl rfl (lt_ok rfl) rfl) ?_
   refine TL.nil ?_
   refine T.seq ?_
   refine T.region ?_
   refine TL.cons rfl (Step.assign (p := (.one (.d (.int .i64 1)))) rfl rfl (lt_ok rfl) rfl) ?_
   refine TL.nil ?_
   refine T.seq ?_
   refine T.seq ?_
   refine T.region ?_
   refine TL.cons rfl (Step.assign (p := (.one (.d (.int .i64 0)))) rfl rfl (lt_ok rfl) rfl) ?_
   refine TL.nil ?_
   refine T.block ?_
   refine T.loop (ι := Nat × Int) (fun xx_ => { tm := [(0, (.one (.d (.ints .u8 b)))), (1, (.one (.d (.int .i64 a)))), (9, (.one (.d (.int .i64 ((xx_.1) : Int))))), (7, (.one (.d (.int .i64 (xx_.2))))), (8, (.one (.d (.int .i64 (128 ^ (xx_.1))))))], rows := [], boxes := [] }) (fun xx_ => (xx_.1) ≤ 9 ∧ 0 ≤ (xx_.2) ∧ (xx_.2) < 128 ^ (xx_.1) ∧ gvGo b a (9 - (xx_.1)) (xx_.1) (xx_.2) = gvGo b a 9 0 0) (fun xx_ => 9 - (xx_.1)) (0, 0) ?_ ?_ ?_
   · refine Env.le_mk ⟨rfl, rfl, ?_, ?_, ?_, trivial⟩ trivial trivial <;> (first | rfl | (refine congrArg (fun n => PV.one (.d (.int .i64 n))) ?_; first | rfl | omega | (simp; done)))
   · (dsimp only; refine ⟨by omega, by omega, by simp, rfl⟩)
   ·
    intro xx_ hx
    obtain ⟨i, n⟩ := xx_
    try dsimp only at hx ⊢
    obtain ⟨hx1, hx2, hx3, hx4⟩ := hx
    have hu_ := getD_u8 h0_ (a + (i : Int)).toNat
    have hm_ := gv_mul hu_.1 i
    refine T.seq ?_
    refine T.seq ?_
    refine T.region ?_
    refine TL.cons rfl (Step.move (p := (.one (.d (.int .i64 (i : Int))))) rfl rfl (lt_ok rfl) rfl) ?_
    refine TL.cons rfl (Step.bin rfl rfl (lt_ok rfl) rfl rfl (Bin.lss (k := .i64) (a := (i : Int)) (b := 9))) ?_
    refine TL.nil ?_
    refine T.cond (b := decide ((i : Int) < 9)) rfl (fun h4 => ?_) (fun h4 => ?_)
    ·
     replace h4 := of_decide_eq_true h4
     have hp_ := pow128 (i := i) (by omega)
     refine T.skip ?_
     refine T.seq ?_
     refine T.block ?_
     refine T.seq ?_
     refine T.seq ?_
     refine T.region ?_
     refine TL.cons rfl (Step.move (p := (.one (.d (.int .i64 a)))) rfl rfl (lt_ok rfl) rfl) ?_
     refine TL.cons rfl (Step.move (p := (.one (.d (.int .i64 (i : Int))))) rfl rfl (lt_ok rfl) rfl) ?_
     refine TL.cons rfl (Step.bin (r := .int .i64 (a + (i : Int))) rfl rfl (lt_ok rfl) rfl rfl (Bin.add (a := a) (b := (i : Int)) (by first | exact wrap_ok (by first | omega | (simp; omega)) (by first | omega | (simp; omega)) | rfl))) ?_
     refine TL.cons rfl (Step.move (p := (.one (.d (.ints .u8 b)))) rfl rfl (lt_ok rfl) rfl) ?_
     refine TL.cons rfl (Step.len (e := 5) (z := 1) (d := (.ints .u8 b)) rfl rfl (lt_ok rfl) (by kernel_rfl) rfl rfl) ?_
     refine TL.cons rfl (Step.bin rfl rfl (lt_ok rfl) rfl rfl (Bin.geq (k := .i64) (a := (a + (i : Int))) (b := (b.length : Int)))) ?_
     refine TL.nil ?_
     refine T.cond (b := decide ((b.length : Int) ≤ (a + (i : Int)))) rfl (fun h5 => ?_) (fun h5 => ?_)
     ·
      replace h5 := of_decide_eq_true h5
      refine T.seq ?_
      refine T.region ?_
      refine TL.cons rfl (Step.assign (p := (.one (.d (.int .i64 0)))) rfl rfl (lt_ok rfl) rfl) ?_
      refine TL.cons rfl (Step.assign (p := (.one (.d (.int .i64 0)))) rfl rfl (lt_ok rfl) rfl) ?_
      refine TL.cons rfl (Step.assign (p := (.one (.d (.int .i64 1)))) rfl rfl (lt_ok rfl) rfl) ?_
      refine TL.nil ?_
      refine T.ret ?_
      refine ⟨[(false, [.d (.int .i64 0)]), (false, [.d (.int .i64 0)]), (false, [.d (.int .i64 1)])], (.cons rfl (.cons rfl (.cons rfl .nil))), rfl, [], (RetC.rd' ?_ (RetC.rd' ?_ (RetC.rd' ?_ .nil)))⟩ <;> ((congr 1; first | (rw [getVar_out (by omega)]; done) | (rw [getVar_in (by omega), ← hx4]; first | (rw [gvGo_short (by omega) (by omega)]; done) | (rw [gvGo_var (by omega) (by omega) (by omega)]; done) | (rw [gvGo_done (by omega) (by omega) (by omega) (by omega) (by omega)]; done) | (rw [gvGo_big (by omega) (by omega) (by omega) (by omega) (by omega)]; done) | (rw [gvGo_end (by omega)]; done))))
     ·
      replace h5 := of_decide_eq_false h5
      refine T.skip ?_
      refine T.seq ?_
      refine T.region ?_
      refine TL.cons rfl (Step.move (p := (.one (.d (.ints .u8 b)))) rfl rfl (lt_ok rfl) rfl) ?_
      refine TL.cons rfl (Step.move (p := (.one (.d (.int .i64 a)))) rfl rfl (lt_ok rfl) rfl) ?_
      refine TL.cons rfl (Step.move (p := (.one (.d (.int .i64 (i : Int))))) rfl rfl (lt_ok rfl) rfl) ?_
      refine TL.cons rfl (Step.bin (r := .int .i64 (a + (i : Int))) rfl rfl (lt_ok rfl) rfl rfl (Bin.add (a := a) (b := (i : Int)) (by first | exact wrap_ok (by first | omega | (simp; omega)) (by first | omega | (simp; omega)) | rfl))) ?_
      refine TL.cons rfl (Step.index (e := 5) (z := 1) (i := (a + (i : Int))) rfl rfl (lt_ok rfl) (by kernel_rfl) rfl rfl rfl (lt_ok rfl) rfl (by first | omega | (simp; omega)) (by simp only [D.size]; first | omega | (simp; omega))) ?_
      refine TL.cons rfl (Step.load (e := (.int .u8 (b.getD (a + (i : Int)).toNat 0))) rfl rfl (lt_ok rfl) (by kernel_rfl) rfl rfl) ?_
      refine TL.cons rfl (Step.conv (c := (b.getD (a + (i : Int)).toNat 0)) rfl rfl (lt_ok rfl) (by kernel_rfl) (by kernel_rfl) rfl (wrap_ok (by first | omega | (simp; omega)) (by first | omega | (simp; omega)))) ?_
      refine TL.cons rfl (Step.assign (p := (.one (.d (.int .i64 (b.getD (a + (i : Int)).toNat 0))))) rfl rfl (lt_ok rfl) rfl) ?_
      refine TL.nil ?_
      refine T.seq ?_
      refine T.seq ?_
      refine T.region ?_
      refine TL.cons rfl (Step.move (p := (.one (.d (.int .i64 (i : Int))))) rfl rfl (lt_ok rfl) rfl) ?_
      refine TL.cons rfl (Step.bin rfl rfl (lt_ok rfl) rfl rfl (Bin.gtr (k := .i64) (a := (i : Int)) (b := 0))) ?_
      refine TL.cons rfl (Step.move (p := (.one (.d (.bool (decide (0 < (i : Int))))))) rfl rfl (lt_ok rfl) rfl) ?_
      rcases Bool.eq_false_or_eq_true (decide (0 < (i : Int))) with hb6 | hb6
      ·
       refine TL.known 38 hb6 rfl ?_
       have hb6' := hb6
       replace hb6' := of_decide_eq_true hb6'
       refine TL.gyes 38 rfl rfl (lt_ok rfl) rfl (Step.move (p := (.one (.d (.int .i64 (b.getD (a + (i : Int)).toNat 0))))) rfl rfl (lt_ok rfl) rfl) ?_
       refine TL.gyes 38 rfl rfl (lt_ok rfl) rfl (Step.bin rfl rfl (lt_ok rfl) rfl rfl (Bin.eql (k := .i64) (a := (b.getD (a + (i : Int)).toNat 0)) (b := 0))) ?_
       refine TL.cons rfl (Step.pick (b := true) (p := (.one (.d (.bool (decide ((b.getD (a + (i : Int)).toNat 0) = 0)))))) rfl rfl (lt_ok rfl) rfl rfl) ?_
       refine TL.cons rfl (Step.move (p := (.one (.d (.bool (decide ((b.getD (a + (i : Int)).toNat 0) = 0)))))) rfl rfl (lt_ok rfl) rfl) ?_
       rcases Bool.eq_false_or_eq_true (decide ((b.getD (a + (i : Int)).toNat 0) = 0)) with hb7 | hb7
       ·
        refine TL.known 42 hb7 rfl ?_
        have hb7' := hb7
        replace hb7' := of_decide_eq_true hb7'
        refine TL.goff 42 rfl rfl (lt_ok rfl) rfl rfl rfl (lt_ok rfl) ?_
        refine TL.goff 42 rfl rfl (lt_ok rfl) rfl rfl rfl (lt_ok rfl) ?_
        refine TL.goff 42 rfl rfl (lt_ok rfl) rfl rfl rfl (lt_ok rfl) ?_
        refine TL.goffU 45 rfl rfl (lt_ok rfl) rfl rfl (lt_ok rfl) ?_
        refine TL.goffU 45 rfl rfl (lt_ok rfl) rfl rfl (lt_ok rfl) ?_
        refine TL.goff 42 rfl rfl (lt_ok rfl) rfl rfl rfl (lt_ok rfl) ?_
        refine TL.cons rfl (Step.pick (b := true) (p := (.one (.d (.bool true)))) rfl rfl (lt_ok rfl) rfl rfl) ?_
        refine TL.nil ?_
        refine T.cond (b := true) rfl (fun h8_ => ?_) (fun h8_ => absurd h8_ (by simp))
        refine T.seq ?_
        refine T.region ?_
        refine TL.cons rfl (Step.assign (p := (.one (.d (.int .i64 0)))) rfl rfl (lt_ok rfl) rfl) ?_
        refine TL.cons rfl (Step.assign (p := (.one (.d (.int .i64 0)))) rfl rfl (lt_ok rfl) rfl) ?_
        refine TL.cons rfl (Step.assign (p := (.one (.d (.int .i64 2)))) rfl rfl (lt_ok rfl) rfl) ?_
        refine TL.nil ?_
        refine T.ret ?_
        refine ⟨[(false, [.d (.int .i64 0)]), (false, [.d (.int .i64 0)]), (false, [.d (.int .i64 2)])], (.cons rfl (.cons rfl (.cons rfl .nil))), rfl, [], (RetC.rd' ?_ (RetC.rd' ?_ (RetC.rd' ?_ .nil)))⟩ <;> ((congr 1; first | (rw [getVar_out (by omega)]; done) | (rw [getVar_in (by omega), ← hx4]; first | (rw [gvGo_short (by omega) (by omega)]; done) | (rw [gvGo_var (by omega) (by omega) (by omega)]; done) | (rw [gvGo_done (by omega) (by omega) (by omega) (by omega) (by omega)]; done) | (rw [gvGo_big (by omega) (by omega) (by omega) (by omega) (by omega)]; done) | (rw [gvGo_end (by omega)]; done))))
       ·
        refine TL.known 42 hb7 rfl ?_
        have hb7' := hb7
        replace hb7' := of_decide_eq_false hb7'
        refine TL.gyes 42 rfl rfl (lt_ok rfl) rfl (Step.move (p := (.one (.d (.int .i64 (i : Int))))) rfl rfl (lt_ok rfl) rfl) ?_
        refine TL.gyes 42 rfl rfl (lt_ok rfl) rfl (Step.bin rfl rfl (lt_ok rfl) rfl rfl (Bin.eql (k := .i64) (a := (i : Int)) (b := 8))) ?_
        refine TL.gyes 42 rfl rfl (lt_ok rfl) rfl (Step.move (p := (.one (.d (.bool (decide ((i : Int) = 8)))))) rfl rfl (lt_ok rfl) rfl) ?_
        rcases Bool.eq_false_or_eq_true (decide ((i : Int) = 8)) with hb9 | hb9
        ·
         refine TL.known 45 hb9 rfl ?_
         have hb9' := hb9
         replace hb9' := of_decide_eq_true hb9'
         refine TL.gyes 45 rfl rfl (lt_ok rfl) rfl (Step.move (p := (.one (.d (.int .i64 (b.getD (a + (i : Int)).toNat 0))))) rfl rfl (lt_ok rfl) rfl) ?_
         refine TL.gyes 45 rfl rfl (lt_ok rfl) rfl (Step.bin rfl rfl (lt_ok rfl) rfl rfl (Bin.geq (k := .i64) (a := (b.getD (a + (i : Int)).toNat 0)) (b := 128))) ?_
         refine TL.gyes 42 rfl rfl (lt_ok rfl) rfl (Step.pick (b := true) (p := (.one (.d (.bool (decide (128 ≤ (b.getD (a + (i : Int)).toNat 0))))))) rfl rfl (lt_ok rfl) rfl rfl) ?_
         refine TL.cons rfl (Step.pick (b := false) (p := (.one (.d (.bool (decide (128 ≤ (b.getD (a + (i : Int)).toNat 0))))))) rfl rfl (lt_ok rfl) rfl rfl) ?_
         refine TL.nil ?_
         refine T.cond (b := decide (128 ≤ (b.getD (a + (i : Int)).toNat 0))) rfl (fun h10 => ?_) (fun h10 => ?_)
         ·
          replace h10 := of_decide_eq_true h10
          refine T.seq ?_
          refine T.region ?_
          refine TL.cons rfl (Step.assign (p := (.one (.d (.int .i64 0)))) rfl rfl (lt_ok rfl) rfl) ?_
          refine TL.cons rfl (Step.assign (p := (.one (.d (.int .i64 0)))) rfl rfl (lt_ok rfl) rfl) ?_
          refine TL.cons rfl (Step.assign (p := (.one (.d (.int .i64 2)))) rfl rfl (lt_ok rfl) rfl) ?_
          refine TL.nil ?_
          refine T.ret ?_
          refine ⟨[(false, [.d (.int .i64 0)]), (false, [.d (.int .i64 0)]), (false, [.d (.int .i64 2)])], (.cons rfl (.cons rfl (.cons rfl .nil))), rfl, [], (RetC.rd' ?_ (RetC.rd' ?_ (RetC.rd' ?_ .nil)))⟩ <;> ((congr 1; first | (rw [getVar_out (by omega)]; done) | (rw [getVar_in (by omega), ← hx4]; first | (rw [gvGo_short (by omega) (by omega)]; done) | (rw [gvGo_var (by omega) (by omega) (by omega)]; done) | (rw [gvGo_done (by omega) (by omega) (by omega) (by omega) (by omega)]; done) | (rw [gvGo_big (by omega) (by omega) (by omega) (by omega) (by omega)]; done) | (rw [gvGo_end (by omega)]; done))))
         ·
          replace h10 := of_decide_eq_false h10
          refine T.skip ?_
          refine T.seq ?_
          refine T.region ?_
          refine TL.cons rfl (Step.move (p := (.one (.d (.int .i64 n)))) rfl rfl (lt_ok rfl) rfl) ?_
          refine TL.cons rfl (Step.move (p := (.one (.d (.int .i64 (b.getD (a + (i : Int)).toNat 0))))) rfl rfl (lt_ok rfl) rfl) ?_
          refine TL.cons rfl (Step.bin (r := .int .i64 ((b.getD (a + (i : Int)).toNat 0) % 128)) rfl rfl (lt_ok rfl) rfl rfl (Bin.rem (k := .i64) (a := (b.getD (a + (i : Int)).toNat 0)) (b := 128) (by decide) (Int.tmod_eq_emod_of_nonneg (by first | omega | (simp; omega))))) ?_
          refine TL.cons rfl (Step.move (p := (.one (.d (.int .i64 (128 ^ i))))) rfl rfl (lt_ok rfl) rfl) ?_
          refine TL.cons rfl (Step.bin (r := .int .i64 (((b.getD (a + (i : Int)).toNat 0) % 128) * (128 ^ i))) rfl rfl (lt_ok rfl) rfl rfl (Bin.mul (a := ((b.getD (a + (i : Int)).toNat 0) % 128)) (b := (128 ^ i)) (by first | exact wrap_ok (by first | omega | (simp; omega)) (by first | omega | (simp; omega)) | rfl))) ?_
          refine TL.cons rfl (Step.bin (r := .int .i64 (n + (((b.getD (a + (i : Int)).toNat 0) % 128) * (128 ^ i)))) rfl rfl (lt_ok rfl) rfl rfl (Bin.add (a := n) (b := (((b.getD (a + (i : Int)).toNat 0) % 128) * (128 ^ i))) (by first | exact wrap_ok (by first | omega | (simp; omega)) (by first | omega | (simp; omega)) | rfl))) ?_
          refine TL.cons rfl (Step.assign (p := (.one (.d (.int .i64 (n + (((b.getD (a + (i : Int)).toNat 0) % 128) * (128 ^ i))))))) rfl rfl (lt_ok rfl) rfl) ?_
          refine TL.nil ?_
          refine T.seq ?_
          refine T.seq ?_
          refine T.region ?_
          refine TL.cons rfl (Step.move (p := (.one (.d (.int .i64 (b.getD (a + (i : Int)).toNat 0))))) rfl rfl (lt_ok rfl) rfl) ?_
          refine TL.cons rfl (Step.bin rfl rfl (lt_ok rfl) rfl rfl (Bin.lss (k := .i64) (a := (b.getD (a + (i : Int)).toNat 0)) (b := 128))) ?_
          refine TL.nil ?_
          refine T.cond (b := decide ((b.getD (a + (i : Int)).toNat 0) < 128)) rfl (fun h11 => ?_) (fun h11 => ?_)
          ·
           replace h11 := of_decide_eq_true h11
           refine T.seq ?_
           refine T.seq ?_
           refine T.region ?_
           refine TL.cons rfl (Step.move (p := (.one (.d (.int .i64 (n + (((b.getD (a + (i : Int)).toNat 0) % 128) * (128 ^ i))))))) rfl rfl (lt_ok rfl) rfl) ?_
           refine TL.cons rfl (Step.bin rfl rfl (lt_ok rfl) rfl rfl (Bin.gtr (k := .i64) (a := (n + (((b.getD (a + (i : Int)).toNat 0) % 128) * (128 ^ i)))) (b := 1152921504606846975))) ?_
           refine TL.nil ?_
           refine T.cond (b := decide (1152921504606846975 < (n + (((b.getD (a + (i : Int)).toNat 0) % 128) * (128 ^ i))))) rfl (fun h12 => ?_) (fun h12 => ?_)
           ·
            replace h12 := of_decide_eq_true h12
            refine T.seq ?_
            refine T.region ?_
            refine TL.cons rfl (Step.assign (p := (.one (.d (.int .i64 0)))) rfl rfl (lt_ok rfl) rfl) ?_
            refine TL.cons rfl (Step.assign (p := (.one (.d (.int .i64 0)))) rfl rfl (lt_ok rfl) rfl) ?_
            refine TL.cons rfl (Step.assign (p := (.one (.d (.int .i64 2)))) rfl rfl (lt_ok rfl) rfl) ?_
            refine TL.nil ?_
            refine T.ret ?_
            refine ⟨[(false, [.d (.int .i64 0)]), (false, [.d (.int .i64 0)]), (false, [.d (.int .i64 2)])], (.cons rfl (.cons rfl (.cons rfl .nil))), rfl, [], (RetC.rd' ?_ (RetC.rd' ?_ (RetC.rd' ?_ .nil)))⟩ <;> ((congr 1; first | (rw [getVar_out (by omega)]; done) | (rw [getVar_in (by omega), ← hx4]; first | (rw [gvGo_short (by omega) (by omega)]; done) | (rw [gvGo_var (by omega) (by omega) (by omega)]; done) | (rw [gvGo_done (by omega) (by omega) (by omega) (by omega) (by omega)]; done) | (rw [gvGo_big (by omega) (by omega) (by omega) (by omega) (by omega)]; done) | (rw [gvGo_end (by omega)]; done))))
           ·
            replace h12 := of_decide_eq_false h12
            refine T.skip ?_
            refine T.seq ?_
            refine T.region ?_
            refine TL.cons rfl (Step.move (p := (.one (.d (.int .i64 (n + (((b.getD (a + (i : Int)).toNat 0) % 128) * (128 ^ i))))))) rfl rfl (lt_ok rfl) rfl) ?_
            refine TL.cons rfl (Step.move (p := (.one (.d (.int .i64 a)))) rfl rfl (lt_ok rfl) rfl) ?_
            refine TL.cons rfl (Step.move (p := (.one (.d (.int .i64 (i : Int))))) rfl rfl (lt_ok rfl) rfl) ?_
            refine TL.cons rfl (Step.bin (r := .int .i64 (a + (i : Int))) rfl rfl (lt_ok rfl) rfl rfl (Bin.add (a := a) (b := (i : Int)) (by first | exact wrap_ok (by first | omega | (simp; omega)) (by first | omega | (simp; omega)) | rfl))) ?_
            refine TL.cons rfl (Step.bin (r := .int .i64 ((a + (i : Int)) + 1)) rfl rfl (lt_ok rfl) rfl rfl (Bin.add (a := (a + (i : Int))) (b := 1) (by first | exact wrap_ok (by first | omega | (simp; omega)) (by first | omega | (simp; omega)) | rfl))) ?_
            refine TL.cons rfl (Step.assign (p := (.one (.d (.int .i64 (n + (((b.getD (a + (i : Int)).toNat 0) % 128) * (128 ^ i))))))) rfl rfl (lt_ok rfl) rfl) ?_
            refine TL.cons rfl (Step.assign (p := (.one (.d (.int .i64 ((a + (i : Int)) + 1))))) rfl rfl (lt_ok rfl) rfl) ?_
            refine TL.cons rfl (Step.assign (p := (.one (.d (.int .i64 0)))) rfl rfl (lt_ok rfl) rfl) ?_
            refine TL.nil ?_
            refine T.ret ?_
            refine ⟨[(false, [.d (.int .i64 (n + (((b.getD (a + (i : Int)).toNat 0) % 128) * (128 ^ i))))]), (false, [.d (.int .i64 ((a + (i : Int)) + 1))]), (false, [.d (.int .i64 0)])], (.cons rfl (.cons rfl (.cons rfl .nil))), rfl, [], (RetC.rd' ?_ (RetC.rd' ?_ (RetC.rd' ?_ .nil)))⟩ <;> ((congr 1; first | (rw [getVar_out (by omega)]; done) | (rw [getVar_in (by omega), ← hx4]; first | (rw [gvGo_short (by omega) (by omega)]; done) | (rw [gvGo_var (by omega) (by omega) (by omega)]; done) | (rw [gvGo_done (by omega) (by omega) (by omega) (by omega) (by omega)]; done) | (rw [gvGo_big (by omega) (by omega) (by omega) (by omega) (by omega)]; done) | (rw [gvGo_end (by omega)]; done))))
          ·
           replace h11 := of_decide_eq_false h11
           refine T.skip ?_
           refine T.region ?_
           refine TL.cons rfl (Step.move (p := (.one (.d (.int .i64 (128 ^ i))))) rfl rfl (lt_ok rfl) rfl) ?_
           refine TL.cons rfl (Step.bin (r := .int .i64 (128 ^ (i + 1))) rfl rfl (lt_ok rfl) rfl rfl (Bin.mul (a := (128 ^ i)) (b := 128) (by have h7_ := pow128 (i := i + 1) (by omega); rw [← Int.pow_succ]; exact wrap_ok (by omega) (by omega)))) ?_
           refine TL.cons rfl (Step.assign (p := (.one (.d (.int .i64 (128 ^ (i + 1)))))) rfl rfl (lt_ok rfl) rfl) ?_
           refine TL.nil ?_
           refine T.region ?_
           refine TL.cons rfl (Step.move (p := (.one (.d (.int .i64 (i : Int))))) rfl rfl (lt_ok rfl) rfl) ?_
           refine TL.cons rfl (Step.bin (r := .int .i64 ((i : Int) + 1)) rfl rfl (lt_ok rfl) rfl rfl (Bin.add (a := (i : Int)) (b := 1) (by first | exact wrap_ok (by first | omega | (simp; omega)) (by first | omega | (simp; omega)) | rfl))) ?_
           refine TL.cons rfl (Step.assign (p := (.one (.d (.int .i64 ((i : Int) + 1))))) rfl rfl (lt_ok rfl) rfl) ?_
           refine TL.nil ?_
           refine ⟨(i + 1, n + (((b.getD (a + (i : Int)).toNat 0) % 128) * (128 ^ i))), by (try dsimp only); (refine ⟨by omega, by omega, by rw [Int.pow_succ]; omega, ?_⟩; exact (gvGo_next (n := n) (by omega) (by omega) (by omega) (by omega)).symm.trans hx4), by (dsimp only; omega), Env.le_mk ⟨rfl, rfl, ?_, ?_, ?_, trivial⟩ trivial trivial⟩ <;> (first | rfl | (refine congrArg (fun n => PV.one (.d (.int .i64 n))) ?_; first | rfl | omega | (simp; done)))
        ·
         refine TL.known 45 hb9 rfl ?_
         have hb9' := hb9
         replace hb9' := of_decide_eq_false hb9'
         refine TL.goff 45 rfl rfl (lt_ok rfl) rfl rfl rfl (lt_ok rfl) ?_
         refine TL.goff 45 rfl rfl (lt_ok rfl) rfl rfl rfl (lt_ok rfl) ?_
         refine TL.gyes 42 rfl rfl (lt_ok rfl) rfl (Step.pick (b := false) (p := (.one (.d (.bool false)))) rfl rfl (lt_ok rfl) rfl rfl) ?_
         refine TL.cons rfl (Step.pick (b := false) (p := (.one (.d (.bool false)))) rfl rfl (lt_ok rfl) rfl rfl) ?_
         refine TL.nil ?_
         refine T.cond (b := false) rfl (fun h13_ => absurd h13_ (by simp)) (fun h13_ => ?_)
         refine T.skip ?_
         refine T.seq ?_
         refine T.region ?_
         refine TL.cons rfl (Step.move (p := (.one (.d (.int .i64 n)))) rfl rfl (lt_ok rfl) rfl) ?_
         refine TL.cons rfl (Step.move (p := (.one (.d (.int .i64 (b.getD (a + (i : Int)).toNat 0))))) rfl rfl (lt_ok rfl) rfl) ?_
         refine TL.cons rfl (Step.bin (r := .int .i64 ((b.getD (a + (i : Int)).toNat 0) % 128)) rfl rfl (lt_ok rfl) rfl rfl (Bin.rem (k := .i64) (a := (b.getD (a + (i : Int)).toNat 0)) (b := 128) (by decide) (Int.tmod_eq_emod_of_nonneg (by first | omega | (simp; omega))))) ?_
         refine TL.cons rfl (Step.move (p := (.one (.d (.int .i64 (128 ^ i))))) rfl rfl (lt_ok rfl) rfl) ?_
         refine TL.cons rfl (Step.bin (r := .int .i64 (((b.getD (a + (i : Int)).toNat 0) % 128) * (128 ^ i))) rfl rfl (lt_ok rfl) rfl rfl (Bin.mul (a := ((b.getD (a + (i : Int)).toNat 0) % 128)) (b := (128 ^ i)) (by first | exact wrap_ok (by first | omega | (simp; omega)) (by first | omega | (simp; omega)) | rfl))) ?_
         refine TL.cons rfl (Step.bin (r := .int .i64 (n + (((b.getD (a + (i : Int)).toNat 0) % 128) * (128 ^ i)))) rfl rfl (lt_ok rfl) rfl rfl (Bin.add (a := n) (b := (((b.getD (a + (i : Int)).toNat 0) % 128) * (128 ^ i))) (by first | exact wrap_ok (by first | omega | (simp; omega)) (by first | omega | (simp; omega)) | rfl))) ?_
         refine TL.cons rfl (Step.assign (p := (.one (.d (.int .i64 (n + (((b.getD (a + (i : Int)).toNat 0) % 128) * (128 ^ i))))))) rfl rfl (lt_ok rfl) rfl) ?_
         refine TL.nil ?_
         refine T.seq ?_
         refine T.seq ?_
         refine T.region ?_
         refine TL.cons rfl (Step.move (p := (.one (.d (.int .i64 (b.getD (a + (i : Int)).toNat 0))))) rfl rfl (lt_ok rfl) rfl) ?_
         refine TL.cons rfl (Step.bin rfl rfl (lt_ok rfl) rfl rfl (Bin.lss (k := .i64) (a := (b.getD (a + (i : Int)).toNat 0)) (b := 128))) ?_
         refine TL.nil ?_
         refine T.cond (b := decide ((b.getD (a + (i : Int)).toNat 0) < 128)) rfl (fun h14 => ?_) (fun h14 => ?_)
         ·
          replace h14 := of_decide_eq_true h14
          refine T.seq ?_
          refine T.seq ?_
          refine T.region ?_
          refine TL.cons rfl (Step.move (p := (.one (.d (.int .i64 (n + (((b.getD (a + (i : Int)).toNat 0) % 128) * (128 ^ i))))))) rfl rfl (lt_ok rfl) rfl) ?_
          refine TL.cons rfl (Step.bin rfl rfl (lt_ok rfl) rfl rfl (Bin.gtr (k := .i64) (a := (n + (((b.getD (a + (i : Int)).toNat 0) % 128) * (128 ^ i)))) (b := 1152921504606846975))) ?_
          refine TL.nil ?_
          refine T.cond (b := decide (1152921504606846975 < (n + (((b.getD (a + (i : Int)).toNat 0) % 128) * (128 ^ i))))) rfl (fun h15 => ?_) (fun h15 => ?_)
          ·
           replace h15 := of_decide_eq_true h15
           refine T.seq ?_
           refine T.region ?_
           refine TL.cons rfl (Step.assign (p := (.one (.d (.int .i64 0)))) rfl rfl (lt_ok rfl) rfl) ?_
           refine TL.cons rfl (Step.assign (p := (.one (.d (.int .i64 0)))) rfl rfl (lt_ok rfl) rfl) ?_
           refine TL.cons rfl (Step.assign (p := (.one (.d (.int .i64 2)))) rfl rfl (lt_ok rfl) rfl) ?_
           refine TL.nil ?_
           refine T.ret ?_
           refine ⟨[(false, [.d (.int .i64 0)]), (false, [.d (.int .i64 0)]), (false, [.d (.int .i64 2)])], (.cons rfl (.cons rfl (.cons rfl .nil))), rfl, [], (RetC.rd' ?_ (RetC.rd' ?_ (RetC.rd' ?_ .nil)))⟩ <;> ((congr 1; first | (rw [getVar_out (by omega)]; done) | (rw [getVar_in (by omega), ← hx4]; first | (rw [gvGo_short (by omega) (by omega)]; done) | (rw [gvGo_var (by omega) (by omega) (by omega)]; done) | (rw [gvGo_done (by omega) (by omega) (by omega) (by omega) (by omega)]; done) | (rw [gvGo_big (by omega) (by omega) (by omega) (by omega) (by omega)]; done) | (rw [gvGo_end (by omega)]; done))))
          ·
           replace h15 := of_decide_eq_false h15
           refine T.skip ?_
           refine T.seq ?_
           refine T.region ?_
           refine TL.cons rfl (Step.move (p := (.one (.d (.int .i64 (n + (((b.getD (a + (i : Int)).toNat 0) % 128) * (128 ^ i))))))) rfl rfl (lt_ok rfl) rfl) ?_
           refine TL.cons rfl (Step.move (p := (.one (.d (.int .i64 a)))) rfl rfl (lt_ok rfl) rfl) ?_
           refine TL.cons rfl (Step.move (p := (.one (.d (.int .i64 (i : Int))))) rfl rfl (lt_ok rfl) rfl) ?_
           refine TL.cons rfl (Step.bin (r := .int .i64 (a + (i : Int))) rfl rfl (lt_ok rfl) rfl rfl (Bin.add (a := a) (b := (i : Int)) (by first | exact wrap_ok (by first | omega | (simp; omega)) (by first | omega | (simp; omega)) | rfl))) ?_
           refine TL.cons rfl (Step.bin (r := .int .i64 ((a + (i : Int)) + 1)) rfl rfl (lt_ok rfl) rfl rfl (Bin.add (a := (a + (i : Int))) (b := 1) (by first | exact wrap_ok (by first | omega | (simp; omega)) (by first | omega | (simp; omega)) | rfl))) ?_
           refine TL.cons rfl (Step.assign (p := (.one (.d (.int .i64 (n + (((b.getD (a + (i : Int)).toNat 0) % 128) * (128 ^ i))))))) rfl rfl (lt_ok rfl) rfl) ?_
           refine TL.cons rfl (Step.assign (p := (.one (.d (.int .i64 ((a + (i : Int)) + 1))))) rfl rfl (lt_ok rfl) rfl) ?_
           refine TL.cons rfl (Step.assign (p := (.one (.d (.int .i64 0)))) rfl rfl (lt_ok rfl) rfl) ?_
           refine TL.nil ?_
           refine T.ret ?_
           refine ⟨[(false, [.d (.int .i64 (n + (((b.getD (a + (i : Int)).toNat 0) % 128) * (128 ^ i))))]), (false, [.d (.int .i64 ((a + (i : Int)) + 1))]), (false, [.d (.int .i64 0)])], (.cons rfl (.cons rfl (.cons rfl .nil))), rfl, [], (RetC.rd' ?_ (RetC.rd' ?_ (RetC.rd' ?_ .nil)))⟩ <;> ((congr 1; first | (rw [getVar_out (by omega)]; done) | (rw [getVar_in (by omega), ← hx4]; first | (rw [gvGo_short (by omega) (by omega)]; done) | (rw [gvGo_var (by omega) (by omega) (by omega)]; done) | (rw [gvGo_done (by omega) (by omega) (by omega) (by omega) (by omega)]; done) | (rw [gvGo_big (by omega) (by omega) (by omega) (by omega) (by omega)]; done) | (rw [gvGo_end (by omega)]; done))))
         ·
          replace h14 := of_decide_eq_false h14
          refine T.skip ?_
          refine T.region ?_
          refine TL.cons rfl (Step.move (p := (.one (.d (.int .i64 (128 ^ i))))) rfl rfl (lt_ok rfl) rfl) ?_
          refine TL.cons rfl (Step.bin (r := .int .i64 (128 ^ (i + 1))) rfl rfl (lt_ok rfl) rfl rfl (Bin.mul (a := (128 ^ i)) (b := 128) (by have h7_ := pow128 (i := i + 1) (by omega); rw [← Int.pow_succ]; exact wrap_ok (by omega) (by omega)))) ?_
          refine TL.cons rfl (Step.assign (p := (.one (.d (.int .i64 (128 ^ (i + 1)))))) rfl rfl (lt_ok rfl) rfl) ?_
          refine TL.nil ?_
          refine T.region ?_
          refine TL.cons rfl (Step.move (p := (.one (.d (.int .i64 (i : Int))))) rfl rfl (lt_ok rfl) rfl) ?_
          refine TL.cons rfl (Step.bin (r := .int .i64 ((i : Int) + 1)) rfl rfl (lt_ok rfl) rfl rfl (Bin.add (a := (i : Int)) (b := 1) (by first | exact wrap_ok (by first | omega | (simp; omega)) (by first | omega | (simp; omega)) | rfl))) ?_
          refine TL.cons rfl (Step.assign (p := (.one (.d (.int .i64 ((i : Int) + 1))))) rfl rfl (lt_ok rfl) rfl) ?_
          refine TL.nil ?_
          refine ⟨(i + 1, n + (((b.getD (a + (i : Int)).toNat 0) % 128) * (128 ^ i))), by (try dsimp only); (refine ⟨by omega, by omega, by rw [Int.pow_succ]; omega, ?_⟩; exact (gvGo_next (n := n) (by omega) (by omega) (by omega) (by omega)).symm.trans hx4), by (dsimp only; omega), Env.le_mk ⟨rfl, rfl, ?_, ?_, ?_, trivial⟩ trivial trivial⟩ <;> (first | rfl | (refine congrArg (fun n => PV.one (.d (.int .i64 n))) ?_; first | rfl | omega | (simp; done)))
      ·
       refine TL.known 38 hb6 rfl ?_
       have hb6' := hb6
       replace hb6' := of_decide_eq_false hb6'
       refine TL.goff 38 rfl rfl (lt_ok rfl) rfl rfl rfl (lt_ok rfl) ?_
       refine TL.goff 38 rfl rfl (lt_ok rfl) rfl rfl rfl (lt_ok rfl) ?_
       refine TL.cons rfl (Step.pick (b := false) (p := (.one (.d (.bool false)))) rfl rfl (lt_ok rfl) rfl rfl) ?_
       refine TL.cons rfl (Step.move (p := (.one (.d (.bool false)))) rfl rfl (lt_ok rfl) rfl) ?_
       refine TL.gyes 42 rfl rfl (lt_ok rfl) rfl (Step.move (p := (.one (.d (.int .i64 (i : Int))))) rfl rfl (lt_ok rfl) rfl) ?_
       refine TL.gyes 42 rfl rfl (lt_ok rfl) rfl (Step.bin rfl rfl (lt_ok rfl) rfl rfl (Bin.eql (k := .i64) (a := (i : Int)) (b := 8))) ?_
       refine TL.gyes 42 rfl rfl (lt_ok rfl) rfl (Step.move (p := (.one (.d (.bool (decide ((i : Int) = 8)))))) rfl rfl (lt_ok rfl) rfl) ?_
       rcases Bool.eq_false_or_eq_true (decide ((i : Int) = 8)) with hb16 | hb16
       ·
        refine TL.known 45 hb16 rfl ?_
        have hb16' := hb16
        replace hb16' := of_decide_eq_true hb16'
        refine TL.gyes 45 rfl rfl (lt_ok rfl) rfl (Step.move (p := (.one (.d (.int .i64 (b.getD (a + (i : Int)).toNat 0))))) rfl rfl (lt_ok rfl) rfl) ?_
        refine TL.gyes 45 rfl rfl (lt_ok rfl) rfl (Step.bin rfl rfl (lt_ok rfl) rfl rfl (Bin.geq (k := .i64) (a := (b.getD (a + (i : Int)).toNat 0)) (b := 128))) ?_
        refine TL.gyes 42 rfl rfl (lt_ok rfl) rfl (Step.pick (b := true) (p := (.one (.d (.bool (decide (128 ≤ (b.getD (a + (i : Int)).toNat 0))))))) rfl rfl (lt_ok rfl) rfl rfl) ?_
        refine TL.cons rfl (Step.pick (b := false) (p := (.one (.d (.bool (decide (128 ≤ (b.getD (a + (i : Int)).toNat 0))))))) rfl rfl (lt_ok rfl) rfl rfl) ?_
        refine TL.nil ?_
        refine T.cond (b := decide (128 ≤ (b.getD (a + (i : Int)).toNat 0))) rfl (fun h17 => ?_) (fun h17 => ?_)
        ·
         replace h17 := of_decide_eq_true h17
         refine T.seq ?_
         refine T.region ?_
         refine TL.cons rfl (Step.assign (p := (.one (.d (.int .i64 0)))) rfl rfl (lt_ok rfl) rfl) ?_
         refine TL.cons rfl (Step.assign (p := (.one (.d (.int .i64 0)))) rfl rfl (lt_ok rfl) rfl) ?_
         refine TL.cons rfl (Step.assign (p := (.one (.d (.int .i64 2)))) rfl rfl (lt_ok rfl) rfl) ?_
         refine TL.nil ?_
         refine T.ret ?_
         refine ⟨[(false, [.d (.int .i64 0)]), (false, [.d (.int .i64 0)]), (false, [.d (.int .i64 2)])], (.cons rfl (.cons rfl (.cons rfl .nil))), rfl, [], (RetC.rd' ?_ (RetC.rd' ?_ (RetC.rd' ?_ .nil)))⟩ <;> ((congr 1; first | (rw [getVar_out (by omega)]; done) | (rw [getVar_in (by omega), ← hx4]; first | (rw [gvGo_short (by omega) (by omega)]; done) | (rw [gvGo_var (by omega) (by omega) (by omega)]; done) | (rw [gvGo_done (by omega) (by omega) (by omega) (by omega) (by omega)]; done) | (rw [gvGo_big (by omega) (by omega) (by omega) (by omega) (by omega)]; done) | (rw [gvGo_end (by omega)]; done))))
        ·
         replace h17 := of_decide_eq_false h17
         refine T.skip ?_
         refine T.seq ?_
         refine T.region ?_
         refine TL.cons rfl (Step.move (p := (.one (.d (.int .i64 n)))) rfl rfl (lt_ok rfl) rfl) ?_
         refine TL.cons rfl (Step.move (p := (.one (.d (.int .i64 (b.getD (a + (i : Int)).toNat 0))))) rfl rfl (lt_ok rfl) rfl) ?_
         refine TL.cons rfl (Step.bin (r := .int .i64 ((b.getD (a + (i : Int)).toNat 0) % 128)) rfl rfl (lt_ok rfl) rfl rfl (Bin.rem (k := .i64) (a := (b.getD (a + (i : Int)).toNat 0)) (b := 128) (by decide) (Int.tmod_eq_emod_of_nonneg (by first | omega | (simp; omega))))) ?_
         refine TL.cons rfl (Step.move (p := (.one (.d (.int .i64 (128 ^ i))))) rfl rfl (lt_ok rfl) rfl) ?_
         refine TL.cons rfl (Step.bin (r := .int .i64 (((b.getD (a + (i : Int)).toNat 0) % 128) * (128 ^ i))) rfl rfl (lt_ok rfl) rfl rfl (Bin.mul (a := ((b.getD (a + (i : Int)).toNat 0) % 128)) (b := (128 ^ i)) (by first | exact wrap_ok (by first | omega | (simp; omega)) (by first | omega | (simp; omega)) | rfl))) ?_
         refine TL.cons rfl (Step.bin (r := .int .i64 (n + (((b.getD (a + (i : Int)).toNat 0) % 128) * (128 ^ i)))) rfl rfl (lt_ok rfl) rfl rfl (Bin.add (a := n) (b := (((b.getD (a + (i : Int)).toNat 0) % 128) * (128 ^ i))) (by first | exact wrap_ok (by first | omega | (simp; omega)) (by first | omega | (simp; omega)) | rfl))) ?_
         refine TL.cons rfl (Step.assign (p := (.one (.d (.int .i64 (n + (((b.getD (a + (i : Int)).toNat 0) % 128) * (128 ^ i))))))) rfl rfl (lt_ok rfl) rfl) ?_
         refine TL.nil ?_
         refine T.seq ?_
         refine T.seq ?_
         refine T.region ?_
         refine TL.cons rfl (Step.move (p := (.one (.d (.int .i64 (b.getD (a + (i : Int)).toNat 0))))) rfl rfl (lt_ok rfl) rfl) ?_
         refine TL.cons rfl (Step.bin rfl rfl (lt_ok rfl) rfl rfl (Bin.lss (k := .i64) (a := (b.getD (a + (i : Int)).toNat 0)) (b := 128))) ?_
         refine TL.nil ?_
         refine T.cond (b := decide ((b.getD (a + (i : Int)).toNat 0) < 128)) rfl (fun h18 => ?_) (fun h18 => ?_)
         ·
          replace h18 := of_decide_eq_true h18
          refine T.seq ?_
          refine T.seq ?_
          refine T.region ?_
          refine TL.cons rfl (Step.move (p := (.one (.d (.int .i64 (n + (((b.getD (a + (i : Int)).toNat 0) % 128) * (128 ^ i))))))) rfl rfl (lt_ok rfl) rfl) ?_
          refine TL.cons rfl (Step.bin rfl rfl (lt_ok rfl) rfl rfl (Bin.gtr (k := .i64) (a := (n + (((b.getD (a + (i : Int)).toNat 0) % 128) * (128 ^ i)))) (b := 1152921504606846975))) ?_
          refine TL.nil ?_
          refine T.cond (b := decide (1152921504606846975 < (n + (((b.getD (a + (i : Int)).toNat 0) % 128) * (128 ^ i))))) rfl (fun h19 => ?_) (fun h19 => ?_)
          ·
           replace h19 := of_decide_eq_true h19
           refine T.seq ?_
           refine T.region ?_
           refine TL.cons rfl (Step.assign (p := (.one (.d (.int .i64 0)))) rfl rfl (lt_ok rfl) rfl) ?_
           refine TL.cons rfl (Step.assign (p := (.one (.d (.int .i64 0)))) rfl rfl (lt_ok rfl) rfl) ?_
           refine TL.cons rfl (Step.assign (p := (.one (.d (.int .i64 2)))) rfl rfl (lt_ok rfl) rfl) ?_
           refine TL.nil ?_
           refine T.ret ?_
           refine ⟨[(false, [.d (.int .i64 0)]), (false, [.d (.int .i64 0)]), (false, [.d (.int .i64 2)])], (.cons rfl (.cons rfl (.cons rfl .nil))), rfl, [], (RetC.rd' ?_ (RetC.rd' ?_ (RetC.rd' ?_ .nil)))⟩ <;> ((congr 1; first | (rw [getVar_out (by omega)]; done) | (rw [getVar_in (by omega), ← hx4]; first | (rw [gvGo_short (by omega) (by omega)]; done) | (rw [gvGo_var (by omega) (by omega) (by omega)]; done) | (rw [gvGo_done (by omega) (by omega) (by omega) (by omega) (by omega)]; done) | (rw [gvGo_big (by omega) (by omega) (by omega) (by omega) (by omega)]; done) | (rw [gvGo_end (by omega)]; done))))
          ·
           replace h19 := of_decide_eq_false h19
           refine T.skip ?_
           refine T.seq ?_
           refine T.region ?_
           refine TL.cons rfl (Step.move (p := (.one (.d (.int .i64 (n + (((b.getD (a + (i : Int)).toNat 0) % 128) * (128 ^ i))))))) rfl rfl (lt_ok rfl) rfl) ?_
           refine TL.cons rfl (Step.move (p := (.one (.d (.int .i64 a)))) rfl rfl (lt_ok rfl) rfl) ?_
           refine TL.cons rfl (Step.move (p := (.one (.d (.int .i64 (i : Int))))) rfl rfl (lt_ok rfl) rfl) ?_
           refine TL.cons rfl (Step.bin (r := .int .i64 (a + (i : Int))) rfl rfl (lt_ok rfl) rfl rfl (Bin.add (a := a) (b := (i : Int)) (by first | exact wrap_ok (by first | omega | (simp; omega)) (by first | omega | (simp; omega)) | rfl))) ?_
           refine TL.cons rfl (Step.bin (r := .int .i64 ((a + (i : Int)) + 1)) rfl rfl (lt_ok rfl) rfl rfl (Bin.add (a := (a + (i : Int))) (b := 1) (by first | exact wrap_ok (by first | omega | (simp; omega)) (by first | omega | (simp; omega)) | rfl))) ?_
           refine TL.cons rfl (Step.assign (p := (.one (.d (.int .i64 (n + (((b.getD (a + (i : Int)).toNat 0) % 128) * (128 ^ i))))))) rfl rfl (lt_ok rfl) rfl) ?_
           refine TL.cons rfl (Step.assign (p := (.one (.d (.int .i64 ((a + (i : Int)) + 1))))) rfl rfl (lt_ok rfl) rfl) ?_
           refine TL.cons rfl (Step.assign (p := (.one (.d (.int .i64 0)))) rfl rfl (lt_ok rfl) rfl) ?_
           refine TL.nil ?_
           refine T.ret ?_
           refine ⟨[(false, [.d (.int .i64 (n + (((b.getD (a + (i : Int)).toNat 0) % 128) * (128 ^ i))))]), (false, [.d (.int .i64 ((a + (i : Int)) + 1))]), (false, [.d (.int .i64 0)])], (.cons rfl (.cons rfl (.cons rfl .nil))), rfl, [], (RetC.rd' ?_ (RetC.rd' ?_ (RetC.rd' ?_ .nil)))⟩ <;> ((congr 1; first | (rw [getVar_out (by omega)]; done) | (rw [getVar_in (by omega), ← hx4]; first | (rw [gvGo_short (by omega) (by omega)]; done) | (rw [gvGo_var (by omega) (by omega) (by omega)]; done) | (rw [gvGo_done (by omega) (by omega) (by omega) (by omega) (by omega)]; done) | (rw [gvGo_big (by omega) (by omega) (by omega) (by omega) (by omega)]; done) | (rw [gvGo_end (by omega)]; done))))
         ·
          replace h18 := of_decide_eq_false h18
          refine T.skip ?_
          refine T.region ?_
          refine TL.cons rfl (Step.move (p := (.one (.d (.int .i64 (128 ^ i))))) rfl rfl (lt_ok rfl) rfl) ?_
          refine TL.cons rfl (Step.bin (r := .int .i64 (128 ^ (i + 1))) rfl rfl (lt_ok rfl) rfl rfl (Bin.mul (a := (128 ^ i)) (b := 128) (by have h7_ := pow128 (i := i + 1) (by omega); rw [← Int.pow_succ]; exact wrap_ok (by omega) (by omega)))) ?_
          refine TL.cons rfl (Step.assign (p := (.one (.d (.int .i64 (128 ^ (i + 1)))))) rfl rfl (lt_ok rfl) rfl) ?_
          refine TL.nil ?_
          refine T.region ?_
          refine TL.cons rfl (Step.move (p := (.one (.d (.int .i64 (i : Int))))) rfl rfl (lt_ok rfl) rfl) ?_
          refine TL.cons rfl (Step.bin (r := .int .i64 ((i : Int) + 1)) rfl rfl (lt_ok rfl) rfl rfl (Bin.add (a := (i : Int)) (b := 1) (by first | exact wrap_ok (by first | omega | (simp; omega)) (by first | omega | (simp; omega)) | rfl))) ?_
          refine TL.cons rfl (Step.assign (p := (.one (.d (.int .i64 ((i : Int) + 1))))) rfl rfl (lt_ok rfl) rfl) ?_
          refine TL.nil ?_
          refine ⟨(i + 1, n + (((b.getD (a + (i : Int)).toNat 0) % 128) * (128 ^ i))), by (try dsimp only); (refine ⟨by omega, by omega, by rw [Int.pow_succ]; omega, ?_⟩; exact (gvGo_next (n := n) (by omega) (by omega) (by omega) (by omega)).symm.trans hx4), by (dsimp only; omega), Env.le_mk ⟨rfl, rfl, ?_, ?_, ?_, trivial⟩ trivial trivial⟩ <;> (first | rfl | (refine congrArg (fun n => PV.one (.d (.int .i64 n))) ?_; first | rfl | omega | (simp; done)))
       ·
        refine TL.known 45 hb16 rfl ?_
        have hb16' := hb16
        replace hb16' := of_decide_eq_false hb16'
        refine TL.goff 45 rfl rfl (lt_ok rfl) rfl rfl rfl (lt_ok rfl) ?_
        refine TL.goff 45 rfl rfl (lt_ok rfl) rfl rfl rfl (lt_ok rfl) ?_
        refine TL.gyes 42 rfl rfl (lt_ok rfl) rfl (Step.pick (b := false) (p := (.one (.d (.bool false)))) rfl rfl (lt_ok rfl) rfl rfl) ?_
        refine TL.cons rfl (Step.pick (b := false) (p := (.one (.d (.bool false)))) rfl rfl (lt_ok rfl) rfl rfl) ?_
        refine TL.nil ?_
        refine T.cond (b := false) rfl (fun h20_ => absurd h20_ (by simp)) (fun h20_ => ?_)
        refine T.skip ?_
        refine T.seq ?_
        refine T.region ?_
        refine TL.cons rfl (Step.move (p := (.one (.d (.int .i64 n)))) rfl rfl (lt_ok rfl) rfl) ?_
        refine TL.cons rfl (Step.move (p := (.one (.d (.int .i64 (b.getD (a + (i : Int)).toNat 0))))) rfl rfl (lt_ok rfl) rfl) ?_
        refine TL.cons rfl (Step.bin (r := .int .i64 ((b.getD (a + (i : Int)).toNat 0) % 128)) rfl rfl (lt_ok rfl) rfl rfl (Bin.rem (k := .i64) (a := (b.getD (a + (i : Int)).toNat 0)) (b := 128) (by decide) (Int.tmod_eq_emod_of_nonneg (by first | omega | (simp; omega))))) ?_
        refine TL.cons rfl (Step.move (p := (.one (.d (.int .i64 (128 ^ i))))) rfl rfl (lt_ok rfl) rfl) ?_
        refine TL.cons rfl (Step.bin (r := .int .i64 (((b.getD (a + (i : Int)).toNat 0) % 128) * (128 ^ i))) rfl rfl (lt_ok rfl) rfl rfl (Bin.mul (a := ((b.getD (a + (i : Int)).toNat 0) % 128)) (b := (128 ^ i)) (by first | exact wrap_ok (by first | omega | (simp; omega)) (by first | omega | (simp; omega)) | rfl))) ?_
        refine TL.cons rfl (Step.bin (r := .int .i64 (n + (((b.getD (a + (i : Int)).toNat 0) % 128) * (128 ^ i)))) rfl rfl (lt_ok rfl) rfl rfl (Bin.add (a := n) (b := (((b.getD (a + (i : Int)).toNat 0) % 128) * (128 ^ i))) (by first | exact wrap_ok (by first | omega | (simp; omega)) (by first | omega | (simp; omega)) | rfl))) ?_
        refine TL.cons rfl (Step.assign (p := (.one (.d (.int .i64 (n + (((b.getD (a + (i : Int)).toNat 0) % 128) * (128 ^ i))))))) rfl rfl (lt_ok rfl) rfl) ?_
        refine TL.nil ?_
        refine T.seq ?_
        refine T.seq ?_
        refine T.region ?_
        refine TL.cons rfl (Step.move (p := (.one (.d (.int .i64 (b.getD (a + (i : Int)).toNat 0))))) rfl rfl (lt_ok rfl) rfl) ?_
        refine TL.cons rfl (Step.bin rfl rfl (lt_ok rfl) rfl rfl (Bin.lss (k := .i64) (a := (b.getD (a + (i : Int)).toNat 0)) (b := 128))) ?_
        refine TL.nil ?_
        refine T.cond (b := decide ((b.getD (a + (i : Int)).toNat 0) < 128)) rfl (fun h21 => ?_) (fun h21 => ?_)
        ·
         replace h21 := of_decide_eq_true h21
         refine T.seq ?_
         refine T.seq ?_
         refine T.region ?_
         refine TL.cons rfl (Step.move (p := (.one (.d (.int .i64 (n + (((b.getD (a + (i : Int)).toNat 0) % 128) * (128 ^ i))))))) rfl rfl (lt_ok rfl) rfl) ?_
         refine TL.cons rfl (Step.bin rfl rfl (lt_ok rfl) rfl rfl (Bin.gtr (k := .i64) (a := (n + (((b.getD (a + (i : Int)).toNat 0) % 128) * (128 ^ i)))) (b := 1152921504606846975))) ?_
         refine TL.nil ?_
         refine T.cond (b := decide (1152921504606846975 < (n + (((b.getD (a + (i : Int)).toNat 0) % 128) * (128 ^ i))))) rfl (fun h22 => ?_) (fun h22 => ?_)
         ·
          replace h22 := of_decide_eq_true h22
          refine T.seq ?_
          refine T.region ?_
          refine TL.cons rfl (Step.assign (p := (.one (.d (.int .i64 0)))) rfl rfl (lt_ok rfl) rfl) ?_
          refine TL.cons rfl (Step.assign (p := (.one (.d (.int .i64 0)))) rfl rfl (lt_ok rfl) rfl) ?_
          refine TL.cons rfl (Step.assign (p := (.one (.d (.int .i64 2)))) rfl rfl (lt_ok rfl) rfl) ?_
          refine TL.nil ?_
          refine T.ret ?_
          refine ⟨[(false, [.d (.int .i64 0)]), (false, [.d (.int .i64 0)]), (false, [.d (.int .i64 2)])], (.cons rfl (.cons rfl (.cons rfl .nil))), rfl, [], (RetC.rd' ?_ (RetC.rd' ?_ (RetC.rd' ?_ .nil)))⟩ <;> ((congr 1; first | (rw [getVar_out (by omega)]; done) | (rw [getVar_in (by omega), ← hx4]; first | (rw [gvGo_short (by omega) (by omega)]; done) | (rw [gvGo_var (by omega) (by omega) (by omega)]; done) | (rw [gvGo_done (by omega) (by omega) (by omega) (by omega) (by omega)]; done) | (rw [gvGo_big (by omega) (by omega) (by omega) (by omega) (by omega)]; done) | (rw [gvGo_end (by omega)]; done))))
         ·
          replace h22 := of_decide_eq_false h22
          refine T.skip ?_
          refine T.seq ?_
          refine T.region ?_
          refine TL.cons rfl (Step.move (p := (.one (.d (.int .i64 (n + (((b.getD (a + (i : Int)).toNat 0) % 128) * (128 ^ i))))))) rfl rfl (lt_ok rfl) rfl) ?_
          refine TL.cons rfl (Step.move (p := (.one (.d (.int .i64 a)))) rfl rfl (lt_ok rfl) rfl) ?_
          refine TL.cons rfl (Step.move (p := (.one (.d (.int .i64 (i : Int))))) rfl rfl (lt_ok rfl) rfl) ?_
          refine TL.cons rfl (Step.bin (r := .int .i64 (a + (i : Int))) rfl rfl (lt_ok rfl) rfl rfl (Bin.add (a := a) (b := (i : Int)) (by first | exact wrap_ok (by first | omega | (simp; omega)) (by first | omega | (simp; omega)) | rfl))) ?_
          refine TL.cons rfl (Step.bin (r := .int .i64 ((a + (i : Int)) + 1)) rfl rfl (lt_ok rfl) rfl rfl (Bin.add (a := (a + (i : Int))) (b := 1) (by first | exact wrap_ok (by first | omega | (simp; omega)) (by first | omega | (simp; omega)) | rfl))) ?_
          refine TL.cons rfl (Step.assign (p := (.one (.d (.int .i64 (n + (((b.getD (a + (i : Int)).toNat 0) % 128) * (128 ^ i))))))) rfl rfl (lt_ok rfl) rfl) ?_
          refine TL.cons rfl (Step.assign (p := (.one (.d (.int .i64 ((a + (i : Int)) + 1))))) rfl rfl (lt_ok rfl) rfl) ?_
          refine TL.cons rfl (Step.assign (p := (.one (.d (.int .i64 0)))) rfl rfl (lt_ok rfl) rfl) ?_
          refine TL.nil ?_
          refine T.ret ?_
          refine ⟨[(false, [.d (.int .i64 (n + (((b.getD (a + (i : Int)).toNat 0) % 128) * (128 ^ i))))]), (false, [.d (.int .i64 ((a + (i : Int)) + 1))]), (false, [.d (.int .i64 0)])], (.cons rfl (.cons rfl (.cons rfl .nil))), rfl, [], (RetC.rd' ?_ (RetC.rd' ?_ (RetC.rd' ?_ .nil)))⟩ <;> ((congr 1; first | (rw [getVar_out (by omega)]; done) | (rw [getVar_in (by omega), ← hx4]; first | (rw [gvGo_short (by omega) (by omega)]; done) | (rw [gvGo_var (by omega) (by omega) (by omega)]; done) | (rw [gvGo_done (by omega) (by omega) (by omega) (by omega) (by omega)]; done) | (rw [gvGo_big (by omega) (by omega) (by omega) (by omega) (by omega)]; done) | (rw [gvGo_end (by omega)]; done))))
        ·
         replace h21 := of_decide_eq_false h21
         refine T.skip ?_
         refine T.region ?_
         refine TL.cons rfl (Step.move (p := (.one (.d (.int .i64 (128 ^ i))))) rfl rfl (lt_ok rfl) rfl) ?_
         refine TL.cons rfl (Step.bin (r := .int .i64 (128 ^ (i + 1))) rfl rfl (lt_ok rfl) rfl rfl (Bin.mul (a := (128 ^ i)) (b := 128) (by have h7_ := pow128 (i := i + 1) (by omega); rw [← Int.pow_succ]; exact wrap_ok (by omega) (by omega)))) ?_
         refine TL.cons rfl (Step.assign (p := (.one (.d (.int .i64 (128 ^ (i + 1)))))) rfl rfl (lt_ok rfl) rfl) ?_
         refine TL.nil ?_
         refine T.region ?_
         refine TL.cons rfl (Step.move (p := (.one (.d (.int .i64 (i : Int))))) rfl rfl (lt_ok rfl) rfl) ?_
         refine TL.cons rfl (Step.bin (r := .int .i64 ((i : Int) + 1)) rfl rfl (lt_ok rfl) rfl rfl (Bin.add (a := (i : Int)) (b := 1) (by first | exact wrap_ok (by first | omega | (simp; omega)) (by first | omega | (simp; omega)) | rfl))) ?_
         refine TL.cons rfl (Step.assign (p := (.one (.d (.int .i64 ((i : Int) + 1))))) rfl rfl (lt_ok rfl) rfl) ?_
         refine TL.nil ?_
         refine ⟨(i + 1, n + (((b.getD (a + (i : Int)).toNat 0) % 128) * (128 ^ i))), by (try dsimp only); (refine ⟨by omega, by omega, by rw [Int.pow_succ]; omega, ?_⟩; exact (gvGo_next (n := n) (by omega) (by omega) (by omega) (by omega)).symm.trans hx4), by (dsimp only; omega), Env.le_mk ⟨rfl, rfl, ?_, ?_, ?_, trivial⟩ trivial trivial⟩ <;> (first | rfl | (refine congrArg (fun n => PV.one (.d (.int .i64 n))) ?_; first | rfl | omega | (simp; done)))
    ·
     replace h4 := of_decide_eq_false h4
     refine T.exit ?_
     refine T.seq ?_
     refine T.region ?_
     refine TL.cons rfl (Step.assign (p := (.one (.d (.int .i64 0)))) rfl rfl (lt_ok rfl) rfl) ?_
     refine TL.cons rfl (Step.assign (p := (.one (.d (.int .i64 0)))) rfl rfl (lt_ok rfl) rfl) ?_
     refine TL.cons rfl (Step.assign (p := (.one (.d (.int .i64 2)))) rfl rfl (lt_ok rfl) rfl) ?_
     refine TL.nil ?_
     refine T.ret ?_
     refine ⟨[(false, [.d (.int .i64 0)]), (false, [.d (.int .i64 0)]), (false, [.d (.int .i64 2)])], (.cons rfl (.cons rfl (.cons rfl .nil))), rfl, [], (RetC.rd' ?_ (RetC.rd' ?_ (RetC.rd' ?_ .nil)))⟩ <;> ((congr 1; first | (rw [getVar_out (by omega)]; done) | (rw [getVar_in (by omega), ← hx4]; first | (rw [gvGo_short (by omega) (by omega)]; done) | (rw [gvGo_var (by omega) (by omega) (by omega)]; done) | (rw [gvGo_done (by omega) (by omega) (by omega) (by omega) (by omega)]; done) | (rw [gvGo_big (by omega) (by omega) (by omega) (by omega) (by omega)]; done) | (rw [gvGo_end (by omega)]; done))))
end Go.Proofs.Ytlcmflenbddliaa.Rf
