/- The functions that FnExactPutBlock calls, each held to what it answers. Printed by a program of this session; Lean checks it. -/
import Derived.Test.YtlcmflenbddliaaProg
import Derived.Test.YtlcmflenbddliaaTrFnExactPutBlockb
namespace Go.Proofs.Ytlcmflenbddliaa.Rf
open Go.RowKit
set_option linter.unusedVariables false
set_option linter.unnecessarySimpa false
set_option linter.unusedSimpArgs false
set_option maxRecDepth 100000
set_option maxHeartbeats 4000000
@[ext] structure SLimits where
  f0 : Int
  f1 : Int
  f2 : Int
  f3 : Int
  f4 : Int
  deriving Inhabited, DecidableEq
def SLimits.cells (x : SLimits) : List D := [(.int .i64 x.f0), (.int .i64 x.f1), (.int .i64 x.f2), (.int .i64 x.f3), (.int .i64 x.f4)]
def SLimits.ok (x : SLimits) : Prop := (I64 x.f0) ∧ (I64 x.f1) ∧ (I64 x.f2) ∧ (I64 x.f3) ∧ (I64 x.f4)
@[ext] structure SQc where
  f0 : Int
  f1 : Int
  f2 : List Int
  f3 : List Int
  f4 : List (List Int)
  deriving Inhabited, DecidableEq
def SQc.cells (x : SQc) : List D := [(.int .i64 x.f0), (.int .i64 x.f1), (.ints .u8 x.f2), (.ints .u8 x.f3), (.bss x.f4)]
def SQc.sz (x : SQc) (l : Int) : Int := szThen (szB x.f2 l) fun l0 => szThen (szB x.f3 l0) fun l1 => szThen (szLs szB x.f4 l1) fun l2 => l2
def SQc.sm (x : SQc) : Prop := (x.f2.length ≤ 1048576) ∧ (x.f3.length ≤ 1048576) ∧ (x.f4.length ≤ 1048576 ∧ ∀ y ∈ x.f4, y.length ≤ 1048576)
def SQc.ok (x : SQc) : Prop := (I64 x.f0) ∧ (I64 x.f1) ∧ (U8s x.f2) ∧ (U8s x.f3) ∧ (∀ y ∈ x.f4, U8s y)
theorem SQc.sz_le (x : SQc) {l : Int} (h : 0 ≤ l) : x.sz l ≤ l := by
  unfold SQc.sz
  exact szThen_le' (szB_le _ h) h fun l0 h0 => szThen_le' (szB_le _ h0) h0 fun l1 h1 => szThen_le' (szLs_le (fun x l h => szB_le x h) _ h1) h1 fun l2 h2 => Int.le_refl _
theorem SQc.sz_sm (x : SQc) {l : Int} (h0 : 0 ≤ l) (hl : l ≤ 1048576) (h : 0 ≤ x.sz l) : x.sm := by
  unfold SQc.sz at h
  have ⟨p0, h⟩ := szThen_nn h
  have e0 : (szB x.f2 l) ≤ l := szB_le _ h0
  have s0 := szB_sm p0 hl
  have c0 := Int.le_trans e0 hl
  have ⟨p1, h⟩ := szThen_nn h
  have e1 : (szB x.f3 (szB x.f2 l)) ≤ (szB x.f2 l) := szB_le _ p0
  have s1 := szB_sm p1 c0
  have c1 := Int.le_trans e1 c0
  have ⟨p2, h⟩ := szThen_nn h
  have e2 : (szLs szB x.f4 (szB x.f3 (szB x.f2 l))) ≤ (szB x.f3 (szB x.f2 l)) := szLs_le (fun x l h => szB_le x h) _ p1
  have s2 := szLs_sm (p := fun y => y.length ≤ 1048576) (fun x l h => szB_le x h) (fun x l h h0 hl => szB_sm h hl) p2 c1
  have c2 := Int.le_trans e2 c1
  exact ⟨s0, s1, s2⟩
def SQc.cm (x : SQc) : Int := (x.f2.length : Int) + (x.f3.length : Int) + cntL (fun x : List Int => (x.length : Int)) x.f4
theorem SQc.cm_nn (x : SQc) : 0 ≤ x.cm := by
  unfold SQc.cm
  have n4 := cntBs_nonneg x.f4
  omega
theorem SQc.cm_le {x : SQc} (h : x.sm) : x.cm ≤ 1099513724928 := by
  unfold SQc.cm
  obtain ⟨p2, p3, p4⟩ := h
  have e2 := p2
  have e3 := p3
  have e4 := cntBs_le p4
  omega
@[ext] structure SHead where
  f0 : Int
  f1 : Int
  f2 : Int
  f3 : List Int
  f4 : List Int
  f5 : SQc
  deriving Inhabited, DecidableEq
def SHead.cells (x : SHead) : List D := [(.int .i64 x.f0), (.int .i64 x.f1), (.int .i64 x.f2), (.ints .u8 x.f3), (.ints .u8 x.f4), (.int .i64 x.f5.f0), (.int .i64 x.f5.f1), (.ints .u8 x.f5.f2), (.ints .u8 x.f5.f3), (.bss x.f5.f4)]
def SHead.sz (x : SHead) (l : Int) : Int := szThen (szB x.f3 l) fun l0 => szThen (szB x.f4 l0) fun l1 => szThen (SQc.sz x.f5 l1) fun l2 => l2
def SHead.sm (x : SHead) : Prop := (x.f3.length ≤ 1048576) ∧ (x.f4.length ≤ 1048576) ∧ (x.f5.sm)
def SHead.ok (x : SHead) : Prop := (I64 x.f0) ∧ (I64 x.f1) ∧ (I64 x.f2) ∧ (U8s x.f3) ∧ (U8s x.f4) ∧ (x.f5.ok)
theorem SHead.sz_le (x : SHead) {l : Int} (h : 0 ≤ l) : x.sz l ≤ l := by
  unfold SHead.sz
  exact szThen_le' (szB_le _ h) h fun l0 h0 => szThen_le' (szB_le _ h0) h0 fun l1 h1 => szThen_le' (SQc.sz_le _ h1) h1 fun l2 h2 => Int.le_refl _
theorem SHead.sz_sm (x : SHead) {l : Int} (h0 : 0 ≤ l) (hl : l ≤ 1048576) (h : 0 ≤ x.sz l) : x.sm := by
  unfold SHead.sz at h
  have ⟨p0, h⟩ := szThen_nn h
  have e0 : (szB x.f3 l) ≤ l := szB_le _ h0
  have s0 := szB_sm p0 hl
  have c0 := Int.le_trans e0 hl
  have ⟨p1, h⟩ := szThen_nn h
  have e1 : (szB x.f4 (szB x.f3 l)) ≤ (szB x.f3 l) := szB_le _ p0
  have s1 := szB_sm p1 c0
  have c1 := Int.le_trans e1 c0
  have ⟨p2, h⟩ := szThen_nn h
  have e2 : (SQc.sz x.f5 (szB x.f4 (szB x.f3 l))) ≤ (szB x.f4 (szB x.f3 l)) := SQc.sz_le _ p1
  have s2 := SQc.sz_sm _ p1 c1 p2
  have c2 := Int.le_trans e2 c1
  exact ⟨s0, s1, s2⟩
def SHead.cm (x : SHead) : Int := (x.f3.length : Int) + (x.f4.length : Int) + x.f5.cm
theorem SHead.cm_nn (x : SHead) : 0 ≤ x.cm := by
  unfold SHead.cm
  have n5 := SQc.cm_nn x.f5
  omega
theorem SHead.cm_le {x : SHead} (h : x.sm) : x.cm ≤ 1099515822080 := by
  unfold SHead.cm
  obtain ⟨p3, p4, p5⟩ := h
  have e3 := p3
  have e4 := p4
  have e5 := SQc.cm_le p5
  omega
@[ext] structure SBlock where
  f0 : SHead
  f1 : List (List Int)
  deriving Inhabited, DecidableEq
def SBlock.cells (x : SBlock) : List D := [(.int .i64 x.f0.f0), (.int .i64 x.f0.f1), (.int .i64 x.f0.f2), (.ints .u8 x.f0.f3), (.ints .u8 x.f0.f4), (.int .i64 x.f0.f5.f0), (.int .i64 x.f0.f5.f1), (.ints .u8 x.f0.f5.f2), (.ints .u8 x.f0.f5.f3), (.bss x.f0.f5.f4), (.bss x.f1)]
def SBlock.sz (x : SBlock) (l : Int) : Int := szThen (SHead.sz x.f0 l) fun l0 => szThen (szLs szB x.f1 l0) fun l1 => l1
def SBlock.sm (x : SBlock) : Prop := (x.f0.sm) ∧ (x.f1.length ≤ 1048576 ∧ ∀ y ∈ x.f1, y.length ≤ 1048576)
def SBlock.ok (x : SBlock) : Prop := (x.f0.ok) ∧ (∀ y ∈ x.f1, U8s y)
theorem SBlock.sz_le (x : SBlock) {l : Int} (h : 0 ≤ l) : x.sz l ≤ l := by
  unfold SBlock.sz
  exact szThen_le' (SHead.sz_le _ h) h fun l0 h0 => szThen_le' (szLs_le (fun x l h => szB_le x h) _ h0) h0 fun l1 h1 => Int.le_refl _
theorem SBlock.sz_sm (x : SBlock) {l : Int} (h0 : 0 ≤ l) (hl : l ≤ 1048576) (h : 0 ≤ x.sz l) : x.sm := by
  unfold SBlock.sz at h
  have ⟨p0, h⟩ := szThen_nn h
  have e0 : (SHead.sz x.f0 l) ≤ l := SHead.sz_le _ h0
  have s0 := SHead.sz_sm _ h0 hl p0
  have c0 := Int.le_trans e0 hl
  have ⟨p1, h⟩ := szThen_nn h
  have e1 : (szLs szB x.f1 (SHead.sz x.f0 l)) ≤ (SHead.sz x.f0 l) := szLs_le (fun x l h => szB_le x h) _ p0
  have s1 := szLs_sm (p := fun y => y.length ≤ 1048576) (fun x l h => szB_le x h) (fun x l h h0 hl => szB_sm h hl) p1 c0
  have c1 := Int.le_trans e1 c0
  exact ⟨s0, s1⟩
def SBlock.cm (x : SBlock) : Int := x.f0.cm + cntL (fun x : List Int => (x.length : Int)) x.f1
theorem SBlock.cm_nn (x : SBlock) : 0 ≤ x.cm := by
  unfold SBlock.cm
  have n0 := SHead.cm_nn x.f0
  have n1 := cntBs_nonneg x.f1
  omega
theorem SBlock.cm_le {x : SBlock} (h : x.sm) : x.cm ≤ 2199027449856 := by
  unfold SBlock.cm
  obtain ⟨p0, p1⟩ := h
  have e0 := SHead.cm_le p0
  have e1 := cntBs_le p1
  omega
def varW (n : Int) : List Int := if h : n < 128 then [n] else (n % 128 + 128) :: varW (n / 128)
termination_by n.toNat
decreasing_by omega
theorem varW_last {n : Int} (h : n < 128) : varW n = [n] := by rw [varW, dif_pos h]
theorem varW_next {n : Int} (h : ¬ n < 128) : varW n = (n % 128 + 128) :: varW (n / 128) := by rw [varW, dif_neg h]
theorem varW_len : ∀ (k : Nat) (n : Int), n < 128 ^ (k + 1) → (varW n).length ≤ k + 1
  | 0, n, h => by rw [varW_last (by simpa using h)]; simp
  | k + 1, n, h => by
    by_cases h0 : n < 128
    · rw [varW_last h0]; simp
    · rw [varW_next h0, List.length_cons]
      have := varW_len k (n / 128) (by rw [Int.pow_succ] at h; omega)
      omega
theorem varW_len9 {n : Int} (h : n ≤ 1152921504606846975) : (varW n).length ≤ 9 := by
  have e : (128 : Int) ^ (8 + 1) = 9223372036854775808 := by decide
  exact varW_len 8 n (by rw [e]; omega)
def putVar (b : List Int) (n : Int) : List Int := if decide (0 ≤ n ∧ n ≤ 1152921504606846975) = true then b ++ varW n else []
theorem putVar_len (b : List Int) (n : Int) : (putVar b n).length ≤ b.length + 9 := by
  unfold putVar
  split
  · rename_i h
    have := varW_len9 (of_decide_eq_true h).2
    rw [List.length_append]; omega
  · simp
def limOk (l : SLimits) : Bool := decide (1 ≤ l.f0 ∧ l.f0 ≤ 10) && decide (0 ≤ l.f1 ∧ l.f1 ≤ 40) && decide (0 ≤ l.f2 ∧ l.f2 ≤ 8) && decide (1 ≤ l.f3 ∧ l.f3 ≤ 4000) && decide (3 ≤ l.f4 ∧ l.f4 ≤ 5)
def hashes (l : List (List Int)) : Bool := l.all fun x => decide ((x.length : Int) = 32)
theorem hashes_step {l : List (List Int)} {i : Nat} (hi : i < l.length) (h : hashes (l.take i) = true) (hx : ((l.getD i []).length : Int) = 32) : hashes (l.take (i + 1)) = true := by
  rw [take_succ' (df := []) hi]; simp only [hashes, List.all_append, List.all_cons, List.all_nil, Bool.and_true, Bool.and_eq_true] at h ⊢; exact ⟨h, decide_eq_true hx⟩
theorem hashes_no {l : List (List Int)} {i : Nat} (hi : i < l.length) (hx : ¬ ((l.getD i []).length : Int) = 32) : hashes l = false := by
  cases h : hashes l with
  | false => rfl
  | true =>
    rw [hashes, List.all_eq_true] at h
    have := h (l.getD i []) (by rw [List.getD_eq_getElem?_getD, List.getElem?_eq_getElem hi]; exact List.getElem_mem hi)
    exact absurd (of_decide_eq_true this) hx
def bitsOk (b : List Int) (n : Int) : Bool := decide (1 ≤ n ∧ n ≤ 10) && decide ((b.length : Int) = bitsSize n) && (bitList b).all (fun x => decide (x < n))
theorem all_step {l : List Int} {n : Int} {i : Nat} (hi : i < l.length) (h : (l.take i).all (fun x => decide (x < n)) = true) (hx : l.getD i 0 < n) : (l.take (i + 1)).all (fun x => decide (x < n)) = true := by
  rw [take_succ' (df := 0) hi]; simp only [List.all_append, List.all_cons, List.all_nil, Bool.and_true, Bool.and_eq_true] at h ⊢; exact ⟨h, decide_eq_true hx⟩
theorem all_no {l : List Int} {n : Int} {i : Nat} (hi : i < l.length) (hx : ¬ l.getD i 0 < n) : l.all (fun x => decide (x < n)) = false := by
  cases h : l.all (fun x => decide (x < n)) with
  | false => rfl
  | true =>
    rw [List.all_eq_true] at h
    have := h (l.getD i 0) (by rw [List.getD_eq_getElem?_getD, List.getElem?_eq_getElem hi]; exact List.getElem_mem hi)
    exact absurd (of_decide_eq_true this) hx
theorem bits_last {b : List Int} {n : Int} (h : 0 < (bitList b).length) : (bitList b).all (fun x => decide (x < n)) = decide ((bitList b).getD (((bitList b).length : Int) - 1).toNat 0 < n) := by
  rw [show (((bitList b).length : Int) - 1).toNat = (bitList b).length - 1 from by omega]
  have h1 := bitsGo_last b n (8 * b.length) 0
  rw [show bitsGo b (8 * b.length) 0 = bitList b from rfl] at h1
  rw [h1, List.getLast?_eq_getElem?, List.getElem?_eq_getElem (by omega), List.getD_eq_getElem?_getD, List.getElem?_eq_getElem (by omega)]
  rfl
def qcOk (l : SLimits) (q : SQc) : Bool := limOk l && decide (0 ≤ q.f0 ∧ q.f0 ≤ 1152921504606846975) && decide (0 ≤ q.f1 ∧ q.f1 ≤ 1152921504606846975) && decide ((q.f2.length : Int) = 32) && bitsOk q.f3 l.f0 && decide ((q.f4.length : Int) = ((bitList q.f3).length : Int)) && hashes q.f4
theorem foldl_take_succ {α β : Type} (g : β → α → β) (b : β) (xs : List α) (i : Nat) (df : α) (h : i < xs.length) : (xs.take (i + 1)).foldl g b = g ((xs.take i).foldl g b) (xs.getD i df) := by
  rw [take_succ' (df := df) h, List.foldl_append]; rfl
theorem foldl_len {α : Type} (g : List Int → α → List Int) (c : Nat) (p : α → Prop) (hg : ∀ b x, p x → (g b x).length ≤ b.length + c) : ∀ (xs : List α) (b : List Int), (∀ x ∈ xs, p x) → (xs.foldl g b).length ≤ b.length + xs.length * c
  | [], b, _ => by simp
  | x :: xs, b, h => by
    have h1 := foldl_len g c p hg xs (g b x) fun y hy => h y (by simp [hy])
    have h2 := hg b x (h x (by simp))
    simp only [List.foldl_cons, List.length_cons, Nat.add_mul]
    omega
theorem foldl_take_len {α : Type} (g : List Int → α → List Int) (c : Nat) (p : α → Prop) (hg : ∀ b x, p x → (g b x).length ≤ b.length + c) (xs : List α) (b : List Int) (h : ∀ x ∈ xs, p x) (i : Nat) (n : Nat) (hn : xs.length ≤ n) : ((xs.take i).foldl g b).length ≤ b.length + n * c := by
  have h1 := foldl_len g c p hg (xs.take i) b fun x hx => h x (List.mem_of_mem_take hx)
  have h2 : (xs.take i).length * c ≤ n * c := Nat.mul_le_mul_right _ (by simp; omega)
  omega
theorem foldl_all {α β : Type} (g : β → α → β) (b : β) (xs : List α) (i : Nat) (h : xs.length ≤ i) : (xs.take i).foldl g b = xs.foldl g b := by rw [List.take_of_length_le h]
def rawsB (b : List Int) (l : List (List Int)) : List Int := l.foldl (fun b x => b ++ x) b
theorem raws_len {b : List Int} {l : List (List Int)} {n : Nat} (hn : l.length ≤ n) (h : ∀ x ∈ l, x.length ≤ 1048576) (i : Nat) : ((l.take i).foldl (fun b x => b ++ x) b).length ≤ b.length + n * 1048576 :=
  foldl_take_len _ 1048576 (fun x => x.length ≤ 1048576) (fun b x hx => by simp only [List.length_append]; omega) l b h i n hn
def putQcB (b : List Int) (q : SQc) : List Int := rawsB (putVar (putVar b q.f0) q.f1 ++ q.f2 ++ q.f3) q.f4
def putQc (l : SLimits) (b : List Int) (q : SQc) : List Int := if qcOk l q = true then putQcB b q else []
theorem putQcB_len {b : List Int} {q : SQc} (h : q.sm) : (putQcB b q).length ≤ b.length + 1099513724946 := by
  obtain ⟨s0, s1, s2⟩ := h
  have h1 := putVar_len b q.f0
  have h2 := putVar_len (putVar b q.f0) q.f1
  have h3 := raws_len (b := putVar (putVar b q.f0) q.f1 ++ q.f2 ++ q.f3) s2.1 s2.2 q.f4.length
  rw [List.take_length] at h3
  simp only [List.length_append] at h3
  unfold putQcB rawsB
  omega
theorem putQc_len {l : SLimits} {b : List Int} {q : SQc} (h : q.sm) : (putQc l b q).length ≤ b.length + 1099513724946 := by
  unfold putQc
  split
  · exact putQcB_len h
  · simp
def headFits (h : SHead) : Bool := decide (h.f5.f0 < h.f0) && decide (h.f5.f1 = IntKind.i64.wrap (h.f1 - 1)) && decide (h.f5.f2 = h.f3)
def headOk (l : SLimits) (h : SHead) : Bool := qcOk l h.f5 && decide (0 ≤ h.f0 ∧ h.f0 ≤ 1152921504606846975) && decide (1 ≤ h.f1 ∧ h.f1 ≤ 1152921504606846975) && decide (0 ≤ h.f2 ∧ h.f2 ≤ IntKind.i64.wrap (l.f0 - 1)) && decide ((h.f3.length : Int) = 32) && decide ((h.f4.length : Int) = 32) && headFits h
theorem headOk_qc {l : SLimits} {h : SHead} (k : headOk l h = true) : qcOk l h.f5 = true := by simp only [headOk, Bool.and_eq_true] at k; exact k.1.1.1.1.1.1
theorem qcOk_lim {l : SLimits} {q : SQc} (k : qcOk l q = true) : limOk l = true := by simp only [qcOk, Bool.and_eq_true] at k; exact k.1.1.1.1.1.1
theorem qcOk_no {l : SLimits} {q : SQc} (k : limOk l = false) : qcOk l q = false := by simp [qcOk, k]
def putHeadB (b : List Int) (h : SHead) : List Int := putQcB (putVar (putVar (putVar b h.f0) h.f1) h.f2 ++ h.f3 ++ h.f4) h.f5
def putHead (l : SLimits) (b : List Int) (h : SHead) : List Int := if headOk l h = true then putHeadB b h else []
theorem putHeadB_len {b : List Int} {h : SHead} (k : h.sm) : (putHeadB b h).length ≤ b.length + 1099515822130 := by
  obtain ⟨s0, s1, s2⟩ := k
  have h1 := putVar_len b h.f0
  have h2 := putVar_len (putVar b h.f0) h.f1
  have h3 := putVar_len (putVar (putVar b h.f0) h.f1) h.f2
  have h4 := @putQcB_len (putVar (putVar (putVar b h.f0) h.f1) h.f2 ++ h.f3 ++ h.f4) h.f5 s2
  simp only [List.length_append] at h4
  unfold putHeadB
  omega
theorem putHead_len {l : SLimits} {b : List Int} {h : SHead} (k : h.sm) : (putHead l b h).length ≤ b.length + 1099515822130 := by
  unfold putHead
  split
  · exact putHeadB_len k
  · simp
def splitAtT (n : Int) : Int := if n < 2 then 0 else splitAt n
theorem splitAtT_bd (n : Int) : (n < 2 → splitAtT n = 0) ∧ (2 ≤ n → 1 ≤ splitAtT n ∧ splitAtT n < n) := by
  unfold splitAtT
  refine ⟨fun h => by rw [if_pos h], fun h => ?_⟩
  rw [if_neg (by omega)]
  exact splitAt_bd n h
def leafHash (x : List Int) : List Int := sha ([0] ++ x)
def nodeHash (a b : List Int) : List Int := sha ([1] ++ a ++ b)
theorem leafHash_len (x : List Int) : (leafHash x).length ≤ 32 := sha_len _
theorem leafHash_u8 (x : List Int) : U8s (leafHash x) := sha_u8 _
theorem nodeHash_len (a b : List Int) : (nodeHash a b).length ≤ 32 := sha_len _
theorem nodeHash_u8 (a b : List Int) : U8s (nodeHash a b) := sha_u8 _
theorem u8_cons {x : Int} {a : List Int} (h0 : 0 ≤ x ∧ x ≤ 255) (h : U8s a) : U8s ([x] ++ a) := fun y hy => by
  rcases List.mem_append.1 hy with hy | hy
  · rcases List.mem_singleton.1 hy with rfl; exact h0
  · exact h y hy
theorem u8_app {a b : List Int} (h : U8s a) (h' : U8s b) : U8s (a ++ b) := fun y hy => by
  rcases List.mem_append.1 hy with hy | hy
  · exact h y hy
  · exact h' y hy
theorem mem_sub {α : Type} {p : α → Prop} {l : List α} (h : ∀ y ∈ l, p y) (a b : Nat) : ∀ y ∈ (l.drop a).take b, p y := fun y hy => h y (List.mem_of_mem_drop (List.mem_of_mem_take hy))
theorem splitAtT_le (n : Int) : 0 ≤ splitAtT n ∧ (0 ≤ n → splitAtT n ≤ n) := by have := splitAtT_bd n; omega
theorem part_len {α : Type} (l : List α) : ((l.drop 0).take ((splitAtT (l.length : Int)).toNat - 0)).length = (splitAtT (l.length : Int)).toNat ∧ ((l.drop (splitAtT (l.length : Int)).toNat).take (l.length - (splitAtT (l.length : Int)).toNat)).length = l.length - (splitAtT (l.length : Int)).toNat := by
  have := splitAtT_le (l.length : Int)
  simp only [List.length_take, List.length_drop]
  omega
def treeRoot (l : List (List Int)) : List Int :=
  if h0 : l.length = 0 then sha [] else if h1 : l.length = 1 then leafHash (l.getD 0 []) else
  nodeHash (treeRoot ((l.drop 0).take ((splitAtT (l.length : Int)).toNat - 0))) (treeRoot ((l.drop (splitAtT (l.length : Int)).toNat).take (l.length - (splitAtT (l.length : Int)).toNat)))
termination_by l.length
decreasing_by
  · have h1 := part_len l; have h2 := splitAtT_bd (l.length : Int); omega
  · have h1 := part_len l; have h2 := splitAtT_bd (l.length : Int); omega
theorem treeRoot_nil {l : List (List Int)} (h : (l.length : Int) = 0) : treeRoot l = sha [] := by rw [treeRoot, dif_pos (by omega)]
theorem treeRoot_one {l : List (List Int)} (h : (l.length : Int) = 1) : treeRoot l = leafHash (l.getD 0 []) := by rw [treeRoot, dif_neg (by omega), dif_pos (by omega)]
theorem treeRoot_two {l : List (List Int)} (h0 : ¬ (l.length : Int) = 0) (h1 : ¬ (l.length : Int) = 1) : treeRoot l = nodeHash (treeRoot ((l.drop 0).take ((splitAtT (l.length : Int)).toNat - 0))) (treeRoot ((l.drop (splitAtT (l.length : Int)).toNat).take (l.length - (splitAtT (l.length : Int)).toNat))) := by rw [treeRoot, dif_neg (by omega), dif_neg (by omega)]
theorem treeRoot_len (l : List (List Int)) : (treeRoot l).length ≤ 32 := by
  rw [treeRoot]
  split
  · exact sha_len _
  · split
    · exact leafHash_len _
    · exact nodeHash_len _ _
theorem treeRoot_u8 (l : List (List Int)) : U8s (treeRoot l) := by
  rw [treeRoot]
  split
  · exact sha_u8 _
  · split
    · exact leafHash_u8 _
    · exact nodeHash_u8 _ _
def txsOk (l : SLimits) (t : List (List Int)) : Bool := t.all fun x => decide ((x.length : Int) ≤ l.f1)
theorem txsOk_step {l : SLimits} {t : List (List Int)} {i : Nat} (hi : i < t.length) (h : txsOk l (t.take i) = true) (hx : ((t.getD i []).length : Int) ≤ l.f1) : txsOk l (t.take (i + 1)) = true := by
  rw [take_succ' (df := []) hi]; simp only [txsOk, List.all_append, List.all_cons, List.all_nil, Bool.and_true, Bool.and_eq_true] at h ⊢; exact ⟨h, decide_eq_true hx⟩
theorem txsOk_no {l : SLimits} {t : List (List Int)} {i : Nat} (hi : i < t.length) (hx : ¬ ((t.getD i []).length : Int) ≤ l.f1) : txsOk l t = false := by
  cases h : txsOk l t with
  | false => rfl
  | true =>
    rw [txsOk, List.all_eq_true] at h
    have := h (t.getD i []) (by rw [List.getD_eq_getElem?_getD, List.getElem?_eq_getElem hi]; exact List.getElem_mem hi)
    exact absurd (of_decide_eq_true this) hx
def blockOk (l : SLimits) (x : SBlock) : Bool := headOk l x.f0 && decide ((x.f1.length : Int) ≤ l.f2) && txsOk l x.f1 && decide (x.f0.f4 = treeRoot x.f1)
theorem blockOk_all {l : SLimits} {x : SBlock} (h : blockOk l x = true) : headOk l x.f0 = true ∧ (x.f1.length : Int) ≤ l.f2 ∧ txsOk l x.f1 = true ∧ x.f0.f4 = treeRoot x.f1 := by
  simp only [blockOk, Bool.and_eq_true, decide_eq_true_eq] at h
  exact ⟨h.1.1.1, h.1.1.2, h.1.2, h.2⟩
theorem blockOk_mk {l : SLimits} {x : SBlock} (h1 : headOk l x.f0 = true) (h2 : (x.f1.length : Int) ≤ l.f2) (h3 : txsOk l x.f1 = true) : blockOk l x = decide (x.f0.f4 = treeRoot x.f1) := by
  unfold blockOk; rw [h1, h3, decide_eq_true h2]; rfl
theorem blockOk_n {l : SLimits} {x : SBlock} (h : blockOk l x = true) : x.f1.length ≤ 8 := by
  obtain ⟨h1, h2, _⟩ := blockOk_all h
  have h3 := qcOk_lim (headOk_qc h1)
  simp [limOk] at h3
  omega
def putTextB (b x : List Int) : List Int := putVar b (x.length : Int) ++ x
def putBlockB (b : List Int) (x : SBlock) : List Int := x.f1.foldl putTextB (putVar (putHeadB b x.f0) (x.f1.length : Int))
def putBlock (l : SLimits) (b : List Int) (x : SBlock) : List Int := if blockOk l x = true then putBlockB b x else []
theorem txs_len {b : List Int} {t : List (List Int)} (hn : t.length ≤ 8) (h : ∀ x ∈ t, x.length ≤ 1048576) (i : Nat) : ((t.take i).foldl putTextB b).length ≤ b.length + 8 * 1048585 :=
  foldl_take_len putTextB 1048585 (fun x => x.length ≤ 1048576) (fun b x hx => by have := putVar_len b (x.length : Int); simp only [putTextB, List.length_append]; omega) t b h i 8 hn
theorem putBlock_yes {l : SLimits} {b : List Int} {x : SBlock} (h : blockOk l x = true) : putBlock l b x = putBlockB b x := if_pos h
theorem putBlock_no {l : SLimits} {b : List Int} {x : SBlock} (h : blockOk l x = false) : putBlock l b x = [] := by unfold putBlock; rw [h]; rfl
theorem putBlock_len {l : SLimits} {b : List Int} {x : SBlock} (h : x.sm) : (putBlock l b x).length ≤ b.length + 1099524210819 := by
  unfold putBlock
  split
  · rename_i hk
    have h1 := @putHeadB_len b x.f0 h.1
    have h2 := putVar_len (putHeadB b x.f0) (x.f1.length : Int)
    have h3 := txs_len (b := putVar (putHeadB b x.f0) (x.f1.length : Int)) (blockOk_n hk) h.2.2 x.f1.length
    rw [List.take_length] at h3
    unfold putBlockB
    omega
  · simp
theorem ok_laws_toLimits (a : SLimits) : RO Try.prog 17 [.agg a.cells] [(true, [.rd (.int .i64 a.f0), .rd (.int .i64 a.f1), .rd (.int .i64 a.f2), .rd (.int .i64 a.f3), .rd (.int .i64 a.f4)])] := by
 refine RO.intro Try.func17 rfl 20 rfl (le_ok rfl) fun w Z => ?_
 refine T.seq ?_
 refine T.region ?_
 refine TL.c (Step.box (p := (.agg [cI a.f0, cI a.f1, cI a.f2, cI a.f3, cI a.f4])) (ps := [cI a.f0, cI a.f1, cI a.f2, cI a.f3, cI a.f4]) rfl rfl (lt_ok rfl) rfl rfl rfl rfl rfl) ?_
 refine TL.c (Step.alloc (cs := [.int .i64 0, .int .i64 0, .int .i64 0, .int .i64 0, .int .i64 0]) (ps := [cI 0, cI 0, cI 0, cI 0, cI 0]) rfl rfl (lt_ok rfl) (by kernel_rfl) rfl rfl rfl rfl) ?_
 refine TL.nil ?_
 refine T.seq ?_
 refine T.region ?_
 refine TL.c (Step.alloc (cs := [.int .i64 0, .int .i64 0, .int .i64 0, .int .i64 0, .int .i64 0]) (ps := [cI 0, cI 0, cI 0, cI 0, cI 0]) rfl rfl (lt_ok rfl) (by kernel_rfl) rfl rfl rfl rfl) ?_
 refine TL.nil ?_
 refine T.seq ?_
 refine T.region ?_
 refine TL.c (Step.fieldAddr (q := 0) (off := 0) (n := 1) (one := true) rfl rfl (lt_ok rfl) (by kernel_rfl) (Nat.succ_ne_zero _) rfl) ?_
 refine TL.c (Step.load_box (c := cI a.f0) rfl rfl (lt_ok rfl) (by kernel_rfl) rfl rfl rfl) ?_
 refine TL.c (Step.fieldAddr (q := 0) (off := 0) (n := 1) (one := true) rfl rfl (lt_ok rfl) (by kernel_rfl) (Nat.succ_ne_zero _) rfl) ?_
 refine TL.c (Step.store_box (n := 1) (p := (pI a.f0)) (qs := [cI a.f0]) (ps' := [cI a.f0, cI 0, cI 0, cI 0, cI 0]) rfl rfl (by kernel_rfl) rfl rfl rfl rfl rfl rfl (le_ok rfl) rfl) ?_
 refine TL.nil ?_
 refine T.seq ?_
 refine T.region ?_
 refine TL.c (Step.fieldAddr (q := 0) (off := 1) (n := 1) (one := true) rfl rfl (lt_ok rfl) (by kernel_rfl) (Nat.succ_ne_zero _) rfl) ?_
 refine TL.c (Step.load_box (c := cI a.f1) rfl rfl (lt_ok rfl) (by kernel_rfl) rfl rfl rfl) ?_
 refine TL.c (Step.fieldAddr (q := 0) (off := 1) (n := 1) (one := true) rfl rfl (lt_ok rfl) (by kernel_rfl) (Nat.succ_ne_zero _) rfl) ?_
 refine TL.c (Step.store_box (n := 1) (p := (pI a.f1)) (qs := [cI a.f1]) (ps' := [cI a.f0, cI a.f1, cI 0, cI 0, cI 0]) rfl rfl (by kernel_rfl) rfl rfl rfl rfl rfl rfl (le_ok rfl) rfl) ?_
 refine TL.nil ?_
 refine T.seq ?_
 refine T.region ?_
 refine TL.c (Step.fieldAddr (q := 0) (off := 2) (n := 1) (one := true) rfl rfl (lt_ok rfl) (by kernel_rfl) (Nat.succ_ne_zero _) rfl) ?_
 refine TL.c (Step.load_box (c := cI a.f2) rfl rfl (lt_ok rfl) (by kernel_rfl) rfl rfl rfl) ?_
 refine TL.c (Step.fieldAddr (q := 0) (off := 2) (n := 1) (one := true) rfl rfl (lt_ok rfl) (by kernel_rfl) (Nat.succ_ne_zero _) rfl) ?_
 refine TL.c (Step.store_box (n := 1) (p := (pI a.f2)) (qs := [cI a.f2]) (ps' := [cI a.f0, cI a.f1, cI a.f2, cI 0, cI 0]) rfl rfl (by kernel_rfl) rfl rfl rfl rfl rfl rfl (le_ok rfl) rfl) ?_
 refine TL.nil ?_
 refine T.seq ?_
 refine T.region ?_
 refine TL.c (Step.fieldAddr (q := 0) (off := 3) (n := 1) (one := true) rfl rfl (lt_ok rfl) (by kernel_rfl) (Nat.succ_ne_zero _) rfl) ?_
 refine TL.c (Step.load_box (c := cI a.f3) rfl rfl (lt_ok rfl) (by kernel_rfl) rfl rfl rfl) ?_
 refine TL.c (Step.fieldAddr (q := 0) (off := 3) (n := 1) (one := true) rfl rfl (lt_ok rfl) (by kernel_rfl) (Nat.succ_ne_zero _) rfl) ?_
 refine TL.c (Step.store_box (n := 1) (p := (pI a.f3)) (qs := [cI a.f3]) (ps' := [cI a.f0, cI a.f1, cI a.f2, cI a.f3, cI 0]) rfl rfl (by kernel_rfl) rfl rfl rfl rfl rfl rfl (le_ok rfl) rfl) ?_
 refine TL.nil ?_
 refine T.seq ?_
 refine T.region ?_
 refine TL.c (Step.fieldAddr (q := 0) (off := 4) (n := 1) (one := true) rfl rfl (lt_ok rfl) (by kernel_rfl) (Nat.succ_ne_zero _) rfl) ?_
 refine TL.c (Step.load_box (c := cI a.f4) rfl rfl (lt_ok rfl) (by kernel_rfl) rfl rfl rfl) ?_
 refine TL.c (Step.fieldAddr (q := 0) (off := 4) (n := 1) (one := true) rfl rfl (lt_ok rfl) (by kernel_rfl) (Nat.succ_ne_zero _) rfl) ?_
 refine TL.c (Step.store_box (n := 1) (p := (pI a.f4)) (qs := [cI a.f4]) (ps' := [cI a.f0, cI a.f1, cI a.f2, cI a.f3, cI a.f4]) rfl rfl (by kernel_rfl) rfl rfl rfl rfl rfl rfl (le_ok rfl) rfl) ?_
 refine TL.nil ?_
 refine T.seq ?_
 refine T.region ?_
 refine TL.c (Step.load_box_agg (n := 5) (qs := [cI a.f0, cI a.f1, cI a.f2, cI a.f3, cI a.f4]) rfl rfl (lt_ok rfl) (by kernel_rfl) rfl rfl rfl rfl) ?_
 refine TL.c (Step.store_box (n := 5) (p := (.agg [cI a.f0, cI a.f1, cI a.f2, cI a.f3, cI a.f4])) (qs := [cI a.f0, cI a.f1, cI a.f2, cI a.f3, cI a.f4]) (ps' := [cI a.f0, cI a.f1, cI a.f2, cI a.f3, cI a.f4]) rfl rfl (by kernel_rfl) rfl rfl rfl rfl rfl rfl (le_ok rfl) rfl) ?_
 refine TL.nil ?_
 refine T.ret ?_
 exact ⟨[(true, [.d (.int .i64 a.f0), .d (.int .i64 a.f1), .d (.int .i64 a.f2), .d (.int .i64 a.f3), .d (.int .i64 a.f4)])], (.cons rfl .nil), rfl, [], (RetC.rd' rfl (RetC.rd' rfl (RetC.rd' rfl (RetC.rd' rfl (RetC.rd' rfl .nil)))))⟩
theorem ok_laws_toByteS (a : List Int) (h0_ : a.length ≤ 1048576) : RO Try.prog 18 [.one (.ints .u8 a)] [(false, [.own 5 (.ints .u8 a)])] := by
 refine RO.intro Try.func18 rfl 22 rfl (le_ok rfl) fun w Z => ?_
 refine T.bnd 0 0 rfl rfl fun hb_0_0 => ?_
 simp only [D.size, List.length_map] at hb_0_0
 have h0b := h0_
 refine T.seq ?_
 refine T.region ?_
 refine TL.as (.one (.nil)) ?_
 refine TL.nil ?_
 refine T.seq ?_
 refine T.region ?_
 refine TL.mv (pS a) ?_
 refine TL.c (Step.len (e := 5) (z := 1) (d := (.ints .u8 a)) rfl rfl (lt_ok rfl) (by kernel_rfl) rfl rfl) ?_
 refine TL.c (Step.make (e := 5) (z := 1) (by_ := 1) (n := (a.length : Int)) (zs := [.int .u8 0]) (zd := [.int .u8 0]) (d := (.ints .u8 (List.replicate a.length 0))) rfl rfl (lt_ok rfl) (by kernel_rfl) (lt_ok rfl) rfl (by first | omega | (simp; omega)) (by first | omega | (simp; omega)) (by first | omega | (simp; omega)) (by kernel_rfl) (.val rfl .nil) rfl (by simp) (by simp [D.flat, List.flatten_replicate_singleton]) (by simp [D.size]) rfl trivial) ?_
 refine TL.as (.one (.row 7 [])) ?_
 refine TL.nil ?_
 refine T.seq ?_
 refine T.seq ?_
 refine T.region ?_
 refine TL.as (pI 0) ?_
 refine TL.nil ?_
 refine T.block ?_
 refine T.loop (ι := Nat) (fun xx_ => { tm := [(0, (pS a)), (2, (.one (.nil))), (3, (.one (.row 7 []))), (4, (pI (xx_ : Int)))], rows := [(7, (5, (.ints .u8 (a.take xx_ ++ List.replicate (a.length - xx_) 0 : List Int))))], boxes := [] }) (fun xx_ => xx_ ≤ a.length) (fun xx_ => a.length - xx_) 0 ?_ ?_ ?_
 · refine Env.le_mk ⟨rfl, rfl, rfl, ?_, trivial⟩ ⟨?_, trivial⟩ trivial <;> (first | rfl | exact congrArg (fun x => some (5, ((.ints .u8 x) : D))) (fill_set a 0 0 i (by omega)))
 · exact Nat.zero_le _
 ·
  intro i hx
  try dsimp only at hx ⊢
  refine T.seq ?_
  refine T.seq ?_
  refine T.region ?_
  refine TL.mv (pI (i : Int)) ?_
  refine TL.mv (pS a) ?_
  refine TL.c (Step.len (e := 5) (z := 1) (d := (.ints .u8 a)) rfl rfl (lt_ok rfl) (by kernel_rfl) rfl rfl) ?_
  refine TL.c (Step.bin rfl rfl (lt_ok rfl) rfl rfl (Bin.lss (k := .i64) (a := (i : Int)) (b := (a.length : Int)))) ?_
  refine TL.nil ?_
  refine T.cond (b := decide ((i : Int) < (a.length : Int))) rfl (fun h1 => ?_) (fun h1 => ?_)
  ·
   replace h1 := of_decide_eq_true h1
   refine T.skip ?_
   refine T.seq ?_
   refine T.block ?_
   refine T.region ?_
   refine TL.mv (.one (.row 7 [])) ?_
   refine TL.mv (pI (i : Int)) ?_
   refine TL.mv (pS a) ?_
   refine TL.mv (pI (i : Int)) ?_
   refine TL.c (Step.index (e := 5) (z := 1) (i := (i : Int)) rfl rfl (lt_ok rfl) (by kernel_rfl) rfl rfl rfl (lt_ok rfl) rfl (by first | omega | (simp; omega)) (by simp only [D.size]; first | omega | (simp; omega))) ?_
   refine TL.c (Step.load (e := (.int .u8 (a.getD i 0))) rfl rfl (lt_ok rfl) (by kernel_rfl) rfl rfl) ?_
   refine TL.c (Step.index_row (e := 5) (z := 1) (i := (i : Int)) rfl rfl (lt_ok rfl) (by kernel_rfl) rfl rfl rfl rfl (lt_ok rfl) rfl (by first | omega | (simp; omega)) (by simp only [D.at_, D.cell, D.size]; first | omega | (simp; omega))) ?_
   refine TL.c (Step.store_row (n := 1) (p := (.one (.d (.int .u8 (a.getD i 0))))) (ps := [.d (.int .u8 (a.getD i 0))]) (es := [(.int .u8 (a.getD i 0))]) (ss := []) (d1 := (.ints .u8 ((a.take i ++ List.replicate (a.length - i) 0 : List Int).set i (a.getD i 0)))) (d' := (.ints .u8 ((a.take i ++ List.replicate (a.length - i) 0 : List Int).set i (a.getD i 0)))) rfl rfl (by kernel_rfl) rfl rfl rfl rfl rfl rfl (.val rfl .nil) (by simp) (Putd.one rfl trivial rfl (by simp only [D.at_, D.size, List.length_set, upTo_length]; first | omega | (simp; omega)) (lt_ok rfl)) rfl) ?_
   refine TL.nil ?_
   refine T.region ?_
   refine TL.mv (pI (i : Int)) ?_
   refine TL.c (Step.bin (r := .int .i64 ((i : Int) + 1)) rfl rfl (lt_ok rfl) rfl rfl (Bin.add (a := (i : Int)) (b := 1) (by first | exact wrap_ok (by first | omega | (simp; omega)) (by first | omega | (simp; omega)) | rfl))) ?_
   refine TL.as (pI ((i : Int) + 1)) ?_
   refine TL.nil ?_
   refine ⟨i + 1, by omega, by omega, Env.le_mk ⟨rfl, rfl, rfl, ?_, trivial⟩ ⟨?_, trivial⟩ trivial⟩ <;> (first | rfl | exact congrArg (fun x => some (5, ((.ints .u8 x) : D))) (fill_set a 0 0 i (by omega)))
  ·
   replace h1 := of_decide_eq_false h1
   refine T.exit ?_
   refine T.seq ?_
   refine T.region ?_
   refine TL.mv (.one (.row 7 [])) ?_
   refine TL.as (.one (.row 7 [])) ?_
   refine TL.nil ?_
   refine T.ret ?_
   refine ⟨[(false, [.row 7 []])], (.cons rfl .nil), rfl, [7], (RetC.own' rfl ?_ rfl .nil)⟩ <;> (first | rfl | (congr 1; rw [fill_all' _ _ _ (by omega)]) | (rw [fill_all' _ _ _ (by omega)]))
theorem ok_laws_eqByteS (a : List Int) (b : List Int) : RO Try.prog 21 [.one (.ints .u8 a), .one (.ints .u8 b)] [(false, [.rd (.bool (decide (a = b)))])] := by
 refine RO.intro Try.func21 rfl 26 rfl (le_ok rfl) fun w Z => ?_
 refine T.bnd 0 0 rfl rfl fun hb_0_0 => ?_
 simp only [D.size, List.length_map] at hb_0_0
 refine T.bnd 1 0 rfl rfl fun hb_1_0 => ?_
 simp only [D.size, List.length_map] at hb_1_0
 refine T.seq ?_
 refine T.region ?_
 refine TL.as (pB false) ?_
 refine TL.nil ?_
 refine T.seq ?_
 refine T.seq ?_
 refine T.region ?_
 refine TL.mv (pS a) ?_
 refine TL.c (Step.len (e := 5) (z := 1) (d := (.ints .u8 a)) rfl rfl (lt_ok rfl) (by kernel_rfl) rfl rfl) ?_
 refine TL.mv (pS b) ?_
 refine TL.c (Step.len (e := 5) (z := 1) (d := (.ints .u8 b)) rfl rfl (lt_ok rfl) (by kernel_rfl) rfl rfl) ?_
 refine TL.c (Step.bin rfl rfl (lt_ok rfl) rfl rfl (Bin.neq (k := .i64) (a := (a.length : Int)) (b := (b.length : Int)))) ?_
 refine TL.nil ?_
 refine T.cond (b := decide ((a.length : Int) ≠ (b.length : Int))) rfl (fun h1 => ?_) (fun h1 => ?_)
 ·
  replace h1 := of_decide_eq_true h1
  refine T.seq ?_
  refine T.region ?_
  refine TL.as (pB false) ?_
  refine TL.nil ?_
  refine T.ret ?_
  refine ⟨[(false, [.d (.bool false)])], (.cons rfl .nil), rfl, [], (RetC.rd' ?_ .nil)⟩ <;> ((congr 1; symm; first | (apply decide_eq_false; rintro rfl; first | exact absurd rfl ‹¬ _ = _› | exact absurd rfl (of_decide_eq_false (by assumption)) | contradiction | simp_all) | (apply decide_eq_true; exact take_all hx2 (by omega) hx3)))
 ·
  replace h1 := of_decide_eq_false h1
  refine T.skip ?_
  refine T.seq ?_
  refine T.seq ?_
  refine T.region ?_
  refine TL.as (pI 0) ?_
  refine TL.nil ?_
  refine T.block ?_
  refine T.loop (ι := Nat) (fun xx_ => { tm := [(0, (pS a)), (1, (pS b)), (5, (pI (xx_ : Int)))], rows := [], boxes := [] }) (fun xx_ => xx_ ≤ a.length ∧ a.length = b.length ∧ a.take xx_ = b.take xx_) (fun xx_ => a.length - xx_) 0 ?_ ?_ ?_
  · refine Env.le_mk ⟨rfl, rfl, ?_, trivial⟩ trivial trivial <;> (first | rfl | (simp; done) | (congr 3; omega))
  · (refine ⟨Nat.zero_le _, by omega, by simp⟩)
  ·
   intro i hx
   try dsimp only at hx ⊢
   obtain ⟨hx1, hx2, hx3⟩ := hx
   refine T.seq ?_
   refine T.seq ?_
   refine T.region ?_
   refine TL.mv (pI (i : Int)) ?_
   refine TL.mv (pS a) ?_
   refine TL.c (Step.len (e := 5) (z := 1) (d := (.ints .u8 a)) rfl rfl (lt_ok rfl) (by kernel_rfl) rfl rfl) ?_
   refine TL.c (Step.bin rfl rfl (lt_ok rfl) rfl rfl (Bin.lss (k := .i64) (a := (i : Int)) (b := (a.length : Int)))) ?_
   refine TL.nil ?_
   refine T.cond (b := decide ((i : Int) < (a.length : Int))) rfl (fun h2 => ?_) (fun h2 => ?_)
   ·
    replace h2 := of_decide_eq_true h2
    refine T.skip ?_
    refine T.seq ?_
    refine T.block ?_
    refine T.seq ?_
    refine T.draw [⟨17, (pS a), []⟩, ⟨18, (pI (i : Int)), []⟩, ⟨19, (.one (.eptr (.ints .u8 a) i 0)), []⟩, ⟨20, (.one (.d (.int .u8 (a.getD i 0)))), []⟩, ⟨21, (pS b), []⟩, ⟨22, (pI (i : Int)), []⟩, ⟨23, (.one (.eptr (.ints .u8 b) i 0)), []⟩, ⟨24, (.one (.d (.int .u8 (b.getD i 0)))), []⟩, ⟨25, (pB (decide ((a.getD i 0) ≠ (b.getD i 0)))), []⟩] (by kernel_rfl) (by kernel_rfl) ?_ ?_
    ·
     refine .cons (fun E A => A.mv 0 17) ?_
     refine .cons (fun E A => A.mv 5 18) ?_
     refine .cons (fun E A => OpStep.plain rfl (Step.index (e := 5) (z := 1) (i := (i : Int)) (t := 19) rfl rfl (by exact lt_ok rfl) (by kernel_rfl) (A.g 17 rfl) rfl rfl (lt_ok rfl) (A.g 18 rfl) (by first | omega | (simp; omega)) (by simp only [D.size]; first | omega | (simp; omega)))) ?_
     refine .cons (fun E A => OpStep.plain rfl (Step.load (e := (.int .u8 (a.getD i 0))) (t := 20) rfl rfl (by exact lt_ok rfl) (by kernel_rfl) (A.g 19 rfl) rfl)) ?_
     refine .cons (fun E A => A.mv 1 21) ?_
     refine .cons (fun E A => A.mv 5 22) ?_
     refine .cons (fun E A => OpStep.plain rfl (Step.index (e := 5) (z := 1) (i := (i : Int)) (t := 23) rfl rfl (by exact lt_ok rfl) (by kernel_rfl) (A.g 21 rfl) rfl rfl (lt_ok rfl) (A.g 22 rfl) (by first | omega | (simp; omega)) (by simp only [D.size]; first | omega | (simp; omega)))) ?_
     refine .cons (fun E A => OpStep.plain rfl (Step.load (e := (.int .u8 (b.getD i 0))) (t := 24) rfl rfl (by exact lt_ok rfl) (by kernel_rfl) (A.g 23 rfl) rfl)) ?_
     refine .cons (fun E A => OpStep.plain rfl (Step.bd 25 (A.g 20 rfl) (A.g 24 rfl) (Bin.neq (k := .u8) (a := (a.getD i 0)) (b := (b.getD i 0))))) ?_
     exact .nil _ _
    refine TL.nil ?_
    refine T.cond (b := decide ((a.getD i 0) ≠ (b.getD i 0))) rfl (fun h3 => ?_) (fun h3 => ?_)
    ·
     replace h3 := of_decide_eq_true h3
     refine T.seq ?_
     refine T.region ?_
     refine TL.as (pB false) ?_
     refine TL.nil ?_
     refine T.ret ?_
     refine ⟨[(false, [.d (.bool false)])], (.cons rfl .nil), rfl, [], (RetC.rd' ?_ .nil)⟩ <;> ((congr 1; symm; first | (apply decide_eq_false; rintro rfl; first | exact absurd rfl ‹¬ _ = _› | exact absurd rfl (of_decide_eq_false (by assumption)) | contradiction | simp_all) | (apply decide_eq_true; exact take_all hx2 (by omega) hx3)))
    ·
     replace h3 := of_decide_eq_false h3
     refine T.skip ?_
     refine T.region ?_
     refine TL.mv (pI (i : Int)) ?_
     refine TL.c (Step.bin (r := .int .i64 ((i : Int) + 1)) rfl rfl (lt_ok rfl) rfl rfl (Bin.add (a := (i : Int)) (b := 1) (by first | exact wrap_ok (by first | omega | (simp; omega)) (by first | omega | (simp; omega)) | rfl))) ?_
     refine TL.as (pI ((i : Int) + 1)) ?_
     refine TL.nil ?_
     refine ⟨i + 1, by (refine ⟨by omega, hx2, take_step (d := 0) hx2 (by omega) hx3 (by first | assumption | exact Decidable.not_not.1 (by assumption) | omega)⟩), by omega, Env.le_mk ⟨rfl, rfl, ?_, trivial⟩ trivial trivial⟩ <;> (first | rfl | (simp; done) | (congr 3; omega))
   ·
    replace h2 := of_decide_eq_false h2
    refine T.exit ?_
    refine T.seq ?_
    refine T.region ?_
    refine TL.as (pB true) ?_
    refine TL.nil ?_
    refine T.ret ?_
    refine ⟨[(false, [.d (.bool true)])], (.cons rfl .nil), rfl, [], (RetC.rd' ?_ .nil)⟩ <;> ((congr 1; symm; first | (apply decide_eq_false; rintro rfl; first | exact absurd rfl ‹¬ _ = _› | exact absurd rfl (of_decide_eq_false (by assumption)) | contradiction | simp_all) | (apply decide_eq_true; exact take_all hx2 (by omega) hx3)))
theorem ok_laws_markByteS (a : List Int) (k : Int) (h0_ : 0 ≤ k) (h1_ : k + (a.length : Int) ≤ 4611686018427387904) : MK Try.prog 23 [.one (.mk (.ints .u8 a) (.ints .u8 (mkB a k))), .one (.rd (.int .i64 k))] [(false, [.rd (.int .i64 (k + (a.length : Int)))])] := by
 refine MK.intro Try.func23 rfl 20 rfl (le_ok rfl) (le_ok rfl) rfl fun w Z IX pin Ts hp => ?_
 refine T.bndRow 900 rfl fun hb_900 => ?_
 simp only [D.size, List.length_map] at hb_900
 refine T.seq ?_
 refine T.region ?_
 refine TL.as (pI 0) ?_
 refine TL.nil ?_
 refine T.seq ?_
 refine T.seq ?_
 refine T.region ?_
 refine TL.as (pI 0) ?_
 refine TL.nil ?_
 refine T.block ?_
 refine T.loop (ι := Nat) (fun xx_ => { tm := [(0, (.one (.row 900 []))), (4, (pI 0)), (5, (pI (xx_ : Int))), (1, (pI (k + (xx_ : Int))))], rows := [(900, ((Ts 0), (.ints .u8 (upTo (fun _ => 1) (fun _ k => k % 256) a k xx_))))], boxes := [] }) (fun xx_ => xx_ ≤ a.length) (fun xx_ => a.length - xx_) 0 ?_ ?_ ?_
 · refine Env.le_mk ⟨rfl, rfl, ?_, ?_, trivial⟩ ⟨?_, trivial⟩ trivial <;> (first | exact congrArg (fun x => some (Ts 0, D.ints .u8 x)) (upTo_set (df := 0) (by omega) (by simp only [cntL_one_take a i (by omega)])) | exact congrArg (fun x => some (Ts 0, D.ints .u8 x)) (upTo_zero _ _).symm | rfl | (refine congrArg (fun n => PV.one (.d (.int .i64 n))) ?_; first | omega | (simp; done) | (simp [cntL]; done)))
 · exact Nat.zero_le _
 ·
  intro i hx
  try dsimp only at hx ⊢
  refine T.seq ?_
  refine T.seq ?_
  refine T.region ?_
  refine TL.mv (pI (i : Int)) ?_
  refine TL.mv (.one (.row 900 [])) ?_
  refine TL.c (Step.len' (e := 5) (z := 1) (d := (.ints .u8 (upTo (fun _ => 1) (fun _ k => k % 256) a k i))) (n := a.length) rfl rfl (lt_ok rfl) (by kernel_rfl) rfl rfl (by simp [D.size, upTo_length])) ?_
  refine TL.c (Step.bin rfl rfl (lt_ok rfl) rfl rfl (Bin.lss (k := .i64) (a := (i : Int)) (b := (a.length : Int)))) ?_
  refine TL.nil ?_
  refine T.cond (b := decide ((i : Int) < (a.length : Int))) rfl (fun h1 => ?_) (fun h1 => ?_)
  ·
   replace h1 := of_decide_eq_true h1
   refine T.skip ?_
   refine T.seq ?_
   refine T.block ?_
   refine T.seq ?_
   refine T.region ?_
   refine TL.mv (.one (.row 900 [])) ?_
   refine TL.mv (pI (i : Int)) ?_
   refine TL.mv (pI (k + (i : Int))) ?_
   refine TL.c (Step.conv (c := ((k + (i : Int)) % 256)) rfl rfl (lt_ok rfl) (by kernel_rfl) (by kernel_rfl) rfl (wrap_byte _)) ?_
   refine TL.c (Step.index_row (d := (.ints .u8 (upTo (fun _ => 1) (fun _ k => k % 256) a k i))) (e := 5) (z := 1) (i := (i : Int)) rfl rfl (lt_ok rfl) (by kernel_rfl) rfl rfl rfl rfl (lt_ok rfl) rfl (by first | omega | (simp; omega)) (by simp only [D.at_, D.cell, D.size, List.length_set, List.length_map, upTo_length]; first | omega | (simp; omega))) ?_
   refine TL.c (Step.store_row (n := 1) (p := (.one (.d (.int .u8 ((k + (i : Int)) % 256))))) (ps := [.d (.int .u8 ((k + (i : Int)) % 256))]) (es := [(.int .u8 ((k + (i : Int)) % 256))]) (ss := []) (d1 := (.ints .u8 ((upTo (fun _ => 1) (fun _ k => k % 256) a k i).set i ((k + (i : Int)) % 256)))) (d' := (.ints .u8 ((upTo (fun _ => 1) (fun _ k => k % 256) a k i).set i ((k + (i : Int)) % 256)))) rfl rfl (by kernel_rfl) rfl rfl rfl rfl rfl rfl (.val rfl .nil) (by simp) (Putd.one rfl trivial rfl (by simp only [D.at_, D.size, List.length_set, upTo_length]; first | omega | (simp; omega)) (lt_ok rfl)) rfl) ?_
   refine TL.nil ?_
   refine T.region ?_
   refine TL.mv (pI (k + (i : Int))) ?_
   refine TL.c (Step.bin (r := .int .i64 ((k + (i : Int)) + 1)) rfl rfl (lt_ok rfl) rfl rfl (Bin.add (a := (k + (i : Int))) (b := 1) (by first | exact wrap_ok (by first | omega | (simp; omega)) (by first | omega | (simp; omega)) | rfl))) ?_
   refine TL.as (pI ((k + (i : Int)) + 1)) ?_
   refine TL.nil ?_
   refine T.region ?_
   refine TL.mv (pI (i : Int)) ?_
   refine TL.c (Step.bin (r := .int .i64 ((i : Int) + 1)) rfl rfl (lt_ok rfl) rfl rfl (Bin.add (a := (i : Int)) (b := 1) (by first | exact wrap_ok (by first | omega | (simp; omega)) (by first | omega | (simp; omega)) | rfl))) ?_
   refine TL.as (pI ((i : Int) + 1)) ?_
   refine TL.nil ?_
   refine ⟨i + 1, by omega, by first | omega | (dsimp only; omega), Env.le_mk ⟨rfl, rfl, ?_, ?_, trivial⟩ ⟨?_, trivial⟩ trivial⟩ <;> (first | exact congrArg (fun x => some (Ts 0, D.ints .u8 x)) (upTo_set (df := 0) (by omega) (by simp only [cntL_one_take a i (by omega)])) | exact congrArg (fun x => some (Ts 0, D.ints .u8 x)) (upTo_zero _ _).symm | rfl | (refine congrArg (fun n => PV.one (.d (.int .i64 n))) ?_; first | omega | (simp; done) | (simp [cntL]; done)))
  ·
   replace h1 := of_decide_eq_false h1
   refine T.exit ?_
   refine T.seq ?_
   refine T.region ?_
   refine TL.mv (pI (k + (i : Int))) ?_
   refine TL.as (pI (k + (i : Int))) ?_
   refine TL.nil ?_
   refine T.ret ?_
   refine ⟨⟨⟨[(false, [cI (k + (i : Int))])], (.cons rfl .nil), rfl, [], (RetC.rd' ?_ .nil)⟩, rfl⟩, (.mk' (by exact congrArg (fun x => some (Ts 0, D.ints .u8 x)) (upTo_all (by omega))) (.rd .nil'))⟩ <;> ((congr 1; omega))
theorem ok_laws_heldByteS (a : List Int) (b : List Int) (k : Int) (h0_ : 0 ≤ k) (h1_ : k + (a.length : Int) ≤ 4611686018427387904) (h2_ : b = mkB a k) : RO Try.prog 25 [.one (.ints .u8 b), .one (.int .i64 k)] [(false, [.rd (.int .i64 (k + (a.length : Int)))])] := by
 refine RO.intro Try.func25 rfl 22 rfl (le_ok rfl) fun w Z => ?_
 refine T.bnd 0 0 rfl rfl fun hb_0_0 => ?_
 simp only [D.size, List.length_map] at hb_0_0
 have hl_ : b.length = a.length := by rw [h2_, mkL_length]
 have hg_ : ∀ i, i < a.length → b.getD i 0 = (k + (i : Int)) % 256 := fun i hi => by rw [h2_, mkL_getD _ _ _ _ hi]; simp only [cntL_one_take a i (by omega)]
 refine T.seq ?_
 refine T.region ?_
 refine TL.as (pI 0) ?_
 refine TL.nil ?_
 refine T.seq ?_
 refine T.seq ?_
 refine T.region ?_
 refine TL.as (pI 0) ?_
 refine TL.nil ?_
 refine T.block ?_
 refine T.loop (ι := Nat) (fun xx_ => { tm := [(0, (pS b)), (5, (pI (xx_ : Int))), (1, (pI (k + (xx_ : Int))))], rows := [], boxes := [] }) (fun xx_ => xx_ ≤ a.length) (fun xx_ => a.length - xx_) 0 ?_ ?_ ?_
 · refine Env.le_mk ⟨rfl, ?_, ?_, trivial⟩ trivial trivial <;> (first | rfl | (refine congrArg (fun n => PV.one (.d (.int .i64 n))) ?_; first | omega | (simp; done) | (simp [cntL]; done)))
 · exact Nat.zero_le _
 ·
  intro i hx
  try dsimp only at hx ⊢
  refine T.seq ?_
  refine T.seq ?_
  refine T.region ?_
  refine TL.mv (pI (i : Int)) ?_
  refine TL.mv (pS b) ?_
  refine TL.c (Step.len (e := 5) (z := 1) (d := (.ints .u8 b)) rfl rfl (lt_ok rfl) (by kernel_rfl) rfl rfl) ?_
  refine TL.c (Step.bin rfl rfl (lt_ok rfl) rfl rfl (Bin.lss (k := .i64) (a := (i : Int)) (b := (b.length : Int)))) ?_
  refine TL.nil ?_
  refine T.cond (b := decide ((i : Int) < (b.length : Int))) rfl (fun h1 => ?_) (fun h1 => ?_)
  ·
   replace h1 := of_decide_eq_true h1
   refine T.skip ?_
   refine T.seq ?_
   refine T.block ?_
   refine T.seq ?_
   refine T.seq ?_
   refine T.region ?_
   refine TL.mv (pS b) ?_
   refine TL.mv (pI (i : Int)) ?_
   refine TL.c (Step.index (e := 5) (z := 1) (i := (i : Int)) rfl rfl (lt_ok rfl) (by kernel_rfl) rfl rfl rfl (lt_ok rfl) rfl (by first | omega | (simp; omega)) (by simp only [D.size]; first | omega | (simp; omega))) ?_
   refine TL.c (Step.load (e := (.int .u8 (b.getD i 0))) rfl rfl (lt_ok rfl) (by kernel_rfl) rfl rfl) ?_
   refine TL.mv (pI (k + (i : Int))) ?_
   refine TL.c (Step.conv (c := ((k + (i : Int)) % 256)) rfl rfl (lt_ok rfl) (by kernel_rfl) (by kernel_rfl) rfl (wrap_byte _)) ?_
   refine TL.c (Step.bin rfl rfl (lt_ok rfl) rfl rfl (Bin.neq (k := .u8) (a := (b.getD i 0)) (b := ((k + (i : Int)) % 256)))) ?_
   refine TL.nil ?_
   refine T.cond (b := decide ((b.getD i 0) ≠ ((k + (i : Int)) % 256))) rfl (fun h2 => ?_) (fun h2 => ?_)
   ·
    replace h2 := of_decide_eq_true h2
    refine T.seq ?_
    refine T.region ?_
    refine TL.as (pI (-1)) ?_
    refine TL.nil ?_
    refine T.ret ?_
    refine ⟨[(false, [cI (-1)])], (.cons rfl .nil), rfl, [], (RetC.rd' ?_ .nil)⟩ <;> (first | (congr 1; omega) | (exfalso; have := hg_ i (by omega); omega))
   ·
    replace h2 := of_decide_eq_false h2
    refine T.skip ?_
    refine T.region ?_
    refine TL.mv (pI (k + (i : Int))) ?_
    refine TL.c (Step.bin (r := .int .i64 ((k + (i : Int)) + 1)) rfl rfl (lt_ok rfl) rfl rfl (Bin.add (a := (k + (i : Int))) (b := 1) (by first | exact wrap_ok (by first | omega | (simp; omega)) (by first | omega | (simp; omega)) | rfl))) ?_
    refine TL.as (pI ((k + (i : Int)) + 1)) ?_
    refine TL.nil ?_
    refine T.region ?_
    refine TL.mv (pI (i : Int)) ?_
    refine TL.c (Step.bin (r := .int .i64 ((i : Int) + 1)) rfl rfl (lt_ok rfl) rfl rfl (Bin.add (a := (i : Int)) (b := 1) (by first | exact wrap_ok (by first | omega | (simp; omega)) (by first | omega | (simp; omega)) | rfl))) ?_
    refine TL.as (pI ((i : Int) + 1)) ?_
    refine TL.nil ?_
    refine ⟨i + 1, by omega, by first | omega | (dsimp only; omega), Env.le_mk ⟨rfl, ?_, ?_, trivial⟩ trivial trivial⟩ <;> (first | rfl | (refine congrArg (fun n => PV.one (.d (.int .i64 n))) ?_; first | omega | (simp; done) | (simp [cntL]; done)))
  ·
   replace h1 := of_decide_eq_false h1
   refine T.exit ?_
   refine T.seq ?_
   refine T.region ?_
   refine TL.mv (pI (k + (i : Int))) ?_
   refine TL.as (pI (k + (i : Int))) ?_
   refine TL.nil ?_
   refine T.ret ?_
   refine ⟨[(false, [cI (k + (i : Int))])], (.cons rfl .nil), rfl, [], (RetC.rd' ?_ .nil)⟩ <;> (first | (congr 1; omega) | (exfalso; have := hg_ i (by omega); omega))
theorem ok_laws_szByteS (a : List Int) (left : Int) (h0_ : 0 ≤ left) (h1_ : left ≤ 9223372036854775807) : RO Try.prog 100 [.one (.ints .u8 a), .one (.int .i64 left)] [(false, [.rd (.int .i64 (szB a left))])] := by
 refine RO.intro Try.func100 rfl 12 rfl (le_ok rfl) fun w Z => ?_
 refine T.bnd 0 0 rfl rfl fun hb_0_0 => ?_
 simp only [D.size, List.length_map] at hb_0_0
 refine T.seq ?_
 refine T.region ?_
 refine TL.as (pI 0) ?_
 refine TL.nil ?_
 refine T.seq ?_
 refine T.region ?_
 refine TL.mv (pI left) ?_
 refine TL.mv (pS a) ?_
 refine TL.c (Step.len (e := 5) (z := 1) (d := (.ints .u8 a)) rfl rfl (lt_ok rfl) (by kernel_rfl) rfl rfl) ?_
 refine TL.c (Step.bin (r := .int .i64 (left - (a.length : Int))) rfl rfl (lt_ok rfl) rfl rfl (Bin.sub (a := left) (b := (a.length : Int)) (by first | exact wrap_ok (by first | omega | (simp; omega)) (by first | omega | (simp; omega)) | rfl))) ?_
 refine TL.as (pI (left - (a.length : Int))) ?_
 refine TL.nil ?_
 refine T.seq ?_
 refine T.seq ?_
 refine T.region ?_
 refine TL.mv (pI (left - (a.length : Int))) ?_
 refine TL.c (Step.bin rfl rfl (lt_ok rfl) rfl rfl (Bin.lss (k := .i64) (a := (left - (a.length : Int))) (b := 0))) ?_
 refine TL.nil ?_
 refine T.cond (b := decide ((left - (a.length : Int)) < 0)) rfl (fun h1 => ?_) (fun h1 => ?_)
 ·
  replace h1 := of_decide_eq_true h1
  refine T.seq ?_
  refine T.region ?_
  refine TL.as (pI (-1)) ?_
  refine TL.nil ?_
  refine T.ret ?_
  refine ⟨[(false, [cI (-1)])], (.cons rfl .nil), rfl, [], (RetC.rd' ?_ .nil)⟩ <;> ((congr 1; unfold szB; split <;> omega))
 ·
  replace h1 := of_decide_eq_false h1
  refine T.skip ?_
  refine T.seq ?_
  refine T.region ?_
  refine TL.mv (pI (left - (a.length : Int))) ?_
  refine TL.as (pI (left - (a.length : Int))) ?_
  refine TL.nil ?_
  refine T.ret ?_
  refine ⟨[(false, [cI (left - (a.length : Int))])], (.cons rfl .nil), rfl, [], (RetC.rd' ?_ .nil)⟩ <;> ((congr 1; unfold szB; split <;> omega))
theorem ok_laws_szByteSS (a : List (List Int)) (left : Int) (h0_ : 0 ≤ left) (h1_ : left ≤ 9223372036854775807) : RO Try.prog 54 [.one (.bss a), .one (.int .i64 left)] [(false, [.rd (.int .i64 (szLs szB a left))])] := by
 refine RO.intro Try.func54 rfl 27 rfl (le_ok rfl) fun w Z => ?_
 refine T.bnd 0 0 rfl rfl fun hb_0_0 => ?_
 simp only [D.size, List.length_map] at hb_0_0
 refine T.seq ?_
 refine T.region ?_
 refine TL.as (pI 0) ?_
 refine TL.nil ?_
 refine T.seq ?_
 refine T.region ?_
 refine TL.mv (pI left) ?_
 refine TL.mv (.one (.d (.bss a))) ?_
 refine TL.c (Step.len (e := 24) (z := 1) (d := (.bss a)) rfl rfl (lt_ok rfl) (by kernel_rfl) rfl rfl) ?_
 refine TL.c (Step.bin (r := .int .i64 (left - (a.length : Int))) rfl rfl (lt_ok rfl) rfl rfl (Bin.sub (a := left) (b := (a.length : Int)) (by first | exact wrap_ok (by first | omega | (simp; omega)) (by first | omega | (simp; omega)) | rfl))) ?_
 refine TL.as (pI (left - (a.length : Int))) ?_
 refine TL.nil ?_
 refine T.seq ?_
 refine T.seq ?_
 refine T.region ?_
 refine TL.mv (pI (left - (a.length : Int))) ?_
 refine TL.c (Step.bin rfl rfl (lt_ok rfl) rfl rfl (Bin.lss (k := .i64) (a := (left - (a.length : Int))) (b := 0))) ?_
 refine TL.nil ?_
 refine T.cond (b := decide ((left - (a.length : Int)) < 0)) rfl (fun h1 => ?_) (fun h1 => ?_)
 ·
  replace h1 := of_decide_eq_true h1
  refine T.seq ?_
  refine T.region ?_
  refine TL.as (pI (-1)) ?_
  refine TL.nil ?_
  refine T.ret ?_
  refine ⟨[(false, [cI (-1)])], (.cons rfl .nil), rfl, [], (RetC.rd' ?_ .nil)⟩ <;> ((congr 1; first | (rw [← hx4, szL_drop (dflt := []) a i l (by omega), if_pos (by omega)]; done) | (rw [← hx4, List.drop_of_length_le (by omega)]; rfl) | (unfold szLs; rw [if_pos (by omega)]; done)))
 ·
  replace h1 := of_decide_eq_false h1
  refine T.skip ?_
  refine T.seq ?_
  refine T.seq ?_
  refine T.region ?_
  refine TL.as (pI 0) ?_
  refine TL.nil ?_
  refine T.block ?_
  refine T.loop (ι := Nat × Int) (fun xx_ => { tm := [(0, (.one (.d (.bss a)))), (5, (pI ((xx_.1) : Int))), (1, (pI (xx_.2)))], rows := [], boxes := [] }) (fun xx_ => (xx_.1) ≤ a.length ∧ 0 ≤ (xx_.2) ∧ (xx_.2) ≤ 9223372036854775807 ∧ szL szB (a.drop (xx_.1)) (xx_.2) = szLs szB a left) (fun xx_ => a.length - (xx_.1)) (0, left - (a.length : Int)) ?_ ?_ ?_
  · refine Env.le_mk ⟨rfl, ?_, ?_, trivial⟩ trivial trivial <;> (first | rfl | (simp; done) | (congr 3; omega))
  · (refine ⟨Nat.zero_le _, by omega, by omega, ?_⟩; unfold szLs; rw [if_neg (by omega), List.drop_zero])
  ·
   intro xx_ hx
   obtain ⟨i, l⟩ := xx_
   try dsimp only at hx ⊢
   obtain ⟨hx1, hx2, hx3, hx4⟩ := hx
   refine T.seq ?_
   refine T.seq ?_
   refine T.region ?_
   refine TL.mv (pI (i : Int)) ?_
   refine TL.mv (.one (.d (.bss a))) ?_
   refine TL.c (Step.len (e := 24) (z := 1) (d := (.bss a)) rfl rfl (lt_ok rfl) (by kernel_rfl) rfl rfl) ?_
   refine TL.c (Step.bin rfl rfl (lt_ok rfl) rfl rfl (Bin.lss (k := .i64) (a := (i : Int)) (b := (a.length : Int)))) ?_
   refine TL.nil ?_
   refine T.cond (b := decide ((i : Int) < (a.length : Int))) rfl (fun h2 => ?_) (fun h2 => ?_)
   ·
    replace h2 := of_decide_eq_true h2
    refine T.skip ?_
    refine T.seq ?_
    refine T.block ?_
    refine T.seq ?_
    refine T.region ?_
    refine TL.mv (.one (.d (.bss a))) ?_
    refine TL.mv (pI (i : Int)) ?_
    refine TL.c (Step.index (e := 24) (z := 1) (i := (i : Int)) rfl rfl (lt_ok rfl) (by kernel_rfl) rfl rfl rfl (lt_ok rfl) rfl (by first | omega | (simp; omega)) (by simp only [D.size]; first | omega | (simp; omega))) ?_
    refine TL.c (Step.load (e := (.ints .u8 (a.getD i []))) rfl rfl (lt_ok rfl) (by kernel_rfl) rfl rfl) ?_
    refine TL.mv (pI l) ?_
    refine TL.c (Step.cl (xs := [.tmp 21, .tmp 22]) (ps := [(pS (a.getD i [])), (pI l)]) (g := .func 100) false (.cons (.one (.d _)) (.cons (.one (.d _)) .nil)) (ok_laws_szByteS (a.getD i []) l (by omega) (by omega))) ?_
    refine TL.as (pI (szB (a.getD i []) l)) ?_
    refine TL.nil ?_
    refine T.seq ?_
    refine T.region ?_
    refine TL.mv (pI (szB (a.getD i []) l)) ?_
    refine TL.c (Step.bin rfl rfl (lt_ok rfl) rfl rfl (Bin.lss (k := .i64) (a := (szB (a.getD i []) l)) (b := 0))) ?_
    refine TL.nil ?_
    refine T.cond (b := decide ((szB (a.getD i []) l) < 0)) rfl (fun h4 => ?_) (fun h4 => ?_)
    ·
     replace h4 := of_decide_eq_true h4
     refine T.seq ?_
     refine T.region ?_
     refine TL.as (pI (-1)) ?_
     refine TL.nil ?_
     refine T.ret ?_
     refine ⟨[(false, [cI (-1)])], (.cons rfl .nil), rfl, [], (RetC.rd' ?_ .nil)⟩ <;> ((congr 1; first | (rw [← hx4, szL_drop (dflt := []) a i l (by omega), if_pos (by omega)]; done) | (rw [← hx4, List.drop_of_length_le (by omega)]; rfl) | (unfold szLs; rw [if_pos (by omega)]; done)))
    ·
     replace h4 := of_decide_eq_false h4
     have z3_le : szB (a.getD i []) l ≤ l := szB_le _ (by omega)
     refine T.skip ?_
     refine T.region ?_
     refine TL.mv (pI (i : Int)) ?_
     refine TL.c (Step.bin (r := .int .i64 ((i : Int) + 1)) rfl rfl (lt_ok rfl) rfl rfl (Bin.add (a := (i : Int)) (b := 1) (by first | exact wrap_ok (by first | omega | (simp; omega)) (by first | omega | (simp; omega)) | rfl))) ?_
     refine TL.as (pI ((i : Int) + 1)) ?_
     refine TL.nil ?_
     refine ⟨(i + 1, (szB (a.getD i []) l)), by (refine ⟨by omega, by omega, by omega, ?_⟩; rw [← hx4, szL_drop (dflt := []) a i l (by omega), if_neg (by omega)]), by (dsimp only; omega), Env.le_mk ⟨rfl, ?_, ?_, trivial⟩ trivial trivial⟩ <;> (first | rfl | (simp; done) | (congr 3; omega))
   ·
    replace h2 := of_decide_eq_false h2
    refine T.exit ?_
    refine T.seq ?_
    refine T.region ?_
    refine TL.mv (pI l) ?_
    refine TL.as (pI l) ?_
    refine TL.nil ?_
    refine T.ret ?_
    refine ⟨[(false, [cI l])], (.cons rfl .nil), rfl, [], (RetC.rd' ?_ .nil)⟩ <;> ((congr 1; first | (rw [← hx4, szL_drop (dflt := []) a i l (by omega), if_pos (by omega)]; done) | (rw [← hx4, List.drop_of_length_le (by omega)]; rfl) | (unfold szLs; rw [if_pos (by omega)]; done)))
theorem ok_laws_szQc (a : SQc) (left : Int) (h0_ : 0 ≤ left) (h1_ : left ≤ 9223372036854775807) : RO Try.prog 68 [.agg a.cells, .one (.int .i64 left)] [(false, [.rd (.int .i64 (a.sz left))])] := by
 refine RO.intro Try.func68 rfl 24 rfl (le_ok rfl) fun w Z => ?_
 refine T.seq ?_
 refine T.region ?_
 refine TL.c (Step.box (p := (.agg [cI a.f0, cI a.f1, cS a.f2, cS a.f3, .d (.bss a.f4)])) (ps := [cI a.f0, cI a.f1, cS a.f2, cS a.f3, .d (.bss a.f4)]) rfl rfl (lt_ok rfl) rfl rfl rfl rfl rfl) ?_
 refine TL.as (pI 0) ?_
 refine TL.nil ?_
 refine T.seq ?_
 refine T.region ?_
 refine TL.c (Step.fieldAddr (q := 0) (off := 2) (n := 1) (one := true) rfl rfl (lt_ok rfl) (by kernel_rfl) (Nat.succ_ne_zero _) rfl) ?_
 refine TL.c (Step.load_box (c := cS a.f2) rfl rfl (lt_ok rfl) (by kernel_rfl) rfl rfl rfl) ?_
 refine TL.mv (pI left) ?_
 refine TL.c (Step.cl (xs := [.tmp 6, .tmp 7]) (ps := [(pS a.f2), (pI left)]) (g := .func 100) false (.cons (.one (.d _)) (.cons (.one (.d _)) .nil)) (ok_laws_szByteS a.f2 left (by omega) (by omega))) ?_
 refine TL.as (pI (szB a.f2 left)) ?_
 refine TL.nil ?_
 refine T.seq ?_
 refine T.seq ?_
 refine T.region ?_
 refine TL.mv (pI (szB a.f2 left)) ?_
 refine TL.c (Step.bin rfl rfl (lt_ok rfl) rfl rfl (Bin.lss (k := .i64) (a := (szB a.f2 left)) (b := 0))) ?_
 refine TL.nil ?_
 refine T.cond (b := decide ((szB a.f2 left) < 0)) rfl (fun h2 => ?_) (fun h2 => ?_)
 ·
  replace h2 := of_decide_eq_true h2
  refine T.seq ?_
  refine T.region ?_
  refine TL.as (pI (-1)) ?_
  refine TL.nil ?_
  refine T.ret ?_
  refine ⟨[(false, [cI (-1)])], (.cons rfl .nil), rfl, [], (RetC.rd' ?_ .nil)⟩ <;> (first | rfl | (congr 1; simp only [SQc.sz, szThen]; repeat' (split <;> try omega)))
 ·
  replace h2 := of_decide_eq_false h2
  have z1_le : szB a.f2 left ≤ left := szB_le _ (by omega)
  refine T.skip ?_
  refine T.seq ?_
  refine T.region ?_
  refine TL.c (Step.fieldAddr (q := 0) (off := 3) (n := 1) (one := true) rfl rfl (lt_ok rfl) (by kernel_rfl) (Nat.succ_ne_zero _) rfl) ?_
  refine TL.c (Step.load_box (c := cS a.f3) rfl rfl (lt_ok rfl) (by kernel_rfl) rfl rfl rfl) ?_
  refine TL.mv (pI (szB a.f2 left)) ?_
  refine TL.c (Step.cl (xs := [.tmp 12, .tmp 13]) (ps := [(pS a.f3), (pI (szB a.f2 left))]) (g := .func 100) false (.cons (.one (.d _)) (.cons (.one (.d _)) .nil)) (ok_laws_szByteS a.f3 (szB a.f2 left) (by omega) (by omega))) ?_
  refine TL.as (pI (szB a.f3 (szB a.f2 left))) ?_
  refine TL.nil ?_
  refine T.seq ?_
  refine T.seq ?_
  refine T.region ?_
  refine TL.mv (pI (szB a.f3 (szB a.f2 left))) ?_
  refine TL.c (Step.bin rfl rfl (lt_ok rfl) rfl rfl (Bin.lss (k := .i64) (a := (szB a.f3 (szB a.f2 left))) (b := 0))) ?_
  refine TL.nil ?_
  refine T.cond (b := decide ((szB a.f3 (szB a.f2 left)) < 0)) rfl (fun h4 => ?_) (fun h4 => ?_)
  ·
   replace h4 := of_decide_eq_true h4
   refine T.seq ?_
   refine T.region ?_
   refine TL.as (pI (-1)) ?_
   refine TL.nil ?_
   refine T.ret ?_
   refine ⟨[(false, [cI (-1)])], (.cons rfl .nil), rfl, [], (RetC.rd' ?_ .nil)⟩ <;> (first | rfl | (congr 1; simp only [SQc.sz, szThen]; repeat' (split <;> try omega)))
  ·
   replace h4 := of_decide_eq_false h4
   have z3_le : szB a.f3 (szB a.f2 left) ≤ (szB a.f2 left) := szB_le _ (by omega)
   refine T.skip ?_
   refine T.seq ?_
   refine T.region ?_
   refine TL.c (Step.fieldAddr (q := 0) (off := 4) (n := 1) (one := true) rfl rfl (lt_ok rfl) (by kernel_rfl) (Nat.succ_ne_zero _) rfl) ?_
   refine TL.c (Step.load_box (c := .d (.bss a.f4)) rfl rfl (lt_ok rfl) (by kernel_rfl) rfl rfl rfl) ?_
   refine TL.mv (pI (szB a.f3 (szB a.f2 left))) ?_
   refine TL.c (Step.cl (xs := [.tmp 18, .tmp 19]) (ps := [(.one (.d (.bss a.f4))), (pI (szB a.f3 (szB a.f2 left)))]) (g := .func 54) false (.cons (.one (.d _)) (.cons (.one (.d _)) .nil)) (ok_laws_szByteSS a.f4 (szB a.f3 (szB a.f2 left)) (by omega) (by omega))) ?_
   refine TL.as (pI (szLs szB a.f4 (szB a.f3 (szB a.f2 left)))) ?_
   refine TL.nil ?_
   refine T.seq ?_
   refine T.seq ?_
   refine T.region ?_
   refine TL.mv (pI (szLs szB a.f4 (szB a.f3 (szB a.f2 left)))) ?_
   refine TL.c (Step.bin rfl rfl (lt_ok rfl) rfl rfl (Bin.lss (k := .i64) (a := (szLs szB a.f4 (szB a.f3 (szB a.f2 left)))) (b := 0))) ?_
   refine TL.nil ?_
   refine T.cond (b := decide ((szLs szB a.f4 (szB a.f3 (szB a.f2 left))) < 0)) rfl (fun h6 => ?_) (fun h6 => ?_)
   ·
    replace h6 := of_decide_eq_true h6
    refine T.seq ?_
    refine T.region ?_
    refine TL.as (pI (-1)) ?_
    refine TL.nil ?_
    refine T.ret ?_
    refine ⟨[(false, [cI (-1)])], (.cons rfl .nil), rfl, [], (RetC.rd' ?_ .nil)⟩ <;> (first | rfl | (congr 1; simp only [SQc.sz, szThen]; repeat' (split <;> try omega)))
   ·
    replace h6 := of_decide_eq_false h6
    have z5_le : szLs szB a.f4 (szB a.f3 (szB a.f2 left)) ≤ (szB a.f3 (szB a.f2 left)) := szLs_le (fun x l h => szB_le x h) _ (by omega)
    refine T.skip ?_
    refine T.seq ?_
    refine T.region ?_
    refine TL.mv (pI (szLs szB a.f4 (szB a.f3 (szB a.f2 left)))) ?_
    refine TL.as (pI (szLs szB a.f4 (szB a.f3 (szB a.f2 left)))) ?_
    refine TL.nil ?_
    refine T.ret ?_
    refine ⟨[(false, [cI (szLs szB a.f4 (szB a.f3 (szB a.f2 left)))])], (.cons rfl .nil), rfl, [], (RetC.rd' ?_ .nil)⟩ <;> (first | rfl | (congr 1; simp only [SQc.sz, szThen]; repeat' (split <;> try omega)))
theorem ok_laws_szHead (a : SHead) (left : Int) (h0_ : 0 ≤ left) (h1_ : left ≤ 9223372036854775807) : RO Try.prog 48 [.agg a.cells, .one (.int .i64 left)] [(false, [.rd (.int .i64 (a.sz left))])] := by
 refine RO.intro Try.func48 rfl 24 rfl (le_ok rfl) fun w Z => ?_
 refine T.seq ?_
 refine T.region ?_
 refine TL.c (Step.box (p := (.agg [cI a.f0, cI a.f1, cI a.f2, cS a.f3, cS a.f4, cI a.f5.f0, cI a.f5.f1, cS a.f5.f2, cS a.f5.f3, .d (.bss a.f5.f4)])) (ps := [cI a.f0, cI a.f1, cI a.f2, cS a.f3, cS a.f4, cI a.f5.f0, cI a.f5.f1, cS a.f5.f2, cS a.f5.f3, .d (.bss a.f5.f4)]) rfl rfl (lt_ok rfl) rfl rfl rfl rfl rfl) ?_
 refine TL.as (pI 0) ?_
 refine TL.nil ?_
 refine T.seq ?_
 refine T.region ?_
 refine TL.c (Step.fieldAddr (q := 0) (off := 3) (n := 1) (one := true) rfl rfl (lt_ok rfl) (by kernel_rfl) (Nat.succ_ne_zero _) rfl) ?_
 refine TL.c (Step.load_box (c := cS a.f3) rfl rfl (lt_ok rfl) (by kernel_rfl) rfl rfl rfl) ?_
 refine TL.mv (pI left) ?_
 refine TL.c (Step.cl (xs := [.tmp 6, .tmp 7]) (ps := [(pS a.f3), (pI left)]) (g := .func 100) false (.cons (.one (.d _)) (.cons (.one (.d _)) .nil)) (ok_laws_szByteS a.f3 left (by omega) (by omega))) ?_
 refine TL.as (pI (szB a.f3 left)) ?_
 refine TL.nil ?_
 refine T.seq ?_
 refine T.seq ?_
 refine T.region ?_
 refine TL.mv (pI (szB a.f3 left)) ?_
 refine TL.c (Step.bin rfl rfl (lt_ok rfl) rfl rfl (Bin.lss (k := .i64) (a := (szB a.f3 left)) (b := 0))) ?_
 refine TL.nil ?_
 refine T.cond (b := decide ((szB a.f3 left) < 0)) rfl (fun h2 => ?_) (fun h2 => ?_)
 ·
  replace h2 := of_decide_eq_true h2
  refine T.seq ?_
  refine T.region ?_
  refine TL.as (pI (-1)) ?_
  refine TL.nil ?_
  refine T.ret ?_
  refine ⟨[(false, [cI (-1)])], (.cons rfl .nil), rfl, [], (RetC.rd' ?_ .nil)⟩ <;> (first | rfl | (congr 1; simp only [SHead.sz, szThen]; repeat' (split <;> try omega)))
 ·
  replace h2 := of_decide_eq_false h2
  have z1_le : szB a.f3 left ≤ left := szB_le _ (by omega)
  refine T.skip ?_
  refine T.seq ?_
  refine T.region ?_
  refine TL.c (Step.fieldAddr (q := 0) (off := 4) (n := 1) (one := true) rfl rfl (lt_ok rfl) (by kernel_rfl) (Nat.succ_ne_zero _) rfl) ?_
  refine TL.c (Step.load_box (c := cS a.f4) rfl rfl (lt_ok rfl) (by kernel_rfl) rfl rfl rfl) ?_
  refine TL.mv (pI (szB a.f3 left)) ?_
  refine TL.c (Step.cl (xs := [.tmp 12, .tmp 13]) (ps := [(pS a.f4), (pI (szB a.f3 left))]) (g := .func 100) false (.cons (.one (.d _)) (.cons (.one (.d _)) .nil)) (ok_laws_szByteS a.f4 (szB a.f3 left) (by omega) (by omega))) ?_
  refine TL.as (pI (szB a.f4 (szB a.f3 left))) ?_
  refine TL.nil ?_
  refine T.seq ?_
  refine T.seq ?_
  refine T.region ?_
  refine TL.mv (pI (szB a.f4 (szB a.f3 left))) ?_
  refine TL.c (Step.bin rfl rfl (lt_ok rfl) rfl rfl (Bin.lss (k := .i64) (a := (szB a.f4 (szB a.f3 left))) (b := 0))) ?_
  refine TL.nil ?_
  refine T.cond (b := decide ((szB a.f4 (szB a.f3 left)) < 0)) rfl (fun h4 => ?_) (fun h4 => ?_)
  ·
   replace h4 := of_decide_eq_true h4
   refine T.seq ?_
   refine T.region ?_
   refine TL.as (pI (-1)) ?_
   refine TL.nil ?_
   refine T.ret ?_
   refine ⟨[(false, [cI (-1)])], (.cons rfl .nil), rfl, [], (RetC.rd' ?_ .nil)⟩ <;> (first | rfl | (congr 1; simp only [SHead.sz, szThen]; repeat' (split <;> try omega)))
  ·
   replace h4 := of_decide_eq_false h4
   have z3_le : szB a.f4 (szB a.f3 left) ≤ (szB a.f3 left) := szB_le _ (by omega)
   refine T.skip ?_
   refine T.seq ?_
   refine T.region ?_
   refine TL.c (Step.fieldAddr (q := 0) (off := 5) (n := 5) (one := false) rfl rfl (lt_ok rfl) (by kernel_rfl) (Nat.succ_ne_zero _) rfl) ?_
   refine TL.c (Step.load_box_agg (n := 5) (qs := [cI a.f5.f0, cI a.f5.f1, cS a.f5.f2, cS a.f5.f3, .d (.bss a.f5.f4)]) rfl rfl (lt_ok rfl) (by kernel_rfl) rfl rfl rfl rfl) ?_
   refine TL.mv (pI (szB a.f4 (szB a.f3 left))) ?_
   refine TL.c (Step.cl (xs := [.tmp 18, .tmp 19]) (ps := [(.agg [cI a.f5.f0, cI a.f5.f1, cS a.f5.f2, cS a.f5.f3, .d (.bss a.f5.f4)]), (pI (szB a.f4 (szB a.f3 left)))]) (g := .func 68) false (.cons (.agg (.cons (.d _) (.cons (.d _) (.cons (.d _) (.cons (.d _) (.cons (.d _) .nil)))))) (.cons (.one (.d _)) .nil)) (ok_laws_szQc a.f5 (szB a.f4 (szB a.f3 left)) (by omega) (by omega))) ?_
   refine TL.as (pI (a.f5.sz (szB a.f4 (szB a.f3 left)))) ?_
   refine TL.nil ?_
   refine T.seq ?_
   refine T.seq ?_
   refine T.region ?_
   refine TL.mv (pI (a.f5.sz (szB a.f4 (szB a.f3 left)))) ?_
   refine TL.c (Step.bin rfl rfl (lt_ok rfl) rfl rfl (Bin.lss (k := .i64) (a := (a.f5.sz (szB a.f4 (szB a.f3 left)))) (b := 0))) ?_
   refine TL.nil ?_
   refine T.cond (b := decide ((a.f5.sz (szB a.f4 (szB a.f3 left))) < 0)) rfl (fun h6 => ?_) (fun h6 => ?_)
   ·
    replace h6 := of_decide_eq_true h6
    refine T.seq ?_
    refine T.region ?_
    refine TL.as (pI (-1)) ?_
    refine TL.nil ?_
    refine T.ret ?_
    refine ⟨[(false, [cI (-1)])], (.cons rfl .nil), rfl, [], (RetC.rd' ?_ .nil)⟩ <;> (first | rfl | (congr 1; simp only [SHead.sz, szThen]; repeat' (split <;> try omega)))
   ·
    replace h6 := of_decide_eq_false h6
    have z5_le : a.f5.sz (szB a.f4 (szB a.f3 left)) ≤ (szB a.f4 (szB a.f3 left)) := SQc.sz_le _ (by omega)
    refine T.skip ?_
    refine T.seq ?_
    refine T.region ?_
    refine TL.mv (pI (a.f5.sz (szB a.f4 (szB a.f3 left)))) ?_
    refine TL.as (pI (a.f5.sz (szB a.f4 (szB a.f3 left)))) ?_
    refine TL.nil ?_
    refine T.ret ?_
    refine ⟨[(false, [cI (a.f5.sz (szB a.f4 (szB a.f3 left)))])], (.cons rfl .nil), rfl, [], (RetC.rd' ?_ .nil)⟩ <;> (first | rfl | (congr 1; simp only [SHead.sz, szThen]; repeat' (split <;> try omega)))
theorem ok_laws_szBlock (a : SBlock) (left : Int) (h0_ : 0 ≤ left) (h1_ : left ≤ 9223372036854775807) : RO Try.prog 26 [.agg a.cells, .one (.int .i64 left)] [(false, [.rd (.int .i64 (a.sz left))])] := by
 refine RO.intro Try.func26 rfl 18 rfl (le_ok rfl) fun w Z => ?_
 refine T.seq ?_
 refine T.region ?_
 refine TL.c (Step.box (p := (.agg [cI a.f0.f0, cI a.f0.f1, cI a.f0.f2, cS a.f0.f3, cS a.f0.f4, cI a.f0.f5.f0, cI a.f0.f5.f1, cS a.f0.f5.f2, cS a.f0.f5.f3, .d (.bss a.f0.f5.f4), .d (.bss a.f1)])) (ps := [cI a.f0.f0, cI a.f0.f1, cI a.f0.f2, cS a.f0.f3, cS a.f0.f4, cI a.f0.f5.f0, cI a.f0.f5.f1, cS a.f0.f5.f2, cS a.f0.f5.f3, .d (.bss a.f0.f5.f4), .d (.bss a.f1)]) rfl rfl (lt_ok rfl) rfl rfl rfl rfl rfl) ?_
 refine TL.as (pI 0) ?_
 refine TL.nil ?_
 refine T.seq ?_
 refine T.region ?_
 refine TL.c (Step.fieldAddr (q := 0) (off := 0) (n := 10) (one := false) rfl rfl (lt_ok rfl) (by kernel_rfl) (Nat.succ_ne_zero _) rfl) ?_
 refine TL.c (Step.load_box_agg (n := 10) (qs := [cI a.f0.f0, cI a.f0.f1, cI a.f0.f2, cS a.f0.f3, cS a.f0.f4, cI a.f0.f5.f0, cI a.f0.f5.f1, cS a.f0.f5.f2, cS a.f0.f5.f3, .d (.bss a.f0.f5.f4)]) rfl rfl (lt_ok rfl) (by kernel_rfl) rfl rfl rfl rfl) ?_
 refine TL.mv (pI left) ?_
 refine TL.c (Step.cl (xs := [.tmp 6, .tmp 7]) (ps := [(.agg [cI a.f0.f0, cI a.f0.f1, cI a.f0.f2, cS a.f0.f3, cS a.f0.f4, cI a.f0.f5.f0, cI a.f0.f5.f1, cS a.f0.f5.f2, cS a.f0.f5.f3, .d (.bss a.f0.f5.f4)]), (pI left)]) (g := .func 48) false (.cons (.agg (.cons (.d _) (.cons (.d _) (.cons (.d _) (.cons (.d _) (.cons (.d _) (.cons (.d _) (.cons (.d _) (.cons (.d _) (.cons (.d _) (.cons (.d _) .nil))))))))))) (.cons (.one (.d _)) .nil)) (ok_laws_szHead a.f0 left (by omega) (by omega))) ?_
 refine TL.as (pI (a.f0.sz left)) ?_
 refine TL.nil ?_
 refine T.seq ?_
 refine T.seq ?_
 refine T.region ?_
 refine TL.mv (pI (a.f0.sz left)) ?_
 refine TL.c (Step.bin rfl rfl (lt_ok rfl) rfl rfl (Bin.lss (k := .i64) (a := (a.f0.sz left)) (b := 0))) ?_
 refine TL.nil ?_
 refine T.cond (b := decide ((a.f0.sz left) < 0)) rfl (fun h2 => ?_) (fun h2 => ?_)
 ·
  replace h2 := of_decide_eq_true h2
  refine T.seq ?_
  refine T.region ?_
  refine TL.as (pI (-1)) ?_
  refine TL.nil ?_
  refine T.ret ?_
  refine ⟨[(false, [cI (-1)])], (.cons rfl .nil), rfl, [], (RetC.rd' ?_ .nil)⟩ <;> (first | rfl | (congr 1; simp only [SBlock.sz, szThen]; repeat' (split <;> try omega)))
 ·
  replace h2 := of_decide_eq_false h2
  have z1_le : a.f0.sz left ≤ left := SHead.sz_le _ (by omega)
  refine T.skip ?_
  refine T.seq ?_
  refine T.region ?_
  refine TL.c (Step.fieldAddr (q := 0) (off := 10) (n := 1) (one := true) rfl rfl (lt_ok rfl) (by kernel_rfl) (Nat.succ_ne_zero _) rfl) ?_
  refine TL.c (Step.load_box (c := .d (.bss a.f1)) rfl rfl (lt_ok rfl) (by kernel_rfl) rfl rfl rfl) ?_
  refine TL.mv (pI (a.f0.sz left)) ?_
  refine TL.c (Step.cl (xs := [.tmp 12, .tmp 13]) (ps := [(.one (.d (.bss a.f1))), (pI (a.f0.sz left))]) (g := .func 54) false (.cons (.one (.d _)) (.cons (.one (.d _)) .nil)) (ok_laws_szByteSS a.f1 (a.f0.sz left) (by omega) (by omega))) ?_
  refine TL.as (pI (szLs szB a.f1 (a.f0.sz left))) ?_
  refine TL.nil ?_
  refine T.seq ?_
  refine T.seq ?_
  refine T.region ?_
  refine TL.mv (pI (szLs szB a.f1 (a.f0.sz left))) ?_
  refine TL.c (Step.bin rfl rfl (lt_ok rfl) rfl rfl (Bin.lss (k := .i64) (a := (szLs szB a.f1 (a.f0.sz left))) (b := 0))) ?_
  refine TL.nil ?_
  refine T.cond (b := decide ((szLs szB a.f1 (a.f0.sz left)) < 0)) rfl (fun h4 => ?_) (fun h4 => ?_)
  ·
   replace h4 := of_decide_eq_true h4
   refine T.seq ?_
   refine T.region ?_
   refine TL.as (pI (-1)) ?_
   refine TL.nil ?_
   refine T.ret ?_
   refine ⟨[(false, [cI (-1)])], (.cons rfl .nil), rfl, [], (RetC.rd' ?_ .nil)⟩ <;> (first | rfl | (congr 1; simp only [SBlock.sz, szThen]; repeat' (split <;> try omega)))
  ·
   replace h4 := of_decide_eq_false h4
   have z3_le : szLs szB a.f1 (a.f0.sz left) ≤ (a.f0.sz left) := szLs_le (fun x l h => szB_le x h) _ (by omega)
   refine T.skip ?_
   refine T.seq ?_
   refine T.region ?_
   refine TL.mv (pI (szLs szB a.f1 (a.f0.sz left))) ?_
   refine TL.as (pI (szLs szB a.f1 (a.f0.sz left))) ?_
   refine TL.nil ?_
   refine T.ret ?_
   refine ⟨[(false, [cI (szLs szB a.f1 (a.f0.sz left))])], (.cons rfl .nil), rfl, [], (RetC.rd' ?_ .nil)⟩ <;> (first | rfl | (congr 1; simp only [SBlock.sz, szThen]; repeat' (split <;> try omega)))
theorem ok_spec_l01In (n : Int) (lo : Int) (hi : Int) : RO Try.prog 114 [.one (.int .i64 n), .one (.int .i64 lo), .one (.int .i64 hi)] [(false, [.rd (.bool (decide (lo ≤ n ∧ n ≤ hi)))])] := by
 refine RO.intro Try.func114 rfl 15 rfl (le_ok rfl) fun w Z => ?_
 refine T.seq ?_
 refine T.region ?_
 refine TL.as (pB false) ?_
 refine TL.nil ?_
 refine T.seq ?_
 refine T.region ?_
 refine TL.mv (pI n) ?_
 refine TL.mv (pI lo) ?_
 refine TL.c (Step.bin rfl rfl (lt_ok rfl) rfl rfl (Bin.geq (k := .i64) (a := n) (b := lo))) ?_
 refine TL.mv (pB (decide (lo ≤ n))) ?_
 rcases Bool.eq_false_or_eq_true (decide (lo ≤ n)) with hb1 | hb1
 ·
  refine TL.known 10 hb1 rfl ?_
  refine TL.gm 10 (pI n) ?_
  refine TL.gm 10 (pI hi) ?_
  refine TL.gy 10 (Step.bin rfl rfl (lt_ok rfl) rfl rfl (Bin.leq (k := .i64) (a := n) (b := hi))) ?_
  refine TL.pk true (pB (decide (n ≤ hi))) ?_
  refine TL.as (pB (decide (n ≤ hi))) ?_
  refine TL.nil ?_
  refine T.ret ?_
  refine ⟨[(false, [.d (.bool (decide (n ≤ hi)))])], (.cons rfl .nil), rfl, [], (RetC.rd' ?_ .nil)⟩ <;> (first | (congr 1; simp_all; done) | (congr 1; simp_all; omega))
 ·
  refine TL.known 10 hb1 rfl ?_
  refine TL.gf 10 ?_
  refine TL.gf 10 ?_
  refine TL.gf 10 ?_
  refine TL.pk false (pB false) ?_
  refine TL.as (pB false) ?_
  refine TL.nil ?_
  refine T.ret ?_
  refine ⟨[(false, [.d (.bool false)])], (.cons rfl .nil), rfl, [], (RetC.rd' ?_ .nil)⟩ <;> (first | (congr 1; simp_all; done) | (congr 1; simp_all; omega))
theorem ok_spec_l01Num (n : Int) : RO Try.prog 153 [.one (.int .i64 n)] [(false, [.rd (.bool (decide (0 ≤ n ∧ n ≤ 1152921504606846975)))])] := by
 refine RO.intro Try.func153 rfl 5 rfl (le_ok rfl) fun w Z => ?_
 refine T.seq ?_
 refine T.region ?_
 refine TL.as (pB false) ?_
 refine TL.nil ?_
 refine T.seq ?_
 refine T.region ?_
 refine TL.mv (pI n) ?_
 refine TL.c (Step.cl (xs := [.tmp 3, .const (.int .i64 0), .const (.int .i64 1152921504606846975)]) (ps := [(pI n), (pI 0), (pI 1152921504606846975)]) (g := .func 114) false (.cons (.one (.d _)) (.cons (.one (.d _)) (.cons (.one (.d _)) .nil))) (ok_spec_l01In n 0 1152921504606846975)) ?_
 refine TL.as (pB (decide (0 ≤ n ∧ n ≤ 1152921504606846975))) ?_
 refine TL.nil ?_
 refine T.ret ?_
 exact ⟨[(false, [.d (.bool (decide (0 ≤ n ∧ n ≤ 1152921504606846975)))])], (.cons rfl .nil), rfl, [], (RetC.rd' rfl .nil)⟩
theorem ok_spec_l01Copy (a : List Int) (h0_ : a.length ≤ 17592186044416) : RO Try.prog 160 [.one (.ints .u8 a)] [(false, [.own 5 (.ints .u8 a)])] := by
 refine RO.intro Try.func160 rfl 6 rfl (le_ok rfl) fun w Z => ?_
 refine T.bnd 0 0 rfl rfl fun hb_0_0 => ?_
 simp only [D.size, List.length_map] at hb_0_0
 refine T.seq ?_
 refine T.region ?_
 refine TL.as (.one (.nil)) ?_
 refine TL.nil ?_
 refine T.seq ?_
 refine T.region ?_
 refine TL.c (Step.lit (e := 5) (z := 1) (by_ := 1) (xs := []) (pss := []) (es := []) (ss := []) (d := (.ints .u8 [])) rfl rfl (lt_ok rfl) (by kernel_rfl) rfl rfl .nil (by simp) (le_ok rfl) (le_ok rfl) rfl .nil rfl (by simp) (by simp) rfl trivial rfl rfl) ?_
 refine TL.mv (pS a) ?_
 refine TL.c (Step.append (e := 5) (z := 1) (by_ := 1) (d := (.ints .u8 [])) (dy := (.ints .u8 a)) (d' := (.ints .u8 ([] ++ a))) (ss := []) rfl rfl (lt_ok rfl) (by kernel_rfl) rfl rfl rfl (lt_ok rfl) rfl (.froz rfl (by simp [D.flat, D.val])) (by simp) rfl (by simp only [D.size, List.length_map]; first | omega | (simp only [List.length_append, List.length_cons, List.length_nil]; omega) | (simp; omega) | (simp only [List.length_append] at *; omega)) (by simp only [D.size, List.length_map]; first | omega | (simp only [List.length_append, List.length_cons, List.length_nil]; omega) | (simp; omega) | (simp only [List.length_append] at *; omega)) (by simp)) ?_
 refine TL.as (.one (.row 3 [])) ?_
 refine TL.nil ?_
 refine T.ret ?_
 refine ⟨[(false, [.row 3 []])], (.cons rfl .nil), rfl, [3], (RetC.own' rfl ?_ rfl .nil)⟩ <;> (rfl)
theorem ok_spec_PutVar (b : List Int) (n : Int) (h0_ : b.length ≤ 17592186044416) : RO Try.prog 125 [.one (.ints .u8 b), .one (.int .i64 n)] [(false, [.own 5 (.ints .u8 (putVar b n))]), (false, [.rd (.bool (decide (0 ≤ n ∧ n ≤ 1152921504606846975)))])] := by
 refine RO.intro Try.func125 rfl 28 rfl (le_ok rfl) fun w Z => ?_
 refine T.bnd 0 0 rfl rfl fun hb_0_0 => ?_
 simp only [D.size, List.length_map] at hb_0_0
 refine T.seq ?_
 refine T.region ?_
 refine TL.as (.one (.nil)) ?_
 refine TL.as (pB false) ?_
 refine TL.nil ?_
 refine T.seq ?_
 refine T.seq ?_
 refine T.region ?_
 refine TL.mv (pI n) ?_
 refine TL.c (Step.cl (xs := [.tmp 7]) (ps := [(pI n)]) (g := .func 153) false (.cons (.one (.d _)) .nil) (ok_spec_l01Num n)) ?_
 refine TL.c (Step.not (b := (decide (0 ≤ n ∧ n ≤ 1152921504606846975))) rfl rfl (lt_ok rfl) rfl) ?_
 refine TL.nil ?_
 refine T.cond (b := !(decide (0 ≤ n ∧ n ≤ 1152921504606846975))) rfl (fun h1 => ?_) (fun h1 => ?_)
 ·
  replace h1 : (decide (0 ≤ n ∧ n ≤ 1152921504606846975)) = false := by simpa only [Bool.not_eq_true', Bool.not_eq_false'] using h1
  replace h1 := of_decide_eq_false h1
  refine T.seq ?_
  refine T.region ?_
  refine TL.as (.one (.nil)) ?_
  refine TL.as (pB false) ?_
  refine TL.nil ?_
  refine T.ret ?_
  refine ⟨[(false, [.nil]), (false, [.d (.bool false)])], (.cons rfl (.cons rfl .nil)), rfl, [], (RetC.nilown' rfl ?_ (by first | exact trivial | exact D.wf_nil _) (RetC.rd' ?_ .nil))⟩ <;> (first | rfl | (congr 1; unfold putVar; rw [if_pos (decide_eq_true (by assumption))]; rw [← hx3, varW_last (n := m) (by omega)]; done) | (show (putVar b n).length = 0; rw [putVar, if_neg (by rw [decide_eq_true_eq]; assumption)]; rfl) | (congr 1; symm; first | exact decide_eq_true ‹_› | exact decide_eq_false ‹_›))
 ·
  replace h1 : (decide (0 ≤ n ∧ n ≤ 1152921504606846975)) = true := by simpa only [Bool.not_eq_true', Bool.not_eq_false'] using h1
  replace h1 := of_decide_eq_true h1
  refine T.skip ?_
  refine T.seq ?_
  refine T.region ?_
  refine TL.mv (pS b) ?_
  refine TL.c (Step.cl (xs := [.tmp 10]) (ps := [(pS b)]) (g := .func 160) false (.cons (.one (.d _)) .nil) (ok_spec_l01Copy b (by first | omega | assumption | (simp only [List.length_take, List.length_drop]; omega)))) ?_
  refine TL.as (.one (.row 1011 [])) ?_
  refine TL.nil ?_
  refine T.seq ?_
  refine T.block ?_
  refine T.loop (ι := (List Int) × Int) (fun xx_ => { tm := [(4, (.one (.nil))), (5, (pB false)), (1, (pI (xx_.2))), (6, (.one (.row 1011 [])))], rows := [(1011, (5, (.ints .u8 (xx_.1))))], boxes := [] }) (fun xx_ => 0 ≤ (xx_.2) ∧ (xx_.2) ≤ 1152921504606846975 ∧ (xx_.1) ++ varW (xx_.2) = b ++ varW n ∧ (xx_.1).length ≤ b.length + 9) (fun xx_ => (xx_.2).toNat) (b, n) ?_ ?_ ?_
  · refine Env.le_mk ⟨rfl, rfl, ?_, rfl, trivial⟩ ⟨?_, trivial⟩ trivial <;> (first | rfl | (refine congrArg (fun x => some (_, D.ints .u8 x)) ?_; rfl))
  · (dsimp only; refine ⟨by omega, by omega, rfl, by omega⟩)
  ·
   intro xx_ hx
   obtain ⟨o, m⟩ := xx_
   try dsimp only at hx ⊢
   obtain ⟨hx1, hx2, hx3, hx4⟩ := hx
   refine T.seq ?_
   refine T.seq ?_
   refine T.region ?_
   refine TL.mv (pI m) ?_
   refine TL.c (Step.bin rfl rfl (lt_ok rfl) rfl rfl (Bin.gtr (k := .i64) (a := m) (b := 127))) ?_
   refine TL.nil ?_
   refine T.cond (b := decide (127 < m)) rfl (fun h2 => ?_) (fun h2 => ?_)
   ·
    replace h2 := of_decide_eq_true h2
    refine T.skip ?_
    refine T.block ?_
    refine T.seq ?_
    refine T.region ?_
    refine TL.mv (.one (.row 1011 [])) ?_
    refine TL.mv (pI m) ?_
    refine TL.c (Step.bin (r := .int .i64 (m % 128)) rfl rfl (lt_ok rfl) rfl rfl (Bin.rem (k := .i64) (a := m) (b := 128) (by decide) (Int.tmod_eq_emod_of_nonneg (by first | omega | (simp; omega))))) ?_
    refine TL.c (Step.bin (r := .int .i64 (128 + (m % 128))) rfl rfl (lt_ok rfl) rfl rfl (Bin.add (a := 128) (b := (m % 128)) (by first | exact wrap_ok (by first | omega | (simp; omega)) (by first | omega | (simp; omega)) | rfl))) ?_
    refine TL.c (Step.conv (c := (128 + (m % 128))) rfl rfl (lt_ok rfl) (by kernel_rfl) (by kernel_rfl) rfl (wrap_u8 (by first | omega | (simp; omega)) (by first | omega | (simp; omega)))) ?_
    refine TL.c (Step.lit (e := 5) (z := 1) (by_ := 1) (xs := [.tmp 18]) (pss := [[.d (.int .u8 (128 + (m % 128)))]]) (es := [(.int .u8 (128 + (m % 128)))]) (ss := []) (d := (.ints .u8 [128 + (m % 128)])) rfl rfl (lt_ok rfl) (by kernel_rfl) rfl rfl (.cons rfl .nil) (by simp) (le_ok rfl) (le_ok rfl) rfl (.val rfl .nil) rfl (by simp) (by simp) rfl trivial rfl rfl) ?_
    refine TL.c (Step.append (e := 5) (z := 1) (by_ := 1) (d := (.ints .u8 o)) (dy := (.ints .u8 [128 + (m % 128)])) (d' := (.ints .u8 (o ++ [128 + (m % 128)]))) (ss := []) rfl rfl (lt_ok rfl) (by kernel_rfl) rfl rfl rfl (lt_ok rfl) rfl (.copy rfl rfl rfl (by simp [D.flat, D.val])) (by simp) rfl (by simp only [D.size, List.length_map]; first | omega | (simp only [List.length_append, List.length_cons, List.length_nil]; omega) | (simp; omega) | (simp only [List.length_append] at *; omega)) (by simp only [D.size, List.length_map]; first | omega | (simp only [List.length_append, List.length_cons, List.length_nil]; omega) | (simp; omega) | (simp only [List.length_append] at *; omega)) (by simp)) ?_
    refine TL.as (.one (.row 1011 [])) ?_
    refine TL.nil ?_
    refine T.region ?_
    refine TL.mv (pI m) ?_
    refine TL.c (Step.bin (r := .int .i64 (m / 128)) rfl rfl (lt_ok rfl) rfl rfl (Bin.quo (k := .i64) (a := m) (b := 128) (by decide) (by rw [Int.tdiv_eq_ediv_of_nonneg (by first | omega | (simp; omega))]; exact wrap_ok (by first | omega | (simp; omega)) (by first | omega | (simp; omega))))) ?_
    refine TL.as (pI (m / 128)) ?_
    refine TL.nil ?_
    refine ⟨(o ++ [128 + (m % 128)], m / 128), by (refine ⟨by omega, by omega, by rw [← hx3, varW_next (n := m) (by omega)]; simp [Int.add_comm], ?_⟩; have e_ := congrArg List.length hx3; rw [varW_next (n := m) (by omega)] at e_; have := varW_len9 (n := n) (by omega); simp only [List.length_append, List.length_cons, List.length_nil] at e_ ⊢; omega), by (dsimp only; omega), Env.le_mk ⟨rfl, rfl, ?_, rfl, trivial⟩ ⟨?_, trivial⟩ trivial⟩ <;> (first | rfl | (refine congrArg (fun x => some (_, D.ints .u8 x)) ?_; rfl))
   ·
    replace h2 := of_decide_eq_false h2
    refine T.exit ?_
    refine T.seq ?_
    refine T.region ?_
    refine TL.mv (.one (.row 1011 [])) ?_
    refine TL.mv (pI m) ?_
    refine TL.c (Step.conv (c := m) rfl rfl (lt_ok rfl) (by kernel_rfl) (by kernel_rfl) rfl (wrap_u8 (by first | omega | (simp; omega)) (by first | omega | (simp; omega)))) ?_
    refine TL.c (Step.lit (e := 5) (z := 1) (by_ := 1) (xs := [.tmp 25]) (pss := [[.d (.int .u8 m)]]) (es := [(.int .u8 m)]) (ss := []) (d := (.ints .u8 [m])) rfl rfl (lt_ok rfl) (by kernel_rfl) rfl rfl (.cons rfl .nil) (by simp) (le_ok rfl) (le_ok rfl) rfl (.val rfl .nil) rfl (by simp) (by simp) rfl trivial rfl rfl) ?_
    refine TL.c (Step.append (e := 5) (z := 1) (by_ := 1) (d := (.ints .u8 o)) (dy := (.ints .u8 [m])) (d' := (.ints .u8 (o ++ [m]))) (ss := []) rfl rfl (lt_ok rfl) (by kernel_rfl) rfl rfl rfl (lt_ok rfl) rfl (.copy rfl rfl rfl (by simp [D.flat, D.val])) (by simp) rfl (by simp only [D.size, List.length_map]; first | omega | (simp only [List.length_append, List.length_cons, List.length_nil]; omega) | (simp; omega) | (simp only [List.length_append] at *; omega)) (by simp only [D.size, List.length_map]; first | omega | (simp only [List.length_append, List.length_cons, List.length_nil]; omega) | (simp; omega) | (simp only [List.length_append] at *; omega)) (by simp)) ?_
    refine TL.as (.one (.row 1011 [])) ?_
    refine TL.as (pB true) ?_
    refine TL.nil ?_
    refine T.ret ?_
    refine ⟨[(false, [.row 1011 []]), (false, [.d (.bool true)])], (.cons rfl (.cons rfl .nil)), rfl, [1011], (RetC.own' rfl ?_ rfl (RetC.rd' ?_ .nil))⟩ <;> (first | rfl | (congr 1; unfold putVar; rw [if_pos (decide_eq_true (by assumption))]; rw [← hx3, varW_last (n := m) (by omega)]; done) | (show (putVar b n).length = 0; rw [putVar, if_neg (by rw [decide_eq_true_eq]; assumption)]; rfl) | (congr 1; symm; first | exact decide_eq_true ‹_› | exact decide_eq_false ‹_›))
theorem ok_spec_l11Num (b : List Int) (n : Int) (h0_ : b.length ≤ 17592186044416) : RO Try.prog 70 [.one (.ints .u8 b), .one (.int .i64 n)] [(false, [.own 5 (.ints .u8 (putVar b n))])] := by
 refine RO.intro Try.func70 rfl 14 rfl (le_ok rfl) fun w Z => ?_
 refine T.bnd 0 0 rfl rfl fun hb_0_0 => ?_
 simp only [D.size, List.length_map] at hb_0_0
 refine T.seq ?_
 refine T.region ?_
 refine TL.as (.one (.nil)) ?_
 refine TL.nil ?_
 refine T.seq ?_
 refine T.region ?_
 refine TL.mv (pS b) ?_
 refine TL.mv (pI n) ?_
 have nn1 := putVar_len b n
 refine TL.c (Step.cl (xs := [.tmp 8, .tmp 9]) (ps := [(pS b), (pI n)]) (g := .func 125) false (.cons (.one (.d _)) (.cons (.one (.d _)) .nil)) (ok_spec_PutVar b n (by first | omega | assumption | (simp only [List.length_append] at *; omega)))) ?_
 refine TL.mv (.tup [(false, [.row 1010 []]), (false, [.d (.bool (decide (0 ≤ n ∧ n ≤ 1152921504606846975)))])]) ?_
 refine TL.c (Step.extract (p := (.one (.row 1010 []))) rfl rfl (lt_ok rfl) rfl rfl) ?_
 refine TL.c (Step.extract (p := (pB (decide (0 ≤ n ∧ n ≤ 1152921504606846975)))) rfl rfl (lt_ok rfl) rfl rfl) ?_
 refine TL.as (.one (.row 1010 [])) ?_
 refine TL.as (pB (decide (0 ≤ n ∧ n ≤ 1152921504606846975))) ?_
 refine TL.nil ?_
 refine T.seq ?_
 refine T.region ?_
 refine TL.mv (.one (.row 1010 [])) ?_
 refine TL.as (.one (.row 1010 [])) ?_
 refine TL.nil ?_
 refine T.ret ?_
 refine ⟨[(false, [.row 1010 []])], (.cons rfl .nil), rfl, [1010], (RetC.own' rfl ?_ rfl .nil)⟩ <;> (rfl)
theorem ok_spec_l02Signers (n : Int) : RO Try.prog 172 [.one (.int .i64 n)] [(false, [.rd (.bool (decide (1 ≤ n ∧ n ≤ 10)))])] := by
 refine RO.intro Try.func172 rfl 5 rfl (le_ok rfl) fun w Z => ?_
 refine T.seq ?_
 refine T.region ?_
 refine TL.as (pB false) ?_
 refine TL.nil ?_
 refine T.seq ?_
 refine T.region ?_
 refine TL.mv (pI n) ?_
 refine TL.c (Step.cl (xs := [.tmp 3, .const (.int .i64 1), .const (.int .i64 10)]) (ps := [(pI n), (pI 1), (pI 10)]) (g := .func 114) false (.cons (.one (.d _)) (.cons (.one (.d _)) (.cons (.one (.d _)) .nil))) (ok_spec_l01In n 1 10)) ?_
 refine TL.as (pB (decide (1 ≤ n ∧ n ≤ 10))) ?_
 refine TL.nil ?_
 refine T.ret ?_
 exact ⟨[(false, [.d (.bool (decide (1 ≤ n ∧ n ≤ 10)))])], (.cons rfl .nil), rfl, [], (RetC.rd' rfl .nil)⟩
theorem ok_spec_LimitsOk (l : SLimits) : RO Try.prog 122 [.agg l.cells] [(false, [.rd (.bool (limOk l))])] := by
 refine RO.intro Try.func122 rfl 26 rfl (le_ok rfl) fun w Z => ?_
 refine T.seq ?_
 refine T.region ?_
 refine TL.c (Step.box (p := (.agg [cI l.f0, cI l.f1, cI l.f2, cI l.f3, cI l.f4])) (ps := [cI l.f0, cI l.f1, cI l.f2, cI l.f3, cI l.f4]) rfl rfl (lt_ok rfl) rfl rfl rfl rfl rfl) ?_
 refine TL.as (pB false) ?_
 refine TL.nil ?_
 refine T.seq ?_
 refine T.region ?_
 refine TL.c (Step.fieldAddr (q := 0) (off := 0) (n := 1) (one := true) rfl rfl (lt_ok rfl) (by kernel_rfl) (Nat.succ_ne_zero _) rfl) ?_
 refine TL.c (Step.load_box (c := cI l.f0) rfl rfl (lt_ok rfl) (by kernel_rfl) rfl rfl rfl) ?_
 refine TL.c (Step.cl (xs := [.tmp 4]) (ps := [(pI l.f0)]) (g := .func 172) false (.cons (.one (.d _)) .nil) (ok_spec_l02Signers l.f0)) ?_
 refine TL.mv (pB (decide (1 ≤ l.f0 ∧ l.f0 ≤ 10))) ?_
 rcases Bool.eq_false_or_eq_true (decide (1 ≤ l.f0 ∧ l.f0 ≤ 10)) with hb1 | hb1
 ·
  refine TL.known 6 hb1 rfl ?_
  refine TL.gy 6 (Step.fieldAddr (q := 0) (off := 1) (n := 1) (one := true) rfl rfl (lt_ok rfl) (by kernel_rfl) (Nat.succ_ne_zero _) rfl) ?_
  refine TL.gy 6 (Step.load_box (c := cI l.f1) rfl rfl (lt_ok rfl) (by kernel_rfl) rfl rfl rfl) ?_
  refine TL.gy 6 (Step.cl (xs := [.tmp 8, .const (.int .i64 0), .const (.int .i64 40)]) (ps := [(pI l.f1), (pI 0), (pI 40)]) (g := .func 114) false (.cons (.one (.d _)) (.cons (.one (.d _)) (.cons (.one (.d _)) .nil))) (ok_spec_l01In l.f1 0 40)) ?_
  refine TL.pk true (pB (decide (0 ≤ l.f1 ∧ l.f1 ≤ 40))) ?_
  refine TL.mv (pB (decide (0 ≤ l.f1 ∧ l.f1 ≤ 40))) ?_
  rcases Bool.eq_false_or_eq_true (decide (0 ≤ l.f1 ∧ l.f1 ≤ 40)) with hb2 | hb2
  ·
   refine TL.known 11 hb2 rfl ?_
   refine TL.gy 11 (Step.fieldAddr (q := 0) (off := 2) (n := 1) (one := true) rfl rfl (lt_ok rfl) (by kernel_rfl) (Nat.succ_ne_zero _) rfl) ?_
   refine TL.gy 11 (Step.load_box (c := cI l.f2) rfl rfl (lt_ok rfl) (by kernel_rfl) rfl rfl rfl) ?_
   refine TL.gy 11 (Step.cl (xs := [.tmp 13, .const (.int .i64 0), .const (.int .i64 8)]) (ps := [(pI l.f2), (pI 0), (pI 8)]) (g := .func 114) false (.cons (.one (.d _)) (.cons (.one (.d _)) (.cons (.one (.d _)) .nil))) (ok_spec_l01In l.f2 0 8)) ?_
   refine TL.pk true (pB (decide (0 ≤ l.f2 ∧ l.f2 ≤ 8))) ?_
   refine TL.mv (pB (decide (0 ≤ l.f2 ∧ l.f2 ≤ 8))) ?_
   rcases Bool.eq_false_or_eq_true (decide (0 ≤ l.f2 ∧ l.f2 ≤ 8)) with hb3 | hb3
   ·
    refine TL.known 16 hb3 rfl ?_
    refine TL.gy 16 (Step.fieldAddr (q := 0) (off := 3) (n := 1) (one := true) rfl rfl (lt_ok rfl) (by kernel_rfl) (Nat.succ_ne_zero _) rfl) ?_
    refine TL.gy 16 (Step.load_box (c := cI l.f3) rfl rfl (lt_ok rfl) (by kernel_rfl) rfl rfl rfl) ?_
    refine TL.gy 16 (Step.cl (xs := [.tmp 18, .const (.int .i64 1), .const (.int .i64 4000)]) (ps := [(pI l.f3), (pI 1), (pI 4000)]) (g := .func 114) false (.cons (.one (.d _)) (.cons (.one (.d _)) (.cons (.one (.d _)) .nil))) (ok_spec_l01In l.f3 1 4000)) ?_
    refine TL.pk true (pB (decide (1 ≤ l.f3 ∧ l.f3 ≤ 4000))) ?_
    refine TL.mv (pB (decide (1 ≤ l.f3 ∧ l.f3 ≤ 4000))) ?_
    rcases Bool.eq_false_or_eq_true (decide (1 ≤ l.f3 ∧ l.f3 ≤ 4000)) with hb4 | hb4
    ·
     refine TL.known 21 hb4 rfl ?_
     refine TL.gy 21 (Step.fieldAddr (q := 0) (off := 4) (n := 1) (one := true) rfl rfl (lt_ok rfl) (by kernel_rfl) (Nat.succ_ne_zero _) rfl) ?_
     refine TL.gy 21 (Step.load_box (c := cI l.f4) rfl rfl (lt_ok rfl) (by kernel_rfl) rfl rfl rfl) ?_
     refine TL.gy 21 (Step.cl (xs := [.tmp 23, .const (.int .i64 3), .const (.int .i64 5)]) (ps := [(pI l.f4), (pI 3), (pI 5)]) (g := .func 114) false (.cons (.one (.d _)) (.cons (.one (.d _)) (.cons (.one (.d _)) .nil))) (ok_spec_l01In l.f4 3 5)) ?_
     refine TL.pk true (pB (decide (3 ≤ l.f4 ∧ l.f4 ≤ 5))) ?_
     refine TL.as (pB (decide (3 ≤ l.f4 ∧ l.f4 ≤ 5))) ?_
     refine TL.nil ?_
     refine T.ret ?_
     refine ⟨[(false, [.d (.bool (decide (3 ≤ l.f4 ∧ l.f4 ≤ 5)))])], (.cons rfl .nil), rfl, [], (RetC.rd' ?_ .nil)⟩ <;> (first | rfl | (congr 1; symm; simp only [limOk, *, Bool.and_true, Bool.true_and, Bool.and_false, Bool.false_and, decide_true, decide_false, and_true, true_and, and_self, and_false, false_and, Bool.and_self, not_true, not_false, Bool.not_true, Bool.not_false, ge_iff_le, gt_iff_lt, if_true, if_false, Bool.false_eq_true, ite_true, ite_false, reduceIte]; done) | (congr 1; symm; simp_all [limOk]; done) | (congr 1; symm; simp_all [limOk]; omega))
    ·
     refine TL.known 21 hb4 rfl ?_
     refine TL.gf 21 ?_
     refine TL.gf 21 ?_
     refine TL.gf 21 ?_
     refine TL.pk false (pB false) ?_
     refine TL.as (pB false) ?_
     refine TL.nil ?_
     refine T.ret ?_
     refine ⟨[(false, [.d (.bool false)])], (.cons rfl .nil), rfl, [], (RetC.rd' ?_ .nil)⟩ <;> (first | rfl | (congr 1; symm; simp only [limOk, *, Bool.and_true, Bool.true_and, Bool.and_false, Bool.false_and, decide_true, decide_false, and_true, true_and, and_self, and_false, false_and, Bool.and_self, not_true, not_false, Bool.not_true, Bool.not_false, ge_iff_le, gt_iff_lt, if_true, if_false, Bool.false_eq_true, ite_true, ite_false, reduceIte]; done) | (congr 1; symm; simp_all [limOk]; done) | (congr 1; symm; simp_all [limOk]; omega))
   ·
    refine TL.known 16 hb3 rfl ?_
    refine TL.gf 16 ?_
    refine TL.gf 16 ?_
    refine TL.gf 16 ?_
    refine TL.pk false (pB false) ?_
    refine TL.mv (pB false) ?_
    refine TL.gf 21 ?_
    refine TL.gf 21 ?_
    refine TL.gf 21 ?_
    refine TL.pk false (pB false) ?_
    refine TL.as (pB false) ?_
    refine TL.nil ?_
    refine T.ret ?_
    refine ⟨[(false, [.d (.bool false)])], (.cons rfl .nil), rfl, [], (RetC.rd' ?_ .nil)⟩ <;> (first | rfl | (congr 1; symm; simp only [limOk, *, Bool.and_true, Bool.true_and, Bool.and_false, Bool.false_and, decide_true, decide_false, and_true, true_and, and_self, and_false, false_and, Bool.and_self, not_true, not_false, Bool.not_true, Bool.not_false, ge_iff_le, gt_iff_lt, if_true, if_false, Bool.false_eq_true, ite_true, ite_false, reduceIte]; done) | (congr 1; symm; simp_all [limOk]; done) | (congr 1; symm; simp_all [limOk]; omega))
  ·
   refine TL.known 11 hb2 rfl ?_
   refine TL.gf 11 ?_
   refine TL.gf 11 ?_
   refine TL.gf 11 ?_
   refine TL.pk false (pB false) ?_
   refine TL.mv (pB false) ?_
   refine TL.gf 16 ?_
   refine TL.gf 16 ?_
   refine TL.gf 16 ?_
   refine TL.pk false (pB false) ?_
   refine TL.mv (pB false) ?_
   refine TL.gf 21 ?_
   refine TL.gf 21 ?_
   refine TL.gf 21 ?_
   refine TL.pk false (pB false) ?_
   refine TL.as (pB false) ?_
   refine TL.nil ?_
   refine T.ret ?_
   refine ⟨[(false, [.d (.bool false)])], (.cons rfl .nil), rfl, [], (RetC.rd' ?_ .nil)⟩ <;> (first | rfl | (congr 1; symm; simp only [limOk, *, Bool.and_true, Bool.true_and, Bool.and_false, Bool.false_and, decide_true, decide_false, and_true, true_and, and_self, and_false, false_and, Bool.and_self, not_true, not_false, Bool.not_true, Bool.not_false, ge_iff_le, gt_iff_lt, if_true, if_false, Bool.false_eq_true, ite_true, ite_false, reduceIte]; done) | (congr 1; symm; simp_all [limOk]; done) | (congr 1; symm; simp_all [limOk]; omega))
 ·
  refine TL.known 6 hb1 rfl ?_
  refine TL.gf 6 ?_
  refine TL.gf 6 ?_
  refine TL.gf 6 ?_
  refine TL.pk false (pB false) ?_
  refine TL.mv (pB false) ?_
  refine TL.gf 11 ?_
  refine TL.gf 11 ?_
  refine TL.gf 11 ?_
  refine TL.pk false (pB false) ?_
  refine TL.mv (pB false) ?_
  refine TL.gf 16 ?_
  refine TL.gf 16 ?_
  refine TL.gf 16 ?_
  refine TL.pk false (pB false) ?_
  refine TL.mv (pB false) ?_
  refine TL.gf 21 ?_
  refine TL.gf 21 ?_
  refine TL.gf 21 ?_
  refine TL.pk false (pB false) ?_
  refine TL.as (pB false) ?_
  refine TL.nil ?_
  refine T.ret ?_
  refine ⟨[(false, [.d (.bool false)])], (.cons rfl .nil), rfl, [], (RetC.rd' ?_ .nil)⟩ <;> (first | rfl | (congr 1; symm; simp only [limOk, *, Bool.and_true, Bool.true_and, Bool.and_false, Bool.false_and, decide_true, decide_false, and_true, true_and, and_self, and_false, false_and, Bool.and_self, not_true, not_false, Bool.not_true, Bool.not_false, ge_iff_le, gt_iff_lt, if_true, if_false, Bool.false_eq_true, ite_true, ite_false, reduceIte]; done) | (congr 1; symm; simp_all [limOk]; done) | (congr 1; symm; simp_all [limOk]; omega))
theorem ok_spec_BitsHas (b : List Int) (i : Int) (h0_ : U8s b) (h1_ : b.length ≤ 17592186044416) (h2_ : i ≤ 9223372036854775807) : RO Try.prog 195 [.one (.ints .u8 b), .one (.int .i64 i)] [(false, [.rd (.bool (bitHas b i))])] := by
 refine RO.intro Try.func195 rfl 27 rfl (le_ok rfl) fun w Z => ?_
 refine T.bnd 0 0 rfl rfl fun hb_0_0 => ?_
 simp only [D.size, List.length_map] at hb_0_0
 have hu_ := getD_u8 h0_ (i / 8).toNat
 have hp_ := div_pow_bd hu_.1 hu_.2 (i % 8).toNat
 refine T.seq ?_
 refine T.region ?_
 refine TL.as (pB false) ?_
 refine TL.nil ?_
 refine T.seq ?_
 refine T.region ?_
 refine TL.mv (pI i) ?_
 refine TL.c (Step.bin rfl rfl (lt_ok rfl) rfl rfl (Bin.geq (k := .i64) (a := i) (b := 0))) ?_
 refine TL.mv (pB (decide (0 ≤ i))) ?_
 rcases Bool.eq_false_or_eq_true (decide (0 ≤ i)) with hb1 | hb1
 ·
  refine TL.known 7 hb1 rfl ?_
  have hb1' := hb1
  replace hb1' := of_decide_eq_true hb1'
  refine TL.gm 7 (pI i) ?_
  refine TL.gy 7 (Step.bin (r := .int .i64 (i / 8)) rfl rfl (lt_ok rfl) rfl rfl (Bin.quo (k := .i64) (a := i) (b := 8) (by decide) (by rw [Int.tdiv_eq_ediv_of_nonneg (by first | omega | exact hp_.1 | exact hp_.2 | (simp; omega))]; exact wrap_ok (by first | omega | exact hp_.1 | exact hp_.2 | (simp; omega)) (by first | omega | exact hp_.1 | exact hp_.2 | (simp; omega))))) ?_
  refine TL.gm 7 (pS b) ?_
  refine TL.gy 7 (Step.len (e := 5) (z := 1) (d := (.ints .u8 b)) rfl rfl (lt_ok rfl) (by kernel_rfl) rfl rfl) ?_
  refine TL.gy 7 (Step.bin rfl rfl (lt_ok rfl) rfl rfl (Bin.lss (k := .i64) (a := (i / 8)) (b := (b.length : Int)))) ?_
  refine TL.pk true (pB (decide ((i / 8) < (b.length : Int)))) ?_
  refine TL.mv (pB (decide ((i / 8) < (b.length : Int)))) ?_
  rcases Bool.eq_false_or_eq_true (decide ((i / 8) < (b.length : Int))) with hb2 | hb2
  ·
   refine TL.known 14 hb2 rfl ?_
   have hb2' := hb2
   replace hb2' := of_decide_eq_true hb2'
   refine TL.gm 14 (pS b) ?_
   refine TL.gm 14 (pI i) ?_
   refine TL.gy 14 (Step.bin (r := .int .i64 (i / 8)) rfl rfl (lt_ok rfl) rfl rfl (Bin.quo (k := .i64) (a := i) (b := 8) (by decide) (by rw [Int.tdiv_eq_ediv_of_nonneg (by first | omega | exact hp_.1 | exact hp_.2 | (simp; omega))]; exact wrap_ok (by first | omega | exact hp_.1 | exact hp_.2 | (simp; omega)) (by first | omega | exact hp_.1 | exact hp_.2 | (simp; omega))))) ?_
   refine TL.gy 14 (Step.index (e := 5) (z := 1) (i := (i / 8)) rfl rfl (lt_ok rfl) (by kernel_rfl) rfl rfl rfl (lt_ok rfl) rfl (by first | omega | exact hp_.1 | exact hp_.2 | (simp; omega)) (by simp only [D.size]; first | omega | exact hp_.1 | exact hp_.2 | (simp; omega))) ?_
   refine TL.gy 14 (Step.load (e := (.int .u8 (b.getD (i / 8).toNat 0))) rfl rfl (lt_ok rfl) (by kernel_rfl) rfl rfl) ?_
   refine TL.gy 14 (Step.conv (c := (b.getD (i / 8).toNat 0)) rfl rfl (lt_ok rfl) (by kernel_rfl) (by kernel_rfl) rfl (wrap_ok (by first | omega | exact hp_.1 | exact hp_.2 | (simp; omega)) (by first | omega | exact hp_.1 | exact hp_.2 | (simp; omega)))) ?_
   refine TL.gm 14 (pI i) ?_
   refine TL.gy 14 (Step.bin (r := .int .i64 (i % 8)) rfl rfl (lt_ok rfl) rfl rfl (Bin.rem (k := .i64) (a := i) (b := 8) (by decide) (Int.tmod_eq_emod_of_nonneg (by first | omega | exact hp_.1 | exact hp_.2 | (simp; omega))))) ?_
   refine TL.gy 14 (Step.bin (r := .int .i64 ((b.getD (i / 8).toNat 0) / 2 ^ ((i % 8)).toNat)) rfl rfl (lt_ok rfl) rfl rfl (Bin.shr (k := .i64) (k' := .i64) (a := (b.getD (i / 8).toNat 0)) (b := (i % 8)) (by first | omega | exact hp_.1 | exact hp_.2 | (simp; omega)) (shr_ok (by first | omega | exact hp_.1 | exact hp_.2 | (simp; omega)) (by show _ < ((64 : Nat) : Int); first | omega | exact hp_.1 | exact hp_.2 | (simp; omega))))) ?_
   refine TL.gy 14 (Step.bin (r := .int .i64 (((b.getD (i / 8).toNat 0) / 2 ^ ((i % 8)).toNat) % 2)) rfl rfl (lt_ok rfl) rfl rfl (Bin.rem (k := .i64) (a := ((b.getD (i / 8).toNat 0) / 2 ^ ((i % 8)).toNat)) (b := 2) (by decide) (Int.tmod_eq_emod_of_nonneg (by first | omega | exact hp_.1 | exact hp_.2 | (simp; omega))))) ?_
   refine TL.gy 14 (Step.bin rfl rfl (lt_ok rfl) rfl rfl (Bin.eql (k := .i64) (a := (((b.getD (i / 8).toNat 0) / 2 ^ ((i % 8)).toNat) % 2)) (b := 1))) ?_
   refine TL.pk true (pB (decide ((((b.getD (i / 8).toNat 0) / 2 ^ ((i % 8)).toNat) % 2) = 1))) ?_
   refine TL.as (pB (decide ((((b.getD (i / 8).toNat 0) / 2 ^ ((i % 8)).toNat) % 2) = 1))) ?_
   refine TL.nil ?_
   refine T.ret ?_
   refine ⟨[(false, [.d (.bool (decide ((((b.getD (i / 8).toNat 0) / 2 ^ ((i % 8)).toNat) % 2) = 1)))])], (.cons rfl .nil), rfl, [], (RetC.rd' ?_ .nil)⟩ <;> ((congr 1; symm; unfold bitHas; first | (rw [decide_eq_false (p := 0 ≤ i) (by omega)]; rfl) | (rw [decide_eq_true (p := 0 ≤ i) (by omega), decide_eq_false (p := i / 8 < (b.length : Int)) (by omega)]; rfl) | (rw [decide_eq_true (p := 0 ≤ i) (by omega), decide_eq_true (p := i / 8 < (b.length : Int)) (by omega)]; rfl) | (by_cases hi_ : 0 ≤ i; (rw [decide_eq_true (p := 0 ≤ i) (by omega), decide_eq_false (p := i / 8 < (b.length : Int)) (by omega)]; rfl); (rw [decide_eq_false (p := 0 ≤ i) hi_]; rfl))))
  ·
   refine TL.known 14 hb2 rfl ?_
   have hb2' := hb2
   replace hb2' := of_decide_eq_false hb2'
   refine TL.gf 14 ?_
   refine TL.gf 14 ?_
   refine TL.gf 14 ?_
   refine TL.gf 14 ?_
   refine TL.gf 14 ?_
   refine TL.gf 14 ?_
   refine TL.gf 14 ?_
   refine TL.gf 14 ?_
   refine TL.gf 14 ?_
   refine TL.gf 14 ?_
   refine TL.gf 14 ?_
   refine TL.pk false (pB false) ?_
   refine TL.as (pB false) ?_
   refine TL.nil ?_
   refine T.ret ?_
   refine ⟨[(false, [.d (.bool false)])], (.cons rfl .nil), rfl, [], (RetC.rd' ?_ .nil)⟩ <;> ((congr 1; symm; unfold bitHas; first | (rw [decide_eq_false (p := 0 ≤ i) (by omega)]; rfl) | (rw [decide_eq_true (p := 0 ≤ i) (by omega), decide_eq_false (p := i / 8 < (b.length : Int)) (by omega)]; rfl) | (rw [decide_eq_true (p := 0 ≤ i) (by omega), decide_eq_true (p := i / 8 < (b.length : Int)) (by omega)]; rfl) | (by_cases hi_ : 0 ≤ i; (rw [decide_eq_true (p := 0 ≤ i) (by omega), decide_eq_false (p := i / 8 < (b.length : Int)) (by omega)]; rfl); (rw [decide_eq_false (p := 0 ≤ i) hi_]; rfl))))
 ·
  refine TL.known 7 hb1 rfl ?_
  have hb1' := hb1
  replace hb1' := of_decide_eq_false hb1'
  refine TL.gf 7 ?_
  refine TL.gf 7 ?_
  refine TL.gf 7 ?_
  refine TL.gf 7 ?_
  refine TL.gf 7 ?_
  refine TL.pk false (pB false) ?_
  refine TL.mv (pB false) ?_
  refine TL.gf 14 ?_
  refine TL.gf 14 ?_
  refine TL.gf 14 ?_
  refine TL.gf 14 ?_
  refine TL.gf 14 ?_
  refine TL.gf 14 ?_
  refine TL.gf 14 ?_
  refine TL.gf 14 ?_
  refine TL.gf 14 ?_
  refine TL.gf 14 ?_
  refine TL.gf 14 ?_
  refine TL.pk false (pB false) ?_
  refine TL.as (pB false) ?_
  refine TL.nil ?_
  refine T.ret ?_
  refine ⟨[(false, [.d (.bool false)])], (.cons rfl .nil), rfl, [], (RetC.rd' ?_ .nil)⟩ <;> ((congr 1; symm; unfold bitHas; first | (rw [decide_eq_false (p := 0 ≤ i) (by omega)]; rfl) | (rw [decide_eq_true (p := 0 ≤ i) (by omega), decide_eq_false (p := i / 8 < (b.length : Int)) (by omega)]; rfl) | (rw [decide_eq_true (p := 0 ≤ i) (by omega), decide_eq_true (p := i / 8 < (b.length : Int)) (by omega)]; rfl) | (by_cases hi_ : 0 ≤ i; (rw [decide_eq_true (p := 0 ≤ i) (by omega), decide_eq_false (p := i / 8 < (b.length : Int)) (by omega)]; rfl); (rw [decide_eq_false (p := 0 ≤ i) hi_]; rfl))))
theorem ok_spec_BitsList (b : List Int) (h0_ : U8s b) (h1_ : b.length ≤ 1099511627776) : RO Try.prog 178 [.one (.ints .u8 b)] [(false, [.own 3 (.ints .i64 (bitList b))])] := by
 refine RO.intro Try.func178 rfl 21 rfl (le_ok rfl) fun w Z => ?_
 refine T.bnd 0 0 rfl rfl fun hb_0_0 => ?_
 simp only [D.size, List.length_map] at hb_0_0
 refine T.seq ?_
 refine T.region ?_
 refine TL.as (.one (.nil)) ?_
 refine TL.nil ?_
 refine T.seq ?_
 refine T.region ?_
 refine TL.c (Step.lit (e := 3) (z := 1) (by_ := 8) (xs := []) (pss := []) (es := []) (ss := []) (d := (.ints .i64 [])) rfl rfl (lt_ok rfl) (by kernel_rfl) rfl rfl .nil (by simp) (le_ok rfl) (le_ok rfl) rfl .nil rfl (by simp) (by simp) rfl trivial rfl rfl) ?_
 refine TL.as (.one (.row 5 [])) ?_
 refine TL.nil ?_
 refine T.seq ?_
 refine T.seq ?_
 refine T.region ?_
 refine TL.as (pI 0) ?_
 refine TL.nil ?_
 refine T.block ?_
 refine T.loop (ι := Nat × (List Int)) (fun xx_ => { tm := [(0, (pS b)), (2, (.one (.nil))), (4, (pI ((xx_.1) : Int))), (3, (.one (.row 5 [])))], rows := [(5, (3, (.ints .i64 (xx_.2))))], boxes := [] }) (fun xx_ => (xx_.1) ≤ 8 * b.length ∧ (xx_.2) ++ bitsGo b (8 * b.length - (xx_.1)) (xx_.1) = bitList b ∧ (xx_.2).length ≤ (xx_.1)) (fun xx_ => 8 * b.length - (xx_.1)) (0, []) ?_ ?_ ?_
 · refine Env.le_mk ⟨rfl, rfl, ?_, rfl, trivial⟩ ⟨?_, trivial⟩ trivial <;> (first | rfl | (refine congrArg (fun x => some (_, D.ints .i64 x)) ?_; rfl) | (refine congrArg (fun n => PV.one (.d (.int .i64 n))) ?_; first | omega | (simp; done)))
 · (dsimp only; refine ⟨Nat.zero_le _, rfl, Nat.zero_le _⟩)
 ·
  intro xx_ hx
  obtain ⟨i, o⟩ := xx_
  try dsimp only at hx ⊢
  obtain ⟨hx1, hx2, hx3⟩ := hx
  refine T.seq ?_
  refine T.seq ?_
  refine T.region ?_
  refine TL.mv (pI (i : Int)) ?_
  refine TL.mv (pS b) ?_
  refine TL.c (Step.len (e := 5) (z := 1) (d := (.ints .u8 b)) rfl rfl (lt_ok rfl) (by kernel_rfl) rfl rfl) ?_
  refine TL.c (Step.bin (r := .int .i64 (8 * (b.length : Int))) rfl rfl (lt_ok rfl) rfl rfl (Bin.mul (a := 8) (b := (b.length : Int)) (by first | exact wrap_ok (by first | omega | (simp; omega)) (by first | omega | (simp; omega)) | rfl))) ?_
  refine TL.c (Step.bin rfl rfl (lt_ok rfl) rfl rfl (Bin.lss (k := .i64) (a := (i : Int)) (b := (8 * (b.length : Int))))) ?_
  refine TL.nil ?_
  refine T.cond (b := decide ((i : Int) < (8 * (b.length : Int)))) rfl (fun h1 => ?_) (fun h1 => ?_)
  ·
   replace h1 := of_decide_eq_true h1
   refine T.skip ?_
   refine T.seq ?_
   refine T.block ?_
   refine T.seq ?_
   refine T.region ?_
   refine TL.mv (pS b) ?_
   refine TL.mv (pI (i : Int)) ?_
   refine TL.c (Step.cl (xs := [.tmp 13, .tmp 14]) (ps := [(pS b), (pI (i : Int))]) (g := .func 195) false (.cons (.one (.d _)) (.cons (.one (.d _)) .nil)) (ok_spec_BitsHas b (i : Int) (by assumption) (by first | omega | assumption | (simp only [List.length_append] at *; omega)) (by first | omega | (have := hn_ (by first | assumption | simpa using ‹(!bitsOk b n) = false›); omega)))) ?_
   refine TL.nil ?_
   refine T.cond (b := bitHas b (i : Int)) rfl (fun h2 => ?_) (fun h2 => ?_)
   ·
    refine T.region ?_
    refine TL.mv (.one (.row 5 [])) ?_
    refine TL.mv (pI (i : Int)) ?_
    refine TL.c (Step.lit (e := 3) (z := 1) (by_ := 8) (xs := [.tmp 17]) (pss := [[cI (i : Int)]]) (es := [(.int .i64 (i : Int))]) (ss := []) (d := (.ints .i64 [(i : Int)])) rfl rfl (lt_ok rfl) (by kernel_rfl) rfl rfl (.cons rfl .nil) (by simp) (le_ok rfl) (le_ok rfl) rfl (.val rfl .nil) rfl (by simp) (by simp) rfl trivial rfl rfl) ?_
    refine TL.c (Step.append (e := 3) (z := 1) (by_ := 8) (d := (.ints .i64 o)) (dy := (.ints .i64 [(i : Int)])) (d' := (.ints .i64 (o ++ [(i : Int)]))) (ss := []) rfl rfl (lt_ok rfl) (by kernel_rfl) rfl rfl rfl (lt_ok rfl) rfl (.copy rfl rfl rfl (by simp [D.flat, D.val])) (by simp) rfl (by simp only [D.size, List.length_map]; first | omega | (simp only [List.length_append, List.length_cons, List.length_nil]; omega) | (simp; omega) | (simp only [List.length_append] at *; omega)) (by simp only [D.size, List.length_map]; first | omega | (simp only [List.length_append, List.length_cons, List.length_nil]; omega) | (simp; omega) | (simp only [List.length_append] at *; omega)) (by simp)) ?_
    refine TL.as (.one (.row 5 [])) ?_
    refine TL.nil ?_
    refine T.region ?_
    refine TL.mv (pI (i : Int)) ?_
    refine TL.c (Step.bin (r := .int .i64 ((i : Int) + 1)) rfl rfl (lt_ok rfl) rfl rfl (Bin.add (a := (i : Int)) (b := 1) (by first | exact wrap_ok (by first | omega | (simp; omega)) (by first | omega | (simp; omega)) | rfl))) ?_
    refine TL.as (pI ((i : Int) + 1)) ?_
    refine TL.nil ?_
    refine ⟨(i + 1, o ++ [(i : Int)]), by (refine ⟨by omega, ?_, by simp only [List.length_append, List.length_cons, List.length_nil]; omega⟩; rw [← hx2, bitsGo_next b (n := 8 * b.length) (i := i) (by omega)]; first | (rw [if_pos (by assumption)]; simp only [List.append_assoc]; done) | (rw [if_neg (by simp [*])]; rfl)), by (dsimp only; omega), Env.le_mk ⟨rfl, rfl, ?_, rfl, trivial⟩ ⟨?_, trivial⟩ trivial⟩ <;> (first | rfl | (refine congrArg (fun x => some (_, D.ints .i64 x)) ?_; rfl) | (refine congrArg (fun n => PV.one (.d (.int .i64 n))) ?_; first | omega | (simp; done)))
   ·
    refine T.skip ?_
    refine T.region ?_
    refine TL.mv (pI (i : Int)) ?_
    refine TL.c (Step.bin (r := .int .i64 ((i : Int) + 1)) rfl rfl (lt_ok rfl) rfl rfl (Bin.add (a := (i : Int)) (b := 1) (by first | exact wrap_ok (by first | omega | (simp; omega)) (by first | omega | (simp; omega)) | rfl))) ?_
    refine TL.as (pI ((i : Int) + 1)) ?_
    refine TL.nil ?_
    refine ⟨(i + 1, o), by (refine ⟨by omega, ?_, by simp only [List.length_append, List.length_cons, List.length_nil]; omega⟩; rw [← hx2, bitsGo_next b (n := 8 * b.length) (i := i) (by omega)]; first | (rw [if_pos (by assumption)]; simp only [List.append_assoc]; done) | (rw [if_neg (by simp [*])]; rfl)), by (dsimp only; omega), Env.le_mk ⟨rfl, rfl, ?_, rfl, trivial⟩ ⟨rfl, trivial⟩ trivial⟩ <;> (first | rfl | (refine congrArg (fun x => some (_, D.ints .i64 x)) ?_; rfl) | (refine congrArg (fun n => PV.one (.d (.int .i64 n))) ?_; first | omega | (simp; done)))
  ·
   replace h1 := of_decide_eq_false h1
   refine T.exit ?_
   refine T.seq ?_
   refine T.region ?_
   refine TL.mv (.one (.row 5 [])) ?_
   refine TL.as (.one (.row 5 [])) ?_
   refine TL.nil ?_
   refine T.ret ?_
   refine ⟨[(false, [.row 5 []])], (.cons rfl .nil), rfl, [5], (RetC.own' rfl ?_ rfl .nil)⟩ <;> ((congr 1; rw [← hx2, bitsGo_end b (by omega), List.append_nil]))
theorem ok_spec_BitsCount (b : List Int) (h0_ : U8s b) (h1_ : b.length ≤ 1099511627776) : RO Try.prog 134 [.one (.ints .u8 b)] [(false, [.rd (.int .i64 ((bitList b).length : Int))])] := by
 refine RO.intro Try.func134 rfl 6 rfl (le_ok rfl) fun w Z => ?_
 refine T.bnd 0 0 rfl rfl fun hb_0_0 => ?_
 simp only [D.size, List.length_map] at hb_0_0
 refine T.seq ?_
 refine T.region ?_
 refine TL.as (pI 0) ?_
 refine TL.nil ?_
 refine T.seq ?_
 refine T.region ?_
 refine TL.mv (pS b) ?_
 have nn1 := bitList_len b
 refine TL.c (Step.cl (xs := [.tmp 3]) (ps := [(pS b)]) (g := .func 178) false (.cons (.one (.d _)) .nil) (ok_spec_BitsList b (by assumption) (by first | omega | assumption | (simp only [List.length_append] at *; omega)))) ?_
 refine TL.c (Step.len (e := 3) (z := 1) (d := (.ints .i64 (bitList b))) rfl rfl (lt_ok rfl) (by kernel_rfl) rfl rfl) ?_
 refine TL.as (pI ((bitList b).length : Int)) ?_
 refine TL.nil ?_
 refine T.ret ?_
 exact ⟨[(false, [.d (.int .i64 ((bitList b).length : Int))])], (.cons rfl .nil), rfl, [], (RetC.rd' rfl .nil)⟩
theorem ok_spec_l07Hash (h : List Int) : RO Try.prog 154 [.one (.ints .u8 h)] [(false, [.rd (.bool (decide ((h.length : Int) = 32)))])] := by
 refine RO.intro Try.func154 rfl 6 rfl (le_ok rfl) fun w Z => ?_
 refine T.bnd 0 0 rfl rfl fun hb_0_0 => ?_
 simp only [D.size, List.length_map] at hb_0_0
 refine T.seq ?_
 refine T.region ?_
 refine TL.as (pB false) ?_
 refine TL.nil ?_
 refine T.seq ?_
 refine T.region ?_
 refine TL.mv (pS h) ?_
 refine TL.c (Step.len (e := 5) (z := 1) (d := (.ints .u8 h)) rfl rfl (lt_ok rfl) (by kernel_rfl) rfl rfl) ?_
 refine TL.c (Step.bin rfl rfl (lt_ok rfl) rfl rfl (Bin.eql (k := .i64) (a := (h.length : Int)) (b := 32))) ?_
 refine TL.as (pB (decide ((h.length : Int) = 32))) ?_
 refine TL.nil ?_
 refine T.ret ?_
 exact ⟨[(false, [.d (.bool (decide ((h.length : Int) = 32)))])], (.cons rfl .nil), rfl, [], (RetC.rd' rfl .nil)⟩
theorem ok_spec_l08Hashes (l : List (List Int)) : RO Try.prog 159 [.one (.bss l)] [(false, [.rd (.bool (hashes l))])] := by
 refine RO.intro Try.func159 rfl 15 rfl (le_ok rfl) fun w Z => ?_
 refine T.bnd 0 0 rfl rfl fun hb_0_0 => ?_
 simp only [D.size, List.length_map] at hb_0_0
 refine T.seq ?_
 refine T.region ?_
 refine TL.as (pB false) ?_
 refine TL.nil ?_
 refine T.seq ?_
 refine T.seq ?_
 refine T.region ?_
 refine TL.mv (.one (.d (.bss l))) ?_
 refine TL.c (Step.len (e := 24) (z := 1) (d := (.bss l)) rfl rfl (lt_ok rfl) (by kernel_rfl) rfl rfl) ?_
 refine TL.mv (pI 0) ?_
 refine TL.nil ?_
 refine T.block ?_
 refine T.loop (ι := Nat) (fun xx_ => { tm := [(5, (.one (.d (.bss l)))), (6, (pI (l.length : Int))), (7, (pI (xx_ : Int)))], rows := [], boxes := [] }) (fun xx_ => xx_ ≤ l.length ∧ hashes (l.take xx_) = true) (fun xx_ => l.length - xx_) 0 ?_ ?_ ?_
 · refine Env.le_mk ⟨rfl, rfl, ?_, trivial⟩ trivial trivial <;> (first | rfl | (simp; done) | (congr 3; omega))
 · (refine ⟨Nat.zero_le _, by rw [List.take_zero]; rfl⟩)
 ·
  intro i hx
  try dsimp only at hx ⊢
  obtain ⟨hx1, hx2⟩ := hx
  refine T.seq ?_
  refine T.region ?_
  refine TL.c (Step.bin rfl rfl (lt_ok rfl) rfl rfl (Bin.lss (k := .i64) (a := (i : Int)) (b := (l.length : Int)))) ?_
  refine TL.nil ?_
  refine T.seq ?_
  refine T.cond (b := decide ((i : Int) < (l.length : Int))) rfl (fun h1 => ?_) (fun h1 => ?_)
  ·
   replace h1 := of_decide_eq_true h1
   refine T.skip ?_
   refine T.seq ?_
   refine T.block ?_
   refine T.seq ?_
   refine T.region ?_
   refine TL.c (Step.index (e := 24) (z := 1) (i := (i : Int)) rfl rfl (lt_ok rfl) (by kernel_rfl) rfl rfl rfl (lt_ok rfl) rfl (by first | omega | (simp; omega)) (by simp only [D.size]; first | omega | (simp; omega))) ?_
   refine TL.c (Step.load (e := (.ints .u8 (l.getD i []))) rfl rfl (lt_ok rfl) (by kernel_rfl) rfl rfl) ?_
   refine TL.as (pS (l.getD i [])) ?_
   refine TL.nil ?_
   refine T.seq ?_
   refine T.region ?_
   refine TL.mv (pS (l.getD i [])) ?_
   refine TL.c (Step.cl (xs := [.tmp 11]) (ps := [(pS (l.getD i []))]) (g := .func 154) false (.cons (.one (.d _)) .nil) (ok_spec_l07Hash (l.getD i []))) ?_
   refine TL.c (Step.not (b := (decide (((l.getD i []).length : Int) = 32))) rfl rfl (lt_ok rfl) rfl) ?_
   refine TL.nil ?_
   refine T.cond (b := !(decide (((l.getD i []).length : Int) = 32))) rfl (fun h2 => ?_) (fun h2 => ?_)
   ·
    replace h2 : (decide (((l.getD i []).length : Int) = 32)) = false := by simpa only [Bool.not_eq_true', Bool.not_eq_false'] using h2
    replace h2 := of_decide_eq_false h2
    refine T.seq ?_
    refine T.region ?_
    refine TL.as (pB false) ?_
    refine TL.nil ?_
    refine T.ret ?_
    refine ⟨[(false, [.d (.bool false)])], (.cons rfl .nil), rfl, [], (RetC.rd' ?_ .nil)⟩ <;> ((congr 1; symm; first | (exact hashes_no (i := i) (by omega) (by omega)) | (rw [List.take_of_length_le (by omega)] at hx2; exact hx2)))
   ·
    replace h2 : (decide (((l.getD i []).length : Int) = 32)) = true := by simpa only [Bool.not_eq_true', Bool.not_eq_false'] using h2
    replace h2 := of_decide_eq_true h2
    refine T.skip ?_
    refine T.region ?_
    refine TL.c (Step.bin (r := .int .i64 ((i : Int) + 1)) rfl rfl (lt_ok rfl) rfl rfl (Bin.add (a := (i : Int)) (b := 1) (by first | exact wrap_ok (by first | omega | (simp; omega)) (by first | omega | (simp; omega)) | rfl))) ?_
    refine TL.mv (pI ((i : Int) + 1)) ?_
    refine TL.nil ?_
    refine ⟨i + 1, by (refine ⟨by omega, hashes_step (by omega) hx2 (by omega)⟩), by first | omega | (dsimp only; omega), Env.le_mk ⟨rfl, rfl, ?_, trivial⟩ trivial trivial⟩ <;> (first | rfl | (simp; done) | (congr 3; omega))
  ·
   replace h1 := of_decide_eq_false h1
   refine T.exit ?_
   refine T.seq ?_
   refine T.region ?_
   refine TL.as (pB true) ?_
   refine TL.nil ?_
   refine T.ret ?_
   refine ⟨[(false, [.d (.bool true)])], (.cons rfl .nil), rfl, [], (RetC.rd' ?_ .nil)⟩ <;> ((congr 1; symm; first | (exact hashes_no (i := i) (by omega) (by omega)) | (rw [List.take_of_length_le (by omega)] at hx2; exact hx2)))
theorem ok_spec_BitsSize (n : Int) (h0_ : n ≤ 9223372036854775807) : RO Try.prog 177 [.one (.int .i64 n)] [(false, [.rd (.int .i64 (bitsSize n))])] := by
 refine RO.intro Try.func177 rfl 9 rfl (le_ok rfl) fun w Z => ?_
 refine T.seq ?_
 refine T.region ?_
 refine TL.as (pI 0) ?_
 refine TL.nil ?_
 refine T.seq ?_
 refine T.seq ?_
 refine T.region ?_
 refine TL.mv (pI n) ?_
 refine TL.c (Step.bin rfl rfl (lt_ok rfl) rfl rfl (Bin.lss (k := .i64) (a := n) (b := 1))) ?_
 refine TL.nil ?_
 refine T.cond (b := decide (n < 1)) rfl (fun h1 => ?_) (fun h1 => ?_)
 ·
  replace h1 := of_decide_eq_true h1
  refine T.seq ?_
  refine T.region ?_
  refine TL.as (pI 0) ?_
  refine TL.nil ?_
  refine T.ret ?_
  refine ⟨[(false, [cI 0])], (.cons rfl .nil), rfl, [], (RetC.rd' ?_ .nil)⟩ <;> ((congr 1; unfold bitsSize; first | rw [if_pos (by omega)] | (rw [if_neg (by omega)]; done) | (rw [if_neg (by omega)]; omega)))
 ·
  replace h1 := of_decide_eq_false h1
  refine T.skip ?_
  refine T.seq ?_
  refine T.region ?_
  refine TL.mv (pI n) ?_
  refine TL.c (Step.bin (r := .int .i64 (n - 1)) rfl rfl (lt_ok rfl) rfl rfl (Bin.sub (a := n) (b := 1) (by first | exact wrap_ok (by first | omega | (simp; omega)) (by first | omega | (simp; omega)) | rfl))) ?_
  refine TL.c (Step.bin (r := .int .i64 ((n - 1) / 8)) rfl rfl (lt_ok rfl) rfl rfl (Bin.quo (k := .i64) (a := (n - 1)) (b := 8) (by decide) (by rw [Int.tdiv_eq_ediv_of_nonneg (by first | omega | (simp; omega))]; exact wrap_ok (by first | omega | (simp; omega)) (by first | omega | (simp; omega))))) ?_
  refine TL.c (Step.bin (r := .int .i64 (((n - 1) / 8) + 1)) rfl rfl (lt_ok rfl) rfl rfl (Bin.add (a := ((n - 1) / 8)) (b := 1) (by first | exact wrap_ok (by first | omega | (simp; omega)) (by first | omega | (simp; omega)) | rfl))) ?_
  refine TL.as (pI (((n - 1) / 8) + 1)) ?_
  refine TL.nil ?_
  refine T.ret ?_
  refine ⟨[(false, [cI (((n - 1) / 8) + 1)])], (.cons rfl .nil), rfl, [], (RetC.rd' ?_ .nil)⟩ <;> ((congr 1; unfold bitsSize; first | rw [if_pos (by omega)] | (rw [if_neg (by omega)]; done) | (rw [if_neg (by omega)]; omega)))
theorem ok_spec_BitsOk (b : List Int) (n : Int) (h0_ : U8s b) (h1_ : b.length ≤ 1099511627776) : RO Try.prog 173 [.one (.ints .u8 b), .one (.int .i64 n)] [(false, [.rd (.bool (bitsOk b n))])] := by
 refine RO.intro Try.func173 rfl 31 rfl (le_ok rfl) fun w Z => ?_
 refine T.bnd 0 0 rfl rfl fun hb_0_0 => ?_
 simp only [D.size, List.length_map] at hb_0_0
 refine T.seq ?_
 refine T.region ?_
 refine TL.as (pB false) ?_
 refine TL.nil ?_
 refine T.seq ?_
 refine T.seq ?_
 refine T.region ?_
 refine TL.mv (pI n) ?_
 refine TL.c (Step.cl (xs := [.tmp 6]) (ps := [(pI n)]) (g := .func 172) false (.cons (.one (.d _)) .nil) (ok_spec_l02Signers n)) ?_
 refine TL.c (Step.not (b := (decide (1 ≤ n ∧ n ≤ 10))) rfl rfl (lt_ok rfl) rfl) ?_
 refine TL.mv (pB (!(decide (1 ≤ n ∧ n ≤ 10)))) ?_
 rcases Bool.eq_false_or_eq_true (!(decide (1 ≤ n ∧ n ≤ 10))) with hb1 | hb1
 ·
  refine TL.known 9 hb1 rfl ?_
  have hb1' := hb1
  replace hb1' : (decide (1 ≤ n ∧ n ≤ 10)) = false := by simpa only [Bool.not_eq_true', Bool.not_eq_false'] using hb1'
  replace hb1' := of_decide_eq_false hb1'
  refine TL.gf 9 ?_
  refine TL.gf 9 ?_
  refine TL.gf 9 ?_
  refine TL.gf 9 ?_
  refine TL.gf 9 ?_
  refine TL.pk true (pB true) ?_
  refine TL.nil ?_
  refine T.cond (b := true) rfl (fun h2_ => ?_) (fun h2_ => absurd h2_ (by simp))
  refine T.seq ?_
  refine T.region ?_
  refine TL.as (pB false) ?_
  refine TL.nil ?_
  refine T.ret ?_
  refine ⟨[(false, [.d (.bool false)])], (.cons rfl .nil), rfl, [], (RetC.rd' ?_ .nil)⟩ <;> (first | (congr 1; symm; unfold bitsOk; rw [bits_last (by omega), decide_eq_true (p := (1 ≤ n ∧ n ≤ 10)) (by omega), decide_eq_true (p := ((b.length : Int) = bitsSize n)) (by omega)]; rfl) | (congr 1; symm; simp only [bitsOk, *, Bool.and_true, Bool.true_and, Bool.and_false, Bool.false_and, decide_true, decide_false, and_true, true_and, and_self, and_false, false_and, Bool.and_self, not_true, not_false, Bool.not_true, Bool.not_false, ge_iff_le, gt_iff_lt, if_true, if_false, Bool.false_eq_true, ite_true, ite_false, reduceIte]; done) | (congr 1; symm; unfold bitsOk; rw [decide_eq_false (p := (1 ≤ n ∧ n ≤ 10)) (by omega)]; rfl) | (congr 1; symm; unfold bitsOk; rw [decide_eq_false (p := ((b.length : Int) = bitsSize n)) (by omega)]; simp; done) | (congr 1; symm; unfold bitsOk; rw [all_no (i := i) (by omega) (by omega)]; simp; done) | (congr 1; symm; unfold bitsOk; rw [List.take_of_length_le (by omega)] at hx2; rw [hx2, decide_eq_true (p := (1 ≤ n ∧ n ≤ 10)) (by omega), decide_eq_true (p := ((b.length : Int) = bitsSize n)) (by omega)]; rfl) | (congr 1; unfold bitsOk; rw [bits_last (by omega), decide_eq_true (p := (1 ≤ n ∧ n ≤ 10)) (by omega), decide_eq_true (p := ((b.length : Int) = bitsSize n)) (by omega)]; simp only [Bool.true_and]; rfl) | (congr 1; symm; unfold bitsOk; rw [List.eq_nil_of_length_eq_zero (l := bitList b) (by omega), decide_eq_true (p := (1 ≤ n ∧ n ≤ 10)) (by omega), decide_eq_true (p := ((b.length : Int) = bitsSize n)) (by omega)]; rfl))
 ·
  refine TL.known 9 hb1 rfl ?_
  have hb1' := hb1
  replace hb1' : (decide (1 ≤ n ∧ n ≤ 10)) = true := by simpa only [Bool.not_eq_true', Bool.not_eq_false'] using hb1'
  replace hb1' := of_decide_eq_true hb1'
  refine TL.gm 9 (pS b) ?_
  refine TL.gy 9 (Step.len (e := 5) (z := 1) (d := (.ints .u8 b)) rfl rfl (lt_ok rfl) (by kernel_rfl) rfl rfl) ?_
  refine TL.gm 9 (pI n) ?_
  refine TL.gy 9 (Step.cl (xs := [.tmp 12]) (ps := [(pI n)]) (g := .func 177) false (.cons (.one (.d _)) .nil) (ok_spec_BitsSize n (by first | omega | assumption | (simp only [List.length_append] at *; omega)))) ?_
  refine TL.gy 9 (Step.bin rfl rfl (lt_ok rfl) rfl rfl (Bin.neq (k := .i64) (a := (b.length : Int)) (b := (bitsSize n)))) ?_
  refine TL.pk false (pB (decide ((b.length : Int) ≠ (bitsSize n)))) ?_
  refine TL.nil ?_
  refine T.cond (b := decide ((b.length : Int) ≠ (bitsSize n))) rfl (fun h3 => ?_) (fun h3 => ?_)
  ·
   replace h3 := of_decide_eq_true h3
   refine T.seq ?_
   refine T.region ?_
   refine TL.as (pB false) ?_
   refine TL.nil ?_
   refine T.ret ?_
   refine ⟨[(false, [.d (.bool false)])], (.cons rfl .nil), rfl, [], (RetC.rd' ?_ .nil)⟩ <;> (first | (congr 1; symm; unfold bitsOk; rw [bits_last (by omega), decide_eq_true (p := (1 ≤ n ∧ n ≤ 10)) (by omega), decide_eq_true (p := ((b.length : Int) = bitsSize n)) (by omega)]; rfl) | (congr 1; symm; simp only [bitsOk, *, Bool.and_true, Bool.true_and, Bool.and_false, Bool.false_and, decide_true, decide_false, and_true, true_and, and_self, and_false, false_and, Bool.and_self, not_true, not_false, Bool.not_true, Bool.not_false, ge_iff_le, gt_iff_lt, if_true, if_false, Bool.false_eq_true, ite_true, ite_false, reduceIte]; done) | (congr 1; symm; unfold bitsOk; rw [decide_eq_false (p := (1 ≤ n ∧ n ≤ 10)) (by omega)]; rfl) | (congr 1; symm; unfold bitsOk; rw [decide_eq_false (p := ((b.length : Int) = bitsSize n)) (by omega)]; simp; done) | (congr 1; symm; unfold bitsOk; rw [all_no (i := i) (by omega) (by omega)]; simp; done) | (congr 1; symm; unfold bitsOk; rw [List.take_of_length_le (by omega)] at hx2; rw [hx2, decide_eq_true (p := (1 ≤ n ∧ n ≤ 10)) (by omega), decide_eq_true (p := ((b.length : Int) = bitsSize n)) (by omega)]; rfl) | (congr 1; unfold bitsOk; rw [bits_last (by omega), decide_eq_true (p := (1 ≤ n ∧ n ≤ 10)) (by omega), decide_eq_true (p := ((b.length : Int) = bitsSize n)) (by omega)]; simp only [Bool.true_and]; rfl) | (congr 1; symm; unfold bitsOk; rw [List.eq_nil_of_length_eq_zero (l := bitList b) (by omega), decide_eq_true (p := (1 ≤ n ∧ n ≤ 10)) (by omega), decide_eq_true (p := ((b.length : Int) = bitsSize n)) (by omega)]; rfl))
  ·
   replace h3 := of_decide_eq_false h3
   refine T.skip ?_
   refine T.seq ?_
   refine T.region ?_
   refine TL.mv (pS b) ?_
   have nn4 := bitList_len b
   refine TL.c (Step.cl (xs := [.tmp 16]) (ps := [(pS b)]) (g := .func 178) false (.cons (.one (.d _)) .nil) (ok_spec_BitsList b (by assumption) (by first | omega | assumption | (simp only [List.length_append] at *; omega)))) ?_
   refine TL.as (.one (.row 1017 [])) ?_
   refine TL.nil ?_
   refine T.seq ?_
   refine T.region ?_
   refine TL.mv (.one (.row 1017 [])) ?_
   refine TL.c (Step.len (e := 3) (z := 1) (d := (.ints .i64 (bitList b))) rfl rfl (lt_ok rfl) (by kernel_rfl) rfl rfl) ?_
   refine TL.c (Step.bin rfl rfl (lt_ok rfl) rfl rfl (Bin.eql (k := .i64) (a := ((bitList b).length : Int)) (b := 0))) ?_
   refine TL.mv (pB (decide (((bitList b).length : Int) = 0))) ?_
   rcases Bool.eq_false_or_eq_true (decide (((bitList b).length : Int) = 0)) with hb5 | hb5
   ·
    refine TL.known 21 hb5 rfl ?_
    have hb5' := hb5
    replace hb5' := of_decide_eq_true hb5'
    refine TL.gf 21 ?_
    refine TL.gf 21 ?_
    refine TL.gf 21 ?_
    refine TL.gf 21 ?_
    refine TL.gf 21 ?_
    refine TL.gf 21 ?_
    refine TL.gf 21 ?_
    refine TL.gf 21 ?_
    refine TL.pk true (pB true) ?_
    refine TL.as (pB true) ?_
    refine TL.nil ?_
    refine T.ret ?_
    refine ⟨[(false, [.d (.bool true)])], (.cons rfl .nil), rfl, [], (RetC.rd' ?_ .nil)⟩ <;> (first | (congr 1; symm; unfold bitsOk; rw [bits_last (by omega), decide_eq_true (p := (1 ≤ n ∧ n ≤ 10)) (by omega), decide_eq_true (p := ((b.length : Int) = bitsSize n)) (by omega)]; rfl) | (congr 1; symm; simp only [bitsOk, *, Bool.and_true, Bool.true_and, Bool.and_false, Bool.false_and, decide_true, decide_false, and_true, true_and, and_self, and_false, false_and, Bool.and_self, not_true, not_false, Bool.not_true, Bool.not_false, ge_iff_le, gt_iff_lt, if_true, if_false, Bool.false_eq_true, ite_true, ite_false, reduceIte]; done) | (congr 1; symm; unfold bitsOk; rw [decide_eq_false (p := (1 ≤ n ∧ n ≤ 10)) (by omega)]; rfl) | (congr 1; symm; unfold bitsOk; rw [decide_eq_false (p := ((b.length : Int) = bitsSize n)) (by omega)]; simp; done) | (congr 1; symm; unfold bitsOk; rw [all_no (i := i) (by omega) (by omega)]; simp; done) | (congr 1; symm; unfold bitsOk; rw [List.take_of_length_le (by omega)] at hx2; rw [hx2, decide_eq_true (p := (1 ≤ n ∧ n ≤ 10)) (by omega), decide_eq_true (p := ((b.length : Int) = bitsSize n)) (by omega)]; rfl) | (congr 1; unfold bitsOk; rw [bits_last (by omega), decide_eq_true (p := (1 ≤ n ∧ n ≤ 10)) (by omega), decide_eq_true (p := ((b.length : Int) = bitsSize n)) (by omega)]; simp only [Bool.true_and]; rfl) | (congr 1; symm; unfold bitsOk; rw [List.eq_nil_of_length_eq_zero (l := bitList b) (by omega), decide_eq_true (p := (1 ≤ n ∧ n ≤ 10)) (by omega), decide_eq_true (p := ((b.length : Int) = bitsSize n)) (by omega)]; rfl))
   ·
    refine TL.known 21 hb5 rfl ?_
    have hb5' := hb5
    replace hb5' := of_decide_eq_false hb5'
    refine TL.gm 21 (.one (.row 1017 [])) ?_
    refine TL.gm 21 (.one (.row 1017 [])) ?_
    refine TL.gy 21 (Step.len (e := 3) (z := 1) (d := (.ints .i64 (bitList b))) rfl rfl (lt_ok rfl) (by kernel_rfl) rfl rfl) ?_
    refine TL.gy 21 (Step.bin (r := .int .i64 (((bitList b).length : Int) - 1)) rfl rfl (lt_ok rfl) rfl rfl (Bin.sub (a := ((bitList b).length : Int)) (b := 1) (by first | exact wrap_ok (by first | omega | (simp; omega)) (by first | omega | (simp; omega)) | rfl))) ?_
    refine TL.gy 21 (Step.index_row (e := 3) (z := 1) (i := (((bitList b).length : Int) - 1)) rfl rfl (lt_ok rfl) (by kernel_rfl) rfl rfl rfl rfl (lt_ok rfl) rfl (by first | omega | (simp; omega)) (by simp only [D.at_, D.cell, D.size]; first | omega | (simp; omega))) ?_
    refine TL.gy 21 (Step.load_row (c := cI ((bitList b).getD (((bitList b).length : Int) - 1).toNat 0)) rfl rfl (lt_ok rfl) (by kernel_rfl) rfl rfl rfl) ?_
    refine TL.gm 21 (pI n) ?_
    refine TL.gy 21 (Step.bin rfl rfl (lt_ok rfl) rfl rfl (Bin.lss (k := .i64) (a := ((bitList b).getD (((bitList b).length : Int) - 1).toNat 0)) (b := n))) ?_
    refine TL.pk false (pB (decide (((bitList b).getD (((bitList b).length : Int) - 1).toNat 0) < n))) ?_
    refine TL.as (pB (decide (((bitList b).getD (((bitList b).length : Int) - 1).toNat 0) < n))) ?_
    refine TL.nil ?_
    refine T.ret ?_
    refine ⟨[(false, [.d (.bool (decide (((bitList b).getD (((bitList b).length : Int) - 1).toNat 0) < n)))])], (.cons rfl .nil), rfl, [], (RetC.rd' ?_ .nil)⟩ <;> (first | (congr 1; symm; unfold bitsOk; rw [bits_last (by omega), decide_eq_true (p := (1 ≤ n ∧ n ≤ 10)) (by omega), decide_eq_true (p := ((b.length : Int) = bitsSize n)) (by omega)]; rfl) | (congr 1; symm; simp only [bitsOk, *, Bool.and_true, Bool.true_and, Bool.and_false, Bool.false_and, decide_true, decide_false, and_true, true_and, and_self, and_false, false_and, Bool.and_self, not_true, not_false, Bool.not_true, Bool.not_false, ge_iff_le, gt_iff_lt, if_true, if_false, Bool.false_eq_true, ite_true, ite_false, reduceIte]; done) | (congr 1; symm; unfold bitsOk; rw [decide_eq_false (p := (1 ≤ n ∧ n ≤ 10)) (by omega)]; rfl) | (congr 1; symm; unfold bitsOk; rw [decide_eq_false (p := ((b.length : Int) = bitsSize n)) (by omega)]; simp; done) | (congr 1; symm; unfold bitsOk; rw [all_no (i := i) (by omega) (by omega)]; simp; done) | (congr 1; symm; unfold bitsOk; rw [List.take_of_length_le (by omega)] at hx2; rw [hx2, decide_eq_true (p := (1 ≤ n ∧ n ≤ 10)) (by omega), decide_eq_true (p := ((b.length : Int) = bitsSize n)) (by omega)]; rfl) | (congr 1; unfold bitsOk; rw [bits_last (by omega), decide_eq_true (p := (1 ≤ n ∧ n ≤ 10)) (by omega), decide_eq_true (p := ((b.length : Int) = bitsSize n)) (by omega)]; simp only [Bool.true_and]; rfl) | (congr 1; symm; unfold bitsOk; rw [List.eq_nil_of_length_eq_zero (l := bitList b) (by omega), decide_eq_true (p := (1 ≤ n ∧ n ≤ 10)) (by omega), decide_eq_true (p := ((b.length : Int) = bitsSize n)) (by omega)]; rfl))
theorem ok_spec_QcOk (l : SLimits) (q : SQc) (h0_ : q.ok) (h1_ : q.sm) : RO Try.prog 123 [.agg l.cells, .agg q.cells] [(false, [.rd (.bool (qcOk l q))])] := by
 refine RO.intro Try.func123 rfl 43 rfl (le_ok rfl) fun w Z => ?_
 obtain ⟨o0, o1, o2, o3, o4⟩ := h0_
 obtain ⟨s0, s1, s2⟩ := h1_
 refine T.seq ?_
 refine T.region ?_
 refine TL.c (Step.box (p := (.agg [cI l.f0, cI l.f1, cI l.f2, cI l.f3, cI l.f4])) (ps := [cI l.f0, cI l.f1, cI l.f2, cI l.f3, cI l.f4]) rfl rfl (lt_ok rfl) rfl rfl rfl rfl rfl) ?_
 refine TL.c (Step.box (p := (.agg [cI q.f0, cI q.f1, cS q.f2, cS q.f3, .d (.bss q.f4)])) (ps := [cI q.f0, cI q.f1, cS q.f2, cS q.f3, .d (.bss q.f4)]) rfl rfl (lt_ok rfl) rfl rfl rfl rfl rfl) ?_
 refine TL.as (pB false) ?_
 refine TL.nil ?_
 refine T.seq ?_
 rcases Bool.eq_false_or_eq_true (limOk l) with hb1 | hb1
 ·
  rcases Bool.eq_false_or_eq_true (decide (0 ≤ q.f0 ∧ q.f0 ≤ 1152921504606846975)) with hb2 | hb2
  ·
   rcases Bool.eq_false_or_eq_true (decide (0 ≤ q.f1 ∧ q.f1 ≤ 1152921504606846975)) with hb3 | hb3
   ·
    rcases Bool.eq_false_or_eq_true (decide ((q.f2.length : Int) = 32)) with hb4 | hb4
    ·
     rcases Bool.eq_false_or_eq_true (bitsOk q.f3 l.f0) with hb5 | hb5
     ·
      have nn6 := bitList_len q.f3
      rcases Bool.eq_false_or_eq_true (decide ((q.f4.length : Int) = ((bitList q.f3).length : Int))) with hb7 | hb7
      ·
       have nn8 := bitList_len q.f3
       refine T.draw [⟨5, (.agg [cI l.f0, cI l.f1, cI l.f2, cI l.f3, cI l.f4]), []⟩, ⟨6, (pB true), []⟩, ⟨7, (pB true), []⟩, ⟨8, (.one (.ptr 3 0)), []⟩, ⟨9, (pI q.f0), []⟩, ⟨10, (pB true), []⟩, ⟨11, (pB true), []⟩, ⟨12, (pB true), []⟩, ⟨13, (.one (.ptr 3 1)), []⟩, ⟨14, (pI q.f1), []⟩, ⟨15, (pB true), []⟩, ⟨16, (pB true), []⟩, ⟨17, (pB true), []⟩, ⟨18, (.one (.ptr 3 2)), []⟩, ⟨19, (pS q.f2), []⟩, ⟨20, (pB true), []⟩, ⟨21, (pB true), []⟩, ⟨22, (pB true), []⟩, ⟨23, (.one (.ptr 3 3)), []⟩, ⟨24, (pS q.f3), []⟩, ⟨25, (.one (.ptr 2 0)), []⟩, ⟨26, (pI l.f0), []⟩, ⟨27, (pB true), []⟩, ⟨28, (pB true), []⟩, ⟨29, (pB true), []⟩, ⟨30, (.one (.ptr 3 4)), []⟩, ⟨31, (.one (.d (.bss q.f4))), []⟩, ⟨32, (pI (q.f4.length : Int)), []⟩, ⟨33, (.one (.ptr 3 3)), []⟩, ⟨34, (pS q.f3), []⟩, ⟨35, (pI ((bitList q.f3).length : Int)), []⟩, ⟨36, (pB true), []⟩, ⟨37, (pB true), []⟩, ⟨38, (pB true), []⟩, ⟨39, (.one (.ptr 3 4)), []⟩, ⟨40, (.one (.d (.bss q.f4))), []⟩, ⟨41, (pB (hashes q.f4)), []⟩, ⟨42, (pB (hashes q.f4)), []⟩, ⟨4, (pB (hashes q.f4)), []⟩] (by kernel_rfl) (by kernel_rfl) ?_ ?_
       ·
        refine .cons (fun E A => OpStep.plain rfl (Step.load_box_agg (n := 5) (qs := [cI l.f0, cI l.f1, cI l.f2, cI l.f3, cI l.f4]) (t := 5) rfl rfl (by exact lt_ok rfl) (by kernel_rfl) (A.g 2 rfl) (by exact A.box rfl) rfl rfl)) ?_
        refine .cons (fun E A => OpStep.plain rfl (Step.tb 6 (limOk l) hb1 (Step.cd (xs := [.tmp 5]) (ps := [(.agg [cI l.f0, cI l.f1, cI l.f2, cI l.f3, cI l.f4])]) (g := .func 122) false 6 (evs_cons (A.g 5 rfl) (rfl)) (.cons (.agg (.cons (.d _) (.cons (.d _) (.cons (.d _) (.cons (.d _) (.cons (.d _) .nil)))))) .nil) (ok_spec_LimitsOk l) (At.freshRows A rfl)))) ?_
        refine .cons (fun E A => A.mv 6 7) ?_
        refine .cons (fun E A => A.y 7 (Step.fa (off := 0) (n := 1) (one := true) 0 8 (A.g 3 rfl))) ?_
        refine .cons (fun E A => A.y 7 (Step.load_box (c := cI q.f0) (t := 9) rfl rfl (by exact lt_ok rfl) (by kernel_rfl) (A.g 8 rfl) (by exact A.box rfl) rfl)) ?_
        refine .cons (fun E A => A.y 7 (Step.tb 10 (decide (0 ≤ q.f0 ∧ q.f0 ≤ 1152921504606846975)) hb2 (Step.cd (xs := [.tmp 9]) (ps := [(pI q.f0)]) (g := .func 153) false 10 (evs_cons (A.g 9 rfl) (rfl)) (.cons (.one (.d _)) .nil) (ok_spec_l01Num q.f0) (At.freshRows A rfl)))) ?_
        refine .cons (fun E A => OpStep.plain rfl (Step.pick (b := true) (p := (pB true)) (t := 11) rfl rfl (by exact lt_ok rfl) (A.g 7 rfl) (A.g 10 rfl))) ?_
        refine .cons (fun E A => A.mv 11 12) ?_
        refine .cons (fun E A => A.y 12 (Step.fa (off := 1) (n := 1) (one := true) 0 13 (A.g 3 rfl))) ?_
        refine .cons (fun E A => A.y 12 (Step.load_box (c := cI q.f1) (t := 14) rfl rfl (by exact lt_ok rfl) (by kernel_rfl) (A.g 13 rfl) (by exact A.box rfl) rfl)) ?_
        refine .cons (fun E A => A.y 12 (Step.tb 15 (decide (0 ≤ q.f1 ∧ q.f1 ≤ 1152921504606846975)) hb3 (Step.cd (xs := [.tmp 14]) (ps := [(pI q.f1)]) (g := .func 153) false 15 (evs_cons (A.g 14 rfl) (rfl)) (.cons (.one (.d _)) .nil) (ok_spec_l01Num q.f1) (At.freshRows A rfl)))) ?_
        refine .cons (fun E A => OpStep.plain rfl (Step.pick (b := true) (p := (pB true)) (t := 16) rfl rfl (by exact lt_ok rfl) (A.g 12 rfl) (A.g 15 rfl))) ?_
        refine .cons (fun E A => A.mv 16 17) ?_
        refine .cons (fun E A => A.y 17 (Step.fa (off := 2) (n := 1) (one := true) 0 18 (A.g 3 rfl))) ?_
        refine .cons (fun E A => A.y 17 (Step.load_box (c := cS q.f2) (t := 19) rfl rfl (by exact lt_ok rfl) (by kernel_rfl) (A.g 18 rfl) (by exact A.box rfl) rfl)) ?_
        refine .cons (fun E A => A.y 17 (Step.tb 20 (decide ((q.f2.length : Int) = 32)) hb4 (Step.cd (xs := [.tmp 19]) (ps := [(pS q.f2)]) (g := .func 154) false 20 (evs_cons (A.g 19 rfl) (rfl)) (.cons (.one (.d _)) .nil) (ok_spec_l07Hash q.f2) (At.freshRows A rfl)))) ?_
        refine .cons (fun E A => OpStep.plain rfl (Step.pick (b := true) (p := (pB true)) (t := 21) rfl rfl (by exact lt_ok rfl) (A.g 17 rfl) (A.g 20 rfl))) ?_
        refine .cons (fun E A => A.mv 21 22) ?_
        refine .cons (fun E A => A.y 22 (Step.fa (off := 3) (n := 1) (one := true) 0 23 (A.g 3 rfl))) ?_
        refine .cons (fun E A => A.y 22 (Step.load_box (c := cS q.f3) (t := 24) rfl rfl (by exact lt_ok rfl) (by kernel_rfl) (A.g 23 rfl) (by exact A.box rfl) rfl)) ?_
        refine .cons (fun E A => A.y 22 (Step.fa (off := 0) (n := 1) (one := true) 0 25 (A.g 2 rfl))) ?_
        refine .cons (fun E A => A.y 22 (Step.load_box (c := cI l.f0) (t := 26) rfl rfl (by exact lt_ok rfl) (by kernel_rfl) (A.g 25 rfl) (by exact A.box rfl) rfl)) ?_
        refine .cons (fun E A => A.y 22 (Step.tb 27 (bitsOk q.f3 l.f0) hb5 (Step.cd (xs := [.tmp 24, .tmp 26]) (ps := [(pS q.f3), (pI l.f0)]) (g := .func 173) false 27 (evs_cons (A.g 24 rfl) (evs_cons (A.g 26 rfl) (rfl))) (.cons (.one (.d _)) (.cons (.one (.d _)) .nil)) (ok_spec_BitsOk q.f3 l.f0 (by assumption) (by first | omega | assumption | (simp only [List.length_append] at *; omega))) (At.freshRows A rfl)))) ?_
        refine .cons (fun E A => OpStep.plain rfl (Step.pick (b := true) (p := (pB true)) (t := 28) rfl rfl (by exact lt_ok rfl) (A.g 22 rfl) (A.g 27 rfl))) ?_
        refine .cons (fun E A => A.mv 28 29) ?_
        refine .cons (fun E A => A.y 29 (Step.fa (off := 4) (n := 1) (one := true) 0 30 (A.g 3 rfl))) ?_
        refine .cons (fun E A => A.y 29 (Step.load_box (c := .d (.bss q.f4)) (t := 31) rfl rfl (by exact lt_ok rfl) (by kernel_rfl) (A.g 30 rfl) (by exact A.box rfl) rfl)) ?_
        refine .cons (fun E A => A.y 29 (Step.len (e := 24) (z := 1) (d := (.bss q.f4)) (t := 32) rfl rfl (by exact lt_ok rfl) (by kernel_rfl) (A.g 31 rfl) rfl)) ?_
        refine .cons (fun E A => A.y 29 (Step.fa (off := 3) (n := 1) (one := true) 0 33 (A.g 3 rfl))) ?_
        refine .cons (fun E A => A.y 29 (Step.load_box (c := cS q.f3) (t := 34) rfl rfl (by exact lt_ok rfl) (by kernel_rfl) (A.g 33 rfl) (by exact A.box rfl) rfl)) ?_
        refine .cons (fun E A => A.y 29 (Step.cd (xs := [.tmp 34]) (ps := [(pS q.f3)]) (g := .func 134) false 35 (evs_cons (A.g 34 rfl) (rfl)) (.cons (.one (.d _)) .nil) (ok_spec_BitsCount q.f3 (by first | assumption | exact fun x hx => by cases hx) (by first | omega | assumption | (simp only [List.length_append] at *; omega) | (simp; done))) (At.freshRows A rfl))) ?_
        refine .cons (fun E A => A.y 29 (Step.tb 36 (decide ((q.f4.length : Int) = ((bitList q.f3).length : Int))) hb7 (Step.bd 36 (A.g 32 rfl) (A.g 35 rfl) (Bin.eql (k := .i64) (a := (q.f4.length : Int)) (b := ((bitList q.f3).length : Int)))))) ?_
        refine .cons (fun E A => OpStep.plain rfl (Step.pick (b := true) (p := (pB true)) (t := 37) rfl rfl (by exact lt_ok rfl) (A.g 29 rfl) (A.g 36 rfl))) ?_
        refine .cons (fun E A => A.mv 37 38) ?_
        refine .cons (fun E A => A.y 38 (Step.fa (off := 4) (n := 1) (one := true) 0 39 (A.g 3 rfl))) ?_
        refine .cons (fun E A => A.y 38 (Step.load_box (c := .d (.bss q.f4)) (t := 40) rfl rfl (by exact lt_ok rfl) (by kernel_rfl) (A.g 39 rfl) (by exact A.box rfl) rfl)) ?_
        refine .cons (fun E A => A.y 38 (Step.cd (xs := [.tmp 40]) (ps := [(.one (.d (.bss q.f4)))]) (g := .func 159) false 41 (evs_cons (A.g 40 rfl) (rfl)) (.cons (.one (.d _)) .nil) (ok_spec_l08Hashes q.f4) (At.freshRows A rfl))) ?_
        refine .cons (fun E A => OpStep.plain rfl (Step.pick (b := true) (p := (pB (hashes q.f4))) (t := 42) rfl rfl (by exact lt_ok rfl) (A.g 38 rfl) (A.g 41 rfl))) ?_
        refine .cons (fun E A => A.as 42 4) ?_
        exact .nil _ _
       refine TL.nil ?_
       refine T.ret ?_
       refine ⟨[(false, [.d (.bool (hashes q.f4))])], (.cons rfl .nil), rfl, [], (RetC.rd' ?_ .nil)⟩ <;> (first | rfl | (congr 1; symm; simp only [qcOk, hashes, List.all_cons, List.all_nil, *, Bool.and_true, Bool.true_and, Bool.and_false, Bool.false_and, decide_true, decide_false, and_true, true_and, and_self, and_false, false_and, Bool.and_self, not_true, not_false, Bool.not_true, Bool.not_false, ge_iff_le, gt_iff_lt, if_true, if_false, Bool.false_eq_true, ite_true, ite_false, reduceIte]; done) | (congr 1; symm; simp_all [qcOk, hashes, List.all_cons, List.all_nil]; done) | (congr 1; symm; simp_all [qcOk, hashes, List.all_cons, List.all_nil]; omega))
      ·
       have nn9 := bitList_len q.f3
       refine T.draw [⟨5, (.agg [cI l.f0, cI l.f1, cI l.f2, cI l.f3, cI l.f4]), []⟩, ⟨6, (pB true), []⟩, ⟨7, (pB true), []⟩, ⟨8, (.one (.ptr 3 0)), []⟩, ⟨9, (pI q.f0), []⟩, ⟨10, (pB true), []⟩, ⟨11, (pB true), []⟩, ⟨12, (pB true), []⟩, ⟨13, (.one (.ptr 3 1)), []⟩, ⟨14, (pI q.f1), []⟩, ⟨15, (pB true), []⟩, ⟨16, (pB true), []⟩, ⟨17, (pB true), []⟩, ⟨18, (.one (.ptr 3 2)), []⟩, ⟨19, (pS q.f2), []⟩, ⟨20, (pB true), []⟩, ⟨21, (pB true), []⟩, ⟨22, (pB true), []⟩, ⟨23, (.one (.ptr 3 3)), []⟩, ⟨24, (pS q.f3), []⟩, ⟨25, (.one (.ptr 2 0)), []⟩, ⟨26, (pI l.f0), []⟩, ⟨27, (pB true), []⟩, ⟨28, (pB true), []⟩, ⟨29, (pB true), []⟩, ⟨30, (.one (.ptr 3 4)), []⟩, ⟨31, (.one (.d (.bss q.f4))), []⟩, ⟨32, (pI (q.f4.length : Int)), []⟩, ⟨33, (.one (.ptr 3 3)), []⟩, ⟨34, (pS q.f3), []⟩, ⟨35, (pI ((bitList q.f3).length : Int)), []⟩, ⟨36, (pB false), []⟩, ⟨37, (pB false), []⟩, ⟨38, (pB false), []⟩, ⟨39, (.tup []), []⟩, ⟨40, (.tup []), []⟩, ⟨41, (.tup []), []⟩, ⟨42, (pB false), []⟩, ⟨4, (pB false), []⟩] (by kernel_rfl) (by kernel_rfl) ?_ ?_
       ·
        refine .cons (fun E A => OpStep.plain rfl (Step.load_box_agg (n := 5) (qs := [cI l.f0, cI l.f1, cI l.f2, cI l.f3, cI l.f4]) (t := 5) rfl rfl (by exact lt_ok rfl) (by kernel_rfl) (A.g 2 rfl) (by exact A.box rfl) rfl rfl)) ?_
        refine .cons (fun E A => OpStep.plain rfl (Step.tb 6 (limOk l) hb1 (Step.cd (xs := [.tmp 5]) (ps := [(.agg [cI l.f0, cI l.f1, cI l.f2, cI l.f3, cI l.f4])]) (g := .func 122) false 6 (evs_cons (A.g 5 rfl) (rfl)) (.cons (.agg (.cons (.d _) (.cons (.d _) (.cons (.d _) (.cons (.d _) (.cons (.d _) .nil)))))) .nil) (ok_spec_LimitsOk l) (At.freshRows A rfl)))) ?_
        refine .cons (fun E A => A.mv 6 7) ?_
        refine .cons (fun E A => A.y 7 (Step.fa (off := 0) (n := 1) (one := true) 0 8 (A.g 3 rfl))) ?_
        refine .cons (fun E A => A.y 7 (Step.load_box (c := cI q.f0) (t := 9) rfl rfl (by exact lt_ok rfl) (by kernel_rfl) (A.g 8 rfl) (by exact A.box rfl) rfl)) ?_
        refine .cons (fun E A => A.y 7 (Step.tb 10 (decide (0 ≤ q.f0 ∧ q.f0 ≤ 1152921504606846975)) hb2 (Step.cd (xs := [.tmp 9]) (ps := [(pI q.f0)]) (g := .func 153) false 10 (evs_cons (A.g 9 rfl) (rfl)) (.cons (.one (.d _)) .nil) (ok_spec_l01Num q.f0) (At.freshRows A rfl)))) ?_
        refine .cons (fun E A => OpStep.plain rfl (Step.pick (b := true) (p := (pB true)) (t := 11) rfl rfl (by exact lt_ok rfl) (A.g 7 rfl) (A.g 10 rfl))) ?_
        refine .cons (fun E A => A.mv 11 12) ?_
        refine .cons (fun E A => A.y 12 (Step.fa (off := 1) (n := 1) (one := true) 0 13 (A.g 3 rfl))) ?_
        refine .cons (fun E A => A.y 12 (Step.load_box (c := cI q.f1) (t := 14) rfl rfl (by exact lt_ok rfl) (by kernel_rfl) (A.g 13 rfl) (by exact A.box rfl) rfl)) ?_
        refine .cons (fun E A => A.y 12 (Step.tb 15 (decide (0 ≤ q.f1 ∧ q.f1 ≤ 1152921504606846975)) hb3 (Step.cd (xs := [.tmp 14]) (ps := [(pI q.f1)]) (g := .func 153) false 15 (evs_cons (A.g 14 rfl) (rfl)) (.cons (.one (.d _)) .nil) (ok_spec_l01Num q.f1) (At.freshRows A rfl)))) ?_
        refine .cons (fun E A => OpStep.plain rfl (Step.pick (b := true) (p := (pB true)) (t := 16) rfl rfl (by exact lt_ok rfl) (A.g 12 rfl) (A.g 15 rfl))) ?_
        refine .cons (fun E A => A.mv 16 17) ?_
        refine .cons (fun E A => A.y 17 (Step.fa (off := 2) (n := 1) (one := true) 0 18 (A.g 3 rfl))) ?_
        refine .cons (fun E A => A.y 17 (Step.load_box (c := cS q.f2) (t := 19) rfl rfl (by exact lt_ok rfl) (by kernel_rfl) (A.g 18 rfl) (by exact A.box rfl) rfl)) ?_
        refine .cons (fun E A => A.y 17 (Step.tb 20 (decide ((q.f2.length : Int) = 32)) hb4 (Step.cd (xs := [.tmp 19]) (ps := [(pS q.f2)]) (g := .func 154) false 20 (evs_cons (A.g 19 rfl) (rfl)) (.cons (.one (.d _)) .nil) (ok_spec_l07Hash q.f2) (At.freshRows A rfl)))) ?_
        refine .cons (fun E A => OpStep.plain rfl (Step.pick (b := true) (p := (pB true)) (t := 21) rfl rfl (by exact lt_ok rfl) (A.g 17 rfl) (A.g 20 rfl))) ?_
        refine .cons (fun E A => A.mv 21 22) ?_
        refine .cons (fun E A => A.y 22 (Step.fa (off := 3) (n := 1) (one := true) 0 23 (A.g 3 rfl))) ?_
        refine .cons (fun E A => A.y 22 (Step.load_box (c := cS q.f3) (t := 24) rfl rfl (by exact lt_ok rfl) (by kernel_rfl) (A.g 23 rfl) (by exact A.box rfl) rfl)) ?_
        refine .cons (fun E A => A.y 22 (Step.fa (off := 0) (n := 1) (one := true) 0 25 (A.g 2 rfl))) ?_
        refine .cons (fun E A => A.y 22 (Step.load_box (c := cI l.f0) (t := 26) rfl rfl (by exact lt_ok rfl) (by kernel_rfl) (A.g 25 rfl) (by exact A.box rfl) rfl)) ?_
        refine .cons (fun E A => A.y 22 (Step.tb 27 (bitsOk q.f3 l.f0) hb5 (Step.cd (xs := [.tmp 24, .tmp 26]) (ps := [(pS q.f3), (pI l.f0)]) (g := .func 173) false 27 (evs_cons (A.g 24 rfl) (evs_cons (A.g 26 rfl) (rfl))) (.cons (.one (.d _)) (.cons (.one (.d _)) .nil)) (ok_spec_BitsOk q.f3 l.f0 (by assumption) (by first | omega | assumption | (simp only [List.length_append] at *; omega))) (At.freshRows A rfl)))) ?_
        refine .cons (fun E A => OpStep.plain rfl (Step.pick (b := true) (p := (pB true)) (t := 28) rfl rfl (by exact lt_ok rfl) (A.g 22 rfl) (A.g 27 rfl))) ?_
        refine .cons (fun E A => A.mv 28 29) ?_
        refine .cons (fun E A => A.y 29 (Step.fa (off := 4) (n := 1) (one := true) 0 30 (A.g 3 rfl))) ?_
        refine .cons (fun E A => A.y 29 (Step.load_box (c := .d (.bss q.f4)) (t := 31) rfl rfl (by exact lt_ok rfl) (by kernel_rfl) (A.g 30 rfl) (by exact A.box rfl) rfl)) ?_
        refine .cons (fun E A => A.y 29 (Step.len (e := 24) (z := 1) (d := (.bss q.f4)) (t := 32) rfl rfl (by exact lt_ok rfl) (by kernel_rfl) (A.g 31 rfl) rfl)) ?_
        refine .cons (fun E A => A.y 29 (Step.fa (off := 3) (n := 1) (one := true) 0 33 (A.g 3 rfl))) ?_
        refine .cons (fun E A => A.y 29 (Step.load_box (c := cS q.f3) (t := 34) rfl rfl (by exact lt_ok rfl) (by kernel_rfl) (A.g 33 rfl) (by exact A.box rfl) rfl)) ?_
        refine .cons (fun E A => A.y 29 (Step.cd (xs := [.tmp 34]) (ps := [(pS q.f3)]) (g := .func 134) false 35 (evs_cons (A.g 34 rfl) (rfl)) (.cons (.one (.d _)) .nil) (ok_spec_BitsCount q.f3 (by first | assumption | exact fun x hx => by cases hx) (by first | omega | assumption | (simp only [List.length_append] at *; omega) | (simp; done))) (At.freshRows A rfl))) ?_
        refine .cons (fun E A => A.y 29 (Step.tb 36 (decide ((q.f4.length : Int) = ((bitList q.f3).length : Int))) hb7 (Step.bd 36 (A.g 32 rfl) (A.g 35 rfl) (Bin.eql (k := .i64) (a := (q.f4.length : Int)) (b := ((bitList q.f3).length : Int)))))) ?_
        refine .cons (fun E A => OpStep.plain rfl (Step.pick (b := true) (p := (pB false)) (t := 37) rfl rfl (by exact lt_ok rfl) (A.g 29 rfl) (A.g 36 rfl))) ?_
        refine .cons (fun E A => A.mv 37 38) ?_
        refine .cons (fun E A => A.of 38) ?_
        refine .cons (fun E A => A.of 38) ?_
        refine .cons (fun E A => A.of 38) ?_
        refine .cons (fun E A => OpStep.plain rfl (Step.pick (b := false) (p := (pB false)) (t := 42) rfl rfl (by exact lt_ok rfl) (A.g 38 rfl) rfl)) ?_
        refine .cons (fun E A => A.as 42 4) ?_
        exact .nil _ _
       refine TL.nil ?_
       refine T.ret ?_
       refine ⟨[(false, [.d (.bool false)])], (.cons rfl .nil), rfl, [], (RetC.rd' ?_ .nil)⟩ <;> (first | rfl | (congr 1; symm; simp only [qcOk, hashes, List.all_cons, List.all_nil, *, Bool.and_true, Bool.true_and, Bool.and_false, Bool.false_and, decide_true, decide_false, and_true, true_and, and_self, and_false, false_and, Bool.and_self, not_true, not_false, Bool.not_true, Bool.not_false, ge_iff_le, gt_iff_lt, if_true, if_false, Bool.false_eq_true, ite_true, ite_false, reduceIte]; done) | (congr 1; symm; simp_all [qcOk, hashes, List.all_cons, List.all_nil]; done) | (congr 1; symm; simp_all [qcOk, hashes, List.all_cons, List.all_nil]; omega))
     ·
      refine T.draw [⟨5, (.agg [cI l.f0, cI l.f1, cI l.f2, cI l.f3, cI l.f4]), []⟩, ⟨6, (pB true), []⟩, ⟨7, (pB true), []⟩, ⟨8, (.one (.ptr 3 0)), []⟩, ⟨9, (pI q.f0), []⟩, ⟨10, (pB true), []⟩, ⟨11, (pB true), []⟩, ⟨12, (pB true), []⟩, ⟨13, (.one (.ptr 3 1)), []⟩, ⟨14, (pI q.f1), []⟩, ⟨15, (pB true), []⟩, ⟨16, (pB true), []⟩, ⟨17, (pB true), []⟩, ⟨18, (.one (.ptr 3 2)), []⟩, ⟨19, (pS q.f2), []⟩, ⟨20, (pB true), []⟩, ⟨21, (pB true), []⟩, ⟨22, (pB true), []⟩, ⟨23, (.one (.ptr 3 3)), []⟩, ⟨24, (pS q.f3), []⟩, ⟨25, (.one (.ptr 2 0)), []⟩, ⟨26, (pI l.f0), []⟩, ⟨27, (pB false), []⟩, ⟨28, (pB false), []⟩, ⟨29, (pB false), []⟩, ⟨30, (.tup []), []⟩, ⟨31, (.tup []), []⟩, ⟨32, (.tup []), []⟩, ⟨33, (.tup []), []⟩, ⟨34, (.tup []), []⟩, ⟨35, (.tup []), []⟩, ⟨36, (.tup []), []⟩, ⟨37, (pB false), []⟩, ⟨38, (pB false), []⟩, ⟨39, (.tup []), []⟩, ⟨40, (.tup []), []⟩, ⟨41, (.tup []), []⟩, ⟨42, (pB false), []⟩, ⟨4, (pB false), []⟩] (by kernel_rfl) (by kernel_rfl) ?_ ?_
      ·
       refine .cons (fun E A => OpStep.plain rfl (Step.load_box_agg (n := 5) (qs := [cI l.f0, cI l.f1, cI l.f2, cI l.f3, cI l.f4]) (t := 5) rfl rfl (by exact lt_ok rfl) (by kernel_rfl) (A.g 2 rfl) (by exact A.box rfl) rfl rfl)) ?_
       refine .cons (fun E A => OpStep.plain rfl (Step.tb 6 (limOk l) hb1 (Step.cd (xs := [.tmp 5]) (ps := [(.agg [cI l.f0, cI l.f1, cI l.f2, cI l.f3, cI l.f4])]) (g := .func 122) false 6 (evs_cons (A.g 5 rfl) (rfl)) (.cons (.agg (.cons (.d _) (.cons (.d _) (.cons (.d _) (.cons (.d _) (.cons (.d _) .nil)))))) .nil) (ok_spec_LimitsOk l) (At.freshRows A rfl)))) ?_
       refine .cons (fun E A => A.mv 6 7) ?_
       refine .cons (fun E A => A.y 7 (Step.fa (off := 0) (n := 1) (one := true) 0 8 (A.g 3 rfl))) ?_
       refine .cons (fun E A => A.y 7 (Step.load_box (c := cI q.f0) (t := 9) rfl rfl (by exact lt_ok rfl) (by kernel_rfl) (A.g 8 rfl) (by exact A.box rfl) rfl)) ?_
       refine .cons (fun E A => A.y 7 (Step.tb 10 (decide (0 ≤ q.f0 ∧ q.f0 ≤ 1152921504606846975)) hb2 (Step.cd (xs := [.tmp 9]) (ps := [(pI q.f0)]) (g := .func 153) false 10 (evs_cons (A.g 9 rfl) (rfl)) (.cons (.one (.d _)) .nil) (ok_spec_l01Num q.f0) (At.freshRows A rfl)))) ?_
       refine .cons (fun E A => OpStep.plain rfl (Step.pick (b := true) (p := (pB true)) (t := 11) rfl rfl (by exact lt_ok rfl) (A.g 7 rfl) (A.g 10 rfl))) ?_
       refine .cons (fun E A => A.mv 11 12) ?_
       refine .cons (fun E A => A.y 12 (Step.fa (off := 1) (n := 1) (one := true) 0 13 (A.g 3 rfl))) ?_
       refine .cons (fun E A => A.y 12 (Step.load_box (c := cI q.f1) (t := 14) rfl rfl (by exact lt_ok rfl) (by kernel_rfl) (A.g 13 rfl) (by exact A.box rfl) rfl)) ?_
       refine .cons (fun E A => A.y 12 (Step.tb 15 (decide (0 ≤ q.f1 ∧ q.f1 ≤ 1152921504606846975)) hb3 (Step.cd (xs := [.tmp 14]) (ps := [(pI q.f1)]) (g := .func 153) false 15 (evs_cons (A.g 14 rfl) (rfl)) (.cons (.one (.d _)) .nil) (ok_spec_l01Num q.f1) (At.freshRows A rfl)))) ?_
       refine .cons (fun E A => OpStep.plain rfl (Step.pick (b := true) (p := (pB true)) (t := 16) rfl rfl (by exact lt_ok rfl) (A.g 12 rfl) (A.g 15 rfl))) ?_
       refine .cons (fun E A => A.mv 16 17) ?_
       refine .cons (fun E A => A.y 17 (Step.fa (off := 2) (n := 1) (one := true) 0 18 (A.g 3 rfl))) ?_
       refine .cons (fun E A => A.y 17 (Step.load_box (c := cS q.f2) (t := 19) rfl rfl (by exact lt_ok rfl) (by kernel_rfl) (A.g 18 rfl) (by exact A.box rfl) rfl)) ?_
       refine .cons (fun E A => A.y 17 (Step.tb 20 (decide ((q.f2.length : Int) = 32)) hb4 (Step.cd (xs := [.tmp 19]) (ps := [(pS q.f2)]) (g := .func 154) false 20 (evs_cons (A.g 19 rfl) (rfl)) (.cons (.one (.d _)) .nil) (ok_spec_l07Hash q.f2) (At.freshRows A rfl)))) ?_
       refine .cons (fun E A => OpStep.plain rfl (Step.pick (b := true) (p := (pB true)) (t := 21) rfl rfl (by exact lt_ok rfl) (A.g 17 rfl) (A.g 20 rfl))) ?_
       refine .cons (fun E A => A.mv 21 22) ?_
       refine .cons (fun E A => A.y 22 (Step.fa (off := 3) (n := 1) (one := true) 0 23 (A.g 3 rfl))) ?_
       refine .cons (fun E A => A.y 22 (Step.load_box (c := cS q.f3) (t := 24) rfl rfl (by exact lt_ok rfl) (by kernel_rfl) (A.g 23 rfl) (by exact A.box rfl) rfl)) ?_
       refine .cons (fun E A => A.y 22 (Step.fa (off := 0) (n := 1) (one := true) 0 25 (A.g 2 rfl))) ?_
       refine .cons (fun E A => A.y 22 (Step.load_box (c := cI l.f0) (t := 26) rfl rfl (by exact lt_ok rfl) (by kernel_rfl) (A.g 25 rfl) (by exact A.box rfl) rfl)) ?_
       refine .cons (fun E A => A.y 22 (Step.tb 27 (bitsOk q.f3 l.f0) hb5 (Step.cd (xs := [.tmp 24, .tmp 26]) (ps := [(pS q.f3), (pI l.f0)]) (g := .func 173) false 27 (evs_cons (A.g 24 rfl) (evs_cons (A.g 26 rfl) (rfl))) (.cons (.one (.d _)) (.cons (.one (.d _)) .nil)) (ok_spec_BitsOk q.f3 l.f0 (by assumption) (by first | omega | assumption | (simp only [List.length_append] at *; omega))) (At.freshRows A rfl)))) ?_
       refine .cons (fun E A => OpStep.plain rfl (Step.pick (b := true) (p := (pB false)) (t := 28) rfl rfl (by exact lt_ok rfl) (A.g 22 rfl) (A.g 27 rfl))) ?_
       refine .cons (fun E A => A.mv 28 29) ?_
       refine .cons (fun E A => A.of 29) ?_
       refine .cons (fun E A => A.of 29) ?_
       refine .cons (fun E A => A.of 29) ?_
       refine .cons (fun E A => A.of 29) ?_
       refine .cons (fun E A => A.of 29) ?_
       refine .cons (fun E A => A.of 29) ?_
       refine .cons (fun E A => A.of 29) ?_
       refine .cons (fun E A => OpStep.plain rfl (Step.pick (b := false) (p := (pB false)) (t := 37) rfl rfl (by exact lt_ok rfl) (A.g 29 rfl) rfl)) ?_
       refine .cons (fun E A => A.mv 37 38) ?_
       refine .cons (fun E A => A.of 38) ?_
       refine .cons (fun E A => A.of 38) ?_
       refine .cons (fun E A => A.of 38) ?_
       refine .cons (fun E A => OpStep.plain rfl (Step.pick (b := false) (p := (pB false)) (t := 42) rfl rfl (by exact lt_ok rfl) (A.g 38 rfl) rfl)) ?_
       refine .cons (fun E A => A.as 42 4) ?_
       exact .nil _ _
      refine TL.nil ?_
      refine T.ret ?_
      refine ⟨[(false, [.d (.bool false)])], (.cons rfl .nil), rfl, [], (RetC.rd' ?_ .nil)⟩ <;> (first | rfl | (congr 1; symm; simp only [qcOk, hashes, List.all_cons, List.all_nil, *, Bool.and_true, Bool.true_and, Bool.and_false, Bool.false_and, decide_true, decide_false, and_true, true_and, and_self, and_false, false_and, Bool.and_self, not_true, not_false, Bool.not_true, Bool.not_false, ge_iff_le, gt_iff_lt, if_true, if_false, Bool.false_eq_true, ite_true, ite_false, reduceIte]; done) | (congr 1; symm; simp_all [qcOk, hashes, List.all_cons, List.all_nil]; done) | (congr 1; symm; simp_all [qcOk, hashes, List.all_cons, List.all_nil]; omega))
    ·
     refine T.draw [⟨5, (.agg [cI l.f0, cI l.f1, cI l.f2, cI l.f3, cI l.f4]), []⟩, ⟨6, (pB true), []⟩, ⟨7, (pB true), []⟩, ⟨8, (.one (.ptr 3 0)), []⟩, ⟨9, (pI q.f0), []⟩, ⟨10, (pB true), []⟩, ⟨11, (pB true), []⟩, ⟨12, (pB true), []⟩, ⟨13, (.one (.ptr 3 1)), []⟩, ⟨14, (pI q.f1), []⟩, ⟨15, (pB true), []⟩, ⟨16, (pB true), []⟩, ⟨17, (pB true), []⟩, ⟨18, (.one (.ptr 3 2)), []⟩, ⟨19, (pS q.f2), []⟩, ⟨20, (pB false), []⟩, ⟨21, (pB false), []⟩, ⟨22, (pB false), []⟩, ⟨23, (.tup []), []⟩, ⟨24, (.tup []), []⟩, ⟨25, (.tup []), []⟩, ⟨26, (.tup []), []⟩, ⟨27, (.tup []), []⟩, ⟨28, (pB false), []⟩, ⟨29, (pB false), []⟩, ⟨30, (.tup []), []⟩, ⟨31, (.tup []), []⟩, ⟨32, (.tup []), []⟩, ⟨33, (.tup []), []⟩, ⟨34, (.tup []), []⟩, ⟨35, (.tup []), []⟩, ⟨36, (.tup []), []⟩, ⟨37, (pB false), []⟩, ⟨38, (pB false), []⟩, ⟨39, (.tup []), []⟩, ⟨40, (.tup []), []⟩, ⟨41, (.tup []), []⟩, ⟨42, (pB false), []⟩, ⟨4, (pB false), []⟩] (by kernel_rfl) (by kernel_rfl) ?_ ?_
     ·
      refine .cons (fun E A => OpStep.plain rfl (Step.load_box_agg (n := 5) (qs := [cI l.f0, cI l.f1, cI l.f2, cI l.f3, cI l.f4]) (t := 5) rfl rfl (by exact lt_ok rfl) (by kernel_rfl) (A.g 2 rfl) (by exact A.box rfl) rfl rfl)) ?_
      refine .cons (fun E A => OpStep.plain rfl (Step.tb 6 (limOk l) hb1 (Step.cd (xs := [.tmp 5]) (ps := [(.agg [cI l.f0, cI l.f1, cI l.f2, cI l.f3, cI l.f4])]) (g := .func 122) false 6 (evs_cons (A.g 5 rfl) (rfl)) (.cons (.agg (.cons (.d _) (.cons (.d _) (.cons (.d _) (.cons (.d _) (.cons (.d _) .nil)))))) .nil) (ok_spec_LimitsOk l) (At.freshRows A rfl)))) ?_
      refine .cons (fun E A => A.mv 6 7) ?_
      refine .cons (fun E A => A.y 7 (Step.fa (off := 0) (n := 1) (one := true) 0 8 (A.g 3 rfl))) ?_
      refine .cons (fun E A => A.y 7 (Step.load_box (c := cI q.f0) (t := 9) rfl rfl (by exact lt_ok rfl) (by kernel_rfl) (A.g 8 rfl) (by exact A.box rfl) rfl)) ?_
      refine .cons (fun E A => A.y 7 (Step.tb 10 (decide (0 ≤ q.f0 ∧ q.f0 ≤ 1152921504606846975)) hb2 (Step.cd (xs := [.tmp 9]) (ps := [(pI q.f0)]) (g := .func 153) false 10 (evs_cons (A.g 9 rfl) (rfl)) (.cons (.one (.d _)) .nil) (ok_spec_l01Num q.f0) (At.freshRows A rfl)))) ?_
      refine .cons (fun E A => OpStep.plain rfl (Step.pick (b := true) (p := (pB true)) (t := 11) rfl rfl (by exact lt_ok rfl) (A.g 7 rfl) (A.g 10 rfl))) ?_
      refine .cons (fun E A => A.mv 11 12) ?_
      refine .cons (fun E A => A.y 12 (Step.fa (off := 1) (n := 1) (one := true) 0 13 (A.g 3 rfl))) ?_
      refine .cons (fun E A => A.y 12 (Step.load_box (c := cI q.f1) (t := 14) rfl rfl (by exact lt_ok rfl) (by kernel_rfl) (A.g 13 rfl) (by exact A.box rfl) rfl)) ?_
      refine .cons (fun E A => A.y 12 (Step.tb 15 (decide (0 ≤ q.f1 ∧ q.f1 ≤ 1152921504606846975)) hb3 (Step.cd (xs := [.tmp 14]) (ps := [(pI q.f1)]) (g := .func 153) false 15 (evs_cons (A.g 14 rfl) (rfl)) (.cons (.one (.d _)) .nil) (ok_spec_l01Num q.f1) (At.freshRows A rfl)))) ?_
      refine .cons (fun E A => OpStep.plain rfl (Step.pick (b := true) (p := (pB true)) (t := 16) rfl rfl (by exact lt_ok rfl) (A.g 12 rfl) (A.g 15 rfl))) ?_
      refine .cons (fun E A => A.mv 16 17) ?_
      refine .cons (fun E A => A.y 17 (Step.fa (off := 2) (n := 1) (one := true) 0 18 (A.g 3 rfl))) ?_
      refine .cons (fun E A => A.y 17 (Step.load_box (c := cS q.f2) (t := 19) rfl rfl (by exact lt_ok rfl) (by kernel_rfl) (A.g 18 rfl) (by exact A.box rfl) rfl)) ?_
      refine .cons (fun E A => A.y 17 (Step.tb 20 (decide ((q.f2.length : Int) = 32)) hb4 (Step.cd (xs := [.tmp 19]) (ps := [(pS q.f2)]) (g := .func 154) false 20 (evs_cons (A.g 19 rfl) (rfl)) (.cons (.one (.d _)) .nil) (ok_spec_l07Hash q.f2) (At.freshRows A rfl)))) ?_
      refine .cons (fun E A => OpStep.plain rfl (Step.pick (b := true) (p := (pB false)) (t := 21) rfl rfl (by exact lt_ok rfl) (A.g 17 rfl) (A.g 20 rfl))) ?_
      refine .cons (fun E A => A.mv 21 22) ?_
      refine .cons (fun E A => A.of 22) ?_
      refine .cons (fun E A => A.of 22) ?_
      refine .cons (fun E A => A.of 22) ?_
      refine .cons (fun E A => A.of 22) ?_
      refine .cons (fun E A => A.of 22) ?_
      refine .cons (fun E A => OpStep.plain rfl (Step.pick (b := false) (p := (pB false)) (t := 28) rfl rfl (by exact lt_ok rfl) (A.g 22 rfl) rfl)) ?_
      refine .cons (fun E A => A.mv 28 29) ?_
      refine .cons (fun E A => A.of 29) ?_
      refine .cons (fun E A => A.of 29) ?_
      refine .cons (fun E A => A.of 29) ?_
      refine .cons (fun E A => A.of 29) ?_
      refine .cons (fun E A => A.of 29) ?_
      refine .cons (fun E A => A.of 29) ?_
      refine .cons (fun E A => A.of 29) ?_
      refine .cons (fun E A => OpStep.plain rfl (Step.pick (b := false) (p := (pB false)) (t := 37) rfl rfl (by exact lt_ok rfl) (A.g 29 rfl) rfl)) ?_
      refine .cons (fun E A => A.mv 37 38) ?_
      refine .cons (fun E A => A.of 38) ?_
      refine .cons (fun E A => A.of 38) ?_
      refine .cons (fun E A => A.of 38) ?_
      refine .cons (fun E A => OpStep.plain rfl (Step.pick (b := false) (p := (pB false)) (t := 42) rfl rfl (by exact lt_ok rfl) (A.g 38 rfl) rfl)) ?_
      refine .cons (fun E A => A.as 42 4) ?_
      exact .nil _ _
     refine TL.nil ?_
     refine T.ret ?_
     refine ⟨[(false, [.d (.bool false)])], (.cons rfl .nil), rfl, [], (RetC.rd' ?_ .nil)⟩ <;> (first | rfl | (congr 1; symm; simp only [qcOk, hashes, List.all_cons, List.all_nil, *, Bool.and_true, Bool.true_and, Bool.and_false, Bool.false_and, decide_true, decide_false, and_true, true_and, and_self, and_false, false_and, Bool.and_self, not_true, not_false, Bool.not_true, Bool.not_false, ge_iff_le, gt_iff_lt, if_true, if_false, Bool.false_eq_true, ite_true, ite_false, reduceIte]; done) | (congr 1; symm; simp_all [qcOk, hashes, List.all_cons, List.all_nil]; done) | (congr 1; symm; simp_all [qcOk, hashes, List.all_cons, List.all_nil]; omega))
   ·
    refine T.draw [⟨5, (.agg [cI l.f0, cI l.f1, cI l.f2, cI l.f3, cI l.f4]), []⟩, ⟨6, (pB true), []⟩, ⟨7, (pB true), []⟩, ⟨8, (.one (.ptr 3 0)), []⟩, ⟨9, (pI q.f0), []⟩, ⟨10, (pB true), []⟩, ⟨11, (pB true), []⟩, ⟨12, (pB true), []⟩, ⟨13, (.one (.ptr 3 1)), []⟩, ⟨14, (pI q.f1), []⟩, ⟨15, (pB false), []⟩, ⟨16, (pB false), []⟩, ⟨17, (pB false), []⟩, ⟨18, (.tup []), []⟩, ⟨19, (.tup []), []⟩, ⟨20, (.tup []), []⟩, ⟨21, (pB false), []⟩, ⟨22, (pB false), []⟩, ⟨23, (.tup []), []⟩, ⟨24, (.tup []), []⟩, ⟨25, (.tup []), []⟩, ⟨26, (.tup []), []⟩, ⟨27, (.tup []), []⟩, ⟨28, (pB false), []⟩, ⟨29, (pB false), []⟩, ⟨30, (.tup []), []⟩, ⟨31, (.tup []), []⟩, ⟨32, (.tup []), []⟩, ⟨33, (.tup []), []⟩, ⟨34, (.tup []), []⟩, ⟨35, (.tup []), []⟩, ⟨36, (.tup []), []⟩, ⟨37, (pB false), []⟩, ⟨38, (pB false), []⟩, ⟨39, (.tup []), []⟩, ⟨40, (.tup []), []⟩, ⟨41, (.tup []), []⟩, ⟨42, (pB false), []⟩, ⟨4, (pB false), []⟩] (by kernel_rfl) (by kernel_rfl) ?_ ?_
    ·
     refine .cons (fun E A => OpStep.plain rfl (Step.load_box_agg (n := 5) (qs := [cI l.f0, cI l.f1, cI l.f2, cI l.f3, cI l.f4]) (t := 5) rfl rfl (by exact lt_ok rfl) (by kernel_rfl) (A.g 2 rfl) (by exact A.box rfl) rfl rfl)) ?_
     refine .cons (fun E A => OpStep.plain rfl (Step.tb 6 (limOk l) hb1 (Step.cd (xs := [.tmp 5]) (ps := [(.agg [cI l.f0, cI l.f1, cI l.f2, cI l.f3, cI l.f4])]) (g := .func 122) false 6 (evs_cons (A.g 5 rfl) (rfl)) (.cons (.agg (.cons (.d _) (.cons (.d _) (.cons (.d _) (.cons (.d _) (.cons (.d _) .nil)))))) .nil) (ok_spec_LimitsOk l) (At.freshRows A rfl)))) ?_
     refine .cons (fun E A => A.mv 6 7) ?_
     refine .cons (fun E A => A.y 7 (Step.fa (off := 0) (n := 1) (one := true) 0 8 (A.g 3 rfl))) ?_
     refine .cons (fun E A => A.y 7 (Step.load_box (c := cI q.f0) (t := 9) rfl rfl (by exact lt_ok rfl) (by kernel_rfl) (A.g 8 rfl) (by exact A.box rfl) rfl)) ?_
     refine .cons (fun E A => A.y 7 (Step.tb 10 (decide (0 ≤ q.f0 ∧ q.f0 ≤ 1152921504606846975)) hb2 (Step.cd (xs := [.tmp 9]) (ps := [(pI q.f0)]) (g := .func 153) false 10 (evs_cons (A.g 9 rfl) (rfl)) (.cons (.one (.d _)) .nil) (ok_spec_l01Num q.f0) (At.freshRows A rfl)))) ?_
     refine .cons (fun E A => OpStep.plain rfl (Step.pick (b := true) (p := (pB true)) (t := 11) rfl rfl (by exact lt_ok rfl) (A.g 7 rfl) (A.g 10 rfl))) ?_
     refine .cons (fun E A => A.mv 11 12) ?_
     refine .cons (fun E A => A.y 12 (Step.fa (off := 1) (n := 1) (one := true) 0 13 (A.g 3 rfl))) ?_
     refine .cons (fun E A => A.y 12 (Step.load_box (c := cI q.f1) (t := 14) rfl rfl (by exact lt_ok rfl) (by kernel_rfl) (A.g 13 rfl) (by exact A.box rfl) rfl)) ?_
     refine .cons (fun E A => A.y 12 (Step.tb 15 (decide (0 ≤ q.f1 ∧ q.f1 ≤ 1152921504606846975)) hb3 (Step.cd (xs := [.tmp 14]) (ps := [(pI q.f1)]) (g := .func 153) false 15 (evs_cons (A.g 14 rfl) (rfl)) (.cons (.one (.d _)) .nil) (ok_spec_l01Num q.f1) (At.freshRows A rfl)))) ?_
     refine .cons (fun E A => OpStep.plain rfl (Step.pick (b := true) (p := (pB false)) (t := 16) rfl rfl (by exact lt_ok rfl) (A.g 12 rfl) (A.g 15 rfl))) ?_
     refine .cons (fun E A => A.mv 16 17) ?_
     refine .cons (fun E A => A.of 17) ?_
     refine .cons (fun E A => A.of 17) ?_
     refine .cons (fun E A => A.of 17) ?_
     refine .cons (fun E A => OpStep.plain rfl (Step.pick (b := false) (p := (pB false)) (t := 21) rfl rfl (by exact lt_ok rfl) (A.g 17 rfl) rfl)) ?_
     refine .cons (fun E A => A.mv 21 22) ?_
     refine .cons (fun E A => A.of 22) ?_
     refine .cons (fun E A => A.of 22) ?_
     refine .cons (fun E A => A.of 22) ?_
     refine .cons (fun E A => A.of 22) ?_
     refine .cons (fun E A => A.of 22) ?_
     refine .cons (fun E A => OpStep.plain rfl (Step.pick (b := false) (p := (pB false)) (t := 28) rfl rfl (by exact lt_ok rfl) (A.g 22 rfl) rfl)) ?_
     refine .cons (fun E A => A.mv 28 29) ?_
     refine .cons (fun E A => A.of 29) ?_
     refine .cons (fun E A => A.of 29) ?_
     refine .cons (fun E A => A.of 29) ?_
     refine .cons (fun E A => A.of 29) ?_
     refine .cons (fun E A => A.of 29) ?_
     refine .cons (fun E A => A.of 29) ?_
     refine .cons (fun E A => A.of 29) ?_
     refine .cons (fun E A => OpStep.plain rfl (Step.pick (b := false) (p := (pB false)) (t := 37) rfl rfl (by exact lt_ok rfl) (A.g 29 rfl) rfl)) ?_
     refine .cons (fun E A => A.mv 37 38) ?_
     refine .cons (fun E A => A.of 38) ?_
     refine .cons (fun E A => A.of 38) ?_
     refine .cons (fun E A => A.of 38) ?_
     refine .cons (fun E A => OpStep.plain rfl (Step.pick (b := false) (p := (pB false)) (t := 42) rfl rfl (by exact lt_ok rfl) (A.g 38 rfl) rfl)) ?_
     refine .cons (fun E A => A.as 42 4) ?_
     exact .nil _ _
    refine TL.nil ?_
    refine T.ret ?_
    refine ⟨[(false, [.d (.bool false)])], (.cons rfl .nil), rfl, [], (RetC.rd' ?_ .nil)⟩ <;> (first | rfl | (congr 1; symm; simp only [qcOk, hashes, List.all_cons, List.all_nil, *, Bool.and_true, Bool.true_and, Bool.and_false, Bool.false_and, decide_true, decide_false, and_true, true_and, and_self, and_false, false_and, Bool.and_self, not_true, not_false, Bool.not_true, Bool.not_false, ge_iff_le, gt_iff_lt, if_true, if_false, Bool.false_eq_true, ite_true, ite_false, reduceIte]; done) | (congr 1; symm; simp_all [qcOk, hashes, List.all_cons, List.all_nil]; done) | (congr 1; symm; simp_all [qcOk, hashes, List.all_cons, List.all_nil]; omega))
  ·
   refine T.draw [⟨5, (.agg [cI l.f0, cI l.f1, cI l.f2, cI l.f3, cI l.f4]), []⟩, ⟨6, (pB true), []⟩, ⟨7, (pB true), []⟩, ⟨8, (.one (.ptr 3 0)), []⟩, ⟨9, (pI q.f0), []⟩, ⟨10, (pB false), []⟩, ⟨11, (pB false), []⟩, ⟨12, (pB false), []⟩, ⟨13, (.tup []), []⟩, ⟨14, (.tup []), []⟩, ⟨15, (.tup []), []⟩, ⟨16, (pB false), []⟩, ⟨17, (pB false), []⟩, ⟨18, (.tup []), []⟩, ⟨19, (.tup []), []⟩, ⟨20, (.tup []), []⟩, ⟨21, (pB false), []⟩, ⟨22, (pB false), []⟩, ⟨23, (.tup []), []⟩, ⟨24, (.tup []), []⟩, ⟨25, (.tup []), []⟩, ⟨26, (.tup []), []⟩, ⟨27, (.tup []), []⟩, ⟨28, (pB false), []⟩, ⟨29, (pB false), []⟩, ⟨30, (.tup []), []⟩, ⟨31, (.tup []), []⟩, ⟨32, (.tup []), []⟩, ⟨33, (.tup []), []⟩, ⟨34, (.tup []), []⟩, ⟨35, (.tup []), []⟩, ⟨36, (.tup []), []⟩, ⟨37, (pB false), []⟩, ⟨38, (pB false), []⟩, ⟨39, (.tup []), []⟩, ⟨40, (.tup []), []⟩, ⟨41, (.tup []), []⟩, ⟨42, (pB false), []⟩, ⟨4, (pB false), []⟩] (by kernel_rfl) (by kernel_rfl) ?_ ?_
   ·
    refine .cons (fun E A => OpStep.plain rfl (Step.load_box_agg (n := 5) (qs := [cI l.f0, cI l.f1, cI l.f2, cI l.f3, cI l.f4]) (t := 5) rfl rfl (by exact lt_ok rfl) (by kernel_rfl) (A.g 2 rfl) (by exact A.box rfl) rfl rfl)) ?_
    refine .cons (fun E A => OpStep.plain rfl (Step.tb 6 (limOk l) hb1 (Step.cd (xs := [.tmp 5]) (ps := [(.agg [cI l.f0, cI l.f1, cI l.f2, cI l.f3, cI l.f4])]) (g := .func 122) false 6 (evs_cons (A.g 5 rfl) (rfl)) (.cons (.agg (.cons (.d _) (.cons (.d _) (.cons (.d _) (.cons (.d _) (.cons (.d _) .nil)))))) .nil) (ok_spec_LimitsOk l) (At.freshRows A rfl)))) ?_
    refine .cons (fun E A => A.mv 6 7) ?_
    refine .cons (fun E A => A.y 7 (Step.fa (off := 0) (n := 1) (one := true) 0 8 (A.g 3 rfl))) ?_
    refine .cons (fun E A => A.y 7 (Step.load_box (c := cI q.f0) (t := 9) rfl rfl (by exact lt_ok rfl) (by kernel_rfl) (A.g 8 rfl) (by exact A.box rfl) rfl)) ?_
    refine .cons (fun E A => A.y 7 (Step.tb 10 (decide (0 ≤ q.f0 ∧ q.f0 ≤ 1152921504606846975)) hb2 (Step.cd (xs := [.tmp 9]) (ps := [(pI q.f0)]) (g := .func 153) false 10 (evs_cons (A.g 9 rfl) (rfl)) (.cons (.one (.d _)) .nil) (ok_spec_l01Num q.f0) (At.freshRows A rfl)))) ?_
    refine .cons (fun E A => OpStep.plain rfl (Step.pick (b := true) (p := (pB false)) (t := 11) rfl rfl (by exact lt_ok rfl) (A.g 7 rfl) (A.g 10 rfl))) ?_
    refine .cons (fun E A => A.mv 11 12) ?_
    refine .cons (fun E A => A.of 12) ?_
    refine .cons (fun E A => A.of 12) ?_
    refine .cons (fun E A => A.of 12) ?_
    refine .cons (fun E A => OpStep.plain rfl (Step.pick (b := false) (p := (pB false)) (t := 16) rfl rfl (by exact lt_ok rfl) (A.g 12 rfl) rfl)) ?_
    refine .cons (fun E A => A.mv 16 17) ?_
    refine .cons (fun E A => A.of 17) ?_
    refine .cons (fun E A => A.of 17) ?_
    refine .cons (fun E A => A.of 17) ?_
    refine .cons (fun E A => OpStep.plain rfl (Step.pick (b := false) (p := (pB false)) (t := 21) rfl rfl (by exact lt_ok rfl) (A.g 17 rfl) rfl)) ?_
    refine .cons (fun E A => A.mv 21 22) ?_
    refine .cons (fun E A => A.of 22) ?_
    refine .cons (fun E A => A.of 22) ?_
    refine .cons (fun E A => A.of 22) ?_
    refine .cons (fun E A => A.of 22) ?_
    refine .cons (fun E A => A.of 22) ?_
    refine .cons (fun E A => OpStep.plain rfl (Step.pick (b := false) (p := (pB false)) (t := 28) rfl rfl (by exact lt_ok rfl) (A.g 22 rfl) rfl)) ?_
    refine .cons (fun E A => A.mv 28 29) ?_
    refine .cons (fun E A => A.of 29) ?_
    refine .cons (fun E A => A.of 29) ?_
    refine .cons (fun E A => A.of 29) ?_
    refine .cons (fun E A => A.of 29) ?_
    refine .cons (fun E A => A.of 29) ?_
    refine .cons (fun E A => A.of 29) ?_
    refine .cons (fun E A => A.of 29) ?_
    refine .cons (fun E A => OpStep.plain rfl (Step.pick (b := false) (p := (pB false)) (t := 37) rfl rfl (by exact lt_ok rfl) (A.g 29 rfl) rfl)) ?_
    refine .cons (fun E A => A.mv 37 38) ?_
    refine .cons (fun E A => A.of 38) ?_
    refine .cons (fun E A => A.of 38) ?_
    refine .cons (fun E A => A.of 38) ?_
    refine .cons (fun E A => OpStep.plain rfl (Step.pick (b := false) (p := (pB false)) (t := 42) rfl rfl (by exact lt_ok rfl) (A.g 38 rfl) rfl)) ?_
    refine .cons (fun E A => A.as 42 4) ?_
    exact .nil _ _
   refine TL.nil ?_
   refine T.ret ?_
   refine ⟨[(false, [.d (.bool false)])], (.cons rfl .nil), rfl, [], (RetC.rd' ?_ .nil)⟩ <;> (first | rfl | (congr 1; symm; simp only [qcOk, hashes, List.all_cons, List.all_nil, *, Bool.and_true, Bool.true_and, Bool.and_false, Bool.false_and, decide_true, decide_false, and_true, true_and, and_self, and_false, false_and, Bool.and_self, not_true, not_false, Bool.not_true, Bool.not_false, ge_iff_le, gt_iff_lt, if_true, if_false, Bool.false_eq_true, ite_true, ite_false, reduceIte]; done) | (congr 1; symm; simp_all [qcOk, hashes, List.all_cons, List.all_nil]; done) | (congr 1; symm; simp_all [qcOk, hashes, List.all_cons, List.all_nil]; omega))
 ·
  refine T.draw [⟨5, (.agg [cI l.f0, cI l.f1, cI l.f2, cI l.f3, cI l.f4]), []⟩, ⟨6, (pB false), []⟩, ⟨7, (pB false), []⟩, ⟨8, (.tup []), []⟩, ⟨9, (.tup []), []⟩, ⟨10, (.tup []), []⟩, ⟨11, (pB false), []⟩, ⟨12, (pB false), []⟩, ⟨13, (.tup []), []⟩, ⟨14, (.tup []), []⟩, ⟨15, (.tup []), []⟩, ⟨16, (pB false), []⟩, ⟨17, (pB false), []⟩, ⟨18, (.tup []), []⟩, ⟨19, (.tup []), []⟩, ⟨20, (.tup []), []⟩, ⟨21, (pB false), []⟩, ⟨22, (pB false), []⟩, ⟨23, (.tup []), []⟩, ⟨24, (.tup []), []⟩, ⟨25, (.tup []), []⟩, ⟨26, (.tup []), []⟩, ⟨27, (.tup []), []⟩, ⟨28, (pB false), []⟩, ⟨29, (pB false), []⟩, ⟨30, (.tup []), []⟩, ⟨31, (.tup []), []⟩, ⟨32, (.tup []), []⟩, ⟨33, (.tup []), []⟩, ⟨34, (.tup []), []⟩, ⟨35, (.tup []), []⟩, ⟨36, (.tup []), []⟩, ⟨37, (pB false), []⟩, ⟨38, (pB false), []⟩, ⟨39, (.tup []), []⟩, ⟨40, (.tup []), []⟩, ⟨41, (.tup []), []⟩, ⟨42, (pB false), []⟩, ⟨4, (pB false), []⟩] (by kernel_rfl) (by kernel_rfl) ?_ ?_
  ·
   refine .cons (fun E A => OpStep.plain rfl (Step.load_box_agg (n := 5) (qs := [cI l.f0, cI l.f1, cI l.f2, cI l.f3, cI l.f4]) (t := 5) rfl rfl (by exact lt_ok rfl) (by kernel_rfl) (A.g 2 rfl) (by exact A.box rfl) rfl rfl)) ?_
   refine .cons (fun E A => OpStep.plain rfl (Step.tb 6 (limOk l) hb1 (Step.cd (xs := [.tmp 5]) (ps := [(.agg [cI l.f0, cI l.f1, cI l.f2, cI l.f3, cI l.f4])]) (g := .func 122) false 6 (evs_cons (A.g 5 rfl) (rfl)) (.cons (.agg (.cons (.d _) (.cons (.d _) (.cons (.d _) (.cons (.d _) (.cons (.d _) .nil)))))) .nil) (ok_spec_LimitsOk l) (At.freshRows A rfl)))) ?_
   refine .cons (fun E A => A.mv 6 7) ?_
   refine .cons (fun E A => A.of 7) ?_
   refine .cons (fun E A => A.of 7) ?_
   refine .cons (fun E A => A.of 7) ?_
   refine .cons (fun E A => OpStep.plain rfl (Step.pick (b := false) (p := (pB false)) (t := 11) rfl rfl (by exact lt_ok rfl) (A.g 7 rfl) rfl)) ?_
   refine .cons (fun E A => A.mv 11 12) ?_
   refine .cons (fun E A => A.of 12) ?_
   refine .cons (fun E A => A.of 12) ?_
   refine .cons (fun E A => A.of 12) ?_
   refine .cons (fun E A => OpStep.plain rfl (Step.pick (b := false) (p := (pB false)) (t := 16) rfl rfl (by exact lt_ok rfl) (A.g 12 rfl) rfl)) ?_
   refine .cons (fun E A => A.mv 16 17) ?_
   refine .cons (fun E A => A.of 17) ?_
   refine .cons (fun E A => A.of 17) ?_
   refine .cons (fun E A => A.of 17) ?_
   refine .cons (fun E A => OpStep.plain rfl (Step.pick (b := false) (p := (pB false)) (t := 21) rfl rfl (by exact lt_ok rfl) (A.g 17 rfl) rfl)) ?_
   refine .cons (fun E A => A.mv 21 22) ?_
   refine .cons (fun E A => A.of 22) ?_
   refine .cons (fun E A => A.of 22) ?_
   refine .cons (fun E A => A.of 22) ?_
   refine .cons (fun E A => A.of 22) ?_
   refine .cons (fun E A => A.of 22) ?_
   refine .cons (fun E A => OpStep.plain rfl (Step.pick (b := false) (p := (pB false)) (t := 28) rfl rfl (by exact lt_ok rfl) (A.g 22 rfl) rfl)) ?_
   refine .cons (fun E A => A.mv 28 29) ?_
   refine .cons (fun E A => A.of 29) ?_
   refine .cons (fun E A => A.of 29) ?_
   refine .cons (fun E A => A.of 29) ?_
   refine .cons (fun E A => A.of 29) ?_
   refine .cons (fun E A => A.of 29) ?_
   refine .cons (fun E A => A.of 29) ?_
   refine .cons (fun E A => A.of 29) ?_
   refine .cons (fun E A => OpStep.plain rfl (Step.pick (b := false) (p := (pB false)) (t := 37) rfl rfl (by exact lt_ok rfl) (A.g 29 rfl) rfl)) ?_
   refine .cons (fun E A => A.mv 37 38) ?_
   refine .cons (fun E A => A.of 38) ?_
   refine .cons (fun E A => A.of 38) ?_
   refine .cons (fun E A => A.of 38) ?_
   refine .cons (fun E A => OpStep.plain rfl (Step.pick (b := false) (p := (pB false)) (t := 42) rfl rfl (by exact lt_ok rfl) (A.g 38 rfl) rfl)) ?_
   refine .cons (fun E A => A.as 42 4) ?_
   exact .nil _ _
  refine TL.nil ?_
  refine T.ret ?_
  refine ⟨[(false, [.d (.bool false)])], (.cons rfl .nil), rfl, [], (RetC.rd' ?_ .nil)⟩ <;> (first | rfl | (congr 1; symm; simp only [qcOk, hashes, List.all_cons, List.all_nil, *, Bool.and_true, Bool.true_and, Bool.and_false, Bool.false_and, decide_true, decide_false, and_true, true_and, and_self, and_false, false_and, Bool.and_self, not_true, not_false, Bool.not_true, Bool.not_false, ge_iff_le, gt_iff_lt, if_true, if_false, Bool.false_eq_true, ite_true, ite_false, reduceIte]; done) | (congr 1; symm; simp_all [qcOk, hashes, List.all_cons, List.all_nil]; done) | (congr 1; symm; simp_all [qcOk, hashes, List.all_cons, List.all_nil]; omega))
theorem ok_spec_PutQc (l : SLimits) (b : List Int) (q : SQc) (h0_ : b.length ≤ 8796093022208) (h1_ : q.ok) (h2_ : q.sm) : RO Try.prog 72 [.agg l.cells, .one (.ints .u8 b), .agg q.cells] [(false, [.own 5 (.ints .u8 (putQc l b q))]), (false, [.rd (.bool (qcOk l q))])] := by
 refine RO.intro Try.func72 rfl 41 rfl (le_ok rfl) fun w Z => ?_
 refine T.bnd 1 0 rfl rfl fun hb_1_0 => ?_
 simp only [D.size, List.length_map] at hb_1_0
 refine T.bnd 2 2 rfl rfl fun hb_2_2 => ?_
 simp only [D.size, List.length_map] at hb_2_2
 refine T.bnd 2 3 rfl rfl fun hb_2_3 => ?_
 simp only [D.size, List.length_map] at hb_2_3
 refine T.bnd 2 4 rfl rfl fun hb_2_4 => ?_
 simp only [D.size, List.length_map] at hb_2_4
 have hsm_ := h2_
 obtain ⟨s0, s1, s2⟩ := h2_
 refine T.seq ?_
 refine T.region ?_
 refine TL.c (Step.box (p := (.agg [cI l.f0, cI l.f1, cI l.f2, cI l.f3, cI l.f4])) (ps := [cI l.f0, cI l.f1, cI l.f2, cI l.f3, cI l.f4]) rfl rfl (lt_ok rfl) rfl rfl rfl rfl rfl) ?_
 refine TL.c (Step.box (p := (.agg [cI q.f0, cI q.f1, cS q.f2, cS q.f3, .d (.bss q.f4)])) (ps := [cI q.f0, cI q.f1, cS q.f2, cS q.f3, .d (.bss q.f4)]) rfl rfl (lt_ok rfl) rfl rfl rfl rfl rfl) ?_
 refine TL.as (.one (.nil)) ?_
 refine TL.as (pB false) ?_
 refine TL.nil ?_
 refine T.seq ?_
 refine T.seq ?_
 refine T.region ?_
 refine TL.c (Step.load_box_agg (n := 5) (qs := [cI l.f0, cI l.f1, cI l.f2, cI l.f3, cI l.f4]) rfl rfl (lt_ok rfl) (by kernel_rfl) rfl rfl rfl rfl) ?_
 refine TL.c (Step.load_box_agg (n := 5) (qs := [cI q.f0, cI q.f1, cS q.f2, cS q.f3, .d (.bss q.f4)]) rfl rfl (lt_ok rfl) (by kernel_rfl) rfl rfl rfl rfl) ?_
 refine TL.c (Step.cl (xs := [.tmp 11, .tmp 12]) (ps := [(.agg [cI l.f0, cI l.f1, cI l.f2, cI l.f3, cI l.f4]), (.agg [cI q.f0, cI q.f1, cS q.f2, cS q.f3, .d (.bss q.f4)])]) (g := .func 123) false (.cons (.agg (.cons (.d _) (.cons (.d _) (.cons (.d _) (.cons (.d _) (.cons (.d _) .nil)))))) (.cons (.agg (.cons (.d _) (.cons (.d _) (.cons (.d _) (.cons (.d _) (.cons (.d _) .nil)))))) .nil)) (ok_spec_QcOk l q (by first | assumption | exact qcOf_ok (l := l) h0_) (by first | assumption | exact qcOf_sm (l := l) h1_ h2_))) ?_
 refine TL.c (Step.not (b := (qcOk l q)) rfl rfl (lt_ok rfl) rfl) ?_
 refine TL.nil ?_
 refine T.cond (b := !(qcOk l q)) rfl (fun h1 => ?_) (fun h1 => ?_)
 ·
  replace h1 : (qcOk l q) = false := by simpa only [Bool.not_eq_true', Bool.not_eq_false'] using h1
  refine T.seq ?_
  refine T.region ?_
  refine TL.as (.one (.nil)) ?_
  refine TL.as (pB false) ?_
  refine TL.nil ?_
  refine T.ret ?_
  refine ⟨[(false, [.nil]), (false, [.d (.bool false)])], (.cons rfl (.cons rfl .nil)), rfl, [], (RetC.nilown' rfl ?_ (by first | exact trivial | exact D.wf_nil _) (RetC.rd' ?_ .nil))⟩ <;> (first | rfl | (congr 1; unfold putQc putQcB rawsB; rw [if_pos (by assumption), foldl_all _ _ _ i (by omega)]) | (show (putQc l b q).length = 0; unfold putQc; rw [if_neg (by simp [*])]; rfl) | (congr 1; symm; assumption))
 ·
  replace h1 : (qcOk l q) = true := by simpa only [Bool.not_eq_true', Bool.not_eq_false'] using h1
  refine T.skip ?_
  refine T.seq ?_
  have nn2 := putVar_len b q.f0
  have nn3 := putVar_len (putVar b q.f0) q.f1
  refine T.draw [⟨15, (pS b), []⟩, ⟨16, (.one (.ptr 5 0)), []⟩, ⟨17, (pI q.f0), []⟩, ⟨18, (.one (.row 1018 [])), [(1018, (5, (.ints .u8 (putVar b q.f0))))]⟩, ⟨19, (.one (.ptr 5 1)), []⟩, ⟨20, (pI q.f1), []⟩, ⟨21, (.one (.row 1021 [])), [(1021, (5, (.ints .u8 (putVar (putVar b q.f0) q.f1))))]⟩, ⟨22, (.one (.ptr 5 2)), []⟩, ⟨23, (pS q.f2), []⟩] (by kernel_rfl) (by kernel_rfl) ?_ ?_
  ·
   refine .cons (fun E A => A.mv 1 15) ?_
   refine .cons (fun E A => OpStep.plain rfl (Step.fa (off := 0) (n := 1) (one := true) 0 16 (A.g 5 rfl))) ?_
   refine .cons (fun E A => OpStep.plain rfl (Step.load_box (c := cI q.f0) (t := 17) rfl rfl (by exact lt_ok rfl) (by kernel_rfl) (A.g 16 rfl) (by exact A.box rfl) rfl)) ?_
   refine .cons (fun E A => OpStep.plain rfl (Step.cd (xs := [.tmp 15, .tmp 17]) (ps := [(pS b), (pI q.f0)]) (g := .func 70) false 18 (evs_cons (A.g 15 rfl) (evs_cons (A.g 17 rfl) (rfl))) (.cons (.one (.d _)) (.cons (.one (.d _)) .nil)) (ok_spec_l11Num b q.f0 (by first | omega | assumption | (simp only [List.length_append] at *; omega))) (At.freshRows A rfl))) ?_
   refine .cons (fun E A => OpStep.plain rfl (Step.fa (off := 1) (n := 1) (one := true) 0 19 (A.g 5 rfl))) ?_
   refine .cons (fun E A => OpStep.plain rfl (Step.load_box (c := cI q.f1) (t := 20) rfl rfl (by exact lt_ok rfl) (by kernel_rfl) (A.g 19 rfl) (by exact A.box rfl) rfl)) ?_
   refine .cons (fun E A => OpStep.plain rfl (Step.cd (xs := [.tmp 18, .tmp 20]) (ps := [(.one (.row 1018 [])), (pI q.f1)]) (g := .func 70) false 21 (evs_cons (A.g 18 rfl) (evs_cons (A.g 20 rfl) (rfl))) (.cons (.one (.row rfl (by exact (A.row 1018 (by kernel_rfl)).trans rfl) rfl rfl)) (.cons (.one (.d _)) .nil)) (ok_spec_l11Num (putVar b q.f0) q.f1 (by first | omega | assumption | (simp only [List.length_append] at *; omega))) (At.freshRows A rfl))) ?_
   refine .cons (fun E A => OpStep.plain rfl (Step.fa (off := 2) (n := 1) (one := true) 0 22 (A.g 5 rfl))) ?_
   refine .cons (fun E A => OpStep.plain rfl (Step.load_box (c := cS q.f2) (t := 23) rfl rfl (by exact lt_ok rfl) (by kernel_rfl) (A.g 22 rfl) (by exact A.box rfl) rfl)) ?_
   exact .nil _ _
  refine TL.c (Step.append (e := 5) (z := 1) (by_ := 1) (d := (.ints .u8 (putVar (putVar b q.f0) q.f1))) (dy := (.ints .u8 q.f2)) (d' := (.ints .u8 ((putVar (putVar b q.f0) q.f1) ++ q.f2))) (ss := []) rfl rfl (lt_ok rfl) (by kernel_rfl) rfl rfl rfl (lt_ok rfl) rfl (.froz rfl (by simp [D.flat, D.val])) (by simp) rfl (by simp only [D.size, List.length_map]; first | omega | (simp only [List.length_append, List.length_cons, List.length_nil]; omega) | (simp; omega) | (simp only [List.length_append] at *; omega)) (by simp only [D.size, List.length_map]; first | omega | (simp only [List.length_append, List.length_cons, List.length_nil]; omega) | (simp; omega) | (simp only [List.length_append] at *; omega)) (by simp)) ?_
  refine TL.as (.one (.row 1021 [])) ?_
  refine TL.nil ?_
  refine T.seq ?_
  refine T.region ?_
  refine TL.mv (.one (.row 1021 [])) ?_
  refine TL.c (Step.fieldAddr (q := 0) (off := 3) (n := 1) (one := true) rfl rfl (lt_ok rfl) (by kernel_rfl) (Nat.succ_ne_zero _) rfl) ?_
  refine TL.c (Step.load_box (c := cS q.f3) rfl rfl (lt_ok rfl) (by kernel_rfl) rfl rfl rfl) ?_
  refine TL.c (Step.append (e := 5) (z := 1) (by_ := 1) (d := (.ints .u8 ((putVar (putVar b q.f0) q.f1) ++ q.f2))) (dy := (.ints .u8 q.f3)) (d' := (.ints .u8 (((putVar (putVar b q.f0) q.f1) ++ q.f2) ++ q.f3))) (ss := []) rfl rfl (lt_ok rfl) (by kernel_rfl) rfl rfl rfl (lt_ok rfl) rfl (.froz rfl (by simp [D.flat, D.val])) (by simp) rfl (by simp only [D.size, List.length_map]; first | omega | (simp only [List.length_append, List.length_cons, List.length_nil]; omega) | (simp; omega) | (simp only [List.length_append] at *; omega)) (by simp only [D.size, List.length_map]; first | omega | (simp only [List.length_append, List.length_cons, List.length_nil]; omega) | (simp; omega) | (simp only [List.length_append] at *; omega)) (by simp)) ?_
  refine TL.as (.one (.row 1021 [])) ?_
  refine TL.nil ?_
  refine T.seq ?_
  refine T.seq ?_
  refine T.region ?_
  refine TL.c (Step.fieldAddr (q := 0) (off := 4) (n := 1) (one := true) rfl rfl (lt_ok rfl) (by kernel_rfl) (Nat.succ_ne_zero _) rfl) ?_
  refine TL.c (Step.load_box (c := .d (.bss q.f4)) rfl rfl (lt_ok rfl) (by kernel_rfl) rfl rfl rfl) ?_
  refine TL.c (Step.len (e := 24) (z := 1) (d := (.bss q.f4)) rfl rfl (lt_ok rfl) (by kernel_rfl) rfl rfl) ?_
  refine TL.mv (pI 0) ?_
  refine TL.nil ?_
  refine T.block ?_
  refine T.loop (ι := Nat) (fun xx_ => { tm := [(6, (.one (.nil))), (7, (pB false)), (30, (.one (.d (.bss q.f4)))), (31, (pI (q.f4.length : Int))), (32, (pI (xx_ : Int))), (8, (.one (.row 1021 [])))], rows := [(1018, (5, (.ints .u8 (putVar b q.f0)))), (1021, (5, (.ints .u8 ((q.f4.take xx_).foldl (fun b x => b ++ x) (putVar (putVar b q.f0) q.f1 ++ q.f2 ++ q.f3)))))], boxes := [(3, (34, [cI l.f0, cI l.f1, cI l.f2, cI l.f3, cI l.f4])), (5, (38, [cI q.f0, cI q.f1, cS q.f2, cS q.f3, .d (.bss q.f4)]))] }) (fun xx_ => xx_ ≤ q.f4.length) (fun xx_ => q.f4.length - xx_) 0 ?_ ?_ ?_
  · refine Env.le_mk ⟨rfl, rfl, rfl, rfl, ?_, rfl, trivial⟩ ⟨rfl, ?_, trivial⟩ ⟨rfl, rfl, trivial⟩ <;> (first | (refine congrArg (fun x => some (_, D.ints .u8 x)) ?_; first | (rw [foldl_take_succ _ _ _ i [] (by omega)]; done) | rfl) | rfl | (refine congrArg (fun n => PV.one (.d (.int .i64 n))) ?_; first | omega | (simp; done)))
  · exact Nat.zero_le _
  ·
   intro i hx
   try dsimp only at hx ⊢
   have hw_ := raws_len (b := putVar (putVar b q.f0) q.f1 ++ q.f2 ++ q.f3) s2.1 s2.2 i
   have hy_ := mem_len s2.2 i
   simp only [List.length_append] at hw_
   refine T.seq ?_
   refine T.region ?_
   refine TL.c (Step.bin rfl rfl (lt_ok rfl) rfl rfl (Bin.lss (k := .i64) (a := (i : Int)) (b := (q.f4.length : Int)))) ?_
   refine TL.nil ?_
   refine T.seq ?_
   refine T.cond (b := decide ((i : Int) < (q.f4.length : Int))) rfl (fun h4 => ?_) (fun h4 => ?_)
   ·
    replace h4 := of_decide_eq_true h4
    refine T.skip ?_
    refine T.seq ?_
    refine T.block ?_
    refine T.seq ?_
    refine T.region ?_
    refine TL.c (Step.index (e := 24) (z := 1) (i := (i : Int)) rfl rfl (lt_ok rfl) (by kernel_rfl) rfl rfl rfl (lt_ok rfl) rfl (by first | omega | (simp only [List.length_append] at *; omega) | (simp; omega)) (by simp only [D.size]; first | omega | (simp only [List.length_append] at *; omega) | (simp; omega))) ?_
    refine TL.c (Step.load (e := (.ints .u8 (q.f4.getD i []))) rfl rfl (lt_ok rfl) (by kernel_rfl) rfl rfl) ?_
    refine TL.as (pS (q.f4.getD i [])) ?_
    refine TL.nil ?_
    refine T.region ?_
    refine TL.mv (.one (.row 1021 [])) ?_
    refine TL.mv (pS (q.f4.getD i [])) ?_
    refine TL.c (Step.append (e := 5) (z := 1) (by_ := 1) (d := (.ints .u8 ((q.f4.take i).foldl (fun b x => b ++ x) (putVar (putVar b q.f0) q.f1 ++ q.f2 ++ q.f3)))) (dy := (.ints .u8 (q.f4.getD i []))) (d' := (.ints .u8 (((q.f4.take i).foldl (fun b x => b ++ x) (putVar (putVar b q.f0) q.f1 ++ q.f2 ++ q.f3)) ++ (q.f4.getD i [])))) (ss := []) rfl rfl (lt_ok rfl) (by kernel_rfl) rfl rfl rfl (lt_ok rfl) rfl (.froz rfl (by simp [D.flat, D.val])) (by simp) rfl (by simp only [D.size, List.length_map]; first | omega | (simp only [List.length_append, List.length_cons, List.length_nil]; omega) | (simp; omega) | (simp only [List.length_append] at *; omega)) (by simp only [D.size, List.length_map]; first | omega | (simp only [List.length_append, List.length_cons, List.length_nil]; omega) | (simp; omega) | (simp only [List.length_append] at *; omega)) (by simp)) ?_
    refine TL.as (.one (.row 1021 [])) ?_
    refine TL.nil ?_
    refine T.region ?_
    refine TL.c (Step.bin (r := .int .i64 ((i : Int) + 1)) rfl rfl (lt_ok rfl) rfl rfl (Bin.add (a := (i : Int)) (b := 1) (by first | exact wrap_ok (by first | omega | (simp only [List.length_append] at *; omega) | (simp; omega)) (by first | omega | (simp only [List.length_append] at *; omega) | (simp; omega)) | rfl))) ?_
    refine TL.mv (pI ((i : Int) + 1)) ?_
    refine TL.nil ?_
    refine ⟨i + 1, by omega, by first | omega | (dsimp only; omega), Env.le_mk ⟨rfl, rfl, rfl, rfl, ?_, rfl, trivial⟩ ⟨rfl, ?_, trivial⟩ ⟨rfl, rfl, trivial⟩⟩ <;> (first | (refine congrArg (fun x => some (_, D.ints .u8 x)) ?_; first | (rw [foldl_take_succ _ _ _ i [] (by omega)]; done) | rfl) | rfl | (refine congrArg (fun n => PV.one (.d (.int .i64 n))) ?_; first | omega | (simp; done)))
   ·
    replace h4 := of_decide_eq_false h4
    refine T.exit ?_
    refine T.seq ?_
    refine T.region ?_
    refine TL.mv (.one (.row 1021 [])) ?_
    refine TL.as (.one (.row 1021 [])) ?_
    refine TL.as (pB true) ?_
    refine TL.nil ?_
    refine T.ret ?_
    refine ⟨[(false, [.row 1021 []]), (false, [.d (.bool true)])], (.cons rfl (.cons rfl .nil)), rfl, [1021], (RetC.own' rfl ?_ rfl (RetC.rd' ?_ .nil))⟩ <;> (first | rfl | (congr 1; unfold putQc putQcB rawsB; rw [if_pos (by assumption), foldl_all _ _ _ i (by omega)]) | (show (putQc l b q).length = 0; unfold putQc; rw [if_neg (by simp [*])]; rfl) | (congr 1; symm; assumption))
theorem ok_spec_SameBytes (a : List Int) (b : List Int) (h0_ : U8s a) (h1_ : U8s b) : RO Try.prog 105 [.one (.ints .u8 a), .one (.ints .u8 b)] [(false, [.rd (.bool (decide (a = b)))])] := by
 refine RO.intro Try.func105 rfl 10 rfl (le_ok rfl) fun w Z => ?_
 refine T.bnd 0 0 rfl rfl fun hb_0_0 => ?_
 simp only [D.size, List.length_map] at hb_0_0
 refine T.bnd 1 0 rfl rfl fun hb_1_0 => ?_
 simp only [D.size, List.length_map] at hb_1_0
 refine T.seq ?_
 refine T.region ?_
 refine TL.as (pB false) ?_
 refine TL.nil ?_
 refine T.seq ?_
 refine T.region ?_
 refine TL.mv (pS a) ?_
 refine TL.c (Step.toStr (e := 5) (xs := a) rfl rfl (lt_ok rfl) (by kernel_rfl) (by kernel_rfl) (by kernel_rfl) rfl rfl) ?_
 refine TL.mv (pS b) ?_
 refine TL.c (Step.toStr (e := 5) (xs := b) rfl rfl (lt_ok rfl) (by kernel_rfl) (by kernel_rfl) (by kernel_rfl) rfl rfl) ?_
 refine TL.c (Step.bin rfl rfl (lt_ok rfl) rfl rfl Bin.streq) ?_
 refine TL.as (pB ((strOfNums a).toList == (strOfNums b).toList)) ?_
 refine TL.nil ?_
 refine T.ret ?_
 refine ⟨[(false, [.d (.bool ((strOfNums a).toList == (strOfNums b).toList))])], (.cons rfl .nil), rfl, [], (RetC.rd' ?_ .nil)⟩ <;> (exact congrArg D.bool (str_eq h0_ h1_))
theorem ok_spec_l13Fits (h : SHead) (h0_ : h.ok) : RO Try.prog 141 [.agg h.cells] [(false, [.rd (.bool (headFits h))])] := by
 refine RO.intro Try.func141 rfl 26 rfl (le_ok rfl) fun w Z => ?_
 obtain ⟨o0, o1, o2, o3, o4, o5, o6, o7, o8, o9⟩ := h0_
 refine T.seq ?_
 refine T.region ?_
 refine TL.c (Step.box (p := (.agg [cI h.f0, cI h.f1, cI h.f2, cS h.f3, cS h.f4, cI h.f5.f0, cI h.f5.f1, cS h.f5.f2, cS h.f5.f3, .d (.bss h.f5.f4)])) (ps := [cI h.f0, cI h.f1, cI h.f2, cS h.f3, cS h.f4, cI h.f5.f0, cI h.f5.f1, cS h.f5.f2, cS h.f5.f3, .d (.bss h.f5.f4)]) rfl rfl (lt_ok rfl) rfl rfl rfl rfl rfl) ?_
 refine TL.as (pB false) ?_
 refine TL.nil ?_
 refine T.seq ?_
 refine T.region ?_
 refine TL.c (Step.fieldAddr (q := 0) (off := 5) (n := 5) (one := false) rfl rfl (lt_ok rfl) (by kernel_rfl) (Nat.succ_ne_zero _) rfl) ?_
 refine TL.c (Step.fieldAddr (q := 5) (off := 0) (n := 1) (one := true) rfl rfl (lt_ok rfl) (by kernel_rfl) (Nat.succ_ne_zero _) rfl) ?_
 refine TL.c (Step.load_box (c := cI h.f5.f0) rfl rfl (lt_ok rfl) (by kernel_rfl) rfl rfl rfl) ?_
 refine TL.c (Step.fieldAddr (q := 0) (off := 0) (n := 1) (one := true) rfl rfl (lt_ok rfl) (by kernel_rfl) (Nat.succ_ne_zero _) rfl) ?_
 refine TL.c (Step.load_box (c := cI h.f0) rfl rfl (lt_ok rfl) (by kernel_rfl) rfl rfl rfl) ?_
 refine TL.c (Step.bin rfl rfl (lt_ok rfl) rfl rfl (Bin.lss (k := .i64) (a := h.f5.f0) (b := h.f0))) ?_
 refine TL.mv (pB (decide (h.f5.f0 < h.f0))) ?_
 rcases Bool.eq_false_or_eq_true (decide (h.f5.f0 < h.f0)) with hb1 | hb1
 ·
  refine TL.known 9 hb1 rfl ?_
  refine TL.gy 9 (Step.fieldAddr (q := 0) (off := 5) (n := 5) (one := false) rfl rfl (lt_ok rfl) (by kernel_rfl) (Nat.succ_ne_zero _) rfl) ?_
  refine TL.gy 9 (Step.fieldAddr (q := 5) (off := 1) (n := 1) (one := true) rfl rfl (lt_ok rfl) (by kernel_rfl) (Nat.succ_ne_zero _) rfl) ?_
  refine TL.gy 9 (Step.load_box (c := cI h.f5.f1) rfl rfl (lt_ok rfl) (by kernel_rfl) rfl rfl rfl) ?_
  refine TL.gy 9 (Step.fieldAddr (q := 0) (off := 1) (n := 1) (one := true) rfl rfl (lt_ok rfl) (by kernel_rfl) (Nat.succ_ne_zero _) rfl) ?_
  refine TL.gy 9 (Step.load_box (c := cI h.f1) rfl rfl (lt_ok rfl) (by kernel_rfl) rfl rfl rfl) ?_
  refine TL.gy 9 (Step.bin (r := .int .i64 (IntKind.i64.wrap (h.f1 - 1))) rfl rfl (lt_ok rfl) rfl rfl (Bin.sub (a := h.f1) (b := 1) (rfl))) ?_
  refine TL.gy 9 (Step.bin rfl rfl (lt_ok rfl) rfl rfl (Bin.eql (k := .i64) (a := h.f5.f1) (b := (IntKind.i64.wrap (h.f1 - 1))))) ?_
  refine TL.pk true (pB (decide (h.f5.f1 = (IntKind.i64.wrap (h.f1 - 1))))) ?_
  refine TL.mv (pB (decide (h.f5.f1 = (IntKind.i64.wrap (h.f1 - 1))))) ?_
  rcases Bool.eq_false_or_eq_true (decide (h.f5.f1 = (IntKind.i64.wrap (h.f1 - 1)))) with hb2 | hb2
  ·
   refine TL.known 18 hb2 rfl ?_
   refine TL.gy 18 (Step.fieldAddr (q := 0) (off := 5) (n := 5) (one := false) rfl rfl (lt_ok rfl) (by kernel_rfl) (Nat.succ_ne_zero _) rfl) ?_
   refine TL.gy 18 (Step.fieldAddr (q := 5) (off := 2) (n := 1) (one := true) rfl rfl (lt_ok rfl) (by kernel_rfl) (Nat.succ_ne_zero _) rfl) ?_
   refine TL.gy 18 (Step.load_box (c := cS h.f5.f2) rfl rfl (lt_ok rfl) (by kernel_rfl) rfl rfl rfl) ?_
   refine TL.gy 18 (Step.fieldAddr (q := 0) (off := 3) (n := 1) (one := true) rfl rfl (lt_ok rfl) (by kernel_rfl) (Nat.succ_ne_zero _) rfl) ?_
   refine TL.gy 18 (Step.load_box (c := cS h.f3) rfl rfl (lt_ok rfl) (by kernel_rfl) rfl rfl rfl) ?_
   refine TL.gy 18 (Step.cl (xs := [.tmp 21, .tmp 23]) (ps := [(pS h.f5.f2), (pS h.f3)]) (g := .func 105) false (.cons (.one (.d _)) (.cons (.one (.d _)) .nil)) (ok_spec_SameBytes h.f5.f2 h.f3 (by first | assumption | omega) (by first | assumption | omega))) ?_
   refine TL.pk true (pB (decide (h.f5.f2 = h.f3))) ?_
   refine TL.as (pB (decide (h.f5.f2 = h.f3))) ?_
   refine TL.nil ?_
   refine T.ret ?_
   refine ⟨[(false, [.d (.bool (decide (h.f5.f2 = h.f3)))])], (.cons rfl .nil), rfl, [], (RetC.rd' ?_ .nil)⟩ <;> (first | rfl | (congr 1; symm; simp only [headFits, *, Bool.and_true, Bool.true_and, Bool.and_false, Bool.false_and, decide_true, decide_false, and_true, true_and, and_self, and_false, false_and, Bool.and_self, not_true, not_false, Bool.not_true, Bool.not_false, ge_iff_le, gt_iff_lt, if_true, if_false, Bool.false_eq_true, ite_true, ite_false, reduceIte]; done) | (congr 1; symm; simp_all [headFits]; done) | (congr 1; symm; simp_all [headFits]; omega))
  ·
   refine TL.known 18 hb2 rfl ?_
   refine TL.gf 18 ?_
   refine TL.gf 18 ?_
   refine TL.gf 18 ?_
   refine TL.gf 18 ?_
   refine TL.gf 18 ?_
   refine TL.gf 18 ?_
   refine TL.pk false (pB false) ?_
   refine TL.as (pB false) ?_
   refine TL.nil ?_
   refine T.ret ?_
   refine ⟨[(false, [.d (.bool false)])], (.cons rfl .nil), rfl, [], (RetC.rd' ?_ .nil)⟩ <;> (first | rfl | (congr 1; symm; simp only [headFits, *, Bool.and_true, Bool.true_and, Bool.and_false, Bool.false_and, decide_true, decide_false, and_true, true_and, and_self, and_false, false_and, Bool.and_self, not_true, not_false, Bool.not_true, Bool.not_false, ge_iff_le, gt_iff_lt, if_true, if_false, Bool.false_eq_true, ite_true, ite_false, reduceIte]; done) | (congr 1; symm; simp_all [headFits]; done) | (congr 1; symm; simp_all [headFits]; omega))
 ·
  refine TL.known 9 hb1 rfl ?_
  refine TL.gf 9 ?_
  refine TL.gf 9 ?_
  refine TL.gf 9 ?_
  refine TL.gf 9 ?_
  refine TL.gf 9 ?_
  refine TL.gf 9 ?_
  refine TL.gf 9 ?_
  refine TL.pk false (pB false) ?_
  refine TL.mv (pB false) ?_
  refine TL.gf 18 ?_
  refine TL.gf 18 ?_
  refine TL.gf 18 ?_
  refine TL.gf 18 ?_
  refine TL.gf 18 ?_
  refine TL.gf 18 ?_
  refine TL.pk false (pB false) ?_
  refine TL.as (pB false) ?_
  refine TL.nil ?_
  refine T.ret ?_
  refine ⟨[(false, [.d (.bool false)])], (.cons rfl .nil), rfl, [], (RetC.rd' ?_ .nil)⟩ <;> (first | rfl | (congr 1; symm; simp only [headFits, *, Bool.and_true, Bool.true_and, Bool.and_false, Bool.false_and, decide_true, decide_false, and_true, true_and, and_self, and_false, false_and, Bool.and_self, not_true, not_false, Bool.not_true, Bool.not_false, ge_iff_le, gt_iff_lt, if_true, if_false, Bool.false_eq_true, ite_true, ite_false, reduceIte]; done) | (congr 1; symm; simp_all [headFits]; done) | (congr 1; symm; simp_all [headFits]; omega))
theorem ok_spec_HeadOk (l : SLimits) (h : SHead) (h0_ : h.ok) (h1_ : h.sm) : RO Try.prog 104 [.agg l.cells, .agg h.cells] [(false, [.rd (.bool (headOk l h))])] := by
 refine RO.intro Try.func104 rfl 45 rfl (le_ok rfl) fun w Z => ?_
 have hok_ := h0_
 have hsm_ := h1_
 obtain ⟨o0, o1, o2, o3, o4, o5⟩ := h0_
 obtain ⟨s0, s1, s2⟩ := h1_
 refine T.seq ?_
 refine T.region ?_
 refine TL.c (Step.box (p := (.agg [cI l.f0, cI l.f1, cI l.f2, cI l.f3, cI l.f4])) (ps := [cI l.f0, cI l.f1, cI l.f2, cI l.f3, cI l.f4]) rfl rfl (lt_ok rfl) rfl rfl rfl rfl rfl) ?_
 refine TL.c (Step.box (p := (.agg [cI h.f0, cI h.f1, cI h.f2, cS h.f3, cS h.f4, cI h.f5.f0, cI h.f5.f1, cS h.f5.f2, cS h.f5.f3, .d (.bss h.f5.f4)])) (ps := [cI h.f0, cI h.f1, cI h.f2, cS h.f3, cS h.f4, cI h.f5.f0, cI h.f5.f1, cS h.f5.f2, cS h.f5.f3, .d (.bss h.f5.f4)]) rfl rfl (lt_ok rfl) rfl rfl rfl rfl rfl) ?_
 refine TL.as (pB false) ?_
 refine TL.nil ?_
 refine T.seq ?_
 refine T.region ?_
 refine TL.c (Step.load_box_agg (n := 5) (qs := [cI l.f0, cI l.f1, cI l.f2, cI l.f3, cI l.f4]) rfl rfl (lt_ok rfl) (by kernel_rfl) rfl rfl rfl rfl) ?_
 refine TL.c (Step.cl (xs := [.tmp 5]) (ps := [(.agg [cI l.f0, cI l.f1, cI l.f2, cI l.f3, cI l.f4])]) (g := .func 122) false (.cons (.agg (.cons (.d _) (.cons (.d _) (.cons (.d _) (.cons (.d _) (.cons (.d _) .nil)))))) .nil) (ok_spec_LimitsOk l)) ?_
 refine TL.mv (pB (limOk l)) ?_
 rcases Bool.eq_false_or_eq_true (limOk l) with hb1 | hb1
 ·
  refine TL.known 7 hb1 rfl ?_
  refine TL.gy 7 (Step.fieldAddr (q := 0) (off := 0) (n := 1) (one := true) rfl rfl (lt_ok rfl) (by kernel_rfl) (Nat.succ_ne_zero _) rfl) ?_
  refine TL.gy 7 (Step.load_box (c := cI h.f0) rfl rfl (lt_ok rfl) (by kernel_rfl) rfl rfl rfl) ?_
  refine TL.gy 7 (Step.cl (xs := [.tmp 9]) (ps := [(pI h.f0)]) (g := .func 153) false (.cons (.one (.d _)) .nil) (ok_spec_l01Num h.f0)) ?_
  refine TL.pk true (pB (decide (0 ≤ h.f0 ∧ h.f0 ≤ 1152921504606846975))) ?_
  refine TL.mv (pB (decide (0 ≤ h.f0 ∧ h.f0 ≤ 1152921504606846975))) ?_
  rcases Bool.eq_false_or_eq_true (decide (0 ≤ h.f0 ∧ h.f0 ≤ 1152921504606846975)) with hb2 | hb2
  ·
   refine TL.known 12 hb2 rfl ?_
   refine TL.gy 12 (Step.fieldAddr (q := 0) (off := 1) (n := 1) (one := true) rfl rfl (lt_ok rfl) (by kernel_rfl) (Nat.succ_ne_zero _) rfl) ?_
   refine TL.gy 12 (Step.load_box (c := cI h.f1) rfl rfl (lt_ok rfl) (by kernel_rfl) rfl rfl rfl) ?_
   refine TL.gy 12 (Step.cl (xs := [.tmp 14, .const (.int .i64 1), .const (.int .i64 1152921504606846975)]) (ps := [(pI h.f1), (pI 1), (pI 1152921504606846975)]) (g := .func 114) false (.cons (.one (.d _)) (.cons (.one (.d _)) (.cons (.one (.d _)) .nil))) (ok_spec_l01In h.f1 1 1152921504606846975)) ?_
   refine TL.pk true (pB (decide (1 ≤ h.f1 ∧ h.f1 ≤ 1152921504606846975))) ?_
   refine TL.mv (pB (decide (1 ≤ h.f1 ∧ h.f1 ≤ 1152921504606846975))) ?_
   rcases Bool.eq_false_or_eq_true (decide (1 ≤ h.f1 ∧ h.f1 ≤ 1152921504606846975)) with hb3 | hb3
   ·
    refine TL.known 17 hb3 rfl ?_
    refine TL.gy 17 (Step.fieldAddr (q := 0) (off := 2) (n := 1) (one := true) rfl rfl (lt_ok rfl) (by kernel_rfl) (Nat.succ_ne_zero _) rfl) ?_
    refine TL.gy 17 (Step.load_box (c := cI h.f2) rfl rfl (lt_ok rfl) (by kernel_rfl) rfl rfl rfl) ?_
    refine TL.gy 17 (Step.fieldAddr (q := 0) (off := 0) (n := 1) (one := true) rfl rfl (lt_ok rfl) (by kernel_rfl) (Nat.succ_ne_zero _) rfl) ?_
    refine TL.gy 17 (Step.load_box (c := cI l.f0) rfl rfl (lt_ok rfl) (by kernel_rfl) rfl rfl rfl) ?_
    refine TL.gy 17 (Step.bin (r := .int .i64 (IntKind.i64.wrap (l.f0 - 1))) rfl rfl (lt_ok rfl) rfl rfl (Bin.sub (a := l.f0) (b := 1) (rfl))) ?_
    refine TL.gy 17 (Step.cl (xs := [.tmp 19, .const (.int .i64 0), .tmp 22]) (ps := [(pI h.f2), (pI 0), (pI (IntKind.i64.wrap (l.f0 - 1)))]) (g := .func 114) false (.cons (.one (.d _)) (.cons (.one (.d _)) (.cons (.one (.d _)) .nil))) (ok_spec_l01In h.f2 0 (IntKind.i64.wrap (l.f0 - 1)))) ?_
    refine TL.pk true (pB (decide (0 ≤ h.f2 ∧ h.f2 ≤ (IntKind.i64.wrap (l.f0 - 1))))) ?_
    refine TL.mv (pB (decide (0 ≤ h.f2 ∧ h.f2 ≤ (IntKind.i64.wrap (l.f0 - 1))))) ?_
    rcases Bool.eq_false_or_eq_true (decide (0 ≤ h.f2 ∧ h.f2 ≤ (IntKind.i64.wrap (l.f0 - 1)))) with hb4 | hb4
    ·
     refine TL.known 25 hb4 rfl ?_
     refine TL.gy 25 (Step.fieldAddr (q := 0) (off := 3) (n := 1) (one := true) rfl rfl (lt_ok rfl) (by kernel_rfl) (Nat.succ_ne_zero _) rfl) ?_
     refine TL.gy 25 (Step.load_box (c := cS h.f3) rfl rfl (lt_ok rfl) (by kernel_rfl) rfl rfl rfl) ?_
     refine TL.gy 25 (Step.cl (xs := [.tmp 27]) (ps := [(pS h.f3)]) (g := .func 154) false (.cons (.one (.d _)) .nil) (ok_spec_l07Hash h.f3)) ?_
     refine TL.pk true (pB (decide ((h.f3.length : Int) = 32))) ?_
     refine TL.mv (pB (decide ((h.f3.length : Int) = 32))) ?_
     rcases Bool.eq_false_or_eq_true (decide ((h.f3.length : Int) = 32)) with hb5 | hb5
     ·
      refine TL.known 30 hb5 rfl ?_
      refine TL.gy 30 (Step.fieldAddr (q := 0) (off := 4) (n := 1) (one := true) rfl rfl (lt_ok rfl) (by kernel_rfl) (Nat.succ_ne_zero _) rfl) ?_
      refine TL.gy 30 (Step.load_box (c := cS h.f4) rfl rfl (lt_ok rfl) (by kernel_rfl) rfl rfl rfl) ?_
      refine TL.gy 30 (Step.cl (xs := [.tmp 32]) (ps := [(pS h.f4)]) (g := .func 154) false (.cons (.one (.d _)) .nil) (ok_spec_l07Hash h.f4)) ?_
      refine TL.pk true (pB (decide ((h.f4.length : Int) = 32))) ?_
      refine TL.mv (pB (decide ((h.f4.length : Int) = 32))) ?_
      rcases Bool.eq_false_or_eq_true (decide ((h.f4.length : Int) = 32)) with hb6 | hb6
      ·
       refine TL.known 35 hb6 rfl ?_
       refine TL.gy 35 (Step.load_box_agg (n := 5) (qs := [cI l.f0, cI l.f1, cI l.f2, cI l.f3, cI l.f4]) rfl rfl (lt_ok rfl) (by kernel_rfl) rfl rfl rfl rfl) ?_
       refine TL.gy 35 (Step.fieldAddr (q := 0) (off := 5) (n := 5) (one := false) rfl rfl (lt_ok rfl) (by kernel_rfl) (Nat.succ_ne_zero _) rfl) ?_
       refine TL.gy 35 (Step.load_box_agg (n := 5) (qs := [cI h.f5.f0, cI h.f5.f1, cS h.f5.f2, cS h.f5.f3, .d (.bss h.f5.f4)]) rfl rfl (lt_ok rfl) (by kernel_rfl) rfl rfl rfl rfl) ?_
       refine TL.gy 35 (Step.cl (xs := [.tmp 36, .tmp 38]) (ps := [(.agg [cI l.f0, cI l.f1, cI l.f2, cI l.f3, cI l.f4]), (.agg [cI h.f5.f0, cI h.f5.f1, cS h.f5.f2, cS h.f5.f3, .d (.bss h.f5.f4)])]) (g := .func 123) false (.cons (.agg (.cons (.d _) (.cons (.d _) (.cons (.d _) (.cons (.d _) (.cons (.d _) .nil)))))) (.cons (.agg (.cons (.d _) (.cons (.d _) (.cons (.d _) (.cons (.d _) (.cons (.d _) .nil)))))) .nil)) (ok_spec_QcOk l h.f5 (by first | assumption | exact qcOf_ok (l := l) h0_) (by first | assumption | exact qcOf_sm (l := l) h1_ h2_))) ?_
       refine TL.pk true (pB (qcOk l h.f5)) ?_
       refine TL.mv (pB (qcOk l h.f5)) ?_
       rcases Bool.eq_false_or_eq_true (qcOk l h.f5) with hb7 | hb7
       ·
        refine TL.known 41 hb7 rfl ?_
        refine TL.gy 41 (Step.load_box_agg (n := 10) (qs := [cI h.f0, cI h.f1, cI h.f2, cS h.f3, cS h.f4, cI h.f5.f0, cI h.f5.f1, cS h.f5.f2, cS h.f5.f3, .d (.bss h.f5.f4)]) rfl rfl (lt_ok rfl) (by kernel_rfl) rfl rfl rfl rfl) ?_
        refine TL.gy 41 (Step.cl (xs := [.tmp 42]) (ps := [(.agg [cI h.f0, cI h.f1, cI h.f2, cS h.f3, cS h.f4, cI h.f5.f0, cI h.f5.f1, cS h.f5.f2, cS h.f5.f3, .d (.bss h.f5.f4)])]) (g := .func 141) false (.cons (.agg (.cons (.d _) (.cons (.d _) (.cons (.d _) (.cons (.d _) (.cons (.d _) (.cons (.d _) (.cons (.d _) (.cons (.d _) (.cons (.d _) (.cons (.d _) .nil))))))))))) .nil) (ok_spec_l13Fits h (by first | assumption | exact rdHead_ok (l := l) (s := s) h0_))) ?_
        refine TL.pk true (pB (headFits h)) ?_
        refine TL.as (pB (headFits h)) ?_
        refine TL.nil ?_
        refine T.weaken (E' := { tm := [(4, (pB (headFits h)))], rows := [], boxes := [] }) (Env.le_mk ⟨by kernel_rfl, trivial⟩ trivial trivial) ?_
        refine T.ret ?_
        refine ⟨[(false, [.d (.bool (headFits h))])], (.cons rfl .nil), rfl, [], (RetC.rd' ?_ .nil)⟩ <;> (first | (congr 1; symm; unfold headOk; rw [qcOk_no (q := h.f5) (by assumption)]; simp only [Bool.false_and]; done) | first | rfl | (congr 1; symm; simp only [headOk, *, Bool.and_true, Bool.true_and, Bool.and_false, Bool.false_and, decide_true, decide_false, and_true, true_and, and_self, and_false, false_and, Bool.and_self, not_true, not_false, Bool.not_true, Bool.not_false, ge_iff_le, gt_iff_lt, if_true, if_false, Bool.false_eq_true, ite_true, ite_false, reduceIte]; done) | (congr 1; symm; simp_all [headOk]; done) | (congr 1; symm; simp_all [headOk]; omega))
       ·
        refine TL.known 41 hb7 rfl ?_
        refine TL.gf 41 ?_
        refine TL.gf 41 ?_
        refine TL.pk false (pB false) ?_
        refine TL.as (pB false) ?_
        refine TL.nil ?_
        refine T.weaken (E' := { tm := [(4, (pB false))], rows := [], boxes := [] }) (Env.le_mk ⟨by kernel_rfl, trivial⟩ trivial trivial) ?_
        refine T.ret ?_
        refine ⟨[(false, [.d (.bool false)])], (.cons rfl .nil), rfl, [], (RetC.rd' ?_ .nil)⟩ <;> (first | (congr 1; symm; unfold headOk; rw [qcOk_no (q := h.f5) (by assumption)]; simp only [Bool.false_and]; done) | first | rfl | (congr 1; symm; simp only [headOk, *, Bool.and_true, Bool.true_and, Bool.and_false, Bool.false_and, decide_true, decide_false, and_true, true_and, and_self, and_false, false_and, Bool.and_self, not_true, not_false, Bool.not_true, Bool.not_false, ge_iff_le, gt_iff_lt, if_true, if_false, Bool.false_eq_true, ite_true, ite_false, reduceIte]; done) | (congr 1; symm; simp_all [headOk]; done) | (congr 1; symm; simp_all [headOk]; omega))
      ·
       refine TL.known 35 hb6 rfl ?_
       refine TL.gf 35 ?_
       refine TL.gf 35 ?_
       refine TL.gf 35 ?_
       refine TL.gf 35 ?_
       refine TL.pk false (pB false) ?_
       refine TL.mv (pB false) ?_
       refine TL.gf 41 ?_
       refine TL.gf 41 ?_
       refine TL.pk false (pB false) ?_
       refine TL.as (pB false) ?_
       refine TL.nil ?_
       refine T.ret ?_
       refine ⟨[(false, [.d (.bool false)])], (.cons rfl .nil), rfl, [], (RetC.rd' ?_ .nil)⟩ <;> (first | (congr 1; symm; unfold headOk; rw [qcOk_no (q := h.f5) (by assumption)]; simp only [Bool.false_and]; done) | first | rfl | (congr 1; symm; simp only [headOk, *, Bool.and_true, Bool.true_and, Bool.and_false, Bool.false_and, decide_true, decide_false, and_true, true_and, and_self, and_false, false_and, Bool.and_self, not_true, not_false, Bool.not_true, Bool.not_false, ge_iff_le, gt_iff_lt, if_true, if_false, Bool.false_eq_true, ite_true, ite_false, reduceIte]; done) | (congr 1; symm; simp_all [headOk]; done) | (congr 1; symm; simp_all [headOk]; omega))
     ·
      refine TL.known 30 hb5 rfl ?_
      refine TL.gf 30 ?_
      refine TL.gf 30 ?_
      refine TL.gf 30 ?_
      refine TL.pk false (pB false) ?_
      refine TL.mv (pB false) ?_
      refine TL.gf 35 ?_
      refine TL.gf 35 ?_
      refine TL.gf 35 ?_
      refine TL.gf 35 ?_
      refine TL.pk false (pB false) ?_
      refine TL.mv (pB false) ?_
      refine TL.gf 41 ?_
      refine TL.gf 41 ?_
      refine TL.pk false (pB false) ?_
      refine TL.as (pB false) ?_
      refine TL.nil ?_
      refine T.ret ?_
      refine ⟨[(false, [.d (.bool false)])], (.cons rfl .nil), rfl, [], (RetC.rd' ?_ .nil)⟩ <;> (first | (congr 1; symm; unfold headOk; rw [qcOk_no (q := h.f5) (by assumption)]; simp only [Bool.false_and]; done) | first | rfl | (congr 1; symm; simp only [headOk, *, Bool.and_true, Bool.true_and, Bool.and_false, Bool.false_and, decide_true, decide_false, and_true, true_and, and_self, and_false, false_and, Bool.and_self, not_true, not_false, Bool.not_true, Bool.not_false, ge_iff_le, gt_iff_lt, if_true, if_false, Bool.false_eq_true, ite_true, ite_false, reduceIte]; done) | (congr 1; symm; simp_all [headOk]; done) | (congr 1; symm; simp_all [headOk]; omega))
    ·
     refine TL.known 25 hb4 rfl ?_
     refine TL.gf 25 ?_
     refine TL.gf 25 ?_
     refine TL.gf 25 ?_
     refine TL.pk false (pB false) ?_
     refine TL.mv (pB false) ?_
     refine TL.gf 30 ?_
     refine TL.gf 30 ?_
     refine TL.gf 30 ?_
     refine TL.pk false (pB false) ?_
     refine TL.mv (pB false) ?_
     refine TL.gf 35 ?_
     refine TL.gf 35 ?_
     refine TL.gf 35 ?_
     refine TL.gf 35 ?_
     refine TL.pk false (pB false) ?_
     refine TL.mv (pB false) ?_
     refine TL.gf 41 ?_
     refine TL.gf 41 ?_
     refine TL.pk false (pB false) ?_
     refine TL.as (pB false) ?_
     refine TL.nil ?_
     refine T.ret ?_
     refine ⟨[(false, [.d (.bool false)])], (.cons rfl .nil), rfl, [], (RetC.rd' ?_ .nil)⟩ <;> (first | (congr 1; symm; unfold headOk; rw [qcOk_no (q := h.f5) (by assumption)]; simp only [Bool.false_and]; done) | first | rfl | (congr 1; symm; simp only [headOk, *, Bool.and_true, Bool.true_and, Bool.and_false, Bool.false_and, decide_true, decide_false, and_true, true_and, and_self, and_false, false_and, Bool.and_self, not_true, not_false, Bool.not_true, Bool.not_false, ge_iff_le, gt_iff_lt, if_true, if_false, Bool.false_eq_true, ite_true, ite_false, reduceIte]; done) | (congr 1; symm; simp_all [headOk]; done) | (congr 1; symm; simp_all [headOk]; omega))
   ·
    refine TL.known 17 hb3 rfl ?_
    refine TL.gf 17 ?_
    refine TL.gf 17 ?_
    refine TL.gf 17 ?_
    refine TL.gf 17 ?_
    refine TL.gf 17 ?_
    refine TL.gf 17 ?_
    refine TL.pk false (pB false) ?_
    refine TL.mv (pB false) ?_
    refine TL.gf 25 ?_
    refine TL.gf 25 ?_
    refine TL.gf 25 ?_
    refine TL.pk false (pB false) ?_
    refine TL.mv (pB false) ?_
    refine TL.gf 30 ?_
    refine TL.gf 30 ?_
    refine TL.gf 30 ?_
    refine TL.pk false (pB false) ?_
    refine TL.mv (pB false) ?_
    refine TL.gf 35 ?_
    refine TL.gf 35 ?_
    refine TL.gf 35 ?_
    refine TL.gf 35 ?_
    refine TL.pk false (pB false) ?_
    refine TL.mv (pB false) ?_
    refine TL.gf 41 ?_
    refine TL.gf 41 ?_
    refine TL.pk false (pB false) ?_
    refine TL.as (pB false) ?_
    refine TL.nil ?_
    refine T.ret ?_
    refine ⟨[(false, [.d (.bool false)])], (.cons rfl .nil), rfl, [], (RetC.rd' ?_ .nil)⟩ <;> (first | (congr 1; symm; unfold headOk; rw [qcOk_no (q := h.f5) (by assumption)]; simp only [Bool.false_and]; done) | first | rfl | (congr 1; symm; simp only [headOk, *, Bool.and_true, Bool.true_and, Bool.and_false, Bool.false_and, decide_true, decide_false, and_true, true_and, and_self, and_false, false_and, Bool.and_self, not_true, not_false, Bool.not_true, Bool.not_false, ge_iff_le, gt_iff_lt, if_true, if_false, Bool.false_eq_true, ite_true, ite_false, reduceIte]; done) | (congr 1; symm; simp_all [headOk]; done) | (congr 1; symm; simp_all [headOk]; omega))
  ·
   refine TL.known 12 hb2 rfl ?_
   refine TL.gf 12 ?_
   refine TL.gf 12 ?_
   refine TL.gf 12 ?_
   refine TL.pk false (pB false) ?_
   refine TL.mv (pB false) ?_
   refine TL.gf 17 ?_
   refine TL.gf 17 ?_
   refine TL.gf 17 ?_
   refine TL.gf 17 ?_
   refine TL.gf 17 ?_
   refine TL.gf 17 ?_
   refine TL.pk false (pB false) ?_
   refine TL.mv (pB false) ?_
   refine TL.gf 25 ?_
   refine TL.gf 25 ?_
   refine TL.gf 25 ?_
   refine TL.pk false (pB false) ?_
   refine TL.mv (pB false) ?_
   refine TL.gf 30 ?_
   refine TL.gf 30 ?_
   refine TL.gf 30 ?_
   refine TL.pk false (pB false) ?_
   refine TL.mv (pB false) ?_
   refine TL.gf 35 ?_
   refine TL.gf 35 ?_
   refine TL.gf 35 ?_
   refine TL.gf 35 ?_
   refine TL.pk false (pB false) ?_
   refine TL.mv (pB false) ?_
   refine TL.gf 41 ?_
   refine TL.gf 41 ?_
   refine TL.pk false (pB false) ?_
   refine TL.as (pB false) ?_
   refine TL.nil ?_
   refine T.ret ?_
   refine ⟨[(false, [.d (.bool false)])], (.cons rfl .nil), rfl, [], (RetC.rd' ?_ .nil)⟩ <;> (first | (congr 1; symm; unfold headOk; rw [qcOk_no (q := h.f5) (by assumption)]; simp only [Bool.false_and]; done) | first | rfl | (congr 1; symm; simp only [headOk, *, Bool.and_true, Bool.true_and, Bool.and_false, Bool.false_and, decide_true, decide_false, and_true, true_and, and_self, and_false, false_and, Bool.and_self, not_true, not_false, Bool.not_true, Bool.not_false, ge_iff_le, gt_iff_lt, if_true, if_false, Bool.false_eq_true, ite_true, ite_false, reduceIte]; done) | (congr 1; symm; simp_all [headOk]; done) | (congr 1; symm; simp_all [headOk]; omega))
 ·
  refine TL.known 7 hb1 rfl ?_
  refine TL.gf 7 ?_
  refine TL.gf 7 ?_
  refine TL.gf 7 ?_
  refine TL.pk false (pB false) ?_
  refine TL.mv (pB false) ?_
  refine TL.gf 12 ?_
  refine TL.gf 12 ?_
  refine TL.gf 12 ?_
  refine TL.pk false (pB false) ?_
  refine TL.mv (pB false) ?_
  refine TL.gf 17 ?_
  refine TL.gf 17 ?_
  refine TL.gf 17 ?_
  refine TL.gf 17 ?_
  refine TL.gf 17 ?_
  refine TL.gf 17 ?_
  refine TL.pk false (pB false) ?_
  refine TL.mv (pB false) ?_
  refine TL.gf 25 ?_
  refine TL.gf 25 ?_
  refine TL.gf 25 ?_
  refine TL.pk false (pB false) ?_
  refine TL.mv (pB false) ?_
  refine TL.gf 30 ?_
  refine TL.gf 30 ?_
  refine TL.gf 30 ?_
  refine TL.pk false (pB false) ?_
  refine TL.mv (pB false) ?_
  refine TL.gf 35 ?_
  refine TL.gf 35 ?_
  refine TL.gf 35 ?_
  refine TL.gf 35 ?_
  refine TL.pk false (pB false) ?_
  refine TL.mv (pB false) ?_
  refine TL.gf 41 ?_
  refine TL.gf 41 ?_
  refine TL.pk false (pB false) ?_
  refine TL.as (pB false) ?_
  refine TL.nil ?_
  refine T.ret ?_
  refine ⟨[(false, [.d (.bool false)])], (.cons rfl .nil), rfl, [], (RetC.rd' ?_ .nil)⟩ <;> (first | (congr 1; symm; unfold headOk; rw [qcOk_no (q := h.f5) (by assumption)]; simp only [Bool.false_and]; done) | first | rfl | (congr 1; symm; simp only [headOk, *, Bool.and_true, Bool.true_and, Bool.and_false, Bool.false_and, decide_true, decide_false, and_true, true_and, and_self, and_false, false_and, Bool.and_self, not_true, not_false, Bool.not_true, Bool.not_false, ge_iff_le, gt_iff_lt, if_true, if_false, Bool.false_eq_true, ite_true, ite_false, reduceIte]; done) | (congr 1; symm; simp_all [headOk]; done) | (congr 1; symm; simp_all [headOk]; omega))
theorem ok_spec_PutHead (l : SLimits) (b : List Int) (h : SHead) (h0_ : b.length ≤ 8796000000000) (h1_ : h.ok) (h2_ : h.sm) : RO Try.prog 71 [.agg l.cells, .one (.ints .u8 b), .agg h.cells] [(false, [.own 5 (.ints .u8 (putHead l b h))]), (false, [.rd (.bool (headOk l h))])] := by
 refine RO.intro Try.func71 rfl 37 rfl (le_ok rfl) fun w Z => ?_
 refine T.bnd 1 0 rfl rfl fun hb_1_0 => ?_
 simp only [D.size, List.length_map] at hb_1_0
 have hok_ := h1_
 have hsm_ := h2_
 obtain ⟨o0, o1, o2, o3, o4, o5⟩ := h1_
 obtain ⟨s0, s1, s2⟩ := h2_
 refine T.seq ?_
 refine T.region ?_
 refine TL.c (Step.box (p := (.agg [cI l.f0, cI l.f1, cI l.f2, cI l.f3, cI l.f4])) (ps := [cI l.f0, cI l.f1, cI l.f2, cI l.f3, cI l.f4]) rfl rfl (lt_ok rfl) rfl rfl rfl rfl rfl) ?_
 refine TL.c (Step.box (p := (.agg [cI h.f0, cI h.f1, cI h.f2, cS h.f3, cS h.f4, cI h.f5.f0, cI h.f5.f1, cS h.f5.f2, cS h.f5.f3, .d (.bss h.f5.f4)])) (ps := [cI h.f0, cI h.f1, cI h.f2, cS h.f3, cS h.f4, cI h.f5.f0, cI h.f5.f1, cS h.f5.f2, cS h.f5.f3, .d (.bss h.f5.f4)]) rfl rfl (lt_ok rfl) rfl rfl rfl rfl rfl) ?_
 refine TL.as (.one (.nil)) ?_
 refine TL.as (pB false) ?_
 refine TL.nil ?_
 refine T.seq ?_
 refine T.seq ?_
 refine T.region ?_
 refine TL.c (Step.load_box_agg (n := 5) (qs := [cI l.f0, cI l.f1, cI l.f2, cI l.f3, cI l.f4]) rfl rfl (lt_ok rfl) (by kernel_rfl) rfl rfl rfl rfl) ?_
 refine TL.c (Step.load_box_agg (n := 10) (qs := [cI h.f0, cI h.f1, cI h.f2, cS h.f3, cS h.f4, cI h.f5.f0, cI h.f5.f1, cS h.f5.f2, cS h.f5.f3, .d (.bss h.f5.f4)]) rfl rfl (lt_ok rfl) (by kernel_rfl) rfl rfl rfl rfl) ?_
 refine TL.c (Step.cl (xs := [.tmp 9, .tmp 10]) (ps := [(.agg [cI l.f0, cI l.f1, cI l.f2, cI l.f3, cI l.f4]), (.agg [cI h.f0, cI h.f1, cI h.f2, cS h.f3, cS h.f4, cI h.f5.f0, cI h.f5.f1, cS h.f5.f2, cS h.f5.f3, .d (.bss h.f5.f4)])]) (g := .func 104) false (.cons (.agg (.cons (.d _) (.cons (.d _) (.cons (.d _) (.cons (.d _) (.cons (.d _) .nil)))))) (.cons (.agg (.cons (.d _) (.cons (.d _) (.cons (.d _) (.cons (.d _) (.cons (.d _) (.cons (.d _) (.cons (.d _) (.cons (.d _) (.cons (.d _) (.cons (.d _) .nil))))))))))) .nil)) (ok_spec_HeadOk l h (by first | assumption | exact mem_getD o0 (by omega) | exact mem_getD h0_ (by omega)) (by first | assumption | exact mem_getD s0.2 (by omega) | exact mem_getD h1_ (by omega)))) ?_
 refine TL.c (Step.not (b := (headOk l h)) rfl rfl (lt_ok rfl) rfl) ?_
 refine TL.nil ?_
 refine T.cond (b := !(headOk l h)) rfl (fun h1 => ?_) (fun h1 => ?_)
 ·
  replace h1 : (headOk l h) = false := by simpa only [Bool.not_eq_true', Bool.not_eq_false'] using h1
  refine T.seq ?_
  refine T.region ?_
  refine TL.as (.one (.nil)) ?_
  refine TL.as (pB false) ?_
  refine TL.nil ?_
  refine T.ret ?_
  refine ⟨[(false, [.nil]), (false, [.d (.bool false)])], (.cons rfl (.cons rfl .nil)), rfl, [], (RetC.nilown' rfl ?_ (by first | exact trivial | exact D.wf_nil _) (RetC.rd' ?_ .nil))⟩ <;> (first | rfl | (congr 1; have hq_ := headOk_qc (by assumption); simp only [putQc, putHead, putHeadB, hq_, *, if_true]; done) | (congr 1; have hq_ := headOk_qc (by assumption); unfold putQc putHead putHeadB; rw [if_pos hq_, if_pos (by assumption)]) | (show (putHead l b h).length = 0; unfold putHead; rw [if_neg (by simp [*])]; rfl) | (congr 1; symm; assumption) | (congr 1; have hq_ := headOk_qc (by assumption); rw [hq_]; symm; assumption))
 ·
  replace h1 : (headOk l h) = true := by simpa only [Bool.not_eq_true', Bool.not_eq_false'] using h1
  refine T.skip ?_
  refine T.seq ?_
  have nn2 := putVar_len b h.f0
  have nn3 := putVar_len (putVar b h.f0) h.f1
  have nn4 := putVar_len (putVar (putVar b h.f0) h.f1) h.f2
  refine T.drawX [{ dst := some 13, pv := (pS b) }, { dst := some 14, pv := (.one (.ptr 5 0)) }, { dst := some 15, pv := (pI h.f0) }, { dst := some 16, pv := (.one (.row 1016 [])), rows := [(1016, (5, (.ints .u8 (putVar b h.f0))))] }, { dst := some 17, pv := (.one (.ptr 5 1)) }, { dst := some 18, pv := (pI h.f1) }, { dst := some 19, pv := (.one (.row 1019 [])), rows := [(1019, (5, (.ints .u8 (putVar (putVar b h.f0) h.f1))))] }, { dst := some 20, pv := (.one (.ptr 5 2)) }, { dst := some 21, pv := (pI h.f2) }, { dst := some 22, pv := (.one (.row 1022 [])), rows := [(1022, (5, (.ints .u8 (putVar (putVar (putVar b h.f0) h.f1) h.f2))))] }, { dst := some 8, pv := (.one (.row 1022 [])) }] (by kernel_rfl) (by kernel_rfl) ?_ ?_
  ·
   refine .cons (fun E hA_ => by have g1 : E.get 1 = (pS b) := (hA_.get 1 (by kernel_rfl)).trans (by kernel_rfl); exact OpStep.plain rfl (Step.move (p := (pS b)) (t := 13) rfl rfl (by exact lt_ok rfl) (show Env.ev E (.tmp 1) = _ from g1.trans rfl))) ?_
   refine .cons (fun E hA_ => by have g5 : E.get 5 = (.one (.ptr 5 0)) := (hA_.get 5 (by kernel_rfl)).trans (by kernel_rfl); exact OpStep.plain rfl (Step.fa (off := 0) (n := 1) (one := true) 0 14 (show Env.ev E (.tmp 5) = _ from g5.trans rfl))) ?_
   refine .cons (fun E hA_ => by have g14 : E.get 14 = (.one (.ptr 5 0)) := (hA_.get 14 (by kernel_rfl)).trans (by kernel_rfl); have b5 : E.box 5 = some (54, [cI h.f0, cI h.f1, cI h.f2, cS h.f3, cS h.f4, cI h.f5.f0, cI h.f5.f1, cS h.f5.f2, cS h.f5.f3, .d (.bss h.f5.f4)]) := (hA_.box 5 (by kernel_rfl)).trans (by kernel_rfl); exact OpStep.plain rfl (Step.load_box (c := cI h.f0) (t := 15) rfl rfl (by exact lt_ok rfl) (by kernel_rfl) (show Env.ev E (.tmp 14) = _ from g14.trans rfl) b5 rfl)) ?_
   refine .cons (fun E hA_ => by have g13 : E.get 13 = (pS b) := (hA_.get 13 (by kernel_rfl)).trans (by kernel_rfl); have g15 : E.get 15 = (pI h.f0) := (hA_.get 15 (by kernel_rfl)).trans (by kernel_rfl); exact OpStep.plain rfl (Step.call (f := 70) (xs := [.tmp 13, .tmp 15]) (ps := [(pS b), (pI h.f0)]) false (g := .func 70) (t := 16) rfl rfl (by exact lt_ok rfl) rfl (by kernel_rfl) (evs_cons (show Env.ev E (.tmp 13) = _ from g13.trans rfl) (evs_cons (show Env.ev E (.tmp 15) = _ from g15.trans rfl) (rfl))) (.cons (.one (.d _)) (.cons (.one (.d _)) .nil)) (ok_spec_l11Num b h.f0 (by first | omega | assumption | (simp only [List.length_append] at *; omega))) (.inr rfl) (freshRows_of _ _ (fun x_ hx_ => hA_.fresh x_ (by exact hx_))) (by simp) rfl)) ?_
   refine .cons (fun E hA_ => by have g5 : E.get 5 = (.one (.ptr 5 0)) := (hA_.get 5 (by kernel_rfl)).trans (by kernel_rfl); exact OpStep.plain rfl (Step.fa (off := 1) (n := 1) (one := true) 0 17 (show Env.ev E (.tmp 5) = _ from g5.trans rfl))) ?_
   refine .cons (fun E hA_ => by have g17 : E.get 17 = (.one (.ptr 5 1)) := (hA_.get 17 (by kernel_rfl)).trans (by kernel_rfl); have b5 : E.box 5 = some (54, [cI h.f0, cI h.f1, cI h.f2, cS h.f3, cS h.f4, cI h.f5.f0, cI h.f5.f1, cS h.f5.f2, cS h.f5.f3, .d (.bss h.f5.f4)]) := (hA_.box 5 (by kernel_rfl)).trans (by kernel_rfl); exact OpStep.plain rfl (Step.load_box (c := cI h.f1) (t := 18) rfl rfl (by exact lt_ok rfl) (by kernel_rfl) (show Env.ev E (.tmp 17) = _ from g17.trans rfl) b5 rfl)) ?_
   refine .cons (fun E hA_ => by have g16 : E.get 16 = (.one (.row 1016 [])) := (hA_.get 16 (by kernel_rfl)).trans (by kernel_rfl); have g18 : E.get 18 = (pI h.f1) := (hA_.get 18 (by kernel_rfl)).trans (by kernel_rfl); have q1016 : E.row 1016 = some (5, (.ints .u8 (putVar b h.f0))) := (hA_.row 1016 (by kernel_rfl)).trans (by kernel_rfl); exact OpStep.plain rfl (Step.call (f := 70) (xs := [.tmp 16, .tmp 18]) (ps := [(.one (.row 1016 [])), (pI h.f1)]) false (g := .func 70) (t := 19) rfl rfl (by exact lt_ok rfl) rfl (by kernel_rfl) (evs_cons (show Env.ev E (.tmp 16) = _ from g16.trans rfl) (evs_cons (show Env.ev E (.tmp 18) = _ from g18.trans rfl) (rfl))) (.cons (.one (.row rfl q1016 rfl rfl)) (.cons (.one (.d _)) .nil)) (ok_spec_l11Num (putVar b h.f0) h.f1 (by first | omega | assumption | (simp only [List.length_append] at *; omega))) (.inr rfl) (freshRows_of _ _ (fun x_ hx_ => hA_.fresh x_ (by exact hx_))) (by simp) rfl)) ?_
   refine .cons (fun E hA_ => by have g5 : E.get 5 = (.one (.ptr 5 0)) := (hA_.get 5 (by kernel_rfl)).trans (by kernel_rfl); exact OpStep.plain rfl (Step.fa (off := 2) (n := 1) (one := true) 0 20 (show Env.ev E (.tmp 5) = _ from g5.trans rfl))) ?_
   refine .cons (fun E hA_ => by have g20 : E.get 20 = (.one (.ptr 5 2)) := (hA_.get 20 (by kernel_rfl)).trans (by kernel_rfl); have b5 : E.box 5 = some (54, [cI h.f0, cI h.f1, cI h.f2, cS h.f3, cS h.f4, cI h.f5.f0, cI h.f5.f1, cS h.f5.f2, cS h.f5.f3, .d (.bss h.f5.f4)]) := (hA_.box 5 (by kernel_rfl)).trans (by kernel_rfl); exact OpStep.plain rfl (Step.load_box (c := cI h.f2) (t := 21) rfl rfl (by exact lt_ok rfl) (by kernel_rfl) (show Env.ev E (.tmp 20) = _ from g20.trans rfl) b5 rfl)) ?_
   refine .cons (fun E hA_ => by have g19 : E.get 19 = (.one (.row 1019 [])) := (hA_.get 19 (by kernel_rfl)).trans (by kernel_rfl); have g21 : E.get 21 = (pI h.f2) := (hA_.get 21 (by kernel_rfl)).trans (by kernel_rfl); have q1019 : E.row 1019 = some (5, (.ints .u8 (putVar (putVar b h.f0) h.f1))) := (hA_.row 1019 (by kernel_rfl)).trans (by kernel_rfl); exact OpStep.plain rfl (Step.call (f := 70) (xs := [.tmp 19, .tmp 21]) (ps := [(.one (.row 1019 [])), (pI h.f2)]) false (g := .func 70) (t := 22) rfl rfl (by exact lt_ok rfl) rfl (by kernel_rfl) (evs_cons (show Env.ev E (.tmp 19) = _ from g19.trans rfl) (evs_cons (show Env.ev E (.tmp 21) = _ from g21.trans rfl) (rfl))) (.cons (.one (.row rfl q1019 rfl rfl)) (.cons (.one (.d _)) .nil)) (ok_spec_l11Num (putVar (putVar b h.f0) h.f1) h.f2 (by first | omega | assumption | (simp only [List.length_append] at *; omega))) (.inr rfl) (freshRows_of _ _ (fun x_ hx_ => hA_.fresh x_ (by exact hx_))) (by simp) rfl)) ?_
   refine .cons (fun E hA_ => by have g22 : E.get 22 = (.one (.row 1022 [])) := (hA_.get 22 (by kernel_rfl)).trans (by kernel_rfl); exact OpStep.plain rfl (Step.assign (p := (.one (.row 1022 []))) (t := 8) rfl rfl (by exact lt_ok rfl) (show Env.ev E (.tmp 22) = _ from g22.trans rfl))) ?_
   exact .nil _ _
  refine TL.weaken (E' := { tm := [(0, (.agg [cI l.f0, cI l.f1, cI l.f2, cI l.f3, cI l.f4])), (1, (pS b)), (2, (.agg [cI h.f0, cI h.f1, cI h.f2, cS h.f3, cS h.f4, cI h.f5.f0, cI h.f5.f1, cS h.f5.f2, cS h.f5.f3, .d (.bss h.f5.f4)])), (3, (.one (.ptr 3 0))), (5, (.one (.ptr 5 0))), (6, (.one (.nil))), (7, (pB false)), (9, (.agg [cI l.f0, cI l.f1, cI l.f2, cI l.f3, cI l.f4])), (10, (.agg [cI h.f0, cI h.f1, cI h.f2, cS h.f3, cS h.f4, cI h.f5.f0, cI h.f5.f1, cS h.f5.f2, cS h.f5.f3, .d (.bss h.f5.f4)])), (11, (pB (headOk l h))), (12, (pB (!(headOk l h)))), (13, (pS b)), (14, (.one (.ptr 5 0))), (15, (pI h.f0)), (16, (.one (.row 1016 []))), (17, (.one (.ptr 5 1))), (18, (pI h.f1)), (19, (.one (.row 1019 []))), (20, (.one (.ptr 5 2))), (21, (pI h.f2)), (22, (.one (.row 1022 []))), (8, (.one (.row 1022 [])))], rows := [(1016, (5, (.ints .u8 (putVar b h.f0)))), (1019, (5, (.ints .u8 (putVar (putVar b h.f0) h.f1)))), (1022, (5, (.ints .u8 (putVar (putVar (putVar b h.f0) h.f1) h.f2))))], boxes := [(3, (34, [cI l.f0, cI l.f1, cI l.f2, cI l.f3, cI l.f4])), (5, (54, [cI h.f0, cI h.f1, cI h.f2, cS h.f3, cS h.f4, cI h.f5.f0, cI h.f5.f1, cS h.f5.f2, cS h.f5.f3, .d (.bss h.f5.f4)]))] }) (Env.le_mk ⟨by kernel_rfl, by kernel_rfl, by kernel_rfl, by kernel_rfl, by kernel_rfl, by kernel_rfl, by kernel_rfl, by kernel_rfl, by kernel_rfl, by kernel_rfl, by kernel_rfl, by kernel_rfl, by kernel_rfl, by kernel_rfl, by kernel_rfl, by kernel_rfl, by kernel_rfl, by kernel_rfl, by kernel_rfl, by kernel_rfl, by kernel_rfl, by kernel_rfl, trivial⟩ ⟨by kernel_rfl, by kernel_rfl, by kernel_rfl, trivial⟩ ⟨by kernel_rfl, by kernel_rfl, trivial⟩) ?_
  refine TL.nil ?_
  refine T.seq ?_
  refine T.drawX [{ dst := some 23, pv := (.one (.row 1022 [])) }, { dst := some 24, pv := (.one (.ptr 5 3)) }, { dst := some 25, pv := (pS h.f3) }, { dst := some 26, pv := (.one (.row 500026 [])), rows := [(500026, (5, (.ints .u8 ((putVar (putVar (putVar b h.f0) h.f1) h.f2) ++ h.f3))))], dead := [1022] }, { dst := some 27, pv := (.one (.ptr 5 4)) }, { dst := some 28, pv := (pS h.f4) }, { dst := some 29, pv := (.one (.row 500029 [])), rows := [(500029, (5, (.ints .u8 (((putVar (putVar (putVar b h.f0) h.f1) h.f2) ++ h.f3) ++ h.f4))))], dead := [500026] }, { dst := some 8, pv := (.one (.row 500029 [])) }] (by kernel_rfl) (by kernel_rfl) ?_ ?_
  ·
   refine .cons (fun E hA_ => by have g8 : E.get 8 = (.one (.row 1022 [])) := (hA_.get 8 (by kernel_rfl)).trans (by kernel_rfl); exact OpStep.plain rfl (Step.move (p := (.one (.row 1022 []))) (t := 23) rfl rfl (by exact lt_ok rfl) (show Env.ev E (.tmp 8) = _ from g8.trans rfl))) ?_
   refine .cons (fun E hA_ => by have g5 : E.get 5 = (.one (.ptr 5 0)) := (hA_.get 5 (by kernel_rfl)).trans (by kernel_rfl); exact OpStep.plain rfl (Step.fa (off := 3) (n := 1) (one := true) 0 24 (show Env.ev E (.tmp 5) = _ from g5.trans rfl))) ?_
   refine .cons (fun E hA_ => by have g24 : E.get 24 = (.one (.ptr 5 3)) := (hA_.get 24 (by kernel_rfl)).trans (by kernel_rfl); have b5 : E.box 5 = some (54, [cI h.f0, cI h.f1, cI h.f2, cS h.f3, cS h.f4, cI h.f5.f0, cI h.f5.f1, cS h.f5.f2, cS h.f5.f3, .d (.bss h.f5.f4)]) := (hA_.box 5 (by kernel_rfl)).trans (by kernel_rfl); exact OpStep.plain rfl (Step.load_box (c := cS h.f3) (t := 25) rfl rfl (by exact lt_ok rfl) (by kernel_rfl) (show Env.ev E (.tmp 24) = _ from g24.trans rfl) b5 rfl)) ?_
   refine .cons (fun E hA_ => by have g23 : E.get 23 = (.one (.row 1022 [])) := (hA_.get 23 (by kernel_rfl)).trans (by kernel_rfl); have g25 : E.get 25 = (pS h.f3) := (hA_.get 25 (by kernel_rfl)).trans (by kernel_rfl); have q1022 : E.row 1022 = some (5, (.ints .u8 (putVar (putVar (putVar b h.f0) h.f1) h.f2))) := (hA_.row 1022 (by kernel_rfl)).trans (by kernel_rfl); exact OpStep.plain rfl (Step.appendX (e := 5) (z := 1) (by_ := 1) (d := (.ints .u8 (putVar (putVar (putVar b h.f0) h.f1) h.f2))) (dy := (.ints .u8 h.f3)) (d' := (.ints .u8 ((putVar (putVar (putVar b h.f0) h.f1) h.f2) ++ h.f3))) (ss := []) 500026 (t := 26) rfl rfl (by exact lt_ok rfl) (by kernel_rfl) (show Env.ev E (.tmp 23) = _ from g23.trans rfl) q1022 rfl (lt_ok rfl) (show Env.ev E (.tmp 25) = _ from g25.trans rfl) (.froz rfl (by simp [D.flat, D.val])) (by simp) rfl (by simp only [D.size, List.length_map]; first | omega | (simp only [List.length_append, List.length_cons, List.length_nil]; omega) | (simp; omega) | (simp only [List.length_append] at *; omega)) (by simp only [D.size, List.length_map]; first | omega | (simp only [List.length_append, List.length_cons, List.length_nil]; omega) | (simp; omega) | (simp only [List.length_append] at *; omega)) (by simp) (hA_.fresh _ (List.mem_singleton.2 rfl)) (by simp) (by simp))) ?_
   refine .cons (fun E hA_ => by have g5 : E.get 5 = (.one (.ptr 5 0)) := (hA_.get 5 (by kernel_rfl)).trans (by kernel_rfl); exact OpStep.plain rfl (Step.fa (off := 4) (n := 1) (one := true) 0 27 (show Env.ev E (.tmp 5) = _ from g5.trans rfl))) ?_
   refine .cons (fun E hA_ => by have g27 : E.get 27 = (.one (.ptr 5 4)) := (hA_.get 27 (by kernel_rfl)).trans (by kernel_rfl); have b5 : E.box 5 = some (54, [cI h.f0, cI h.f1, cI h.f2, cS h.f3, cS h.f4, cI h.f5.f0, cI h.f5.f1, cS h.f5.f2, cS h.f5.f3, .d (.bss h.f5.f4)]) := (hA_.box 5 (by kernel_rfl)).trans (by kernel_rfl); exact OpStep.plain rfl (Step.load_box (c := cS h.f4) (t := 28) rfl rfl (by exact lt_ok rfl) (by kernel_rfl) (show Env.ev E (.tmp 27) = _ from g27.trans rfl) b5 rfl)) ?_
   refine .cons (fun E hA_ => by have g26 : E.get 26 = (.one (.row 500026 [])) := (hA_.get 26 (by kernel_rfl)).trans (by kernel_rfl); have g28 : E.get 28 = (pS h.f4) := (hA_.get 28 (by kernel_rfl)).trans (by kernel_rfl); have q500026 : E.row 500026 = some (5, (.ints .u8 ((putVar (putVar (putVar b h.f0) h.f1) h.f2) ++ h.f3))) := (hA_.row 500026 (by kernel_rfl)).trans (by kernel_rfl); exact OpStep.plain rfl (Step.appendX (e := 5) (z := 1) (by_ := 1) (d := (.ints .u8 ((putVar (putVar (putVar b h.f0) h.f1) h.f2) ++ h.f3))) (dy := (.ints .u8 h.f4)) (d' := (.ints .u8 (((putVar (putVar (putVar b h.f0) h.f1) h.f2) ++ h.f3) ++ h.f4))) (ss := []) 500029 (t := 29) rfl rfl (by exact lt_ok rfl) (by kernel_rfl) (show Env.ev E (.tmp 26) = _ from g26.trans rfl) q500026 rfl (lt_ok rfl) (show Env.ev E (.tmp 28) = _ from g28.trans rfl) (.froz rfl (by simp [D.flat, D.val])) (by simp) rfl (by simp only [D.size, List.length_map]; first | omega | (simp only [List.length_append, List.length_cons, List.length_nil]; omega) | (simp; omega) | (simp only [List.length_append] at *; omega)) (by simp only [D.size, List.length_map]; first | omega | (simp only [List.length_append, List.length_cons, List.length_nil]; omega) | (simp; omega) | (simp only [List.length_append] at *; omega)) (by simp) (hA_.fresh _ (List.mem_singleton.2 rfl)) (by simp) (by simp))) ?_
   refine .cons (fun E hA_ => by have g29 : E.get 29 = (.one (.row 500029 [])) := (hA_.get 29 (by kernel_rfl)).trans (by kernel_rfl); exact OpStep.plain rfl (Step.assign (p := (.one (.row 500029 []))) (t := 8) rfl rfl (by exact lt_ok rfl) (show Env.ev E (.tmp 29) = _ from g29.trans rfl))) ?_
   exact .nil _ _
  refine TL.weaken (E' := { tm := [(0, (.agg [cI l.f0, cI l.f1, cI l.f2, cI l.f3, cI l.f4])), (1, (pS b)), (2, (.agg [cI h.f0, cI h.f1, cI h.f2, cS h.f3, cS h.f4, cI h.f5.f0, cI h.f5.f1, cS h.f5.f2, cS h.f5.f3, .d (.bss h.f5.f4)])), (3, (.one (.ptr 3 0))), (5, (.one (.ptr 5 0))), (6, (.one (.nil))), (7, (pB false)), (9, (.agg [cI l.f0, cI l.f1, cI l.f2, cI l.f3, cI l.f4])), (10, (.agg [cI h.f0, cI h.f1, cI h.f2, cS h.f3, cS h.f4, cI h.f5.f0, cI h.f5.f1, cS h.f5.f2, cS h.f5.f3, .d (.bss h.f5.f4)])), (11, (pB (headOk l h))), (12, (pB (!(headOk l h)))), (13, (pS b)), (14, (.one (.ptr 5 0))), (15, (pI h.f0)), (16, (.one (.row 1016 []))), (17, (.one (.ptr 5 1))), (18, (pI h.f1)), (19, (.one (.row 1019 []))), (20, (.one (.ptr 5 2))), (21, (pI h.f2)), (8, (.one (.row 500029 []))), (24, (.one (.ptr 5 3))), (25, (pS h.f3)), (27, (.one (.ptr 5 4))), (28, (pS h.f4)), (29, (.one (.row 500029 [])))], rows := [(1016, (5, (.ints .u8 (putVar b h.f0)))), (1019, (5, (.ints .u8 (putVar (putVar b h.f0) h.f1)))), (500029, (5, (.ints .u8 (((putVar (putVar (putVar b h.f0) h.f1) h.f2) ++ h.f3) ++ h.f4))))], boxes := [(3, (34, [cI l.f0, cI l.f1, cI l.f2, cI l.f3, cI l.f4])), (5, (54, [cI h.f0, cI h.f1, cI h.f2, cS h.f3, cS h.f4, cI h.f5.f0, cI h.f5.f1, cS h.f5.f2, cS h.f5.f3, .d (.bss h.f5.f4)]))] }) (Env.le_mk ⟨by kernel_rfl, by kernel_rfl, by kernel_rfl, by kernel_rfl, by kernel_rfl, by kernel_rfl, by kernel_rfl, by kernel_rfl, by kernel_rfl, by kernel_rfl, by kernel_rfl, by kernel_rfl, by kernel_rfl, by kernel_rfl, by kernel_rfl, by kernel_rfl, by kernel_rfl, by kernel_rfl, by kernel_rfl, by kernel_rfl, by kernel_rfl, by kernel_rfl, by kernel_rfl, by kernel_rfl, by kernel_rfl, by kernel_rfl, trivial⟩ ⟨by kernel_rfl, by kernel_rfl, by kernel_rfl, trivial⟩ ⟨by kernel_rfl, by kernel_rfl, trivial⟩) ?_
  refine TL.nil ?_
  refine T.seq ?_
  refine T.region ?_
  refine TL.c (Step.load_box_agg (n := 5) (qs := [cI l.f0, cI l.f1, cI l.f2, cI l.f3, cI l.f4]) rfl rfl (lt_ok rfl) (by kernel_rfl) rfl rfl rfl rfl) ?_
  refine TL.mv (.one (.row 500029 [])) ?_
  refine TL.c (Step.fieldAddr (q := 0) (off := 5) (n := 5) (one := false) rfl rfl (lt_ok rfl) (by kernel_rfl) (Nat.succ_ne_zero _) rfl) ?_
  refine TL.c (Step.load_box_agg (n := 5) (qs := [cI h.f5.f0, cI h.f5.f1, cS h.f5.f2, cS h.f5.f3, .d (.bss h.f5.f4)]) rfl rfl (lt_ok rfl) (by kernel_rfl) rfl rfl rfl rfl) ?_
  have nn5 := @putQc_len l (((putVar (putVar (putVar b h.f0) h.f1) h.f2) ++ h.f3) ++ h.f4) h.f5 (by assumption)
  refine TL.c (Step.cl (xs := [.tmp 30, .tmp 31, .tmp 33]) (ps := [(.agg [cI l.f0, cI l.f1, cI l.f2, cI l.f3, cI l.f4]), (.one (.row 500029 [])), (.agg [cI h.f5.f0, cI h.f5.f1, cS h.f5.f2, cS h.f5.f3, .d (.bss h.f5.f4)])]) (g := .func 72) false (.cons (.agg (.cons (.d _) (.cons (.d _) (.cons (.d _) (.cons (.d _) (.cons (.d _) .nil)))))) (.cons (.one (.row rfl rfl rfl rfl)) (.cons (.agg (.cons (.d _) (.cons (.d _) (.cons (.d _) (.cons (.d _) (.cons (.d _) .nil)))))) .nil))) (ok_spec_PutQc l (((putVar (putVar (putVar b h.f0) h.f1) h.f2) ++ h.f3) ++ h.f4) h.f5 (by first | omega | assumption | (simp only [List.length_append] at *; omega)) (by assumption) (by assumption))) ?_
  refine TL.c (Step.extract (p := (.one (.row 1034 []))) rfl rfl (lt_ok rfl) rfl rfl) ?_
  refine TL.c (Step.extract (p := (pB (qcOk l h.f5))) rfl rfl (lt_ok rfl) rfl rfl) ?_
  refine TL.as (.one (.row 1034 [])) ?_
  refine TL.as (pB (qcOk l h.f5)) ?_
  refine TL.nil ?_
  refine T.weaken (E' := { tm := [(6, (.one (.row 1034 []))), (7, (pB (qcOk l h.f5)))], rows := [(1034, (5, (.ints .u8 (putQc l (((putVar (putVar (putVar b h.f0) h.f1) h.f2) ++ h.f3) ++ h.f4) h.f5))))], boxes := [] }) (Env.le_mk ⟨by kernel_rfl, by kernel_rfl, trivial⟩ ⟨by kernel_rfl, trivial⟩ trivial) ?_
  refine T.ret ?_
  refine ⟨[(false, [.row 1034 []]), (false, [.d (.bool (qcOk l h.f5))])], (.cons rfl (.cons rfl .nil)), rfl, [1034], (RetC.own' rfl ?_ rfl (RetC.rd' ?_ .nil))⟩ <;> (first | rfl | (congr 1; have hq_ := headOk_qc (by assumption); simp only [putQc, putHead, putHeadB, hq_, *, if_true]; done) | (congr 1; have hq_ := headOk_qc (by assumption); unfold putQc putHead putHeadB; rw [if_pos hq_, if_pos (by assumption)]) | (show (putHead l b h).length = 0; unfold putHead; rw [if_neg (by simp [*])]; rfl) | (congr 1; symm; assumption) | (congr 1; have hq_ := headOk_qc (by assumption); rw [hq_]; symm; assumption))
theorem ok_spec_ShaInit  : RO Try.prog 147 [] [(false, [.own 3 (.ints .i64 shaInit)])] := by
 refine RO.intro Try.func147 rfl 2 rfl (le_ok rfl) fun w Z => ?_
 refine T.seq ?_
 refine T.region ?_
 refine TL.as (.one (.nil)) ?_
 refine TL.nil ?_
 refine T.seq ?_
 refine T.region ?_
 refine TL.c (Step.lit (e := 3) (z := 1) (by_ := 8) (xs := [.const (.int .i64 1779033703), .const (.int .i64 3144134277), .const (.int .i64 1013904242), .const (.int .i64 2773480762), .const (.int .i64 1359893119), .const (.int .i64 2600822924), .const (.int .i64 528734635), .const (.int .i64 1541459225)]) (pss := [[cI 1779033703], [cI 3144134277], [cI 1013904242], [cI 2773480762], [cI 1359893119], [cI 2600822924], [cI 528734635], [cI 1541459225]]) (es := [(.int .i64 1779033703), (.int .i64 3144134277), (.int .i64 1013904242), (.int .i64 2773480762), (.int .i64 1359893119), (.int .i64 2600822924), (.int .i64 528734635), (.int .i64 1541459225)]) (ss := []) (d := (.ints .i64 [1779033703, 3144134277, 1013904242, 2773480762, 1359893119, 2600822924, 528734635, 1541459225])) rfl rfl (lt_ok rfl) (by kernel_rfl) rfl rfl (.cons rfl (.cons rfl (.cons rfl (.cons rfl (.cons rfl (.cons rfl (.cons rfl (.cons rfl .nil)))))))) (by simp) (le_ok rfl) (le_ok rfl) rfl (.val rfl (.val rfl (.val rfl (.val rfl (.val rfl (.val rfl (.val rfl (.val rfl .nil)))))))) rfl (by simp) (by simp) rfl trivial rfl rfl) ?_
 refine TL.as (.one (.row 1 [])) ?_
 refine TL.nil ?_
 refine T.ret ?_
 refine ⟨[(false, [.row 1 []])], (.cons rfl .nil), rfl, [1], (RetC.own' rfl ?_ rfl .nil)⟩ <;> (rfl)
theorem ok_spec_ShaPad (b : List Int) (h0_ : b.length ≤ 17592186040000) : RO Try.prog 148 [.one (.ints .u8 b)] [(false, [.own 5 (.ints .u8 (shaPad b))])] := by
 refine RO.intro Try.func148 rfl 33 rfl (le_ok rfl) fun w Z => ?_
 refine T.bnd 0 0 rfl rfl fun hb_0_0 => ?_
 simp only [D.size, List.length_map] at hb_0_0
 refine T.seq ?_
 refine T.region ?_
 refine TL.as (.one (.nil)) ?_
 refine TL.nil ?_
 refine T.seq ?_
 refine T.region ?_
 refine TL.mv (pS b) ?_
 refine TL.c (Step.cl (xs := [.tmp 6]) (ps := [(pS b)]) (g := .func 160) false (.cons (.one (.d _)) .nil) (ok_spec_l01Copy b (by first | omega | assumption | (simp only [List.length_take, List.length_drop]; omega)))) ?_
 refine TL.c (Step.lit (e := 5) (z := 1) (by_ := 1) (xs := [.const (.int .u8 128)]) (pss := [[.d (.int .u8 128)]]) (es := [(.int .u8 128)]) (ss := []) (d := (.ints .u8 [128])) rfl rfl (lt_ok rfl) (by kernel_rfl) rfl rfl (.cons rfl .nil) (by simp) (le_ok rfl) (le_ok rfl) rfl (.val rfl .nil) rfl (by simp) (by simp) rfl trivial rfl rfl) ?_
 refine TL.c (Step.append (e := 5) (z := 1) (by_ := 1) (d := (.ints .u8 b)) (dy := (.ints .u8 [128])) (d' := (.ints .u8 (b ++ [128]))) (ss := []) rfl rfl (lt_ok rfl) (by kernel_rfl) rfl rfl rfl (lt_ok rfl) rfl (.copy rfl rfl rfl (by simp [D.flat, D.val])) (by simp) rfl (by simp only [D.size, List.length_map]; first | omega | (simp only [List.length_append, List.length_cons, List.length_nil]; omega) | (simp; omega) | (simp only [List.length_append] at *; omega)) (by simp only [D.size, List.length_map]; first | omega | (simp only [List.length_append, List.length_cons, List.length_nil]; omega) | (simp; omega) | (simp only [List.length_append] at *; omega)) (by simp)) ?_
 refine TL.as (.one (.row 1007 [])) ?_
 refine TL.nil ?_
 refine T.seq ?_
 refine T.block ?_
 refine T.loop (ι := Nat) (fun xx_ => { tm := [(0, (pS b)), (2, (.one (.nil))), (3, (.one (.row 1007 [])))], rows := [(1007, (5, (.ints .u8 (b ++ [128] ++ List.replicate xx_ 0)))), (8, (5, (.ints .u8 [128])))], boxes := [] }) (fun xx_ => xx_ ≤ padK b.length) (fun xx_ => padK b.length - xx_) 0 ?_ ?_ ?_
 · refine Env.le_mk ⟨rfl, rfl, rfl, trivial⟩ ⟨?_, rfl, trivial⟩ trivial <;> (first | rfl | (refine congrArg (fun x => some (_, D.ints .u8 x)) ?_; first | (simp; done) | (rw [List.replicate_succ', List.append_assoc, List.append_assoc]; first | done | rfl) | (simp only [List.append_assoc, List.replicate_succ', padB]; done) | (rw [show i = padK b.length from by unfold padK; omega]; simp [padB]; done)) | (refine congrArg (fun n => PV.one (.d (.int .i64 n))) ?_; first | rfl | omega | (simp; done)))
 · exact Nat.zero_le _
 ·
  intro i hx
  try dsimp only at hx ⊢
  have hl_ : (b ++ [128] ++ List.replicate i 0).length = b.length + 1 + i := by simp; omega
  have hk_ : padK b.length ≤ 63 := by unfold padK; omega
  refine T.seq ?_
  refine T.seq ?_
  refine T.region ?_
  refine TL.mv (.one (.row 1007 [])) ?_
  refine TL.c (Step.len (e := 5) (z := 1) (d := (.ints .u8 (b ++ [128] ++ List.replicate i 0))) rfl rfl (lt_ok rfl) (by kernel_rfl) rfl rfl) ?_
  refine TL.c (Step.bin (r := .int .i64 (((b ++ [128] ++ List.replicate i 0).length : Int) % 64)) rfl rfl (lt_ok rfl) rfl rfl (Bin.rem (k := .i64) (a := ((b ++ [128] ++ List.replicate i 0).length : Int)) (b := 64) (by decide) (Int.tmod_eq_emod_of_nonneg (by first | omega | (simp; omega))))) ?_
  refine TL.c (Step.bin rfl rfl (lt_ok rfl) rfl rfl (Bin.neq (k := .i64) (a := (((b ++ [128] ++ List.replicate i 0).length : Int) % 64)) (b := 56))) ?_
  refine TL.nil ?_
  refine T.cond (b := decide ((((b ++ [128] ++ List.replicate i 0).length : Int) % 64) ≠ 56)) rfl (fun h1 => ?_) (fun h1 => ?_)
  ·
   replace h1 := of_decide_eq_true h1
   refine T.skip ?_
   refine T.block ?_
   refine T.region ?_
   refine TL.mv (.one (.row 1007 [])) ?_
   refine TL.c (Step.lit (e := 5) (z := 1) (by_ := 1) (xs := [.const (.int .u8 0)]) (pss := [[.d (.int .u8 0)]]) (es := [(.int .u8 0)]) (ss := []) (d := (.ints .u8 [0])) rfl rfl (lt_ok rfl) (by kernel_rfl) rfl rfl (.cons rfl .nil) (by simp) (le_ok rfl) (le_ok rfl) rfl (.val rfl .nil) rfl (by simp) (by simp) rfl trivial rfl rfl) ?_
   refine TL.c (Step.append (e := 5) (z := 1) (by_ := 1) (d := (.ints .u8 (b ++ [128] ++ List.replicate i 0))) (dy := (.ints .u8 [0])) (d' := (.ints .u8 ((b ++ [128] ++ List.replicate i 0) ++ [0]))) (ss := []) rfl rfl (lt_ok rfl) (by kernel_rfl) rfl rfl rfl (lt_ok rfl) rfl (.copy rfl rfl rfl (by simp [D.flat, D.val])) (by simp) rfl (by simp only [D.size, List.length_map]; first | omega | (simp only [List.length_append, List.length_cons, List.length_nil]; omega) | (simp; omega) | (simp only [List.length_append] at *; omega)) (by simp only [D.size, List.length_map]; first | omega | (simp only [List.length_append, List.length_cons, List.length_nil]; omega) | (simp; omega) | (simp only [List.length_append] at *; omega)) (by simp)) ?_
   refine TL.as (.one (.row 1007 [])) ?_
   refine TL.nil ?_
   refine ⟨i + 1, by (unfold padK at *; omega), by (unfold padK at *; omega), Env.le_mk ⟨rfl, rfl, rfl, trivial⟩ ⟨?_, rfl, trivial⟩ trivial⟩ <;> (first | rfl | (refine congrArg (fun x => some (_, D.ints .u8 x)) ?_; first | (simp; done) | (rw [List.replicate_succ', List.append_assoc, List.append_assoc]; first | done | rfl) | (simp only [List.append_assoc, List.replicate_succ', padB]; done) | (rw [show i = padK b.length from by unfold padK; omega]; simp [padB]; done)) | (refine congrArg (fun n => PV.one (.d (.int .i64 n))) ?_; first | rfl | omega | (simp; done)))
  ·
   replace h1 := of_decide_eq_false h1
   refine T.exit ?_
   refine T.seq ?_
   refine T.region ?_
   refine TL.mv (pS b) ?_
   refine TL.c (Step.len (e := 5) (z := 1) (d := (.ints .u8 b)) rfl rfl (lt_ok rfl) (by kernel_rfl) rfl rfl) ?_
   refine TL.c (Step.bin (r := .int .i64 (8 * (b.length : Int))) rfl rfl (lt_ok rfl) rfl rfl (Bin.mul (a := 8) (b := (b.length : Int)) (by first | exact wrap_ok (by first | omega | (simp; omega)) (by first | omega | (simp; omega)) | rfl))) ?_
   refine TL.as (pI (8 * (b.length : Int))) ?_
   refine TL.nil ?_
   refine T.seq ?_
   refine T.seq ?_
   refine T.region ?_
   refine TL.as (pI 7) ?_
   refine TL.nil ?_
   refine T.block ?_
   refine T.loop (ι := Nat) (fun xx_ => { tm := [(2, (.one (.nil))), (4, (pI (8 * (b.length : Int)))), (3, (.one (.row 1007 []))), (5, (pI (7 - (xx_ : Int))))], rows := [(1007, (5, (.ints .u8 (b ++ [128] ++ List.replicate (padK b.length) 0 ++ padB b.length xx_)))), (8, (5, (.ints .u8 [128])))], boxes := [] }) (fun xx_ => xx_ ≤ 8) (fun xx_ => 8 - xx_) 0 ?_ ?_ ?_
   · refine Env.le_mk ⟨rfl, rfl, rfl, ?_, trivial⟩ ⟨?_, rfl, trivial⟩ trivial <;> (first | rfl | (refine congrArg (fun x => some (_, D.ints .u8 x)) ?_; first | (simp; done) | (rw [List.replicate_succ', List.append_assoc, List.append_assoc]; first | done | rfl) | (simp only [List.append_assoc, List.replicate_succ', padB]; done) | (rw [show i = padK b.length from by unfold padK at *; omega]; simp [padB]; done)) | (refine congrArg (fun n => PV.one (.d (.int .i64 n))) ?_; first | rfl | omega | (simp; done)))
   · exact Nat.zero_le _
   ·
    intro i hx
    try dsimp only at hx ⊢
    have hl_ : (b ++ [128] ++ List.replicate (padK b.length) 0 ++ padB b.length i).length = b.length + 1 + padK b.length + i := by simp [padB_len]; omega
    have hl3_ := padB_len b.length i
    have hk_ : padK b.length ≤ 63 := by unfold padK; omega
    refine T.seq ?_
    refine T.seq ?_
    refine T.region ?_
    refine TL.mv (pI (7 - (i : Int))) ?_
    refine TL.c (Step.bin rfl rfl (lt_ok rfl) rfl rfl (Bin.geq (k := .i64) (a := (7 - (i : Int))) (b := 0))) ?_
    refine TL.nil ?_
    refine T.cond (b := decide (0 ≤ (7 - (i : Int)))) rfl (fun h2 => ?_) (fun h2 => ?_)
    ·
     replace h2 := of_decide_eq_true h2
     refine T.skip ?_
     refine T.seq ?_
     refine T.block ?_
     refine T.region ?_
     refine TL.mv (.one (.row 1007 [])) ?_
     refine TL.mv (pI (8 * (b.length : Int))) ?_
     refine TL.mv (pI (7 - (i : Int))) ?_
     refine TL.c (Step.bin (r := .int .i64 (8 * (7 - (i : Int)))) rfl rfl (lt_ok rfl) rfl rfl (Bin.mul (a := 8) (b := (7 - (i : Int))) (by first | exact wrap_ok (by first | omega | (simp; omega)) (by first | omega | (simp; omega)) | rfl))) ?_
     refine TL.c (Step.bin (r := .int .i64 (bshr (8 * (b.length : Int)) (8 * (7 - (i : Int))))) rfl rfl (lt_ok rfl) rfl rfl (Bin.shr (k := .i64) (k' := .i64) (a := (8 * (b.length : Int))) (b := (8 * (7 - (i : Int)))) (by first | omega | (simp; omega)) (rfl))) ?_
     refine TL.c (Step.conv (c := ((bshr (8 * (b.length : Int)) (8 * (7 - (i : Int)))) % 256)) rfl rfl (lt_ok rfl) (by kernel_rfl) (by kernel_rfl) rfl (wrap_byte _)) ?_
     refine TL.c (Step.lit (e := 5) (z := 1) (by_ := 1) (xs := [.tmp 29]) (pss := [[.d (.int .u8 ((bshr (8 * (b.length : Int)) (8 * (7 - (i : Int)))) % 256))]]) (es := [(.int .u8 ((bshr (8 * (b.length : Int)) (8 * (7 - (i : Int)))) % 256))]) (ss := []) (d := (.ints .u8 [(bshr (8 * (b.length : Int)) (8 * (7 - (i : Int)))) % 256])) rfl rfl (lt_ok rfl) (by kernel_rfl) rfl rfl (.cons rfl .nil) (by simp) (le_ok rfl) (le_ok rfl) rfl (.val rfl .nil) rfl (by simp) (by simp) rfl trivial rfl rfl) ?_
     refine TL.c (Step.append (e := 5) (z := 1) (by_ := 1) (d := (.ints .u8 (b ++ [128] ++ List.replicate (padK b.length) 0 ++ padB b.length i))) (dy := (.ints .u8 [(bshr (8 * (b.length : Int)) (8 * (7 - (i : Int)))) % 256])) (d' := (.ints .u8 ((b ++ [128] ++ List.replicate (padK b.length) 0 ++ padB b.length i) ++ [(bshr (8 * (b.length : Int)) (8 * (7 - (i : Int)))) % 256]))) (ss := []) rfl rfl (lt_ok rfl) (by kernel_rfl) rfl rfl rfl (lt_ok rfl) rfl (.copy rfl rfl rfl (by simp [D.flat, D.val])) (by simp) rfl (by simp only [D.size, List.length_map]; first | omega | (simp only [List.length_append, List.length_cons, List.length_nil]; omega) | (simp; omega) | (simp only [List.length_append] at *; omega)) (by simp only [D.size, List.length_map]; first | omega | (simp only [List.length_append, List.length_cons, List.length_nil]; omega) | (simp; omega) | (simp only [List.length_append] at *; omega)) (by simp)) ?_
     refine TL.as (.one (.row 1007 [])) ?_
     refine TL.nil ?_
     refine T.region ?_
     refine TL.mv (pI (7 - (i : Int))) ?_
     refine TL.c (Step.bin (r := .int .i64 ((7 - (i : Int)) - 1)) rfl rfl (lt_ok rfl) rfl rfl (Bin.sub (a := (7 - (i : Int))) (b := 1) (by first | exact wrap_ok (by first | omega | (simp; omega)) (by first | omega | (simp; omega)) | rfl))) ?_
     refine TL.as (pI ((7 - (i : Int)) - 1)) ?_
     refine TL.nil ?_
     refine ⟨i + 1, by omega, by omega, Env.le_mk ⟨rfl, rfl, rfl, ?_, trivial⟩ ⟨?_, rfl, trivial⟩ trivial⟩ <;> (first | rfl | (refine congrArg (fun x => some (_, D.ints .u8 x)) ?_; first | (simp; done) | (rw [List.replicate_succ', List.append_assoc, List.append_assoc]; first | done | rfl) | (simp only [List.append_assoc, List.replicate_succ', padB]; done) | (rw [show i = padK b.length from by unfold padK at *; omega]; simp [padB]; done)) | (refine congrArg (fun n => PV.one (.d (.int .i64 n))) ?_; first | rfl | omega | (simp; done)))
    ·
     replace h2 := of_decide_eq_false h2
     refine T.exit ?_
     refine T.seq ?_
     refine T.region ?_
     refine TL.mv (.one (.row 1007 [])) ?_
     refine TL.as (.one (.row 1007 [])) ?_
     refine TL.nil ?_
     refine T.ret ?_
     refine ⟨[(false, [.row 1007 []])], (.cons rfl .nil), rfl, [1007], (RetC.own' rfl ?_ rfl .nil)⟩ <;> ((congr 1; unfold shaPad; rw [show i = 8 from by omega]))
theorem ok_spec_l04Word (x : Int) : RO Try.prog 186 [.one (.int .i64 x)] [(false, [.rd (.bool (decide (0 ≤ x ∧ x ≤ 4294967295)))])] := by
 refine RO.intro Try.func186 rfl 5 rfl (le_ok rfl) fun w Z => ?_
 refine T.seq ?_
 refine T.region ?_
 refine TL.as (pB false) ?_
 refine TL.nil ?_
 refine T.seq ?_
 refine T.region ?_
 refine TL.mv (pI x) ?_
 refine TL.c (Step.cl (xs := [.tmp 3, .const (.int .i64 0), .const (.int .i64 4294967295)]) (ps := [(pI x), (pI 0), (pI 4294967295)]) (g := .func 114) false (.cons (.one (.d _)) (.cons (.one (.d _)) (.cons (.one (.d _)) .nil))) (ok_spec_l01In x 0 4294967295)) ?_
 refine TL.as (pB (decide (0 ≤ x ∧ x ≤ 4294967295))) ?_
 refine TL.nil ?_
 refine T.ret ?_
 exact ⟨[(false, [.d (.bool (decide (0 ≤ x ∧ x ≤ 4294967295)))])], (.cons rfl .nil), rfl, [], (RetC.rd' rfl .nil)⟩
theorem ok_spec_l04Turn (x : Int) (n : Int) (h0_ : 0 ≤ n ∧ n ≤ 31) : RO Try.prog 187 [.one (.int .i64 x), .one (.int .i64 n)] [(false, [.rd (.int .i64 (turnW x n))])] := by
 refine RO.intro Try.func187 rfl 14 rfl (le_ok rfl) fun w Z => ?_
 refine T.seq ?_
 refine T.region ?_
 refine TL.as (pI 0) ?_
 refine TL.nil ?_
 refine T.seq ?_
 refine T.draw [⟨5, (pI x), []⟩, ⟨6, (pI n), []⟩, ⟨7, (pI (bshr x n)), []⟩, ⟨8, (pI x), []⟩, ⟨9, (pI n), []⟩, ⟨10, (pI (32 - n)), []⟩, ⟨11, (pI (bshl x (32 - n))), []⟩, ⟨12, (pI (bor (bshr x n) (bshl x (32 - n)))), []⟩, ⟨13, (pI (band (bor (bshr x n) (bshl x (32 - n))) 4294967295)), []⟩, ⟨4, (pI (band (bor (bshr x n) (bshl x (32 - n))) 4294967295)), []⟩] (by kernel_rfl) (by kernel_rfl) ?_ ?_
 ·
  refine .cons (fun E A => A.mv 0 5) ?_
  refine .cons (fun E A => A.mv 1 6) ?_
  refine .cons (fun E A => OpStep.plain rfl (Step.bd (r := .int .i64 (bshr x n)) 7 (A.g 5 rfl) (A.g 6 rfl) (Bin.shr (k := .i64) (k' := .i64) (a := x) (b := n) (by first | omega | (simp; omega)) (rfl)))) ?_
  refine .cons (fun E A => A.mv 0 8) ?_
  refine .cons (fun E A => A.mv 1 9) ?_
  refine .cons (fun E A => OpStep.plain rfl (Step.bd (r := .int .i64 (32 - n)) 10 rfl (A.g 9 rfl) (Bin.sub (a := 32) (b := n) (by first | exact wrap_ok (by first | omega | (simp; omega)) (by first | omega | (simp; omega)) | rfl)))) ?_
  refine .cons (fun E A => OpStep.plain rfl (Step.bd (r := .int .i64 (bshl x (32 - n))) 11 (A.g 8 rfl) (A.g 10 rfl) (Bin.shl (k := .i64) (k' := .i64) (a := x) (b := (32 - n)) (by first | omega | (simp; omega)) (rfl)))) ?_
  refine .cons (fun E A => OpStep.plain rfl (Step.bd (r := .int .i64 (bor (bshr x n) (bshl x (32 - n)))) 12 (A.g 7 rfl) (A.g 11 rfl) (Bin.or (k := .i64) (a := (bshr x n)) (b := (bshl x (32 - n))) (rfl)))) ?_
  refine .cons (fun E A => OpStep.plain rfl (Step.bd (r := .int .i64 (band (bor (bshr x n) (bshl x (32 - n))) 4294967295)) 13 (A.g 12 rfl) rfl (Bin.and (k := .i64) (a := (bor (bshr x n) (bshl x (32 - n)))) (b := 4294967295) (rfl)))) ?_
  refine .cons (fun E A => A.as 13 4) ?_
  exact .nil _ _
 refine TL.nil ?_
 refine T.ret ?_
 refine ⟨[(false, [cI (band (bor (bshr x n) (bshl x (32 - n))) 4294967295)])], (.cons rfl .nil), rfl, [], (RetC.rd' ?_ .nil)⟩ <;> (rfl)
theorem ok_spec_l04K  : RO Try.prog 188 [] [(false, [.own 3 (.ints .i64 shaK)])] := by
 refine RO.intro Try.func188 rfl 2 rfl (le_ok rfl) fun w Z => ?_
 refine T.seq ?_
 refine T.region ?_
 refine TL.as (.one (.nil)) ?_
 refine TL.nil ?_
 refine T.seq ?_
 refine T.region ?_
 refine TL.c (Step.lit (e := 3) (z := 1) (by_ := 8) (xs := [.const (.int .i64 1116352408), .const (.int .i64 1899447441), .const (.int .i64 3049323471), .const (.int .i64 3921009573), .const (.int .i64 961987163), .const (.int .i64 1508970993), .const (.int .i64 2453635748), .const (.int .i64 2870763221), .const (.int .i64 3624381080), .const (.int .i64 310598401), .const (.int .i64 607225278), .const (.int .i64 1426881987), .const (.int .i64 1925078388), .const (.int .i64 2162078206), .const (.int .i64 2614888103), .const (.int .i64 3248222580), .const (.int .i64 3835390401), .const (.int .i64 4022224774), .const (.int .i64 264347078), .const (.int .i64 604807628), .const (.int .i64 770255983), .const (.int .i64 1249150122), .const (.int .i64 1555081692), .const (.int .i64 1996064986), .const (.int .i64 2554220882), .const (.int .i64 2821834349), .const (.int .i64 2952996808), .const (.int .i64 3210313671), .const (.int .i64 3336571891), .const (.int .i64 3584528711), .const (.int .i64 113926993), .const (.int .i64 338241895), .const (.int .i64 666307205), .const (.int .i64 773529912), .const (.int .i64 1294757372), .const (.int .i64 1396182291), .const (.int .i64 1695183700), .const (.int .i64 1986661051), .const (.int .i64 2177026350), .const (.int .i64 2456956037), .const (.int .i64 2730485921), .const (.int .i64 2820302411), .const (.int .i64 3259730800), .const (.int .i64 3345764771), .const (.int .i64 3516065817), .const (.int .i64 3600352804), .const (.int .i64 4094571909), .const (.int .i64 275423344), .const (.int .i64 430227734), .const (.int .i64 506948616), .const (.int .i64 659060556), .const (.int .i64 883997877), .const (.int .i64 958139571), .const (.int .i64 1322822218), .const (.int .i64 1537002063), .const (.int .i64 1747873779), .const (.int .i64 1955562222), .const (.int .i64 2024104815), .const (.int .i64 2227730452), .const (.int .i64 2361852424), .const (.int .i64 2428436474), .const (.int .i64 2756734187), .const (.int .i64 3204031479), .const (.int .i64 3329325298)]) (pss := [[cI 1116352408], [cI 1899447441], [cI 3049323471], [cI 3921009573], [cI 961987163], [cI 1508970993], [cI 2453635748], [cI 2870763221], [cI 3624381080], [cI 310598401], [cI 607225278], [cI 1426881987], [cI 1925078388], [cI 2162078206], [cI 2614888103], [cI 3248222580], [cI 3835390401], [cI 4022224774], [cI 264347078], [cI 604807628], [cI 770255983], [cI 1249150122], [cI 1555081692], [cI 1996064986], [cI 2554220882], [cI 2821834349], [cI 2952996808], [cI 3210313671], [cI 3336571891], [cI 3584528711], [cI 113926993], [cI 338241895], [cI 666307205], [cI 773529912], [cI 1294757372], [cI 1396182291], [cI 1695183700], [cI 1986661051], [cI 2177026350], [cI 2456956037], [cI 2730485921], [cI 2820302411], [cI 3259730800], [cI 3345764771], [cI 3516065817], [cI 3600352804], [cI 4094571909], [cI 275423344], [cI 430227734], [cI 506948616], [cI 659060556], [cI 883997877], [cI 958139571], [cI 1322822218], [cI 1537002063], [cI 1747873779], [cI 1955562222], [cI 2024104815], [cI 2227730452], [cI 2361852424], [cI 2428436474], [cI 2756734187], [cI 3204031479], [cI 3329325298]]) (es := [(.int .i64 1116352408), (.int .i64 1899447441), (.int .i64 3049323471), (.int .i64 3921009573), (.int .i64 961987163), (.int .i64 1508970993), (.int .i64 2453635748), (.int .i64 2870763221), (.int .i64 3624381080), (.int .i64 310598401), (.int .i64 607225278), (.int .i64 1426881987), (.int .i64 1925078388), (.int .i64 2162078206), (.int .i64 2614888103), (.int .i64 3248222580), (.int .i64 3835390401), (.int .i64 4022224774), (.int .i64 264347078), (.int .i64 604807628), (.int .i64 770255983), (.int .i64 1249150122), (.int .i64 1555081692), (.int .i64 1996064986), (.int .i64 2554220882), (.int .i64 2821834349), (.int .i64 2952996808), (.int .i64 3210313671), (.int .i64 3336571891), (.int .i64 3584528711), (.int .i64 113926993), (.int .i64 338241895), (.int .i64 666307205), (.int .i64 773529912), (.int .i64 1294757372), (.int .i64 1396182291), (.int .i64 1695183700), (.int .i64 1986661051), (.int .i64 2177026350), (.int .i64 2456956037), (.int .i64 2730485921), (.int .i64 2820302411), (.int .i64 3259730800), (.int .i64 3345764771), (.int .i64 3516065817), (.int .i64 3600352804), (.int .i64 4094571909), (.int .i64 275423344), (.int .i64 430227734), (.int .i64 506948616), (.int .i64 659060556), (.int .i64 883997877), (.int .i64 958139571), (.int .i64 1322822218), (.int .i64 1537002063), (.int .i64 1747873779), (.int .i64 1955562222), (.int .i64 2024104815), (.int .i64 2227730452), (.int .i64 2361852424), (.int .i64 2428436474), (.int .i64 2756734187), (.int .i64 3204031479), (.int .i64 3329325298)]) (ss := []) (d := (.ints .i64 [1116352408, 1899447441, 3049323471, 3921009573, 961987163, 1508970993, 2453635748, 2870763221, 3624381080, 310598401, 607225278, 1426881987, 1925078388, 2162078206, 2614888103, 3248222580, 3835390401, 4022224774, 264347078, 604807628, 770255983, 1249150122, 1555081692, 1996064986, 2554220882, 2821834349, 2952996808, 3210313671, 3336571891, 3584528711, 113926993, 338241895, 666307205, 773529912, 1294757372, 1396182291, 1695183700, 1986661051, 2177026350, 2456956037, 2730485921, 2820302411, 3259730800, 3345764771, 3516065817, 3600352804, 4094571909, 275423344, 430227734, 506948616, 659060556, 883997877, 958139571, 1322822218, 1537002063, 1747873779, 1955562222, 2024104815, 2227730452, 2361852424, 2428436474, 2756734187, 3204031479, 3329325298])) rfl rfl (lt_ok rfl) (by kernel_rfl) rfl rfl (.cons rfl (.cons rfl (.cons rfl (.cons rfl (.cons rfl (.cons rfl (.cons rfl (.cons rfl (.cons rfl (.cons rfl (.cons rfl (.cons rfl (.cons rfl (.cons rfl (.cons rfl (.cons rfl (.cons rfl (.cons rfl (.cons rfl (.cons rfl (.cons rfl (.cons rfl (.cons rfl (.cons rfl (.cons rfl (.cons rfl (.cons rfl (.cons rfl (.cons rfl (.cons rfl (.cons rfl (.cons rfl (.cons rfl (.cons rfl (.cons rfl (.cons rfl (.cons rfl (.cons rfl (.cons rfl (.cons rfl (.cons rfl (.cons rfl (.cons rfl (.cons rfl (.cons rfl (.cons rfl (.cons rfl (.cons rfl (.cons rfl (.cons rfl (.cons rfl (.cons rfl (.cons rfl (.cons rfl (.cons rfl (.cons rfl (.cons rfl (.cons rfl (.cons rfl (.cons rfl (.cons rfl (.cons rfl (.cons rfl (.cons rfl .nil)))))))))))))))))))))))))))))))))))))))))))))))))))))))))))))))) (by simp) (le_ok rfl) (le_ok rfl) rfl (.val rfl (.val rfl (.val rfl (.val rfl (.val rfl (.val rfl (.val rfl (.val rfl (.val rfl (.val rfl (.val rfl (.val rfl (.val rfl (.val rfl (.val rfl (.val rfl (.val rfl (.val rfl (.val rfl (.val rfl (.val rfl (.val rfl (.val rfl (.val rfl (.val rfl (.val rfl (.val rfl (.val rfl (.val rfl (.val rfl (.val rfl (.val rfl (.val rfl (.val rfl (.val rfl (.val rfl (.val rfl (.val rfl (.val rfl (.val rfl (.val rfl (.val rfl (.val rfl (.val rfl (.val rfl (.val rfl (.val rfl (.val rfl (.val rfl (.val rfl (.val rfl (.val rfl (.val rfl (.val rfl (.val rfl (.val rfl (.val rfl (.val rfl (.val rfl (.val rfl (.val rfl (.val rfl (.val rfl (.val rfl .nil)))))))))))))))))))))))))))))))))))))))))))))))))))))))))))))))) rfl (by simp) (by simp) rfl trivial rfl rfl) ?_
 refine TL.as (.one (.row 1 [])) ?_
 refine TL.nil ?_
 refine T.ret ?_
 refine ⟨[(false, [.row 1 []])], (.cons rfl .nil), rfl, [1], (RetC.own' rfl ?_ rfl .nil)⟩ <;> (rfl)
end Go.Proofs.Ytlcmflenbddliaa.Rf
