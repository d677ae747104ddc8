/- The functions that FnExactGetBlock calls, each held to what it answers. Printed by a program of this session; Lean checks it. -/
import Derived.Test.YtlcmflenbddliaaProg
import Derived.Test.YtlcmflenbddliaaTrFnExactGetBlockb
namespace Go.Proofs.Ytlcmflenbddliaa.Rf
open Go.RowKit
set_option linter.unusedVariables false
set_option linter.unnecessarySimpa false
set_option linter.unusedSimpArgs false
set_option maxRecDepth 100000
set_option maxHeartbeats 4000000
@[ext] structure SLimits where
  f0 : Int
  f1 : Int
  f2 : Int
  f3 : Int
  f4 : Int
  deriving Inhabited, DecidableEq
def SLimits.cells (x : SLimits) : List D := [(.int .i64 x.f0), (.int .i64 x.f1), (.int .i64 x.f2), (.int .i64 x.f3), (.int .i64 x.f4)]
def SLimits.ok (x : SLimits) : Prop := (I64 x.f0) ∧ (I64 x.f1) ∧ (I64 x.f2) ∧ (I64 x.f3) ∧ (I64 x.f4)
@[ext] structure SQc where
  f0 : Int
  f1 : Int
  f2 : List Int
  f3 : List Int
  f4 : List (List Int)
  deriving Inhabited, DecidableEq
def SQc.cells (x : SQc) : List D := [(.int .i64 x.f0), (.int .i64 x.f1), (.ints .u8 x.f2), (.ints .u8 x.f3), (.bss x.f4)]
def SQc.sm (x : SQc) : Prop := (x.f2.length ≤ 1048576) ∧ (x.f3.length ≤ 1048576) ∧ (x.f4.length ≤ 1048576 ∧ ∀ y ∈ x.f4, y.length ≤ 1048576)
def SQc.ok (x : SQc) : Prop := (I64 x.f0) ∧ (I64 x.f1) ∧ (U8s x.f2) ∧ (U8s x.f3) ∧ (∀ y ∈ x.f4, U8s y)
def SQc.cm (x : SQc) : Int := (x.f2.length : Int) + (x.f3.length : Int) + cntL (fun x : List Int => (x.length : Int)) x.f4
def SQc.hm (a b : SQc) (k : Int) : Prop := (b.f2 = mkB a.f2 k) ∧ (b.f3 = mkB a.f3 (k + (a.f2.length : Int))) ∧ (b.f4 = mkBs a.f4 ((k + (a.f2.length : Int)) + (a.f3.length : Int)))
theorem SQc.cm_nn (x : SQc) : 0 ≤ x.cm := by
  unfold SQc.cm
  have n4 := cntBs_nonneg x.f4
  omega
theorem SQc.cm_le {x : SQc} (h : x.sm) : x.cm ≤ 1099513724928 := by
  unfold SQc.cm
  obtain ⟨p2, p3, p4⟩ := h
  have e2 := p2
  have e3 := p3
  have e4 := cntBs_le p4
  omega
@[ext] structure SHead where
  f0 : Int
  f1 : Int
  f2 : Int
  f3 : List Int
  f4 : List Int
  f5 : SQc
  deriving Inhabited, DecidableEq
def SHead.cells (x : SHead) : List D := [(.int .i64 x.f0), (.int .i64 x.f1), (.int .i64 x.f2), (.ints .u8 x.f3), (.ints .u8 x.f4), (.int .i64 x.f5.f0), (.int .i64 x.f5.f1), (.ints .u8 x.f5.f2), (.ints .u8 x.f5.f3), (.bss x.f5.f4)]
def SHead.sm (x : SHead) : Prop := (x.f3.length ≤ 1048576) ∧ (x.f4.length ≤ 1048576) ∧ (x.f5.sm)
def SHead.ok (x : SHead) : Prop := (I64 x.f0) ∧ (I64 x.f1) ∧ (I64 x.f2) ∧ (U8s x.f3) ∧ (U8s x.f4) ∧ (x.f5.ok)
def SHead.cm (x : SHead) : Int := (x.f3.length : Int) + (x.f4.length : Int) + x.f5.cm
def SHead.hm (a b : SHead) (k : Int) : Prop := (b.f3 = mkB a.f3 k) ∧ (b.f4 = mkB a.f4 (k + (a.f3.length : Int))) ∧ (SQc.hm a.f5 b.f5 ((k + (a.f3.length : Int)) + (a.f4.length : Int)))
theorem SHead.cm_nn (x : SHead) : 0 ≤ x.cm := by
  unfold SHead.cm
  have n5 := SQc.cm_nn x.f5
  omega
theorem SHead.cm_le {x : SHead} (h : x.sm) : x.cm ≤ 1099515822080 := by
  unfold SHead.cm
  obtain ⟨p3, p4, p5⟩ := h
  have e3 := p3
  have e4 := p4
  have e5 := SQc.cm_le p5
  omega
@[ext] structure SBlock where
  f0 : SHead
  f1 : List (List Int)
  deriving Inhabited, DecidableEq
def SBlock.cells (x : SBlock) : List D := [(.int .i64 x.f0.f0), (.int .i64 x.f0.f1), (.int .i64 x.f0.f2), (.ints .u8 x.f0.f3), (.ints .u8 x.f0.f4), (.int .i64 x.f0.f5.f0), (.int .i64 x.f0.f5.f1), (.ints .u8 x.f0.f5.f2), (.ints .u8 x.f0.f5.f3), (.bss x.f0.f5.f4), (.bss x.f1)]
def SBlock.sm (x : SBlock) : Prop := (x.f0.sm) ∧ (x.f1.length ≤ 1048576 ∧ ∀ y ∈ x.f1, y.length ≤ 1048576)
def SBlock.cm (x : SBlock) : Int := x.f0.cm + cntL (fun x : List Int => (x.length : Int)) x.f1
def SBlock.hm (a b : SBlock) (k : Int) : Prop := (SHead.hm a.f0 b.f0 k) ∧ (b.f1 = mkBs a.f1 (k + a.f0.cm))
theorem SBlock.cm_nn (x : SBlock) : 0 ≤ x.cm := by
  unfold SBlock.cm
  have n0 := SHead.cm_nn x.f0
  have n1 := cntBs_nonneg x.f1
  omega
theorem SBlock.cm_le {x : SBlock} (h : x.sm) : x.cm ≤ 2199027449856 := by
  unfold SBlock.cm
  obtain ⟨p0, p1⟩ := h
  have e0 := SHead.cm_le p0
  have e1 := cntBs_le p1
  omega
theorem SBlock.sm_df : (default : SBlock).sm := by (repeat' (first | exact Nat.zero_le _ | (intro y hy; exact absurd hy (List.not_mem_nil)) | apply And.intro))
def limOk (l : SLimits) : Bool := decide (1 ≤ l.f0 ∧ l.f0 ≤ 10) && decide (0 ≤ l.f1 ∧ l.f1 ≤ 40) && decide (0 ≤ l.f2 ∧ l.f2 ≤ 8) && decide (1 ≤ l.f3 ∧ l.f3 ≤ 4000) && decide (3 ≤ l.f4 ∧ l.f4 ≤ 5)
@[ext] structure SRS where
  f0 : Int
  f1 : Int
  deriving Inhabited, DecidableEq
theorem gv_cut {b : List Int} {a : Int} {i : Nat} (hi : i < 9) : ∃ d, 9 - i = d + 1 ∧ 9 - (i + 1) = d := ⟨8 - i, by omega, by omega⟩
theorem gvGo_short {b : List Int} {a n : Int} {i : Nat} (hi : i < 9) (h : (b.length : Int) ≤ a + i) : gvGo b a (9 - i) i n = (0, 0, 1) := by
  obtain ⟨d, e, _⟩ := gv_cut (b := b) (a := a) hi; rw [e, gvGo, if_pos h]
theorem gvGo_var {b : List Int} {a n : Int} {i : Nat} (hi : i < 9) (h : ¬ (b.length : Int) ≤ a + i) (h2 : (0 < i ∧ b.getD (a + i).toNat 0 = 0) ∨ (i = 8 ∧ 128 ≤ b.getD (a + i).toNat 0)) : gvGo b a (9 - i) i n = (0, 0, 2) := by
  obtain ⟨d, e, _⟩ := gv_cut (b := b) (a := a) hi; rw [e, gvGo, if_neg h, if_pos h2]
theorem gvGo_done {b : List Int} {a n : Int} {i : Nat} (hi : i < 9) (h : ¬ (b.length : Int) ≤ a + i) (h2 : ¬ ((0 < i ∧ b.getD (a + i).toNat 0 = 0) ∨ (i = 8 ∧ 128 ≤ b.getD (a + i).toNat 0))) (h3 : b.getD (a + i).toNat 0 < 128) (h4 : n + b.getD (a + i).toNat 0 % 128 * 128 ^ i ≤ 1152921504606846975) : gvGo b a (9 - i) i n = (n + b.getD (a + i).toNat 0 % 128 * 128 ^ i, a + i + 1, 0) := by
  obtain ⟨d, e, _⟩ := gv_cut (b := b) (a := a) hi; rw [e, gvGo, if_neg h, if_neg h2, if_pos h3, if_pos h4]
theorem gvGo_big {b : List Int} {a n : Int} {i : Nat} (hi : i < 9) (h : ¬ (b.length : Int) ≤ a + i) (h2 : ¬ ((0 < i ∧ b.getD (a + i).toNat 0 = 0) ∨ (i = 8 ∧ 128 ≤ b.getD (a + i).toNat 0))) (h3 : b.getD (a + i).toNat 0 < 128) (h4 : ¬ n + b.getD (a + i).toNat 0 % 128 * 128 ^ i ≤ 1152921504606846975) : gvGo b a (9 - i) i n = (0, 0, 2) := by
  obtain ⟨d, e, _⟩ := gv_cut (b := b) (a := a) hi; rw [e, gvGo, if_neg h, if_neg h2, if_pos h3, if_neg h4]
theorem gvGo_next {b : List Int} {a n : Int} {i : Nat} (hi : i < 9) (h : ¬ (b.length : Int) ≤ a + i) (h2 : ¬ ((0 < i ∧ b.getD (a + i).toNat 0 = 0) ∨ (i = 8 ∧ 128 ≤ b.getD (a + i).toNat 0))) (h3 : ¬ b.getD (a + i).toNat 0 < 128) : gvGo b a (9 - i) i n = gvGo b a (9 - (i + 1)) (i + 1) (n + b.getD (a + i).toNat 0 % 128 * 128 ^ i) := by
  obtain ⟨d, e, e2⟩ := gv_cut (b := b) (a := a) hi; rw [e, e2, gvGo, if_neg h, if_neg h2, if_neg h3]
theorem gvGo_end {b : List Int} {a n : Int} {i : Nat} (hi : ¬ i < 9) : gvGo b a (9 - i) i n = (0, 0, 2) := by rw [show 9 - i = 0 from by omega]; rfl
theorem getVar_in {b : List Int} {a : Int} (h : 0 ≤ a ∧ a ≤ (b.length : Int)) : getVar b a = gvGo b a 9 0 0 := if_pos h
theorem getVar_out {b : List Int} {a : Int} (h : ¬ (0 ≤ a ∧ a ≤ (b.length : Int))) : getVar b a = (0, 0, 1) := if_neg h
def getRaw (b : List Int) (a n : Int) : List Int × Int × Int := if 0 ≤ a ∧ a ≤ (b.length : Int) ∧ 0 ≤ n ∧ n ≤ (b.length : Int) - a then ((b.drop a.toNat).take ((a + n).toNat - a.toNat), a + n, 0) else ([], 0, 1)
theorem getRaw_bd (b : List Int) (a n : Int) : (getRaw b a n).1.length ≤ b.length ∧ 0 ≤ (getRaw b a n).2.1 ∧ (getRaw b a n).2.1 ≤ b.length ∧ (n ≤ 0 → (getRaw b a n).1.length = 0) ∧ (0 ≤ n → ((getRaw b a n).1.length : Int) ≤ n) := by
  unfold getRaw
  split
  · simp only [List.length_take, List.length_drop]; omega
  · simp
theorem getRaw_u8 {b : List Int} (h : U8s b) (a n : Int) : U8s (getRaw b a n).1 := by
  unfold getRaw
  split
  · exact fun x hx => h x (List.mem_of_mem_drop (List.mem_of_mem_take hx))
  · exact fun x hx => by cases hx
def getText (b : List Int) (a m : Int) : List Int × Int × Int := if (getVar b a).2.2 = 0 then (if m < (getVar b a).1 then ([], 0, 3) else getRaw b (getVar b a).2.1 (getVar b a).1) else ([], 0, (getVar b a).2.2)
theorem getText_bd (b : List Int) (a m : Int) : (getText b a m).1.length ≤ b.length ∧ 0 ≤ (getText b a m).2.1 ∧ (getText b a m).2.1 ≤ b.length := by
  unfold getText
  split
  · split
    · simp
    · have := getRaw_bd b (getVar b a).2.1 (getVar b a).1; omega
  · simp
def rs0 (l : SLimits) (a : Int) : SRS := ⟨a, if limOk l = true then 0 else 5⟩
theorem rs0_ok {l : SLimits} {a : Int} (h : limOk l = true) : rs0 l a = ⟨a, 0⟩ := by rw [rs0, if_pos h]
theorem rs0_no {l : SLimits} {a : Int} (h : limOk l = false) : rs0 l a = ⟨a, 5⟩ := by rw [rs0, h]; rfl
def rdMust (s : SRS) (k : Bool) (c : Int) : SRS := if s.f1 = 0 ∧ k = false then ⟨s.f0, c⟩ else s
def rdNum (b : List Int) (s : SRS) : SRS × Int := if s.f1 = 0 then (⟨(getVar b s.f0).2.1, (getVar b s.f0).2.2⟩, (getVar b s.f0).1) else (s, 0)
def rdRaw (b : List Int) (s : SRS) (n : Int) : SRS × List Int := if s.f1 = 0 then (⟨(getRaw b s.f0 n).2.1, (getRaw b s.f0 n).2.2⟩, (getRaw b s.f0 n).1) else (s, [])
def rdText (b : List Int) (s : SRS) (m : Int) : SRS × List Int := if s.f1 = 0 then (⟨(getText b s.f0 m).2.1, (getText b s.f0 m).2.2⟩, (getText b s.f0 m).1) else (s, [])
def rdBelow (b : List Int) (s : SRS) (n c : Int) : SRS × Int := (rdMust (rdNum b s).1 (decide ((rdNum b s).2 < n)) c, (rdNum b s).2)
theorem rdMust_er {s : SRS} {k : Bool} {c : Int} (h : ¬ s.f1 = 0) : rdMust s k c = s := by rw [rdMust, if_neg (fun x => h x.1)]
theorem rdMust_hit {s : SRS} {k : Bool} {c : Int} (h : s.f1 = 0) (hk : k = false) : rdMust s k c = ⟨s.f0, c⟩ := by rw [rdMust, if_pos ⟨h, hk⟩]
theorem rdMust_ok {s : SRS} {k : Bool} {c : Int} (hk : k = true) : rdMust s k c = s := by subst hk; rw [rdMust, if_neg (fun x => by cases x.2)]
theorem rdNum_er {b : List Int} {s : SRS} (h : ¬ s.f1 = 0) : rdNum b s = (s, 0) := if_neg h
theorem rdRaw_er {b : List Int} {s : SRS} {n : Int} (h : ¬ s.f1 = 0) : rdRaw b s n = (s, []) := if_neg h
theorem rdBelow_er {b : List Int} {s : SRS} {n c : Int} (h : ¬ s.f1 = 0) : rdBelow b s n c = (s, 0) := by unfold rdBelow; rw [rdNum_er h]; rw [rdMust_er h]
theorem rdNum_bd {b : List Int} (hb : U8s b) (s : SRS) : 0 ≤ (rdNum b s).2 ∧ (rdNum b s).2 ≤ 1152921504606846975 := by
  unfold rdNum
  split
  · have := getVar_bd hb s.f0; dsimp only; omega
  · simp
theorem rdRaw_len (b : List Int) (s : SRS) (n : Int) : (rdRaw b s n).2.length ≤ b.length ∧ (0 ≤ n → ((rdRaw b s n).2.length : Int) ≤ n) := by
  unfold rdRaw
  split
  · have := getRaw_bd b s.f0 n; exact ⟨this.1, this.2.2.2.2⟩
  · simp
theorem rdText_len (b : List Int) (s : SRS) (n : Int) : (rdText b s n).2.length ≤ b.length := by
  unfold rdText
  split
  · exact (getText_bd b s.f0 n).1
  · simp
def getOut {α : Type} (r : SRS × α) (d : α) : α × Int × Int := if r.1.f1 = 0 then (r.2, r.1.f0, 0) else (d, 0, r.1.f1)
theorem getOut_yes {α : Type} {r : SRS × α} {d : α} (h : ¬ r.1.f1 ≠ 0) : getOut r d = (r.2, r.1.f0, 0) := if_pos (Decidable.not_not.1 h)
theorem getOut_no {α : Type} {r : SRS × α} {d : α} (h : r.1.f1 ≠ 0) : getOut r d = (d, 0, r.1.f1) := if_neg h
theorem getOut_pr {α : Type} {p : α → Prop} {r : SRS × α} {d : α} (h1 : p r.2) (h2 : p d) : p (getOut r d).1 := by unfold getOut; split <;> assumption
theorem getOut_nr {α : Type} {r : SRS × α} {d : α} {s : SRS} (h : r.1 = s) (h5 : s.f1 = 5) : getOut r d = (d, 0, 5) := by rw [getOut_no (by rw [h, h5]; decide), h, h5]
def bitsOk (b : List Int) (n : Int) : Bool := decide (1 ≤ n ∧ n ≤ 10) && decide ((b.length : Int) = bitsSize n) && (bitList b).all (fun x => decide (x < n))
theorem all_step {l : List Int} {n : Int} {i : Nat} (hi : i < l.length) (h : (l.take i).all (fun x => decide (x < n)) = true) (hx : l.getD i 0 < n) : (l.take (i + 1)).all (fun x => decide (x < n)) = true := by
  rw [take_succ' (df := 0) hi]; simp only [List.all_append, List.all_cons, List.all_nil, Bool.and_true, Bool.and_eq_true] at h ⊢; exact ⟨h, decide_eq_true hx⟩
theorem all_no {l : List Int} {n : Int} {i : Nat} (hi : i < l.length) (hx : ¬ l.getD i 0 < n) : l.all (fun x => decide (x < n)) = false := by
  cases h : l.all (fun x => decide (x < n)) with
  | false => rfl
  | true =>
    rw [List.all_eq_true] at h
    have := h (l.getD i 0) (by rw [List.getD_eq_getElem?_getD, List.getElem?_eq_getElem hi]; exact List.getElem_mem hi)
    exact absurd (of_decide_eq_true this) hx
theorem bits_last {b : List Int} {n : Int} (h : 0 < (bitList b).length) : (bitList b).all (fun x => decide (x < n)) = decide ((bitList b).getD (((bitList b).length : Int) - 1).toNat 0 < n) := by
  rw [show (((bitList b).length : Int) - 1).toNat = (bitList b).length - 1 from by omega]
  have h1 := bitsGo_last b n (8 * b.length) 0
  rw [show bitsGo b (8 * b.length) 0 = bitList b from rfl] at h1
  rw [h1, List.getLast?_eq_getElem?, List.getElem?_eq_getElem (by omega), List.getD_eq_getElem?_getD, List.getElem?_eq_getElem (by omega)]
  rfl
theorem bitsOk_len {b : List Int} {n : Int} (h : bitsOk b n = true) : b.length ≤ 2 := by
  simp only [bitsOk, Bool.and_eq_true, decide_eq_true_eq] at h
  have := h.1.2
  unfold bitsSize at this
  rw [if_neg (by omega)] at this
  omega
theorem rdRaw_u8 {b : List Int} (hb : U8s b) (s : SRS) (n : Int) : U8s (rdRaw b s n).2 := by
  unfold rdRaw
  split
  · exact getRaw_u8 hb _ _
  · exact fun x hx => by cases hx
def rdTags (b : List Int) (s : SRS) : Nat → SRS × List (List Int)
  | 0 => (s, [])
  | i + 1 => ((rdRaw b (rdTags b s i).1 32).1, (rdTags b s i).2 ++ [(rdRaw b (rdTags b s i).1 32).2])
theorem rdTags_len (b : List Int) (s : SRS) : ∀ i, (rdTags b s i).2.length = i
  | 0 => rfl
  | i + 1 => by rw [rdTags, List.length_append, rdTags_len b s i]; rfl
theorem rdTags_mem {b : List Int} {s : SRS} {p : List Int → Prop} (hp : ∀ s, p (rdRaw b s 32).2) : ∀ i, ∀ y ∈ (rdTags b s i).2, p y
  | 0, y, h => by cases h
  | i + 1, y, h => by
    rcases List.mem_append.1 h with h | h
    · exact rdTags_mem hp i y h
    · rcases List.mem_singleton.1 h with rfl; exact hp _
def getBits (b : List Int) (a n : Int) : List Int × Int × Int := if 1 ≤ n ∧ n ≤ 10 then (if (getRaw b a (bitsSize n)).2.2 = 0 then (if bitsOk (getRaw b a (bitsSize n)).1 n = true then ((getRaw b a (bitsSize n)).1, (getRaw b a (bitsSize n)).2.1, 0) else ([], 0, 4)) else ([], 0, (getRaw b a (bitsSize n)).2.2)) else ([], 0, 5)
theorem getBits_val {b : List Int} {a n : Int} (h : ¬ (1 ≤ n ∧ n ≤ 10)) : getBits b a n = ([], 0, 5) := if_neg h
theorem getBits_er {b : List Int} {a n : Int} (h : 1 ≤ n ∧ n ≤ 10) (h2 : ¬ (getRaw b a (bitsSize n)).2.2 = 0) : getBits b a n = ([], 0, (getRaw b a (bitsSize n)).2.2) := by rw [getBits, if_pos h, if_neg h2]
theorem getBits_pad {b : List Int} {a n : Int} (h : 1 ≤ n ∧ n ≤ 10) (h2 : (getRaw b a (bitsSize n)).2.2 = 0) (h3 : bitsOk (getRaw b a (bitsSize n)).1 n = false) : getBits b a n = ([], 0, 4) := by rw [getBits, if_pos h, if_pos h2, h3]; rfl
theorem getBits_ok {b : List Int} {a n : Int} (h : 1 ≤ n ∧ n ≤ 10) (h2 : (getRaw b a (bitsSize n)).2.2 = 0) (h3 : bitsOk (getRaw b a (bitsSize n)).1 n = true) : getBits b a n = ((getRaw b a (bitsSize n)).1, (getRaw b a (bitsSize n)).2.1, 0) := by rw [getBits, if_pos h, if_pos h2, if_pos h3]
theorem getBits_len (b : List Int) (a n : Int) : (getBits b a n).1.length ≤ 2 := by
  unfold getBits
  split
  · split
    · split
      · rename_i h; exact bitsOk_len h
      · simp
    · simp
  · simp
theorem getBits_u8 {b : List Int} (hb : U8s b) (a n : Int) : U8s (getBits b a n).1 := by
  unfold getBits
  split
  · split
    · split
      · exact getRaw_u8 hb _ _
      · exact fun x hx => by cases hx
    · exact fun x hx => by cases hx
  · exact fun x hx => by cases hx
def rdQc3 (b : List Int) (s : SRS) : SRS := (rdRaw b (rdNum b (rdNum b s).1).1 32).1
def rdQcA (l : SLimits) (b : List Int) (s3 : SRS) : SRS × List Int × List (List Int) := if s3.f1 = 0 then ((rdTags b ⟨(getBits b s3.f0 l.f0).2.1, (getBits b s3.f0 l.f0).2.2⟩ (bitList (getBits b s3.f0 l.f0).1).length).1, (getBits b s3.f0 l.f0).1, (rdTags b ⟨(getBits b s3.f0 l.f0).2.1, (getBits b s3.f0 l.f0).2.2⟩ (bitList (getBits b s3.f0 l.f0).1).length).2) else (s3, [], [])
def rdQc (l : SLimits) (b : List Int) (s : SRS) : SRS × SQc := ((rdQcA l b (rdQc3 b s)).1, ⟨(rdNum b s).2, (rdNum b (rdNum b s).1).2, (rdRaw b (rdNum b (rdNum b s).1).1 32).2, (rdQcA l b (rdQc3 b s)).2.1, (rdQcA l b (rdQc3 b s)).2.2⟩)
theorem rdQcA_yes {l : SLimits} {b : List Int} {s : SRS} (h : s.f1 = 0) : rdQcA l b s = ((rdTags b ⟨(getBits b s.f0 l.f0).2.1, (getBits b s.f0 l.f0).2.2⟩ (bitList (getBits b s.f0 l.f0).1).length).1, (getBits b s.f0 l.f0).1, (rdTags b ⟨(getBits b s.f0 l.f0).2.1, (getBits b s.f0 l.f0).2.2⟩ (bitList (getBits b s.f0 l.f0).1).length).2) := if_pos h
theorem rdQcA_no {l : SLimits} {b : List Int} {s : SRS} (h : ¬ s.f1 = 0) : rdQcA l b s = (s, [], []) := if_neg h
theorem rdQc3_er {b : List Int} {s : SRS} (h : ¬ s.f1 = 0) : rdQc3 b s = s := by simp only [rdQc3, rdNum_er h, rdRaw_er h]
theorem rdQc_er {l : SLimits} {b : List Int} {s : SRS} (h : ¬ s.f1 = 0) : (rdQc l b s).1 = s := by simp only [rdQc, rdQc3_er h, rdQcA_no h]
theorem rdQcA_sm {l : SLimits} {b : List Int} {s : SRS} (h : b.length ≤ 1048576) : (rdQcA l b s).2.1.length ≤ 1048576 ∧ (rdQcA l b s).2.2.length ≤ 1048576 ∧ ∀ y ∈ (rdQcA l b s).2.2, y.length ≤ 1048576 := by
  unfold rdQcA
  split
  · have h1 := getBits_len b s.f0 l.f0
    have h2 := bitList_len (getBits b s.f0 l.f0).1
    refine ⟨by dsimp only; omega, by dsimp only; rw [rdTags_len]; omega, fun y hy => rdTags_mem (p := fun y => y.length ≤ 1048576) (fun s => Nat.le_trans (rdRaw_len b s 32).1 h) _ y hy⟩
  · exact ⟨Nat.zero_le _, Nat.zero_le _, fun y hy => by cases hy⟩
theorem rdQc_sm {l : SLimits} {b : List Int} {s : SRS} (h : b.length ≤ 1048576) : (rdQc l b s).2.sm := ⟨Nat.le_trans (rdRaw_len _ _ _).1 h, rdQcA_sm h⟩
theorem i64_num {b : List Int} (hb : U8s b) (s : SRS) : I64 (rdNum b s).2 := by have := rdNum_bd hb s; exact ⟨by omega, by omega⟩
theorem rdQc_ok {l : SLimits} {b : List Int} {s : SRS} (h : U8s b) : (rdQc l b s).2.ok := by
  refine ⟨i64_num h _, i64_num h _, rdRaw_u8 h _ _, ?_, ?_⟩
  · show U8s (rdQcA l b (rdQc3 b s)).2.1
    unfold rdQcA
    split
    · exact getBits_u8 h _ _
    · exact fun x hx => by cases hx
  · show ∀ y ∈ (rdQcA l b (rdQc3 b s)).2.2, U8s y
    unfold rdQcA
    split
    · exact rdTags_mem (fun s => rdRaw_u8 h s 32) _
    · exact fun x hx => by cases hx
def headFits (h : SHead) : Bool := decide (h.f5.f0 < h.f0) && decide (h.f5.f1 = IntKind.i64.wrap (h.f1 - 1)) && decide (h.f5.f2 = h.f3)
theorem rdMust_z {s : SRS} {k : Bool} {c : Int} (hc : c ≠ 0) (h : (rdMust s k c).f1 = 0) : s.f1 = 0 ∧ k = true := by
  by_cases hs : s.f1 = 0
  · cases k with
    | true => exact ⟨hs, rfl⟩
    | false => rw [rdMust_hit hs rfl] at h; exact absurd h hc
  · rw [rdMust_er hs] at h; exact absurd h hs
def rdHead6 (l : SLimits) (b : List Int) (s : SRS) : SRS × SHead :=
  let r1 := rdNum b s
  let r2 := rdNum b r1.1
  let r3 := rdMust r2.1 (decide (r2.2 ≠ 0)) 5
  let r4 := rdBelow b r3 l.f0 5
  let r5 := rdRaw b r4.1 32
  let r6 := rdRaw b r5.1 32
  let r7 := rdQc l b r6.1
  (r7.1, ⟨r1.2, r2.2, r4.2, r5.2, r6.2, r7.2⟩)
def rdHead (l : SLimits) (b : List Int) (s : SRS) : SRS × SHead := (rdMust (rdHead6 l b s).1 (headFits (rdHead6 l b s).2) 6, (rdHead6 l b s).2)
theorem rdHead_er {l : SLimits} {b : List Int} {s : SRS} (h : ¬ s.f1 = 0) : (rdHead l b s).1 = s := by
  have h6 : (rdHead6 l b s).1 = s := by simp only [rdHead6, rdNum_er h, rdMust_er h, rdBelow_er h, rdRaw_er h, rdQc_er h]
  simp only [rdHead, h6, rdMust_er h]
theorem rdHead_sm {l : SLimits} {b : List Int} {s : SRS} (h : b.length ≤ 1048576) : (rdHead l b s).2.sm := ⟨Nat.le_trans (rdRaw_len _ _ _).1 h, Nat.le_trans (rdRaw_len _ _ _).1 h, rdQc_sm h⟩
theorem rdHead_ok {l : SLimits} {b : List Int} {s : SRS} (h : U8s b) : (rdHead l b s).2.ok := ⟨i64_num h _, i64_num h _, i64_num h _, rdRaw_u8 h _ _, rdRaw_u8 h _ _, rdQc_ok h⟩
def splitAtT (n : Int) : Int := if n < 2 then 0 else splitAt n
theorem splitAtT_bd (n : Int) : (n < 2 → splitAtT n = 0) ∧ (2 ≤ n → 1 ≤ splitAtT n ∧ splitAtT n < n) := by
  unfold splitAtT
  refine ⟨fun h => by rw [if_pos h], fun h => ?_⟩
  rw [if_neg (by omega)]
  exact splitAt_bd n h
def leafHash (x : List Int) : List Int := sha ([0] ++ x)
def nodeHash (a b : List Int) : List Int := sha ([1] ++ a ++ b)
theorem leafHash_len (x : List Int) : (leafHash x).length ≤ 32 := sha_len _
theorem leafHash_u8 (x : List Int) : U8s (leafHash x) := sha_u8 _
theorem nodeHash_len (a b : List Int) : (nodeHash a b).length ≤ 32 := sha_len _
theorem nodeHash_u8 (a b : List Int) : U8s (nodeHash a b) := sha_u8 _
theorem u8_cons {x : Int} {a : List Int} (h0 : 0 ≤ x ∧ x ≤ 255) (h : U8s a) : U8s ([x] ++ a) := fun y hy => by
  rcases List.mem_append.1 hy with hy | hy
  · rcases List.mem_singleton.1 hy with rfl; exact h0
  · exact h y hy
theorem u8_app {a b : List Int} (h : U8s a) (h' : U8s b) : U8s (a ++ b) := fun y hy => by
  rcases List.mem_append.1 hy with hy | hy
  · exact h y hy
  · exact h' y hy
theorem mem_sub {α : Type} {p : α → Prop} {l : List α} (h : ∀ y ∈ l, p y) (a b : Nat) : ∀ y ∈ (l.drop a).take b, p y := fun y hy => h y (List.mem_of_mem_drop (List.mem_of_mem_take hy))
theorem splitAtT_le (n : Int) : 0 ≤ splitAtT n ∧ (0 ≤ n → splitAtT n ≤ n) := by have := splitAtT_bd n; omega
theorem part_len {α : Type} (l : List α) : ((l.drop 0).take ((splitAtT (l.length : Int)).toNat - 0)).length = (splitAtT (l.length : Int)).toNat ∧ ((l.drop (splitAtT (l.length : Int)).toNat).take (l.length - (splitAtT (l.length : Int)).toNat)).length = l.length - (splitAtT (l.length : Int)).toNat := by
  have := splitAtT_le (l.length : Int)
  simp only [List.length_take, List.length_drop]
  omega
def treeRoot (l : List (List Int)) : List Int :=
  if h0 : l.length = 0 then sha [] else if h1 : l.length = 1 then leafHash (l.getD 0 []) else
  nodeHash (treeRoot ((l.drop 0).take ((splitAtT (l.length : Int)).toNat - 0))) (treeRoot ((l.drop (splitAtT (l.length : Int)).toNat).take (l.length - (splitAtT (l.length : Int)).toNat)))
termination_by l.length
decreasing_by
  · have h1 := part_len l; have h2 := splitAtT_bd (l.length : Int); omega
  · have h1 := part_len l; have h2 := splitAtT_bd (l.length : Int); omega
theorem treeRoot_nil {l : List (List Int)} (h : (l.length : Int) = 0) : treeRoot l = sha [] := by rw [treeRoot, dif_pos (by omega)]
theorem treeRoot_one {l : List (List Int)} (h : (l.length : Int) = 1) : treeRoot l = leafHash (l.getD 0 []) := by rw [treeRoot, dif_neg (by omega), dif_pos (by omega)]
theorem treeRoot_two {l : List (List Int)} (h0 : ¬ (l.length : Int) = 0) (h1 : ¬ (l.length : Int) = 1) : treeRoot l = nodeHash (treeRoot ((l.drop 0).take ((splitAtT (l.length : Int)).toNat - 0))) (treeRoot ((l.drop (splitAtT (l.length : Int)).toNat).take (l.length - (splitAtT (l.length : Int)).toNat))) := by rw [treeRoot, dif_neg (by omega), dif_neg (by omega)]
theorem treeRoot_len (l : List (List Int)) : (treeRoot l).length ≤ 32 := by
  rw [treeRoot]
  split
  · exact sha_len _
  · split
    · exact leafHash_len _
    · exact nodeHash_len _ _
theorem treeRoot_u8 (l : List (List Int)) : U8s (treeRoot l) := by
  rw [treeRoot]
  split
  · exact sha_u8 _
  · split
    · exact leafHash_u8 _
    · exact nodeHash_u8 _ _
theorem getText_u8 {b : List Int} (h : U8s b) (a m : Int) : U8s (getText b a m).1 := by
  unfold getText
  split
  · split
    · exact fun x hx => by cases hx
    · exact getRaw_u8 h _ _
  · exact fun x hx => by cases hx
theorem rdText_u8 {b : List Int} (h : U8s b) (s : SRS) (m : Int) : U8s (rdText b s m).2 := by
  unfold rdText
  split
  · exact getText_u8 h _ _
  · exact fun x hx => by cases hx
theorem mem_snoc {α : Type} {p : α → Prop} {l : List α} {x : α} (h : ∀ y ∈ l, p y) (hx : p x) : ∀ y ∈ l ++ [x], p y := fun y hy => by
  rcases List.mem_append.1 hy with hy | hy
  · exact h y hy
  · rcases List.mem_singleton.1 hy with rfl; exact hx
def rdTx (l : SLimits) (b : List Int) : Nat → SRS → List (List Int) → SRS × List (List Int)
  | 0, q, ts => (q, ts)
  | d + 1, q, ts => if q.f1 = 0 then rdTx l b d (rdText b q l.f1).1 (ts ++ [(rdText b q l.f1).2]) else (q, ts)
theorem rdTx_next {l : SLimits} {b : List Int} {n i : Nat} {q : SRS} {ts : List (List Int)} (hi : i < n) (h : q.f1 = 0) : rdTx l b (n - i) q ts = rdTx l b (n - (i + 1)) (rdText b q l.f1).1 (ts ++ [(rdText b q l.f1).2]) := by
  obtain ⟨d, e⟩ : ∃ d, n - i = d + 1 := ⟨n - i - 1, by omega⟩
  rw [e, show n - (i + 1) = d from by omega, rdTx, if_pos h]
theorem rdTx_out {l : SLimits} {b : List Int} {n i : Nat} {q : SRS} {ts : List (List Int)} (h : n ≤ i ∨ ¬ q.f1 = 0) : rdTx l b (n - i) q ts = (q, ts) := by
  generalize hd : n - i = d
  cases d with
  | zero => rfl
  | succ d => rw [rdTx, if_neg (by omega)]
theorem rdTx_er {l : SLimits} {b : List Int} {d : Nat} {q : SRS} {ts : List (List Int)} (h : ¬ q.f1 = 0) : rdTx l b d q ts = (q, ts) := by
  cases d with
  | zero => rfl
  | succ d => rw [rdTx, if_neg h]
theorem rdTx_len {l : SLimits} {b : List Int} : ∀ (d : Nat) (q : SRS) (ts : List (List Int)), (rdTx l b d q ts).2.length ≤ ts.length + d
  | 0, _, _ => Nat.le_refl _
  | d + 1, q, ts => by
    rw [rdTx]
    split
    · have := rdTx_len (l := l) (b := b) d (rdText b q l.f1).1 (ts ++ [(rdText b q l.f1).2]); simp only [List.length_append, List.length_cons, List.length_nil] at this; omega
    · simp
theorem rdTx_mem {l : SLimits} {b : List Int} {p : List Int → Prop} (hp : ∀ s, p (rdText b s l.f1).2) : ∀ (d : Nat) (q : SRS) (ts : List (List Int)), (∀ y ∈ ts, p y) → ∀ y ∈ (rdTx l b d q ts).2, p y
  | 0, _, _, h => h
  | d + 1, q, ts, h => by
    rw [rdTx]
    split
    · exact rdTx_mem hp d _ _ (mem_snoc h (hp _))
    · exact h
def rdB2 (l : SLimits) (b : List Int) (s : SRS) : SRS × Int := rdBelow b (rdHead l b s).1 (l.f2 + 1) 3
def rdB3 (l : SLimits) (b : List Int) (s : SRS) : SRS × List (List Int) := rdTx l b (rdB2 l b s).2.toNat (rdB2 l b s).1 []
def rdBlock (l : SLimits) (b : List Int) (s : SRS) : SRS × SBlock := (if (rdB3 l b s).1.f1 = 0 then rdMust (rdB3 l b s).1 (decide ((rdHead l b s).2.f4 = treeRoot (rdB3 l b s).2)) 7 else (rdB3 l b s).1, ⟨(rdHead l b s).2, (rdB3 l b s).2⟩)
theorem rdB_out {l : SLimits} {b : List Int} {s q : SRS} {i : Nat} {ts : List (List Int)} (h4 : rdTx l b ((rdB2 l b s).2.toNat - i) q ts = rdTx l b (rdB2 l b s).2.toNat (rdB2 l b s).1 []) (h : (rdB2 l b s).2.toNat ≤ i ∨ ¬ q.f1 = 0) : rdB3 l b s = (q, ts) := h4.symm.trans (rdTx_out h)
theorem rdBlock_ok {l : SLimits} {b : List Int} {s q : SRS} {ts : List (List Int)} (h : rdB3 l b s = (q, ts)) (hq : q.f1 = 0) : rdBlock l b s = (rdMust q (decide ((rdHead l b s).2.f4 = treeRoot ts)) 7, ⟨(rdHead l b s).2, ts⟩) := by unfold rdBlock; rw [h, if_pos hq]
theorem rdBlock_no {l : SLimits} {b : List Int} {s q : SRS} {ts : List (List Int)} (h : rdB3 l b s = (q, ts)) (hq : ¬ q.f1 = 0) : rdBlock l b s = (q, ⟨(rdHead l b s).2, ts⟩) := by unfold rdBlock; rw [h, if_neg hq]
theorem rdB2_z {l : SLimits} {b : List Int} {s : SRS} (hl : s.f1 = 0 → limOk l = true) (h : (rdB2 l b s).1.f1 = 0) : (rdB2 l b s).2 ≤ 8 := by
  by_cases hs : s.f1 = 0
  · have h5 := hl hs
    simp [limOk] at h5
    have hm : (rdMust (rdNum b (rdHead l b s).1).1 (decide ((rdNum b (rdHead l b s).1).2 < l.f2 + 1)) 3).f1 = 0 := h
    obtain ⟨_, hk⟩ := rdMust_z (by decide) hm
    have := of_decide_eq_true hk
    show (rdNum b (rdHead l b s).1).2 ≤ 8
    omega
  · have h1 : (rdB2 l b s).1 = s := by unfold rdB2; rw [rdBelow_er (by rw [rdHead_er hs]; exact hs), rdHead_er hs]
    rw [h1] at h; exact absurd h hs
theorem rdBlock_er {l : SLimits} {b : List Int} {s : SRS} (h : ¬ s.f1 = 0) : (rdBlock l b s).1 = s := by
  have h0 : (rdB2 l b s).1 = s := by unfold rdB2; rw [rdBelow_er (by rw [rdHead_er h]; exact h), rdHead_er h]
  have h3 : rdB3 l b s = (s, []) := by unfold rdB3; rw [h0, rdTx_er h]
  rw [rdBlock_no h3 h]
theorem rdBlock_sm {l : SLimits} {b : List Int} {s : SRS} (h : b.length ≤ 1048576) (hl : s.f1 = 0 → limOk l = true) : (rdBlock l b s).2.sm := by
  refine ⟨rdHead_sm h, ?_, rdTx_mem (fun s => Nat.le_trans (rdText_len b s l.f1) h) _ _ _ fun y hy => by cases hy⟩
  show (rdB3 l b s).2.length ≤ 1048576
  unfold rdB3
  by_cases hz : (rdB2 l b s).1.f1 = 0
  · have := rdB2_z hl hz
    have := rdTx_len (l := l) (b := b) (rdB2 l b s).2.toNat (rdB2 l b s).1 []
    simp only [List.length_nil] at this
    omega
  · rw [rdTx_er hz]; simp
theorem rs0_zb {l : SLimits} {a : Int} (h : (rs0 l a).f1 = 0) : limOk l = true := by
  cases hl : limOk l with
  | true => rfl
  | false => rw [rs0_no hl] at h; exact absurd h (show ¬ ((5 : Int) = 0) by decide)
def getBlock (l : SLimits) (b : List Int) (a : Int) : SBlock × Int × Int := getOut (rdBlock l b (rs0 l a)) default
theorem getBlock_sm {l : SLimits} {b : List Int} (a : Int) (h : b.length ≤ 1048576) : (getBlock l b a).1.sm := getOut_pr (p := SBlock.sm) (rdBlock_sm h rs0_zb) SBlock.sm_df
theorem ok_laws_toLimits (a : SLimits) : RO Try.prog 17 [.agg a.cells] [(true, [.rd (.int .i64 a.f0), .rd (.int .i64 a.f1), .rd (.int .i64 a.f2), .rd (.int .i64 a.f3), .rd (.int .i64 a.f4)])] := by
 refine RO.intro Try.func17 rfl 20 rfl (le_ok rfl) fun w Z => ?_
 refine T.seq ?_
 refine T.region ?_
 refine TL.c (Step.bx [cI a.f0, cI a.f1, cI a.f2, cI a.f3, cI a.f4]) ?_
 refine TL.c (Step.al [cI 0, cI 0, cI 0, cI 0, cI 0]) ?_
 refine TL.nil ?_
 refine T.seq ?_
 refine T.region ?_
 refine TL.c (Step.al [cI 0, cI 0, cI 0, cI 0, cI 0]) ?_
 refine TL.nil ?_
 refine T.seq ?_
 refine T.region ?_
 refine TL.c (Step.fd 0 1 true) ?_
 refine TL.c (Step.lb (.d (.int .i64 a.f0))) ?_
 refine TL.c (Step.fd 0 1 true) ?_
 refine TL.c (Step.sb 1 [cI a.f0, cI 0, cI 0, cI 0, cI 0]) ?_
 refine TL.nil ?_
 refine T.seq ?_
 refine T.region ?_
 refine TL.c (Step.fd 1 1 true) ?_
 refine TL.c (Step.lb (.d (.int .i64 a.f1))) ?_
 refine TL.c (Step.fd 1 1 true) ?_
 refine TL.c (Step.sb 1 [cI a.f0, cI a.f1, cI 0, cI 0, cI 0]) ?_
 refine TL.nil ?_
 refine T.seq ?_
 refine T.region ?_
 refine TL.c (Step.fd 2 1 true) ?_
 refine TL.c (Step.lb (.d (.int .i64 a.f2))) ?_
 refine TL.c (Step.fd 2 1 true) ?_
 refine TL.c (Step.sb 1 [cI a.f0, cI a.f1, cI a.f2, cI 0, cI 0]) ?_
 refine TL.nil ?_
 refine T.seq ?_
 refine T.region ?_
 refine TL.c (Step.fd 3 1 true) ?_
 refine TL.c (Step.lb (.d (.int .i64 a.f3))) ?_
 refine TL.c (Step.fd 3 1 true) ?_
 refine TL.c (Step.sb 1 [cI a.f0, cI a.f1, cI a.f2, cI a.f3, cI 0]) ?_
 refine TL.nil ?_
 refine T.seq ?_
 refine T.region ?_
 refine TL.c (Step.fd 4 1 true) ?_
 refine TL.c (Step.lb (.d (.int .i64 a.f4))) ?_
 refine TL.c (Step.fd 4 1 true) ?_
 refine TL.c (Step.sb 1 [cI a.f0, cI a.f1, cI a.f2, cI a.f3, cI a.f4]) ?_
 refine TL.nil ?_
 refine T.seq ?_
 refine T.region ?_
 refine TL.c (Step.lba 5 [cI a.f0, cI a.f1, cI a.f2, cI a.f3, cI a.f4]) ?_
 refine TL.c (Step.sb 5 [cI a.f0, cI a.f1, cI a.f2, cI a.f3, cI a.f4]) ?_
 refine TL.nil ?_
 refine T.ret ?_
 exact ⟨[(true, [.d (.int .i64 a.f0), .d (.int .i64 a.f1), .d (.int .i64 a.f2), .d (.int .i64 a.f3), .d (.int .i64 a.f4)])], (.cons rfl .nil), rfl, [], (RetC.rd' rfl (RetC.rd' rfl (RetC.rd' rfl (RetC.rd' rfl (RetC.rd' rfl .nil)))))⟩
theorem ok_laws_toByteS (a : List Int) (h0_ : a.length ≤ 1048576) : RO Try.prog 18 [.one (.ints .u8 a)] [(false, [.own 5 (.ints .u8 a)])] := by
 refine RO.intro Try.func18 rfl 22 rfl (le_ok rfl) fun w Z => ?_
 refine T.bnd 0 0 rfl rfl fun hb_0_0 => ?_
 simp only [D.size, List.length_map] at hb_0_0
 have h0b := h0_
 refine T.seq ?_
 refine T.region ?_
 refine TL.as (.one (.nil)) ?_
 refine TL.nil ?_
 refine T.seq ?_
 refine T.region ?_
 refine TL.mv (pS a) ?_
 refine TL.c (Step.len (e := 5) (z := 1) (d := (.ints .u8 a)) rfl rfl (lt_ok rfl) (by kernel_rfl) rfl rfl) ?_
 refine TL.c (Step.make (e := 5) (z := 1) (by_ := 1) (n := (a.length : Int)) (zs := [.int .u8 0]) (zd := [.int .u8 0]) (d := (.ints .u8 (List.replicate a.length 0))) rfl rfl (lt_ok rfl) (by kernel_rfl) (lt_ok rfl) rfl (by first | omega | (simp; omega)) (by first | omega | (simp; omega)) (by first | omega | (simp; omega)) (by kernel_rfl) (.val rfl .nil) rfl (by simp) (by simp [D.flat, List.flatten_replicate_singleton]) (by simp [D.size]) rfl trivial) ?_
 refine TL.as (.one (.row 7 [])) ?_
 refine TL.nil ?_
 refine T.seq ?_
 refine T.seq ?_
 refine T.region ?_
 refine TL.as (pI 0) ?_
 refine TL.nil ?_
 refine T.block ?_
 refine T.loop (ι := Nat) (fun xx_ => { tm := [(0, (pS a)), (2, (.one (.nil))), (3, (.one (.row 7 []))), (4, (pI (xx_ : Int)))], rows := [(7, (5, (.ints .u8 (a.take xx_ ++ List.replicate (a.length - xx_) 0 : List Int))))], boxes := [] }) (fun xx_ => xx_ ≤ a.length) (fun xx_ => a.length - xx_) 0 ?_ ?_ ?_
 · refine Env.le_mk ⟨rfl, rfl, rfl, ?_, trivial⟩ ⟨?_, trivial⟩ trivial <;> (first | rfl | exact congrArg (fun x => some (5, ((.ints .u8 x) : D))) (fill_set a 0 0 i (by omega)))
 · exact Nat.zero_le _
 intro i hx
 try dsimp only at hx ⊢
 refine T.seq ?_
 refine T.seq ?_
 refine T.region ?_
 refine TL.mv (pI (i : Int)) ?_
 refine TL.mv (pS a) ?_
 refine TL.c (Step.len (e := 5) (z := 1) (d := (.ints .u8 a)) rfl rfl (lt_ok rfl) (by kernel_rfl) rfl rfl) ?_
 refine TL.b _ (Bin.lss (k := .i64) (a := (i : Int)) (b := (a.length : Int))) ?_
 refine TL.nil ?_
 refine T.ci rfl (fun h1 => ?_) (fun h1 => ?_)
 ·
  refine T.skip ?_
  refine T.seq ?_
  refine T.block ?_
  refine T.region ?_
  refine TL.mv (.one (.row 7 [])) ?_
  refine TL.mv (pI (i : Int)) ?_
  refine TL.mv (pS a) ?_
  refine TL.mv (pI (i : Int)) ?_
  refine TL.c (Step.index (e := 5) (z := 1) (i := (i : Int)) rfl rfl (lt_ok rfl) (by kernel_rfl) rfl rfl rfl (lt_ok rfl) rfl (by first | omega | (simp; omega)) (by simp only [D.size]; first | omega | (simp; omega))) ?_
  refine TL.c (Step.load (e := (.int .u8 (a.getD i 0))) rfl rfl (lt_ok rfl) (by kernel_rfl) rfl rfl) ?_
  refine TL.c (Step.index_row (e := 5) (z := 1) (i := (i : Int)) rfl rfl (lt_ok rfl) (by kernel_rfl) rfl rfl rfl rfl (lt_ok rfl) rfl (by first | omega | (simp; omega)) (by simp only [D.at_, D.cell, D.size]; first | omega | (simp; omega))) ?_
  refine TL.c (Step.store_row (n := 1) (p := (.one (.d (.int .u8 (a.getD i 0))))) (ps := [.d (.int .u8 (a.getD i 0))]) (es := [(.int .u8 (a.getD i 0))]) (ss := []) (d1 := (.ints .u8 ((a.take i ++ List.replicate (a.length - i) 0 : List Int).set i (a.getD i 0)))) (d' := (.ints .u8 ((a.take i ++ List.replicate (a.length - i) 0 : List Int).set i (a.getD i 0)))) rfl rfl (by kernel_rfl) rfl rfl rfl rfl rfl rfl (.val rfl .nil) (by simp) (Putd.one rfl trivial rfl (by simp only [D.at_, D.size, List.length_set, upTo_length]; first | omega | (simp; omega)) (lt_ok rfl)) rfl) ?_
  refine TL.nil ?_
  refine T.region ?_
  refine TL.mv (pI (i : Int)) ?_
  refine TL.c (Step.bin (r := .int .i64 ((i : Int) + 1)) rfl rfl (lt_ok rfl) rfl rfl (Bin.add (a := (i : Int)) (b := 1) (by first | exact wrap_ok (by first | omega | (simp; omega)) (by first | omega | (simp; omega)) | rfl))) ?_
  refine TL.as (pI ((i : Int) + 1)) ?_
  refine TL.nil ?_
  refine ⟨i + 1, by omega, by omega, Env.le_mk ⟨rfl, rfl, rfl, ?_, trivial⟩ ⟨?_, trivial⟩ trivial⟩ <;> (first | rfl | exact congrArg (fun x => some (5, ((.ints .u8 x) : D))) (fill_set a 0 0 i (by omega)))
 refine T.exit ?_
 refine T.seq ?_
 refine T.region ?_
 refine TL.mv (.one (.row 7 [])) ?_
 refine TL.as (.one (.row 7 [])) ?_
 refine TL.nil ?_
 refine T.ret ?_
 refine ⟨[(false, [.row 7 []])], (.cons rfl .nil), rfl, [7], (RetC.o ?_ .nil)⟩ <;> (first | rfl | (congr 1; rw [fill_all' _ _ _ (by omega)]) | (rw [fill_all' _ _ _ (by omega)]))
theorem ok_laws_eqByteS (a : List Int) (b : List Int) : RO Try.prog 21 [.one (.ints .u8 a), .one (.ints .u8 b)] [(false, [.rd (.bool (decide (a = b)))])] := by
 refine RO.intro Try.func21 rfl 26 rfl (le_ok rfl) fun w Z => ?_
 refine T.bnd 0 0 rfl rfl fun hb_0_0 => ?_
 simp only [D.size, List.length_map] at hb_0_0
 refine T.bnd 1 0 rfl rfl fun hb_1_0 => ?_
 simp only [D.size, List.length_map] at hb_1_0
 refine T.seq ?_
 refine T.region ?_
 refine TL.as (pB false) ?_
 refine TL.nil ?_
 refine T.seq ?_
 refine T.seq ?_
 refine T.region ?_
 refine TL.mv (pS a) ?_
 refine TL.c (Step.len (e := 5) (z := 1) (d := (.ints .u8 a)) rfl rfl (lt_ok rfl) (by kernel_rfl) rfl rfl) ?_
 refine TL.mv (pS b) ?_
 refine TL.c (Step.len (e := 5) (z := 1) (d := (.ints .u8 b)) rfl rfl (lt_ok rfl) (by kernel_rfl) rfl rfl) ?_
 refine TL.b _ (Bin.neq (k := .i64) (a := (a.length : Int)) (b := (b.length : Int))) ?_
 refine TL.nil ?_
 refine T.ci rfl (fun h1 => ?_) (fun h1 => ?_)
 ·
  refine T.seq ?_
  refine T.region ?_
  refine TL.as (pB false) ?_
  refine TL.nil ?_
  refine T.ret ?_
  refine ⟨[(false, [.d (.bool false)])], (.cons rfl .nil), rfl, [], (RetC.r ?_ .nil)⟩ <;> ((congr 1; symm; first | (apply decide_eq_false; rintro rfl; first | exact absurd rfl ‹¬ _ = _› | exact absurd rfl (of_decide_eq_false (by assumption)) | contradiction | simp_all) | (apply decide_eq_true; exact take_all hx2 (by omega) hx3)))
 refine T.skip ?_
 refine T.seq ?_
 refine T.seq ?_
 refine T.region ?_
 refine TL.as (pI 0) ?_
 refine TL.nil ?_
 refine T.block ?_
 refine T.loop (ι := Nat) (fun xx_ => { tm := [(0, (pS a)), (1, (pS b)), (5, (pI (xx_ : Int)))], rows := [], boxes := [] }) (fun xx_ => xx_ ≤ a.length ∧ a.length = b.length ∧ a.take xx_ = b.take xx_) (fun xx_ => a.length - xx_) 0 ?_ ?_ ?_
 · refine Env.le_mk ⟨rfl, rfl, ?_, trivial⟩ trivial trivial <;> (first | rfl | (simp; done) | (congr 3; omega))
 · (refine ⟨Nat.zero_le _, by omega, by simp⟩)
 intro i hx
 try dsimp only at hx ⊢
 obtain ⟨hx1, hx2, hx3⟩ := hx
 refine T.seq ?_
 refine T.seq ?_
 refine T.region ?_
 refine TL.mv (pI (i : Int)) ?_
 refine TL.mv (pS a) ?_
 refine TL.c (Step.len (e := 5) (z := 1) (d := (.ints .u8 a)) rfl rfl (lt_ok rfl) (by kernel_rfl) rfl rfl) ?_
 refine TL.b _ (Bin.lss (k := .i64) (a := (i : Int)) (b := (a.length : Int))) ?_
 refine TL.nil ?_
 refine T.ci rfl (fun h2 => ?_) (fun h2 => ?_)
 ·
  refine T.skip ?_
  refine T.seq ?_
  refine T.block ?_
  refine T.seq ?_
  refine T.draw [⟨17, (pS a), []⟩, ⟨18, (pI (i : Int)), []⟩, ⟨19, (.one (.eptr (.ints .u8 a) i 0)), []⟩, ⟨20, (.one (.d (.int .u8 (a.getD i 0)))), []⟩, ⟨21, (pS b), []⟩, ⟨22, (pI (i : Int)), []⟩, ⟨23, (.one (.eptr (.ints .u8 b) i 0)), []⟩, ⟨24, (.one (.d (.int .u8 (b.getD i 0)))), []⟩, ⟨25, (pB (decide ((a.getD i 0) ≠ (b.getD i 0)))), []⟩] (by kernel_rfl) (by kernel_rfl) ?_ ?_
  ·
   refine .cons (fun E A => A.mv 0 17) ?_
   refine .cons (fun E A => A.mv 5 18) ?_
   refine .cons (fun E A => OpStep.plain rfl (Step.index (e := 5) (z := 1) (i := (i : Int)) (t := 19) rfl rfl (by exact lt_ok rfl) (by kernel_rfl) (A.g 17 rfl) rfl rfl (lt_ok rfl) (A.g 18 rfl) (by first | omega | (simp; omega)) (by simp only [D.size]; first | omega | (simp; omega)))) ?_
   refine .cons (fun E A => OpStep.plain rfl (Step.load (e := (.int .u8 (a.getD i 0))) (t := 20) rfl rfl (by exact lt_ok rfl) (by kernel_rfl) (A.g 19 rfl) rfl)) ?_
   refine .cons (fun E A => A.mv 1 21) ?_
   refine .cons (fun E A => A.mv 5 22) ?_
   refine .cons (fun E A => OpStep.plain rfl (Step.index (e := 5) (z := 1) (i := (i : Int)) (t := 23) rfl rfl (by exact lt_ok rfl) (by kernel_rfl) (A.g 21 rfl) rfl rfl (lt_ok rfl) (A.g 22 rfl) (by first | omega | (simp; omega)) (by simp only [D.size]; first | omega | (simp; omega)))) ?_
   refine .cons (fun E A => OpStep.plain rfl (Step.load (e := (.int .u8 (b.getD i 0))) (t := 24) rfl rfl (by exact lt_ok rfl) (by kernel_rfl) (A.g 23 rfl) rfl)) ?_
   refine .cons (fun E A => OpStep.plain rfl (Step.bd 25 (A.g 20 rfl) (A.g 24 rfl) (Bin.neq (k := .u8) (a := (a.getD i 0)) (b := (b.getD i 0))))) ?_
   exact .nil _ _
  refine TL.nil ?_
  refine T.ci rfl (fun h3 => ?_) (fun h3 => ?_)
  ·
   refine T.seq ?_
   refine T.region ?_
   refine TL.as (pB false) ?_
   refine TL.nil ?_
   refine T.ret ?_
   refine ⟨[(false, [.d (.bool false)])], (.cons rfl .nil), rfl, [], (RetC.r ?_ .nil)⟩ <;> ((congr 1; symm; first | (apply decide_eq_false; rintro rfl; first | exact absurd rfl ‹¬ _ = _› | exact absurd rfl (of_decide_eq_false (by assumption)) | contradiction | simp_all) | (apply decide_eq_true; exact take_all hx2 (by omega) hx3)))
  refine T.skip ?_
  refine T.region ?_
  refine TL.mv (pI (i : Int)) ?_
  refine TL.c (Step.bin (r := .int .i64 ((i : Int) + 1)) rfl rfl (lt_ok rfl) rfl rfl (Bin.add (a := (i : Int)) (b := 1) (by first | exact wrap_ok (by first | omega | (simp; omega)) (by first | omega | (simp; omega)) | rfl))) ?_
  refine TL.as (pI ((i : Int) + 1)) ?_
  refine TL.nil ?_
  refine ⟨i + 1, by (refine ⟨by omega, hx2, take_step (d := 0) hx2 (by omega) hx3 (by first | assumption | exact Decidable.not_not.1 (by assumption) | omega)⟩), by omega, Env.le_mk ⟨rfl, rfl, ?_, trivial⟩ trivial trivial⟩ <;> (first | rfl | (simp; done) | (congr 3; omega))
 refine T.exit ?_
 refine T.seq ?_
 refine T.region ?_
 refine TL.as (pB true) ?_
 refine TL.nil ?_
 refine T.ret ?_
 refine ⟨[(false, [.d (.bool true)])], (.cons rfl .nil), rfl, [], (RetC.r ?_ .nil)⟩ <;> ((congr 1; symm; first | (apply decide_eq_false; rintro rfl; first | exact absurd rfl ‹¬ _ = _› | exact absurd rfl (of_decide_eq_false (by assumption)) | contradiction | simp_all) | (apply decide_eq_true; exact take_all hx2 (by omega) hx3)))
theorem ok_laws_markByteS (a : List Int) (k : Int) (h0_ : 0 ≤ k) (h1_ : k + (a.length : Int) ≤ 4611686018427387904) : MK Try.prog 23 [.one (.mk (.ints .u8 a) (.ints .u8 (mkB a k))), .one (.rd (.int .i64 k))] [(false, [.rd (.int .i64 (k + (a.length : Int)))])] := by
 refine MK.intro Try.func23 rfl 20 rfl (le_ok rfl) (le_ok rfl) rfl fun w Z IX pin Ts hp => ?_
 refine T.bndRow 900 rfl fun hb_900 => ?_
 simp only [D.size, List.length_map] at hb_900
 refine T.seq ?_
 refine T.region ?_
 refine TL.as (pI 0) ?_
 refine TL.nil ?_
 refine T.seq ?_
 refine T.seq ?_
 refine T.region ?_
 refine TL.as (pI 0) ?_
 refine TL.nil ?_
 refine T.block ?_
 refine T.loop (ι := Nat) (fun xx_ => { tm := [(0, (.one (.row 900 []))), (4, (pI 0)), (5, (pI (xx_ : Int))), (1, (pI (k + (xx_ : Int))))], rows := [(900, ((Ts 0), (.ints .u8 (upTo (fun _ => 1) (fun _ k => k % 256) a k xx_))))], boxes := [] }) (fun xx_ => xx_ ≤ a.length) (fun xx_ => a.length - xx_) 0 ?_ ?_ ?_
 · refine Env.le_mk ⟨rfl, rfl, ?_, ?_, trivial⟩ ⟨?_, trivial⟩ trivial <;> (first | exact congrArg (fun x => some (Ts 0, D.ints .u8 x)) (upTo_set (df := 0) (by omega) (by simp only [cntL_one_take a i (by omega)])) | exact congrArg (fun x => some (Ts 0, D.ints .u8 x)) (upTo_zero _ _).symm | rfl | (refine congrArg (fun n => PV.one (.d (.int .i64 n))) ?_; first | omega | (simp; done) | (simp [cntL]; done)))
 · exact Nat.zero_le _
 intro i hx
 try dsimp only at hx ⊢
 refine T.seq ?_
 refine T.seq ?_
 refine T.region ?_
 refine TL.mv (pI (i : Int)) ?_
 refine TL.mv (.one (.row 900 [])) ?_
 refine TL.c (Step.len' (e := 5) (z := 1) (d := (.ints .u8 (upTo (fun _ => 1) (fun _ k => k % 256) a k i))) (n := a.length) rfl rfl (lt_ok rfl) (by kernel_rfl) rfl rfl (by simp [D.size, upTo_length])) ?_
 refine TL.b _ (Bin.lss (k := .i64) (a := (i : Int)) (b := (a.length : Int))) ?_
 refine TL.nil ?_
 refine T.ci rfl (fun h1 => ?_) (fun h1 => ?_)
 ·
  refine T.skip ?_
  refine T.seq ?_
  refine T.block ?_
  refine T.seq ?_
  refine T.region ?_
  refine TL.mv (.one (.row 900 [])) ?_
  refine TL.mv (pI (i : Int)) ?_
  refine TL.mv (pI (k + (i : Int))) ?_
  refine TL.c (Step.conv (c := ((k + (i : Int)) % 256)) rfl rfl (lt_ok rfl) (by kernel_rfl) (by kernel_rfl) rfl (wrap_byte _)) ?_
  refine TL.c (Step.index_row (d := (.ints .u8 (upTo (fun _ => 1) (fun _ k => k % 256) a k i))) (e := 5) (z := 1) (i := (i : Int)) rfl rfl (lt_ok rfl) (by kernel_rfl) rfl rfl rfl rfl (lt_ok rfl) rfl (by first | omega | (simp; omega)) (by simp only [D.at_, D.cell, D.size, List.length_set, List.length_map, upTo_length]; first | omega | (simp; omega))) ?_
  refine TL.c (Step.store_row (n := 1) (p := (.one (.d (.int .u8 ((k + (i : Int)) % 256))))) (ps := [.d (.int .u8 ((k + (i : Int)) % 256))]) (es := [(.int .u8 ((k + (i : Int)) % 256))]) (ss := []) (d1 := (.ints .u8 ((upTo (fun _ => 1) (fun _ k => k % 256) a k i).set i ((k + (i : Int)) % 256)))) (d' := (.ints .u8 ((upTo (fun _ => 1) (fun _ k => k % 256) a k i).set i ((k + (i : Int)) % 256)))) rfl rfl (by kernel_rfl) rfl rfl rfl rfl rfl rfl (.val rfl .nil) (by simp) (Putd.one rfl trivial rfl (by simp only [D.at_, D.size, List.length_set, upTo_length]; first | omega | (simp; omega)) (lt_ok rfl)) rfl) ?_
  refine TL.nil ?_
  refine T.region ?_
  refine TL.mv (pI (k + (i : Int))) ?_
  refine TL.c (Step.bin (r := .int .i64 ((k + (i : Int)) + 1)) rfl rfl (lt_ok rfl) rfl rfl (Bin.add (a := (k + (i : Int))) (b := 1) (by first | exact wrap_ok (by first | omega | (simp; omega)) (by first | omega | (simp; omega)) | rfl))) ?_
  refine TL.as (pI ((k + (i : Int)) + 1)) ?_
  refine TL.nil ?_
  refine T.region ?_
  refine TL.mv (pI (i : Int)) ?_
  refine TL.c (Step.bin (r := .int .i64 ((i : Int) + 1)) rfl rfl (lt_ok rfl) rfl rfl (Bin.add (a := (i : Int)) (b := 1) (by first | exact wrap_ok (by first | omega | (simp; omega)) (by first | omega | (simp; omega)) | rfl))) ?_
  refine TL.as (pI ((i : Int) + 1)) ?_
  refine TL.nil ?_
  refine ⟨i + 1, by omega, by first | omega | (dsimp only; omega), Env.le_mk ⟨rfl, rfl, ?_, ?_, trivial⟩ ⟨?_, trivial⟩ trivial⟩ <;> (first | exact congrArg (fun x => some (Ts 0, D.ints .u8 x)) (upTo_set (df := 0) (by omega) (by simp only [cntL_one_take a i (by omega)])) | exact congrArg (fun x => some (Ts 0, D.ints .u8 x)) (upTo_zero _ _).symm | rfl | (refine congrArg (fun n => PV.one (.d (.int .i64 n))) ?_; first | omega | (simp; done) | (simp [cntL]; done)))
 refine T.exit ?_
 refine T.seq ?_
 refine T.region ?_
 refine TL.mv (pI (k + (i : Int))) ?_
 refine TL.as (pI (k + (i : Int))) ?_
 refine TL.nil ?_
 refine T.ret ?_
 refine ⟨⟨⟨[(false, [cI (k + (i : Int))])], (.cons rfl .nil), rfl, [], (RetC.r ?_ .nil)⟩, rfl⟩, (.mk' (by exact congrArg (fun x => some (Ts 0, D.ints .u8 x)) (upTo_all (by omega))) (.rd .nil'))⟩ <;> ((congr 1; omega))
theorem ok_laws_eqByteSS (a : List (List Int)) (b : List (List Int)) : RO Try.prog 58 [.one (.bss a), .one (.bss b)] [(false, [.rd (.bool (decide (a = b)))])] := by
 refine RO.intro Try.func58 rfl 27 rfl (le_ok rfl) fun w Z => ?_
 refine T.bnd 0 0 rfl rfl fun hb_0_0 => ?_
 simp only [D.size, List.length_map] at hb_0_0
 refine T.bnd 1 0 rfl rfl fun hb_1_0 => ?_
 simp only [D.size, List.length_map] at hb_1_0
 refine T.seq ?_
 refine T.region ?_
 refine TL.as (pB false) ?_
 refine TL.nil ?_
 refine T.seq ?_
 refine T.seq ?_
 refine T.region ?_
 refine TL.mv (.one (.d (.bss a))) ?_
 refine TL.c (Step.len (e := 24) (z := 1) (d := (.bss a)) rfl rfl (lt_ok rfl) (by kernel_rfl) rfl rfl) ?_
 refine TL.mv (.one (.d (.bss b))) ?_
 refine TL.c (Step.len (e := 24) (z := 1) (d := (.bss b)) rfl rfl (lt_ok rfl) (by kernel_rfl) rfl rfl) ?_
 refine TL.b _ (Bin.neq (k := .i64) (a := (a.length : Int)) (b := (b.length : Int))) ?_
 refine TL.nil ?_
 refine T.ci rfl (fun h1 => ?_) (fun h1 => ?_)
 ·
  refine T.seq ?_
  refine T.region ?_
  refine TL.as (pB false) ?_
  refine TL.nil ?_
  refine T.ret ?_
  refine ⟨[(false, [.d (.bool false)])], (.cons rfl .nil), rfl, [], (RetC.r ?_ .nil)⟩ <;> ((congr 1; symm; first | (apply decide_eq_false; rintro rfl; first | exact absurd rfl ‹¬ _ = _› | exact absurd rfl (of_decide_eq_false (by assumption)) | contradiction | simp_all) | (apply decide_eq_true; exact take_all hx2 (by omega) hx3)))
 refine T.skip ?_
 refine T.seq ?_
 refine T.seq ?_
 refine T.region ?_
 refine TL.as (pI 0) ?_
 refine TL.nil ?_
 refine T.block ?_
 refine T.loop (ι := Nat) (fun xx_ => { tm := [(0, (.one (.d (.bss a)))), (1, (.one (.d (.bss b)))), (5, (pI (xx_ : Int)))], rows := [], boxes := [] }) (fun xx_ => xx_ ≤ a.length ∧ a.length = b.length ∧ a.take xx_ = b.take xx_) (fun xx_ => a.length - xx_) 0 ?_ ?_ ?_
 · refine Env.le_mk ⟨rfl, rfl, ?_, trivial⟩ trivial trivial <;> (first | rfl | (simp; done) | (congr 3; omega))
 · (refine ⟨Nat.zero_le _, by omega, by simp⟩)
 intro i hx
 try dsimp only at hx ⊢
 obtain ⟨hx1, hx2, hx3⟩ := hx
 refine T.seq ?_
 refine T.seq ?_
 refine T.region ?_
 refine TL.mv (pI (i : Int)) ?_
 refine TL.mv (.one (.d (.bss a))) ?_
 refine TL.c (Step.len (e := 24) (z := 1) (d := (.bss a)) rfl rfl (lt_ok rfl) (by kernel_rfl) rfl rfl) ?_
 refine TL.b _ (Bin.lss (k := .i64) (a := (i : Int)) (b := (a.length : Int))) ?_
 refine TL.nil ?_
 refine T.ci rfl (fun h2 => ?_) (fun h2 => ?_)
 ·
  refine T.skip ?_
  refine T.seq ?_
  refine T.block ?_
  refine T.seq ?_
  refine T.draw [⟨17, (.one (.d (.bss a))), []⟩, ⟨18, (pI (i : Int)), []⟩, ⟨19, (.one (.eptr (.bss a) i 0)), []⟩, ⟨20, (pS (a.getD i [])), []⟩, ⟨21, (.one (.d (.bss b))), []⟩, ⟨22, (pI (i : Int)), []⟩, ⟨23, (.one (.eptr (.bss b) i 0)), []⟩, ⟨24, (pS (b.getD i [])), []⟩, ⟨25, (pB (decide ((a.getD i []) = (b.getD i [])))), []⟩, ⟨26, (pB (!(decide ((a.getD i []) = (b.getD i []))))), []⟩] (by kernel_rfl) (by kernel_rfl) ?_ ?_
  ·
   refine .cons (fun E A => A.mv 0 17) ?_
   refine .cons (fun E A => A.mv 5 18) ?_
   refine .cons (fun E A => OpStep.plain rfl (Step.index (e := 24) (z := 1) (i := (i : Int)) (t := 19) rfl rfl (by exact lt_ok rfl) (by kernel_rfl) (A.g 17 rfl) rfl rfl (lt_ok rfl) (A.g 18 rfl) (by first | omega | (simp; omega)) (by simp only [D.size]; first | omega | (simp; omega)))) ?_
   refine .cons (fun E A => OpStep.plain rfl (Step.load (e := (.ints .u8 (a.getD i []))) (t := 20) rfl rfl (by exact lt_ok rfl) (by kernel_rfl) (A.g 19 rfl) rfl)) ?_
   refine .cons (fun E A => A.mv 1 21) ?_
   refine .cons (fun E A => A.mv 5 22) ?_
   refine .cons (fun E A => OpStep.plain rfl (Step.index (e := 24) (z := 1) (i := (i : Int)) (t := 23) rfl rfl (by exact lt_ok rfl) (by kernel_rfl) (A.g 21 rfl) rfl rfl (lt_ok rfl) (A.g 22 rfl) (by first | omega | (simp; omega)) (by simp only [D.size]; first | omega | (simp; omega)))) ?_
   refine .cons (fun E A => OpStep.plain rfl (Step.load (e := (.ints .u8 (b.getD i []))) (t := 24) rfl rfl (by exact lt_ok rfl) (by kernel_rfl) (A.g 23 rfl) rfl)) ?_
   refine .cons (fun E A => OpStep.plain rfl (Step.cd (xs := [.tmp 20, .tmp 24]) (ps := [(pS (a.getD i [])), (pS (b.getD i []))]) (g := .func 21) false 25 (evs_cons (A.g 20 rfl) (evs_cons (A.g 24 rfl) (rfl))) (.cons (.one (.d _)) (.cons (.one (.d _)) .nil)) (ok_laws_eqByteS (a.getD i []) (b.getD i [])) (At.freshRows A rfl))) ?_
   refine .cons (fun E A => OpStep.plain rfl (Step.not (b := (decide ((a.getD i []) = (b.getD i [])))) (t := 26) rfl rfl (by exact lt_ok rfl) (A.g 25 rfl))) ?_
   exact .nil _ _
  refine TL.nil ?_
  refine T.cni rfl (fun h3 => ?_) (fun h3 => ?_)
  ·
   refine T.seq ?_
   refine T.region ?_
   refine TL.as (pB false) ?_
   refine TL.nil ?_
   refine T.ret ?_
   refine ⟨[(false, [.d (.bool false)])], (.cons rfl .nil), rfl, [], (RetC.r ?_ .nil)⟩ <;> ((congr 1; symm; first | (apply decide_eq_false; rintro rfl; first | exact absurd rfl ‹¬ _ = _› | exact absurd rfl (of_decide_eq_false (by assumption)) | contradiction | simp_all) | (apply decide_eq_true; exact take_all hx2 (by omega) hx3)))
  refine T.skip ?_
  refine T.region ?_
  refine TL.mv (pI (i : Int)) ?_
  refine TL.c (Step.bin (r := .int .i64 ((i : Int) + 1)) rfl rfl (lt_ok rfl) rfl rfl (Bin.add (a := (i : Int)) (b := 1) (by first | exact wrap_ok (by first | omega | (simp; omega)) (by first | omega | (simp; omega)) | rfl))) ?_
  refine TL.as (pI ((i : Int) + 1)) ?_
  refine TL.nil ?_
  refine ⟨i + 1, by (refine ⟨by omega, hx2, take_step (d := []) hx2 (by omega) hx3 (by first | assumption | exact Decidable.not_not.1 (by assumption) | omega)⟩), by omega, Env.le_mk ⟨rfl, rfl, ?_, trivial⟩ trivial trivial⟩ <;> (first | rfl | (simp; done) | (congr 3; omega))
 refine T.exit ?_
 refine T.seq ?_
 refine T.region ?_
 refine TL.as (pB true) ?_
 refine TL.nil ?_
 refine T.ret ?_
 refine ⟨[(false, [.d (.bool true)])], (.cons rfl .nil), rfl, [], (RetC.r ?_ .nil)⟩ <;> ((congr 1; symm; first | (apply decide_eq_false; rintro rfl; first | exact absurd rfl ‹¬ _ = _› | exact absurd rfl (of_decide_eq_false (by assumption)) | contradiction | simp_all) | (apply decide_eq_true; exact take_all hx2 (by omega) hx3)))
theorem ok_laws_eqQc (a : SQc) (b : SQc) : RO Try.prog 34 [.agg a.cells, .agg b.cells] [(false, [.rd (.bool (decide (a = b)))])] := by
 refine RO.intro Try.func34 rfl 33 rfl (le_ok rfl) fun w Z => ?_
 refine T.seq ?_
 refine T.region ?_
 refine TL.c (Step.bx [cI a.f0, cI a.f1, cS a.f2, cS a.f3, .d (.bss a.f4)]) ?_
 refine TL.c (Step.bx [cI b.f0, cI b.f1, cS b.f2, cS b.f3, .d (.bss b.f4)]) ?_
 refine TL.as (pB false) ?_
 refine TL.nil ?_
 refine T.seq ?_
 refine T.seq ?_
 refine T.region ?_
 refine TL.c (Step.fd 0 1 true) ?_
 refine TL.c (Step.lb (.d (.int .i64 a.f0))) ?_
 refine TL.c (Step.fd 0 1 true) ?_
 refine TL.c (Step.lb (.d (.int .i64 b.f0))) ?_
 refine TL.b _ (Bin.neq (k := .i64) (a := a.f0) (b := b.f0)) ?_
 refine TL.nil ?_
 refine T.ci rfl (fun h1 => ?_) (fun h1 => ?_)
 ·
  refine T.seq ?_
  refine T.region ?_
  refine TL.as (pB false) ?_
  refine TL.nil ?_
  refine T.ret ?_
  refine ⟨[(false, [.d (.bool false)])], (.cons rfl .nil), rfl, [], (RetC.r ?_ .nil)⟩ <;> ((congr 1; symm; first | (apply decide_eq_false; rintro rfl; first | exact absurd rfl ‹¬ _ = _› | contradiction) | (apply decide_eq_true; apply SQc.ext <;> first | assumption | exact Decidable.not_not.1 (by assumption))))
 refine T.skip ?_
 refine T.seq ?_
 refine T.seq ?_
 refine T.region ?_
 refine TL.c (Step.fd 1 1 true) ?_
 refine TL.c (Step.lb (.d (.int .i64 a.f1))) ?_
 refine TL.c (Step.fd 1 1 true) ?_
 refine TL.c (Step.lb (.d (.int .i64 b.f1))) ?_
 refine TL.b _ (Bin.neq (k := .i64) (a := a.f1) (b := b.f1)) ?_
 refine TL.nil ?_
 refine T.ci rfl (fun h2 => ?_) (fun h2 => ?_)
 ·
  refine T.seq ?_
  refine T.region ?_
  refine TL.as (pB false) ?_
  refine TL.nil ?_
  refine T.ret ?_
  refine ⟨[(false, [.d (.bool false)])], (.cons rfl .nil), rfl, [], (RetC.r ?_ .nil)⟩ <;> ((congr 1; symm; first | (apply decide_eq_false; rintro rfl; first | exact absurd rfl ‹¬ _ = _› | contradiction) | (apply decide_eq_true; apply SQc.ext <;> first | assumption | exact Decidable.not_not.1 (by assumption))))
 refine T.skip ?_
 refine T.seq ?_
 refine T.seq ?_
 refine T.region ?_
 refine TL.c (Step.fd 2 1 true) ?_
 refine TL.c (Step.lb (.d (.ints .u8 a.f2))) ?_
 refine TL.c (Step.fd 2 1 true) ?_
 refine TL.c (Step.lb (.d (.ints .u8 b.f2))) ?_
 refine TL.c (Step.cl (xs := [.tmp 16, .tmp 18]) (ps := [(pS a.f2), (pS b.f2)]) (g := .func 21) false (.cons (.one (.d _)) (.cons (.one (.d _)) .nil)) (ok_laws_eqByteS a.f2 b.f2)) ?_
 refine TL.c (Step.not (b := (decide (a.f2 = b.f2))) rfl rfl (lt_ok rfl) rfl) ?_
 refine TL.nil ?_
 refine T.cni rfl (fun h3 => ?_) (fun h3 => ?_)
 ·
  refine T.seq ?_
  refine T.region ?_
  refine TL.as (pB false) ?_
  refine TL.nil ?_
  refine T.ret ?_
  refine ⟨[(false, [.d (.bool false)])], (.cons rfl .nil), rfl, [], (RetC.r ?_ .nil)⟩ <;> ((congr 1; symm; first | (apply decide_eq_false; rintro rfl; first | exact absurd rfl ‹¬ _ = _› | contradiction) | (apply decide_eq_true; apply SQc.ext <;> first | assumption | exact Decidable.not_not.1 (by assumption))))
 refine T.skip ?_
 refine T.seq ?_
 refine T.seq ?_
 refine T.region ?_
 refine TL.c (Step.fd 3 1 true) ?_
 refine TL.c (Step.lb (.d (.ints .u8 a.f3))) ?_
 refine TL.c (Step.fd 3 1 true) ?_
 refine TL.c (Step.lb (.d (.ints .u8 b.f3))) ?_
 refine TL.c (Step.cl (xs := [.tmp 22, .tmp 24]) (ps := [(pS a.f3), (pS b.f3)]) (g := .func 21) false (.cons (.one (.d _)) (.cons (.one (.d _)) .nil)) (ok_laws_eqByteS a.f3 b.f3)) ?_
 refine TL.c (Step.not (b := (decide (a.f3 = b.f3))) rfl rfl (lt_ok rfl) rfl) ?_
 refine TL.nil ?_
 refine T.cni rfl (fun h4 => ?_) (fun h4 => ?_)
 ·
  refine T.seq ?_
  refine T.region ?_
  refine TL.as (pB false) ?_
  refine TL.nil ?_
  refine T.ret ?_
  refine ⟨[(false, [.d (.bool false)])], (.cons rfl .nil), rfl, [], (RetC.r ?_ .nil)⟩ <;> ((congr 1; symm; first | (apply decide_eq_false; rintro rfl; first | exact absurd rfl ‹¬ _ = _› | contradiction) | (apply decide_eq_true; apply SQc.ext <;> first | assumption | exact Decidable.not_not.1 (by assumption))))
 refine T.skip ?_
 refine T.seq ?_
 refine T.seq ?_
 refine T.region ?_
 refine TL.c (Step.fd 4 1 true) ?_
 refine TL.c (Step.lb (.d (.bss a.f4))) ?_
 refine TL.c (Step.fd 4 1 true) ?_
 refine TL.c (Step.lb (.d (.bss b.f4))) ?_
 refine TL.c (Step.cl (xs := [.tmp 28, .tmp 30]) (ps := [(.one (.d (.bss a.f4))), (.one (.d (.bss b.f4)))]) (g := .func 58) false (.cons (.one (.d _)) (.cons (.one (.d _)) .nil)) (ok_laws_eqByteSS a.f4 b.f4)) ?_
 refine TL.c (Step.not (b := (decide (a.f4 = b.f4))) rfl rfl (lt_ok rfl) rfl) ?_
 refine TL.nil ?_
 refine T.cni rfl (fun h5 => ?_) (fun h5 => ?_)
 ·
  refine T.seq ?_
  refine T.region ?_
  refine TL.as (pB false) ?_
  refine TL.nil ?_
  refine T.ret ?_
  refine ⟨[(false, [.d (.bool false)])], (.cons rfl .nil), rfl, [], (RetC.r ?_ .nil)⟩ <;> ((congr 1; symm; first | (apply decide_eq_false; rintro rfl; first | exact absurd rfl ‹¬ _ = _› | contradiction) | (apply decide_eq_true; apply SQc.ext <;> first | assumption | exact Decidable.not_not.1 (by assumption))))
 refine T.skip ?_
 refine T.seq ?_
 refine T.region ?_
 refine TL.as (pB true) ?_
 refine TL.nil ?_
 refine T.ret ?_
 refine ⟨[(false, [.d (.bool true)])], (.cons rfl .nil), rfl, [], (RetC.r ?_ .nil)⟩ <;> ((congr 1; symm; first | (apply decide_eq_false; rintro rfl; first | exact absurd rfl ‹¬ _ = _› | contradiction) | (apply decide_eq_true; apply SQc.ext <;> first | assumption | exact Decidable.not_not.1 (by assumption))))
theorem ok_laws_eqHead (a : SHead) (b : SHead) : RO Try.prog 39 [.agg a.cells, .agg b.cells] [(false, [.rd (.bool (decide (a = b)))])] := by
 refine RO.intro Try.func39 rfl 38 rfl (le_ok rfl) fun w Z => ?_
 refine T.seq ?_
 refine T.region ?_
 refine TL.c (Step.bx [cI a.f0, cI a.f1, cI a.f2, cS a.f3, cS a.f4, cI a.f5.f0, cI a.f5.f1, cS a.f5.f2, cS a.f5.f3, .d (.bss a.f5.f4)]) ?_
 refine TL.c (Step.bx [cI b.f0, cI b.f1, cI b.f2, cS b.f3, cS b.f4, cI b.f5.f0, cI b.f5.f1, cS b.f5.f2, cS b.f5.f3, .d (.bss b.f5.f4)]) ?_
 refine TL.as (pB false) ?_
 refine TL.nil ?_
 refine T.seq ?_
 refine T.seq ?_
 refine T.region ?_
 refine TL.c (Step.fd 0 1 true) ?_
 refine TL.c (Step.lb (.d (.int .i64 a.f0))) ?_
 refine TL.c (Step.fd 0 1 true) ?_
 refine TL.c (Step.lb (.d (.int .i64 b.f0))) ?_
 refine TL.b _ (Bin.neq (k := .i64) (a := a.f0) (b := b.f0)) ?_
 refine TL.nil ?_
 refine T.ci rfl (fun h1 => ?_) (fun h1 => ?_)
 ·
  refine T.seq ?_
  refine T.region ?_
  refine TL.as (pB false) ?_
  refine TL.nil ?_
  refine T.ret ?_
  refine ⟨[(false, [.d (.bool false)])], (.cons rfl .nil), rfl, [], (RetC.r ?_ .nil)⟩ <;> ((congr 1; symm; first | (apply decide_eq_false; rintro rfl; first | exact absurd rfl ‹¬ _ = _› | contradiction) | (apply decide_eq_true; apply SHead.ext <;> first | assumption | exact Decidable.not_not.1 (by assumption))))
 refine T.skip ?_
 refine T.seq ?_
 refine T.seq ?_
 refine T.region ?_
 refine TL.c (Step.fd 1 1 true) ?_
 refine TL.c (Step.lb (.d (.int .i64 a.f1))) ?_
 refine TL.c (Step.fd 1 1 true) ?_
 refine TL.c (Step.lb (.d (.int .i64 b.f1))) ?_
 refine TL.b _ (Bin.neq (k := .i64) (a := a.f1) (b := b.f1)) ?_
 refine TL.nil ?_
 refine T.ci rfl (fun h2 => ?_) (fun h2 => ?_)
 ·
  refine T.seq ?_
  refine T.region ?_
  refine TL.as (pB false) ?_
  refine TL.nil ?_
  refine T.ret ?_
  refine ⟨[(false, [.d (.bool false)])], (.cons rfl .nil), rfl, [], (RetC.r ?_ .nil)⟩ <;> ((congr 1; symm; first | (apply decide_eq_false; rintro rfl; first | exact absurd rfl ‹¬ _ = _› | contradiction) | (apply decide_eq_true; apply SHead.ext <;> first | assumption | exact Decidable.not_not.1 (by assumption))))
 refine T.skip ?_
 refine T.seq ?_
 refine T.seq ?_
 refine T.region ?_
 refine TL.c (Step.fd 2 1 true) ?_
 refine TL.c (Step.lb (.d (.int .i64 a.f2))) ?_
 refine TL.c (Step.fd 2 1 true) ?_
 refine TL.c (Step.lb (.d (.int .i64 b.f2))) ?_
 refine TL.b _ (Bin.neq (k := .i64) (a := a.f2) (b := b.f2)) ?_
 refine TL.nil ?_
 refine T.ci rfl (fun h3 => ?_) (fun h3 => ?_)
 ·
  refine T.seq ?_
  refine T.region ?_
  refine TL.as (pB false) ?_
  refine TL.nil ?_
  refine T.ret ?_
  refine ⟨[(false, [.d (.bool false)])], (.cons rfl .nil), rfl, [], (RetC.r ?_ .nil)⟩ <;> ((congr 1; symm; first | (apply decide_eq_false; rintro rfl; first | exact absurd rfl ‹¬ _ = _› | contradiction) | (apply decide_eq_true; apply SHead.ext <;> first | assumption | exact Decidable.not_not.1 (by assumption))))
 refine T.skip ?_
 refine T.seq ?_
 refine T.seq ?_
 refine T.region ?_
 refine TL.c (Step.fd 3 1 true) ?_
 refine TL.c (Step.lb (.d (.ints .u8 a.f3))) ?_
 refine TL.c (Step.fd 3 1 true) ?_
 refine TL.c (Step.lb (.d (.ints .u8 b.f3))) ?_
 refine TL.c (Step.cl (xs := [.tmp 21, .tmp 23]) (ps := [(pS a.f3), (pS b.f3)]) (g := .func 21) false (.cons (.one (.d _)) (.cons (.one (.d _)) .nil)) (ok_laws_eqByteS a.f3 b.f3)) ?_
 refine TL.c (Step.not (b := (decide (a.f3 = b.f3))) rfl rfl (lt_ok rfl) rfl) ?_
 refine TL.nil ?_
 refine T.cni rfl (fun h4 => ?_) (fun h4 => ?_)
 ·
  refine T.seq ?_
  refine T.region ?_
  refine TL.as (pB false) ?_
  refine TL.nil ?_
  refine T.ret ?_
  refine ⟨[(false, [.d (.bool false)])], (.cons rfl .nil), rfl, [], (RetC.r ?_ .nil)⟩ <;> ((congr 1; symm; first | (apply decide_eq_false; rintro rfl; first | exact absurd rfl ‹¬ _ = _› | contradiction) | (apply decide_eq_true; apply SHead.ext <;> first | assumption | exact Decidable.not_not.1 (by assumption))))
 refine T.skip ?_
 refine T.seq ?_
 refine T.seq ?_
 refine T.region ?_
 refine TL.c (Step.fd 4 1 true) ?_
 refine TL.c (Step.lb (.d (.ints .u8 a.f4))) ?_
 refine TL.c (Step.fd 4 1 true) ?_
 refine TL.c (Step.lb (.d (.ints .u8 b.f4))) ?_
 refine TL.c (Step.cl (xs := [.tmp 27, .tmp 29]) (ps := [(pS a.f4), (pS b.f4)]) (g := .func 21) false (.cons (.one (.d _)) (.cons (.one (.d _)) .nil)) (ok_laws_eqByteS a.f4 b.f4)) ?_
 refine TL.c (Step.not (b := (decide (a.f4 = b.f4))) rfl rfl (lt_ok rfl) rfl) ?_
 refine TL.nil ?_
 refine T.cni rfl (fun h5 => ?_) (fun h5 => ?_)
 ·
  refine T.seq ?_
  refine T.region ?_
  refine TL.as (pB false) ?_
  refine TL.nil ?_
  refine T.ret ?_
  refine ⟨[(false, [.d (.bool false)])], (.cons rfl .nil), rfl, [], (RetC.r ?_ .nil)⟩ <;> ((congr 1; symm; first | (apply decide_eq_false; rintro rfl; first | exact absurd rfl ‹¬ _ = _› | contradiction) | (apply decide_eq_true; apply SHead.ext <;> first | assumption | exact Decidable.not_not.1 (by assumption))))
 refine T.skip ?_
 refine T.seq ?_
 refine T.seq ?_
 refine T.region ?_
 refine TL.c (Step.fd 5 5 false) ?_
 refine TL.c (Step.lba 5 [cI a.f5.f0, cI a.f5.f1, cS a.f5.f2, cS a.f5.f3, .d (.bss a.f5.f4)]) ?_
 refine TL.c (Step.fd 5 5 false) ?_
 refine TL.c (Step.lba 5 [cI b.f5.f0, cI b.f5.f1, cS b.f5.f2, cS b.f5.f3, .d (.bss b.f5.f4)]) ?_
 refine TL.c (Step.cl (xs := [.tmp 33, .tmp 35]) (ps := [(.agg [cI a.f5.f0, cI a.f5.f1, cS a.f5.f2, cS a.f5.f3, .d (.bss a.f5.f4)]), (.agg [cI b.f5.f0, cI b.f5.f1, cS b.f5.f2, cS b.f5.f3, .d (.bss b.f5.f4)])]) (g := .func 34) false (.cons (.agg (.cons (.d _) (.cons (.d _) (.cons (.d _) (.cons (.d _) (.cons (.d _) .nil)))))) (.cons (.agg (.cons (.d _) (.cons (.d _) (.cons (.d _) (.cons (.d _) (.cons (.d _) .nil)))))) .nil)) (ok_laws_eqQc a.f5 b.f5)) ?_
 refine TL.c (Step.not (b := (decide (a.f5 = b.f5))) rfl rfl (lt_ok rfl) rfl) ?_
 refine TL.nil ?_
 refine T.wk [(4, (pB false)), (37, (pB (!(decide (a.f5 = b.f5)))))] [] [] ?_
 refine T.cni rfl (fun h6 => ?_) (fun h6 => ?_)
 ·
  refine T.seq ?_
  refine T.region ?_
  refine TL.as (pB false) ?_
  refine TL.nil ?_
  refine T.ret ?_
  refine ⟨[(false, [.d (.bool false)])], (.cons rfl .nil), rfl, [], (RetC.r ?_ .nil)⟩ <;> ((congr 1; symm; first | (apply decide_eq_false; rintro rfl; first | exact absurd rfl ‹¬ _ = _› | contradiction) | (apply decide_eq_true; apply SHead.ext <;> first | assumption | exact Decidable.not_not.1 (by assumption))))
 refine T.skip ?_
 refine T.seq ?_
 refine T.region ?_
 refine TL.as (pB true) ?_
 refine TL.nil ?_
 refine T.ret ?_
 refine ⟨[(false, [.d (.bool true)])], (.cons rfl .nil), rfl, [], (RetC.r ?_ .nil)⟩ <;> ((congr 1; symm; first | (apply decide_eq_false; rintro rfl; first | exact absurd rfl ‹¬ _ = _› | contradiction) | (apply decide_eq_true; apply SHead.ext <;> first | assumption | exact Decidable.not_not.1 (by assumption))))
theorem ok_laws_eqBlock (a : SBlock) (b : SBlock) : RO Try.prog 30 [.agg a.cells, .agg b.cells] [(false, [.rd (.bool (decide (a = b)))])] := by
 refine RO.intro Try.func30 rfl 17 rfl (le_ok rfl) fun w Z => ?_
 refine T.seq ?_
 refine T.region ?_
 refine TL.c (Step.bx [cI a.f0.f0, cI a.f0.f1, cI a.f0.f2, cS a.f0.f3, cS a.f0.f4, cI a.f0.f5.f0, cI a.f0.f5.f1, cS a.f0.f5.f2, cS a.f0.f5.f3, .d (.bss a.f0.f5.f4), .d (.bss a.f1)]) ?_
 refine TL.c (Step.bx [cI b.f0.f0, cI b.f0.f1, cI b.f0.f2, cS b.f0.f3, cS b.f0.f4, cI b.f0.f5.f0, cI b.f0.f5.f1, cS b.f0.f5.f2, cS b.f0.f5.f3, .d (.bss b.f0.f5.f4), .d (.bss b.f1)]) ?_
 refine TL.as (pB false) ?_
 refine TL.nil ?_
 refine T.seq ?_
 refine T.seq ?_
 refine T.region ?_
 refine TL.c (Step.fd 0 10 false) ?_
 refine TL.c (Step.lba 10 [cI a.f0.f0, cI a.f0.f1, cI a.f0.f2, cS a.f0.f3, cS a.f0.f4, cI a.f0.f5.f0, cI a.f0.f5.f1, cS a.f0.f5.f2, cS a.f0.f5.f3, .d (.bss a.f0.f5.f4)]) ?_
 refine TL.c (Step.fd 0 10 false) ?_
 refine TL.c (Step.lba 10 [cI b.f0.f0, cI b.f0.f1, cI b.f0.f2, cS b.f0.f3, cS b.f0.f4, cI b.f0.f5.f0, cI b.f0.f5.f1, cS b.f0.f5.f2, cS b.f0.f5.f3, .d (.bss b.f0.f5.f4)]) ?_
 refine TL.c (Step.cl (xs := [.tmp 6, .tmp 8]) (ps := [(.agg [cI a.f0.f0, cI a.f0.f1, cI a.f0.f2, cS a.f0.f3, cS a.f0.f4, cI a.f0.f5.f0, cI a.f0.f5.f1, cS a.f0.f5.f2, cS a.f0.f5.f3, .d (.bss a.f0.f5.f4)]), (.agg [cI b.f0.f0, cI b.f0.f1, cI b.f0.f2, cS b.f0.f3, cS b.f0.f4, cI b.f0.f5.f0, cI b.f0.f5.f1, cS b.f0.f5.f2, cS b.f0.f5.f3, .d (.bss b.f0.f5.f4)])]) (g := .func 39) false (.cons (.agg (.cons (.d _) (.cons (.d _) (.cons (.d _) (.cons (.d _) (.cons (.d _) (.cons (.d _) (.cons (.d _) (.cons (.d _) (.cons (.d _) (.cons (.d _) .nil))))))))))) (.cons (.agg (.cons (.d _) (.cons (.d _) (.cons (.d _) (.cons (.d _) (.cons (.d _) (.cons (.d _) (.cons (.d _) (.cons (.d _) (.cons (.d _) (.cons (.d _) .nil))))))))))) .nil)) (ok_laws_eqHead a.f0 b.f0)) ?_
 refine TL.c (Step.not (b := (decide (a.f0 = b.f0))) rfl rfl (lt_ok rfl) rfl) ?_
 refine TL.nil ?_
 refine T.cni rfl (fun h1 => ?_) (fun h1 => ?_)
 ·
  refine T.seq ?_
  refine T.region ?_
  refine TL.as (pB false) ?_
  refine TL.nil ?_
  refine T.ret ?_
  refine ⟨[(false, [.d (.bool false)])], (.cons rfl .nil), rfl, [], (RetC.r ?_ .nil)⟩ <;> ((congr 1; symm; first | (apply decide_eq_false; rintro rfl; first | exact absurd rfl ‹¬ _ = _› | contradiction) | (apply decide_eq_true; apply SBlock.ext <;> first | assumption | exact Decidable.not_not.1 (by assumption))))
 refine T.skip ?_
 refine T.seq ?_
 refine T.seq ?_
 refine T.region ?_
 refine TL.c (Step.fd 10 1 true) ?_
 refine TL.c (Step.lb (.d (.bss a.f1))) ?_
 refine TL.c (Step.fd 10 1 true) ?_
 refine TL.c (Step.lb (.d (.bss b.f1))) ?_
 refine TL.c (Step.cl (xs := [.tmp 12, .tmp 14]) (ps := [(.one (.d (.bss a.f1))), (.one (.d (.bss b.f1)))]) (g := .func 58) false (.cons (.one (.d _)) (.cons (.one (.d _)) .nil)) (ok_laws_eqByteSS a.f1 b.f1)) ?_
 refine TL.c (Step.not (b := (decide (a.f1 = b.f1))) rfl rfl (lt_ok rfl) rfl) ?_
 refine TL.nil ?_
 refine T.cni rfl (fun h2 => ?_) (fun h2 => ?_)
 ·
  refine T.seq ?_
  refine T.region ?_
  refine TL.as (pB false) ?_
  refine TL.nil ?_
  refine T.ret ?_
  refine ⟨[(false, [.d (.bool false)])], (.cons rfl .nil), rfl, [], (RetC.r ?_ .nil)⟩ <;> ((congr 1; symm; first | (apply decide_eq_false; rintro rfl; first | exact absurd rfl ‹¬ _ = _› | contradiction) | (apply decide_eq_true; apply SBlock.ext <;> first | assumption | exact Decidable.not_not.1 (by assumption))))
 refine T.skip ?_
 refine T.seq ?_
 refine T.region ?_
 refine TL.as (pB true) ?_
 refine TL.nil ?_
 refine T.ret ?_
 refine ⟨[(false, [.d (.bool true)])], (.cons rfl .nil), rfl, [], (RetC.r ?_ .nil)⟩ <;> ((congr 1; symm; first | (apply decide_eq_false; rintro rfl; first | exact absurd rfl ‹¬ _ = _› | contradiction) | (apply decide_eq_true; apply SBlock.ext <;> first | assumption | exact Decidable.not_not.1 (by assumption))))
theorem ok_laws_markByteSS (a : List (List Int)) (k : Int) (h0_ : 0 ≤ k) (h1_ : k + cntL (fun x : List Int => (x.length : Int)) a ≤ 4611686018427387904) : MK Try.prog 63 [.one (.mk (.bss a) (.bss (mkBs a k))), .one (.rd (.int .i64 k))] [(false, [.rd (.int .i64 (k + cntL (fun x : List Int => (x.length : Int)) a))])] := by
 refine MK.intro Try.func63 rfl 19 rfl (le_ok rfl) (le_ok rfl) rfl fun w Z IX pin Ts hp => ?_
 refine T.bndRow 900 rfl fun hb_900 => ?_
 simp only [D.size, List.length_map] at hb_900
 refine T.seq ?_
 refine T.region ?_
 refine TL.as (pI 0) ?_
 refine TL.nil ?_
 refine T.seq ?_
 refine T.seq ?_
 refine T.region ?_
 refine TL.as (pI 0) ?_
 refine TL.nil ?_
 refine T.block ?_
 refine T.loop (ι := Nat) (fun xx_ => { tm := [(0, (.one (.row 900 []))), (4, (pI 0)), (5, (pI (xx_ : Int))), (1, (pI (k + cntL (fun x : List Int => (x.length : Int)) (a.take xx_))))], rows := [(900, ((Ts 0), (.bss ((upTo (fun x : List Int => (x.length : Int)) mkB a k xx_).set xx_ (a.getD xx_ [])))))], boxes := [] }) (fun xx_ => xx_ ≤ a.length) (fun xx_ => a.length - xx_) 0 ?_ ?_ ?_
 · refine Env.le_mk ⟨rfl, rfl, ?_, ?_, trivial⟩ ⟨?_, trivial⟩ trivial <;> (first | exact congrArg (fun x => some (Ts 0, D.bss x)) (upTo_next (df := []) (by omega) rfl) | exact congrArg (fun x => some (Ts 0, D.bss x)) (upTo_first a k []) | rfl | (refine congrArg (fun n => PV.one (.d (.int .i64 n))) ?_; first | omega | (simp; done) | (simp [cntL]; done)))
 · exact Nat.zero_le _
 intro i hx
 try dsimp only at hx ⊢
 refine T.seq ?_
 refine T.seq ?_
 refine T.region ?_
 refine TL.mv (pI (i : Int)) ?_
 refine TL.mv (.one (.row 900 [])) ?_
 refine TL.c (Step.len' (e := 24) (z := 1) (d := (.bss ((upTo (fun x : List Int => (x.length : Int)) mkB a k i).set i (a.getD i [])))) (n := a.length) rfl rfl (lt_ok rfl) (by kernel_rfl) rfl rfl (by simp [D.size, upTo_length])) ?_
 refine TL.b _ (Bin.lss (k := .i64) (a := (i : Int)) (b := (a.length : Int))) ?_
 refine TL.nil ?_
 refine T.ci rfl (fun h1 => ?_) (fun h1 => ?_)
 ·
  have hc1 := cntL_take_le (cnt := (fun x : List Int => (x.length : Int))) (fun x => by omega) a (i + 1)
  have hc2 := cntL_take_succ (cnt := (fun x : List Int => (x.length : Int))) (i := i) [] (show i < a.length by omega)
  have hc3 := cntL_nonneg (cnt := (fun x : List Int => (x.length : Int))) (fun x => by omega) (a.take i)
  try dsimp only at hc2
  refine T.skip ?_
  refine T.seq ?_
  refine T.block ?_
  refine T.region ?_
  refine TL.mv (.one (.row 900 [])) ?_
  refine TL.mv (pI (i : Int)) ?_
  refine TL.c (Step.index_row (d := (.bss ((upTo (fun x : List Int => (x.length : Int)) mkB a k i).set i (a.getD i [])))) (e := 24) (z := 1) (i := (i : Int)) rfl rfl (lt_ok rfl) (by kernel_rfl) rfl rfl rfl rfl (lt_ok rfl) rfl (by first | omega | (simp; omega)) (by simp only [D.at_, D.cell, D.size, List.length_set, List.length_map, upTo_length]; first | omega | (simp; omega))) ?_
  refine TL.c (Step.load_row (d := (.bss ((upTo (fun x : List Int => (x.length : Int)) mkB a k i).set i (a.getD i [])))) (c := .row 900 [(i, 0)]) rfl rfl (lt_ok rfl) (by kernel_rfl) rfl rfl (ofRow_sl (cell_set_bss (by simp only [upTo_length]; first | omega | (simp; omega))) rfl)) ?_
  refine TL.mv (pI (k + cntL (fun x : List Int => (x.length : Int)) (a.take i))) ?_
  refine TL.c (Step.callM2 (xs := [.tmp 15, .tmp 16]) (ps := [(.one (.row 900 [(i, 0)])), (pI (k + cntL (fun x : List Int => (x.length : Int)) (a.take i)))]) (js := [(900, (.bss ((upTo (fun x : List Int => (x.length : Int)) mkB a k i).set i (mkB (a.getD i []) (k + cntL (fun x : List Int => (x.length : Int)) (a.take i))))))]) (g := .func 23) (ok_laws_markByteS (a.getD i []) (k + cntL (fun x : List Int => (x.length : Int)) (a.take i)) (by omega) (by first | omega | (have := (by assumption); omega))) rfl rfl (lt_ok rfl) rfl (by kernel_rfl) rfl rfl (.row (T := (Ts 0)) (d := (.bss ((upTo (fun x : List Int => (x.length : Int)) mkB a k i).set i (a.getD i [])))) (e' := (.ints .u8 (mkB (a.getD i []) (k + cntL (fun x : List Int => (x.length : Int)) (a.take i))))) (d' := (.bss ((upTo (fun x : List Int => (x.length : Int)) mkB a k i).set i (mkB (a.getD i []) (k + cntL (fun x : List Int => (x.length : Int)) (a.take i)))))) rfl (cell_set_bss (by simp only [upTo_length]; first | omega | (simp; omega))) rfl putAt_bss2 rfl (by simp [D.size]) rfl rfl (.d .nil)) rfl) ?_
  refine TL.as (pI ((k + cntL (fun x : List Int => (x.length : Int)) (a.take i)) + ((a.getD i []).length : Int))) ?_
  refine TL.nil ?_
  refine T.region ?_
  refine TL.mv (pI (i : Int)) ?_
  refine TL.c (Step.bin (r := .int .i64 ((i : Int) + 1)) rfl rfl (lt_ok rfl) rfl rfl (Bin.add (a := (i : Int)) (b := 1) (by first | exact wrap_ok (by first | omega | (simp; omega)) (by first | omega | (simp; omega)) | rfl))) ?_
  refine TL.as (pI ((i : Int) + 1)) ?_
  refine TL.nil ?_
  refine ⟨i + 1, by omega, by first | omega | (dsimp only; omega), Env.le_mk ⟨rfl, rfl, ?_, ?_, trivial⟩ ⟨?_, trivial⟩ trivial⟩ <;> (first | exact congrArg (fun x => some (Ts 0, D.bss x)) (upTo_next (df := []) (by omega) rfl) | exact congrArg (fun x => some (Ts 0, D.bss x)) (upTo_first a k []) | rfl | (refine congrArg (fun n => PV.one (.d (.int .i64 n))) ?_; first | omega | (simp; done) | (simp [cntL]; done)))
 refine T.exit ?_
 refine T.seq ?_
 refine T.region ?_
 refine TL.mv (pI (k + cntL (fun x : List Int => (x.length : Int)) (a.take i))) ?_
 refine TL.as (pI (k + cntL (fun x : List Int => (x.length : Int)) (a.take i))) ?_
 refine TL.nil ?_
 refine T.ret ?_
 refine ⟨⟨⟨[(false, [cI (k + cntL (fun x : List Int => (x.length : Int)) (a.take i))])], (.cons rfl .nil), rfl, [], (RetC.r ?_ .nil)⟩, rfl⟩, (.mk' (by exact congrArg (fun x => some (Ts 0, D.bss x)) (upTo_end (by omega))) (.rd .nil'))⟩ <;> ((congr 1; rw [cntL_all (by omega)]))
theorem ok_laws_markQc (a : SQc) (k : Int) (h0_ : 0 ≤ k) (h1_ : k + a.cm ≤ 4611686018427387904) : MK Try.prog 35 [.agg [.rd (.int .i64 a.f0), .rd (.int .i64 a.f1), .mk (.ints .u8 a.f2) (.ints .u8 (mkB a.f2 k)), .mk (.ints .u8 a.f3) (.ints .u8 (mkB a.f3 (k + (a.f2.length : Int)))), .mk (.bss a.f4) (.bss (mkBs a.f4 ((k + (a.f2.length : Int)) + (a.f3.length : Int))))], .one (.rd (.int .i64 k))] [(false, [.rd (.int .i64 (k + a.cm))])] := by
 refine MK.intro Try.func35 rfl 18 rfl (le_ok rfl) (le_ok rfl) rfl fun w Z IX pin Ts hp => ?_
 have n4 := cntBs_nonneg a.f4
 simp only [SQc.cm] at h1_
 refine T.seq ?_
 refine T.region ?_
 refine TL.c (Step.bx [cI a.f0, cI a.f1, .row 902 [], .row 903 [], .row 904 []]) ?_
 refine TL.as (pI 0) ?_
 refine TL.nil ?_
 refine T.seq ?_
 refine T.region ?_
 refine TL.c (Step.fd 2 1 true) ?_
 refine TL.c (Step.lb (.row 902 [])) ?_
 refine TL.mv (pI k) ?_
 refine TL.c (Step.callM2 (xs := [.tmp 6, .tmp 7]) (ps := [(.one (.row 902 [])), (pI k)]) (js := [(902, (.ints .u8 (mkB a.f2 k)))]) (g := .func 23) (ok_laws_markByteS a.f2 k (by omega) (by first | omega | (have := (by assumption); omega))) rfl rfl (lt_ok rfl) rfl (by kernel_rfl) rfl rfl (.row (T := (Ts 2)) (d := (.ints .u8 a.f2)) (e' := (.ints .u8 (mkB a.f2 k))) (d' := (.ints .u8 (mkB a.f2 k))) rfl rfl rfl rfl rfl (by simp [D.size, mkL_length]) rfl rfl (.d .nil)) rfl) ?_
 refine TL.as (pI (k + (a.f2.length : Int))) ?_
 refine TL.nil ?_
 refine T.seq ?_
 refine T.region ?_
 refine TL.c (Step.fd 3 1 true) ?_
 refine TL.c (Step.lb (.row 903 [])) ?_
 refine TL.mv (pI (k + (a.f2.length : Int))) ?_
 refine TL.c (Step.callM2 (xs := [.tmp 10, .tmp 11]) (ps := [(.one (.row 903 [])), (pI (k + (a.f2.length : Int)))]) (js := [(903, (.ints .u8 (mkB a.f3 (k + (a.f2.length : Int)))))]) (g := .func 23) (ok_laws_markByteS a.f3 (k + (a.f2.length : Int)) (by omega) (by first | omega | (have := (by assumption); omega))) rfl rfl (lt_ok rfl) rfl (by kernel_rfl) rfl rfl (.row (T := (Ts 3)) (d := (.ints .u8 a.f3)) (e' := (.ints .u8 (mkB a.f3 (k + (a.f2.length : Int))))) (d' := (.ints .u8 (mkB a.f3 (k + (a.f2.length : Int))))) rfl rfl rfl rfl rfl (by simp [D.size, mkL_length]) rfl rfl (.d .nil)) rfl) ?_
 refine TL.as (pI ((k + (a.f2.length : Int)) + (a.f3.length : Int))) ?_
 refine TL.nil ?_
 refine T.seq ?_
 refine T.region ?_
 refine TL.c (Step.fd 4 1 true) ?_
 refine TL.c (Step.lb (.row 904 [])) ?_
 refine TL.mv (pI ((k + (a.f2.length : Int)) + (a.f3.length : Int))) ?_
 have nn1 := cntBs_nonneg a.f4
 refine TL.c (Step.callM2 (xs := [.tmp 14, .tmp 15]) (ps := [(.one (.row 904 [])), (pI ((k + (a.f2.length : Int)) + (a.f3.length : Int)))]) (js := [(904, (.bss (mkBs a.f4 ((k + (a.f2.length : Int)) + (a.f3.length : Int)))))]) (g := .func 63) (ok_laws_markByteSS a.f4 ((k + (a.f2.length : Int)) + (a.f3.length : Int)) (by omega) (by first | omega | (have := cntBs_le (xs := a.f4) (by assumption); omega))) rfl rfl (lt_ok rfl) rfl (by kernel_rfl) rfl rfl (.row (T := (Ts 4)) (d := (.bss a.f4)) (e' := (.bss (mkBs a.f4 ((k + (a.f2.length : Int)) + (a.f3.length : Int))))) (d' := (.bss (mkBs a.f4 ((k + (a.f2.length : Int)) + (a.f3.length : Int))))) rfl rfl rfl rfl rfl (by simp [D.size, mkL_length]) rfl rfl (.d .nil)) rfl) ?_
 refine TL.as (pI (((k + (a.f2.length : Int)) + (a.f3.length : Int)) + cntL (fun x : List Int => (x.length : Int)) a.f4)) ?_
 refine TL.nil ?_
 refine T.seq ?_
 refine T.region ?_
 refine TL.mv (pI (((k + (a.f2.length : Int)) + (a.f3.length : Int)) + cntL (fun x : List Int => (x.length : Int)) a.f4)) ?_
 refine TL.as (pI (((k + (a.f2.length : Int)) + (a.f3.length : Int)) + cntL (fun x : List Int => (x.length : Int)) a.f4)) ?_
 refine TL.nil ?_
 refine T.ret ?_
 refine ⟨⟨⟨[(false, [cI (((k + (a.f2.length : Int)) + (a.f3.length : Int)) + cntL (fun x : List Int => (x.length : Int)) a.f4)])], (.cons rfl .nil), rfl, [], (RetC.r ?_ .nil)⟩, rfl⟩, (.rd (.rd (.mk' (by rfl) (.mk' (by rfl) (.mk' (by rfl) (.rd .nil'))))))⟩ <;> (first | rfl | (congr 1; simp only [SQc.cm]; omega))
theorem ok_laws_markHead (a : SHead) (k : Int) (h0_ : 0 ≤ k) (h1_ : k + a.cm ≤ 4611686018427387904) : MK Try.prog 40 [.agg [.rd (.int .i64 a.f0), .rd (.int .i64 a.f1), .rd (.int .i64 a.f2), .mk (.ints .u8 a.f3) (.ints .u8 (mkB a.f3 k)), .mk (.ints .u8 a.f4) (.ints .u8 (mkB a.f4 (k + (a.f3.length : Int)))), .rd (.int .i64 a.f5.f0), .rd (.int .i64 a.f5.f1), .mk (.ints .u8 a.f5.f2) (.ints .u8 (mkB a.f5.f2 ((k + (a.f3.length : Int)) + (a.f4.length : Int)))), .mk (.ints .u8 a.f5.f3) (.ints .u8 (mkB a.f5.f3 (((k + (a.f3.length : Int)) + (a.f4.length : Int)) + (a.f5.f2.length : Int)))), .mk (.bss a.f5.f4) (.bss (mkBs a.f5.f4 ((((k + (a.f3.length : Int)) + (a.f4.length : Int)) + (a.f5.f2.length : Int)) + (a.f5.f3.length : Int))))], .one (.rd (.int .i64 k))] [(false, [.rd (.int .i64 (k + a.cm))])] := by
 refine MK.intro Try.func40 rfl 18 rfl (le_ok rfl) (le_ok rfl) rfl fun w Z IX pin Ts hp => ?_
 have n5 := SQc.cm_nn a.f5
 simp only [SHead.cm] at h1_
 refine T.seq ?_
 refine T.region ?_
 refine TL.c (Step.bx [cI a.f0, cI a.f1, cI a.f2, .row 903 [], .row 904 [], cI a.f5.f0, cI a.f5.f1, .row 907 [], .row 908 [], .row 909 []]) ?_
 refine TL.as (pI 0) ?_
 refine TL.nil ?_
 refine T.seq ?_
 refine T.region ?_
 refine TL.c (Step.fd 3 1 true) ?_
 refine TL.c (Step.lb (.row 903 [])) ?_
 refine TL.mv (pI k) ?_
 refine TL.c (Step.callM2 (xs := [.tmp 6, .tmp 7]) (ps := [(.one (.row 903 [])), (pI k)]) (js := [(903, (.ints .u8 (mkB a.f3 k)))]) (g := .func 23) (ok_laws_markByteS a.f3 k (by omega) (by first | omega | (have := (by assumption); omega))) rfl rfl (lt_ok rfl) rfl (by kernel_rfl) rfl rfl (.row (T := (Ts 3)) (d := (.ints .u8 a.f3)) (e' := (.ints .u8 (mkB a.f3 k))) (d' := (.ints .u8 (mkB a.f3 k))) rfl rfl rfl rfl rfl (by simp [D.size, mkL_length]) rfl rfl (.d .nil)) rfl) ?_
 refine TL.as (pI (k + (a.f3.length : Int))) ?_
 refine TL.nil ?_
 refine T.seq ?_
 refine T.region ?_
 refine TL.c (Step.fd 4 1 true) ?_
 refine TL.c (Step.lb (.row 904 [])) ?_
 refine TL.mv (pI (k + (a.f3.length : Int))) ?_
 refine TL.c (Step.callM2 (xs := [.tmp 10, .tmp 11]) (ps := [(.one (.row 904 [])), (pI (k + (a.f3.length : Int)))]) (js := [(904, (.ints .u8 (mkB a.f4 (k + (a.f3.length : Int)))))]) (g := .func 23) (ok_laws_markByteS a.f4 (k + (a.f3.length : Int)) (by omega) (by first | omega | (have := (by assumption); omega))) rfl rfl (lt_ok rfl) rfl (by kernel_rfl) rfl rfl (.row (T := (Ts 4)) (d := (.ints .u8 a.f4)) (e' := (.ints .u8 (mkB a.f4 (k + (a.f3.length : Int))))) (d' := (.ints .u8 (mkB a.f4 (k + (a.f3.length : Int))))) rfl rfl rfl rfl rfl (by simp [D.size, mkL_length]) rfl rfl (.d .nil)) rfl) ?_
 refine TL.as (pI ((k + (a.f3.length : Int)) + (a.f4.length : Int))) ?_
 refine TL.nil ?_
 refine T.seq ?_
 refine T.region ?_
 refine TL.c (Step.fd 5 5 false) ?_
 refine TL.c (Step.lba 5 [cI a.f5.f0, cI a.f5.f1, .row 907 [], .row 908 [], .row 909 []]) ?_
 refine TL.mv (pI ((k + (a.f3.length : Int)) + (a.f4.length : Int))) ?_
 have nn1 := SQc.cm_nn a.f5
 refine TL.c (Step.callM2 (xs := [.tmp 14, .tmp 15]) (ps := [(.agg [cI a.f5.f0, cI a.f5.f1, .row 907 [], .row 908 [], .row 909 []]), (pI ((k + (a.f3.length : Int)) + (a.f4.length : Int)))]) (js := [(907, (.ints .u8 (mkB a.f5.f2 ((k + (a.f3.length : Int)) + (a.f4.length : Int))))), (908, (.ints .u8 (mkB a.f5.f3 (((k + (a.f3.length : Int)) + (a.f4.length : Int)) + (a.f5.f2.length : Int))))), (909, (.bss (mkBs a.f5.f4 ((((k + (a.f3.length : Int)) + (a.f4.length : Int)) + (a.f5.f2.length : Int)) + (a.f5.f3.length : Int)))))]) (g := .func 35) (ok_laws_markQc a.f5 ((k + (a.f3.length : Int)) + (a.f4.length : Int)) (by omega) (by first | omega | (have := SQc.cm_le (x := a.f5) (by assumption); omega))) rfl rfl (lt_ok rfl) rfl (by kernel_rfl) rfl rfl (.d (.d (.row (T := (Ts 7)) (d := (.ints .u8 a.f5.f2)) (e' := (.ints .u8 (mkB a.f5.f2 ((k + (a.f3.length : Int)) + (a.f4.length : Int))))) (d' := (.ints .u8 (mkB a.f5.f2 ((k + (a.f3.length : Int)) + (a.f4.length : Int))))) rfl rfl rfl rfl rfl (by simp [D.size, mkL_length]) rfl rfl (.row (T := (Ts 8)) (d := (.ints .u8 a.f5.f3)) (e' := (.ints .u8 (mkB a.f5.f3 (((k + (a.f3.length : Int)) + (a.f4.length : Int)) + (a.f5.f2.length : Int))))) (d' := (.ints .u8 (mkB a.f5.f3 (((k + (a.f3.length : Int)) + (a.f4.length : Int)) + (a.f5.f2.length : Int))))) rfl rfl rfl rfl rfl (by simp [D.size, mkL_length]) rfl rfl (.row (T := (Ts 9)) (d := (.bss a.f5.f4)) (e' := (.bss (mkBs a.f5.f4 ((((k + (a.f3.length : Int)) + (a.f4.length : Int)) + (a.f5.f2.length : Int)) + (a.f5.f3.length : Int))))) (d' := (.bss (mkBs a.f5.f4 ((((k + (a.f3.length : Int)) + (a.f4.length : Int)) + (a.f5.f2.length : Int)) + (a.f5.f3.length : Int))))) rfl rfl rfl rfl rfl (by simp [D.size, mkL_length]) rfl rfl (.d .nil)))))) rfl) ?_
 refine TL.as (pI (((k + (a.f3.length : Int)) + (a.f4.length : Int)) + a.f5.cm)) ?_
 refine TL.nil ?_
 refine T.seq ?_
 refine T.region ?_
 refine TL.mv (pI (((k + (a.f3.length : Int)) + (a.f4.length : Int)) + a.f5.cm)) ?_
 refine TL.as (pI (((k + (a.f3.length : Int)) + (a.f4.length : Int)) + a.f5.cm)) ?_
 refine TL.nil ?_
 refine T.ret ?_
 refine ⟨⟨⟨[(false, [cI (((k + (a.f3.length : Int)) + (a.f4.length : Int)) + a.f5.cm)])], (.cons rfl .nil), rfl, [], (RetC.r ?_ .nil)⟩, rfl⟩, (.rd (.rd (.rd (.mk' (by rfl) (.mk' (by rfl) (.rd (.rd (.mk' (by rfl) (.mk' (by rfl) (.mk' (by rfl) (.rd .nil')))))))))))⟩ <;> (first | rfl | (congr 1; simp only [SHead.cm]; omega))
theorem ok_laws_markBlock (a : SBlock) (k : Int) (h0_ : 0 ≤ k) (h1_ : k + a.cm ≤ 4611686018427387904) : MK Try.prog 31 [.agg [.rd (.int .i64 a.f0.f0), .rd (.int .i64 a.f0.f1), .rd (.int .i64 a.f0.f2), .mk (.ints .u8 a.f0.f3) (.ints .u8 (mkB a.f0.f3 k)), .mk (.ints .u8 a.f0.f4) (.ints .u8 (mkB a.f0.f4 (k + (a.f0.f3.length : Int)))), .rd (.int .i64 a.f0.f5.f0), .rd (.int .i64 a.f0.f5.f1), .mk (.ints .u8 a.f0.f5.f2) (.ints .u8 (mkB a.f0.f5.f2 ((k + (a.f0.f3.length : Int)) + (a.f0.f4.length : Int)))), .mk (.ints .u8 a.f0.f5.f3) (.ints .u8 (mkB a.f0.f5.f3 (((k + (a.f0.f3.length : Int)) + (a.f0.f4.length : Int)) + (a.f0.f5.f2.length : Int)))), .mk (.bss a.f0.f5.f4) (.bss (mkBs a.f0.f5.f4 ((((k + (a.f0.f3.length : Int)) + (a.f0.f4.length : Int)) + (a.f0.f5.f2.length : Int)) + (a.f0.f5.f3.length : Int)))), .mk (.bss a.f1) (.bss (mkBs a.f1 (k + a.f0.cm)))], .one (.rd (.int .i64 k))] [(false, [.rd (.int .i64 (k + a.cm))])] := by
 refine MK.intro Try.func31 rfl 14 rfl (le_ok rfl) (le_ok rfl) rfl fun w Z IX pin Ts hp => ?_
 have n0 := SHead.cm_nn a.f0
 have n1 := cntBs_nonneg a.f1
 simp only [SBlock.cm] at h1_
 refine T.seq ?_
 refine T.region ?_
 refine TL.c (Step.bx [cI a.f0.f0, cI a.f0.f1, cI a.f0.f2, .row 903 [], .row 904 [], cI a.f0.f5.f0, cI a.f0.f5.f1, .row 907 [], .row 908 [], .row 909 [], .row 910 []]) ?_
 refine TL.as (pI 0) ?_
 refine TL.nil ?_
 refine T.seq ?_
 refine T.region ?_
 refine TL.c (Step.fd 0 10 false) ?_
 refine TL.c (Step.lba 10 [cI a.f0.f0, cI a.f0.f1, cI a.f0.f2, .row 903 [], .row 904 [], cI a.f0.f5.f0, cI a.f0.f5.f1, .row 907 [], .row 908 [], .row 909 []]) ?_
 refine TL.mv (pI k) ?_
 have nn1 := SHead.cm_nn a.f0
 refine TL.c (Step.callM2 (xs := [.tmp 6, .tmp 7]) (ps := [(.agg [cI a.f0.f0, cI a.f0.f1, cI a.f0.f2, .row 903 [], .row 904 [], cI a.f0.f5.f0, cI a.f0.f5.f1, .row 907 [], .row 908 [], .row 909 []]), (pI k)]) (js := [(903, (.ints .u8 (mkB a.f0.f3 k))), (904, (.ints .u8 (mkB a.f0.f4 (k + (a.f0.f3.length : Int))))), (907, (.ints .u8 (mkB a.f0.f5.f2 ((k + (a.f0.f3.length : Int)) + (a.f0.f4.length : Int))))), (908, (.ints .u8 (mkB a.f0.f5.f3 (((k + (a.f0.f3.length : Int)) + (a.f0.f4.length : Int)) + (a.f0.f5.f2.length : Int))))), (909, (.bss (mkBs a.f0.f5.f4 ((((k + (a.f0.f3.length : Int)) + (a.f0.f4.length : Int)) + (a.f0.f5.f2.length : Int)) + (a.f0.f5.f3.length : Int)))))]) (g := .func 40) (ok_laws_markHead a.f0 k (by omega) (by first | omega | (have := SHead.cm_le (x := a.f0) (by assumption); omega))) rfl rfl (lt_ok rfl) rfl (by kernel_rfl) rfl rfl (.d (.d (.d (.row (T := (Ts 3)) (d := (.ints .u8 a.f0.f3)) (e' := (.ints .u8 (mkB a.f0.f3 k))) (d' := (.ints .u8 (mkB a.f0.f3 k))) rfl rfl rfl rfl rfl (by simp [D.size, mkL_length]) rfl rfl (.row (T := (Ts 4)) (d := (.ints .u8 a.f0.f4)) (e' := (.ints .u8 (mkB a.f0.f4 (k + (a.f0.f3.length : Int))))) (d' := (.ints .u8 (mkB a.f0.f4 (k + (a.f0.f3.length : Int))))) rfl rfl rfl rfl rfl (by simp [D.size, mkL_length]) rfl rfl (.d (.d (.row (T := (Ts 7)) (d := (.ints .u8 a.f0.f5.f2)) (e' := (.ints .u8 (mkB a.f0.f5.f2 ((k + (a.f0.f3.length : Int)) + (a.f0.f4.length : Int))))) (d' := (.ints .u8 (mkB a.f0.f5.f2 ((k + (a.f0.f3.length : Int)) + (a.f0.f4.length : Int))))) rfl rfl rfl rfl rfl (by simp [D.size, mkL_length]) rfl rfl (.row (T := (Ts 8)) (d := (.ints .u8 a.f0.f5.f3)) (e' := (.ints .u8 (mkB a.f0.f5.f3 (((k + (a.f0.f3.length : Int)) + (a.f0.f4.length : Int)) + (a.f0.f5.f2.length : Int))))) (d' := (.ints .u8 (mkB a.f0.f5.f3 (((k + (a.f0.f3.length : Int)) + (a.f0.f4.length : Int)) + (a.f0.f5.f2.length : Int))))) rfl rfl rfl rfl rfl (by simp [D.size, mkL_length]) rfl rfl (.row (T := (Ts 9)) (d := (.bss a.f0.f5.f4)) (e' := (.bss (mkBs a.f0.f5.f4 ((((k + (a.f0.f3.length : Int)) + (a.f0.f4.length : Int)) + (a.f0.f5.f2.length : Int)) + (a.f0.f5.f3.length : Int))))) (d' := (.bss (mkBs a.f0.f5.f4 ((((k + (a.f0.f3.length : Int)) + (a.f0.f4.length : Int)) + (a.f0.f5.f2.length : Int)) + (a.f0.f5.f3.length : Int))))) rfl rfl rfl rfl rfl (by simp [D.size, mkL_length]) rfl rfl (.d .nil))))))))))) rfl) ?_
 refine TL.as (pI (k + a.f0.cm)) ?_
 refine TL.nil ?_
 refine T.seq ?_
 refine T.region ?_
 refine TL.c (Step.fd 10 1 true) ?_
 refine TL.c (Step.lb (.row 910 [])) ?_
 refine TL.mv (pI (k + a.f0.cm)) ?_
 have nn2 := cntBs_nonneg a.f1
 refine TL.c (Step.callM2 (xs := [.tmp 10, .tmp 11]) (ps := [(.one (.row 910 [])), (pI (k + a.f0.cm))]) (js := [(910, (.bss (mkBs a.f1 (k + a.f0.cm))))]) (g := .func 63) (ok_laws_markByteSS a.f1 (k + a.f0.cm) (by omega) (by first | omega | (have := cntBs_le (xs := a.f1) (by assumption); omega))) rfl rfl (lt_ok rfl) rfl (by kernel_rfl) rfl rfl (.row (T := (Ts 10)) (d := (.bss a.f1)) (e' := (.bss (mkBs a.f1 (k + a.f0.cm)))) (d' := (.bss (mkBs a.f1 (k + a.f0.cm)))) rfl rfl rfl rfl rfl (by simp [D.size, mkL_length]) rfl rfl (.d .nil)) rfl) ?_
 refine TL.as (pI ((k + a.f0.cm) + cntL (fun x : List Int => (x.length : Int)) a.f1)) ?_
 refine TL.nil ?_
 refine T.seq ?_
 refine T.region ?_
 refine TL.mv (pI ((k + a.f0.cm) + cntL (fun x : List Int => (x.length : Int)) a.f1)) ?_
 refine TL.as (pI ((k + a.f0.cm) + cntL (fun x : List Int => (x.length : Int)) a.f1)) ?_
 refine TL.nil ?_
 refine T.ret ?_
 refine ⟨⟨⟨[(false, [cI ((k + a.f0.cm) + cntL (fun x : List Int => (x.length : Int)) a.f1)])], (.cons rfl .nil), rfl, [], (RetC.r ?_ .nil)⟩, rfl⟩, (.rd (.rd (.rd (.mk' (by rfl) (.mk' (by rfl) (.rd (.rd (.mk' (by rfl) (.mk' (by rfl) (.mk' (by rfl) (.mk' (by rfl) (.rd .nil'))))))))))))⟩ <;> (first | rfl | (congr 1; simp only [SBlock.cm]; omega))
theorem ok_spec_l01In (n : Int) (lo : Int) (hi : Int) : RO Try.prog 114 [.one (.int .i64 n), .one (.int .i64 lo), .one (.int .i64 hi)] [(false, [.rd (.bool (decide (lo ≤ n ∧ n ≤ hi)))])] := by
 refine RO.intro Try.func114 rfl 15 rfl (le_ok rfl) fun w Z => ?_
 refine T.seq ?_
 refine T.region ?_
 refine TL.as (pB false) ?_
 refine TL.nil ?_
 refine T.seq ?_
 refine T.region ?_
 refine TL.mv (pI n) ?_
 refine TL.mv (pI lo) ?_
 refine TL.b _ (Bin.geq (k := .i64) (a := n) (b := lo)) ?_
 refine TL.mv (pB (decide (lo ≤ n))) ?_
 rcases Bool.eq_false_or_eq_true (decide (lo ≤ n)) with hb1 | hb1
 ·
  refine TL.known 10 hb1 rfl ?_
  refine TL.gm 10 (pI n) ?_
  refine TL.gm 10 (pI hi) ?_
  refine TL.gy 10 (Step.bin rfl rfl (lt_ok rfl) rfl rfl (Bin.leq (k := .i64) (a := n) (b := hi))) ?_
  refine TL.pk true (pB (decide (n ≤ hi))) ?_
  refine TL.as (pB (decide (n ≤ hi))) ?_
  refine TL.nil ?_
  refine T.ret ?_
  refine ⟨[(false, [.d (.bool (decide (n ≤ hi)))])], (.cons rfl .nil), rfl, [], (RetC.r ?_ .nil)⟩ <;> (first | (congr 1; simp_all; done) | (congr 1; simp_all; omega))
 refine TL.known 10 hb1 rfl ?_
 refine TL.gf 10 ?_
 refine TL.gf 10 ?_
 refine TL.gf 10 ?_
 refine TL.pk false (pB false) ?_
 refine TL.as (pB false) ?_
 refine TL.nil ?_
 refine T.ret ?_
 refine ⟨[(false, [.d (.bool false)])], (.cons rfl .nil), rfl, [], (RetC.r ?_ .nil)⟩ <;> (first | (congr 1; simp_all; done) | (congr 1; simp_all; omega))
theorem ok_spec_l02Signers (n : Int) : RO Try.prog 172 [.one (.int .i64 n)] [(false, [.rd (.bool (decide (1 ≤ n ∧ n ≤ 10)))])] := by
 refine RO.intro Try.func172 rfl 5 rfl (le_ok rfl) fun w Z => ?_
 refine T.seq ?_
 refine T.region ?_
 refine TL.as (pB false) ?_
 refine TL.nil ?_
 refine T.seq ?_
 refine T.region ?_
 refine TL.mv (pI n) ?_
 refine TL.c (Step.cl (xs := [.tmp 3, .const (.int .i64 1), .const (.int .i64 10)]) (ps := [(pI n), (pI 1), (pI 10)]) (g := .func 114) false (.cons (.one (.d _)) (.cons (.one (.d _)) (.cons (.one (.d _)) .nil))) (ok_spec_l01In n 1 10)) ?_
 refine TL.as (pB (decide (1 ≤ n ∧ n ≤ 10))) ?_
 refine TL.nil ?_
 refine T.ret ?_
 exact ⟨[(false, [.d (.bool (decide (1 ≤ n ∧ n ≤ 10)))])], (.cons rfl .nil), rfl, [], (RetC.rd' rfl .nil)⟩
theorem ok_spec_LimitsOk (l : SLimits) : RO Try.prog 122 [.agg l.cells] [(false, [.rd (.bool (limOk l))])] := by
 refine RO.intro Try.func122 rfl 26 rfl (le_ok rfl) fun w Z => ?_
 refine T.seq ?_
 refine T.region ?_
 refine TL.c (Step.bx [cI l.f0, cI l.f1, cI l.f2, cI l.f3, cI l.f4]) ?_
 refine TL.as (pB false) ?_
 refine TL.nil ?_
 refine T.seq ?_
 refine T.region ?_
 refine TL.c (Step.fd 0 1 true) ?_
 refine TL.c (Step.lb (.d (.int .i64 l.f0))) ?_
 refine TL.c (Step.cl (xs := [.tmp 4]) (ps := [(pI l.f0)]) (g := .func 172) false (.cons (.one (.d _)) .nil) (ok_spec_l02Signers l.f0)) ?_
 refine TL.mv (pB (decide (1 ≤ l.f0 ∧ l.f0 ≤ 10))) ?_
 rcases Bool.eq_false_or_eq_true (decide (1 ≤ l.f0 ∧ l.f0 ≤ 10)) with hb1 | hb1
 ·
  refine TL.known 6 hb1 rfl ?_
  refine TL.gy 6 (Step.fd 1 1 true) ?_
  refine TL.gy 6 (Step.lb (.d (.int .i64 l.f1))) ?_
  refine TL.gy 6 (Step.cl (xs := [.tmp 8, .const (.int .i64 0), .const (.int .i64 40)]) (ps := [(pI l.f1), (pI 0), (pI 40)]) (g := .func 114) false (.cons (.one (.d _)) (.cons (.one (.d _)) (.cons (.one (.d _)) .nil))) (ok_spec_l01In l.f1 0 40)) ?_
  refine TL.pk true (pB (decide (0 ≤ l.f1 ∧ l.f1 ≤ 40))) ?_
  refine TL.mv (pB (decide (0 ≤ l.f1 ∧ l.f1 ≤ 40))) ?_
  rcases Bool.eq_false_or_eq_true (decide (0 ≤ l.f1 ∧ l.f1 ≤ 40)) with hb2 | hb2
  ·
   refine TL.known 11 hb2 rfl ?_
   refine TL.gy 11 (Step.fd 2 1 true) ?_
   refine TL.gy 11 (Step.lb (.d (.int .i64 l.f2))) ?_
   refine TL.gy 11 (Step.cl (xs := [.tmp 13, .const (.int .i64 0), .const (.int .i64 8)]) (ps := [(pI l.f2), (pI 0), (pI 8)]) (g := .func 114) false (.cons (.one (.d _)) (.cons (.one (.d _)) (.cons (.one (.d _)) .nil))) (ok_spec_l01In l.f2 0 8)) ?_
   refine TL.pk true (pB (decide (0 ≤ l.f2 ∧ l.f2 ≤ 8))) ?_
   refine TL.mv (pB (decide (0 ≤ l.f2 ∧ l.f2 ≤ 8))) ?_
   rcases Bool.eq_false_or_eq_true (decide (0 ≤ l.f2 ∧ l.f2 ≤ 8)) with hb3 | hb3
   ·
    refine TL.known 16 hb3 rfl ?_
    refine TL.gy 16 (Step.fd 3 1 true) ?_
    refine TL.gy 16 (Step.lb (.d (.int .i64 l.f3))) ?_
    refine TL.gy 16 (Step.cl (xs := [.tmp 18, .const (.int .i64 1), .const (.int .i64 4000)]) (ps := [(pI l.f3), (pI 1), (pI 4000)]) (g := .func 114) false (.cons (.one (.d _)) (.cons (.one (.d _)) (.cons (.one (.d _)) .nil))) (ok_spec_l01In l.f3 1 4000)) ?_
    refine TL.pk true (pB (decide (1 ≤ l.f3 ∧ l.f3 ≤ 4000))) ?_
    refine TL.mv (pB (decide (1 ≤ l.f3 ∧ l.f3 ≤ 4000))) ?_
    rcases Bool.eq_false_or_eq_true (decide (1 ≤ l.f3 ∧ l.f3 ≤ 4000)) with hb4 | hb4
    ·
     refine TL.known 21 hb4 rfl ?_
     refine TL.gy 21 (Step.fd 4 1 true) ?_
     refine TL.gy 21 (Step.lb (.d (.int .i64 l.f4))) ?_
     refine TL.gy 21 (Step.cl (xs := [.tmp 23, .const (.int .i64 3), .const (.int .i64 5)]) (ps := [(pI l.f4), (pI 3), (pI 5)]) (g := .func 114) false (.cons (.one (.d _)) (.cons (.one (.d _)) (.cons (.one (.d _)) .nil))) (ok_spec_l01In l.f4 3 5)) ?_
     refine TL.pk true (pB (decide (3 ≤ l.f4 ∧ l.f4 ≤ 5))) ?_
     refine TL.as (pB (decide (3 ≤ l.f4 ∧ l.f4 ≤ 5))) ?_
     refine TL.nil ?_
     refine T.ret ?_
     refine ⟨[(false, [.d (.bool (decide (3 ≤ l.f4 ∧ l.f4 ≤ 5)))])], (.cons rfl .nil), rfl, [], (RetC.r ?_ .nil)⟩ <;> (first | rfl | (congr 1; symm; simp only [limOk, *, Bool.and_true, Bool.true_and, Bool.and_false, Bool.false_and, decide_true, decide_false, and_true, true_and, and_self, and_false, false_and, Bool.and_self, not_true, not_false, Bool.not_true, Bool.not_false, ge_iff_le, gt_iff_lt, if_true, if_false, Bool.false_eq_true, ite_true, ite_false, reduceIte]; done) | (congr 1; symm; simp_all [limOk]; done) | (congr 1; symm; simp_all [limOk]; omega))
    refine TL.known 21 hb4 rfl ?_
    refine TL.gf 21 ?_
    refine TL.gf 21 ?_
    refine TL.gf 21 ?_
    refine TL.pk false (pB false) ?_
    refine TL.as (pB false) ?_
    refine TL.nil ?_
    refine T.ret ?_
    refine ⟨[(false, [.d (.bool false)])], (.cons rfl .nil), rfl, [], (RetC.r ?_ .nil)⟩ <;> (first | rfl | (congr 1; symm; simp only [limOk, *, Bool.and_true, Bool.true_and, Bool.and_false, Bool.false_and, decide_true, decide_false, and_true, true_and, and_self, and_false, false_and, Bool.and_self, not_true, not_false, Bool.not_true, Bool.not_false, ge_iff_le, gt_iff_lt, if_true, if_false, Bool.false_eq_true, ite_true, ite_false, reduceIte]; done) | (congr 1; symm; simp_all [limOk]; done) | (congr 1; symm; simp_all [limOk]; omega))
   refine TL.known 16 hb3 rfl ?_
   refine TL.gf 16 ?_
   refine TL.gf 16 ?_
   refine TL.gf 16 ?_
   refine TL.pk false (pB false) ?_
   refine TL.mv (pB false) ?_
   refine TL.gf 21 ?_
   refine TL.gf 21 ?_
   refine TL.gf 21 ?_
   refine TL.pk false (pB false) ?_
   refine TL.as (pB false) ?_
   refine TL.nil ?_
   refine T.ret ?_
   refine ⟨[(false, [.d (.bool false)])], (.cons rfl .nil), rfl, [], (RetC.r ?_ .nil)⟩ <;> (first | rfl | (congr 1; symm; simp only [limOk, *, Bool.and_true, Bool.true_and, Bool.and_false, Bool.false_and, decide_true, decide_false, and_true, true_and, and_self, and_false, false_and, Bool.and_self, not_true, not_false, Bool.not_true, Bool.not_false, ge_iff_le, gt_iff_lt, if_true, if_false, Bool.false_eq_true, ite_true, ite_false, reduceIte]; done) | (congr 1; symm; simp_all [limOk]; done) | (congr 1; symm; simp_all [limOk]; omega))
  refine TL.known 11 hb2 rfl ?_
  refine TL.gf 11 ?_
  refine TL.gf 11 ?_
  refine TL.gf 11 ?_
  refine TL.pk false (pB false) ?_
  refine TL.mv (pB false) ?_
  refine TL.gf 16 ?_
  refine TL.gf 16 ?_
  refine TL.gf 16 ?_
  refine TL.pk false (pB false) ?_
  refine TL.mv (pB false) ?_
  refine TL.gf 21 ?_
  refine TL.gf 21 ?_
  refine TL.gf 21 ?_
  refine TL.pk false (pB false) ?_
  refine TL.as (pB false) ?_
  refine TL.nil ?_
  refine T.ret ?_
  refine ⟨[(false, [.d (.bool false)])], (.cons rfl .nil), rfl, [], (RetC.r ?_ .nil)⟩ <;> (first | rfl | (congr 1; symm; simp only [limOk, *, Bool.and_true, Bool.true_and, Bool.and_false, Bool.false_and, decide_true, decide_false, and_true, true_and, and_self, and_false, false_and, Bool.and_self, not_true, not_false, Bool.not_true, Bool.not_false, ge_iff_le, gt_iff_lt, if_true, if_false, Bool.false_eq_true, ite_true, ite_false, reduceIte]; done) | (congr 1; symm; simp_all [limOk]; done) | (congr 1; symm; simp_all [limOk]; omega))
 refine TL.known 6 hb1 rfl ?_
 refine TL.gf 6 ?_
 refine TL.gf 6 ?_
 refine TL.gf 6 ?_
 refine TL.pk false (pB false) ?_
 refine TL.mv (pB false) ?_
 refine TL.gf 11 ?_
 refine TL.gf 11 ?_
 refine TL.gf 11 ?_
 refine TL.pk false (pB false) ?_
 refine TL.mv (pB false) ?_
 refine TL.gf 16 ?_
 refine TL.gf 16 ?_
 refine TL.gf 16 ?_
 refine TL.pk false (pB false) ?_
 refine TL.mv (pB false) ?_
 refine TL.gf 21 ?_
 refine TL.gf 21 ?_
 refine TL.gf 21 ?_
 refine TL.pk false (pB false) ?_
 refine TL.as (pB false) ?_
 refine TL.nil ?_
 refine T.ret ?_
 refine ⟨[(false, [.d (.bool false)])], (.cons rfl .nil), rfl, [], (RetC.r ?_ .nil)⟩ <;> (first | rfl | (congr 1; symm; simp only [limOk, *, Bool.and_true, Bool.true_and, Bool.and_false, Bool.false_and, decide_true, decide_false, and_true, true_and, and_self, and_false, false_and, Bool.and_self, not_true, not_false, Bool.not_true, Bool.not_false, ge_iff_le, gt_iff_lt, if_true, if_false, Bool.false_eq_true, ite_true, ite_false, reduceIte]; done) | (congr 1; symm; simp_all [limOk]; done) | (congr 1; symm; simp_all [limOk]; omega))
theorem ok_spec_l11New (l : SLimits) (b : List Int) (a : Int)  : NX Try.prog 86 [.agg l.cells, .one (.ints .u8 b), .one (.int .i64 a)] 110 [(.ints .u8 b), (.int .i64 (rs0 l a).f0), (.int .i64 (rs0 l a).f1)] := by
 refine NX.intro 6 Try.func86 rfl 19 rfl (le_ok rfl) rfl fun w Z => ?_
 refine T.seq ?_
 refine T.region ?_
 refine TL.c (Step.bx [cI l.f0, cI l.f1, cI l.f2, cI l.f3, cI l.f4]) ?_
 refine TL.as (.one (.und)) ?_
 refine TL.nil ?_
 refine T.seq ?_
 refine T.region ?_
 refine TL.mv (pS b) ?_
 refine TL.mv (pI a) ?_
 refine TL.c (Step.build (zs := [.slice none 0 0, .int .i64 0, .int .i64 0]) (places := [(0, 1), (1, 1), (2, 1)]) (pss := [(0, [cS b]), (1, [cI a])]) (ps' := [cS b, cI a, cI 0]) rfl rfl (lt_ok rfl) (by kernel_rfl) (.cons ⟨rfl, rfl⟩ (.cons ⟨rfl, rfl⟩ .nil)) rfl rfl rfl) ?_
 refine TL.c (Step.bx [cS b, cI a, cI 0]) ?_
 refine TL.as (.one (.ptr 11 0)) ?_
 refine TL.nil ?_
 refine T.seq ?_
 refine T.seq ?_
 refine T.region ?_
 refine TL.c (Step.lba 5 [cI l.f0, cI l.f1, cI l.f2, cI l.f3, cI l.f4]) ?_
 refine TL.c (Step.cl (xs := [.tmp 12]) (ps := [(.agg [cI l.f0, cI l.f1, cI l.f2, cI l.f3, cI l.f4])]) (g := .func 122) false (.cons (.agg (.cons (.d _) (.cons (.d _) (.cons (.d _) (.cons (.d _) (.cons (.d _) .nil)))))) .nil) (ok_spec_LimitsOk l)) ?_
 refine TL.c (Step.not (b := (limOk l)) rfl rfl (lt_ok rfl) rfl) ?_
 refine TL.nil ?_
 refine T.cn rfl (fun h1 => ?_) (fun h1 => ?_)
 ·
  refine T.region ?_
  refine TL.mv (.one (.ptr 11 0)) ?_
  refine TL.c (Step.nilCheck rfl rfl (lt_ok rfl) rfl) ?_
  refine TL.c (Step.fd 2 1 true) ?_
  refine TL.c (Step.sb 1 [cS b, cI a, cI 5]) ?_
  refine TL.nil ?_
  refine T.seq ?_
  refine T.region ?_
  refine TL.mv (.one (.ptr 11 0)) ?_
  refine TL.as (.one (.ptr 11 0)) ?_
  refine TL.nil ?_
  refine T.ret ?_
  exact ⟨11, rfl, by first | (rw [rs0_ok (by assumption)]; rfl) | (rw [rs0_no (by first | assumption | simp [*])]; rfl)⟩
 refine T.skip ?_
 refine T.seq ?_
 refine T.region ?_
 refine TL.mv (.one (.ptr 11 0)) ?_
 refine TL.as (.one (.ptr 11 0)) ?_
 refine TL.nil ?_
 refine T.ret ?_
 exact ⟨11, rfl, by first | (rw [rs0_ok (by assumption)]; rfl) | (rw [rs0_no (by first | assumption | simp [*])]; rfl)⟩
theorem ok_spec_GetVar (b : List Int) (a : Int) (h0_ : U8s b) (h1_ : b.length ≤ 1099511627776) : RO Try.prog 175 [.one (.ints .u8 b), .one (.int .i64 a)] [(false, [.rd (.int .i64 (getVar b a).1)]), (false, [.rd (.int .i64 (getVar b a).2.1)]), (false, [.rd (.int .i64 (getVar b a).2.2)])] := by
 refine RO.intro Try.func175 rfl 67 rfl (le_ok rfl) fun w Z => ?_
 refine T.bnd 0 0 rfl rfl fun hb_0_0 => ?_
 simp only [D.size, List.length_map] at hb_0_0
 refine T.seq ?_
 refine T.region ?_
 refine TL.as (pI 0) ?_
 refine TL.as (pI 0) ?_
 refine TL.as (pI 0) ?_
 refine TL.nil ?_
 refine T.seq ?_
 refine T.seq ?_
 refine T.region ?_
 refine TL.mv (pI a) ?_
 refine TL.b _ (Bin.lss (k := .i64) (a := a) (b := 0)) ?_
 refine TL.mv (pB (decide (a < 0))) ?_
 rcases Bool.eq_false_or_eq_true (decide (a < 0)) with hb1 | hb1
 ·
  refine TL.known 13 hb1 rfl ?_
  have hb1' := hb1
  replace hb1' := of_decide_eq_true hb1'
  refine TL.gf 13 ?_
  refine TL.gf 13 ?_
  refine TL.gf 13 ?_
  refine TL.gf 13 ?_
  refine TL.pk true (pB true) ?_
  refine TL.nil ?_
  refine T.ct ?_
  refine T.seq ?_
  refine T.region ?_
  refine TL.as (pI 0) ?_
  refine TL.as (pI 0) ?_
  refine TL.as (pI 1) ?_
  refine TL.nil ?_
  refine T.ret ?_
  refine ⟨[(false, [cI 0]), (false, [cI 0]), (false, [cI 1])], (.cons rfl (.cons rfl (.cons rfl .nil))), rfl, [], (RetC.r ?_ (RetC.r ?_ (RetC.r ?_ .nil)))⟩ <;> ((congr 1; first | (rw [getVar_out (by omega)]; done) | (rw [getVar_in (by omega), ← hx4]; first | (rw [gvGo_short (by omega) (by omega)]; done) | (rw [gvGo_var (by omega) (by omega) (by omega)]; done) | (rw [gvGo_done (by omega) (by omega) (by omega) (by omega) (by omega)]; done) | (rw [gvGo_big (by omega) (by omega) (by omega) (by omega) (by omega)]; done) | (rw [gvGo_end (by omega)]; done))))
 refine TL.known 13 hb1 rfl ?_
 have hb1' := hb1
 replace hb1' := of_decide_eq_false hb1'
 refine TL.gm 13 (pI a) ?_
 refine TL.gm 13 (pS b) ?_
 refine TL.gy 13 (Step.len (e := 5) (z := 1) (d := (.ints .u8 b)) rfl rfl (lt_ok rfl) (by kernel_rfl) rfl rfl) ?_
 refine TL.gy 13 (Step.bin rfl rfl (lt_ok rfl) rfl rfl (Bin.gtr (k := .i64) (a := a) (b := (b.length : Int)))) ?_
 refine TL.pk false (pB (decide ((b.length : Int) < a))) ?_
 refine TL.nil ?_
 refine T.ci rfl (fun h2 => ?_) (fun h2 => ?_)
 ·
  refine T.seq ?_
  refine T.region ?_
  refine TL.as (pI 0) ?_
  refine TL.as (pI 0) ?_
  refine TL.as (pI 1) ?_
  refine TL.nil ?_
  refine T.ret ?_
  refine ⟨[(false, [cI 0]), (false, [cI 0]), (false, [cI 1])], (.cons rfl (.cons rfl (.cons rfl .nil))), rfl, [], (RetC.r ?_ (RetC.r ?_ (RetC.r ?_ .nil)))⟩ <;> ((congr 1; first | (rw [getVar_out (by omega)]; done) | (rw [getVar_in (by omega), ← hx4]; first | (rw [gvGo_short (by omega) (by omega)]; done) | (rw [gvGo_var (by omega) (by omega) (by omega)]; done) | (rw [gvGo_done (by omega) (by omega) (by omega) (by omega) (by omega)]; done) | (rw [gvGo_big (by omega) (by omega) (by omega) (by omega) (by omega)]; done) | (rw [gvGo_end (by omega)]; done))))
 refine T.skip ?_
 refine T.seq ?_
 refine T.region ?_
 refine TL.as (pI 0) ?_
 refine TL.nil ?_
 refine T.seq ?_
 refine T.region ?_
 refine TL.as (pI 1) ?_
 refine TL.nil ?_
 refine T.seq ?_
 refine T.seq ?_
 refine T.region ?_
 refine TL.as (pI 0) ?_
 refine TL.nil ?_
 refine T.block ?_
 refine T.loop (ι := Nat × Int) (fun xx_ => { tm := [(0, (pS b)), (1, (pI a)), (9, (pI ((xx_.1) : Int))), (7, (pI (xx_.2))), (8, (pI (128 ^ (xx_.1))))], rows := [], boxes := [] }) (fun xx_ => (xx_.1) ≤ 9 ∧ 0 ≤ (xx_.2) ∧ (xx_.2) < 128 ^ (xx_.1) ∧ gvGo b a (9 - (xx_.1)) (xx_.1) (xx_.2) = gvGo b a 9 0 0) (fun xx_ => 9 - (xx_.1)) (0, 0) ?_ ?_ ?_
 · refine Env.le_mk ⟨rfl, rfl, ?_, ?_, ?_, trivial⟩ trivial trivial <;> (first | rfl | (refine congrArg (fun n => PV.one (.d (.int .i64 n))) ?_; first | rfl | omega | (simp; done)))
 · (dsimp only; refine ⟨by omega, by omega, by simp, rfl⟩)
 intro xx_ hx
 obtain ⟨i, n⟩ := xx_
 try dsimp only at hx ⊢
 obtain ⟨hx1, hx2, hx3, hx4⟩ := hx
 have hu_ := getD_u8 h0_ (a + (i : Int)).toNat
 have hm_ := gv_mul hu_.1 i
 refine T.seq ?_
 refine T.seq ?_
 refine T.region ?_
 refine TL.mv (pI (i : Int)) ?_
 refine TL.b _ (Bin.lss (k := .i64) (a := (i : Int)) (b := 9)) ?_
 refine TL.nil ?_
 refine T.ci rfl (fun h3 => ?_) (fun h3 => ?_)
 ·
  have hp_ := pow128 (i := i) (by omega)
  refine T.skip ?_
  refine T.seq ?_
  refine T.block ?_
  refine T.seq ?_
  refine T.seq ?_
  refine T.region ?_
  refine TL.mv (pI a) ?_
  refine TL.mv (pI (i : Int)) ?_
  refine TL.c (Step.bin (r := .int .i64 (a + (i : Int))) rfl rfl (lt_ok rfl) rfl rfl (Bin.add (a := a) (b := (i : Int)) (by first | exact wrap_ok (by first | omega | (simp; omega)) (by first | omega | (simp; omega)) | rfl))) ?_
  refine TL.mv (pS b) ?_
  refine TL.c (Step.len (e := 5) (z := 1) (d := (.ints .u8 b)) rfl rfl (lt_ok rfl) (by kernel_rfl) rfl rfl) ?_
  refine TL.b _ (Bin.geq (k := .i64) (a := (a + (i : Int))) (b := (b.length : Int))) ?_
  refine TL.nil ?_
  refine T.ci rfl (fun h4 => ?_) (fun h4 => ?_)
  ·
   refine T.seq ?_
   refine T.region ?_
   refine TL.as (pI 0) ?_
   refine TL.as (pI 0) ?_
   refine TL.as (pI 1) ?_
   refine TL.nil ?_
   refine T.ret ?_
   refine ⟨[(false, [cI 0]), (false, [cI 0]), (false, [cI 1])], (.cons rfl (.cons rfl (.cons rfl .nil))), rfl, [], (RetC.r ?_ (RetC.r ?_ (RetC.r ?_ .nil)))⟩ <;> ((congr 1; first | (rw [getVar_out (by omega)]; done) | (rw [getVar_in (by omega), ← hx4]; first | (rw [gvGo_short (by omega) (by omega)]; done) | (rw [gvGo_var (by omega) (by omega) (by omega)]; done) | (rw [gvGo_done (by omega) (by omega) (by omega) (by omega) (by omega)]; done) | (rw [gvGo_big (by omega) (by omega) (by omega) (by omega) (by omega)]; done) | (rw [gvGo_end (by omega)]; done))))
  refine T.skip ?_
  refine T.seq ?_
  refine T.region ?_
  refine TL.mv (pS b) ?_
  refine TL.mv (pI a) ?_
  refine TL.mv (pI (i : Int)) ?_
  refine TL.c (Step.bin (r := .int .i64 (a + (i : Int))) rfl rfl (lt_ok rfl) rfl rfl (Bin.add (a := a) (b := (i : Int)) (by first | exact wrap_ok (by first | omega | (simp; omega)) (by first | omega | (simp; omega)) | rfl))) ?_
  refine TL.c (Step.index (e := 5) (z := 1) (i := (a + (i : Int))) rfl rfl (lt_ok rfl) (by kernel_rfl) rfl rfl rfl (lt_ok rfl) rfl (by first | omega | (simp; omega)) (by simp only [D.size]; first | omega | (simp; omega))) ?_
  refine TL.c (Step.load (e := (.int .u8 (b.getD (a + (i : Int)).toNat 0))) rfl rfl (lt_ok rfl) (by kernel_rfl) rfl rfl) ?_
  refine TL.c (Step.conv (c := (b.getD (a + (i : Int)).toNat 0)) rfl rfl (lt_ok rfl) (by kernel_rfl) (by kernel_rfl) rfl (wrap_ok (by first | omega | (simp; omega)) (by first | omega | (simp; omega)))) ?_
  refine TL.as (pI (b.getD (a + (i : Int)).toNat 0)) ?_
  refine TL.nil ?_
  refine T.seq ?_
  refine T.seq ?_
  refine T.region ?_
  refine TL.mv (pI (i : Int)) ?_
  refine TL.b _ (Bin.gtr (k := .i64) (a := (i : Int)) (b := 0)) ?_
  refine TL.mv (pB (decide (0 < (i : Int)))) ?_
  rcases Bool.eq_false_or_eq_true (decide (0 < (i : Int))) with hb5 | hb5
  ·
   refine TL.known 38 hb5 rfl ?_
   have hb5' := hb5
   replace hb5' := of_decide_eq_true hb5'
   refine TL.gm 38 (pI (b.getD (a + (i : Int)).toNat 0)) ?_
   refine TL.gy 38 (Step.bin rfl rfl (lt_ok rfl) rfl rfl (Bin.eql (k := .i64) (a := (b.getD (a + (i : Int)).toNat 0)) (b := 0))) ?_
   refine TL.pk true (pB (decide ((b.getD (a + (i : Int)).toNat 0) = 0))) ?_
   refine TL.mv (pB (decide ((b.getD (a + (i : Int)).toNat 0) = 0))) ?_
   rcases Bool.eq_false_or_eq_true (decide ((b.getD (a + (i : Int)).toNat 0) = 0)) with hb6 | hb6
   ·
    refine TL.known 42 hb6 rfl ?_
    have hb6' := hb6
    replace hb6' := of_decide_eq_true hb6'
    refine TL.gf 42 ?_
    refine TL.gf 42 ?_
    refine TL.gf 42 ?_
    refine TL.gu 45 ?_
    refine TL.gu 45 ?_
    refine TL.gf 42 ?_
    refine TL.pk true (pB true) ?_
    refine TL.nil ?_
    refine T.ct ?_
    refine T.seq ?_
    refine T.region ?_
    refine TL.as (pI 0) ?_
    refine TL.as (pI 0) ?_
    refine TL.as (pI 2) ?_
    refine TL.nil ?_
    refine T.ret ?_
    refine ⟨[(false, [cI 0]), (false, [cI 0]), (false, [cI 2])], (.cons rfl (.cons rfl (.cons rfl .nil))), rfl, [], (RetC.r ?_ (RetC.r ?_ (RetC.r ?_ .nil)))⟩ <;> ((congr 1; first | (rw [getVar_out (by omega)]; done) | (rw [getVar_in (by omega), ← hx4]; first | (rw [gvGo_short (by omega) (by omega)]; done) | (rw [gvGo_var (by omega) (by omega) (by omega)]; done) | (rw [gvGo_done (by omega) (by omega) (by omega) (by omega) (by omega)]; done) | (rw [gvGo_big (by omega) (by omega) (by omega) (by omega) (by omega)]; done) | (rw [gvGo_end (by omega)]; done))))
   refine TL.known 42 hb6 rfl ?_
   have hb6' := hb6
   replace hb6' := of_decide_eq_false hb6'
   refine TL.gm 42 (pI (i : Int)) ?_
   refine TL.gy 42 (Step.bin rfl rfl (lt_ok rfl) rfl rfl (Bin.eql (k := .i64) (a := (i : Int)) (b := 8))) ?_
   refine TL.gm 42 (pB (decide ((i : Int) = 8))) ?_
   rcases Bool.eq_false_or_eq_true (decide ((i : Int) = 8)) with hb7 | hb7
   ·
    refine TL.known 45 hb7 rfl ?_
    have hb7' := hb7
    replace hb7' := of_decide_eq_true hb7'
    refine TL.gm 45 (pI (b.getD (a + (i : Int)).toNat 0)) ?_
    refine TL.gy 45 (Step.bin rfl rfl (lt_ok rfl) rfl rfl (Bin.geq (k := .i64) (a := (b.getD (a + (i : Int)).toNat 0)) (b := 128))) ?_
    refine TL.gy 42 (Step.pick (b := true) (p := (pB (decide (128 ≤ (b.getD (a + (i : Int)).toNat 0))))) rfl rfl (lt_ok rfl) rfl rfl) ?_
    refine TL.pk false (pB (decide (128 ≤ (b.getD (a + (i : Int)).toNat 0)))) ?_
    refine TL.nil ?_
    refine T.ci rfl (fun h8 => ?_) (fun h8 => ?_)
    ·
     refine T.seq ?_
     refine T.region ?_
     refine TL.as (pI 0) ?_
     refine TL.as (pI 0) ?_
     refine TL.as (pI 2) ?_
     refine TL.nil ?_
     refine T.ret ?_
     refine ⟨[(false, [cI 0]), (false, [cI 0]), (false, [cI 2])], (.cons rfl (.cons rfl (.cons rfl .nil))), rfl, [], (RetC.r ?_ (RetC.r ?_ (RetC.r ?_ .nil)))⟩ <;> ((congr 1; first | (rw [getVar_out (by omega)]; done) | (rw [getVar_in (by omega), ← hx4]; first | (rw [gvGo_short (by omega) (by omega)]; done) | (rw [gvGo_var (by omega) (by omega) (by omega)]; done) | (rw [gvGo_done (by omega) (by omega) (by omega) (by omega) (by omega)]; done) | (rw [gvGo_big (by omega) (by omega) (by omega) (by omega) (by omega)]; done) | (rw [gvGo_end (by omega)]; done))))
    refine T.skip ?_
    refine T.seq ?_
    refine T.region ?_
    refine TL.mv (pI n) ?_
    refine TL.mv (pI (b.getD (a + (i : Int)).toNat 0)) ?_
    refine TL.c (Step.bin (r := .int .i64 ((b.getD (a + (i : Int)).toNat 0) % 128)) rfl rfl (lt_ok rfl) rfl rfl (Bin.rem (k := .i64) (a := (b.getD (a + (i : Int)).toNat 0)) (b := 128) (by decide) (Int.tmod_eq_emod_of_nonneg (by first | omega | (simp; omega))))) ?_
    refine TL.mv (pI (128 ^ i)) ?_
    refine TL.c (Step.bin (r := .int .i64 (((b.getD (a + (i : Int)).toNat 0) % 128) * (128 ^ i))) rfl rfl (lt_ok rfl) rfl rfl (Bin.mul (a := ((b.getD (a + (i : Int)).toNat 0) % 128)) (b := (128 ^ i)) (by first | exact wrap_ok (by first | omega | (simp; omega)) (by first | omega | (simp; omega)) | rfl))) ?_
    refine TL.c (Step.bin (r := .int .i64 (n + (((b.getD (a + (i : Int)).toNat 0) % 128) * (128 ^ i)))) rfl rfl (lt_ok rfl) rfl rfl (Bin.add (a := n) (b := (((b.getD (a + (i : Int)).toNat 0) % 128) * (128 ^ i))) (by first | exact wrap_ok (by first | omega | (simp; omega)) (by first | omega | (simp; omega)) | rfl))) ?_
    refine TL.as (pI (n + (((b.getD (a + (i : Int)).toNat 0) % 128) * (128 ^ i)))) ?_
    refine TL.nil ?_
    refine T.seq ?_
    refine T.seq ?_
    refine T.region ?_
    refine TL.mv (pI (b.getD (a + (i : Int)).toNat 0)) ?_
    refine TL.b _ (Bin.lss (k := .i64) (a := (b.getD (a + (i : Int)).toNat 0)) (b := 128)) ?_
    refine TL.nil ?_
    refine T.ci rfl (fun h9 => ?_) (fun h9 => ?_)
    ·
     refine T.seq ?_
     refine T.seq ?_
     refine T.region ?_
     refine TL.mv (pI (n + (((b.getD (a + (i : Int)).toNat 0) % 128) * (128 ^ i)))) ?_
     refine TL.b _ (Bin.gtr (k := .i64) (a := (n + (((b.getD (a + (i : Int)).toNat 0) % 128) * (128 ^ i)))) (b := 1152921504606846975)) ?_
     refine TL.nil ?_
     refine T.ci rfl (fun h10 => ?_) (fun h10 => ?_)
     ·
      refine T.seq ?_
      refine T.region ?_
      refine TL.as (pI 0) ?_
      refine TL.as (pI 0) ?_
      refine TL.as (pI 2) ?_
      refine TL.nil ?_
      refine T.ret ?_
      refine ⟨[(false, [cI 0]), (false, [cI 0]), (false, [cI 2])], (.cons rfl (.cons rfl (.cons rfl .nil))), rfl, [], (RetC.r ?_ (RetC.r ?_ (RetC.r ?_ .nil)))⟩ <;> ((congr 1; first | (rw [getVar_out (by omega)]; done) | (rw [getVar_in (by omega), ← hx4]; first | (rw [gvGo_short (by omega) (by omega)]; done) | (rw [gvGo_var (by omega) (by omega) (by omega)]; done) | (rw [gvGo_done (by omega) (by omega) (by omega) (by omega) (by omega)]; done) | (rw [gvGo_big (by omega) (by omega) (by omega) (by omega) (by omega)]; done) | (rw [gvGo_end (by omega)]; done))))
     refine T.skip ?_
     refine T.seq ?_
     refine T.region ?_
     refine TL.mv (pI (n + (((b.getD (a + (i : Int)).toNat 0) % 128) * (128 ^ i)))) ?_
     refine TL.mv (pI a) ?_
     refine TL.mv (pI (i : Int)) ?_
     refine TL.c (Step.bin (r := .int .i64 (a + (i : Int))) rfl rfl (lt_ok rfl) rfl rfl (Bin.add (a := a) (b := (i : Int)) (by first | exact wrap_ok (by first | omega | (simp; omega)) (by first | omega | (simp; omega)) | rfl))) ?_
     refine TL.c (Step.bin (r := .int .i64 ((a + (i : Int)) + 1)) rfl rfl (lt_ok rfl) rfl rfl (Bin.add (a := (a + (i : Int))) (b := 1) (by first | exact wrap_ok (by first | omega | (simp; omega)) (by first | omega | (simp; omega)) | rfl))) ?_
     refine TL.as (pI (n + (((b.getD (a + (i : Int)).toNat 0) % 128) * (128 ^ i)))) ?_
     refine TL.as (pI ((a + (i : Int)) + 1)) ?_
     refine TL.as (pI 0) ?_
     refine TL.nil ?_
     refine T.ret ?_
     refine ⟨[(false, [cI (n + (((b.getD (a + (i : Int)).toNat 0) % 128) * (128 ^ i)))]), (false, [cI ((a + (i : Int)) + 1)]), (false, [cI 0])], (.cons rfl (.cons rfl (.cons rfl .nil))), rfl, [], (RetC.r ?_ (RetC.r ?_ (RetC.r ?_ .nil)))⟩ <;> ((congr 1; first | (rw [getVar_out (by omega)]; done) | (rw [getVar_in (by omega), ← hx4]; first | (rw [gvGo_short (by omega) (by omega)]; done) | (rw [gvGo_var (by omega) (by omega) (by omega)]; done) | (rw [gvGo_done (by omega) (by omega) (by omega) (by omega) (by omega)]; done) | (rw [gvGo_big (by omega) (by omega) (by omega) (by omega) (by omega)]; done) | (rw [gvGo_end (by omega)]; done))))
    refine T.skip ?_
    refine T.region ?_
    refine TL.mv (pI (128 ^ i)) ?_
    refine TL.c (Step.bin (r := .int .i64 (128 ^ (i + 1))) rfl rfl (lt_ok rfl) rfl rfl (Bin.mul (a := (128 ^ i)) (b := 128) (by have h7_ := pow128 (i := i + 1) (by omega); rw [← Int.pow_succ]; exact wrap_ok (by omega) (by omega)))) ?_
    refine TL.as (pI (128 ^ (i + 1))) ?_
    refine TL.nil ?_
    refine T.region ?_
    refine TL.mv (pI (i : Int)) ?_
    refine TL.c (Step.bin (r := .int .i64 ((i : Int) + 1)) rfl rfl (lt_ok rfl) rfl rfl (Bin.add (a := (i : Int)) (b := 1) (by first | exact wrap_ok (by first | omega | (simp; omega)) (by first | omega | (simp; omega)) | rfl))) ?_
    refine TL.as (pI ((i : Int) + 1)) ?_
    refine TL.nil ?_
    refine ⟨(i + 1, n + (((b.getD (a + (i : Int)).toNat 0) % 128) * (128 ^ i))), by (try dsimp only); (refine ⟨by omega, by omega, by rw [Int.pow_succ]; omega, ?_⟩; exact (gvGo_next (n := n) (by omega) (by omega) (by omega) (by omega)).symm.trans hx4), by (dsimp only; omega), Env.le_mk ⟨rfl, rfl, ?_, ?_, ?_, trivial⟩ trivial trivial⟩ <;> (first | rfl | (refine congrArg (fun n => PV.one (.d (.int .i64 n))) ?_; first | rfl | omega | (simp; done)))
   refine TL.known 45 hb7 rfl ?_
   have hb7' := hb7
   replace hb7' := of_decide_eq_false hb7'
   refine TL.gf 45 ?_
   refine TL.gf 45 ?_
   refine TL.gy 42 (Step.pick (b := false) (p := (pB false)) rfl rfl (lt_ok rfl) rfl rfl) ?_
   refine TL.pk false (pB false) ?_
   refine TL.nil ?_
   refine T.cf ?_
   refine T.skip ?_
   refine T.seq ?_
   refine T.region ?_
   refine TL.mv (pI n) ?_
   refine TL.mv (pI (b.getD (a + (i : Int)).toNat 0)) ?_
   refine TL.c (Step.bin (r := .int .i64 ((b.getD (a + (i : Int)).toNat 0) % 128)) rfl rfl (lt_ok rfl) rfl rfl (Bin.rem (k := .i64) (a := (b.getD (a + (i : Int)).toNat 0)) (b := 128) (by decide) (Int.tmod_eq_emod_of_nonneg (by first | omega | (simp; omega))))) ?_
   refine TL.mv (pI (128 ^ i)) ?_
   refine TL.c (Step.bin (r := .int .i64 (((b.getD (a + (i : Int)).toNat 0) % 128) * (128 ^ i))) rfl rfl (lt_ok rfl) rfl rfl (Bin.mul (a := ((b.getD (a + (i : Int)).toNat 0) % 128)) (b := (128 ^ i)) (by first | exact wrap_ok (by first | omega | (simp; omega)) (by first | omega | (simp; omega)) | rfl))) ?_
   refine TL.c (Step.bin (r := .int .i64 (n + (((b.getD (a + (i : Int)).toNat 0) % 128) * (128 ^ i)))) rfl rfl (lt_ok rfl) rfl rfl (Bin.add (a := n) (b := (((b.getD (a + (i : Int)).toNat 0) % 128) * (128 ^ i))) (by first | exact wrap_ok (by first | omega | (simp; omega)) (by first | omega | (simp; omega)) | rfl))) ?_
   refine TL.as (pI (n + (((b.getD (a + (i : Int)).toNat 0) % 128) * (128 ^ i)))) ?_
   refine TL.nil ?_
   refine T.seq ?_
   refine T.seq ?_
   refine T.region ?_
   refine TL.mv (pI (b.getD (a + (i : Int)).toNat 0)) ?_
   refine TL.b _ (Bin.lss (k := .i64) (a := (b.getD (a + (i : Int)).toNat 0)) (b := 128)) ?_
   refine TL.nil ?_
   refine T.ci rfl (fun h11 => ?_) (fun h11 => ?_)
   ·
    refine T.seq ?_
    refine T.seq ?_
    refine T.region ?_
    refine TL.mv (pI (n + (((b.getD (a + (i : Int)).toNat 0) % 128) * (128 ^ i)))) ?_
    refine TL.b _ (Bin.gtr (k := .i64) (a := (n + (((b.getD (a + (i : Int)).toNat 0) % 128) * (128 ^ i)))) (b := 1152921504606846975)) ?_
    refine TL.nil ?_
    refine T.ci rfl (fun h12 => ?_) (fun h12 => ?_)
    ·
     refine T.seq ?_
     refine T.region ?_
     refine TL.as (pI 0) ?_
     refine TL.as (pI 0) ?_
     refine TL.as (pI 2) ?_
     refine TL.nil ?_
     refine T.ret ?_
     refine ⟨[(false, [cI 0]), (false, [cI 0]), (false, [cI 2])], (.cons rfl (.cons rfl (.cons rfl .nil))), rfl, [], (RetC.r ?_ (RetC.r ?_ (RetC.r ?_ .nil)))⟩ <;> ((congr 1; first | (rw [getVar_out (by omega)]; done) | (rw [getVar_in (by omega), ← hx4]; first | (rw [gvGo_short (by omega) (by omega)]; done) | (rw [gvGo_var (by omega) (by omega) (by omega)]; done) | (rw [gvGo_done (by omega) (by omega) (by omega) (by omega) (by omega)]; done) | (rw [gvGo_big (by omega) (by omega) (by omega) (by omega) (by omega)]; done) | (rw [gvGo_end (by omega)]; done))))
    refine T.skip ?_
    refine T.seq ?_
    refine T.region ?_
    refine TL.mv (pI (n + (((b.getD (a + (i : Int)).toNat 0) % 128) * (128 ^ i)))) ?_
    refine TL.mv (pI a) ?_
    refine TL.mv (pI (i : Int)) ?_
    refine TL.c (Step.bin (r := .int .i64 (a + (i : Int))) rfl rfl (lt_ok rfl) rfl rfl (Bin.add (a := a) (b := (i : Int)) (by first | exact wrap_ok (by first | omega | (simp; omega)) (by first | omega | (simp; omega)) | rfl))) ?_
    refine TL.c (Step.bin (r := .int .i64 ((a + (i : Int)) + 1)) rfl rfl (lt_ok rfl) rfl rfl (Bin.add (a := (a + (i : Int))) (b := 1) (by first | exact wrap_ok (by first | omega | (simp; omega)) (by first | omega | (simp; omega)) | rfl))) ?_
    refine TL.as (pI (n + (((b.getD (a + (i : Int)).toNat 0) % 128) * (128 ^ i)))) ?_
    refine TL.as (pI ((a + (i : Int)) + 1)) ?_
    refine TL.as (pI 0) ?_
    refine TL.nil ?_
    refine T.ret ?_
    refine ⟨[(false, [cI (n + (((b.getD (a + (i : Int)).toNat 0) % 128) * (128 ^ i)))]), (false, [cI ((a + (i : Int)) + 1)]), (false, [cI 0])], (.cons rfl (.cons rfl (.cons rfl .nil))), rfl, [], (RetC.r ?_ (RetC.r ?_ (RetC.r ?_ .nil)))⟩ <;> ((congr 1; first | (rw [getVar_out (by omega)]; done) | (rw [getVar_in (by omega), ← hx4]; first | (rw [gvGo_short (by omega) (by omega)]; done) | (rw [gvGo_var (by omega) (by omega) (by omega)]; done) | (rw [gvGo_done (by omega) (by omega) (by omega) (by omega) (by omega)]; done) | (rw [gvGo_big (by omega) (by omega) (by omega) (by omega) (by omega)]; done) | (rw [gvGo_end (by omega)]; done))))
   refine T.skip ?_
   refine T.region ?_
   refine TL.mv (pI (128 ^ i)) ?_
   refine TL.c (Step.bin (r := .int .i64 (128 ^ (i + 1))) rfl rfl (lt_ok rfl) rfl rfl (Bin.mul (a := (128 ^ i)) (b := 128) (by have h7_ := pow128 (i := i + 1) (by omega); rw [← Int.pow_succ]; exact wrap_ok (by omega) (by omega)))) ?_
   refine TL.as (pI (128 ^ (i + 1))) ?_
   refine TL.nil ?_
   refine T.region ?_
   refine TL.mv (pI (i : Int)) ?_
   refine TL.c (Step.bin (r := .int .i64 ((i : Int) + 1)) rfl rfl (lt_ok rfl) rfl rfl (Bin.add (a := (i : Int)) (b := 1) (by first | exact wrap_ok (by first | omega | (simp; omega)) (by first | omega | (simp; omega)) | rfl))) ?_
   refine TL.as (pI ((i : Int) + 1)) ?_
   refine TL.nil ?_
   refine ⟨(i + 1, n + (((b.getD (a + (i : Int)).toNat 0) % 128) * (128 ^ i))), by (try dsimp only); (refine ⟨by omega, by omega, by rw [Int.pow_succ]; omega, ?_⟩; exact (gvGo_next (n := n) (by omega) (by omega) (by omega) (by omega)).symm.trans hx4), by (dsimp only; omega), Env.le_mk ⟨rfl, rfl, ?_, ?_, ?_, trivial⟩ trivial trivial⟩ <;> (first | rfl | (refine congrArg (fun n => PV.one (.d (.int .i64 n))) ?_; first | rfl | omega | (simp; done)))
  refine TL.known 38 hb5 rfl ?_
  have hb5' := hb5
  replace hb5' := of_decide_eq_false hb5'
  refine TL.gf 38 ?_
  refine TL.gf 38 ?_
  refine TL.pk false (pB false) ?_
  refine TL.mv (pB false) ?_
  refine TL.gm 42 (pI (i : Int)) ?_
  refine TL.gy 42 (Step.bin rfl rfl (lt_ok rfl) rfl rfl (Bin.eql (k := .i64) (a := (i : Int)) (b := 8))) ?_
  refine TL.gm 42 (pB (decide ((i : Int) = 8))) ?_
  rcases Bool.eq_false_or_eq_true (decide ((i : Int) = 8)) with hb13 | hb13
  ·
   refine TL.known 45 hb13 rfl ?_
   have hb13' := hb13
   replace hb13' := of_decide_eq_true hb13'
   refine TL.gm 45 (pI (b.getD (a + (i : Int)).toNat 0)) ?_
   refine TL.gy 45 (Step.bin rfl rfl (lt_ok rfl) rfl rfl (Bin.geq (k := .i64) (a := (b.getD (a + (i : Int)).toNat 0)) (b := 128))) ?_
   refine TL.gy 42 (Step.pick (b := true) (p := (pB (decide (128 ≤ (b.getD (a + (i : Int)).toNat 0))))) rfl rfl (lt_ok rfl) rfl rfl) ?_
   refine TL.pk false (pB (decide (128 ≤ (b.getD (a + (i : Int)).toNat 0)))) ?_
   refine TL.nil ?_
   refine T.ci rfl (fun h14 => ?_) (fun h14 => ?_)
   ·
    refine T.seq ?_
    refine T.region ?_
    refine TL.as (pI 0) ?_
    refine TL.as (pI 0) ?_
    refine TL.as (pI 2) ?_
    refine TL.nil ?_
    refine T.ret ?_
    refine ⟨[(false, [cI 0]), (false, [cI 0]), (false, [cI 2])], (.cons rfl (.cons rfl (.cons rfl .nil))), rfl, [], (RetC.r ?_ (RetC.r ?_ (RetC.r ?_ .nil)))⟩ <;> ((congr 1; first | (rw [getVar_out (by omega)]; done) | (rw [getVar_in (by omega), ← hx4]; first | (rw [gvGo_short (by omega) (by omega)]; done) | (rw [gvGo_var (by omega) (by omega) (by omega)]; done) | (rw [gvGo_done (by omega) (by omega) (by omega) (by omega) (by omega)]; done) | (rw [gvGo_big (by omega) (by omega) (by omega) (by omega) (by omega)]; done) | (rw [gvGo_end (by omega)]; done))))
   refine T.skip ?_
   refine T.seq ?_
   refine T.region ?_
   refine TL.mv (pI n) ?_
   refine TL.mv (pI (b.getD (a + (i : Int)).toNat 0)) ?_
   refine TL.c (Step.bin (r := .int .i64 ((b.getD (a + (i : Int)).toNat 0) % 128)) rfl rfl (lt_ok rfl) rfl rfl (Bin.rem (k := .i64) (a := (b.getD (a + (i : Int)).toNat 0)) (b := 128) (by decide) (Int.tmod_eq_emod_of_nonneg (by first | omega | (simp; omega))))) ?_
   refine TL.mv (pI (128 ^ i)) ?_
   refine TL.c (Step.bin (r := .int .i64 (((b.getD (a + (i : Int)).toNat 0) % 128) * (128 ^ i))) rfl rfl (lt_ok rfl) rfl rfl (Bin.mul (a := ((b.getD (a + (i : Int)).toNat 0) % 128)) (b := (128 ^ i)) (by first | exact wrap_ok (by first | omega | (simp; omega)) (by first | omega | (simp; omega)) | rfl))) ?_
   refine TL.c (Step.bin (r := .int .i64 (n + (((b.getD (a + (i : Int)).toNat 0) % 128) * (128 ^ i)))) rfl rfl (lt_ok rfl) rfl rfl (Bin.add (a := n) (b := (((b.getD (a + (i : Int)).toNat 0) % 128) * (128 ^ i))) (by first | exact wrap_ok (by first | omega | (simp; omega)) (by first | omega | (simp; omega)) | rfl))) ?_
   refine TL.as (pI (n + (((b.getD (a + (i : Int)).toNat 0) % 128) * (128 ^ i)))) ?_
   refine TL.nil ?_
   refine T.seq ?_
   refine T.seq ?_
   refine T.region ?_
   refine TL.mv (pI (b.getD (a + (i : Int)).toNat 0)) ?_
   refine TL.b _ (Bin.lss (k := .i64) (a := (b.getD (a + (i : Int)).toNat 0)) (b := 128)) ?_
   refine TL.nil ?_
   refine T.ci rfl (fun h15 => ?_) (fun h15 => ?_)
   ·
    refine T.seq ?_
    refine T.seq ?_
    refine T.region ?_
    refine TL.mv (pI (n + (((b.getD (a + (i : Int)).toNat 0) % 128) * (128 ^ i)))) ?_
    refine TL.b _ (Bin.gtr (k := .i64) (a := (n + (((b.getD (a + (i : Int)).toNat 0) % 128) * (128 ^ i)))) (b := 1152921504606846975)) ?_
    refine TL.nil ?_
    refine T.ci rfl (fun h16 => ?_) (fun h16 => ?_)
    ·
     refine T.seq ?_
     refine T.region ?_
     refine TL.as (pI 0) ?_
     refine TL.as (pI 0) ?_
     refine TL.as (pI 2) ?_
     refine TL.nil ?_
     refine T.ret ?_
     refine ⟨[(false, [cI 0]), (false, [cI 0]), (false, [cI 2])], (.cons rfl (.cons rfl (.cons rfl .nil))), rfl, [], (RetC.r ?_ (RetC.r ?_ (RetC.r ?_ .nil)))⟩ <;> ((congr 1; first | (rw [getVar_out (by omega)]; done) | (rw [getVar_in (by omega), ← hx4]; first | (rw [gvGo_short (by omega) (by omega)]; done) | (rw [gvGo_var (by omega) (by omega) (by omega)]; done) | (rw [gvGo_done (by omega) (by omega) (by omega) (by omega) (by omega)]; done) | (rw [gvGo_big (by omega) (by omega) (by omega) (by omega) (by omega)]; done) | (rw [gvGo_end (by omega)]; done))))
    refine T.skip ?_
    refine T.seq ?_
    refine T.region ?_
    refine TL.mv (pI (n + (((b.getD (a + (i : Int)).toNat 0) % 128) * (128 ^ i)))) ?_
    refine TL.mv (pI a) ?_
    refine TL.mv (pI (i : Int)) ?_
    refine TL.c (Step.bin (r := .int .i64 (a + (i : Int))) rfl rfl (lt_ok rfl) rfl rfl (Bin.add (a := a) (b := (i : Int)) (by first | exact wrap_ok (by first | omega | (simp; omega)) (by first | omega | (simp; omega)) | rfl))) ?_
    refine TL.c (Step.bin (r := .int .i64 ((a + (i : Int)) + 1)) rfl rfl (lt_ok rfl) rfl rfl (Bin.add (a := (a + (i : Int))) (b := 1) (by first | exact wrap_ok (by first | omega | (simp; omega)) (by first | omega | (simp; omega)) | rfl))) ?_
    refine TL.as (pI (n + (((b.getD (a + (i : Int)).toNat 0) % 128) * (128 ^ i)))) ?_
    refine TL.as (pI ((a + (i : Int)) + 1)) ?_
    refine TL.as (pI 0) ?_
    refine TL.nil ?_
    refine T.ret ?_
    refine ⟨[(false, [cI (n + (((b.getD (a + (i : Int)).toNat 0) % 128) * (128 ^ i)))]), (false, [cI ((a + (i : Int)) + 1)]), (false, [cI 0])], (.cons rfl (.cons rfl (.cons rfl .nil))), rfl, [], (RetC.r ?_ (RetC.r ?_ (RetC.r ?_ .nil)))⟩ <;> ((congr 1; first | (rw [getVar_out (by omega)]; done) | (rw [getVar_in (by omega), ← hx4]; first | (rw [gvGo_short (by omega) (by omega)]; done) | (rw [gvGo_var (by omega) (by omega) (by omega)]; done) | (rw [gvGo_done (by omega) (by omega) (by omega) (by omega) (by omega)]; done) | (rw [gvGo_big (by omega) (by omega) (by omega) (by omega) (by omega)]; done) | (rw [gvGo_end (by omega)]; done))))
   refine T.skip ?_
   refine T.region ?_
   refine TL.mv (pI (128 ^ i)) ?_
   refine TL.c (Step.bin (r := .int .i64 (128 ^ (i + 1))) rfl rfl (lt_ok rfl) rfl rfl (Bin.mul (a := (128 ^ i)) (b := 128) (by have h7_ := pow128 (i := i + 1) (by omega); rw [← Int.pow_succ]; exact wrap_ok (by omega) (by omega)))) ?_
   refine TL.as (pI (128 ^ (i + 1))) ?_
   refine TL.nil ?_
   refine T.region ?_
   refine TL.mv (pI (i : Int)) ?_
   refine TL.c (Step.bin (r := .int .i64 ((i : Int) + 1)) rfl rfl (lt_ok rfl) rfl rfl (Bin.add (a := (i : Int)) (b := 1) (by first | exact wrap_ok (by first | omega | (simp; omega)) (by first | omega | (simp; omega)) | rfl))) ?_
   refine TL.as (pI ((i : Int) + 1)) ?_
   refine TL.nil ?_
   refine ⟨(i + 1, n + (((b.getD (a + (i : Int)).toNat 0) % 128) * (128 ^ i))), by (try dsimp only); (refine ⟨by omega, by omega, by rw [Int.pow_succ]; omega, ?_⟩; exact (gvGo_next (n := n) (by omega) (by omega) (by omega) (by omega)).symm.trans hx4), by (dsimp only; omega), Env.le_mk ⟨rfl, rfl, ?_, ?_, ?_, trivial⟩ trivial trivial⟩ <;> (first | rfl | (refine congrArg (fun n => PV.one (.d (.int .i64 n))) ?_; first | rfl | omega | (simp; done)))
  refine TL.known 45 hb13 rfl ?_
  have hb13' := hb13
  replace hb13' := of_decide_eq_false hb13'
  refine TL.gf 45 ?_
  refine TL.gf 45 ?_
  refine TL.gy 42 (Step.pick (b := false) (p := (pB false)) rfl rfl (lt_ok rfl) rfl rfl) ?_
  refine TL.pk false (pB false) ?_
  refine TL.nil ?_
  refine T.cf ?_
  refine T.skip ?_
  refine T.seq ?_
  refine T.region ?_
  refine TL.mv (pI n) ?_
  refine TL.mv (pI (b.getD (a + (i : Int)).toNat 0)) ?_
  refine TL.c (Step.bin (r := .int .i64 ((b.getD (a + (i : Int)).toNat 0) % 128)) rfl rfl (lt_ok rfl) rfl rfl (Bin.rem (k := .i64) (a := (b.getD (a + (i : Int)).toNat 0)) (b := 128) (by decide) (Int.tmod_eq_emod_of_nonneg (by first | omega | (simp; omega))))) ?_
  refine TL.mv (pI (128 ^ i)) ?_
  refine TL.c (Step.bin (r := .int .i64 (((b.getD (a + (i : Int)).toNat 0) % 128) * (128 ^ i))) rfl rfl (lt_ok rfl) rfl rfl (Bin.mul (a := ((b.getD (a + (i : Int)).toNat 0) % 128)) (b := (128 ^ i)) (by first | exact wrap_ok (by first | omega | (simp; omega)) (by first | omega | (simp; omega)) | rfl))) ?_
  refine TL.c (Step.bin (r := .int .i64 (n + (((b.getD (a + (i : Int)).toNat 0) % 128) * (128 ^ i)))) rfl rfl (lt_ok rfl) rfl rfl (Bin.add (a := n) (b := (((b.getD (a + (i : Int)).toNat 0) % 128) * (128 ^ i))) (by first | exact wrap_ok (by first | omega | (simp; omega)) (by first | omega | (simp; omega)) | rfl))) ?_
  refine TL.as (pI (n + (((b.getD (a + (i : Int)).toNat 0) % 128) * (128 ^ i)))) ?_
  refine TL.nil ?_
  refine T.seq ?_
  refine T.seq ?_
  refine T.region ?_
  refine TL.mv (pI (b.getD (a + (i : Int)).toNat 0)) ?_
  refine TL.b _ (Bin.lss (k := .i64) (a := (b.getD (a + (i : Int)).toNat 0)) (b := 128)) ?_
  refine TL.nil ?_
  refine T.ci rfl (fun h17 => ?_) (fun h17 => ?_)
  ·
   refine T.seq ?_
   refine T.seq ?_
   refine T.region ?_
   refine TL.mv (pI (n + (((b.getD (a + (i : Int)).toNat 0) % 128) * (128 ^ i)))) ?_
   refine TL.b _ (Bin.gtr (k := .i64) (a := (n + (((b.getD (a + (i : Int)).toNat 0) % 128) * (128 ^ i)))) (b := 1152921504606846975)) ?_
   refine TL.nil ?_
   refine T.ci rfl (fun h18 => ?_) (fun h18 => ?_)
   ·
    refine T.seq ?_
    refine T.region ?_
    refine TL.as (pI 0) ?_
    refine TL.as (pI 0) ?_
    refine TL.as (pI 2) ?_
    refine TL.nil ?_
    refine T.ret ?_
    refine ⟨[(false, [cI 0]), (false, [cI 0]), (false, [cI 2])], (.cons rfl (.cons rfl (.cons rfl .nil))), rfl, [], (RetC.r ?_ (RetC.r ?_ (RetC.r ?_ .nil)))⟩ <;> ((congr 1; first | (rw [getVar_out (by omega)]; done) | (rw [getVar_in (by omega), ← hx4]; first | (rw [gvGo_short (by omega) (by omega)]; done) | (rw [gvGo_var (by omega) (by omega) (by omega)]; done) | (rw [gvGo_done (by omega) (by omega) (by omega) (by omega) (by omega)]; done) | (rw [gvGo_big (by omega) (by omega) (by omega) (by omega) (by omega)]; done) | (rw [gvGo_end (by omega)]; done))))
   refine T.skip ?_
   refine T.seq ?_
   refine T.region ?_
   refine TL.mv (pI (n + (((b.getD (a + (i : Int)).toNat 0) % 128) * (128 ^ i)))) ?_
   refine TL.mv (pI a) ?_
   refine TL.mv (pI (i : Int)) ?_
   refine TL.c (Step.bin (r := .int .i64 (a + (i : Int))) rfl rfl (lt_ok rfl) rfl rfl (Bin.add (a := a) (b := (i : Int)) (by first | exact wrap_ok (by first | omega | (simp; omega)) (by first | omega | (simp; omega)) | rfl))) ?_
   refine TL.c (Step.bin (r := .int .i64 ((a + (i : Int)) + 1)) rfl rfl (lt_ok rfl) rfl rfl (Bin.add (a := (a + (i : Int))) (b := 1) (by first | exact wrap_ok (by first | omega | (simp; omega)) (by first | omega | (simp; omega)) | rfl))) ?_
   refine TL.as (pI (n + (((b.getD (a + (i : Int)).toNat 0) % 128) * (128 ^ i)))) ?_
   refine TL.as (pI ((a + (i : Int)) + 1)) ?_
   refine TL.as (pI 0) ?_
   refine TL.nil ?_
   refine T.ret ?_
   refine ⟨[(false, [cI (n + (((b.getD (a + (i : Int)).toNat 0) % 128) * (128 ^ i)))]), (false, [cI ((a + (i : Int)) + 1)]), (false, [cI 0])], (.cons rfl (.cons rfl (.cons rfl .nil))), rfl, [], (RetC.r ?_ (RetC.r ?_ (RetC.r ?_ .nil)))⟩ <;> ((congr 1; first | (rw [getVar_out (by omega)]; done) | (rw [getVar_in (by omega), ← hx4]; first | (rw [gvGo_short (by omega) (by omega)]; done) | (rw [gvGo_var (by omega) (by omega) (by omega)]; done) | (rw [gvGo_done (by omega) (by omega) (by omega) (by omega) (by omega)]; done) | (rw [gvGo_big (by omega) (by omega) (by omega) (by omega) (by omega)]; done) | (rw [gvGo_end (by omega)]; done))))
  refine T.skip ?_
  refine T.region ?_
  refine TL.mv (pI (128 ^ i)) ?_
  refine TL.c (Step.bin (r := .int .i64 (128 ^ (i + 1))) rfl rfl (lt_ok rfl) rfl rfl (Bin.mul (a := (128 ^ i)) (b := 128) (by have h7_ := pow128 (i := i + 1) (by omega); rw [← Int.pow_succ]; exact wrap_ok (by omega) (by omega)))) ?_
  refine TL.as (pI (128 ^ (i + 1))) ?_
  refine TL.nil ?_
  refine T.region ?_
  refine TL.mv (pI (i : Int)) ?_
  refine TL.c (Step.bin (r := .int .i64 ((i : Int) + 1)) rfl rfl (lt_ok rfl) rfl rfl (Bin.add (a := (i : Int)) (b := 1) (by first | exact wrap_ok (by first | omega | (simp; omega)) (by first | omega | (simp; omega)) | rfl))) ?_
  refine TL.as (pI ((i : Int) + 1)) ?_
  refine TL.nil ?_
  refine ⟨(i + 1, n + (((b.getD (a + (i : Int)).toNat 0) % 128) * (128 ^ i))), by (try dsimp only); (refine ⟨by omega, by omega, by rw [Int.pow_succ]; omega, ?_⟩; exact (gvGo_next (n := n) (by omega) (by omega) (by omega) (by omega)).symm.trans hx4), by (dsimp only; omega), Env.le_mk ⟨rfl, rfl, ?_, ?_, ?_, trivial⟩ trivial trivial⟩ <;> (first | rfl | (refine congrArg (fun n => PV.one (.d (.int .i64 n))) ?_; first | rfl | omega | (simp; done)))
 refine T.exit ?_
 refine T.seq ?_
 refine T.region ?_
 refine TL.as (pI 0) ?_
 refine TL.as (pI 0) ?_
 refine TL.as (pI 2) ?_
 refine TL.nil ?_
 refine T.ret ?_
 refine ⟨[(false, [cI 0]), (false, [cI 0]), (false, [cI 2])], (.cons rfl (.cons rfl (.cons rfl .nil))), rfl, [], (RetC.r ?_ (RetC.r ?_ (RetC.r ?_ .nil)))⟩ <;> ((congr 1; first | (rw [getVar_out (by omega)]; done) | (rw [getVar_in (by omega), ← hx4]; first | (rw [gvGo_short (by omega) (by omega)]; done) | (rw [gvGo_var (by omega) (by omega) (by omega)]; done) | (rw [gvGo_done (by omega) (by omega) (by omega) (by omega) (by omega)]; done) | (rw [gvGo_big (by omega) (by omega) (by omega) (by omega) (by omega)]; done) | (rw [gvGo_end (by omega)]; done))))
theorem ok_spec_l11Var (b : List Int) (s : SRS) (h0_ : U8s b) (h1_ : b.length ≤ 1048576) : BX Try.prog 131 [.bx] 110 [.rd (.ints .u8 b), .rd (.int .i64 s.f0), .rd (.int .i64 s.f1)] [.rd (.ints .u8 b), .rd (.int .i64 (rdNum b s).1.f0), .rd (.int .i64 (rdNum b s).1.f1)] [(false, [.rd (.int .i64 (rdNum b s).2)])] := by
 refine BX.intro Try.func131 rfl 33 rfl (le_ok rfl) (le_ok rfl) fun w Z IX pin hp => ?_
 refine T.seq ?_
 refine T.region ?_
 refine TL.as (pI 0) ?_
 refine TL.nil ?_
 refine T.seq ?_
 refine T.seq ?_
 refine T.region ?_
 refine TL.mv (.one (.ptr 800 0)) ?_
 refine TL.c (Step.nilCheck rfl rfl (lt_ok rfl) rfl) ?_
 refine TL.c (Step.fd 2 1 true) ?_
 refine TL.c (Step.lb (.d (.int .i64 s.f1))) ?_
 refine TL.b _ (Bin.neq (k := .i64) (a := s.f1) (b := 0)) ?_
 refine TL.nil ?_
 refine T.ci rfl (fun h1 => ?_) (fun h1 => ?_)
 ·
  refine T.seq ?_
  refine T.region ?_
  refine TL.as (pI 0) ?_
  refine TL.nil ?_
  refine T.ret ?_
  refine ⟨[cS b, cI s.f0, cI s.f1], [(false, [cI 0])], rfl, rfl, (.cons rfl .nil), rfl, [], (RetC.r rfl (RetC.r ?_ (RetC.r ?_ (RetC.r ?_ .nil))))⟩ <;> (first | rfl | (congr 1; unfold rdNum; first | (rw [if_pos (by omega)]; done) | (rw [if_neg (by omega)]; done)) | (simp only [D.size]; unfold rdNum; rw [if_neg (by omega)]; rfl))
 refine T.skip ?_
 refine T.seq ?_
 have nn2 := @getVar_bd b (by assumption) s.f0
 refine T.draw [⟨12, (.one (.ptr 800 0)), []⟩, ⟨13, (.one (.ptr 800 0)), []⟩, ⟨14, (.one (.ptr 800 0)), []⟩, ⟨15, (pS b), []⟩, ⟨16, (.one (.ptr 800 0)), []⟩, ⟨17, (.one (.ptr 800 0)), []⟩, ⟨18, (.one (.ptr 800 1)), []⟩, ⟨19, (pI s.f0), []⟩, ⟨20, (.tup [(false, [cI (getVar b s.f0).1]), (false, [cI (getVar b s.f0).2.1]), (false, [cI (getVar b s.f0).2.2])]), []⟩, ⟨11, (.tup [(false, [cI (getVar b s.f0).1]), (false, [cI (getVar b s.f0).2.1]), (false, [cI (getVar b s.f0).2.2])]), []⟩, ⟨21, (pI (getVar b s.f0).1), []⟩, ⟨22, (pI (getVar b s.f0).2.1), []⟩, ⟨23, (pI (getVar b s.f0).2.2), []⟩, ⟨3, (pI (getVar b s.f0).1), []⟩, ⟨4, (pI (getVar b s.f0).2.1), []⟩, ⟨5, (pI (getVar b s.f0).2.2), []⟩] (by kernel_rfl) (by kernel_rfl) ?_ ?_
 ·
  refine .cons (fun E A => A.mv 0 12) ?_
  refine .cons (fun E A => OpStep.plain rfl (Step.nilCheck (t := 13) rfl rfl (by exact lt_ok rfl) (A.g 12 rfl))) ?_
  refine .cons (fun E A => OpStep.plain rfl (Step.fa (off := 0) (n := 1) (one := true) 0 14 (A.g 13 rfl))) ?_
  refine .cons (fun E A => OpStep.plain rfl (Step.load_box (c := cS b) (t := 15) rfl rfl (by exact lt_ok rfl) (by kernel_rfl) (A.g 14 rfl) (by exact A.box rfl) rfl)) ?_
  refine .cons (fun E A => A.mv 0 16) ?_
  refine .cons (fun E A => OpStep.plain rfl (Step.nilCheck (t := 17) rfl rfl (by exact lt_ok rfl) (A.g 16 rfl))) ?_
  refine .cons (fun E A => OpStep.plain rfl (Step.fa (off := 1) (n := 1) (one := true) 0 18 (A.g 17 rfl))) ?_
  refine .cons (fun E A => OpStep.plain rfl (Step.load_box (c := cI s.f0) (t := 19) rfl rfl (by exact lt_ok rfl) (by kernel_rfl) (A.g 18 rfl) (by exact A.box rfl) rfl)) ?_
  refine .cons (fun E A => OpStep.plain rfl (Step.call (f := 175) (xs := [.tmp 15, .tmp 19]) (ps := [(pS b), (pI s.f0)]) false (g := .func 175) (t := 20) rfl rfl (by exact lt_ok rfl) rfl (by kernel_rfl) (evs_cons (A.g 15 rfl) (evs_cons (A.g 19 rfl) (rfl))) (.cons (.one (.d _)) (.cons (.one (.d _)) .nil)) (ok_spec_GetVar b s.f0 (by assumption) (by first | omega | assumption | (simp only [List.length_append] at *; omega))) (.inr rfl) (At.freshRows A rfl) (fun x hx => by have := hp x hx; omega) rfl)) ?_
  refine .cons (fun E A => A.mv 20 11) ?_
  refine .cons (fun E A => OpStep.plain rfl (Step.extract (p := (pI (getVar b s.f0).1)) (t := 21) rfl rfl (by exact lt_ok rfl) (A.g 11 rfl) rfl)) ?_
  refine .cons (fun E A => OpStep.plain rfl (Step.extract (p := (pI (getVar b s.f0).2.1)) (t := 22) rfl rfl (by exact lt_ok rfl) (A.g 11 rfl) rfl)) ?_
  refine .cons (fun E A => OpStep.plain rfl (Step.extract (p := (pI (getVar b s.f0).2.2)) (t := 23) rfl rfl (by exact lt_ok rfl) (A.g 11 rfl) rfl)) ?_
  refine .cons (fun E A => A.as 21 3) ?_
  refine .cons (fun E A => A.as 22 4) ?_
  refine .cons (fun E A => A.as 23 5) ?_
  exact .nil _ _
 refine TL.nil ?_
 refine T.seq ?_
 refine T.region ?_
 refine TL.mv (.one (.ptr 800 0)) ?_
 refine TL.mv (pI (getVar b s.f0).2.2) ?_
 refine TL.c (Step.nilCheck rfl rfl (lt_ok rfl) rfl) ?_
 refine TL.c (Step.fd 2 1 true) ?_
 refine TL.c (Step.sb 1 [cS b, cI s.f0, cI (getVar b s.f0).2.2]) ?_
 refine TL.nil ?_
 refine T.seq ?_
 refine T.region ?_
 refine TL.mv (.one (.ptr 800 0)) ?_
 refine TL.mv (pI (getVar b s.f0).2.1) ?_
 refine TL.c (Step.nilCheck rfl rfl (lt_ok rfl) rfl) ?_
 refine TL.c (Step.fd 1 1 true) ?_
 refine TL.c (Step.sb 1 [cS b, cI (getVar b s.f0).2.1, cI (getVar b s.f0).2.2]) ?_
 refine TL.nil ?_
 refine T.seq ?_
 refine T.region ?_
 refine TL.mv (pI (getVar b s.f0).1) ?_
 refine TL.as (pI (getVar b s.f0).1) ?_
 refine TL.nil ?_
 refine T.ret ?_
 refine ⟨[cS b, cI (getVar b s.f0).2.1, cI (getVar b s.f0).2.2], [(false, [cI (getVar b s.f0).1])], rfl, rfl, (.cons rfl .nil), rfl, [], (RetC.r rfl (RetC.r ?_ (RetC.r ?_ (RetC.r ?_ .nil))))⟩ <;> (first | rfl | (congr 1; unfold rdNum; first | (rw [if_pos (by omega)]; done) | (rw [if_neg (by omega)]; done)) | (simp only [D.size]; unfold rdNum; rw [if_neg (by omega)]; rfl))
theorem ok_spec_l01Copy (a : List Int) (h0_ : a.length ≤ 17592186044416) : RO Try.prog 160 [.one (.ints .u8 a)] [(false, [.own 5 (.ints .u8 a)])] := by
 refine RO.intro Try.func160 rfl 6 rfl (le_ok rfl) fun w Z => ?_
 refine T.bnd 0 0 rfl rfl fun hb_0_0 => ?_
 simp only [D.size, List.length_map] at hb_0_0
 refine T.seq ?_
 refine T.region ?_
 refine TL.as (.one (.nil)) ?_
 refine TL.nil ?_
 refine T.seq ?_
 refine T.region ?_
 refine TL.c (Step.lit (e := 5) (z := 1) (by_ := 1) (xs := []) (pss := []) (es := []) (ss := []) (d := (.ints .u8 [])) rfl rfl (lt_ok rfl) (by kernel_rfl) rfl rfl .nil (by simp) (le_ok rfl) (le_ok rfl) rfl .nil rfl (by simp) (by simp) rfl trivial rfl rfl) ?_
 refine TL.mv (pS a) ?_
 refine TL.c (Step.append (e := 5) (z := 1) (by_ := 1) (d := (.ints .u8 [])) (dy := (.ints .u8 a)) (d' := (.ints .u8 ([] ++ a))) (ss := []) rfl rfl (lt_ok rfl) (by kernel_rfl) rfl rfl rfl (lt_ok rfl) rfl (.froz rfl (by simp [D.flat, D.val])) (by simp) rfl (by simp only [D.size, List.length_map]; first | omega | (simp only [List.length_append, List.length_cons, List.length_nil]; omega) | (simp; omega) | (simp only [List.length_append] at *; omega)) (by simp only [D.size, List.length_map]; first | omega | (simp only [List.length_append, List.length_cons, List.length_nil]; omega) | (simp; omega) | (simp only [List.length_append] at *; omega)) (by simp)) ?_
 refine TL.as (.one (.row 3 [])) ?_
 refine TL.nil ?_
 refine T.ret ?_
 refine ⟨[(false, [.row 3 []])], (.cons rfl .nil), rfl, [3], (RetC.o ?_ .nil)⟩ <;> (rfl)
theorem ok_spec_GetRaw (b : List Int) (a : Int) (n : Int) (h0_ : b.length ≤ 1099511627776) : RO Try.prog 176 [.one (.ints .u8 b), .one (.int .i64 a), .one (.int .i64 n)] [(false, [.own 5 (.ints .u8 (getRaw b a n).1)]), (false, [.rd (.int .i64 (getRaw b a n).2.1)]), (false, [.rd (.int .i64 (getRaw b a n).2.2)])] := by
 refine RO.intro Try.func176 rfl 39 rfl (le_ok rfl) fun w Z => ?_
 refine T.bnd 0 0 rfl rfl fun hb_0_0 => ?_
 simp only [D.size, List.length_map] at hb_0_0
 refine T.seq ?_
 refine T.region ?_
 refine TL.as (.one (.nil)) ?_
 refine TL.as (pI 0) ?_
 refine TL.as (pI 0) ?_
 refine TL.nil ?_
 refine T.seq ?_
 refine T.seq ?_
 refine T.region ?_
 refine TL.mv (pI a) ?_
 refine TL.b _ (Bin.lss (k := .i64) (a := a) (b := 0)) ?_
 refine TL.mv (pB (decide (a < 0))) ?_
 rcases Bool.eq_false_or_eq_true (decide (a < 0)) with hb1 | hb1
 ·
  refine TL.known 11 hb1 rfl ?_
  have hb1' := hb1
  replace hb1' := of_decide_eq_true hb1'
  refine TL.gf 11 ?_
  refine TL.gf 11 ?_
  refine TL.pk true (pB true) ?_
  refine TL.mv (pB true) ?_
  refine TL.gf 15 ?_
  refine TL.gf 15 ?_
  refine TL.gf 15 ?_
  refine TL.gf 15 ?_
  refine TL.pk true (pB true) ?_
  refine TL.mv (pB true) ?_
  refine TL.gf 21 ?_
  refine TL.gf 21 ?_
  refine TL.gf 21 ?_
  refine TL.gf 21 ?_
  refine TL.gf 21 ?_
  refine TL.gf 21 ?_
  refine TL.pk true (pB true) ?_
  refine TL.nil ?_
  refine T.ct ?_
  refine T.seq ?_
  refine T.region ?_
  refine TL.as (.one (.nil)) ?_
  refine TL.as (pI 0) ?_
  refine TL.as (pI 1) ?_
  refine TL.nil ?_
  refine T.ret ?_
  refine ⟨[(false, [.nil]), (false, [cI 0]), (false, [cI 1])], (.cons rfl (.cons rfl (.cons rfl .nil))), rfl, [], (RetC.nn ?_ (RetC.r ?_ (RetC.r ?_ .nil)))⟩ <;> (first | (congr 1; unfold getRaw; first | (rw [if_pos (by omega)]; done) | (rw [if_neg (by omega)]; done)) | (simp only [D.size]; unfold getRaw; rw [if_neg (by omega)]; rfl))
 refine TL.known 11 hb1 rfl ?_
 have hb1' := hb1
 replace hb1' := of_decide_eq_false hb1'
 refine TL.gm 11 (pI n) ?_
 refine TL.gy 11 (Step.bin rfl rfl (lt_ok rfl) rfl rfl (Bin.lss (k := .i64) (a := n) (b := 0))) ?_
 refine TL.pk false (pB (decide (n < 0))) ?_
 refine TL.mv (pB (decide (n < 0))) ?_
 rcases Bool.eq_false_or_eq_true (decide (n < 0)) with hb2 | hb2
 ·
  refine TL.known 15 hb2 rfl ?_
  have hb2' := hb2
  replace hb2' := of_decide_eq_true hb2'
  refine TL.gf 15 ?_
  refine TL.gf 15 ?_
  refine TL.gf 15 ?_
  refine TL.gf 15 ?_
  refine TL.pk true (pB true) ?_
  refine TL.mv (pB true) ?_
  refine TL.gf 21 ?_
  refine TL.gf 21 ?_
  refine TL.gf 21 ?_
  refine TL.gf 21 ?_
  refine TL.gf 21 ?_
  refine TL.gf 21 ?_
  refine TL.pk true (pB true) ?_
  refine TL.nil ?_
  refine T.ct ?_
  refine T.seq ?_
  refine T.region ?_
  refine TL.as (.one (.nil)) ?_
  refine TL.as (pI 0) ?_
  refine TL.as (pI 1) ?_
  refine TL.nil ?_
  refine T.ret ?_
  refine ⟨[(false, [.nil]), (false, [cI 0]), (false, [cI 1])], (.cons rfl (.cons rfl (.cons rfl .nil))), rfl, [], (RetC.nn ?_ (RetC.r ?_ (RetC.r ?_ .nil)))⟩ <;> (first | (congr 1; unfold getRaw; first | (rw [if_pos (by omega)]; done) | (rw [if_neg (by omega)]; done)) | (simp only [D.size]; unfold getRaw; rw [if_neg (by omega)]; rfl))
 refine TL.known 15 hb2 rfl ?_
 have hb2' := hb2
 replace hb2' := of_decide_eq_false hb2'
 refine TL.gm 15 (pI a) ?_
 refine TL.gm 15 (pS b) ?_
 refine TL.gy 15 (Step.len (e := 5) (z := 1) (d := (.ints .u8 b)) rfl rfl (lt_ok rfl) (by kernel_rfl) rfl rfl) ?_
 refine TL.gy 15 (Step.bin rfl rfl (lt_ok rfl) rfl rfl (Bin.gtr (k := .i64) (a := a) (b := (b.length : Int)))) ?_
 refine TL.pk false (pB (decide ((b.length : Int) < a))) ?_
 refine TL.mv (pB (decide ((b.length : Int) < a))) ?_
 rcases Bool.eq_false_or_eq_true (decide ((b.length : Int) < a)) with hb3 | hb3
 ·
  refine TL.known 21 hb3 rfl ?_
  have hb3' := hb3
  replace hb3' := of_decide_eq_true hb3'
  refine TL.gf 21 ?_
  refine TL.gf 21 ?_
  refine TL.gf 21 ?_
  refine TL.gf 21 ?_
  refine TL.gf 21 ?_
  refine TL.gf 21 ?_
  refine TL.pk true (pB true) ?_
  refine TL.nil ?_
  refine T.ct ?_
  refine T.seq ?_
  refine T.region ?_
  refine TL.as (.one (.nil)) ?_
  refine TL.as (pI 0) ?_
  refine TL.as (pI 1) ?_
  refine TL.nil ?_
  refine T.ret ?_
  refine ⟨[(false, [.nil]), (false, [cI 0]), (false, [cI 1])], (.cons rfl (.cons rfl (.cons rfl .nil))), rfl, [], (RetC.nn ?_ (RetC.r ?_ (RetC.r ?_ .nil)))⟩ <;> (first | (congr 1; unfold getRaw; first | (rw [if_pos (by omega)]; done) | (rw [if_neg (by omega)]; done)) | (simp only [D.size]; unfold getRaw; rw [if_neg (by omega)]; rfl))
 refine TL.known 21 hb3 rfl ?_
 have hb3' := hb3
 replace hb3' := of_decide_eq_false hb3'
 refine TL.gm 21 (pI n) ?_
 refine TL.gm 21 (pS b) ?_
 refine TL.gy 21 (Step.len (e := 5) (z := 1) (d := (.ints .u8 b)) rfl rfl (lt_ok rfl) (by kernel_rfl) rfl rfl) ?_
 refine TL.gm 21 (pI a) ?_
 refine TL.gy 21 (Step.bin (r := .int .i64 ((b.length : Int) - a)) rfl rfl (lt_ok rfl) rfl rfl (Bin.sub (a := (b.length : Int)) (b := a) (by first | exact wrap_ok (by first | omega | (simp only [List.length_take, List.length_drop]; omega) | (simp; omega)) (by first | omega | (simp only [List.length_take, List.length_drop]; omega) | (simp; omega)) | rfl))) ?_
 refine TL.gy 21 (Step.bin rfl rfl (lt_ok rfl) rfl rfl (Bin.gtr (k := .i64) (a := n) (b := ((b.length : Int) - a)))) ?_
 refine TL.pk false (pB (decide (((b.length : Int) - a) < n))) ?_
 refine TL.nil ?_
 refine T.ci rfl (fun h4 => ?_) (fun h4 => ?_)
 ·
  refine T.seq ?_
  refine T.region ?_
  refine TL.as (.one (.nil)) ?_
  refine TL.as (pI 0) ?_
  refine TL.as (pI 1) ?_
  refine TL.nil ?_
  refine T.ret ?_
  refine ⟨[(false, [.nil]), (false, [cI 0]), (false, [cI 1])], (.cons rfl (.cons rfl (.cons rfl .nil))), rfl, [], (RetC.nn ?_ (RetC.r ?_ (RetC.r ?_ .nil)))⟩ <;> (first | (congr 1; unfold getRaw; first | (rw [if_pos (by omega)]; done) | (rw [if_neg (by omega)]; done)) | (simp only [D.size]; unfold getRaw; rw [if_neg (by omega)]; rfl))
 refine T.skip ?_
 refine T.seq ?_
 refine T.region ?_
 refine TL.mv (pS b) ?_
 refine TL.mv (pI a) ?_
 refine TL.mv (pI a) ?_
 refine TL.mv (pI n) ?_
 refine TL.c (Step.bin (r := .int .i64 (a + n)) rfl rfl (lt_ok rfl) rfl rfl (Bin.add (a := a) (b := n) (by first | exact wrap_ok (by first | omega | (simp only [List.length_take, List.length_drop]; omega) | (simp; omega)) (by first | omega | (simp only [List.length_take, List.length_drop]; omega) | (simp; omega)) | rfl))) ?_
 refine TL.c (Step.slice (e := 5) (z := 1) (l := (a).toNat) (h := (a + n).toNat) rfl rfl (lt_ok rfl) (by kernel_rfl) rfl rfl rfl ((.some (i := a) rfl (by first | omega | (simp only [List.length_take, List.length_drop]; omega) | (simp; omega)))) ((.some (i := (a + n)) rfl (by first | omega | (simp only [List.length_take, List.length_drop]; omega) | (simp; omega)))) (by first | omega | (simp only [List.length_take, List.length_drop]; omega) | (simp; omega)) (by simp only [D.size]; first | omega | (simp only [List.length_take, List.length_drop]; omega) | (simp; omega)) rfl) ?_
 refine TL.c (Step.cl (xs := [.tmp 34]) (ps := [(pS ((b.drop (a).toNat).take ((a + n).toNat - (a).toNat)))]) (g := .func 160) false (.cons (.one (.d _)) .nil) (ok_spec_l01Copy ((b.drop (a).toNat).take ((a + n).toNat - (a).toNat)) (by first | omega | assumption | (simp only [List.length_take, List.length_drop]; omega)))) ?_
 refine TL.mv (pI a) ?_
 refine TL.mv (pI n) ?_
 refine TL.c (Step.bin (r := .int .i64 (a + n)) rfl rfl (lt_ok rfl) rfl rfl (Bin.add (a := a) (b := n) (by first | exact wrap_ok (by first | omega | (simp only [List.length_take, List.length_drop]; omega) | (simp; omega)) (by first | omega | (simp only [List.length_take, List.length_drop]; omega) | (simp; omega)) | rfl))) ?_
 refine TL.as (.one (.row 1035 [])) ?_
 refine TL.as (pI (a + n)) ?_
 refine TL.as (pI 0) ?_
 refine TL.nil ?_
 refine T.ret ?_
 refine ⟨[(false, [.row 1035 []]), (false, [cI (a + n)]), (false, [cI 0])], (.cons rfl (.cons rfl (.cons rfl .nil))), rfl, [1035], (RetC.o ?_ (RetC.r ?_ (RetC.r ?_ .nil)))⟩ <;> (first | (congr 1; unfold getRaw; first | (rw [if_pos (by omega)]; done) | (rw [if_neg (by omega)]; done)) | (simp only [D.size]; unfold getRaw; rw [if_neg (by omega)]; rfl))
theorem ok_spec_l11Raw (b : List Int) (s : SRS) (h0_ : U8s b) (h1_ : b.length ≤ 1048576) : BX Try.prog 132 [.bx] 110 [.rd (.ints .u8 b), .rd (.int .i64 s.f0), .rd (.int .i64 s.f1)] [.rd (.ints .u8 b), .rd (.int .i64 (rdRaw b s 32).1.f0), .rd (.int .i64 (rdRaw b s 32).1.f1)] [(false, [.own 5 (.ints .u8 (rdRaw b s 32).2)])] := by
 refine BX.intro Try.func132 rfl 33 rfl (le_ok rfl) (le_ok rfl) fun w Z IX pin hp => ?_
 refine T.seq ?_
 refine T.region ?_
 refine TL.as (.one (.nil)) ?_
 refine TL.nil ?_
 refine T.seq ?_
 refine T.seq ?_
 refine T.region ?_
 refine TL.mv (.one (.ptr 800 0)) ?_
 refine TL.c (Step.nilCheck rfl rfl (lt_ok rfl) rfl) ?_
 refine TL.c (Step.fd 2 1 true) ?_
 refine TL.c (Step.lb (.d (.int .i64 s.f1))) ?_
 refine TL.b _ (Bin.neq (k := .i64) (a := s.f1) (b := 0)) ?_
 refine TL.nil ?_
 refine T.ci rfl (fun h1 => ?_) (fun h1 => ?_)
 ·
  refine T.seq ?_
  refine T.region ?_
  refine TL.as (.one (.nil)) ?_
  refine TL.nil ?_
  refine T.ret ?_
  refine ⟨[cS b, cI s.f0, cI s.f1], [(false, [.nil])], rfl, rfl, (.cons rfl .nil), rfl, [], (RetC.r rfl (RetC.r ?_ (RetC.r ?_ (RetC.nn ?_ .nil))))⟩ <;> (first | rfl | (congr 1; unfold rdRaw; first | (rw [if_pos (by omega)]; done) | (rw [if_neg (by omega)]; done)) | (simp only [D.size]; unfold rdRaw; rw [if_neg (by omega)]; rfl))
 refine T.skip ?_
 refine T.seq ?_
 have nn2 := getRaw_bd b s.f0 32
 refine T.draw [⟨12, (.one (.ptr 800 0)), []⟩, ⟨13, (.one (.ptr 800 0)), []⟩, ⟨14, (.one (.ptr 800 0)), []⟩, ⟨15, (pS b), []⟩, ⟨16, (.one (.ptr 800 0)), []⟩, ⟨17, (.one (.ptr 800 0)), []⟩, ⟨18, (.one (.ptr 800 1)), []⟩, ⟨19, (pI s.f0), []⟩, ⟨20, (.tup [(false, [.row 1020 []]), (false, [cI (getRaw b s.f0 32).2.1]), (false, [cI (getRaw b s.f0 32).2.2])]), [(1020, (5, (.ints .u8 (getRaw b s.f0 32).1)))]⟩, ⟨11, (.tup [(false, [.row 1020 []]), (false, [cI (getRaw b s.f0 32).2.1]), (false, [cI (getRaw b s.f0 32).2.2])]), []⟩, ⟨21, (.one (.row 1020 [])), []⟩, ⟨22, (pI (getRaw b s.f0 32).2.1), []⟩, ⟨23, (pI (getRaw b s.f0 32).2.2), []⟩, ⟨3, (.one (.row 1020 [])), []⟩, ⟨4, (pI (getRaw b s.f0 32).2.1), []⟩, ⟨5, (pI (getRaw b s.f0 32).2.2), []⟩] (by kernel_rfl) (by kernel_rfl) ?_ ?_
 ·
  refine .cons (fun E A => A.mv 0 12) ?_
  refine .cons (fun E A => OpStep.plain rfl (Step.nilCheck (t := 13) rfl rfl (by exact lt_ok rfl) (A.g 12 rfl))) ?_
  refine .cons (fun E A => OpStep.plain rfl (Step.fa (off := 0) (n := 1) (one := true) 0 14 (A.g 13 rfl))) ?_
  refine .cons (fun E A => OpStep.plain rfl (Step.load_box (c := cS b) (t := 15) rfl rfl (by exact lt_ok rfl) (by kernel_rfl) (A.g 14 rfl) (by exact A.box rfl) rfl)) ?_
  refine .cons (fun E A => A.mv 0 16) ?_
  refine .cons (fun E A => OpStep.plain rfl (Step.nilCheck (t := 17) rfl rfl (by exact lt_ok rfl) (A.g 16 rfl))) ?_
  refine .cons (fun E A => OpStep.plain rfl (Step.fa (off := 1) (n := 1) (one := true) 0 18 (A.g 17 rfl))) ?_
  refine .cons (fun E A => OpStep.plain rfl (Step.load_box (c := cI s.f0) (t := 19) rfl rfl (by exact lt_ok rfl) (by kernel_rfl) (A.g 18 rfl) (by exact A.box rfl) rfl)) ?_
  refine .cons (fun E A => OpStep.plain rfl (Step.call (f := 176) (xs := [.tmp 15, .tmp 19, .const (.int .i64 32)]) (ps := [(pS b), (pI s.f0), (pI 32)]) false (g := .func 176) (t := 20) rfl rfl (by exact lt_ok rfl) rfl (by kernel_rfl) (evs_cons (A.g 15 rfl) (evs_cons (A.g 19 rfl) (evs_cons rfl (rfl)))) (.cons (.one (.d _)) (.cons (.one (.d _)) (.cons (.one (.d _)) .nil))) (ok_spec_GetRaw b s.f0 32 (by first | omega | assumption | (simp only [List.length_append] at *; omega))) (.inr rfl) (At.freshRows A rfl) (fun x hx => by have := hp x hx; omega) rfl)) ?_
  refine .cons (fun E A => A.mv 20 11) ?_
  refine .cons (fun E A => OpStep.plain rfl (Step.extract (p := (.one (.row 1020 []))) (t := 21) rfl rfl (by exact lt_ok rfl) (A.g 11 rfl) rfl)) ?_
  refine .cons (fun E A => OpStep.plain rfl (Step.extract (p := (pI (getRaw b s.f0 32).2.1)) (t := 22) rfl rfl (by exact lt_ok rfl) (A.g 11 rfl) rfl)) ?_
  refine .cons (fun E A => OpStep.plain rfl (Step.extract (p := (pI (getRaw b s.f0 32).2.2)) (t := 23) rfl rfl (by exact lt_ok rfl) (A.g 11 rfl) rfl)) ?_
  refine .cons (fun E A => A.as 21 3) ?_
  refine .cons (fun E A => A.as 22 4) ?_
  refine .cons (fun E A => A.as 23 5) ?_
  exact .nil _ _
 refine TL.nil ?_
 refine T.seq ?_
 refine T.region ?_
 refine TL.mv (.one (.ptr 800 0)) ?_
 refine TL.mv (pI (getRaw b s.f0 32).2.2) ?_
 refine TL.c (Step.nilCheck rfl rfl (lt_ok rfl) rfl) ?_
 refine TL.c (Step.fd 2 1 true) ?_
 refine TL.c (Step.sb 1 [cS b, cI s.f0, cI (getRaw b s.f0 32).2.2]) ?_
 refine TL.nil ?_
 refine T.seq ?_
 refine T.region ?_
 refine TL.mv (.one (.ptr 800 0)) ?_
 refine TL.mv (pI (getRaw b s.f0 32).2.1) ?_
 refine TL.c (Step.nilCheck rfl rfl (lt_ok rfl) rfl) ?_
 refine TL.c (Step.fd 1 1 true) ?_
 refine TL.c (Step.sb 1 [cS b, cI (getRaw b s.f0 32).2.1, cI (getRaw b s.f0 32).2.2]) ?_
 refine TL.nil ?_
 refine T.seq ?_
 refine T.region ?_
 refine TL.mv (.one (.row 1020 [])) ?_
 refine TL.as (.one (.row 1020 [])) ?_
 refine TL.nil ?_
 refine T.ret ?_
 refine ⟨[cS b, cI (getRaw b s.f0 32).2.1, cI (getRaw b s.f0 32).2.2], [(false, [.row 1020 []])], rfl, rfl, (.cons rfl .nil), rfl, [1020], (RetC.r rfl (RetC.r ?_ (RetC.r ?_ (RetC.o ?_ .nil))))⟩ <;> (first | rfl | (congr 1; unfold rdRaw; first | (rw [if_pos (by omega)]; done) | (rw [if_neg (by omega)]; done)) | (simp only [D.size]; unfold rdRaw; rw [if_neg (by omega)]; rfl))
theorem ok_spec_BitsSize (n : Int) (h0_ : n ≤ 9223372036854775807) : RO Try.prog 177 [.one (.int .i64 n)] [(false, [.rd (.int .i64 (bitsSize n))])] := by
 refine RO.intro Try.func177 rfl 9 rfl (le_ok rfl) fun w Z => ?_
 refine T.seq ?_
 refine T.region ?_
 refine TL.as (pI 0) ?_
 refine TL.nil ?_
 refine T.seq ?_
 refine T.seq ?_
 refine T.region ?_
 refine TL.mv (pI n) ?_
 refine TL.b _ (Bin.lss (k := .i64) (a := n) (b := 1)) ?_
 refine TL.nil ?_
 refine T.ci rfl (fun h1 => ?_) (fun h1 => ?_)
 ·
  refine T.seq ?_
  refine T.region ?_
  refine TL.as (pI 0) ?_
  refine TL.nil ?_
  refine T.ret ?_
  refine ⟨[(false, [cI 0])], (.cons rfl .nil), rfl, [], (RetC.r ?_ .nil)⟩ <;> ((congr 1; unfold bitsSize; first | rw [if_pos (by omega)] | (rw [if_neg (by omega)]; done) | (rw [if_neg (by omega)]; omega)))
 refine T.skip ?_
 refine T.seq ?_
 refine T.region ?_
 refine TL.mv (pI n) ?_
 refine TL.c (Step.bin (r := .int .i64 (n - 1)) rfl rfl (lt_ok rfl) rfl rfl (Bin.sub (a := n) (b := 1) (by first | exact wrap_ok (by first | omega | (simp; omega)) (by first | omega | (simp; omega)) | rfl))) ?_
 refine TL.c (Step.bin (r := .int .i64 ((n - 1) / 8)) rfl rfl (lt_ok rfl) rfl rfl (Bin.quo (k := .i64) (a := (n - 1)) (b := 8) (by decide) (by rw [Int.tdiv_eq_ediv_of_nonneg (by first | omega | (simp; omega))]; exact wrap_ok (by first | omega | (simp; omega)) (by first | omega | (simp; omega))))) ?_
 refine TL.c (Step.bin (r := .int .i64 (((n - 1) / 8) + 1)) rfl rfl (lt_ok rfl) rfl rfl (Bin.add (a := ((n - 1) / 8)) (b := 1) (by first | exact wrap_ok (by first | omega | (simp; omega)) (by first | omega | (simp; omega)) | rfl))) ?_
 refine TL.as (pI (((n - 1) / 8) + 1)) ?_
 refine TL.nil ?_
 refine T.ret ?_
 refine ⟨[(false, [cI (((n - 1) / 8) + 1)])], (.cons rfl .nil), rfl, [], (RetC.r ?_ .nil)⟩ <;> ((congr 1; unfold bitsSize; first | rw [if_pos (by omega)] | (rw [if_neg (by omega)]; done) | (rw [if_neg (by omega)]; omega)))
theorem ok_spec_BitsHas (b : List Int) (i : Int) (h0_ : U8s b) (h1_ : b.length ≤ 17592186044416) (h2_ : i ≤ 9223372036854775807) : RO Try.prog 195 [.one (.ints .u8 b), .one (.int .i64 i)] [(false, [.rd (.bool (bitHas b i))])] := by
 refine RO.intro Try.func195 rfl 27 rfl (le_ok rfl) fun w Z => ?_
 refine T.bnd 0 0 rfl rfl fun hb_0_0 => ?_
 simp only [D.size, List.length_map] at hb_0_0
 have hu_ := getD_u8 h0_ (i / 8).toNat
 have hp_ := div_pow_bd hu_.1 hu_.2 (i % 8).toNat
 refine T.seq ?_
 refine T.region ?_
 refine TL.as (pB false) ?_
 refine TL.nil ?_
 refine T.seq ?_
 refine T.region ?_
 refine TL.mv (pI i) ?_
 refine TL.b _ (Bin.geq (k := .i64) (a := i) (b := 0)) ?_
 refine TL.mv (pB (decide (0 ≤ i))) ?_
 rcases Bool.eq_false_or_eq_true (decide (0 ≤ i)) with hb1 | hb1
 ·
  refine TL.known 7 hb1 rfl ?_
  have hb1' := hb1
  replace hb1' := of_decide_eq_true hb1'
  refine TL.gm 7 (pI i) ?_
  refine TL.gy 7 (Step.bin (r := .int .i64 (i / 8)) rfl rfl (lt_ok rfl) rfl rfl (Bin.quo (k := .i64) (a := i) (b := 8) (by decide) (by rw [Int.tdiv_eq_ediv_of_nonneg (by first | omega | exact hp_.1 | exact hp_.2 | (simp; omega))]; exact wrap_ok (by first | omega | exact hp_.1 | exact hp_.2 | (simp; omega)) (by first | omega | exact hp_.1 | exact hp_.2 | (simp; omega))))) ?_
  refine TL.gm 7 (pS b) ?_
  refine TL.gy 7 (Step.len (e := 5) (z := 1) (d := (.ints .u8 b)) rfl rfl (lt_ok rfl) (by kernel_rfl) rfl rfl) ?_
  refine TL.gy 7 (Step.bin rfl rfl (lt_ok rfl) rfl rfl (Bin.lss (k := .i64) (a := (i / 8)) (b := (b.length : Int)))) ?_
  refine TL.pk true (pB (decide ((i / 8) < (b.length : Int)))) ?_
  refine TL.mv (pB (decide ((i / 8) < (b.length : Int)))) ?_
  rcases Bool.eq_false_or_eq_true (decide ((i / 8) < (b.length : Int))) with hb2 | hb2
  ·
   refine TL.known 14 hb2 rfl ?_
   have hb2' := hb2
   replace hb2' := of_decide_eq_true hb2'
   refine TL.gm 14 (pS b) ?_
   refine TL.gm 14 (pI i) ?_
   refine TL.gy 14 (Step.bin (r := .int .i64 (i / 8)) rfl rfl (lt_ok rfl) rfl rfl (Bin.quo (k := .i64) (a := i) (b := 8) (by decide) (by rw [Int.tdiv_eq_ediv_of_nonneg (by first | omega | exact hp_.1 | exact hp_.2 | (simp; omega))]; exact wrap_ok (by first | omega | exact hp_.1 | exact hp_.2 | (simp; omega)) (by first | omega | exact hp_.1 | exact hp_.2 | (simp; omega))))) ?_
   refine TL.gy 14 (Step.index (e := 5) (z := 1) (i := (i / 8)) rfl rfl (lt_ok rfl) (by kernel_rfl) rfl rfl rfl (lt_ok rfl) rfl (by first | omega | exact hp_.1 | exact hp_.2 | (simp; omega)) (by simp only [D.size]; first | omega | exact hp_.1 | exact hp_.2 | (simp; omega))) ?_
   refine TL.gy 14 (Step.load (e := (.int .u8 (b.getD (i / 8).toNat 0))) rfl rfl (lt_ok rfl) (by kernel_rfl) rfl rfl) ?_
   refine TL.gy 14 (Step.conv (c := (b.getD (i / 8).toNat 0)) rfl rfl (lt_ok rfl) (by kernel_rfl) (by kernel_rfl) rfl (wrap_ok (by first | omega | exact hp_.1 | exact hp_.2 | (simp; omega)) (by first | omega | exact hp_.1 | exact hp_.2 | (simp; omega)))) ?_
   refine TL.gm 14 (pI i) ?_
   refine TL.gy 14 (Step.bin (r := .int .i64 (i % 8)) rfl rfl (lt_ok rfl) rfl rfl (Bin.rem (k := .i64) (a := i) (b := 8) (by decide) (Int.tmod_eq_emod_of_nonneg (by first | omega | exact hp_.1 | exact hp_.2 | (simp; omega))))) ?_
   refine TL.gy 14 (Step.bin (r := .int .i64 ((b.getD (i / 8).toNat 0) / 2 ^ ((i % 8)).toNat)) rfl rfl (lt_ok rfl) rfl rfl (Bin.shr (k := .i64) (k' := .i64) (a := (b.getD (i / 8).toNat 0)) (b := (i % 8)) (by first | omega | exact hp_.1 | exact hp_.2 | (simp; omega)) (shr_ok (by first | omega | exact hp_.1 | exact hp_.2 | (simp; omega)) (by show _ < ((64 : Nat) : Int); first | omega | exact hp_.1 | exact hp_.2 | (simp; omega))))) ?_
   refine TL.gy 14 (Step.bin (r := .int .i64 (((b.getD (i / 8).toNat 0) / 2 ^ ((i % 8)).toNat) % 2)) rfl rfl (lt_ok rfl) rfl rfl (Bin.rem (k := .i64) (a := ((b.getD (i / 8).toNat 0) / 2 ^ ((i % 8)).toNat)) (b := 2) (by decide) (Int.tmod_eq_emod_of_nonneg (by first | omega | exact hp_.1 | exact hp_.2 | (simp; omega))))) ?_
   refine TL.gy 14 (Step.bin rfl rfl (lt_ok rfl) rfl rfl (Bin.eql (k := .i64) (a := (((b.getD (i / 8).toNat 0) / 2 ^ ((i % 8)).toNat) % 2)) (b := 1))) ?_
   refine TL.pk true (pB (decide ((((b.getD (i / 8).toNat 0) / 2 ^ ((i % 8)).toNat) % 2) = 1))) ?_
   refine TL.as (pB (decide ((((b.getD (i / 8).toNat 0) / 2 ^ ((i % 8)).toNat) % 2) = 1))) ?_
   refine TL.nil ?_
   refine T.ret ?_
   refine ⟨[(false, [.d (.bool (decide ((((b.getD (i / 8).toNat 0) / 2 ^ ((i % 8)).toNat) % 2) = 1)))])], (.cons rfl .nil), rfl, [], (RetC.r ?_ .nil)⟩ <;> ((congr 1; symm; unfold bitHas; first | (rw [decide_eq_false (p := 0 ≤ i) (by omega)]; rfl) | (rw [decide_eq_true (p := 0 ≤ i) (by omega), decide_eq_false (p := i / 8 < (b.length : Int)) (by omega)]; rfl) | (rw [decide_eq_true (p := 0 ≤ i) (by omega), decide_eq_true (p := i / 8 < (b.length : Int)) (by omega)]; rfl) | (by_cases hi_ : 0 ≤ i; (rw [decide_eq_true (p := 0 ≤ i) (by omega), decide_eq_false (p := i / 8 < (b.length : Int)) (by omega)]; rfl); (rw [decide_eq_false (p := 0 ≤ i) hi_]; rfl))))
  refine TL.known 14 hb2 rfl ?_
  have hb2' := hb2
  replace hb2' := of_decide_eq_false hb2'
  refine TL.gf 14 ?_
  refine TL.gf 14 ?_
  refine TL.gf 14 ?_
  refine TL.gf 14 ?_
  refine TL.gf 14 ?_
  refine TL.gf 14 ?_
  refine TL.gf 14 ?_
  refine TL.gf 14 ?_
  refine TL.gf 14 ?_
  refine TL.gf 14 ?_
  refine TL.gf 14 ?_
  refine TL.pk false (pB false) ?_
  refine TL.as (pB false) ?_
  refine TL.nil ?_
  refine T.ret ?_
  refine ⟨[(false, [.d (.bool false)])], (.cons rfl .nil), rfl, [], (RetC.r ?_ .nil)⟩ <;> ((congr 1; symm; unfold bitHas; first | (rw [decide_eq_false (p := 0 ≤ i) (by omega)]; rfl) | (rw [decide_eq_true (p := 0 ≤ i) (by omega), decide_eq_false (p := i / 8 < (b.length : Int)) (by omega)]; rfl) | (rw [decide_eq_true (p := 0 ≤ i) (by omega), decide_eq_true (p := i / 8 < (b.length : Int)) (by omega)]; rfl) | (by_cases hi_ : 0 ≤ i; (rw [decide_eq_true (p := 0 ≤ i) (by omega), decide_eq_false (p := i / 8 < (b.length : Int)) (by omega)]; rfl); (rw [decide_eq_false (p := 0 ≤ i) hi_]; rfl))))
 refine TL.known 7 hb1 rfl ?_
 have hb1' := hb1
 replace hb1' := of_decide_eq_false hb1'
 refine TL.gf 7 ?_
 refine TL.gf 7 ?_
 refine TL.gf 7 ?_
 refine TL.gf 7 ?_
 refine TL.gf 7 ?_
 refine TL.pk false (pB false) ?_
 refine TL.mv (pB false) ?_
 refine TL.gf 14 ?_
 refine TL.gf 14 ?_
 refine TL.gf 14 ?_
 refine TL.gf 14 ?_
 refine TL.gf 14 ?_
 refine TL.gf 14 ?_
 refine TL.gf 14 ?_
 refine TL.gf 14 ?_
 refine TL.gf 14 ?_
 refine TL.gf 14 ?_
 refine TL.gf 14 ?_
 refine TL.pk false (pB false) ?_
 refine TL.as (pB false) ?_
 refine TL.nil ?_
 refine T.ret ?_
 refine ⟨[(false, [.d (.bool false)])], (.cons rfl .nil), rfl, [], (RetC.r ?_ .nil)⟩ <;> ((congr 1; symm; unfold bitHas; first | (rw [decide_eq_false (p := 0 ≤ i) (by omega)]; rfl) | (rw [decide_eq_true (p := 0 ≤ i) (by omega), decide_eq_false (p := i / 8 < (b.length : Int)) (by omega)]; rfl) | (rw [decide_eq_true (p := 0 ≤ i) (by omega), decide_eq_true (p := i / 8 < (b.length : Int)) (by omega)]; rfl) | (by_cases hi_ : 0 ≤ i; (rw [decide_eq_true (p := 0 ≤ i) (by omega), decide_eq_false (p := i / 8 < (b.length : Int)) (by omega)]; rfl); (rw [decide_eq_false (p := 0 ≤ i) hi_]; rfl))))
theorem ok_spec_BitsList (b : List Int) (h0_ : U8s b) (h1_ : b.length ≤ 1099511627776) : RO Try.prog 178 [.one (.ints .u8 b)] [(false, [.own 3 (.ints .i64 (bitList b))])] := by
 refine RO.intro Try.func178 rfl 21 rfl (le_ok rfl) fun w Z => ?_
 refine T.bnd 0 0 rfl rfl fun hb_0_0 => ?_
 simp only [D.size, List.length_map] at hb_0_0
 refine T.seq ?_
 refine T.region ?_
 refine TL.as (.one (.nil)) ?_
 refine TL.nil ?_
 refine T.seq ?_
 refine T.region ?_
 refine TL.c (Step.lit (e := 3) (z := 1) (by_ := 8) (xs := []) (pss := []) (es := []) (ss := []) (d := (.ints .i64 [])) rfl rfl (lt_ok rfl) (by kernel_rfl) rfl rfl .nil (by simp) (le_ok rfl) (le_ok rfl) rfl .nil rfl (by simp) (by simp) rfl trivial rfl rfl) ?_
 refine TL.as (.one (.row 5 [])) ?_
 refine TL.nil ?_
 refine T.seq ?_
 refine T.seq ?_
 refine T.region ?_
 refine TL.as (pI 0) ?_
 refine TL.nil ?_
 refine T.block ?_
 refine T.loop (ι := Nat × (List Int)) (fun xx_ => { tm := [(0, (pS b)), (2, (.one (.nil))), (4, (pI ((xx_.1) : Int))), (3, (.one (.row 5 [])))], rows := [(5, (3, (.ints .i64 (xx_.2))))], boxes := [] }) (fun xx_ => (xx_.1) ≤ 8 * b.length ∧ (xx_.2) ++ bitsGo b (8 * b.length - (xx_.1)) (xx_.1) = bitList b ∧ (xx_.2).length ≤ (xx_.1)) (fun xx_ => 8 * b.length - (xx_.1)) (0, []) ?_ ?_ ?_
 · refine Env.le_mk ⟨rfl, rfl, ?_, rfl, trivial⟩ ⟨?_, trivial⟩ trivial <;> (first | rfl | (refine congrArg (fun x => some (_, D.ints .i64 x)) ?_; rfl) | (refine congrArg (fun n => PV.one (.d (.int .i64 n))) ?_; first | omega | (simp; done)))
 · (dsimp only; refine ⟨Nat.zero_le _, rfl, Nat.zero_le _⟩)
 intro xx_ hx
 obtain ⟨i, o⟩ := xx_
 try dsimp only at hx ⊢
 obtain ⟨hx1, hx2, hx3⟩ := hx
 refine T.seq ?_
 refine T.seq ?_
 refine T.region ?_
 refine TL.mv (pI (i : Int)) ?_
 refine TL.mv (pS b) ?_
 refine TL.c (Step.len (e := 5) (z := 1) (d := (.ints .u8 b)) rfl rfl (lt_ok rfl) (by kernel_rfl) rfl rfl) ?_
 refine TL.c (Step.bin (r := .int .i64 (8 * (b.length : Int))) rfl rfl (lt_ok rfl) rfl rfl (Bin.mul (a := 8) (b := (b.length : Int)) (by first | exact wrap_ok (by first | omega | (simp; omega)) (by first | omega | (simp; omega)) | rfl))) ?_
 refine TL.b _ (Bin.lss (k := .i64) (a := (i : Int)) (b := (8 * (b.length : Int)))) ?_
 refine TL.nil ?_
 refine T.ci rfl (fun h1 => ?_) (fun h1 => ?_)
 ·
  refine T.skip ?_
  refine T.seq ?_
  refine T.block ?_
  refine T.seq ?_
  refine T.region ?_
  refine TL.mv (pS b) ?_
  refine TL.mv (pI (i : Int)) ?_
  refine TL.c (Step.cl (xs := [.tmp 13, .tmp 14]) (ps := [(pS b), (pI (i : Int))]) (g := .func 195) false (.cons (.one (.d _)) (.cons (.one (.d _)) .nil)) (ok_spec_BitsHas b (i : Int) (by assumption) (by first | omega | assumption | (simp only [List.length_append] at *; omega)) (by first | omega | (have := hn_ (by first | assumption | simpa using ‹(!bitsOk b n) = false›); omega)))) ?_
  refine TL.nil ?_
  refine T.cond (b := bitHas b (i : Int)) rfl (fun h2 => ?_) (fun h2 => ?_)
  ·
   refine T.region ?_
   refine TL.mv (.one (.row 5 [])) ?_
   refine TL.mv (pI (i : Int)) ?_
   refine TL.c (Step.lit (e := 3) (z := 1) (by_ := 8) (xs := [.tmp 17]) (pss := [[cI (i : Int)]]) (es := [(.int .i64 (i : Int))]) (ss := []) (d := (.ints .i64 [(i : Int)])) rfl rfl (lt_ok rfl) (by kernel_rfl) rfl rfl (.cons rfl .nil) (by simp) (le_ok rfl) (le_ok rfl) rfl (.val rfl .nil) rfl (by simp) (by simp) rfl trivial rfl rfl) ?_
   refine TL.c (Step.append (e := 3) (z := 1) (by_ := 8) (d := (.ints .i64 o)) (dy := (.ints .i64 [(i : Int)])) (d' := (.ints .i64 (o ++ [(i : Int)]))) (ss := []) rfl rfl (lt_ok rfl) (by kernel_rfl) rfl rfl rfl (lt_ok rfl) rfl (.copy rfl rfl rfl (by simp [D.flat, D.val])) (by simp) rfl (by simp only [D.size, List.length_map]; first | omega | (simp only [List.length_append, List.length_cons, List.length_nil]; omega) | (simp; omega) | (simp only [List.length_append] at *; omega)) (by simp only [D.size, List.length_map]; first | omega | (simp only [List.length_append, List.length_cons, List.length_nil]; omega) | (simp; omega) | (simp only [List.length_append] at *; omega)) (by simp)) ?_
   refine TL.as (.one (.row 5 [])) ?_
   refine TL.nil ?_
   refine T.region ?_
   refine TL.mv (pI (i : Int)) ?_
   refine TL.c (Step.bin (r := .int .i64 ((i : Int) + 1)) rfl rfl (lt_ok rfl) rfl rfl (Bin.add (a := (i : Int)) (b := 1) (by first | exact wrap_ok (by first | omega | (simp; omega)) (by first | omega | (simp; omega)) | rfl))) ?_
   refine TL.as (pI ((i : Int) + 1)) ?_
   refine TL.nil ?_
   refine ⟨(i + 1, o ++ [(i : Int)]), by (refine ⟨by omega, ?_, by simp only [List.length_append, List.length_cons, List.length_nil]; omega⟩; rw [← hx2, bitsGo_next b (n := 8 * b.length) (i := i) (by omega)]; first | (rw [if_pos (by assumption)]; simp only [List.append_assoc]; done) | (rw [if_neg (by simp [*])]; rfl)), by (dsimp only; omega), Env.le_mk ⟨rfl, rfl, ?_, rfl, trivial⟩ ⟨?_, trivial⟩ trivial⟩ <;> (first | rfl | (refine congrArg (fun x => some (_, D.ints .i64 x)) ?_; rfl) | (refine congrArg (fun n => PV.one (.d (.int .i64 n))) ?_; first | omega | (simp; done)))
  refine T.skip ?_
  refine T.region ?_
  refine TL.mv (pI (i : Int)) ?_
  refine TL.c (Step.bin (r := .int .i64 ((i : Int) + 1)) rfl rfl (lt_ok rfl) rfl rfl (Bin.add (a := (i : Int)) (b := 1) (by first | exact wrap_ok (by first | omega | (simp; omega)) (by first | omega | (simp; omega)) | rfl))) ?_
  refine TL.as (pI ((i : Int) + 1)) ?_
  refine TL.nil ?_
  refine ⟨(i + 1, o), by (refine ⟨by omega, ?_, by simp only [List.length_append, List.length_cons, List.length_nil]; omega⟩; rw [← hx2, bitsGo_next b (n := 8 * b.length) (i := i) (by omega)]; first | (rw [if_pos (by assumption)]; simp only [List.append_assoc]; done) | (rw [if_neg (by simp [*])]; rfl)), by (dsimp only; omega), Env.le_mk ⟨rfl, rfl, ?_, rfl, trivial⟩ ⟨rfl, trivial⟩ trivial⟩ <;> (first | rfl | (refine congrArg (fun x => some (_, D.ints .i64 x)) ?_; rfl) | (refine congrArg (fun n => PV.one (.d (.int .i64 n))) ?_; first | omega | (simp; done)))
 refine T.exit ?_
 refine T.seq ?_
 refine T.region ?_
 refine TL.mv (.one (.row 5 [])) ?_
 refine TL.as (.one (.row 5 [])) ?_
 refine TL.nil ?_
 refine T.ret ?_
 refine ⟨[(false, [.row 5 []])], (.cons rfl .nil), rfl, [5], (RetC.o ?_ .nil)⟩ <;> ((congr 1; rw [← hx2, bitsGo_end b (by omega), List.append_nil]))
theorem ok_spec_BitsOk (b : List Int) (n : Int) (h0_ : U8s b) (h1_ : b.length ≤ 1099511627776) : RO Try.prog 173 [.one (.ints .u8 b), .one (.int .i64 n)] [(false, [.rd (.bool (bitsOk b n))])] := by
 refine RO.intro Try.func173 rfl 31 rfl (le_ok rfl) fun w Z => ?_
 refine T.bnd 0 0 rfl rfl fun hb_0_0 => ?_
 simp only [D.size, List.length_map] at hb_0_0
 refine T.seq ?_
 refine T.region ?_
 refine TL.as (pB false) ?_
 refine TL.nil ?_
 refine T.seq ?_
 refine T.seq ?_
 refine T.region ?_
 refine TL.mv (pI n) ?_
 refine TL.c (Step.cl (xs := [.tmp 6]) (ps := [(pI n)]) (g := .func 172) false (.cons (.one (.d _)) .nil) (ok_spec_l02Signers n)) ?_
 refine TL.c (Step.not (b := (decide (1 ≤ n ∧ n ≤ 10))) rfl rfl (lt_ok rfl) rfl) ?_
 refine TL.mv (pB (!(decide (1 ≤ n ∧ n ≤ 10)))) ?_
 rcases Bool.eq_false_or_eq_true (!(decide (1 ≤ n ∧ n ≤ 10))) with hb1 | hb1
 ·
  refine TL.known 9 hb1 rfl ?_
  have hb1' := hb1
  replace hb1' : (decide (1 ≤ n ∧ n ≤ 10)) = false := by simpa only [Bool.not_eq_true', Bool.not_eq_false'] using hb1'
  replace hb1' := of_decide_eq_false hb1'
  refine TL.gf 9 ?_
  refine TL.gf 9 ?_
  refine TL.gf 9 ?_
  refine TL.gf 9 ?_
  refine TL.gf 9 ?_
  refine TL.pk true (pB true) ?_
  refine TL.nil ?_
  refine T.ct ?_
  refine T.seq ?_
  refine T.region ?_
  refine TL.as (pB false) ?_
  refine TL.nil ?_
  refine T.ret ?_
  refine ⟨[(false, [.d (.bool false)])], (.cons rfl .nil), rfl, [], (RetC.r ?_ .nil)⟩ <;> (first | (congr 1; symm; unfold bitsOk; rw [bits_last (by omega), decide_eq_true (p := (1 ≤ n ∧ n ≤ 10)) (by omega), decide_eq_true (p := ((b.length : Int) = bitsSize n)) (by omega)]; rfl) | (congr 1; symm; simp only [bitsOk, *, Bool.and_true, Bool.true_and, Bool.and_false, Bool.false_and, decide_true, decide_false, and_true, true_and, and_self, and_false, false_and, Bool.and_self, not_true, not_false, Bool.not_true, Bool.not_false, ge_iff_le, gt_iff_lt, if_true, if_false, Bool.false_eq_true, ite_true, ite_false, reduceIte]; done) | (congr 1; symm; unfold bitsOk; rw [decide_eq_false (p := (1 ≤ n ∧ n ≤ 10)) (by omega)]; rfl) | (congr 1; symm; unfold bitsOk; rw [decide_eq_false (p := ((b.length : Int) = bitsSize n)) (by omega)]; simp; done) | (congr 1; symm; unfold bitsOk; rw [all_no (i := i) (by omega) (by omega)]; simp; done) | (congr 1; symm; unfold bitsOk; rw [List.take_of_length_le (by omega)] at hx2; rw [hx2, decide_eq_true (p := (1 ≤ n ∧ n ≤ 10)) (by omega), decide_eq_true (p := ((b.length : Int) = bitsSize n)) (by omega)]; rfl) | (congr 1; unfold bitsOk; rw [bits_last (by omega), decide_eq_true (p := (1 ≤ n ∧ n ≤ 10)) (by omega), decide_eq_true (p := ((b.length : Int) = bitsSize n)) (by omega)]; simp only [Bool.true_and]; rfl) | (congr 1; symm; unfold bitsOk; rw [List.eq_nil_of_length_eq_zero (l := bitList b) (by omega), decide_eq_true (p := (1 ≤ n ∧ n ≤ 10)) (by omega), decide_eq_true (p := ((b.length : Int) = bitsSize n)) (by omega)]; rfl))
 refine TL.known 9 hb1 rfl ?_
 have hb1' := hb1
 replace hb1' : (decide (1 ≤ n ∧ n ≤ 10)) = true := by simpa only [Bool.not_eq_true', Bool.not_eq_false'] using hb1'
 replace hb1' := of_decide_eq_true hb1'
 refine TL.gm 9 (pS b) ?_
 refine TL.gy 9 (Step.len (e := 5) (z := 1) (d := (.ints .u8 b)) rfl rfl (lt_ok rfl) (by kernel_rfl) rfl rfl) ?_
 refine TL.gm 9 (pI n) ?_
 refine TL.gy 9 (Step.cl (xs := [.tmp 12]) (ps := [(pI n)]) (g := .func 177) false (.cons (.one (.d _)) .nil) (ok_spec_BitsSize n (by first | omega | assumption | (simp only [List.length_append] at *; omega)))) ?_
 refine TL.gy 9 (Step.bin rfl rfl (lt_ok rfl) rfl rfl (Bin.neq (k := .i64) (a := (b.length : Int)) (b := (bitsSize n)))) ?_
 refine TL.pk false (pB (decide ((b.length : Int) ≠ (bitsSize n)))) ?_
 refine TL.nil ?_
 refine T.ci rfl (fun h2 => ?_) (fun h2 => ?_)
 ·
  refine T.seq ?_
  refine T.region ?_
  refine TL.as (pB false) ?_
  refine TL.nil ?_
  refine T.ret ?_
  refine ⟨[(false, [.d (.bool false)])], (.cons rfl .nil), rfl, [], (RetC.r ?_ .nil)⟩ <;> (first | (congr 1; symm; unfold bitsOk; rw [bits_last (by omega), decide_eq_true (p := (1 ≤ n ∧ n ≤ 10)) (by omega), decide_eq_true (p := ((b.length : Int) = bitsSize n)) (by omega)]; rfl) | (congr 1; symm; simp only [bitsOk, *, Bool.and_true, Bool.true_and, Bool.and_false, Bool.false_and, decide_true, decide_false, and_true, true_and, and_self, and_false, false_and, Bool.and_self, not_true, not_false, Bool.not_true, Bool.not_false, ge_iff_le, gt_iff_lt, if_true, if_false, Bool.false_eq_true, ite_true, ite_false, reduceIte]; done) | (congr 1; symm; unfold bitsOk; rw [decide_eq_false (p := (1 ≤ n ∧ n ≤ 10)) (by omega)]; rfl) | (congr 1; symm; unfold bitsOk; rw [decide_eq_false (p := ((b.length : Int) = bitsSize n)) (by omega)]; simp; done) | (congr 1; symm; unfold bitsOk; rw [all_no (i := i) (by omega) (by omega)]; simp; done) | (congr 1; symm; unfold bitsOk; rw [List.take_of_length_le (by omega)] at hx2; rw [hx2, decide_eq_true (p := (1 ≤ n ∧ n ≤ 10)) (by omega), decide_eq_true (p := ((b.length : Int) = bitsSize n)) (by omega)]; rfl) | (congr 1; unfold bitsOk; rw [bits_last (by omega), decide_eq_true (p := (1 ≤ n ∧ n ≤ 10)) (by omega), decide_eq_true (p := ((b.length : Int) = bitsSize n)) (by omega)]; simp only [Bool.true_and]; rfl) | (congr 1; symm; unfold bitsOk; rw [List.eq_nil_of_length_eq_zero (l := bitList b) (by omega), decide_eq_true (p := (1 ≤ n ∧ n ≤ 10)) (by omega), decide_eq_true (p := ((b.length : Int) = bitsSize n)) (by omega)]; rfl))
 refine T.skip ?_
 refine T.seq ?_
 refine T.region ?_
 refine TL.mv (pS b) ?_
 have nn3 := bitList_len b
 refine TL.c (Step.cl (xs := [.tmp 16]) (ps := [(pS b)]) (g := .func 178) false (.cons (.one (.d _)) .nil) (ok_spec_BitsList b (by assumption) (by first | omega | assumption | (simp only [List.length_append] at *; omega)))) ?_
 refine TL.as (.one (.row 1017 [])) ?_
 refine TL.nil ?_
 refine T.seq ?_
 refine T.region ?_
 refine TL.mv (.one (.row 1017 [])) ?_
 refine TL.c (Step.len (e := 3) (z := 1) (d := (.ints .i64 (bitList b))) rfl rfl (lt_ok rfl) (by kernel_rfl) rfl rfl) ?_
 refine TL.b _ (Bin.eql (k := .i64) (a := ((bitList b).length : Int)) (b := 0)) ?_
 refine TL.mv (pB (decide (((bitList b).length : Int) = 0))) ?_
 rcases Bool.eq_false_or_eq_true (decide (((bitList b).length : Int) = 0)) with hb4 | hb4
 ·
  refine TL.known 21 hb4 rfl ?_
  have hb4' := hb4
  replace hb4' := of_decide_eq_true hb4'
  refine TL.gf 21 ?_
  refine TL.gf 21 ?_
  refine TL.gf 21 ?_
  refine TL.gf 21 ?_
  refine TL.gf 21 ?_
  refine TL.gf 21 ?_
  refine TL.gf 21 ?_
  refine TL.gf 21 ?_
  refine TL.pk true (pB true) ?_
  refine TL.as (pB true) ?_
  refine TL.nil ?_
  refine T.ret ?_
  refine ⟨[(false, [.d (.bool true)])], (.cons rfl .nil), rfl, [], (RetC.r ?_ .nil)⟩ <;> (first | (congr 1; symm; unfold bitsOk; rw [bits_last (by omega), decide_eq_true (p := (1 ≤ n ∧ n ≤ 10)) (by omega), decide_eq_true (p := ((b.length : Int) = bitsSize n)) (by omega)]; rfl) | (congr 1; symm; simp only [bitsOk, *, Bool.and_true, Bool.true_and, Bool.and_false, Bool.false_and, decide_true, decide_false, and_true, true_and, and_self, and_false, false_and, Bool.and_self, not_true, not_false, Bool.not_true, Bool.not_false, ge_iff_le, gt_iff_lt, if_true, if_false, Bool.false_eq_true, ite_true, ite_false, reduceIte]; done) | (congr 1; symm; unfold bitsOk; rw [decide_eq_false (p := (1 ≤ n ∧ n ≤ 10)) (by omega)]; rfl) | (congr 1; symm; unfold bitsOk; rw [decide_eq_false (p := ((b.length : Int) = bitsSize n)) (by omega)]; simp; done) | (congr 1; symm; unfold bitsOk; rw [all_no (i := i) (by omega) (by omega)]; simp; done) | (congr 1; symm; unfold bitsOk; rw [List.take_of_length_le (by omega)] at hx2; rw [hx2, decide_eq_true (p := (1 ≤ n ∧ n ≤ 10)) (by omega), decide_eq_true (p := ((b.length : Int) = bitsSize n)) (by omega)]; rfl) | (congr 1; unfold bitsOk; rw [bits_last (by omega), decide_eq_true (p := (1 ≤ n ∧ n ≤ 10)) (by omega), decide_eq_true (p := ((b.length : Int) = bitsSize n)) (by omega)]; simp only [Bool.true_and]; rfl) | (congr 1; symm; unfold bitsOk; rw [List.eq_nil_of_length_eq_zero (l := bitList b) (by omega), decide_eq_true (p := (1 ≤ n ∧ n ≤ 10)) (by omega), decide_eq_true (p := ((b.length : Int) = bitsSize n)) (by omega)]; rfl))
 refine TL.known 21 hb4 rfl ?_
 have hb4' := hb4
 replace hb4' := of_decide_eq_false hb4'
 refine TL.gm 21 (.one (.row 1017 [])) ?_
 refine TL.gm 21 (.one (.row 1017 [])) ?_
 refine TL.gy 21 (Step.len (e := 3) (z := 1) (d := (.ints .i64 (bitList b))) rfl rfl (lt_ok rfl) (by kernel_rfl) rfl rfl) ?_
 refine TL.gy 21 (Step.bin (r := .int .i64 (((bitList b).length : Int) - 1)) rfl rfl (lt_ok rfl) rfl rfl (Bin.sub (a := ((bitList b).length : Int)) (b := 1) (by first | exact wrap_ok (by first | omega | (simp; omega)) (by first | omega | (simp; omega)) | rfl))) ?_
 refine TL.gy 21 (Step.index_row (e := 3) (z := 1) (i := (((bitList b).length : Int) - 1)) rfl rfl (lt_ok rfl) (by kernel_rfl) rfl rfl rfl rfl (lt_ok rfl) rfl (by first | omega | (simp; omega)) (by simp only [D.at_, D.cell, D.size]; first | omega | (simp; omega))) ?_
 refine TL.gy 21 (Step.load_row (c := cI ((bitList b).getD (((bitList b).length : Int) - 1).toNat 0)) rfl rfl (lt_ok rfl) (by kernel_rfl) rfl rfl rfl) ?_
 refine TL.gm 21 (pI n) ?_
 refine TL.gy 21 (Step.bin rfl rfl (lt_ok rfl) rfl rfl (Bin.lss (k := .i64) (a := ((bitList b).getD (((bitList b).length : Int) - 1).toNat 0)) (b := n))) ?_
 refine TL.pk false (pB (decide (((bitList b).getD (((bitList b).length : Int) - 1).toNat 0) < n))) ?_
 refine TL.as (pB (decide (((bitList b).getD (((bitList b).length : Int) - 1).toNat 0) < n))) ?_
 refine TL.nil ?_
 refine T.ret ?_
 refine ⟨[(false, [.d (.bool (decide (((bitList b).getD (((bitList b).length : Int) - 1).toNat 0) < n)))])], (.cons rfl .nil), rfl, [], (RetC.r ?_ .nil)⟩ <;> (first | (congr 1; symm; unfold bitsOk; rw [bits_last (by omega), decide_eq_true (p := (1 ≤ n ∧ n ≤ 10)) (by omega), decide_eq_true (p := ((b.length : Int) = bitsSize n)) (by omega)]; rfl) | (congr 1; symm; simp only [bitsOk, *, Bool.and_true, Bool.true_and, Bool.and_false, Bool.false_and, decide_true, decide_false, and_true, true_and, and_self, and_false, false_and, Bool.and_self, not_true, not_false, Bool.not_true, Bool.not_false, ge_iff_le, gt_iff_lt, if_true, if_false, Bool.false_eq_true, ite_true, ite_false, reduceIte]; done) | (congr 1; symm; unfold bitsOk; rw [decide_eq_false (p := (1 ≤ n ∧ n ≤ 10)) (by omega)]; rfl) | (congr 1; symm; unfold bitsOk; rw [decide_eq_false (p := ((b.length : Int) = bitsSize n)) (by omega)]; simp; done) | (congr 1; symm; unfold bitsOk; rw [all_no (i := i) (by omega) (by omega)]; simp; done) | (congr 1; symm; unfold bitsOk; rw [List.take_of_length_le (by omega)] at hx2; rw [hx2, decide_eq_true (p := (1 ≤ n ∧ n ≤ 10)) (by omega), decide_eq_true (p := ((b.length : Int) = bitsSize n)) (by omega)]; rfl) | (congr 1; unfold bitsOk; rw [bits_last (by omega), decide_eq_true (p := (1 ≤ n ∧ n ≤ 10)) (by omega), decide_eq_true (p := ((b.length : Int) = bitsSize n)) (by omega)]; simp only [Bool.true_and]; rfl) | (congr 1; symm; unfold bitsOk; rw [List.eq_nil_of_length_eq_zero (l := bitList b) (by omega), decide_eq_true (p := (1 ≤ n ∧ n ≤ 10)) (by omega), decide_eq_true (p := ((b.length : Int) = bitsSize n)) (by omega)]; rfl))
theorem ok_spec_GetBits (b : List Int) (a : Int) (n : Int) (h0_ : U8s b) (h1_ : b.length ≤ 1048576) : RO Try.prog 133 [.one (.ints .u8 b), .one (.int .i64 a), .one (.int .i64 n)] [(false, [.own 5 (.ints .u8 (getBits b a n).1)]), (false, [.rd (.int .i64 (getBits b a n).2.1)]), (false, [.rd (.int .i64 (getBits b a n).2.2)])] := by
 refine RO.intro Try.func133 rfl 33 rfl (le_ok rfl) fun w Z => ?_
 refine T.bnd 0 0 rfl rfl fun hb_0_0 => ?_
 simp only [D.size, List.length_map] at hb_0_0
 have hu_ := getRaw_u8 h0_ a (bitsSize n)
 refine T.seq ?_
 refine T.region ?_
 refine TL.as (.one (.nil)) ?_
 refine TL.as (pI 0) ?_
 refine TL.as (pI 0) ?_
 refine TL.nil ?_
 refine T.seq ?_
 refine T.seq ?_
 refine T.region ?_
 refine TL.mv (pI n) ?_
 refine TL.c (Step.cl (xs := [.tmp 12]) (ps := [(pI n)]) (g := .func 172) false (.cons (.one (.d _)) .nil) (ok_spec_l02Signers n)) ?_
 refine TL.c (Step.not (b := (decide (1 ≤ n ∧ n ≤ 10))) rfl rfl (lt_ok rfl) rfl) ?_
 refine TL.nil ?_
 refine T.cni rfl (fun h1 => ?_) (fun h1 => ?_)
 ·
  refine T.seq ?_
  refine T.region ?_
  refine TL.as (.one (.nil)) ?_
  refine TL.as (pI 0) ?_
  refine TL.as (pI 5) ?_
  refine TL.nil ?_
  refine T.ret ?_
  refine ⟨[(false, [.nil]), (false, [cI 0]), (false, [cI 5])], (.cons rfl (.cons rfl (.cons rfl .nil))), rfl, [], (RetC.nn ?_ (RetC.r ?_ (RetC.r ?_ .nil)))⟩ <;> ((first | (congr 1; first | (rw [getBits_val (by omega)]; first | done | rfl) | (rw [getBits_er (by omega) (by omega)]; first | done | rfl) | (rw [getBits_pad (by omega) (by omega) (by assumption)]; first | done | rfl) | (rw [getBits_ok (by omega) (by omega) (by assumption)]; first | done | rfl)) | (simp only [D.size]; first | (rw [getBits_val (by omega)]; first | done | rfl) | (rw [getBits_er (by omega) (by omega)]; first | done | rfl) | (rw [getBits_pad (by omega) (by omega) (by assumption)]; first | done | rfl) | (rw [getBits_ok (by omega) (by omega) (by assumption)]; first | done | rfl))))
 refine T.skip ?_
 refine T.seq ?_
 refine T.region ?_
 refine TL.mv (pS b) ?_
 refine TL.mv (pI a) ?_
 refine TL.mv (pI n) ?_
 refine TL.c (Step.cl (xs := [.tmp 18]) (ps := [(pI n)]) (g := .func 177) false (.cons (.one (.d _)) .nil) (ok_spec_BitsSize n (by first | omega | assumption | (simp only [List.length_append] at *; omega)))) ?_
 have nn2 := getRaw_bd b a (bitsSize n)
 refine TL.c (Step.cl (xs := [.tmp 16, .tmp 17, .tmp 19]) (ps := [(pS b), (pI a), (pI (bitsSize n))]) (g := .func 176) false (.cons (.one (.d _)) (.cons (.one (.d _)) (.cons (.one (.d _)) .nil))) (ok_spec_GetRaw b a (bitsSize n) (by first | omega | assumption | (simp only [List.length_append] at *; omega)))) ?_
 refine TL.mv (.tup [(false, [.row 1020 []]), (false, [cI (getRaw b a (bitsSize n)).2.1]), (false, [cI (getRaw b a (bitsSize n)).2.2])]) ?_
 refine TL.c (Step.extract (p := (.one (.row 1020 []))) rfl rfl (lt_ok rfl) rfl rfl) ?_
 refine TL.c (Step.extract (p := (pI (getRaw b a (bitsSize n)).2.1)) rfl rfl (lt_ok rfl) rfl rfl) ?_
 refine TL.c (Step.extract (p := (pI (getRaw b a (bitsSize n)).2.2)) rfl rfl (lt_ok rfl) rfl rfl) ?_
 refine TL.as (.one (.row 1020 [])) ?_
 refine TL.as (pI (getRaw b a (bitsSize n)).2.1) ?_
 refine TL.as (pI (getRaw b a (bitsSize n)).2.2) ?_
 refine TL.nil ?_
 refine T.seq ?_
 refine T.seq ?_
 refine T.region ?_
 refine TL.mv (pI (getRaw b a (bitsSize n)).2.2) ?_
 refine TL.b _ (Bin.neq (k := .i64) (a := (getRaw b a (bitsSize n)).2.2) (b := 0)) ?_
 refine TL.nil ?_
 refine T.ci rfl (fun h3 => ?_) (fun h3 => ?_)
 ·
  refine T.seq ?_
  refine T.region ?_
  refine TL.mv (pI (getRaw b a (bitsSize n)).2.2) ?_
  refine TL.as (.one (.nil)) ?_
  refine TL.as (pI 0) ?_
  refine TL.as (pI (getRaw b a (bitsSize n)).2.2) ?_
  refine TL.nil ?_
  refine T.ret ?_
  refine ⟨[(false, [.nil]), (false, [cI 0]), (false, [cI (getRaw b a (bitsSize n)).2.2])], (.cons rfl (.cons rfl (.cons rfl .nil))), rfl, [], (RetC.nn ?_ (RetC.r ?_ (RetC.r ?_ .nil)))⟩ <;> ((first | (congr 1; first | (rw [getBits_val (by omega)]; first | done | rfl) | (rw [getBits_er (by omega) (by omega)]; first | done | rfl) | (rw [getBits_pad (by omega) (by omega) (by assumption)]; first | done | rfl) | (rw [getBits_ok (by omega) (by omega) (by assumption)]; first | done | rfl)) | (simp only [D.size]; first | (rw [getBits_val (by omega)]; first | done | rfl) | (rw [getBits_er (by omega) (by omega)]; first | done | rfl) | (rw [getBits_pad (by omega) (by omega) (by assumption)]; first | done | rfl) | (rw [getBits_ok (by omega) (by omega) (by assumption)]; first | done | rfl))))
 refine T.skip ?_
 refine T.seq ?_
 refine T.seq ?_
 refine T.region ?_
 refine TL.mv (.one (.row 1020 [])) ?_
 refine TL.mv (pI n) ?_
 refine TL.c (Step.cl (xs := [.tmp 27, .tmp 28]) (ps := [(.one (.row 1020 [])), (pI n)]) (g := .func 173) false (.cons (.one (.row rfl rfl rfl rfl)) (.cons (.one (.d _)) .nil)) (ok_spec_BitsOk (getRaw b a (bitsSize n)).1 n (by assumption) (by first | omega | assumption | (simp only [List.length_append] at *; omega)))) ?_
 refine TL.c (Step.not (b := (bitsOk (getRaw b a (bitsSize n)).1 n)) rfl rfl (lt_ok rfl) rfl) ?_
 refine TL.nil ?_
 refine T.cn rfl (fun h4 => ?_) (fun h4 => ?_)
 ·
  refine T.seq ?_
  refine T.region ?_
  refine TL.as (.one (.nil)) ?_
  refine TL.as (pI 0) ?_
  refine TL.as (pI 4) ?_
  refine TL.nil ?_
  refine T.ret ?_
  refine ⟨[(false, [.nil]), (false, [cI 0]), (false, [cI 4])], (.cons rfl (.cons rfl (.cons rfl .nil))), rfl, [], (RetC.nn ?_ (RetC.r ?_ (RetC.r ?_ .nil)))⟩ <;> ((first | (congr 1; first | (rw [getBits_val (by omega)]; first | done | rfl) | (rw [getBits_er (by omega) (by omega)]; first | done | rfl) | (rw [getBits_pad (by omega) (by omega) (by assumption)]; first | done | rfl) | (rw [getBits_ok (by omega) (by omega) (by assumption)]; first | done | rfl)) | (simp only [D.size]; first | (rw [getBits_val (by omega)]; first | done | rfl) | (rw [getBits_er (by omega) (by omega)]; first | done | rfl) | (rw [getBits_pad (by omega) (by omega) (by assumption)]; first | done | rfl) | (rw [getBits_ok (by omega) (by omega) (by assumption)]; first | done | rfl))))
 refine T.skip ?_
 refine T.seq ?_
 refine T.region ?_
 refine TL.mv (.one (.row 1020 [])) ?_
 refine TL.mv (pI (getRaw b a (bitsSize n)).2.1) ?_
 refine TL.as (.one (.row 1020 [])) ?_
 refine TL.as (pI (getRaw b a (bitsSize n)).2.1) ?_
 refine TL.as (pI 0) ?_
 refine TL.nil ?_
 refine T.ret ?_
 refine ⟨[(false, [.row 1020 []]), (false, [cI (getRaw b a (bitsSize n)).2.1]), (false, [cI 0])], (.cons rfl (.cons rfl (.cons rfl .nil))), rfl, [1020], (RetC.o ?_ (RetC.r ?_ (RetC.r ?_ .nil)))⟩ <;> ((first | (congr 1; first | (rw [getBits_val (by omega)]; first | done | rfl) | (rw [getBits_er (by omega) (by omega)]; first | done | rfl) | (rw [getBits_pad (by omega) (by omega) (by assumption)]; first | done | rfl) | (rw [getBits_ok (by omega) (by omega) (by assumption)]; first | done | rfl)) | (simp only [D.size]; first | (rw [getBits_val (by omega)]; first | done | rfl) | (rw [getBits_er (by omega) (by omega)]; first | done | rfl) | (rw [getBits_pad (by omega) (by omega) (by assumption)]; first | done | rfl) | (rw [getBits_ok (by omega) (by omega) (by assumption)]; first | done | rfl))))
theorem ok_spec_BitsCount (b : List Int) (h0_ : U8s b) (h1_ : b.length ≤ 1099511627776) : RO Try.prog 134 [.one (.ints .u8 b)] [(false, [.rd (.int .i64 ((bitList b).length : Int))])] := by
 refine RO.intro Try.func134 rfl 6 rfl (le_ok rfl) fun w Z => ?_
 refine T.bnd 0 0 rfl rfl fun hb_0_0 => ?_
 simp only [D.size, List.length_map] at hb_0_0
 refine T.seq ?_
 refine T.region ?_
 refine TL.as (pI 0) ?_
 refine TL.nil ?_
 refine T.seq ?_
 refine T.region ?_
 refine TL.mv (pS b) ?_
 have nn1 := bitList_len b
 refine TL.c (Step.cl (xs := [.tmp 3]) (ps := [(pS b)]) (g := .func 178) false (.cons (.one (.d _)) .nil) (ok_spec_BitsList b (by assumption) (by first | omega | assumption | (simp only [List.length_append] at *; omega)))) ?_
 refine TL.c (Step.len (e := 3) (z := 1) (d := (.ints .i64 (bitList b))) rfl rfl (lt_ok rfl) (by kernel_rfl) rfl rfl) ?_
 refine TL.as (pI ((bitList b).length : Int)) ?_
 refine TL.nil ?_
 refine T.ret ?_
 exact ⟨[(false, [.d (.int .i64 ((bitList b).length : Int))])], (.cons rfl .nil), rfl, [], (RetC.rd' rfl .nil)⟩
theorem ok_spec_l12Get (b : List Int) (s : SRS) (l : SLimits) (h0_ : U8s b) (h1_ : b.length ≤ 1048576) : BX Try.prog 87 [.bx, .rd (.agg [(.int .i64 l.f0), (.int .i64 l.f1), (.int .i64 l.f2), (.int .i64 l.f3), (.int .i64 l.f4)])] 110 [.rd (.ints .u8 b), .rd (.int .i64 s.f0), .rd (.int .i64 s.f1)] [.rd (.ints .u8 b), .rd (.int .i64 (rdQc l b s).1.f0), .rd (.int .i64 (rdQc l b s).1.f1)] [(true, [.rd (.int .i64 (rdQc l b s).2.f0), .rd (.int .i64 (rdQc l b s).2.f1), .own 5 (.ints .u8 (rdQc l b s).2.f2), .own 5 (.ints .u8 (rdQc l b s).2.f3), .own 24 (.bss (rdQc l b s).2.f4)])] := by
 refine BX.intro Try.func87 rfl 64 rfl (le_ok rfl) (le_ok rfl) fun w Z IX pin hp => ?_
 refine T.seq ?_
 refine T.region ?_
 refine TL.c (Step.bx [cI l.f0, cI l.f1, cI l.f2, cI l.f3, cI l.f4]) ?_
 refine TL.c (Step.al [cI 0, cI 0, .nil, .nil, .nil]) ?_
 refine TL.nil ?_
 refine T.seq ?_
 refine T.region ?_
 refine TL.mv (.one (.ptr 800 0)) ?_
 have nn1 := @rdNum_bd b (by assumption) s
 refine TL.c (Step.callX2 (b := 800) (xs := [.tmp 10]) (ps := [(.one (.ptr 800 0))]) (bps := [cS b, cI s.f0, cI s.f1]) (ss := []) (g := .func 131) (ok_spec_l11Var b s (by assumption) (by first | omega | assumption | (simp only [List.length_append] at *; omega))) rfl rfl (lt_ok rfl) rfl (by kernel_rfl) rfl (.cons (.bx) .nil) rfl (.rd (.rd (.rd .nil))) rfl rfl (fun x hx => by have := hp x hx; omega) rfl) ?_
 refine TL.c (Step.build (zs := [.int .i64 0, .int .i64 0, .slice none 0 0, .slice none 0 0, .slice none 0 0]) (places := [(0, 1), (1, 1), (2, 1), (3, 1), (4, 1)]) (pss := [(0, [cI (rdNum b s).2])]) (ps' := [cI (rdNum b s).2, cI 0, .nil, .nil, .nil]) rfl rfl (lt_ok rfl) (by kernel_rfl) (.cons ⟨rfl, rfl⟩ .nil) rfl rfl rfl) ?_
 refine TL.c (Step.al [cI 0, cI 0, .nil, .nil, .nil]) ?_
 refine TL.c (Step.sb 5 [cI (rdNum b s).2, cI 0, .nil, .nil, .nil]) ?_
 refine TL.nil ?_
 refine T.seq ?_
 refine T.region ?_
 refine TL.mv (.one (.ptr 800 0)) ?_
 have nn2 := @rdNum_bd b (by assumption) (rdNum b s).1
 refine TL.c (Step.callX2 (b := 800) (xs := [.tmp 13]) (ps := [(.one (.ptr 800 0))]) (bps := [cS b, cI (rdNum b s).1.f0, cI (rdNum b s).1.f1]) (ss := []) (g := .func 131) (ok_spec_l11Var b (rdNum b s).1 (by assumption) (by first | omega | assumption | (simp only [List.length_append] at *; omega))) rfl rfl (lt_ok rfl) rfl (by kernel_rfl) rfl (.cons (.bx) .nil) rfl (.rd (.rd (.rd .nil))) rfl rfl (fun x hx => by have := hp x hx; omega) rfl) ?_
 refine TL.c (Step.fd 1 1 true) ?_
 refine TL.c (Step.sb 1 [cI (rdNum b s).2, cI (rdNum b (rdNum b s).1).2, .nil, .nil, .nil]) ?_
 refine TL.nil ?_
 refine T.seq ?_
 refine T.region ?_
 refine TL.mv (.one (.ptr 800 0)) ?_
 have nn3 := rdRaw_len b (rdNum b (rdNum b s).1).1 32
 refine TL.c (Step.callX2 (b := 800) (xs := [.tmp 16]) (ps := [(.one (.ptr 800 0))]) (bps := [cS b, cI (rdNum b (rdNum b s).1).1.f0, cI (rdNum b (rdNum b s).1).1.f1]) (ss := []) (g := .func 132) (ok_spec_l11Raw b (rdNum b (rdNum b s).1).1 (by assumption) (by first | omega | assumption | (simp only [List.length_append] at *; omega))) rfl rfl (lt_ok rfl) rfl (by kernel_rfl) rfl (.cons (.bx) .nil) rfl (.rd (.rd (.rd .nil))) rfl rfl (fun x hx => by have := hp x hx; omega) rfl) ?_
 refine TL.c (Step.fd 2 1 true) ?_
 refine TL.c (Step.sb 1 [cI (rdNum b s).2, cI (rdNum b (rdNum b s).1).2, .row 4017 [], .nil, .nil]) ?_
 refine TL.nil ?_
 refine T.seq ?_
 refine T.seq ?_
 refine T.region ?_
 refine TL.mv (.one (.ptr 800 0)) ?_
 refine TL.c (Step.nilCheck rfl rfl (lt_ok rfl) rfl) ?_
 refine TL.c (Step.fd 2 1 true) ?_
 refine TL.c (Step.lb (.d (.int .i64 (rdRaw b (rdNum b (rdNum b s).1).1 32).1.f1))) ?_
 refine TL.b _ (Bin.eql (k := .i64) (a := (rdRaw b (rdNum b (rdNum b s).1).1 32).1.f1) (b := 0)) ?_
 refine TL.nil ?_
 refine T.ci rfl (fun h4 => ?_) (fun h4 => ?_)
 ·
  refine T.seq ?_
  have nn5 := @getBits_u8 b (by assumption) (rdRaw b (rdNum b (rdNum b s).1).1 32).1.f0 l.f0
  have nn6 := getBits_len b (rdRaw b (rdNum b (rdNum b s).1).1 32).1.f0 l.f0
  refine T.drawX [{ dst := some 25, pv := (.one (.ptr 800 0)) }, { dst := some 26, pv := (.one (.ptr 800 0)) }, { dst := some 27, pv := (.one (.ptr 800 0)) }, { dst := some 28, pv := (pS b) }, { dst := some 29, pv := (.one (.ptr 800 0)) }, { dst := some 30, pv := (.one (.ptr 800 0)) }, { dst := some 31, pv := (.one (.ptr 800 1)) }, { dst := some 32, pv := (pI (rdRaw b (rdNum b (rdNum b s).1).1 32).1.f0) }, { dst := some 33, pv := (.one (.ptr 3 0)) }, { dst := some 34, pv := (pI l.f0) }, { dst := some 35, pv := (.tup [(false, [.row 1035 []]), (false, [cI (getBits b (rdRaw b (rdNum b (rdNum b s).1).1 32).1.f0 l.f0).2.1]), (false, [cI (getBits b (rdRaw b (rdNum b (rdNum b s).1).1 32).1.f0 l.f0).2.2])]), rows := [(1035, (5, (.ints .u8 (getBits b (rdRaw b (rdNum b (rdNum b s).1).1 32).1.f0 l.f0).1)))] }, { dst := some 24, pv := (.tup [(false, [.row 1035 []]), (false, [cI (getBits b (rdRaw b (rdNum b (rdNum b s).1).1 32).1.f0 l.f0).2.1]), (false, [cI (getBits b (rdRaw b (rdNum b (rdNum b s).1).1 32).1.f0 l.f0).2.2])]) }, { dst := some 36, pv := (.one (.row 1035 [])) }, { dst := some 37, pv := (pI (getBits b (rdRaw b (rdNum b (rdNum b s).1).1 32).1.f0 l.f0).2.1) }, { dst := some 38, pv := (pI (getBits b (rdRaw b (rdNum b (rdNum b s).1).1 32).1.f0 l.f0).2.2) }, { dst := some 6, pv := (.one (.row 1035 [])) }, { dst := some 7, pv := (pI (getBits b (rdRaw b (rdNum b (rdNum b s).1).1 32).1.f0 l.f0).2.1) }, { dst := some 8, pv := (pI (getBits b (rdRaw b (rdNum b (rdNum b s).1).1 32).1.f0 l.f0).2.2) }] (by kernel_rfl) (by kernel_rfl) ?_ ?_
  ·
   refine .cons (fun E hA_ => by have g0 : E.get 0 = (.one (.ptr 800 0)) := (hA_.get 0 (by kernel_rfl)).trans (by kernel_rfl); exact OpStep.plain rfl (Step.move (p := (.one (.ptr 800 0))) (t := 25) rfl rfl (by exact lt_ok rfl) (show Env.ev E (.tmp 0) = _ from g0.trans rfl))) ?_
   refine .cons (fun E hA_ => by have g25 : E.get 25 = (.one (.ptr 800 0)) := (hA_.get 25 (by kernel_rfl)).trans (by kernel_rfl); exact OpStep.plain rfl (Step.nilCheck (t := 26) rfl rfl (by exact lt_ok rfl) (show Env.ev E (.tmp 25) = _ from g25.trans rfl))) ?_
   refine .cons (fun E hA_ => by have g26 : E.get 26 = (.one (.ptr 800 0)) := (hA_.get 26 (by kernel_rfl)).trans (by kernel_rfl); exact OpStep.plain rfl (Step.fa (off := 0) (n := 1) (one := true) 0 27 (show Env.ev E (.tmp 26) = _ from g26.trans rfl))) ?_
   refine .cons (fun E hA_ => by have g27 : E.get 27 = (.one (.ptr 800 0)) := (hA_.get 27 (by kernel_rfl)).trans (by kernel_rfl); have b800 : E.box 800 = some (110, [cS b, cI (rdRaw b (rdNum b (rdNum b s).1).1 32).1.f0, cI (rdRaw b (rdNum b (rdNum b s).1).1 32).1.f1]) := (hA_.box 800 (by kernel_rfl)).trans (by kernel_rfl); exact OpStep.plain rfl (Step.load_box (c := cS b) (t := 28) rfl rfl (by exact lt_ok rfl) (by kernel_rfl) (show Env.ev E (.tmp 27) = _ from g27.trans rfl) b800 rfl)) ?_
   refine .cons (fun E hA_ => by have g0 : E.get 0 = (.one (.ptr 800 0)) := (hA_.get 0 (by kernel_rfl)).trans (by kernel_rfl); exact OpStep.plain rfl (Step.move (p := (.one (.ptr 800 0))) (t := 29) rfl rfl (by exact lt_ok rfl) (show Env.ev E (.tmp 0) = _ from g0.trans rfl))) ?_
   refine .cons (fun E hA_ => by have g29 : E.get 29 = (.one (.ptr 800 0)) := (hA_.get 29 (by kernel_rfl)).trans (by kernel_rfl); exact OpStep.plain rfl (Step.nilCheck (t := 30) rfl rfl (by exact lt_ok rfl) (show Env.ev E (.tmp 29) = _ from g29.trans rfl))) ?_
   refine .cons (fun E hA_ => by have g30 : E.get 30 = (.one (.ptr 800 0)) := (hA_.get 30 (by kernel_rfl)).trans (by kernel_rfl); exact OpStep.plain rfl (Step.fa (off := 1) (n := 1) (one := true) 0 31 (show Env.ev E (.tmp 30) = _ from g30.trans rfl))) ?_
   refine .cons (fun E hA_ => by have g31 : E.get 31 = (.one (.ptr 800 1)) := (hA_.get 31 (by kernel_rfl)).trans (by kernel_rfl); have b800 : E.box 800 = some (110, [cS b, cI (rdRaw b (rdNum b (rdNum b s).1).1 32).1.f0, cI (rdRaw b (rdNum b (rdNum b s).1).1 32).1.f1]) := (hA_.box 800 (by kernel_rfl)).trans (by kernel_rfl); exact OpStep.plain rfl (Step.load_box (c := cI (rdRaw b (rdNum b (rdNum b s).1).1 32).1.f0) (t := 32) rfl rfl (by exact lt_ok rfl) (by kernel_rfl) (show Env.ev E (.tmp 31) = _ from g31.trans rfl) b800 rfl)) ?_
   refine .cons (fun E hA_ => by have g3 : E.get 3 = (.one (.ptr 3 0)) := (hA_.get 3 (by kernel_rfl)).trans (by kernel_rfl); exact OpStep.plain rfl (Step.fa (off := 0) (n := 1) (one := true) 0 33 (show Env.ev E (.tmp 3) = _ from g3.trans rfl))) ?_
   refine .cons (fun E hA_ => by have g33 : E.get 33 = (.one (.ptr 3 0)) := (hA_.get 33 (by kernel_rfl)).trans (by kernel_rfl); have b3 : E.box 3 = some (34, [cI l.f0, cI l.f1, cI l.f2, cI l.f3, cI l.f4]) := (hA_.box 3 (by kernel_rfl)).trans (by kernel_rfl); exact OpStep.plain rfl (Step.load_box (c := cI l.f0) (t := 34) rfl rfl (by exact lt_ok rfl) (by kernel_rfl) (show Env.ev E (.tmp 33) = _ from g33.trans rfl) b3 rfl)) ?_
   refine .cons (fun E hA_ => by have g28 : E.get 28 = (pS b) := (hA_.get 28 (by kernel_rfl)).trans (by kernel_rfl); have g32 : E.get 32 = (pI (rdRaw b (rdNum b (rdNum b s).1).1 32).1.f0) := (hA_.get 32 (by kernel_rfl)).trans (by kernel_rfl); have g34 : E.get 34 = (pI l.f0) := (hA_.get 34 (by kernel_rfl)).trans (by kernel_rfl); exact OpStep.plain rfl (Step.call (f := 133) (xs := [.tmp 28, .tmp 32, .tmp 34]) (ps := [(pS b), (pI (rdRaw b (rdNum b (rdNum b s).1).1 32).1.f0), (pI l.f0)]) false (g := .func 133) (t := 35) rfl rfl (by exact lt_ok rfl) rfl (by kernel_rfl) (evs_cons (show Env.ev E (.tmp 28) = _ from g28.trans rfl) (evs_cons (show Env.ev E (.tmp 32) = _ from g32.trans rfl) (evs_cons (show Env.ev E (.tmp 34) = _ from g34.trans rfl) (rfl)))) (.cons (.one (.d _)) (.cons (.one (.d _)) (.cons (.one (.d _)) .nil))) (ok_spec_GetBits b (rdRaw b (rdNum b (rdNum b s).1).1 32).1.f0 l.f0 (by assumption) (by first | omega | assumption | (simp only [List.length_append] at *; omega))) (.inr rfl) (freshRows_of _ _ (fun x_ hx_ => hA_.fresh x_ (by exact hx_))) (fun x hx => by have := hp x hx; omega) rfl)) ?_
   refine .cons (fun E hA_ => by have g35 : E.get 35 = (.tup [(false, [.row 1035 []]), (false, [cI (getBits b (rdRaw b (rdNum b (rdNum b s).1).1 32).1.f0 l.f0).2.1]), (false, [cI (getBits b (rdRaw b (rdNum b (rdNum b s).1).1 32).1.f0 l.f0).2.2])]) := (hA_.get 35 (by kernel_rfl)).trans (by kernel_rfl); exact OpStep.plain rfl (Step.move (p := (.tup [(false, [.row 1035 []]), (false, [cI (getBits b (rdRaw b (rdNum b (rdNum b s).1).1 32).1.f0 l.f0).2.1]), (false, [cI (getBits b (rdRaw b (rdNum b (rdNum b s).1).1 32).1.f0 l.f0).2.2])])) (t := 24) rfl rfl (by exact lt_ok rfl) (show Env.ev E (.tmp 35) = _ from g35.trans rfl))) ?_
   refine .cons (fun E hA_ => by have g24 : E.get 24 = (.tup [(false, [.row 1035 []]), (false, [cI (getBits b (rdRaw b (rdNum b (rdNum b s).1).1 32).1.f0 l.f0).2.1]), (false, [cI (getBits b (rdRaw b (rdNum b (rdNum b s).1).1 32).1.f0 l.f0).2.2])]) := (hA_.get 24 (by kernel_rfl)).trans (by kernel_rfl); exact OpStep.plain rfl (Step.extract (p := (.one (.row 1035 []))) (t := 36) rfl rfl (by exact lt_ok rfl) (show Env.ev E (.tmp 24) = _ from g24.trans rfl) rfl)) ?_
   refine .cons (fun E hA_ => by have g24 : E.get 24 = (.tup [(false, [.row 1035 []]), (false, [cI (getBits b (rdRaw b (rdNum b (rdNum b s).1).1 32).1.f0 l.f0).2.1]), (false, [cI (getBits b (rdRaw b (rdNum b (rdNum b s).1).1 32).1.f0 l.f0).2.2])]) := (hA_.get 24 (by kernel_rfl)).trans (by kernel_rfl); exact OpStep.plain rfl (Step.extract (p := (pI (getBits b (rdRaw b (rdNum b (rdNum b s).1).1 32).1.f0 l.f0).2.1)) (t := 37) rfl rfl (by exact lt_ok rfl) (show Env.ev E (.tmp 24) = _ from g24.trans rfl) rfl)) ?_
   refine .cons (fun E hA_ => by have g24 : E.get 24 = (.tup [(false, [.row 1035 []]), (false, [cI (getBits b (rdRaw b (rdNum b (rdNum b s).1).1 32).1.f0 l.f0).2.1]), (false, [cI (getBits b (rdRaw b (rdNum b (rdNum b s).1).1 32).1.f0 l.f0).2.2])]) := (hA_.get 24 (by kernel_rfl)).trans (by kernel_rfl); exact OpStep.plain rfl (Step.extract (p := (pI (getBits b (rdRaw b (rdNum b (rdNum b s).1).1 32).1.f0 l.f0).2.2)) (t := 38) rfl rfl (by exact lt_ok rfl) (show Env.ev E (.tmp 24) = _ from g24.trans rfl) rfl)) ?_
   refine .cons (fun E hA_ => by have g36 : E.get 36 = (.one (.row 1035 [])) := (hA_.get 36 (by kernel_rfl)).trans (by kernel_rfl); exact OpStep.plain rfl (Step.assign (p := (.one (.row 1035 []))) (t := 6) rfl rfl (by exact lt_ok rfl) (show Env.ev E (.tmp 36) = _ from g36.trans rfl))) ?_
   refine .cons (fun E hA_ => by have g37 : E.get 37 = (pI (getBits b (rdRaw b (rdNum b (rdNum b s).1).1 32).1.f0 l.f0).2.1) := (hA_.get 37 (by kernel_rfl)).trans (by kernel_rfl); exact OpStep.plain rfl (Step.assign (p := (pI (getBits b (rdRaw b (rdNum b (rdNum b s).1).1 32).1.f0 l.f0).2.1)) (t := 7) rfl rfl (by exact lt_ok rfl) (show Env.ev E (.tmp 37) = _ from g37.trans rfl))) ?_
   refine .cons (fun E hA_ => by have g38 : E.get 38 = (pI (getBits b (rdRaw b (rdNum b (rdNum b s).1).1 32).1.f0 l.f0).2.2) := (hA_.get 38 (by kernel_rfl)).trans (by kernel_rfl); exact OpStep.plain rfl (Step.assign (p := (pI (getBits b (rdRaw b (rdNum b (rdNum b s).1).1 32).1.f0 l.f0).2.2)) (t := 8) rfl rfl (by exact lt_ok rfl) (show Env.ev E (.tmp 38) = _ from g38.trans rfl))) ?_
   exact .nil _ _
  refine TL.wk [(0, (.one (.ptr 800 0))), (4, (.one (.ptr 4 0))), (5, (.one (.ptr 5 0))), (6, (.one (.row 1035 []))), (7, (pI (getBits b (rdRaw b (rdNum b (rdNum b s).1).1 32).1.f0 l.f0).2.1)), (8, (pI (getBits b (rdRaw b (rdNum b (rdNum b s).1).1 32).1.f0 l.f0).2.2))] [(4017, (5, (.ints .u8 (rdRaw b (rdNum b (rdNum b s).1).1 32).2))), (1035, (5, (.ints .u8 (getBits b (rdRaw b (rdNum b (rdNum b s).1).1 32).1.f0 l.f0).1)))] [(800, (110, [cS b, cI (rdRaw b (rdNum b (rdNum b s).1).1 32).1.f0, cI (rdRaw b (rdNum b (rdNum b s).1).1 32).1.f1])), (3, (34, [cI l.f0, cI l.f1, cI l.f2, cI l.f3, cI l.f4])), (4, (38, [cI 0, cI 0, .nil, .nil, .nil])), (5, (38, [cI (rdNum b s).2, cI (rdNum b (rdNum b s).1).2, .row 4017 [], .nil, .nil]))] ?_
  refine TL.nil ?_
  refine T.seq ?_
  refine T.region ?_
  refine TL.mv (.one (.ptr 800 0)) ?_
  refine TL.mv (pI (getBits b (rdRaw b (rdNum b (rdNum b s).1).1 32).1.f0 l.f0).2.2) ?_
  refine TL.c (Step.nilCheck rfl rfl (lt_ok rfl) rfl) ?_
  refine TL.c (Step.fd 2 1 true) ?_
  refine TL.c (Step.sb 1 [cS b, cI (rdRaw b (rdNum b (rdNum b s).1).1 32).1.f0, cI (getBits b (rdRaw b (rdNum b (rdNum b s).1).1 32).1.f0 l.f0).2.2]) ?_
  refine TL.nil ?_
  refine T.seq ?_
  refine T.region ?_
  refine TL.mv (.one (.ptr 800 0)) ?_
  refine TL.mv (pI (getBits b (rdRaw b (rdNum b (rdNum b s).1).1 32).1.f0 l.f0).2.1) ?_
  refine TL.c (Step.nilCheck rfl rfl (lt_ok rfl) rfl) ?_
  refine TL.c (Step.fd 1 1 true) ?_
  refine TL.c (Step.sb 1 [cS b, cI (getBits b (rdRaw b (rdNum b (rdNum b s).1).1 32).1.f0 l.f0).2.1, cI (getBits b (rdRaw b (rdNum b (rdNum b s).1).1 32).1.f0 l.f0).2.2]) ?_
  refine TL.nil ?_
  refine T.region ?_
  refine TL.mv (.one (.row 1035 [])) ?_
  refine TL.c (Step.fd 3 1 true) ?_
  refine TL.c (Step.sb 1 [cI (rdNum b s).2, cI (rdNum b (rdNum b s).1).2, .row 4017 [], .row 1035 [], .nil]) ?_
  refine TL.nil ?_
  refine T.seq ?_
  refine T.seq ?_
  refine T.region ?_
  refine TL.c (Step.fd 3 1 true) ?_
  refine TL.c (Step.lb (.row 1035 [])) ?_
  have nn7 := bitList_len (getBits b (rdRaw b (rdNum b (rdNum b s).1).1 32).1.f0 l.f0).1
  refine TL.c (Step.call (f := 134) (xs := [.tmp 50]) (ps := [(.one (.row 1035 []))]) false (g := .func 134) rfl rfl (lt_ok rfl) rfl (by kernel_rfl) rfl (.cons (.one (.row rfl rfl rfl rfl)) .nil) (ok_spec_BitsCount (getBits b (rdRaw b (rdNum b (rdNum b s).1).1 32).1.f0 l.f0).1 (by first | assumption | exact fun x hx => by cases hx) (by first | omega | assumption | (simp only [List.length_append] at *; omega) | (simp; done))) (.inr rfl) rfl (fun x hx => by have := hp x hx; omega) rfl) ?_
  refine TL.as (pI ((bitList (getBits b (rdRaw b (rdNum b (rdNum b s).1).1 32).1.f0 l.f0).1).length : Int)) ?_
  refine TL.nil ?_
  refine T.block ?_
  refine T.nilrow 5 4 100504 24 38 (.bss []) [cI (rdNum b s).2, cI (rdNum b (rdNum b s).1).2, .row 4017 [], .row 1035 [], .nil] rfl rfl rfl (fun x hx => by have := hp x hx; omega) rfl rfl trivial ?_
  refine T.loop (ι := Nat) (fun xx_ => { tm := [(0, (.one (.ptr 800 0))), (4, (.one (.ptr 4 0))), (5, (.one (.ptr 5 0))), (9, (pI (((bitList (getBits b (rdRaw b (rdNum b (rdNum b s).1).1 32).1.f0 l.f0).1).length : Int) - (xx_ : Int))))], rows := [(4017, (5, (.ints .u8 (rdRaw b (rdNum b (rdNum b s).1).1 32).2))), (1035, (5, (.ints .u8 (getBits b (rdRaw b (rdNum b (rdNum b s).1).1 32).1.f0 l.f0).1))), (100504, (24, (.bss (rdTags b (⟨(getBits b (rdRaw b (rdNum b (rdNum b s).1).1 32).1.f0 l.f0).2.1, (getBits b (rdRaw b (rdNum b (rdNum b s).1).1 32).1.f0 l.f0).2.2⟩ : SRS) xx_).2)))], boxes := [(800, (110, [cS b, cI (rdTags b (⟨(getBits b (rdRaw b (rdNum b (rdNum b s).1).1 32).1.f0 l.f0).2.1, (getBits b (rdRaw b (rdNum b (rdNum b s).1).1 32).1.f0 l.f0).2.2⟩ : SRS) xx_).1.f0, cI (rdTags b (⟨(getBits b (rdRaw b (rdNum b (rdNum b s).1).1 32).1.f0 l.f0).2.1, (getBits b (rdRaw b (rdNum b (rdNum b s).1).1 32).1.f0 l.f0).2.2⟩ : SRS) xx_).1.f1])), (3, (34, [cI l.f0, cI l.f1, cI l.f2, cI l.f3, cI l.f4])), (4, (38, [cI 0, cI 0, .nil, .nil, .nil])), (5, (38, [cI (rdNum b s).2, cI (rdNum b (rdNum b s).1).2, .row 4017 [], .row 1035 [], .row 100504 []]))] }) (fun xx_ => xx_ ≤ (bitList (getBits b (rdRaw b (rdNum b (rdNum b s).1).1 32).1.f0 l.f0).1).length) (fun xx_ => (bitList (getBits b (rdRaw b (rdNum b (rdNum b s).1).1 32).1.f0 l.f0).1).length - xx_) 0 ?_ ?_ ?_
  · refine Env.le_mk ⟨rfl, rfl, rfl, ?_, trivial⟩ ⟨rfl, rfl, ?_, trivial⟩ ⟨?_, rfl, rfl, rfl, trivial⟩ <;> (first | rfl | (refine congrArg (fun n => PV.one (.d (.int .i64 n))) ?_; first | omega | (simp; done)))
  · exact Nat.zero_le _
  intro i hx
  try dsimp only at hx ⊢
  have hl_ := rdTags_len b (⟨(getBits b (rdRaw b (rdNum b (rdNum b s).1).1 32).1.f0 l.f0).2.1, (getBits b (rdRaw b (rdNum b (rdNum b s).1).1 32).1.f0 l.f0).2.2⟩ : SRS) i
  have hz_ : (bitList []).length = 0 := rfl
  have hn_ := bitList_len (getBits b (rdRaw b (rdNum b (rdNum b s).1).1 32).1.f0 l.f0).1
  refine T.seq ?_
  refine T.seq ?_
  refine T.region ?_
  refine TL.mv (pI (((bitList (getBits b (rdRaw b (rdNum b (rdNum b s).1).1 32).1.f0 l.f0).1).length : Int) - (i : Int))) ?_
  refine TL.b _ (Bin.gtr (k := .i64) (a := (((bitList (getBits b (rdRaw b (rdNum b (rdNum b s).1).1 32).1.f0 l.f0).1).length : Int) - (i : Int))) (b := 0)) ?_
  refine TL.nil ?_
  refine T.ci rfl (fun h8 => ?_) (fun h8 => ?_)
  ·
   refine T.skip ?_
   refine T.seq ?_
   refine T.block ?_
   have nn9 := rdRaw_len b (rdTags b (⟨(getBits b (rdRaw b (rdNum b (rdNum b s).1).1 32).1.f0 l.f0).2.1, (getBits b (rdRaw b (rdNum b (rdNum b s).1).1 32).1.f0 l.f0).2.2⟩ : SRS) i).1 32
   refine T.drawX [{ dst := some 56, pv := (.one (.ptr 5 4)) }, { dst := some 57, pv := (.one (.row 100504 [])) }, { dst := some 58, pv := (.one (.ptr 800 0)) }, { dst := some 59, pv := (.one (.row 4059 [])), rows := [(4059, (5, (.ints .u8 (rdRaw b (rdTags b (⟨(getBits b (rdRaw b (rdNum b (rdNum b s).1).1 32).1.f0 l.f0).2.1, (getBits b (rdRaw b (rdNum b (rdNum b s).1).1 32).1.f0 l.f0).2.2⟩ : SRS) i).1 32).2)))], box := some (800, (110, [cS b, cI (rdRaw b (rdTags b (⟨(getBits b (rdRaw b (rdNum b (rdNum b s).1).1 32).1.f0 l.f0).2.1, (getBits b (rdRaw b (rdNum b (rdNum b s).1).1 32).1.f0 l.f0).2.2⟩ : SRS) i).1 32).1.f0, cI (rdRaw b (rdTags b (⟨(getBits b (rdRaw b (rdNum b (rdNum b s).1).1 32).1.f0 l.f0).2.1, (getBits b (rdRaw b (rdNum b (rdNum b s).1).1 32).1.f0 l.f0).2.2⟩ : SRS) i).1 32).1.f1])) }, { dst := some 60, pv := (.one (.row 60 [])), rows := [(60, (24, (.bss [(rdRaw b (rdTags b (⟨(getBits b (rdRaw b (rdNum b (rdNum b s).1).1 32).1.f0 l.f0).2.1, (getBits b (rdRaw b (rdNum b (rdNum b s).1).1 32).1.f0 l.f0).2.2⟩ : SRS) i).1 32).2])))], dead := [4059] }, { dst := some 61, pv := (.one (.row 500061 [])), rows := [(500061, (24, (.bss ((rdTags b (⟨(getBits b (rdRaw b (rdNum b (rdNum b s).1).1 32).1.f0 l.f0).2.1, (getBits b (rdRaw b (rdNum b (rdNum b s).1).1 32).1.f0 l.f0).2.2⟩ : SRS) i).2 ++ [(rdRaw b (rdTags b (⟨(getBits b (rdRaw b (rdNum b (rdNum b s).1).1 32).1.f0 l.f0).2.1, (getBits b (rdRaw b (rdNum b (rdNum b s).1).1 32).1.f0 l.f0).2.2⟩ : SRS) i).1 32).2]))))], dead := [100504, 60] }, { dst := some 62, pv := (.one (.ptr 5 4)) }, { box := some (5, (38, [cI (rdNum b s).2, cI (rdNum b (rdNum b s).1).2, .row 4017 [], .row 1035 [], .row 500061 []])) }] (by kernel_rfl) (by kernel_rfl) ?_ ?_
   ·
    refine .cons (fun E hA_ => by have g5 : E.get 5 = (.one (.ptr 5 0)) := (hA_.get 5 (by kernel_rfl)).trans (by kernel_rfl); exact OpStep.plain rfl (Step.fa (off := 4) (n := 1) (one := true) 0 56 (show Env.ev E (.tmp 5) = _ from g5.trans rfl))) ?_
    refine .cons (fun E hA_ => by have g56 : E.get 56 = (.one (.ptr 5 4)) := (hA_.get 56 (by kernel_rfl)).trans (by kernel_rfl); have b5 : E.box 5 = some (38, [cI (rdNum b s).2, cI (rdNum b (rdNum b s).1).2, .row 4017 [], .row 1035 [], .row 100504 []]) := (hA_.box 5 (by kernel_rfl)).trans (by kernel_rfl); exact OpStep.plain rfl (Step.load_box (c := .row 100504 []) (t := 57) rfl rfl (by exact lt_ok rfl) (by kernel_rfl) (show Env.ev E (.tmp 56) = _ from g56.trans rfl) b5 rfl)) ?_
    refine .cons (fun E hA_ => by have g0 : E.get 0 = (.one (.ptr 800 0)) := (hA_.get 0 (by kernel_rfl)).trans (by kernel_rfl); exact OpStep.plain rfl (Step.move (p := (.one (.ptr 800 0))) (t := 58) rfl rfl (by exact lt_ok rfl) (show Env.ev E (.tmp 0) = _ from g0.trans rfl))) ?_
    refine .cons (fun E hA_ => by have g58 : E.get 58 = (.one (.ptr 800 0)) := (hA_.get 58 (by kernel_rfl)).trans (by kernel_rfl); have b800 : E.box 800 = some (110, [cS b, cI (rdTags b (⟨(getBits b (rdRaw b (rdNum b (rdNum b s).1).1 32).1.f0 l.f0).2.1, (getBits b (rdRaw b (rdNum b (rdNum b s).1).1 32).1.f0 l.f0).2.2⟩ : SRS) i).1.f0, cI (rdTags b (⟨(getBits b (rdRaw b (rdNum b (rdNum b s).1).1 32).1.f0 l.f0).2.1, (getBits b (rdRaw b (rdNum b (rdNum b s).1).1 32).1.f0 l.f0).2.2⟩ : SRS) i).1.f1]) := (hA_.box 800 (by kernel_rfl)).trans (by kernel_rfl); exact OpStep.plain rfl (Step.callXX2 (b := 800) (xs := [.tmp 58]) (ps := [(.one (.ptr 800 0))]) (bps := [cS b, cI (rdTags b (⟨(getBits b (rdRaw b (rdNum b (rdNum b s).1).1 32).1.f0 l.f0).2.1, (getBits b (rdRaw b (rdNum b (rdNum b s).1).1 32).1.f0 l.f0).2.2⟩ : SRS) i).1.f0, cI (rdTags b (⟨(getBits b (rdRaw b (rdNum b (rdNum b s).1).1 32).1.f0 l.f0).2.1, (getBits b (rdRaw b (rdNum b (rdNum b s).1).1 32).1.f0 l.f0).2.2⟩ : SRS) i).1.f1]) (ss := []) (g := .func 132) (t := 59) (ok_spec_l11Raw b (rdTags b (⟨(getBits b (rdRaw b (rdNum b (rdNum b s).1).1 32).1.f0 l.f0).2.1, (getBits b (rdRaw b (rdNum b (rdNum b s).1).1 32).1.f0 l.f0).2.2⟩ : SRS) i).1 (by assumption) (by first | omega | assumption | (simp only [List.length_append] at *; omega))) rfl rfl (by exact lt_ok rfl) rfl (by kernel_rfl) (evs_cons (show Env.ev E (.tmp 58) = _ from g58.trans rfl) (rfl)) (.cons (.bx) .nil) b800 (.rd (.rd (.rd .nil))) rfl (handX_fresh (fun x_ hx_ => hA_.fresh x_ (by exact hx_))) (fun x hx => by have := hp x hx; omega) rfl (by simp [rowsOf, rid]))) ?_
    refine .cons (fun E hA_ => by have g59 : E.get 59 = (.one (.row 4059 [])) := (hA_.get 59 (by kernel_rfl)).trans (by kernel_rfl); have q4059 : E.row 4059 = some (5, (.ints .u8 (rdRaw b (rdTags b (⟨(getBits b (rdRaw b (rdNum b (rdNum b s).1).1 32).1.f0 l.f0).2.1, (getBits b (rdRaw b (rdNum b (rdNum b s).1).1 32).1.f0 l.f0).2.2⟩ : SRS) i).1 32).2)) := (hA_.row 4059 (by kernel_rfl)).trans (by kernel_rfl); exact OpStep.plain rfl (Step.litX (e := 24) (z := 1) (by_ := 24) (xs := [.tmp 59]) (pss := [[.row 4059 []]]) (es := [(.ints .u8 (rdRaw b (rdTags b (⟨(getBits b (rdRaw b (rdNum b (rdNum b s).1).1 32).1.f0 l.f0).2.1, (getBits b (rdRaw b (rdNum b (rdNum b s).1).1 32).1.f0 l.f0).2.2⟩ : SRS) i).1 32).2)]) (ss := [4059]) (d := (.bss [(rdRaw b (rdTags b (⟨(getBits b (rdRaw b (rdNum b (rdNum b s).1).1 32).1.f0 l.f0).2.1, (getBits b (rdRaw b (rdNum b (rdNum b s).1).1 32).1.f0 l.f0).2.2⟩ : SRS) i).1 32).2])) (t := 60) rfl rfl (by exact lt_ok rfl) (by kernel_rfl) rfl rfl (.cons (by exact (congrArg PV.flat (show Env.ev E (.tmp 59) = _ from g59.trans rfl)).trans rfl) .nil) (by simp) (le_ok rfl) (le_ok rfl) (by simp only [List.all_cons, List.all_nil, List.flatten_cons, List.flatten_nil, List.append_nil, List.cons_append, List.nil_append, Env.fine, q4059]; rfl) (.row q4059 (by simp) .nil) (hA_.fresh _ (List.mem_singleton.2 rfl)) (by simp) (fun x_ hx_ => by have := hp x_ hx_; omega) rfl trivial rfl rfl)) ?_
    refine .cons (fun E hA_ => by have g57 : E.get 57 = (.one (.row 100504 [])) := (hA_.get 57 (by kernel_rfl)).trans (by kernel_rfl); have g60 : E.get 60 = (.one (.row 60 [])) := (hA_.get 60 (by kernel_rfl)).trans (by kernel_rfl); have q60 : E.row 60 = some (24, (.bss [(rdRaw b (rdTags b (⟨(getBits b (rdRaw b (rdNum b (rdNum b s).1).1 32).1.f0 l.f0).2.1, (getBits b (rdRaw b (rdNum b (rdNum b s).1).1 32).1.f0 l.f0).2.2⟩ : SRS) i).1 32).2])) := (hA_.row 60 (by kernel_rfl)).trans (by kernel_rfl); have q100504 : E.row 100504 = some (24, (.bss (rdTags b (⟨(getBits b (rdRaw b (rdNum b (rdNum b s).1).1 32).1.f0 l.f0).2.1, (getBits b (rdRaw b (rdNum b (rdNum b s).1).1 32).1.f0 l.f0).2.2⟩ : SRS) i).2)) := (hA_.row 100504 (by kernel_rfl)).trans (by kernel_rfl); exact OpStep.plain rfl (Step.appendX (e := 24) (z := 1) (by_ := 24) (d := (.bss (rdTags b (⟨(getBits b (rdRaw b (rdNum b (rdNum b s).1).1 32).1.f0 l.f0).2.1, (getBits b (rdRaw b (rdNum b (rdNum b s).1).1 32).1.f0 l.f0).2.2⟩ : SRS) i).2)) (dy := (.bss [(rdRaw b (rdTags b (⟨(getBits b (rdRaw b (rdNum b (rdNum b s).1).1 32).1.f0 l.f0).2.1, (getBits b (rdRaw b (rdNum b (rdNum b s).1).1 32).1.f0 l.f0).2.2⟩ : SRS) i).1 32).2])) (d' := (.bss ((rdTags b (⟨(getBits b (rdRaw b (rdNum b (rdNum b s).1).1 32).1.f0 l.f0).2.1, (getBits b (rdRaw b (rdNum b (rdNum b s).1).1 32).1.f0 l.f0).2.2⟩ : SRS) i).2 ++ [(rdRaw b (rdTags b (⟨(getBits b (rdRaw b (rdNum b (rdNum b s).1).1 32).1.f0 l.f0).2.1, (getBits b (rdRaw b (rdNum b (rdNum b s).1).1 32).1.f0 l.f0).2.2⟩ : SRS) i).1 32).2]))) (ss := [60]) 500061 (t := 61) rfl rfl (by exact lt_ok rfl) (by kernel_rfl) (show Env.ev E (.tmp 57) = _ from g57.trans rfl) q100504 rfl (lt_ok rfl) (show Env.ev E (.tmp 60) = _ from g60.trans rfl) (.move q60) (by simp) rfl (by simp only [D.size, List.length_map]; first | omega | (simp only [List.length_append, List.length_cons, List.length_nil]; omega) | (simp; omega) | (simp only [List.length_append] at *; omega)) (by simp only [D.size, List.length_map]; first | omega | (simp only [List.length_append, List.length_cons, List.length_nil]; omega) | (simp; omega) | (simp only [List.length_append] at *; omega)) (fun x_ hx_ => by have := hp x_ hx_; omega) (hA_.fresh _ (List.mem_singleton.2 rfl)) (by simp) (fun x_ hx_ => by have := hp x_ hx_; omega))) ?_
    refine .cons (fun E hA_ => by have g5 : E.get 5 = (.one (.ptr 5 0)) := (hA_.get 5 (by kernel_rfl)).trans (by kernel_rfl); exact OpStep.plain rfl (Step.fa (off := 4) (n := 1) (one := true) 0 62 (show Env.ev E (.tmp 5) = _ from g5.trans rfl))) ?_
    refine .cons (fun E hA_ => by have g61 : E.get 61 = (.one (.row 500061 [])) := (hA_.get 61 (by kernel_rfl)).trans (by kernel_rfl); have g62 : E.get 62 = (.one (.ptr 5 4)) := (hA_.get 62 (by kernel_rfl)).trans (by kernel_rfl); have q500061 : E.row 500061 = some (24, (.bss ((rdTags b (⟨(getBits b (rdRaw b (rdNum b (rdNum b s).1).1 32).1.f0 l.f0).2.1, (getBits b (rdRaw b (rdNum b (rdNum b s).1).1 32).1.f0 l.f0).2.2⟩ : SRS) i).2 ++ [(rdRaw b (rdTags b (⟨(getBits b (rdRaw b (rdNum b (rdNum b s).1).1 32).1.f0 l.f0).2.1, (getBits b (rdRaw b (rdNum b (rdNum b s).1).1 32).1.f0 l.f0).2.2⟩ : SRS) i).1 32).2]))) := (hA_.row 500061 (by kernel_rfl)).trans (by kernel_rfl); have b5 : E.box 5 = some (38, [cI (rdNum b s).2, cI (rdNum b (rdNum b s).1).2, .row 4017 [], .row 1035 [], .row 100504 []]) := (hA_.box 5 (by kernel_rfl)).trans (by kernel_rfl); exact OpStep.plain rfl (Step.store_box (n := 1) (p := (.one (.row 500061 []))) (qs := [.row 500061 []]) (ps' := [cI (rdNum b s).2, cI (rdNum b (rdNum b s).1).2, .row 4017 [], .row 1035 [], .row 500061 []]) rfl rfl (by kernel_rfl) (show Env.ev E (.tmp 62) = _ from g62.trans rfl) b5 (show Env.ev E (.tmp 61) = _ from g61.trans rfl) rfl rfl (by simp only [List.all_cons, List.all_nil, List.flatten_cons, List.flatten_nil, List.append_nil, List.cons_append, List.nil_append, Env.fine, q500061]; rfl) (le_ok rfl) rfl)) ?_
    exact .nil _ _
   refine TL.wk [(0, (.one (.ptr 800 0))), (4, (.one (.ptr 4 0))), (5, (.one (.ptr 5 0))), (9, (pI (((bitList (getBits b (rdRaw b (rdNum b (rdNum b s).1).1 32).1.f0 l.f0).1).length : Int) - (i : Int))))] [(4017, (5, (.ints .u8 (rdRaw b (rdNum b (rdNum b s).1).1 32).2))), (1035, (5, (.ints .u8 (getBits b (rdRaw b (rdNum b (rdNum b s).1).1 32).1.f0 l.f0).1))), (500061, (24, (.bss ((rdTags b (⟨(getBits b (rdRaw b (rdNum b (rdNum b s).1).1 32).1.f0 l.f0).2.1, (getBits b (rdRaw b (rdNum b (rdNum b s).1).1 32).1.f0 l.f0).2.2⟩ : SRS) i).2 ++ [(rdRaw b (rdTags b (⟨(getBits b (rdRaw b (rdNum b (rdNum b s).1).1 32).1.f0 l.f0).2.1, (getBits b (rdRaw b (rdNum b (rdNum b s).1).1 32).1.f0 l.f0).2.2⟩ : SRS) i).1 32).2]))))] [(800, (110, [cS b, cI (rdRaw b (rdTags b (⟨(getBits b (rdRaw b (rdNum b (rdNum b s).1).1 32).1.f0 l.f0).2.1, (getBits b (rdRaw b (rdNum b (rdNum b s).1).1 32).1.f0 l.f0).2.2⟩ : SRS) i).1 32).1.f0, cI (rdRaw b (rdTags b (⟨(getBits b (rdRaw b (rdNum b (rdNum b s).1).1 32).1.f0 l.f0).2.1, (getBits b (rdRaw b (rdNum b (rdNum b s).1).1 32).1.f0 l.f0).2.2⟩ : SRS) i).1 32).1.f1])), (3, (34, [cI l.f0, cI l.f1, cI l.f2, cI l.f3, cI l.f4])), (4, (38, [cI 0, cI 0, .nil, .nil, .nil])), (5, (38, [cI (rdNum b s).2, cI (rdNum b (rdNum b s).1).2, .row 4017 [], .row 1035 [], .row 500061 []]))] ?_
   refine TL.ren 500061 100504 rfl (fun x hx => by have := hp x hx; omega) ?_
   refine TL.nil ?_
   refine T.region ?_
   refine TL.mv (pI (((bitList (getBits b (rdRaw b (rdNum b (rdNum b s).1).1 32).1.f0 l.f0).1).length : Int) - (i : Int))) ?_
   refine TL.c (Step.bin (r := .int .i64 ((((bitList (getBits b (rdRaw b (rdNum b (rdNum b s).1).1 32).1.f0 l.f0).1).length : Int) - (i : Int)) - 1)) rfl rfl (lt_ok rfl) rfl rfl (Bin.sub (a := (((bitList (getBits b (rdRaw b (rdNum b (rdNum b s).1).1 32).1.f0 l.f0).1).length : Int) - (i : Int))) (b := 1) (by first | exact wrap_ok (by first | omega | (simp; omega)) (by first | omega | (simp; omega)) | rfl))) ?_
   refine TL.as (pI ((((bitList (getBits b (rdRaw b (rdNum b (rdNum b s).1).1 32).1.f0 l.f0).1).length : Int) - (i : Int)) - 1)) ?_
   refine TL.nil ?_
   refine ⟨i + 1, by omega, by first | omega | (dsimp only; omega), Env.le_mk ⟨rfl, rfl, rfl, ?_, trivial⟩ ⟨rfl, rfl, ?_, trivial⟩ ⟨?_, rfl, rfl, rfl, trivial⟩⟩ <;> (first | rfl | (refine congrArg (fun n => PV.one (.d (.int .i64 n))) ?_; first | omega | (simp; done)))
  refine T.exit ?_
  refine T.seq ?_
  refine T.region ?_
  refine TL.c (Step.lba 5 [cI (rdNum b s).2, cI (rdNum b (rdNum b s).1).2, .row 4017 [], .row 1035 [], .row 100504 []]) ?_
  refine TL.c (Step.sb 5 [cI (rdNum b s).2, cI (rdNum b (rdNum b s).1).2, .row 4017 [], .row 1035 [], .row 100504 []]) ?_
  refine TL.nil ?_
  refine T.ret ?_
  refine ⟨[cS b, cI (rdTags b (⟨(getBits b (rdRaw b (rdNum b (rdNum b s).1).1 32).1.f0 l.f0).2.1, (getBits b (rdRaw b (rdNum b (rdNum b s).1).1 32).1.f0 l.f0).2.2⟩ : SRS) i).1.f0, cI (rdTags b (⟨(getBits b (rdRaw b (rdNum b (rdNum b s).1).1 32).1.f0 l.f0).2.1, (getBits b (rdRaw b (rdNum b (rdNum b s).1).1 32).1.f0 l.f0).2.2⟩ : SRS) i).1.f1], [(true, [cI (rdNum b s).2, cI (rdNum b (rdNum b s).1).2, .row 4017 [], .row 1035 [], .row 100504 []])], rfl, rfl, (.cons rfl .nil), rfl, [4017, 1035, 100504], (RetC.r rfl (RetC.r ?_ (RetC.r ?_ (RetC.r ?_ (RetC.r ?_ (RetC.o ?_ (RetC.o ?_ (RetC.o ?_ .nil))))))))⟩ <;> (first | rfl | (congr 1; unfold rdQc; first | (rw [Nat.le_antisymm hx (by omega)]; first | (rw [rdQcA_yes (s := rdQc3 b s) (by show (rdRaw b (rdNum b (rdNum b s).1).1 32).1.f1 = 0; omega)]; first | done | rfl) | (rw [rdQcA_no (s := rdQc3 b s) (by assumption)]; first | done | rfl)) | (rw [rdQcA_yes (s := rdQc3 b s) (by show (rdRaw b (rdNum b (rdNum b s).1).1 32).1.f1 = 0; omega)]; first | done | rfl) | (rw [rdQcA_no (s := rdQc3 b s) (by assumption)]; first | done | rfl)) | (simp only [D.size, List.length_map]; unfold rdQc; first | (rw [Nat.le_antisymm hx (by omega)]; first | (rw [rdQcA_yes (s := rdQc3 b s) (by show (rdRaw b (rdNum b (rdNum b s).1).1 32).1.f1 = 0; omega)]; first | done | rfl) | (rw [rdQcA_no (s := rdQc3 b s) (by assumption)]; first | done | rfl)) | (rw [rdQcA_yes (s := rdQc3 b s) (by show (rdRaw b (rdNum b (rdNum b s).1).1 32).1.f1 = 0; omega)]; first | done | rfl) | (rw [rdQcA_no (s := rdQc3 b s) (by assumption)]; first | done | rfl)))
 refine T.skip ?_
 refine T.seq ?_
 refine T.seq ?_
 refine T.region ?_
 refine TL.c (Step.fd 3 1 true) ?_
 refine TL.c (Step.lb (.nil)) ?_
 have nn10 := bitList_len []
 refine TL.c (Step.call (f := 134) (xs := [.tmp 50]) (ps := [(.one (.nil))]) false (g := .func 134) rfl rfl (lt_ok rfl) rfl (by kernel_rfl) rfl (.cons (.one (.nil rfl rfl (by first | exact trivial | exact D.wf_nil _))) .nil) (ok_spec_BitsCount [] (by first | assumption | exact fun x hx => by cases hx) (by first | omega | assumption | (simp only [List.length_append] at *; omega) | (simp; done))) (.inr rfl) rfl (fun x hx => by have := hp x hx; omega) rfl) ?_
 refine TL.as (pI ((bitList []).length : Int)) ?_
 refine TL.nil ?_
 refine T.block ?_
 refine T.nilrow 5 4 100504 24 38 (.bss []) [cI (rdNum b s).2, cI (rdNum b (rdNum b s).1).2, .row 4017 [], .nil, .nil] rfl rfl rfl (fun x hx => by have := hp x hx; omega) rfl rfl trivial ?_
 refine T.loop (ι := Nat) (fun xx_ => { tm := [(0, (.one (.ptr 800 0))), (4, (.one (.ptr 4 0))), (5, (.one (.ptr 5 0))), (9, (pI (((bitList ([] : List Int)).length : Int) - (xx_ : Int))))], rows := [(4017, (5, (.ints .u8 (rdRaw b (rdNum b (rdNum b s).1).1 32).2))), (100504, (24, (.bss (rdTags b (rdRaw b (rdNum b (rdNum b s).1).1 32).1 xx_).2)))], boxes := [(800, (110, [cS b, cI (rdTags b (rdRaw b (rdNum b (rdNum b s).1).1 32).1 xx_).1.f0, cI (rdTags b (rdRaw b (rdNum b (rdNum b s).1).1 32).1 xx_).1.f1])), (3, (34, [cI l.f0, cI l.f1, cI l.f2, cI l.f3, cI l.f4])), (4, (38, [cI 0, cI 0, .nil, .nil, .nil])), (5, (38, [cI (rdNum b s).2, cI (rdNum b (rdNum b s).1).2, .row 4017 [], .nil, .row 100504 []]))] }) (fun xx_ => xx_ ≤ (bitList ([] : List Int)).length) (fun xx_ => (bitList ([] : List Int)).length - xx_) 0 ?_ ?_ ?_
 · refine Env.le_mk ⟨rfl, rfl, rfl, ?_, trivial⟩ ⟨rfl, ?_, trivial⟩ ⟨?_, rfl, rfl, rfl, trivial⟩ <;> (first | rfl | (refine congrArg (fun n => PV.one (.d (.int .i64 n))) ?_; first | omega | (simp; done)))
 · exact Nat.zero_le _
 intro i hx
 try dsimp only at hx ⊢
 have hl_ := rdTags_len b (rdRaw b (rdNum b (rdNum b s).1).1 32).1 i
 have hz_ : (bitList []).length = 0 := rfl
 have hn_ := bitList_len ([] : List Int)
 refine T.seq ?_
 refine T.seq ?_
 refine T.region ?_
 refine TL.mv (pI (((bitList ([] : List Int)).length : Int) - (i : Int))) ?_
 refine TL.b _ (Bin.gtr (k := .i64) (a := (((bitList ([] : List Int)).length : Int) - (i : Int))) (b := 0)) ?_
 refine TL.nil ?_
 refine T.ci rfl (fun h11 => ?_) (fun h11 => ?_)
 ·
  refine T.skip ?_
  refine T.seq ?_
  refine T.block ?_
  have nn12 := rdRaw_len b (rdTags b (rdRaw b (rdNum b (rdNum b s).1).1 32).1 i).1 32
  refine T.drawX [{ dst := some 56, pv := (.one (.ptr 5 4)) }, { dst := some 57, pv := (.one (.row 100504 [])) }, { dst := some 58, pv := (.one (.ptr 800 0)) }, { dst := some 59, pv := (.one (.row 4059 [])), rows := [(4059, (5, (.ints .u8 (rdRaw b (rdTags b (rdRaw b (rdNum b (rdNum b s).1).1 32).1 i).1 32).2)))], box := some (800, (110, [cS b, cI (rdRaw b (rdTags b (rdRaw b (rdNum b (rdNum b s).1).1 32).1 i).1 32).1.f0, cI (rdRaw b (rdTags b (rdRaw b (rdNum b (rdNum b s).1).1 32).1 i).1 32).1.f1])) }, { dst := some 60, pv := (.one (.row 60 [])), rows := [(60, (24, (.bss [(rdRaw b (rdTags b (rdRaw b (rdNum b (rdNum b s).1).1 32).1 i).1 32).2])))], dead := [4059] }, { dst := some 61, pv := (.one (.row 500061 [])), rows := [(500061, (24, (.bss ((rdTags b (rdRaw b (rdNum b (rdNum b s).1).1 32).1 i).2 ++ [(rdRaw b (rdTags b (rdRaw b (rdNum b (rdNum b s).1).1 32).1 i).1 32).2]))))], dead := [100504, 60] }, { dst := some 62, pv := (.one (.ptr 5 4)) }, { box := some (5, (38, [cI (rdNum b s).2, cI (rdNum b (rdNum b s).1).2, .row 4017 [], .nil, .row 500061 []])) }] (by kernel_rfl) (by kernel_rfl) ?_ ?_
  ·
   refine .cons (fun E hA_ => by have g5 : E.get 5 = (.one (.ptr 5 0)) := (hA_.get 5 (by kernel_rfl)).trans (by kernel_rfl); exact OpStep.plain rfl (Step.fa (off := 4) (n := 1) (one := true) 0 56 (show Env.ev E (.tmp 5) = _ from g5.trans rfl))) ?_
   refine .cons (fun E hA_ => by have g56 : E.get 56 = (.one (.ptr 5 4)) := (hA_.get 56 (by kernel_rfl)).trans (by kernel_rfl); have b5 : E.box 5 = some (38, [cI (rdNum b s).2, cI (rdNum b (rdNum b s).1).2, .row 4017 [], .nil, .row 100504 []]) := (hA_.box 5 (by kernel_rfl)).trans (by kernel_rfl); exact OpStep.plain rfl (Step.load_box (c := .row 100504 []) (t := 57) rfl rfl (by exact lt_ok rfl) (by kernel_rfl) (show Env.ev E (.tmp 56) = _ from g56.trans rfl) b5 rfl)) ?_
   refine .cons (fun E hA_ => by have g0 : E.get 0 = (.one (.ptr 800 0)) := (hA_.get 0 (by kernel_rfl)).trans (by kernel_rfl); exact OpStep.plain rfl (Step.move (p := (.one (.ptr 800 0))) (t := 58) rfl rfl (by exact lt_ok rfl) (show Env.ev E (.tmp 0) = _ from g0.trans rfl))) ?_
   refine .cons (fun E hA_ => by have g58 : E.get 58 = (.one (.ptr 800 0)) := (hA_.get 58 (by kernel_rfl)).trans (by kernel_rfl); have b800 : E.box 800 = some (110, [cS b, cI (rdTags b (rdRaw b (rdNum b (rdNum b s).1).1 32).1 i).1.f0, cI (rdTags b (rdRaw b (rdNum b (rdNum b s).1).1 32).1 i).1.f1]) := (hA_.box 800 (by kernel_rfl)).trans (by kernel_rfl); exact OpStep.plain rfl (Step.callXX2 (b := 800) (xs := [.tmp 58]) (ps := [(.one (.ptr 800 0))]) (bps := [cS b, cI (rdTags b (rdRaw b (rdNum b (rdNum b s).1).1 32).1 i).1.f0, cI (rdTags b (rdRaw b (rdNum b (rdNum b s).1).1 32).1 i).1.f1]) (ss := []) (g := .func 132) (t := 59) (ok_spec_l11Raw b (rdTags b (rdRaw b (rdNum b (rdNum b s).1).1 32).1 i).1 (by assumption) (by first | omega | assumption | (simp only [List.length_append] at *; omega))) rfl rfl (by exact lt_ok rfl) rfl (by kernel_rfl) (evs_cons (show Env.ev E (.tmp 58) = _ from g58.trans rfl) (rfl)) (.cons (.bx) .nil) b800 (.rd (.rd (.rd .nil))) rfl (handX_fresh (fun x_ hx_ => hA_.fresh x_ (by exact hx_))) (fun x hx => by have := hp x hx; omega) rfl (by simp [rowsOf, rid]))) ?_
   refine .cons (fun E hA_ => by have g59 : E.get 59 = (.one (.row 4059 [])) := (hA_.get 59 (by kernel_rfl)).trans (by kernel_rfl); have q4059 : E.row 4059 = some (5, (.ints .u8 (rdRaw b (rdTags b (rdRaw b (rdNum b (rdNum b s).1).1 32).1 i).1 32).2)) := (hA_.row 4059 (by kernel_rfl)).trans (by kernel_rfl); exact OpStep.plain rfl (Step.litX (e := 24) (z := 1) (by_ := 24) (xs := [.tmp 59]) (pss := [[.row 4059 []]]) (es := [(.ints .u8 (rdRaw b (rdTags b (rdRaw b (rdNum b (rdNum b s).1).1 32).1 i).1 32).2)]) (ss := [4059]) (d := (.bss [(rdRaw b (rdTags b (rdRaw b (rdNum b (rdNum b s).1).1 32).1 i).1 32).2])) (t := 60) rfl rfl (by exact lt_ok rfl) (by kernel_rfl) rfl rfl (.cons (by exact (congrArg PV.flat (show Env.ev E (.tmp 59) = _ from g59.trans rfl)).trans rfl) .nil) (by simp) (le_ok rfl) (le_ok rfl) (by simp only [List.all_cons, List.all_nil, List.flatten_cons, List.flatten_nil, List.append_nil, List.cons_append, List.nil_append, Env.fine, q4059]; rfl) (.row q4059 (by simp) .nil) (hA_.fresh _ (List.mem_singleton.2 rfl)) (by simp) (fun x_ hx_ => by have := hp x_ hx_; omega) rfl trivial rfl rfl)) ?_
   refine .cons (fun E hA_ => by have g57 : E.get 57 = (.one (.row 100504 [])) := (hA_.get 57 (by kernel_rfl)).trans (by kernel_rfl); have g60 : E.get 60 = (.one (.row 60 [])) := (hA_.get 60 (by kernel_rfl)).trans (by kernel_rfl); have q60 : E.row 60 = some (24, (.bss [(rdRaw b (rdTags b (rdRaw b (rdNum b (rdNum b s).1).1 32).1 i).1 32).2])) := (hA_.row 60 (by kernel_rfl)).trans (by kernel_rfl); have q100504 : E.row 100504 = some (24, (.bss (rdTags b (rdRaw b (rdNum b (rdNum b s).1).1 32).1 i).2)) := (hA_.row 100504 (by kernel_rfl)).trans (by kernel_rfl); exact OpStep.plain rfl (Step.appendX (e := 24) (z := 1) (by_ := 24) (d := (.bss (rdTags b (rdRaw b (rdNum b (rdNum b s).1).1 32).1 i).2)) (dy := (.bss [(rdRaw b (rdTags b (rdRaw b (rdNum b (rdNum b s).1).1 32).1 i).1 32).2])) (d' := (.bss ((rdTags b (rdRaw b (rdNum b (rdNum b s).1).1 32).1 i).2 ++ [(rdRaw b (rdTags b (rdRaw b (rdNum b (rdNum b s).1).1 32).1 i).1 32).2]))) (ss := [60]) 500061 (t := 61) rfl rfl (by exact lt_ok rfl) (by kernel_rfl) (show Env.ev E (.tmp 57) = _ from g57.trans rfl) q100504 rfl (lt_ok rfl) (show Env.ev E (.tmp 60) = _ from g60.trans rfl) (.move q60) (by simp) rfl (by simp only [D.size, List.length_map]; first | omega | (simp only [List.length_append, List.length_cons, List.length_nil]; omega) | (simp; omega) | (simp only [List.length_append] at *; omega)) (by simp only [D.size, List.length_map]; first | omega | (simp only [List.length_append, List.length_cons, List.length_nil]; omega) | (simp; omega) | (simp only [List.length_append] at *; omega)) (fun x_ hx_ => by have := hp x_ hx_; omega) (hA_.fresh _ (List.mem_singleton.2 rfl)) (by simp) (fun x_ hx_ => by have := hp x_ hx_; omega))) ?_
   refine .cons (fun E hA_ => by have g5 : E.get 5 = (.one (.ptr 5 0)) := (hA_.get 5 (by kernel_rfl)).trans (by kernel_rfl); exact OpStep.plain rfl (Step.fa (off := 4) (n := 1) (one := true) 0 62 (show Env.ev E (.tmp 5) = _ from g5.trans rfl))) ?_
   refine .cons (fun E hA_ => by have g61 : E.get 61 = (.one (.row 500061 [])) := (hA_.get 61 (by kernel_rfl)).trans (by kernel_rfl); have g62 : E.get 62 = (.one (.ptr 5 4)) := (hA_.get 62 (by kernel_rfl)).trans (by kernel_rfl); have q500061 : E.row 500061 = some (24, (.bss ((rdTags b (rdRaw b (rdNum b (rdNum b s).1).1 32).1 i).2 ++ [(rdRaw b (rdTags b (rdRaw b (rdNum b (rdNum b s).1).1 32).1 i).1 32).2]))) := (hA_.row 500061 (by kernel_rfl)).trans (by kernel_rfl); have b5 : E.box 5 = some (38, [cI (rdNum b s).2, cI (rdNum b (rdNum b s).1).2, .row 4017 [], .nil, .row 100504 []]) := (hA_.box 5 (by kernel_rfl)).trans (by kernel_rfl); exact OpStep.plain rfl (Step.store_box (n := 1) (p := (.one (.row 500061 []))) (qs := [.row 500061 []]) (ps' := [cI (rdNum b s).2, cI (rdNum b (rdNum b s).1).2, .row 4017 [], .nil, .row 500061 []]) rfl rfl (by kernel_rfl) (show Env.ev E (.tmp 62) = _ from g62.trans rfl) b5 (show Env.ev E (.tmp 61) = _ from g61.trans rfl) rfl rfl (by simp only [List.all_cons, List.all_nil, List.flatten_cons, List.flatten_nil, List.append_nil, List.cons_append, List.nil_append, Env.fine, q500061]; rfl) (le_ok rfl) rfl)) ?_
   exact .nil _ _
  refine TL.wk [(0, (.one (.ptr 800 0))), (4, (.one (.ptr 4 0))), (5, (.one (.ptr 5 0))), (9, (pI (((bitList ([] : List Int)).length : Int) - (i : Int))))] [(4017, (5, (.ints .u8 (rdRaw b (rdNum b (rdNum b s).1).1 32).2))), (500061, (24, (.bss ((rdTags b (rdRaw b (rdNum b (rdNum b s).1).1 32).1 i).2 ++ [(rdRaw b (rdTags b (rdRaw b (rdNum b (rdNum b s).1).1 32).1 i).1 32).2]))))] [(800, (110, [cS b, cI (rdRaw b (rdTags b (rdRaw b (rdNum b (rdNum b s).1).1 32).1 i).1 32).1.f0, cI (rdRaw b (rdTags b (rdRaw b (rdNum b (rdNum b s).1).1 32).1 i).1 32).1.f1])), (3, (34, [cI l.f0, cI l.f1, cI l.f2, cI l.f3, cI l.f4])), (4, (38, [cI 0, cI 0, .nil, .nil, .nil])), (5, (38, [cI (rdNum b s).2, cI (rdNum b (rdNum b s).1).2, .row 4017 [], .nil, .row 500061 []]))] ?_
  refine TL.ren 500061 100504 rfl (fun x hx => by have := hp x hx; omega) ?_
  refine TL.nil ?_
  refine T.region ?_
  refine TL.mv (pI (((bitList ([] : List Int)).length : Int) - (i : Int))) ?_
  refine TL.c (Step.bin (r := .int .i64 ((((bitList ([] : List Int)).length : Int) - (i : Int)) - 1)) rfl rfl (lt_ok rfl) rfl rfl (Bin.sub (a := (((bitList ([] : List Int)).length : Int) - (i : Int))) (b := 1) (by first | exact wrap_ok (by first | omega | (simp; omega)) (by first | omega | (simp; omega)) | rfl))) ?_
  refine TL.as (pI ((((bitList ([] : List Int)).length : Int) - (i : Int)) - 1)) ?_
  refine TL.nil ?_
  refine ⟨i + 1, by omega, by first | omega | (dsimp only; omega), Env.le_mk ⟨rfl, rfl, rfl, ?_, trivial⟩ ⟨rfl, ?_, trivial⟩ ⟨?_, rfl, rfl, rfl, trivial⟩⟩ <;> (first | rfl | (refine congrArg (fun n => PV.one (.d (.int .i64 n))) ?_; first | omega | (simp; done)))
 refine T.exit ?_
 refine T.seq ?_
 refine T.region ?_
 refine TL.c (Step.lba 5 [cI (rdNum b s).2, cI (rdNum b (rdNum b s).1).2, .row 4017 [], .nil, .row 100504 []]) ?_
 refine TL.c (Step.sb 5 [cI (rdNum b s).2, cI (rdNum b (rdNum b s).1).2, .row 4017 [], .nil, .row 100504 []]) ?_
 refine TL.nil ?_
 refine T.ret ?_
 refine ⟨[cS b, cI (rdTags b (rdRaw b (rdNum b (rdNum b s).1).1 32).1 i).1.f0, cI (rdTags b (rdRaw b (rdNum b (rdNum b s).1).1 32).1 i).1.f1], [(true, [cI (rdNum b s).2, cI (rdNum b (rdNum b s).1).2, .row 4017 [], .nil, .row 100504 []])], rfl, rfl, (.cons rfl .nil), rfl, [4017, 100504], (RetC.r rfl (RetC.r ?_ (RetC.r ?_ (RetC.r ?_ (RetC.r ?_ (RetC.o ?_ (RetC.nn ?_ (RetC.o ?_ .nil))))))))⟩ <;> (first | rfl | (congr 1; unfold rdQc; first | (rw [Nat.le_antisymm hx (by omega)]; first | (rw [rdQcA_yes (s := rdQc3 b s) (by show (rdRaw b (rdNum b (rdNum b s).1).1 32).1.f1 = 0; omega)]; first | done | rfl) | (rw [rdQcA_no (s := rdQc3 b s) (by assumption)]; first | done | rfl)) | (rw [rdQcA_yes (s := rdQc3 b s) (by show (rdRaw b (rdNum b (rdNum b s).1).1 32).1.f1 = 0; omega)]; first | done | rfl) | (rw [rdQcA_no (s := rdQc3 b s) (by assumption)]; first | done | rfl)) | (simp only [D.size, List.length_map]; unfold rdQc; first | (rw [Nat.le_antisymm hx (by omega)]; first | (rw [rdQcA_yes (s := rdQc3 b s) (by show (rdRaw b (rdNum b (rdNum b s).1).1 32).1.f1 = 0; omega)]; first | done | rfl) | (rw [rdQcA_no (s := rdQc3 b s) (by assumption)]; first | done | rfl)) | (rw [rdQcA_yes (s := rdQc3 b s) (by show (rdRaw b (rdNum b (rdNum b s).1).1 32).1.f1 = 0; omega)]; first | done | rfl) | (rw [rdQcA_no (s := rdQc3 b s) (by assumption)]; first | done | rfl)))
theorem ok_spec_l11Fail (k : Bool) (b : List Int) (s : SRS) (bad : Bool) (c : Int) (h0_ : U8s b) (h1_ : b.length ≤ 1048576) (h2_ : bad = !k) : BX Try.prog 140 [.bx, .rd (.one (.bool bad)), .rd (.one (.int .i64 c))] 110 [.rd (.ints .u8 b), .rd (.int .i64 s.f0), .rd (.int .i64 s.f1)] [.rd (.ints .u8 b), .rd (.int .i64 (rdMust s k c).f0), .rd (.int .i64 (rdMust s k c).f1)] [] := by
 refine BX.intro Try.func140 rfl 18 rfl (le_ok rfl) (le_ok rfl) fun w Z IX pin hp => ?_
 have hk_ : k = !bad := by rw [h2_, Bool.not_not]
 clear h2_
 refine T.seq ?_
 refine T.region ?_
 refine TL.mv (.one (.ptr 800 0)) ?_
 refine TL.c (Step.nilCheck rfl rfl (lt_ok rfl) rfl) ?_
 refine TL.c (Step.fd 2 1 true) ?_
 refine TL.c (Step.lb (.d (.int .i64 s.f1))) ?_
 refine TL.b _ (Bin.eql (k := .i64) (a := s.f1) (b := 0)) ?_
 refine TL.mv (pB (decide (s.f1 = 0))) ?_
 rcases Bool.eq_false_or_eq_true (decide (s.f1 = 0)) with hb1 | hb1
 ·
  refine TL.known 11 hb1 rfl ?_
  have hb1' := hb1
  replace hb1' := of_decide_eq_true hb1'
  refine TL.gm 11 (pB bad) ?_
  refine TL.pk true (pB bad) ?_
  refine TL.nil ?_
  refine T.cond (b := bad) rfl (fun h2 => ?_) (fun h2 => ?_)
  ·
   refine T.region ?_
   refine TL.mv (.one (.ptr 800 0)) ?_
   refine TL.mv (pI c) ?_
   refine TL.c (Step.nilCheck rfl rfl (lt_ok rfl) rfl) ?_
   refine TL.c (Step.fd 2 1 true) ?_
   refine TL.c (Step.sb 1 [cS b, cI s.f0, cI c]) ?_
   refine TL.nil ?_
   refine ⟨[cS b, cI s.f0, cI c], [], rfl, rfl, .nil, rfl, [], (RetC.r rfl (RetC.r ?_ (RetC.r ?_ .nil)))⟩ <;> (first | rfl | (congr 1; first | (rw [rdMust_er (by omega)]; done) | (rw [rdMust_ok (by first | assumption | (rw [hk_, show bad = true from by assumption]; rfl) | (rw [hk_, show bad = false from by assumption]; rfl))]; done) | (rw [rdMust_hit (by omega) (by first | assumption | (rw [hk_, show bad = true from by assumption]; rfl) | (rw [hk_, show bad = false from by assumption]; rfl))]; done)))
  refine T.skip ?_
  refine ⟨[cS b, cI s.f0, cI s.f1], [], rfl, rfl, .nil, rfl, [], (RetC.r rfl (RetC.r ?_ (RetC.r ?_ .nil)))⟩ <;> (first | rfl | (congr 1; first | (rw [rdMust_er (by omega)]; done) | (rw [rdMust_ok (by first | assumption | (rw [hk_, show bad = true from by assumption]; rfl) | (rw [hk_, show bad = false from by assumption]; rfl))]; done) | (rw [rdMust_hit (by omega) (by first | assumption | (rw [hk_, show bad = true from by assumption]; rfl) | (rw [hk_, show bad = false from by assumption]; rfl))]; done)))
 refine TL.known 11 hb1 rfl ?_
 have hb1' := hb1
 replace hb1' := of_decide_eq_false hb1'
 refine TL.gf 11 ?_
 refine TL.pk false (pB false) ?_
 refine TL.nil ?_
 refine T.cf ?_
 refine T.skip ?_
 refine ⟨[cS b, cI s.f0, cI s.f1], [], rfl, rfl, .nil, rfl, [], (RetC.r rfl (RetC.r ?_ (RetC.r ?_ .nil)))⟩ <;> (first | rfl | (congr 1; first | (rw [rdMust_er (by omega)]; done) | (rw [rdMust_ok (by first | assumption | (rw [hk_, show bad = true from by assumption]; rfl) | (rw [hk_, show bad = false from by assumption]; rfl))]; done) | (rw [rdMust_hit (by omega) (by first | assumption | (rw [hk_, show bad = true from by assumption]; rfl) | (rw [hk_, show bad = false from by assumption]; rfl))]; done)))
theorem ok_spec_SameBytes (a : List Int) (b : List Int) (h0_ : U8s a) (h1_ : U8s b) : RO Try.prog 105 [.one (.ints .u8 a), .one (.ints .u8 b)] [(false, [.rd (.bool (decide (a = b)))])] := by
 refine RO.intro Try.func105 rfl 10 rfl (le_ok rfl) fun w Z => ?_
 refine T.bnd 0 0 rfl rfl fun hb_0_0 => ?_
 simp only [D.size, List.length_map] at hb_0_0
 refine T.bnd 1 0 rfl rfl fun hb_1_0 => ?_
 simp only [D.size, List.length_map] at hb_1_0
 refine T.seq ?_
 refine T.region ?_
 refine TL.as (pB false) ?_
 refine TL.nil ?_
 refine T.seq ?_
 refine T.region ?_
 refine TL.mv (pS a) ?_
 refine TL.c (Step.toStr (e := 5) (xs := a) rfl rfl (lt_ok rfl) (by kernel_rfl) (by kernel_rfl) (by kernel_rfl) rfl rfl) ?_
 refine TL.mv (pS b) ?_
 refine TL.c (Step.toStr (e := 5) (xs := b) rfl rfl (lt_ok rfl) (by kernel_rfl) (by kernel_rfl) (by kernel_rfl) rfl rfl) ?_
 refine TL.c (Step.bin rfl rfl (lt_ok rfl) rfl rfl Bin.streq) ?_
 refine TL.as (pB ((strOfNums a).toList == (strOfNums b).toList)) ?_
 refine TL.nil ?_
 refine T.ret ?_
 refine ⟨[(false, [.d (.bool ((strOfNums a).toList == (strOfNums b).toList))])], (.cons rfl .nil), rfl, [], (RetC.r ?_ .nil)⟩ <;> (exact congrArg D.bool (str_eq h0_ h1_))
theorem ok_spec_l13Fits (h : SHead) (h0_ : h.ok) : RO Try.prog 141 [.agg h.cells] [(false, [.rd (.bool (headFits h))])] := by
 refine RO.intro Try.func141 rfl 26 rfl (le_ok rfl) fun w Z => ?_
 obtain ⟨o0, o1, o2, o3, o4, o5, o6, o7, o8, o9⟩ := h0_
 refine T.seq ?_
 refine T.region ?_
 refine TL.c (Step.bx [cI h.f0, cI h.f1, cI h.f2, cS h.f3, cS h.f4, cI h.f5.f0, cI h.f5.f1, cS h.f5.f2, cS h.f5.f3, .d (.bss h.f5.f4)]) ?_
 refine TL.as (pB false) ?_
 refine TL.nil ?_
 refine T.seq ?_
 refine T.region ?_
 refine TL.c (Step.fd 5 5 false) ?_
 refine TL.c (Step.fd 0 1 true) ?_
 refine TL.c (Step.lb (.d (.int .i64 h.f5.f0))) ?_
 refine TL.c (Step.fd 0 1 true) ?_
 refine TL.c (Step.lb (.d (.int .i64 h.f0))) ?_
 refine TL.b _ (Bin.lss (k := .i64) (a := h.f5.f0) (b := h.f0)) ?_
 refine TL.mv (pB (decide (h.f5.f0 < h.f0))) ?_
 rcases Bool.eq_false_or_eq_true (decide (h.f5.f0 < h.f0)) with hb1 | hb1
 ·
  refine TL.known 9 hb1 rfl ?_
  refine TL.gy 9 (Step.fd 5 5 false) ?_
  refine TL.gy 9 (Step.fd 1 1 true) ?_
  refine TL.gy 9 (Step.lb (.d (.int .i64 h.f5.f1))) ?_
  refine TL.gy 9 (Step.fd 1 1 true) ?_
  refine TL.gy 9 (Step.lb (.d (.int .i64 h.f1))) ?_
  refine TL.gy 9 (Step.bin (r := .int .i64 (IntKind.i64.wrap (h.f1 - 1))) rfl rfl (lt_ok rfl) rfl rfl (Bin.sub (a := h.f1) (b := 1) (rfl))) ?_
  refine TL.gy 9 (Step.bin rfl rfl (lt_ok rfl) rfl rfl (Bin.eql (k := .i64) (a := h.f5.f1) (b := (IntKind.i64.wrap (h.f1 - 1))))) ?_
  refine TL.pk true (pB (decide (h.f5.f1 = (IntKind.i64.wrap (h.f1 - 1))))) ?_
  refine TL.mv (pB (decide (h.f5.f1 = (IntKind.i64.wrap (h.f1 - 1))))) ?_
  rcases Bool.eq_false_or_eq_true (decide (h.f5.f1 = (IntKind.i64.wrap (h.f1 - 1)))) with hb2 | hb2
  ·
   refine TL.known 18 hb2 rfl ?_
   refine TL.gy 18 (Step.fd 5 5 false) ?_
   refine TL.gy 18 (Step.fd 2 1 true) ?_
   refine TL.gy 18 (Step.lb (.d (.ints .u8 h.f5.f2))) ?_
   refine TL.gy 18 (Step.fd 3 1 true) ?_
   refine TL.gy 18 (Step.lb (.d (.ints .u8 h.f3))) ?_
   refine TL.gy 18 (Step.cl (xs := [.tmp 21, .tmp 23]) (ps := [(pS h.f5.f2), (pS h.f3)]) (g := .func 105) false (.cons (.one (.d _)) (.cons (.one (.d _)) .nil)) (ok_spec_SameBytes h.f5.f2 h.f3 (by first | assumption | omega) (by first | assumption | omega))) ?_
   refine TL.pk true (pB (decide (h.f5.f2 = h.f3))) ?_
   refine TL.as (pB (decide (h.f5.f2 = h.f3))) ?_
   refine TL.nil ?_
   refine T.ret ?_
   refine ⟨[(false, [.d (.bool (decide (h.f5.f2 = h.f3)))])], (.cons rfl .nil), rfl, [], (RetC.r ?_ .nil)⟩ <;> (first | rfl | (congr 1; symm; simp only [headFits, *, Bool.and_true, Bool.true_and, Bool.and_false, Bool.false_and, decide_true, decide_false, and_true, true_and, and_self, and_false, false_and, Bool.and_self, not_true, not_false, Bool.not_true, Bool.not_false, ge_iff_le, gt_iff_lt, if_true, if_false, Bool.false_eq_true, ite_true, ite_false, reduceIte]; done) | (congr 1; symm; simp_all [headFits]; done) | (congr 1; symm; simp_all [headFits]; omega))
  refine TL.known 18 hb2 rfl ?_
  refine TL.gf 18 ?_
  refine TL.gf 18 ?_
  refine TL.gf 18 ?_
  refine TL.gf 18 ?_
  refine TL.gf 18 ?_
  refine TL.gf 18 ?_
  refine TL.pk false (pB false) ?_
  refine TL.as (pB false) ?_
  refine TL.nil ?_
  refine T.ret ?_
  refine ⟨[(false, [.d (.bool false)])], (.cons rfl .nil), rfl, [], (RetC.r ?_ .nil)⟩ <;> (first | rfl | (congr 1; symm; simp only [headFits, *, Bool.and_true, Bool.true_and, Bool.and_false, Bool.false_and, decide_true, decide_false, and_true, true_and, and_self, and_false, false_and, Bool.and_self, not_true, not_false, Bool.not_true, Bool.not_false, ge_iff_le, gt_iff_lt, if_true, if_false, Bool.false_eq_true, ite_true, ite_false, reduceIte]; done) | (congr 1; symm; simp_all [headFits]; done) | (congr 1; symm; simp_all [headFits]; omega))
 refine TL.known 9 hb1 rfl ?_
 refine TL.gf 9 ?_
 refine TL.gf 9 ?_
 refine TL.gf 9 ?_
 refine TL.gf 9 ?_
 refine TL.gf 9 ?_
 refine TL.gf 9 ?_
 refine TL.gf 9 ?_
 refine TL.pk false (pB false) ?_
 refine TL.mv (pB false) ?_
 refine TL.gf 18 ?_
 refine TL.gf 18 ?_
 refine TL.gf 18 ?_
 refine TL.gf 18 ?_
 refine TL.gf 18 ?_
 refine TL.gf 18 ?_
 refine TL.pk false (pB false) ?_
 refine TL.as (pB false) ?_
 refine TL.nil ?_
 refine T.ret ?_
 refine ⟨[(false, [.d (.bool false)])], (.cons rfl .nil), rfl, [], (RetC.r ?_ .nil)⟩ <;> (first | rfl | (congr 1; symm; simp only [headFits, *, Bool.and_true, Bool.true_and, Bool.and_false, Bool.false_and, decide_true, decide_false, and_true, true_and, and_self, and_false, false_and, Bool.and_self, not_true, not_false, Bool.not_true, Bool.not_false, ge_iff_le, gt_iff_lt, if_true, if_false, Bool.false_eq_true, ite_true, ite_false, reduceIte]; done) | (congr 1; symm; simp_all [headFits]; done) | (congr 1; symm; simp_all [headFits]; omega))
end Go.Proofs.Ytlcmflenbddliaa.Rf
